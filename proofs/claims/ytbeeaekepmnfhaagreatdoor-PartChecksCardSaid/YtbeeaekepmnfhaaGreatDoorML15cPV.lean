import Derived.Test.YtbeeaekepmnfhaaGreatDoorML15cPU
set_option maxRecDepth 100000
namespace Go.Proofs.YtbeeaekepmnfhaaGreatDoor
open Go Go.Eng Cr
abbrev bsl:Kd:=.sl (.int .u8)
abbrev preB (b:List Int):Prop:=Bs b/\List.length b<=281474976710656
abbrev preBB (bs:List (List Int)):Prop:=(∀ b∈bs,preB b)/\List.length bs<=281474976710656
abbrev preI (x:Int):Prop:=-9223372036854775808<=x/\x<9223372036854775808
end Go.Proofs.YtbeeaekepmnfhaaGreatDoor
namespace Go.Proofs.YtbeeaekepmnfhaaGreatDoor.part
noncomputable section
open Go Go.Eng Go.RowKit Cr
abbrev iK:Kd:=.int .i64
abbrev pt1:Kd:=.pair .fp .fp
abbrev pt2:Kd:=.pair (.pair .fp .fp) (.pair .fp .fp)
abbrev partK:Kd:=.pair iK pt2
abbrev PT:=Int × (Fp × Fp) × (Fp × Fp)
theorem ent_nan:enters Tryz.prog 91 Tryz.f91:=ek
theorem fn_nan:FnOk Tryz.prog 91 [iK] [.val .bool] noG (fun _=>True) (fun _=>(false,())):=by
 refine fn_of_vc (sp:=sps []) snl mixed ent_nan (by decide) (by decide) ?_
 rintro w M0 ⟨a,⟨⟩⟩
 revert a
 intro (a:Int) _ _
 refine vcx (X:=((a != a,())=(false,()))) (by kernel_rfl) ?_
 simp
def spNan:Nat × Eng.Spec:=(91,fnSpec [iK] [.val .bool] (fun _=>True) (fun _=>(false,())))
def cmpI (a b:Int):Int:=if a<b then -1 else if a>b then 1 else 0
theorem cmpI_lt (a b:Int):decide (cmpI a b<0)=decide (a<b):=by
 unfold cmpI
 split
 ·simp[*]
 ·split<;>simp[*]
theorem ent_compare:enters Tryz.prog 51 Tryz.f51:=ek
theorem fn_compare:FnOk Tryz.prog 51 [iK,iK] [.val iK] noG (fun _=>True) (fun (a,b,_)=>(cmpI a b,())):=by
 refine fn_of_vc (sp:=sps [spNan]) (spk (fok fn_nan) snl) mixed ent_compare (by decide) (by decide) ?_
 rintro w M0 ⟨a,b,⟨⟩⟩
 revert a b
 intro (a:Int) (b:Int) _ _
 refine vcx (X:=(True/\True/\(false=true->(false=true->((0:Int),())=(cmpI a b,()))/\(false=false->((-1:Int),())=(cmpI a b,())))/\(false=false->(false=true->((1:Int),())=(cmpI a b,()))/\(false=false->(decide (a<b)=true->((-1:Int),())=(cmpI a b,()))/\(decide (a<b)=false->(decide (a>b)=true->((1:Int),())=(cmpI a b,()))/\(decide (a>b)=false->((0:Int),())=(cmpI a b,()))))))) (by kernel_rfl) ?_
 have no:∀ {P:Prop},false=true->P:=fun h=>by cases h
 refine⟨trivial,trivial,no,fun _=>⟨no,fun _=>⟨fun h=>?_,fun h=>⟨fun h2=>?_,fun h2=>?_⟩⟩⟩⟩
 ·rw[cmpI,if_pos (of_decide_eq_true h)]
 ·rw[cmpI,if_neg (of_decide_eq_false h),if_pos (of_decide_eq_true h2)]
 ·rw[cmpI,if_neg (of_decide_eq_false h),if_neg (of_decide_eq_false h2)]
def spCompare:Nat × Eng.Spec:=(51,fnSpec [iK,iK] [.val iK] (fun _=>True) (fun (a,b,_)=>(cmpI a b,())))
theorem ent_less:enters Tryz.prog 50 Tryz.f50:=ek
theorem fn_less:FnOk Tryz.prog 50 [partK,partK] [.val iK] noG (fun _=>True) (fun (a,b,_)=>(cmpI a.1 b.1,())):=by
 refine fn_of_vc (sp:=sps [spCompare]) (spk (fok fn_compare) snl) mixed ent_less (by decide) (by decide) ?_
 rintro w M0 ⟨a,b,⟨⟩⟩
 revert a b
 intro (a:PT) (b:PT) _ _
 refine vcx (X:=(True/\(cmpI a.fst b.fst,())=(cmpI a.fst b.fst,()))) (by kernel_rfl) ?_
 exact⟨trivial,rfl⟩
def spLess:Nat × Eng.Spec:=(50,fnSpec [partK,partK] [.val iK] (fun _=>True) (fun (a,b,_)=>(cmpI a.1 b.1,())))
theorem ent_member:enters Tryz.prog 52 Tryz.f52:=ek
theorem fn_member:FnOk Tryz.prog 52 [iK] [.val .bool] noG (fun _=>True) (fun (a,_)=>(memI a,())):=by
 refine fn_of_vc (sp:=sps []) snl mixed ent_member (by decide) (by decide) ?_
 rintro w M0 ⟨a,⟨⟩⟩
 revert a
 intro (a:Int) _ _
 refine vcx (X:=((decide (a>=(1:Int))=true->(decide (a<=(9:Int)),())=(memI a,()))/\(decide (a>=(1:Int))=false->(false,())=(memI a,())))) (by kernel_rfl) ?_
 refine⟨fun h=>?_,fun h=>?_⟩
 ·have e:decide (1<=a)=true:=h
  rw[memI,e,Bool.true_and]
 ·have e:decide (1<=a)=false:=h
  rw[memI,e,Bool.false_and]
def spMember:Nat × Eng.Spec:=(52,fnSpec [iK] [.val .bool] (fun _=>True) (fun (a,_)=>(memI a,())))
end
end Go.Proofs.YtbeeaekepmnfhaaGreatDoor.part
namespace Go.Proofs.YtbeeaekepmnfhaaGreatDoor.part
noncomputable section
open Go Go.Eng Go.RowKit Cr
abbrev zP:PT:=(0,(0,0),(0,0))
abbrev keyP:PT->Int:=fun p=>p.1
abbrev fnK:Kd:=.fn 50
def fnC:SV:=.is (.one (.v (.func (.func 50) ⟨[]⟩ ⟨[]⟩)))
theorem ent_ins:enters Tryz.prog 129 Tryz.f129:=ek
def isI (n:Nat) (g:Int × List PT):St:=mkSt Tryz.f129.ntmps 25 [(0,.is (.one (.sl 0 0 0 n 25))),(1,sI .i64 0),(2,sI .i64 n),(3,fnC),(8,sI .i64 g.1)] [(0,[.row partK n g.2])]
def isI2 (n:Nat) (i:Int) (g:Int × List PT):St:=mkSt Tryz.f129.ntmps 41 [(0,.is (.one (.sl 0 0 0 n 25))),(1,sI .i64 0),(2,sI .i64 n),(3,fnC),(8,sI .i64 i),(9,sI .i64 g.1)] [(0,[.row partK n g.2])]
def isO (n:Nat) (ys:List PT):St:=mkSt Tryz.f129.ntmps 25 [] [(0,[.row partK n ys])]
abbrev preIns:List PT × HL [iK,iK,fnK]->Prop:=fun (xs,a,b,_)=>(a:Int)=0/\(b:Int)=(List.length xs:Int)/\List.length xs<=12
def srtP (xs:List PT):List PT:=srtA zP keyP xs
def isJ (xs:List PT) (g:Int × List PT):Prop:=∃ k:Nat,k+1<=xs.length/\g.1=(k:Int)+1/\g.2=srt zP keyP xs k
def isJ2 (n:Nat) (tg:List PT) (m:Nat) (g:Int × List PT):Prop:=∃ t:Nat,t<=m/\g.1=(t:Int)/\g.2.length=n/\bub zP keyP g.2 t=tg
theorem fn_ins:FnOkS Tryz.prog 129 partK [iK,iK,fnK] [] noG preIns (fun (xs,_)=>(srtP xs,())):=by
 have hsp:SpecsOk Tryz.prog (sps [spLess]):=spk (fok fn_less) snl
 refine fn_of_trS (sp:=sps [spLess]) ent_ins (by decide) (by decide) (by kernel_rfl) ?_
 rintro w M0 b0 xs ⟨a,b,q,⟨⟩⟩
 revert xs a b q
 intro (xs:List PT) (a:Int) (b:Int) (q:Unit) hx0 hx hw hp
 obtain⟨ha,hb,hl⟩:=hp
 have ha:a=0:=ha
 have hb:b=(xs.length:Int):=hb
 have hl:xs.length<=12:=hl
 have hx0:0<xs.length:=hx0
 subst ha hb
 show Tr _ _ _ _ _ _ _
 refine tr_cut hsp mixed 1 (isI xs.length (1,xs)) True ?_ (fun _=>?_)
 ·refine vcx (X:=((isI xs.length ((1:Int),xs)).triv True)) (by kernel_rfl) ?_
  exact tvi trivial
 refine tr_whileT noSw (fun σ=>(rdS iK 8 σ,rdR partK 0 σ)) (isI xs.length) (isJ xs) (fun g=>xs.length-g.1.toNat)
  (fun σ=>rdR partK 0 σ) (isO xs.length) (fun ys=>ys=srtP xs) (1,xs) (c:=nthC (codeOf Tryz.f129) 1) (by kernel_rfl) (by kernel_rfl) (le_of_proj (by kernel_rfl) (by kernel_rfl) ?_) ?_ ?_
 ·exact⟨0,hx0,rfl,rfl⟩
 ·rintro⟨i,ys⟩ hj
  revert i ys
  intro (i:Int) (ys:List PT) ⟨k,hk,ei,ey⟩
  have ei:i=(k:Int)+1:=ei
  subst ei
  have ey:ys=srt zP keyP xs k:=ey
  have hyl:ys.length=xs.length:=by rw[ey];exact (srt_perm zP keyP xs k (by omega)).length_eq
  refine tr_cut hsp mixed 2 (isI xs.length ((k:Int)+1,ys)) (k+1<xs.length) ?_ (fun hlt=>?_)
  ·refine vcx (X:=((decide ((↑k:Int)+(1:Int)<(↑xs.length:Int))=true->(isI xs.length ((↑k:Int)+(1:Int),ys)).triv (k+(1:Nat)<xs.length))/\(decide ((↑k:Int)+(1:Int)<(↑xs.length:Int))=false->(isO xs.length ys).triv (ys=srtP xs)))) (by kernel_rfl) ?_
   refine⟨fun h=>tvi (by have:=of_decide_eq_true h;omega),fun h=>tvi ?_⟩
   have e:xs.length-1=k:=by have:=of_decide_eq_false h;omega
   rw[ey,srtP,srtA,e]
  refine tr_block (c:=nthC (loopOf (nthC (codeOf Tryz.f129) 1)) 2) (by kernel_rfl) (by kernel_rfl) ?_
  refine tr_cut hsp mixed 1 (isI2 xs.length ((k:Int)+1) ((k:Int)+1,ys)) True ?_ (fun _=>?_)
  ·refine vcx (X:=((isI2 xs.length ((↑k:Int)+(1:Int)) ((↑k:Int)+(1:Int),ys)).triv True)) (by kernel_rfl) ?_
   exact tvi trivial
  refine tr_while hsp mixed noSw (fun σ=>(rdS iK 9 σ,rdR partK 0 σ)) (isI2 xs.length ((k:Int)+1)) (isJ2 xs.length (srt zP keyP xs (k+1)) (k+1)) (fun g=>g.1.toNat)
   (fun σ=>rdR partK 0 σ) (fun zs=>isI xs.length ((k:Int)+1,zs)) (fun zs=>zs=srt zP keyP xs (k+1)) ((k:Int)+1,ys) (c:=nthC (bodyOf (nthC (loopOf (nthC (codeOf Tryz.f129) 1)) 2)) 1) (by kernel_rfl) (by kernel_rfl) (le_of_proj (by kernel_rfl) (by kernel_rfl) ?_) ?_ ?_
  ·exact⟨k+1,Nat.le_refl _,rfl,hyl,by rw[ey];rfl⟩
  ·rintro⟨j,zs⟩ hj
   revert j zs
   intro (j:Int) (zs:List PT) ⟨t,ht,ej,el,ez⟩
   have ej:j=(t:Int):=ej
   subst ej
   have el:zs.length=xs.length:=el
   have ez:bub zP keyP zs t=srt zP keyP xs (k+1):=ez
   refine vcx (X:=((decide ((↑t:Int)>(0:Int))=true->((0:Int)<=(↑t:Int)/\(↑t:Int)<(↑xs.length:Int))/\(↑t:Int).toNat<xs.length/\((0:Int)<=IntKind.i64.wrap ((↑t:Int)-(1:Int))/\IntKind.i64.wrap ((↑t:Int)-(1:Int))<(↑xs.length:Int))/\(IntKind.i64.wrap ((↑t:Int)-(1:Int))).toNat<xs.length/\True/\(decide (cmpI (zs.getD (↑t:Int).toNat ((0:Int),((0:Fp),(0:Fp)),(0:Fp),(0:Fp))).fst (zs.getD (IntKind.i64.wrap ((↑t:Int)-(1:Int))).toNat ((0:Int),((0:Fp),(0:Fp)),(0:Fp),(0:Fp))).fst<(0:Int))=true->((0:Int)<=IntKind.i64.wrap ((↑t:Int)-(1:Int))/\IntKind.i64.wrap ((↑t:Int)-(1:Int))<(↑xs.length:Int))/\(IntKind.i64.wrap ((↑t:Int)-(1:Int))).toNat<xs.length/\((0:Int)<=(↑t:Int)/\(↑t:Int)<(↑xs.length:Int))/\(↑t:Int).toNat<xs.length/\((0:Int)<=(↑t:Int)/\(↑t:Int)<(↑xs.length:Int))/\(↑t:Int).toNat<xs.length/\((0:Int)<=IntKind.i64.wrap ((↑t:Int)-(1:Int))/\IntKind.i64.wrap ((↑t:Int)-(1:Int))<(↑xs.length:Int))/\(IntKind.i64.wrap ((↑t:Int)-(1:Int))).toNat<xs.length/\(isI2 xs.length ((↑k:Int)+(1:Int)) (IntKind.i64.wrap ((↑t:Int)-(1:Int)),(zs.set (↑t:Int).toNat (zs.getD (IntKind.i64.wrap ((↑t:Int)-(1:Int))).toNat ((0:Int),((0:Fp),(0:Fp)),(0:Fp),(0:Fp)))).set (IntKind.i64.wrap ((↑t:Int)-(1:Int))).toNat (zs.getD (↑t:Int).toNat ((0:Int),((0:Fp),(0:Fp)),(0:Fp),(0:Fp))))).triv (isJ2 xs.length (srt zP keyP xs (k+(1:Nat))) (k+(1:Nat)) (IntKind.i64.wrap ((↑t:Int)-(1:Int)),(zs.set (↑t:Int).toNat (zs.getD (IntKind.i64.wrap ((↑t:Int)-(1:Int))).toNat ((0:Int),((0:Fp),(0:Fp)),(0:Fp),(0:Fp)))).set (IntKind.i64.wrap ((↑t:Int)-(1:Int))).toNat (zs.getD (↑t:Int).toNat ((0:Int),((0:Fp),(0:Fp)),(0:Fp),(0:Fp))))/\(IntKind.i64.wrap ((↑t:Int)-(1:Int))).toNat<(↑t:Int).toNat))/\(decide (cmpI (zs.getD (↑t:Int).toNat ((0:Int),((0:Fp),(0:Fp)),(0:Fp),(0:Fp))).fst (zs.getD (IntKind.i64.wrap ((↑t:Int)-(1:Int))).toNat ((0:Int),((0:Fp),(0:Fp)),(0:Fp),(0:Fp))).fst<(0:Int))=false->(isI xs.length ((↑k:Int)+(1:Int),zs)).triv (zs=srt zP keyP xs (k+(1:Nat)))))/\(decide ((↑t:Int)>(0:Int))=false->(isI xs.length ((↑k:Int)+(1:Int),zs)).triv (zs=srt zP keyP xs (k+(1:Nat)))))) (by kernel_rfl) ?_
   have eb:∀ u,bub zP keyP zs (u+1)=if keyP (zs.getD (u+1) zP)<keyP (zs.getD u zP) then bub zP keyP (swp zP zs u) u else zs:=fun u=>rfl
   refine⟨fun h=>?_,fun h=>tvi ?_⟩
   ·obtain⟨u,rfl⟩:∃ u,t=u+1:=⟨t-1,by have:=of_decide_eq_true h;omega⟩
    rw[eb] at ez
    have e1:IntKind.i64.wrap (((u+1:Nat):Int)-1)=(u:Int):=by rw[wrap_i64' (by omega) (by omega)];omega
    rw[e1,Int.toNat_natCast,Int.toNat_natCast,cmpI_lt]
    refine⟨⟨by omega,by omega⟩,by omega,⟨by omega,by omega⟩,by omega,trivial,fun hc=>⟨⟨by omega,by omega⟩,by omega,⟨by omega,by omega⟩,by omega,⟨by omega,by omega⟩,by omega,⟨by omega,by omega⟩,by omega,tvi ⟨⟨u,by omega,rfl,?_,?_⟩,by omega⟩⟩,fun hc=>tvi ?_⟩
    ·show List.length _=_
     rw[List.length_set,List.length_set,el]
    ·rw[if_pos (of_decide_eq_true hc)] at ez
     exact ez
    ·rw[if_neg (of_decide_eq_false hc)] at ez
     exact ez
   ·have:t=0:=by have:=of_decide_eq_false h;omega
    subst this
    exact ez
  intro (zs:List PT) (ez:zs=srt zP keyP xs (k+1))
  refine tr_nil ?_
  refine tr_vc hsp mixed _ _ ?_
  refine vcx (X:=((isI xs.length (IntKind.i64.wrap ((↑k:Int)+(1:Int)+(1:Int)),zs)).triv (isJ xs (IntKind.i64.wrap ((↑k:Int)+(1:Int)+(1:Int)),zs)/\xs.length-(IntKind.i64.wrap ((↑k:Int)+(1:Int)+(1:Int))).toNat<xs.length-((↑k:Int)+(1:Int)).toNat))) (by kernel_rfl) ?_
  rw[wrap_i64' (by omega) (by omega)]
  exact tvi ⟨⟨k+1,by omega,by show _=((k+1:Nat):Int)+1;omega,ez⟩,by omega⟩
 intro (ys:List PT) (ey:ys=srtP xs)
 refine tr_vc hsp mixed _ _ ?_
 refine vcx (X:=(xs.length=xs.length/\(ys,())=(srtP xs,()))) (by kernel_rfl) ?_
 exact⟨rfl,by rw[ey]⟩
end
end Go.Proofs.YtbeeaekepmnfhaaGreatDoor.part
namespace Go.Proofs.YtbeeaekepmnfhaaGreatDoor.part
noncomputable section
open Go Go.Eng Go.RowKit Cr
def balPtl0:ByteArray:=(ByteArray.mk ((([(0:UInt8),(1:UInt8),(2:UInt8),(2:UInt8),(3:UInt8),(3:UInt8),(3:UInt8),(3:UInt8),(4:UInt8),(4:UInt8),(4:UInt8),(4:UInt8),(4:UInt8),(4:UInt8),(4:UInt8),(4:UInt8),(5:UInt8),(5:UInt8),(5:UInt8),(5:UInt8),(5:UInt8),(5:UInt8),(5:UInt8),(5:UInt8),(5:UInt8),(5:UInt8),(5:UInt8),(5:UInt8),(5:UInt8),(5:UInt8),(5:UInt8),(5:UInt8),(6:UInt8),(6:UInt8),(6:UInt8),(6:UInt8),(6:UInt8),(6:UInt8),(6:UInt8),(6:UInt8),(6:UInt8),(6:UInt8),(6:UInt8),(6:UInt8),(6:UInt8),(6:UInt8),(6:UInt8),(6:UInt8),(6:UInt8),(6:UInt8),(6:UInt8),(6:UInt8),(6:UInt8),(6:UInt8),(6:UInt8),(6:UInt8),(6:UInt8),(6:UInt8),(6:UInt8),(6:UInt8),(6:UInt8),(6:UInt8),(6:UInt8),(6:UInt8)].append [(7:UInt8),(7:UInt8),(7:UInt8),(7:UInt8),(7:UInt8),(7:UInt8),(7:UInt8),(7:UInt8),(7:UInt8),(7:UInt8),(7:UInt8),(7:UInt8),(7:UInt8),(7:UInt8),(7:UInt8),(7:UInt8),(7:UInt8),(7:UInt8),(7:UInt8),(7:UInt8),(7:UInt8),(7:UInt8),(7:UInt8),(7:UInt8),(7:UInt8),(7:UInt8),(7:UInt8),(7:UInt8),(7:UInt8),(7:UInt8),(7:UInt8),(7:UInt8),(7:UInt8),(7:UInt8),(7:UInt8),(7:UInt8),(7:UInt8),(7:UInt8),(7:UInt8),(7:UInt8),(7:UInt8),(7:UInt8),(7:UInt8),(7:UInt8),(7:UInt8),(7:UInt8),(7:UInt8),(7:UInt8),(7:UInt8),(7:UInt8),(7:UInt8),(7:UInt8),(7:UInt8),(7:UInt8),(7:UInt8),(7:UInt8),(7:UInt8),(7:UInt8),(7:UInt8),(7:UInt8),(7:UInt8),(7:UInt8),(7:UInt8),(7:UInt8)]).append ([(8:UInt8),(8:UInt8),(8:UInt8),(8:UInt8),(8:UInt8),(8:UInt8),(8:UInt8),(8:UInt8),(8:UInt8),(8:UInt8),(8:UInt8),(8:UInt8),(8:UInt8),(8:UInt8),(8:UInt8),(8:UInt8),(8:UInt8),(8:UInt8),(8:UInt8),(8:UInt8),(8:UInt8),(8:UInt8),(8:UInt8),(8:UInt8),(8:UInt8),(8:UInt8),(8:UInt8),(8:UInt8),(8:UInt8),(8:UInt8),(8:UInt8),(8:UInt8),(8:UInt8),(8:UInt8),(8:UInt8),(8:UInt8),(8:UInt8),(8:UInt8),(8:UInt8),(8:UInt8),(8:UInt8),(8:UInt8),(8:UInt8),(8:UInt8),(8:UInt8),(8:UInt8),(8:UInt8),(8:UInt8),(8:UInt8),(8:UInt8),(8:UInt8),(8:UInt8),(8:UInt8),(8:UInt8),(8:UInt8),(8:UInt8),(8:UInt8),(8:UInt8),(8:UInt8),(8:UInt8),(8:UInt8),(8:UInt8),(8:UInt8),(8:UInt8)].append [(8:UInt8),(8:UInt8),(8:UInt8),(8:UInt8),(8:UInt8),(8:UInt8),(8:UInt8),(8:UInt8),(8:UInt8),(8:UInt8),(8:UInt8),(8:UInt8),(8:UInt8),(8:UInt8),(8:UInt8),(8:UInt8),(8:UInt8),(8:UInt8),(8:UInt8),(8:UInt8),(8:UInt8),(8:UInt8),(8:UInt8),(8:UInt8),(8:UInt8),(8:UInt8),(8:UInt8),(8:UInt8),(8:UInt8),(8:UInt8),(8:UInt8),(8:UInt8),(8:UInt8),(8:UInt8),(8:UInt8),(8:UInt8),(8:UInt8),(8:UInt8),(8:UInt8),(8:UInt8),(8:UInt8),(8:UInt8),(8:UInt8),(8:UInt8),(8:UInt8),(8:UInt8),(8:UInt8),(8:UInt8),(8:UInt8),(8:UInt8),(8:UInt8),(8:UInt8),(8:UInt8),(8:UInt8),(8:UInt8),(8:UInt8),(8:UInt8),(8:UInt8),(8:UInt8),(8:UInt8),(8:UInt8),(8:UInt8),(8:UInt8),(8:UInt8)])).toArray ))
def lenT (n:Int):Int:=[0,1,2,2,3,3,3,3,4,4,4,4,4].getD n.toNat 0
theorem ent_len64:enters Tryz.prog 138 Tryz.f138:=ek
theorem fn_len64:FnOk Tryz.prog 138 [.int .u64] [.val iK] noG (fun (n,_)=>0<=(n:Int)/\(n:Int)<=12) (fun (n,_)=>(lenT n,())):=by
 have hsp:SpecsOk Tryz.prog (sps []):=snl
 refine fn_of_tr (sp:=sps []) ent_len64 (by decide) (by decide) (by kernel_rfl) ?_
 rintro w M0 ⟨n,⟨⟩⟩
 revert n
 intro (n:Int) _ ⟨h0,h1⟩
 have h0:0<=n:=h0
 have h1:n<=12:=h1
 show Tr _ _ _ _ _ _ _
 refine tr_cutF hsp mixed 7 (fun σ=>(rdS (.int .u64) 0 σ,rdS iK 2 σ)) (fun g=>mkSt Tryz.f138.ntmps 56 [(0,sI .u64 g.1),(2,sI .i64 g.2)] []) (fun g=>g=(n,0)) ?_ ?_
 ·refine vcx (X:=((decide (n>=(4294967296:Int))=true->(0:Int)<=(32:Int)/\(decide (n.fdiv ((2:Int)^min (32:Nat) IntKind.u64.bits)>=(65536:Int))=true->(0:Int)<=(16:Int)/\(decide ((n.fdiv ((2:Int)^min (32:Nat) IntKind.u64.bits)).fdiv ((2:Int)^min (16:Nat) IntKind.u64.bits)>=(256:Int))=true->(0:Int)<=(8:Int)/\(mkSt Tryz.f138.ntmps (56:Nat) [((0:Nat),sI IntKind.u64 (((n.fdiv ((2:Int)^min (32:Nat) IntKind.u64.bits)).fdiv ((2:Int)^min (16:Nat) IntKind.u64.bits)).fdiv ((2:Int)^min (8:Nat) IntKind.u64.bits),IntKind.i64.wrap (IntKind.i64.wrap ((32:Int)+(16:Int))+(8:Int))).fst),((2:Nat),sI IntKind.i64 (((n.fdiv ((2:Int)^min (32:Nat) IntKind.u64.bits)).fdiv ((2:Int)^min (16:Nat) IntKind.u64.bits)).fdiv ((2:Int)^min (8:Nat) IntKind.u64.bits),IntKind.i64.wrap (IntKind.i64.wrap ((32:Int)+(16:Int))+(8:Int))).snd)] []).triv ((((n.fdiv ((2:Int)^min (32:Nat) IntKind.u64.bits)).fdiv ((2:Int)^min (16:Nat) IntKind.u64.bits)).fdiv ((2:Int)^min (8:Nat) IntKind.u64.bits),IntKind.i64.wrap (IntKind.i64.wrap ((32:Int)+(16:Int))+(8:Int)))=(n,(0:Car iK))))/\(decide ((n.fdiv ((2:Int)^min (32:Nat) IntKind.u64.bits)).fdiv ((2:Int)^min (16:Nat) IntKind.u64.bits)>=(256:Int))=false->(mkSt Tryz.f138.ntmps (56:Nat) [((0:Nat),sI IntKind.u64 ((n.fdiv ((2:Int)^min (32:Nat) IntKind.u64.bits)).fdiv ((2:Int)^min (16:Nat) IntKind.u64.bits),IntKind.i64.wrap ((32:Int)+(16:Int))).fst),((2:Nat),sI IntKind.i64 ((n.fdiv ((2:Int)^min (32:Nat) IntKind.u64.bits)).fdiv ((2:Int)^min (16:Nat) IntKind.u64.bits),IntKind.i64.wrap ((32:Int)+(16:Int))).snd)] []).triv (((n.fdiv ((2:Int)^min (32:Nat) IntKind.u64.bits)).fdiv ((2:Int)^min (16:Nat) IntKind.u64.bits),IntKind.i64.wrap ((32:Int)+(16:Int)))=(n,(0:Car iK)))))/\(decide (n.fdiv ((2:Int)^min (32:Nat) IntKind.u64.bits)>=(65536:Int))=false->(decide (n.fdiv ((2:Int)^min (32:Nat) IntKind.u64.bits)>=(256:Int))=true->(0:Int)<=(8:Int)/\(mkSt Tryz.f138.ntmps (56:Nat) [((0:Nat),sI IntKind.u64 ((n.fdiv ((2:Int)^min (32:Nat) IntKind.u64.bits)).fdiv ((2:Int)^min (8:Nat) IntKind.u64.bits),IntKind.i64.wrap ((32:Int)+(8:Int))).fst),((2:Nat),sI IntKind.i64 ((n.fdiv ((2:Int)^min (32:Nat) IntKind.u64.bits)).fdiv ((2:Int)^min (8:Nat) IntKind.u64.bits),IntKind.i64.wrap ((32:Int)+(8:Int))).snd)] []).triv (((n.fdiv ((2:Int)^min (32:Nat) IntKind.u64.bits)).fdiv ((2:Int)^min (8:Nat) IntKind.u64.bits),IntKind.i64.wrap ((32:Int)+(8:Int)))=(n,(0:Car iK))))/\(decide (n.fdiv ((2:Int)^min (32:Nat) IntKind.u64.bits)>=(256:Int))=false->(mkSt Tryz.f138.ntmps (56:Nat) [((0:Nat),sI IntKind.u64 (n.fdiv ((2:Int)^min (32:Nat) IntKind.u64.bits),(32:Int)).fst),((2:Nat),sI IntKind.i64 (n.fdiv ((2:Int)^min (32:Nat) IntKind.u64.bits),(32:Int)).snd)] []).triv ((n.fdiv ((2:Int)^min (32:Nat) IntKind.u64.bits),(32:Int))=(n,(0:Car iK))))))/\(decide (n>=(4294967296:Int))=false->(decide (n>=(65536:Int))=true->(0:Int)<=(16:Int)/\(decide (n.fdiv ((2:Int)^min (16:Nat) IntKind.u64.bits)>=(256:Int))=true->(0:Int)<=(8:Int)/\(mkSt Tryz.f138.ntmps (56:Nat) [((0:Nat),sI IntKind.u64 ((n.fdiv ((2:Int)^min (16:Nat) IntKind.u64.bits)).fdiv ((2:Int)^min (8:Nat) IntKind.u64.bits),IntKind.i64.wrap (IntKind.i64.wrap ((0:Int)+(16:Int))+(8:Int))).fst),((2:Nat),sI IntKind.i64 ((n.fdiv ((2:Int)^min (16:Nat) IntKind.u64.bits)).fdiv ((2:Int)^min (8:Nat) IntKind.u64.bits),IntKind.i64.wrap (IntKind.i64.wrap ((0:Int)+(16:Int))+(8:Int))).snd)] []).triv (((n.fdiv ((2:Int)^min (16:Nat) IntKind.u64.bits)).fdiv ((2:Int)^min (8:Nat) IntKind.u64.bits),IntKind.i64.wrap (IntKind.i64.wrap ((0:Int)+(16:Int))+(8:Int)))=(n,(0:Car iK))))/\(decide (n.fdiv ((2:Int)^min (16:Nat) IntKind.u64.bits)>=(256:Int))=false->(mkSt Tryz.f138.ntmps (56:Nat) [((0:Nat),sI IntKind.u64 (n.fdiv ((2:Int)^min (16:Nat) IntKind.u64.bits),IntKind.i64.wrap ((0:Int)+(16:Int))).fst),((2:Nat),sI IntKind.i64 (n.fdiv ((2:Int)^min (16:Nat) IntKind.u64.bits),IntKind.i64.wrap ((0:Int)+(16:Int))).snd)] []).triv ((n.fdiv ((2:Int)^min (16:Nat) IntKind.u64.bits),IntKind.i64.wrap ((0:Int)+(16:Int)))=(n,(0:Car iK)))))/\(decide (n>=(65536:Int))=false->(decide (n>=(256:Int))=true->(0:Int)<=(8:Int)/\(mkSt Tryz.f138.ntmps (56:Nat) [((0:Nat),sI IntKind.u64 (n.fdiv ((2:Int)^min (8:Nat) IntKind.u64.bits),IntKind.i64.wrap ((0:Int)+(8:Int))).fst),((2:Nat),sI IntKind.i64 (n.fdiv ((2:Int)^min (8:Nat) IntKind.u64.bits),IntKind.i64.wrap ((0:Int)+(8:Int))).snd)] []).triv ((n.fdiv ((2:Int)^min (8:Nat) IntKind.u64.bits),IntKind.i64.wrap ((0:Int)+(8:Int)))=(n,(0:Car iK))))/\(decide (n>=(256:Int))=false->(mkSt Tryz.f138.ntmps (56:Nat) [((0:Nat),sI IntKind.u64 (n,(0:Int)).fst),((2:Nat),sI IntKind.i64 (n,(0:Int)).snd)] []).triv ((n,(0:Int))=(n,(0:Car iK)))))))) (by kernel_rfl) ?_
  have no:∀ {m:Int} {P:Prop},13<=m->decide (n>=m)=true->P:=fun hm h=>by have:=of_decide_eq_true h;omega
  exact⟨no (by decide),fun _=>⟨no (by decide),fun _=>⟨no (by decide),fun _=>tvi rfl⟩⟩⟩
 rintro g rfl
 refine tr_vc hsp mixed _ _ ?_
 refine vcx (X:=(((0:Int)<=IntKind.u8.wrap n/\IntKind.u8.wrap n<(↑balPtl0.size:Int))/\(IntKind.i64.wrap ((0:Int)+IntKind.i64.wrap ((sbytes balPtl0).getD (IntKind.u8.wrap n).toNat (0:Int))),())=(lenT n,()))) (by kernel_rfl) ?_
 have hc:n=0\/n=1\/n=2\/n=3\/n=4\/n=5\/n=6\/n=7\/n=8\/n=9\/n=10\/n=11\/n=12:=by omega
 rcases hc with rfl|rfl|rfl|rfl|rfl|rfl|rfl|rfl|rfl|rfl|rfl|rfl|rfl<;>exact⟨⟨by decide,by decide⟩,by decide⟩
def spLen64:Nat × Eng.Spec:=(138,fnSpec [.int .u64] [.val iK] (fun (n,_)=>0<=(n:Int)/\(n:Int)<=12) (fun (n,_)=>(lenT n,())))
theorem ent_len:enters Tryz.prog 90 Tryz.f90:=ek
theorem fn_len:FnOk Tryz.prog 90 [.int .u64] [.val iK] noG (fun (n,_)=>0<=(n:Int)/\(n:Int)<=12) (fun (n,_)=>(lenT n,())):=by
 have hsp:SpecsOk Tryz.prog (sps [spLen64]):=spk (fok fn_len64) snl
 refine fn_of_tr (sp:=sps [spLen64]) ent_len (by decide) (by decide) (by kernel_rfl) ?_
 rintro w M0 ⟨n,⟨⟩⟩
 revert n
 intro (n:Int) _ ⟨h0,h1⟩
 show Tr _ _ _ _ _ _ _
 refine tr_vc hsp mixed _ _ ?_
 refine vcx (X:=(((0:Int)<=n/\n<=(12:Int))/\(lenT n,())=(lenT n,()))) (by kernel_rfl) ?_
 exact⟨⟨h0,h1⟩,rfl⟩
def spLen:Nat × Eng.Spec:=(90,fnSpec [.int .u64] [.val iK] (fun (n,_)=>0<=(n:Int)/\(n:Int)<=12) (fun (n,_)=>(lenT n,())))
def spIns:Nat × Eng.Spec:=(129,fnSpecS partK [iK,iK,fnK] [] preIns (fun (xs,_)=>(srtP xs,())))
theorem ent_pdq:enters Tryz.prog 89 Tryz.f89:=ek
abbrev prePdq:List PT × HL [iK,iK,iK,fnK]->Prop:=fun (xs,a,b,_)=>(a:Int)=0/\(b:Int)=(List.length xs:Int)/\List.length xs<=12
def pqI (xs:List PT) (q:Int) (_:Unit):St:=mkSt Tryz.f89.ntmps 17 [(0,.is (.one (.sl 0 0 0 xs.length 25))),(1,sI .i64 0),(2,sI .i64 xs.length),(3,sI .i64 q),(4,fnC)] [(0,[.row partK xs.length xs])]
theorem fn_pdq:FnOkS Tryz.prog 89 partK [iK,iK,iK,fnK] [] noG prePdq (fun (xs,_)=>(srtP xs,())):=by
 have hsp:SpecsOk Tryz.prog (sps [spIns]):=spk (fnSpecS_ok fn_ins) snl
 refine fn_of_trS (sp:=sps [spIns]) ent_pdq (by decide) (by decide) (by kernel_rfl) ?_
 rintro w M0 b0 xs ⟨a,b,q,f,⟨⟩⟩
 revert xs a b q f
 intro (xs:List PT) (a:Int) (b:Int) (q:Int) (f:Unit) hx0 hx hw hp
 obtain⟨ha,hb,hl⟩:=hp
 have ha:a=0:=ha
 have hb:b=(xs.length:Int):=hb
 have hl:xs.length<=12:=hl
 have hx0:0<xs.length:=hx0
 subst ha hb
 show Tr _ _ _ _ _ _ _
 refine tr_cut hsp mixed 2 (pqI xs q ()) True ?_ (fun _=>?_)
 ·refine vcx (X:=((pqI xs q ()).triv True)) (by kernel_rfl) ?_
  exact tvi trivial
 refine tr_whileT noSw (fun _=>()) (pqI xs q) (fun _=>True) (fun _=>0)
  (fun _=>()) (pqI xs q) (fun _=>False) () (c:=nthC (codeOf Tryz.f89) 2) (by kernel_rfl) (by kernel_rfl) (le_of_proj (by kernel_rfl) (by kernel_rfl) ?_) ?_ ?_
 ·trivial
 ·rintro⟨⟩ _
  refine tr_block (c:=nthC (loopOf (nthC (codeOf Tryz.f89) 2)) 0) (by kernel_rfl) (by kernel_rfl) ?_
  refine tr_cut hsp mixed 3 (pqI xs q ()) False ?_ (fun h=>h.elim)
  refine vcx (X:=((decide (IntKind.i64.wrap ((↑xs.length:Int)-(0:Int))<=(12:Int))=true->xs.length=xs.length/\(0:Nat)<xs.length/\preIns (xs,(0:Int),(↑xs.length:Int),(),())/\xs.length=xs.length/\(srtP xs,())=(srtP xs,()))/\(decide (IntKind.i64.wrap ((↑xs.length:Int)-(0:Int))<=(12:Int))=false->(pqI xs q ()).triv False))) (by kernel_rfl) ?_
  refine⟨fun _=>⟨rfl,hx0,⟨rfl,rfl,hl⟩,rfl,rfl⟩,fun h=>?_⟩
  rw[wrap_i64' (by omega) (by omega)] at h
  have:=of_decide_eq_false h
  omega
 ·rintro _ h
  exact absurd h id
def spPdq:Nat × Eng.Spec:=(89,fnSpecS partK [iK,iK,iK,fnK] [] prePdq (fun (xs,_)=>(srtP xs,())))
theorem ent_sort:enters Tryz.prog 49 Tryz.f49:=ek
abbrev preSort:List PT × HL [fnK]->Prop:=fun (xs,_)=>List.length xs<=12
theorem fn_sort:FnOkS Tryz.prog 49 partK [fnK] [] noG preSort (fun (xs,_)=>(srtP xs,())):=by
 have hsp:SpecsOk Tryz.prog (sps [spLen,spPdq]):=spk (fok fn_len) (spk (fnSpecS_ok fn_pdq) snl)
 refine fn_of_trS (sp:=sps [spLen,spPdq]) ent_sort (by decide) (by decide) (by kernel_rfl) ?_
 rintro w M0 b0 xs ⟨f,⟨⟩⟩
 revert xs f
 intro (xs:List PT) (f:Unit) hx0 hx hw hl
 have hl:xs.length<=12:=hl
 have hx0:0<xs.length:=hx0
 show Tr _ _ _ _ _ _ _
 refine tr_vc hsp mixed _ _ ?_
 refine vcx (X:=(((0:Int)<=IntKind.u64.wrap (↑xs.length:Int)/\IntKind.u64.wrap (↑xs.length:Int)<=(12:Int))/\xs.length=xs.length/\(0:Nat)<xs.length/\prePdq (xs,(0:Int),(↑xs.length:Int),lenT (IntKind.u64.wrap (↑xs.length:Int)),(),())/\xs.length=xs.length/\(srtP xs,())=(srtP xs,()))) (by kernel_rfl) ?_
 have e:IntKind.u64.wrap (xs.length:Int)=(xs.length:Int):=wrap_u64 (by omega) (by omega)
 rw[e]
 exact⟨⟨by omega,by omega⟩,rfl,hx0,⟨rfl,rfl,hl⟩,rfl,rfl⟩
def spSort:Nat × Eng.Spec:=(49,fnSpecS partK [fnK] [] preSort (fun (xs,_)=>(srtP xs,())))
end
end Go.Proofs.YtbeeaekepmnfhaaGreatDoor.part
namespace Cr
open Rg Fd
structure Ev (F:Type) [Fd F] where
 V:Type
 φ:V->F
 add:V->V->V
 sub:V->V->V
 mul:V->V->V
 isz:V->Bool
 zero:V
 force:{α:Type}->V->(V->α)->α
 add_φ:∀ a b,φ (add a b)=φ a+φ b
 sub_φ:∀ a b,φ (sub a b)=φ a-φ b
 mul_φ:∀ a b,φ (mul a b)=φ a*φ b
 isz_φ:∀ a,isz a=true↔φ a=0
 zero_φ:φ zero=0
 force_eq:∀ {α:Type} (a:V) (k:V->α),force a k=k a
section
variable {F:Type} [Fd F] (E:Ev F)
abbrev Ev.J:=E.V × E.V × E.V
def Ev.φ3 (a:E.J):Jc F:=(E.φ a.1,E.φ a.2.1,E.φ a.2.2)
def Ev.dbl (a:E.J):E.J:=match E.isz a.2.2 with
 | true=>(E.zero,E.zero,E.zero)
 | false =>
  E.force (E.mul a.1 a.1) fun xx=>E.force (E.mul a.2.1 a.2.1) fun yy=>E.force (E.add (E.add xx xx) xx) fun sl =>
  E.force (E.mul a.1 yy) fun m1=>E.force (E.add m1 m1) fun m2=>E.force (E.add m2 m2) fun mid =>
  E.force (E.add yy yy) fun y2=>E.force (E.mul y2 y2) fun fall =>
  E.force (E.sub (E.sub (E.mul sl sl) mid) mid) fun x =>
  E.force (E.sub (E.sub (E.mul sl (E.sub mid x)) fall) fall) fun y =>
  E.force (E.mul a.2.1 a.2.2) fun z1=>E.force (E.add z1 z1) fun z=>(x,y,z)
theorem Ev.dbl_φ (a:E.J):E.φ3 (E.dbl a)=jdbl (E.φ3 a):=by
 unfold Ev.dbl jdbl
 cases h:E.isz a.2.2 with
 | true =>
  have:(E.φ3 a).2.2=0:=(E.isz_φ _).1 h
  rw[if_pos this]
  show (E.φ E.zero,E.φ E.zero,E.φ E.zero)=_
  rw[E.zero_φ]
 | false =>
  have:(E.φ3 a).2.2≠0:=fun e=>by have:=(E.isz_φ a.2.2).2 e;rw[h] at this;cases this
  rw[if_neg this]
  simp only[E.force_eq]
  simp only[Ev.φ3,jdbN,jdX,E.add_φ,E.sub_φ,E.mul_φ]
def Ev.jadd (a c:E.J):E.J:=match E.isz a.2.2 with
 | true=>c
 | false=>match E.isz c.2.2 with
  | true=>a
  | false =>
   E.force (E.mul a.2.2 a.2.2) fun aa=>E.force (E.mul c.2.2 c.2.2) fun bb =>
   E.force (E.mul a.1 bb) fun left=>E.force (E.mul c.1 aa) fun right =>
   E.force (E.mul (E.mul a.2.1 bb) c.2.2) fun low=>E.force (E.mul (E.mul c.2.1 aa) a.2.2) fun high =>
   E.force (E.sub right left) fun wide=>E.force (E.sub high low) fun rise =>
   match E.isz wide with
   | true=>match E.isz rise with
    | true=>E.dbl a
    | false=>(E.zero,E.zero,E.zero)
   | false =>
    E.force (E.mul wide wide) fun sq=>E.force (E.mul sq wide) fun cube=>E.force (E.mul left sq) fun l2 =>
    E.force (E.sub (E.sub (E.sub (E.mul rise rise) cube) l2) l2) fun x =>
    E.force (E.sub (E.mul rise (E.sub l2 x)) (E.mul low cube)) fun y =>
    E.force (E.mul (E.mul a.2.2 c.2.2) wide) fun z=>(x,y,z)
theorem Ev.jadd_φ (a c:E.J):E.φ3 (E.jadd a c)=Cr.jadd (E.φ3 a) (E.φ3 c):=by
 have nz:∀ v:E.V,E.isz v=false->E.φ v≠0:=fun v h e=>by have:=(E.isz_φ v).2 e;rw[h] at this;cases this
 unfold Ev.jadd Cr.jadd
 cases h:E.isz a.2.2 with
 | true=>rw[if_pos (show (E.φ3 a).2.2=0 from (E.isz_φ _).1 h)]
 | false =>
  rw[if_neg (show (E.φ3 a).2.2≠0 from nz _ h)]
  cases h2:E.isz c.2.2 with
  | true=>rw[if_pos (show (E.φ3 c).2.2=0 from (E.isz_φ _).1 h2)]
  | false =>
   rw[if_neg (show (E.φ3 c).2.2≠0 from nz _ h2)]
   simp only[E.force_eq]
   have ew:E.φ (E.sub (E.mul c.1 (E.mul a.2.2 a.2.2)) (E.mul a.1 (E.mul c.2.2 c.2.2)))=(E.φ3 c).1*((E.φ3 a).2.2*(E.φ3 a).2.2)-(E.φ3 a).1*((E.φ3 c).2.2*(E.φ3 c).2.2):=by simp only[Ev.φ3,E.sub_φ,E.mul_φ]
   have er:E.φ (E.sub (E.mul (E.mul c.2.1 (E.mul a.2.2 a.2.2)) a.2.2) (E.mul (E.mul a.2.1 (E.mul c.2.2 c.2.2)) c.2.2))=(E.φ3 c).2.1*((E.φ3 a).2.2*(E.φ3 a).2.2)*(E.φ3 a).2.2-(E.φ3 a).2.1*((E.φ3 c).2.2*(E.φ3 c).2.2)*(E.φ3 c).2.2:=by simp only[Ev.φ3,E.sub_φ,E.mul_φ]
   cases h3:E.isz (E.sub (E.mul c.1 (E.mul a.2.2 a.2.2)) (E.mul a.1 (E.mul c.2.2 c.2.2))) with
   | true =>
    have:=(E.isz_φ _).1 h3
    rw[ew] at this
    rw[if_pos this]
    cases h4:E.isz (E.sub (E.mul (E.mul c.2.1 (E.mul a.2.2 a.2.2)) a.2.2) (E.mul (E.mul a.2.1 (E.mul c.2.2 c.2.2)) c.2.2)) with
    | true =>
     have:=(E.isz_φ _).1 h4
     rw[er] at this
     rw[if_pos this]
     exact E.dbl_φ a
    | false =>
     have:=nz _ h4
     rw[er] at this
     rw[if_neg this]
     show (E.φ E.zero,E.φ E.zero,E.φ E.zero)=_
     rw[E.zero_φ]
   | false =>
    have:=nz _ h3
    rw[ew] at this
    rw[if_neg this]
    simp only[Ev.φ3,jfin,jaX,E.sub_φ,E.mul_φ]
def Ev.mul2 (o:E.J):Nat->Nat->E.J
 | 0,_=>(E.zero,E.zero,E.zero)
 | f+1,n=>match Nat.beq n 0 with
  | true=>(E.zero,E.zero,E.zero)
  | false=>match Nat.beq (n%2) 1 with
   | true=>E.jadd (E.dbl (Ev.mul2 o f (n/2))) o
   | false=>E.dbl (Ev.mul2 o f (n/2))
variable {E} in
theorem Ev.mul2_rep {b:F} (hb:b≠0) {o:E.J} {P:F × F} (ho:Rep b (E.φ3 o) P):∀ f n,n<2^f->Rep b (E.φ3 (E.mul2 o f n)) (nmul P n):=by
 have h0:Rep b (E.φ3 (E.zero,E.zero,E.zero)) (O2:F × F):=.inl ⟨E.zero_φ,rfl⟩
 intro f
 induction f with
 | zero=>intro n h;have:n=0:=by simp at h;exact h
         subst this;exact h0
 | succ f ih =>
  intro n h
  unfold Ev.mul2
  split
  ·rename_i hn;have:=Nat.eq_of_beq_eq_true hn;subst this;exact h0
  ·have hr:=ih (n/2) (by rw[Nat.pow_succ] at h;omega)
   have hd:=rep_dbl hb hr
   rw[<- E.dbl_φ,<- nmul_add hb ho.on] at hd
   split
   ·rename_i h1
    have h1:=Nat.eq_of_beq_eq_true h1
    have ha:=rep_add hb hd ho
    rw[<- E.jadd_φ] at ha
    have e:n=n/2+n/2+1:=by omega
    have:nmul P n=padd (nmul P (n/2+n/2)) P:=by
     conv=>lhs;rw[e]
     rfl
    rw[this]
    exact ha
   ·rename_i h1
    have h1:n%2≠1:=fun h2=>by rw[h2] at h1;exact absurd h1 (by decide)
    have e:n=n/2+n/2:=by omega
    have:nmul P n=nmul P (n/2+n/2):=by conv=>lhs;rw[e]
    rw[this]
    exact hd
end
end Cr
namespace Cr
open Rg Fd
def fc {α:Type} (n:Nat) (k:Nat->α):α:=Nat.rec (k 0) (fun m _=>k (m+1)) n
theorem fc_eq {α:Type} (n:Nat) (k:Nat->α):fc n k=k n:=by cases n<;>rfl
def pN:Nat:=4002409555221667393417789825735904156556882819939007885332058136124031650490837864442687629129015664037894272559787
theorem zm_nat (n:Nat):(zm ((n%pN:Nat):Int):Fp)=zm (n:Int):=zm_eq (by rw[Int.natCast_emod];exact Int.emod_emod_of_dvd _ (Int.dvd_refl _))
noncomputable def evP1:Ev Fp where
 V:=Nat
 φ n:=zm (n:Int)
 add a b:=(a+b)%pN
 sub a b:=(a+(pN-b%pN))%pN
 mul a b:=(a*b)%pN
 isz a:=Nat.beq (a%pN) 0
 zero:=0
 force:=fc
 add_φ a b:=by rw[zm_nat,zm_add,Int.natCast_add]
 sub_φ a b:=by
  rw[zm_nat,zm_sub]
  refine zm_eq ?_
  have h:=Nat.mod_lt b (show 0<pN by decide)
  have e:((a+(pN-b%pN):Nat):Int)=(a:Int)-b+(pN:Int)*(1+(b:Int)/pN):=by
   have h2:=Int.emod_add_mul_ediv (b:Int) (pN:Int)
   rw[Int.mul_add,Int.mul_one]
   omega
  rw[e]
  exact Int.add_mul_emod_self_left _ _ _
 mul_φ a b:=by rw[zm_nat,zm_mul,Int.natCast_mul]
 isz_φ a:=by
  constructor
  ·intro h
   have h:=Nat.eq_of_beq_eq_true h
   rw[<- zm_nat,h];rfl
  ·intro h
   have h:(zm (a:Int):Fp).v=0:=by rw[h,zero_v]
   have h:(a:Int)%(pN:Int)=0:=h
   have:a%pN=0:=by omega
   rw[this];rfl
 zero_φ:=rfl
 force_eq:=fc_eq
def gxN:Nat:=0x17f1d3a73197d7942695638c4fa9ac0fc3688c4f9774b905a14e3a3f171bac586c55e83ff97a1aeffb3af00adb22c6bb
def gyN:Nat:=0x08b3f481e3aaa0f1a09e30ed741d8ae4fcf5e095d5d00af600db18cb2c04b3edd03cc744a2888ae40caa232946c5e7e1
theorem ord_z:evP1.isz (evP1.mul2 (gxN,gyN,(1:Nat)) 256 52435875175126190479447740508185965837690552500527637822603658699938581184513).2.2=true:=by kernel_rfl
end Cr
namespace Go.Proofs.YtbeeaekepmnfhaaGreatDoor.g1
open Go Go.Eng Go.RowKit Cr
theorem gG_ne:gG≠O2:=by rw[gG_eq];decide
def rN:Nat:=52435875175126190479447740508185965837690552500527637822603658699938581184513
theorem gG_ord:nmul gG rN=O2:=by
 have h1:Rep b4 (evP1.φ3 (gxN,gyN,(1:Nat))) gG:=by
  have h:=rep_lift gG_on
  unfold jlift at h
  rw[if_neg gG_ne,gG_eq] at h
  rw[gG_eq]
  exact h
 have h2:=Ev.mul2_rep b4_ne h1 256 rN (by decide)
 have h3:=(evP1.isz_φ _).1 ord_z
 rcases h2 with ⟨_,h⟩|⟨h,_⟩
 ·exact h
 ·exact absurd h3 h
def Sub (p:Fp × Fp):Prop:=Onb p/\nmul p rN=O2
theorem sub_G:Sub gG:=⟨gG_on,gG_ord⟩
theorem sub_nmul {p:Fp × Fp} (h:Sub p) (n:Nat):Sub (nmul p n):=by
 refine⟨nmul_on b4_ne h.1 n,?_⟩
 rw[nmul_mul b4_ne h.1,Nat.mul_comm,<- nmul_mul b4_ne h.1,h.2,nmul_O]
theorem sub_gmul {p:Fp × Fp} (h:Sub p) (k:Fr):Sub (gmul p k):=by rw[gmul_eq h.1];exact sub_nmul h _
theorem nmul_mod {p:Fp × Fp} (h:Sub p) (m:Nat):nmul p m=nmul p (m%rN):=by
 conv=>lhs;rw[<- Nat.div_add_mod m rN]
 rw[nmul_add b4_ne h.1,<- nmul_mul b4_ne h.1,h.2,nmul_O,O_add]
theorem frv (x:Fr):∃ n:Nat,x.v=(n:Int)/\n<rN:=by
 obtain⟨n,hn⟩:=Int.eq_ofNat_of_zero_le x.nn
 exact⟨n,hn,by have:=x.lt;have e:Mr=(rN:Int):=rfl;omega⟩
theorem mul_of {p:Fp × Fp} (h:Sub p) {x:Fr} {m:Nat} (hx:x.v=(m:Int)%(rN:Int)):gmul p x=nmul p m:=by
 rw[gmul_eq h.1,hx,nmul_mod h m,<- Int.natCast_emod,Int.toNat_natCast]
theorem mul_add {p:Fp × Fp} (h:Sub p) (x y:Fr):gmul p (x+y)=padd (gmul p x) (gmul p y):=by
 obtain⟨m,hm,_⟩:=frv x
 obtain⟨n,hn,_⟩:=frv y
 rw[mul_of h (x:=x+y) (m:=m+n) (by rw[add_v,hm,hn,Int.natCast_add];rfl),gmul_eq h.1,gmul_eq h.1,hm,hn,Int.toNat_natCast,Int.toNat_natCast,nmul_add b4_ne h.1]
theorem mul_mul {p:Fp × Fp} (h:Sub p) (x y:Fr):gmul p (x*y)=gmul (gmul p x) y:=by
 obtain⟨m,hm,_⟩:=frv x
 obtain⟨n,hn,_⟩:=frv y
 rw[mul_of h (x:=x*y) (m:=m*n) (by rw[mul_v,hm,hn,Int.natCast_mul];rfl),gmul_eq (sub_gmul h x).1,gmul_eq h.1,hm,hn,Int.toNat_natCast,Int.toNat_natCast,nmul_mul b4_ne h.1]
theorem mul_zero {p:Fp × Fp} (h:Sub p):gmul p 0=O2:=by
 rw[gmul_eq h.1,zero_v];rfl
theorem mul_one {p:Fp × Fp} (h:Sub p):gmul p 1=p:=by
 rw[gmul_eq h.1,one_v];exact nmul_one
theorem mul_neg {p:Fp × Fp} (h:Sub p) (x:Fr):gmul p (-x)=pneg (gmul p x):=by
 have e:padd (gmul p x) (gmul p (-x))=O2:=by rw[<- mul_add h,Rg.add_neg,mul_zero h]
 have hx:=(sub_gmul h x).1
 have hn:=(sub_gmul h (-x)).1
 have:=cancel b4_ne hx hn
 rw[e,add_O] at this
 exact this.symm
end Go.Proofs.YtbeeaekepmnfhaaGreatDoor.g1
namespace Go.Proofs.YtbeeaekepmnfhaaGreatDoor
open Go Go.Eng Cr
abbrev eq2 (p q:Fp × Fp):Bool:=decide (p.1=q.1)&&decide (p.2=q.2)
abbrev ok (b:Bool):Prop:=((b,()):Bool × Unit)=(true,())
end Go.Proofs.YtbeeaekepmnfhaaGreatDoor
namespace Cr
open Rg Fd
theorem l_sd {F:Type} [Rg F] (a x c y z:F):y*c+a-(z*x+a)=(c-x)*y+x*(y-z) :=
 rid [a,x,c,y,z] ((fun (a x c y z:PE)=>(y*c+a-(z*x+a))) (.v 0) (.v 1) (.v 2) (.v 3) (.v 4)) ((fun (a x c y z:PE)=>((c-x)*y+x*(y-z))) (.v 0) (.v 1) (.v 2) (.v 3) (.v 4)) (by kernel_rfl)
theorem l_sd2 {F:Type} [Rg F] (x c y v:F):(c-x)*y+x*((c-x)*v)=(c-x)*(v*x+y) :=
 rid [x,c,y,v] ((fun (x c y v:PE)=>((c-x)*y+x*((c-x)*v))) (.v 0) (.v 1) (.v 2) (.v 3)) ((fun (x c y v:PE)=>((c-x)*(v*x+y))) (.v 0) (.v 1) (.v 2) (.v 3)) (by kernel_rfl)
theorem l_lin {F:Type} [Rg F] (a c u x l:F):(a*l-u-x*l)*x+(a*u-c)=a*(l*x+u)-c-x*(l*x+u) :=
 rid [a,c,u,x,l] ((fun (a c u x l:PE)=>((a*l-u-x*l)*x+(a*u-c))) (.v 0) (.v 1) (.v 2) (.v 3) (.v 4)) ((fun (a c u x l:PE)=>(a*(l*x+u)-c-x*(l*x+u))) (.v 0) (.v 1) (.v 2) (.v 3) (.v 4)) (by kernel_rfl)
theorem l_lin0 {F:Type} [Rg F] (a x u:F):a*u-0-x*u=(a-x)*u :=
 rid [a,x,u] ((fun (a x u:PE)=>(a*u-0-x*u)) (.v 0) (.v 1) (.v 2)) ((fun (a x u:PE)=>((a-x)*u)) (.v 0) (.v 1) (.v 2)) (by kernel_rfl)
theorem l_w {F:Type} [Rg F] (w y i q d g:F):w*(y*i)*(q-d*g)=y*q*(w*i)-y*(w*(i*d*g)) :=
 rid [w,y,i,q,d,g] ((fun (w y i q d g:PE)=>(w*(y*i)*(q-d*g))) (.v 0) (.v 1) (.v 2) (.v 3) (.v 4) (.v 5)) ((fun (w y i q d g:PE)=>(y*q*(w*i)-y*(w*(i*d*g)))) (.v 0) (.v 1) (.v 2) (.v 3) (.v 4) (.v 5)) (by kernel_rfl)
theorem l_e1 {F:Type} [Rg F] (q u y v i y2 g:F):q*(u*i)+(y*q*(i*v)-y2*g)=q*(i*(u+y*v))-y2*g :=
 rid [q,u,y,v,i,y2,g] ((fun (q u y v i y2 g:PE)=>(q*(u*i)+(y*q*(i*v)-y2*g))) (.v 0) (.v 1) (.v 2) (.v 3) (.v 4) (.v 5) (.v 6)) ((fun (q u y v i y2 g:PE)=>(q*(i*(u+y*v))-y2*g)) (.v 0) (.v 1) (.v 2) (.v 3) (.v 4) (.v 5) (.v 6)) (by kernel_rfl)
theorem l_wc {F:Type} [Rg F] (x a d b:F):x*a*(d*b)=a*b*(x*d) :=
 rid [x,a,d,b] ((fun (x a d b:PE)=>(x*a*(d*b))) (.v 0) (.v 1) (.v 2) (.v 3)) ((fun (x a d b:PE)=>(a*b*(x*d))) (.v 0) (.v 1) (.v 2) (.v 3)) (by kernel_rfl)
theorem l_q0 {F:Type} [Rg F] (a b:F):a-b+b=a :=
 rid [a,b] ((fun (a b:PE)=>(a-b+b)) (.v 0) (.v 1)) ((fun (a b:PE)=>(a)) (.v 0) (.v 1)) (by kernel_rfl)
theorem l_sub {F:Type} [Rg F] (a b c d:F):a-b+(c-d)=a+c-(b+d) :=
 rid [a,b,c,d] ((fun (a b c d:PE)=>(a-b+(c-d))) (.v 0) (.v 1) (.v 2) (.v 3)) ((fun (a b c d:PE)=>(a+c-(b+d))) (.v 0) (.v 1) (.v 2) (.v 3)) (by kernel_rfl)
theorem l_s0 {F:Type} [Rg F] (q d:F):q-(q-d)=d :=
 rid [q,d] ((fun (q d:PE)=>(q-(q-d))) (.v 0) (.v 1)) ((fun (q d:PE)=>(d)) (.v 0) (.v 1)) (by kernel_rfl)
section
variable {F:Type} [Rg F]
def peval:List F->F->F
 | [],_=>0
 | a::l,x=>peval l x*x+a
def prd:List F->F
 | []=>1
 | a::l=>a*prd l
def sm:List F->F
 | []=>0
 | a::l=>a+sm l
theorem synth:∀ (p:List F) (c:F),∃ q:List F,q.length=p.length-1/\∀ x,peval p c-peval p x=(c-x)*peval q x
 | [],c=>⟨[],rfl,fun x=>by show (0:F)-0=(c-x)*0;rw[sub_self,mul_zero]⟩
 | a::l,c=>by
  obtain⟨q,hq,h⟩:=synth l c
  cases l with
  | nil=>exact⟨[],rfl,fun x=>by show (0:F)*c+a-(0*x+a)=(c-x)*0;rw[zero_mul,zero_mul,sub_self,mul_zero]⟩
  | cons b l =>
   refine⟨peval (b::l) c::q,by simp at hq ⊢;omega,fun x=>?_⟩
   show peval (b::l) c*c+a-(peval (b::l) x*x+a)=(c-x)*(peval q x*x+peval (b::l) c)
   rw[l_sd,h,l_sd2]
def linM (a:F):F->List F->List F
 | c,[]=>[-c]
 | c,u::l=>(a*u-c)::linM a u l
theorem linM_len (a:F):∀ (l:List F) (c:F),(linM a c l).length=l.length+1
 | [],_=>rfl
 | u::l,c=>by simp[linM,linM_len a l u]
theorem linM_eval (a x:F):∀ (l:List F) (c:F),peval (linM a c l) x=a*peval l x-c-x*peval l x
 | [],c=>by
  show 0*x + -c=a*0-c-x*0
  rw[zero_mul,mul_zero,mul_zero,zero_add,sub_def,sub_def,zero_add,neg_zero,add_zero]
 | u::l,c=>by
  show peval (linM a u l) x*x+(a*u-c)=a*(peval l x*x+u)-c-x*(peval l x*x+u)
  rw[linM_eval a x l u,l_lin]
theorem prodP:∀ (xs:List F),∃ u:List F,u.length=xs.length+1/\∀ x,peval u x=prd (xs.map fun y=>y-x)
 | []=>⟨[1],rfl,fun x=>by show 0*x+1=(1:F);rw[zero_mul,zero_add]⟩
 | a::xs=>by
  obtain⟨u,hu,h⟩:=prodP xs
  refine⟨linM a 0 u,by rw[linM_len,hu];rfl,fun x=>?_⟩
  rw[linM_eval,l_lin0,h];rfl
theorem sm_congr {α:Type} {f g:α->F}:∀ {l:List α},(∀ x∈l,f x=g x)->sm (l.map f)=sm (l.map g)
 | [],_=>rfl
 | a::l,h=>by
  show f a+sm (l.map f)=g a+sm (l.map g)
  rw[h a (by simp),sm_congr (fun x hx=>h x (by simp[hx]))]
theorem sm_sub {α:Type} (f g:α->F):∀ (l:List α),sm (l.map fun x=>f x-g x)=sm (l.map f)-sm (l.map g)
 | []=>by show (0:F)=0-0;rw[sub_self]
 | a::l=>by
  show f a-g a+sm (l.map fun x=>f x-g x)=f a+sm (l.map f)-(g a+sm (l.map g))
  rw[sm_sub f g l,l_sub]
theorem sm_mul {α:Type} (c:F) (f:α->F):∀ (l:List α),sm (l.map fun x=>c*f x)=c*sm (l.map f)
 | []=>by show (0:F)=c*0;rw[mul_zero]
 | a::l=>by
  show c*f a+sm (l.map fun x=>c*f x)=c*(f a+sm (l.map f))
  rw[sm_mul c f l,mul_add]
theorem prd_zero {l:List F} (h:(0:F)∈l):prd l=0:=by
 induction l with
 | nil=>cases h
 | cons a l ih =>
  show a*prd l=0
  rcases List.mem_cons.1 h with h|h
  ·rw[<- h,zero_mul]
  ·rw[ih h,mul_zero]
end
section
variable {F:Type} [Fd F]
theorem prd_ne {l:List F} (h:∀ x∈l,x≠0):prd l≠0:=by
 induction l with
 | nil=>exact one_ne
 | cons a l ih=>exact mul_ne (h a (by simp)) (ih fun x hx=>h x (by simp[hx]))
theorem inv_of {a b:F} (ha:a≠0) (h:a*b=1):inv a=b:=by
 refine mul_left ha ?_
 rw[mul_inv a ha,h]
theorem inv_mul {a b:F} (ha:a≠0) (hb:b≠0):inv (a*b)=inv a*inv b:=by
 refine inv_of (mul_ne ha hb) ?_
 rw[mul_comm a b,mul_assoc,<- mul_assoc a,mul_inv a ha,one_mul,mul_inv b hb]
def wgt (xs:List F) (x:F):F:=prd (xs.filter fun y=>decide (y≠x))*inv (prd ((xs.filter fun y=>decide (y≠x)).map fun y=>y-x))
theorem wgt_cons {x0 x:F} {xs:List F} (h:x0≠x):wgt (x0::xs) x=wgt xs x*(x0*inv (x0-x)):=by
 unfold wgt
 rw[List.filter_cons_of_pos (by simp[h])]
 show x0*prd _*inv ((x0-x)*prd _)=_
 have hn:prd ((xs.filter fun y=>decide (y≠x)).map fun y=>y-x)≠0:=by
  refine prd_ne fun z hz=>?_
  obtain⟨y,hy,rfl⟩:=List.mem_map.1 hz
  have:=(List.mem_filter.1 hy).2
  exact sub_ne (by simpa using this)
 rw[inv_mul (sub_ne h) hn]
 exact l_wc _ _ _ _
theorem wgt_head {x0:F} {xs:List F} (h:x0∉xs):wgt (x0::xs) x0=prd xs*inv (prd (xs.map fun y=>y-x0)):=by
 unfold wgt
 rw[List.filter_cons_of_neg (by simp)]
 have:xs.filter (fun y=>decide (y≠x0))=xs:=by
  rw[List.filter_eq_self]
  intro y hy
  simp only[decide_eq_true_eq]
  exact fun e=>h (e▸hy)
 rw[this]
theorem prd_sub0:∀ (l:List F),prd (l.map fun y=>y-0)=prd l
 | []=>rfl
 | a::l=>by show (a-0)*prd _=a*prd l;rw[prd_sub0 l,sub_def,neg_zero,add_zero]
theorem lagrange:∀ {xs:List F},xs.Nodup->∀ q:List F,q.length<=xs.length->sm (xs.map fun x=>wgt xs x*peval q x)=peval q 0
 | [],_,q,hq=>by
  have:q=[]:=by cases q with
   | nil=>rfl
   | cons a l=>simp at hq
  subst this;rfl
 | x0::xs,hd,q,hq=>by
  have hx0:x0∉xs:=(List.nodup_cons.1 hd).1
  have hxs:=(List.nodup_cons.1 hd).2
  obtain⟨u,hul,hu⟩:=prodP xs
  obtain⟨v,hvl,hv⟩:=synth u x0
  obtain⟨g,hgl,hg⟩:=synth q x0
  have ihv:=lagrange hxs v (by omega)
  have ihg:=lagrange hxs g (by simp at hq;omega)
  have hU:peval u x0≠0:=by
   rw[hu]
   refine prd_ne fun z hz=>?_
   obtain⟨y,hy,rfl⟩:=List.mem_map.1 hz
   exact sub_ne fun e=>hx0 (e▸hy)
  have hUi:=mul_inv _ hU
  have key:∀ x∈xs,wgt (x0::xs) x*peval q x=x0*peval q x0*(inv (peval u x0)*(wgt xs x*peval v x))-x0*(wgt xs x*peval g x):=by
   intro x hx
   have hne:x0≠x:=fun e=>hx0 (e▸hx)
   have hux:peval u x=0:=by
    rw[hu]
    exact prd_zero (List.mem_map.2 ⟨x,hx,sub_self x⟩)
   have h1:=hv x
   rw[hux] at h1
   have h1:peval u x0=(x0-x)*peval v x:=by rw[<- h1,sub_def,neg_zero,add_zero]
   have hd0:=sub_ne hne
   have hi:inv (x0-x)=peval v x*inv (peval u x0):=inv_of hd0 (by rw[<- mul_assoc,<- h1,hUi])
   have hdi:inv (x0-x)*(x0-x)=1:=by rw[mul_comm,mul_inv _ hd0]
   have hq1:peval q x=peval q x0-(x0-x)*peval g x:=by rw[<- hg x,l_s0]
   rw[wgt_cons hne,hq1,l_w,hdi,one_mul,hi,mul_comm (peval v x),<- mul_assoc (wgt xs x),mul_comm (wgt xs x),mul_assoc (inv _)]
  show wgt (x0::xs) x0*peval q x0+sm (xs.map fun x=>wgt (x0::xs) x*peval q x)=peval q 0
  rw[sm_congr key,sm_sub,sm_mul,sm_mul,sm_mul,ihv,ihg,wgt_head hx0,<- hu x0,<- prd_sub0 xs,<- hu 0]
  have hv0:=hv 0
  have hg0:=hg 0
  rw[sub_def x0,neg_zero,add_zero] at hv0 hg0
  have e1:peval u 0+x0*peval v 0=peval u x0:=by rw[<- hv0,add_comm,l_q0]
  have e2:peval q x0-x0*peval g 0=peval q 0:=by rw[<- hg0,l_s0]
  rw[mul_comm _ (peval q x0),l_e1,e1,mul_comm (inv _),hUi,mul_one,e2]
end
end Cr
namespace Cr
def byL (n:Int):Nat->List Int
 | 0=>[]
 | j+1=>if n/p256 (7-j)=0 then byL n j else byL n j++[n/p256 (7-j)%256]
theorem byL_ok {n:Int} (h0:0<=n) (h1:n<p256 8):∀ j,j<=8->Bs (byL n j)/\(byL n j).length<=j/\num (byL n j)=n/p256 (8-j)
 | 0,_=>⟨(fun x h=>nomatch h),Nat.le_refl _,by
   show (0:Int)=n/p256 8
   rw[Int.ediv_eq_zero_of_lt h0 h1]⟩
 | j+1,hj=>by
  obtain⟨h2,h3,h4⟩:=byL_ok h0 h1 j (by omega)
  have e1:8-j=(7-j)+1:=by omega
  have e2:8-(j+1)=7-j:=by omega
  have hp:=p256_pos (7-j)
  have e3:n/p256 (8-j)=n/p256 (7-j)/256:=by
   rw[e1]
   show n/(256*p256 (7-j))=_
   rw[Int.mul_comm,Int.ediv_ediv_of_nonneg (Int.le_of_lt hp)]
  have hq:0<=n/p256 (7-j):=Int.ediv_nonneg h0 (Int.le_of_lt hp)
  rw[e2]
  unfold byL
  split
  ·rename_i e
   refine⟨h2,by omega,?_⟩
   rw[h4,e3,e];rfl
  ·refine⟨?_,by simp;omega,?_⟩
   ·intro x hx
    rcases List.mem_append.1 hx with hx|hx
    ·exact h2 x hx
    ·simp at hx;subst hx;exact⟨Int.emod_nonneg _ (by decide),Int.emod_lt_of_pos _ (by decide)⟩
   ·rw[num_snoc,h4,e3]
    omega
end Cr
namespace Go.Proofs.YtbeeaekepmnfhaaGreatDoor.fr
noncomputable section
open Go Go.Eng Go.RowKit Cr
theorem ent_power:enters Tryz.prog 202 Tryz.f202:=ek
def powI (x:Fr) (es:List Int) (g:Int × List Fr):St:=mkSt Tryz.f202.ntmps 64 [(2,.is (.one (.ptr 0 0))),(3,.is (.one (.ptr 8 0))),(4,.is (.one (.ptr 16 0))),(5,.is (.one (.ptr 24 0))),(11,sI .i64 g.1)] [(0,[.row .fr 1 [x]]),(8,[.ints .u64 4 es]),(16,[.row .fr 1 [(0:Fr)]]),(24,[.row .fr 16 g.2])]
def powJ (es:List Int) (tb:List Fr) (g:Int × Fr):St:=mkSt Tryz.f202.ntmps 96 [(3,.is (.one (.ptr 8 0))),(4,.is (.one (.ptr 16 0))),(5,.is (.one (.ptr 24 0))),(7,.is (.one (.ptr 72 0))),(24,sI .i64 g.1)] [(8,[.ints .u64 4 es]),(16,[.row .fr 1 [(0:Fr)]]),(24,[.row .fr 16 tb]),(72,[.row .fr 1 [g.2]])]
def powK (es:List Int) (tb:List Fr) (i:Int) (g:Int × Fr):St:=mkSt Tryz.f202.ntmps 128 [(3,.is (.one (.ptr 8 0))),(4,.is (.one (.ptr 16 0))),(5,.is (.one (.ptr 24 0))),(7,.is (.one (.ptr 72 0))),(8,sI .i64 i),(24,sI .i64 i),(27,sI .i64 g.1)] [(8,[.ints .u64 4 es]),(16,[.row .fr 1 [(0:Fr)]]),(24,[.row .fr 16 tb]),(72,[.row .fr 1 [g.2]])]
def powL (es:List Int) (tb:List Fr) (i:Int) (y:Fr):St:=mkSt Tryz.f202.ntmps 104 [(3,.is (.one (.ptr 8 0))),(4,.is (.one (.ptr 16 0))),(5,.is (.one (.ptr 24 0))),(7,.is (.one (.ptr 72 0))),(24,sI .i64 i)] [(8,[.ints .u64 4 es]),(16,[.row .fr 1 [(0:Fr)]]),(24,[.row .fr 16 tb]),(72,[.row .fr 1 [y]])]
abbrev prePower:HL [.fr,(.arr 4 (.int .u64))]->Prop:=fun (_,es,_)=>Ws es
abbrev outPower:HL [.fr,(.arr 4 (.int .u64))]->HO [.val .fr]:=fun (x,es,_)=>(zpw (x:Fr) (val es),())
theorem fn_power:FnOk Tryz.prog 202 [.fr,(.arr 4 (.int .u64))] [.val .fr] noG prePower outPower:=by
 have hsp:SpecsOk Tryz.prog (sps [spOne,spMul,spSquare]):=spk (fok fn_one) (spk (fok fn_mul) (spk (fok fn_square) snl))
 refine fn_of_tr (sp:=sps [spOne,spMul,spSquare]) ent_power (by decide) (by decide) (by kernel_rfl) ?_
 rintro w M0 ⟨x,es,⟨⟩⟩ ⟨_,⟨hl,_⟩,_⟩ he
 have hl:List.length es=4:=hl
 have he:Ws es:=he
 have hE:=val_nonneg he
 have hE2:val es<p16 64:=by have:=val_lt he;rw[hl] at this;rw[show 64=16*4 from rfl,p16_16];exact this
 have hes:es=lim 4 (val es):=by have:=lim_val he;rw[hl] at this;exact this.symm
 show Tr _ _ _ _ _ _ _
 refine tr_cut hsp mixed 4 (powI x es (0,(List.replicate 16 (0:Fr)).set 0 1)) True ?_ (fun _=>?_)
 ·refine vcx (X:=True/\(0:Nat)<16/\(powI x es (0,(List.replicate 16 (0:Fr)).set 0 1)).triv True) (by kernel_rfl) ⟨trivial,by decide,tvi trivial⟩
 rw[show (List.replicate 16 (0:Fr)).set 0 1=tabAt (zpow x) 0 0 from rfl]
 refine tr_count hsp mixed (powI x es) (fun k=>((k:Int),tabAt (zpow x) 0 k)) 15 (fun g=>(IntKind.i64.wrap (g.1+1),g.2.set (IntKind.i64.wrap (g.1+1)).toNat (g.2.getD g.1.toNat 0*x))) (powI x es) (c:=nthC (codeOf Tryz.f202) 4) (by kernel_rfl) (by kernel_rfl) (le_of_proj (by kernel_rfl) (by kernel_rfl) trivial)
  (fun k hk=>by
   show (_,_)=(_,_)
   rw[wrap_succ (by omega),Int.toNat_natCast,Int.toNat_natCast,tabAt_get _ _ _ (Nat.le_refl k) (by omega),show zpow x k*x=zpow x (k+1) from rfl,tabAt_set]) ?_ ?_
 ·intro k hk
  refine vcx (X:=((decide ((k:Int)<15)=true->(0<=(k:Int)/\(k:Int)<((16:Nat):Int))/\(k:Int).toNat<16/\True/\(0<=IntKind.i64.wrap ((k:Int)+1)/\IntKind.i64.wrap ((k:Int)+1)<((16:Nat):Int))/\(IntKind.i64.wrap ((k:Int)+1)).toNat<16 /\
    (powI x es (IntKind.i64.wrap ((k:Int)+1),(tabAt (zpow x) 0 k).set (IntKind.i64.wrap ((k:Int)+1)).toNat ((tabAt (zpow x) 0 k).getD (k:Int).toNat 0*x))).triv (k<15)) /\
   (decide ((k:Int)<15)=false->(powI x es ((k:Int),tabAt (zpow x) 0 k)).triv (k=15)))) (by kernel_rfl) ?_
  refine⟨fun h=>?_,fun h=>tvi (by have:=dec_ge h;omega)⟩
  have hlt:k<15:=by have:=dec_lt h;omega
  rw[wrap_succ (by omega)]
  exact⟨⟨by omega,by omega⟩,by omega,trivial,⟨by omega,by omega⟩,by omega,tvi hlt⟩
 generalize htb:tabAt (zpow x) 0 15=tb
 have hget:∀ j,j<16->tb.getD j 0=zpow x j:=fun j hj=>by rw[<- htb];exact tabAt_get _ _ _ (by omega) hj
 clear htb
 refine tr_cut hsp mixed 2 (powJ es tb (0,1)) True ?_ (fun _=>?_)
 ·refine vcx (X:=True/\(powJ es tb (0,1)).triv True) (by kernel_rfl) ⟨trivial,tvi trivial⟩
 rw[show ((0:Int),(1:Fr))=(((0:Nat):Int),zpow x (val es/p16 (64-0)).toNat) by
  rw[Nat.sub_zero,Int.ediv_eq_zero_of_lt hE hE2];rfl]
 refine tr_countT (powJ es tb) (fun i=>((i:Int),zpow x (val es/p16 (64-i)).toNat)) 64 (fun g=>(IntKind.i64.wrap (g.1+1),sqn g.2 4*tb.getD (pdig (3:Nat) es g.1).toNat 0)) (powJ es tb) (c:=nthC (codeOf Tryz.f202) 7) (by kernel_rfl) (by kernel_rfl) (le_of_proj (by kernel_rfl) (by kernel_rfl) trivial)
  (fun i hi=>by
   show (_,_)=(_,_)
   rw[wrap_succ (by omega),hes,pdig_ok (n:=3) hi (by omega),<- hes]
   rw[hget _ (by omega),sqn_zpow,<- zpow_add]
   congr 2
   have:=digit_step hE (64-1-i)
   rw[show 64-(i+1)=64-1-i by omega,this,show 64-1-i+1=64-i by omega]) ?_ ?_
 ·intro i hi
  generalize zpow x (val es/p16 (64-i)).toNat=y
  refine tr_cut hsp mixed 2 (powL es tb (i:Int) y) (i<64) ?_ (fun hlt=>?_)
  ·refine vcx (X:=((decide ((i:Int)<64)=true->(powL es tb (i:Int) y).triv (i<64))/\(decide ((i:Int)<64)=false->(powJ es tb ((i:Int),y)).triv (i=64)))) (by kernel_rfl) ?_
   exact⟨fun h=>tvi (by have:=dec_lt h;omega),fun h=>tvi (by have:=dec_ge h;omega)⟩
  refine tr_block (c:=nthC (loopOf (nthC (codeOf Tryz.f202) 7)) 2) (by kernel_rfl) (by kernel_rfl) ?_
  refine tr_cut hsp mixed 2 (powK es tb (i:Int) (0,y)) True ?_ (fun _=>?_)
  ·refine vcx (X:=(powK es tb (i:Int) (0,y)).triv True) (by kernel_rfl) (tvi trivial)
  refine tr_count hsp mixed (powK es tb (i:Int)) (fun j=>((j:Int),sqn y j)) 4 (fun g=>(IntKind.i64.wrap (g.1+1),g.2*g.2)) (powK es tb (i:Int)) (c:=nthC (bodyOf (nthC (loopOf (nthC (codeOf Tryz.f202) 7)) 2)) 2) (by kernel_rfl) (by kernel_rfl) (le_of_proj (by kernel_rfl) (by kernel_rfl) trivial)
   (fun j hj=>by show (_,_)=(_,_);rw[wrap_succ (by omega)];rfl) ?_ ?_
  ·intro j hj
   refine vcx (X:=((decide ((j:Int)<4)=true->True/\(powK es tb (i:Int) (IntKind.i64.wrap ((j:Int)+1),sqn y j*sqn y j)).triv (j<4))/\(decide ((j:Int)<4)=false->(powK es tb (i:Int) ((j:Int),sqn y j)).triv (j=4)))) (by kernel_rfl) ?_
   exact⟨fun h=>⟨trivial,tvi (by have:=dec_lt h;omega)⟩,fun h=>tvi (by have:=dec_ge h;omega)⟩
  refine tr_cut hsp mixed 1 (powJ es tb ((i:Int),sqn y 4*tb.getD (pdig (3:Nat) es i).toNat 0)) True ?_ (fun _=>?_)
  ·refine vcx (X:=((16:Int)≠0/\(0<=pj (3:Nat) i/\pj (3:Nat) i<((4:Nat):Int))/\(pj (3:Nat) i).toNat<4/\(16:Int)≠0/\0<=psh i/\(0<=pdig (3:Nat) es i/\pdig (3:Nat) es i<((16:Nat):Int))/\(pdig (3:Nat) es i).toNat<16/\True/\(powJ es tb ((i:Int),sqn y 4*tb.getD (pdig (3:Nat) es i).toNat 0)).triv True)) (by kernel_rfl) ?_
   obtain⟨b1,b2,b3⟩:=pdig_bd (n:=3) hlt (by omega)
   have b4:0<=pdig (3:Nat) es i/\pdig (3:Nat) es i<16:=by
    rw[hes,pdig_ok (n:=3) hlt (by omega)]
    omega
   exact⟨by decide,b1,b2,by decide,b3,b4,by omega,trivial,tvi trivial⟩
  refine tr_nil ?_
  refine tr_vc hsp mixed _ _ ?_
  refine vcx (X:=(powJ es tb (IntKind.i64.wrap ((i:Int)+1),sqn y 4*tb.getD (pdig (3:Nat) es i).toNat 0)).triv (i<64)) (by kernel_rfl) (tvi hlt)
 refine tr_vc hsp mixed _ _ ?_
 refine vcx (X:=(zpow x (val es/p16 (64-64)).toNat,())=outPower (x,es,())) (by kernel_rfl) ?_
 rw[Nat.sub_self,p16,Int.ediv_one,<- zpw_eq]
def spPower:Nat × Eng.Spec:=(202,fnSpec [.fr,(.arr 4 (.int .u64))] [.val .fr] prePower outPower)
theorem ent_inv:enters Tryz.prog 177 Tryz.f177:=ek
def zinv (x:Fr):Fr:=zpw x 52435875175126190479447740508185965837690552500527637822603658699938581184511
abbrev outInv:HL [.fr]->HO [.val .fr]:=fun (x,_)=>(zinv (x:Fr),())
theorem val_pm2:val [18446744069414584319,6034159408538082302,3691218898639771653,8353516859464449352]=52435875175126190479447740508185965837690552500527637822603658699938581184511:=by decide
theorem fn_inv:FnOk Tryz.prog 177 [.fr] [.val .fr] noG (fun _=>True) outInv:=by
 refine fn_of_vc (sp:=sps [spPower]) (spk (fok fn_power) snl) mixed ent_inv (by decide) (by decide) ?_
 rintro w M0 ⟨x,⟨⟩⟩ _ _
 refine vcx (X:=(prePower (x,[18446744069414584319,6034159408538082302,3691218898639771653,8353516859464449352],())/\(zpw x (val [18446744069414584319,6034159408538082302,3691218898639771653,8353516859464449352]),())=outInv (x,()))) (by kernel_rfl) ?_
 refine⟨?_,?_⟩
 ·intro y hy;simp at hy;rcases hy with rfl|rfl|rfl|rfl<;>exact⟨by decide,by decide⟩
 ·rw[val_pm2];rfl
def spInv:Nat × Eng.Spec:=(177,fnSpec [.fr] [.val .fr] (fun _=>True) outInv)
end
end Go.Proofs.YtbeeaekepmnfhaaGreatDoor.fr
namespace Go.Proofs.YtbeeaekepmnfhaaGreatDoor.poly
noncomputable section
open Go Go.Eng Go.RowKit Cr
theorem ent_size:enters Tryz.prog 87 Tryz.f87:=ek
abbrev pre1I:HL [.int .i64]->Prop:=fun (x,_)=>preI x
def szI (x:Int):Int:=if x<0 then -x else x
abbrev outSize:HL [.int .i64]->HO [.val (.int .u64)]:=fun (x,_)=>(szI x,())
theorem fn_size:FnOk Tryz.prog 87 [.int .i64] [.val (.int .u64)] noG pre1I outSize:=by
 refine fn_of_vc (sp:=sps []) snl mixed ent_size (by decide) (by decide) ?_
 rintro w M0 ⟨x,⟨⟩⟩
 revert x
 intro (x:Int) _ hx
 have hx : -9223372036854775808<=x/\x<9223372036854775808:=hx
 refine vcx (X:=((decide (x<(0:Int))=true->(IntKind.u64.wrap ((0:Int)-IntKind.u64.wrap x),())=outSize (x,()))/\(decide (x<(0:Int))=false->(IntKind.u64.wrap x,())=outSize (x,())))) (by kernel_rfl) ?_
 refine⟨fun h=>?_,fun h=>?_⟩
 ·have h:x<0:=of_decide_eq_true h
  show _=(szI x,())
  rw[szI,if_pos h,wrap_u64_mod,wrap_u64_mod]
  congr 1
  omega
 ·have h:¬ x<0:=of_decide_eq_false h
  show _=(szI x,())
  rw[szI,if_neg h,wrap_u64 (by omega) (by omega)]
def spSize:Nat × Eng.Spec:=(87,fnSpec [.int .i64] [.val (.int .u64)] pre1I outSize)
theorem szI_ok {x:Int} (hx:preI x):0<=szI x/\szI x<=9223372036854775808:=by
 have hx : -9223372036854775808<=x/\x<9223372036854775808:=hx
 unfold szI;split<;>omega
theorem ent_scalar:enters Tryz.prog 45 Tryz.f45:=ek
def sclI (x:Int):Fr:=opq (zm x)
theorem sclI_eq (x:Int):sclI x=zm x:=opq_eq _
abbrev outScalar:HL [.int .i64]->HO [.val .fr]:=fun (x,_)=>(sclI x,())
theorem fn_scalar:FnOk Tryz.prog 45 [.int .i64] [.val .fr] noG pre1I outScalar:=by
 refine fn_of_vc (sp:=sps [spSize,fr.spOf,fr.spNeg]) (spk (fok fn_size) (spk (fok fr.fn_of) (spk (fok fr.fn_neg) snl))) mixed ent_scalar (by decide) (by decide) ?_
 rintro w M0 ⟨x,⟨⟩⟩
 revert x
 intro (x:Int) _ hx
 have hz:=szI_ok hx
 refine vcx (X:=(pre1I (x,())/\U64 (szI x)/\(decide (x<(0:Int))=true->True/\(-zmr (szI x),())=outScalar (x,()))/\(decide (x<(0:Int))=false->(zmr (szI x),())=outScalar (x,())))) (by kernel_rfl) ?_
 refine⟨hx,⟨hz.1,by omega⟩,fun h=>⟨trivial,?_⟩,fun h=>?_⟩
 ·have h:x<0:=of_decide_eq_true h
  show _=(sclI x,())
  rw[sclI_eq,szI,if_pos h,zm_neg,Int.neg_neg]
 ·have h:¬ x<0:=of_decide_eq_false h
  show _=(sclI x,())
  rw[sclI_eq,szI,if_neg h]
def spScalar:Nat × Eng.Spec:=(45,fnSpec [.int .i64] [.val .fr] pre1I outScalar)
theorem ent_bytes:enters Tryz.prog 105 Tryz.f105:=ek
def bysI (x:Int):List Int:=byL (szI x) 8
abbrev outBytes:HL [.int .i64]->HO [.own (.int .u8)]:=fun (x,_)=>(bysI x,())
def byI (n:Int) (g:Int × Bool × Nat × List Int):St:=mkSt Tryz.f105.ntmps 48 [(3,bif g.2.1 then .is (.one (.v (.slice none 0 0))) else .is (.one (.sl 8 0 0 g.2.2.1 1))),(4,sI .u64 n),(5,sI .i64 g.1)] (bif g.2.1 then [] else [(8,[.ints .u8 g.2.2.1 g.2.2.2])])
def byJ (n:Int) (g:Int × Bool × Nat × List Int):Prop:=∃ j:Nat,j<=8/\g.1=56-8*(j:Int)/\g.2.2.2=byL n j/\g.2.2.1=g.2.2.2.length/\(g.2.1=true->g.2.2.2=[])
def byO (n:Int) (g:Int × Bool × Nat × List Int):Prop:=g.2.2.2=byL n 8/\g.2.2.1=g.2.2.2.length/\(g.2.1=true->g.2.2.2=[])
theorem by_pow {j:Nat} (h:j<=7):(2:Int)^min (Int.toNat (56-8*(j:Int))) IntKind.u64.bits=p256 (7-j):=by
 have:j=0\/j=1\/j=2\/j=3\/j=4\/j=5\/j=6\/j=7:=by omega
 rcases this with rfl|rfl|rfl|rfl|rfl|rfl|rfl|rfl<;>rfl
theorem wrap_u8 (a:Int):IntKind.u8.wrap a=a%256:=by simp[IntKind.wrap,IntKind.signed,IntKind.bits]
theorem by_step {n s:Int} {e:Bool} {m:Nat} {l:List Int} (hj:byJ n (s,e,m,l)) (hs:s>=0):IntKind.i64.wrap (s-8)=s-8 /\
  (n.fdiv (2^min (Int.toNat s) IntKind.u64.bits)≠0->byJ n (s-8,false,m+1,l++[IntKind.u8.wrap (n.fdiv (2^min (Int.toNat s) IntKind.u64.bits))])) /\
  (n.fdiv (2^min (Int.toNat s) IntKind.u64.bits)=0->byJ n (s-8,e,m,l)):=by
 obtain⟨j,hj,h1,h2,h3,h4⟩:=hj
 have h1:s=56-8*(j:Int):=h1
 have h2:l=byL n j:=h2
 have h3:m=l.length:=h3
 have hj7:j<=7:=by omega
 have ep:n.fdiv (2^min (Int.toNat s) IntKind.u64.bits)=n/p256 (7-j):=by
  rw[h1,by_pow hj7,Int.fdiv_eq_ediv_of_nonneg _ (Int.le_of_lt (p256_pos _))]
 rw[ep,wrap_u8]
 refine⟨wrap_i64' (by omega) (by omega),fun h=>⟨j+1,by omega,by show s-8=_;omega,?_,by show m+1=_;simp[h3],fun h=>nomatch h⟩,fun h=>⟨j+1,by omega,by show s-8=_;omega,?_,h3,h4⟩⟩
 ·show l++_=byL n (j+1)
  rw[byL,if_neg h,h2]
 ·show l=byL n (j+1)
  rw[byL,if_pos h,h2]
theorem by_end {n s:Int} {e:Bool} {m:Nat} {l:List Int} (hj:byJ n (s,e,m,l)) (hs:¬ s>=0):byO n (s,e,m,l):=by
 obtain⟨j,hj,h1,h2,h3,h4⟩:=hj
 have h1:s=56-8*(j:Int):=h1
 have:j=8:=by omega
 subst this
 exact⟨h2,h3,h4⟩
theorem fn_bytes:FnOk Tryz.prog 105 [.int .i64] [.own (.int .u8)] noG pre1I outBytes:=by
 have hsp:SpecsOk Tryz.prog (sps [spSize]):=(spk (fok fn_size) snl)
 refine fn_of_tr (sp:=sps [spSize]) ent_bytes (by decide) (by decide) (by kernel_rfl) ?_
 rintro w M0 ⟨x,⟨⟩⟩
 revert x
 intro (x:Int) _ hx
 have hz:=szI_ok hx
 show Tr _ _ _ _ _ _ _
 refine tr_cut hsp mixed 4 (byI (szI x) (56,true,0,[])) True ?_ (fun _=>?_)
 ·refine vcx (X:=(pre1I (x,())/\(byI (szI x) ((56:Int),true,(0:Nat),[])).triv True)) (by kernel_rfl) ?_
  exact⟨hx,tvi trivial⟩
 refine tr_while hsp mixed (fun σ=>[(8,rdI 3 σ)]) (fun σ=>(rdS (.int .i64) 5 σ,rdE 3 σ,rdL 3 σ,rdR (.int .u8) 8 σ)) (byI (szI x)) (byJ (szI x)) (fun g=>(g.1+8).toNat)
  (fun σ=>(rdS (.int .i64) 5 σ,rdE 3 σ,rdL 3 σ,rdR (.int .u8) 8 σ)) (byI (szI x)) (byO (szI x)) (56,true,0,[]) (c:=nthC (codeOf Tryz.f105) 4) (by kernel_rfl) (by kernel_rfl) (le_of_proj (by kernel_rfl) (by kernel_rfl) ?_) ?_ ?_
 ·exact⟨0,by decide,rfl,rfl,rfl,fun _=>rfl⟩
 ·rintro⟨s,e,m,l⟩ hj
  revert s l
  intro (s:Int) (l:List Int) hj
  have hjj:=hj
  obtain⟨j,hj8,h1,h2,h3,h4⟩:=hjj
  have h1:s=56-8*(j:Int):=h1
  have k3:m=l.length:=h3
  have hm8:m<=8:=by
   have:=(byL_ok hz.1 (show szI x<p256 8 from Int.lt_of_le_of_lt hz.2 (by decide)) j hj8).2.1
   have h2:l=byL (szI x) j:=h2
   rw[k3,h2];omega
  cases e with
  | true =>
   have hl:l=[]:=h4 rfl
   subst hl
   have hm:m=0:=k3
   subst hm
   refine vcx (X:=((decide (s>=(0:Int))=true->(0:Int)<=s/\(((szI x).fdiv ((2:Int)^min s.toNat IntKind.u64.bits) != (0:Int))=true->0+1<=1/\(1:Nat)*(1:Nat)<=(140737488355328:Nat)/\(1:Nat)<=(4611686018427387904:Nat)/\(byI (szI x) (IntKind.i64.wrap (s-(8:Int)),false,(1:Nat),[IntKind.u8.wrap ((szI x).fdiv ((2:Int)^min s.toNat IntKind.u64.bits))])).triv (byJ (szI x) (IntKind.i64.wrap (s-(8:Int)),false,(1:Nat),[IntKind.u8.wrap ((szI x).fdiv ((2:Int)^min s.toNat IntKind.u64.bits))])/\Int.toNat (IntKind.i64.wrap (s-(8:Int))+(8:Car (Kd.int IntKind.i64)))<Int.toNat (s+(8:Car (Kd.int IntKind.i64)))))/\(((szI x).fdiv ((2:Int)^min s.toNat IntKind.u64.bits) != (0:Int))=false->(byI (szI x) (IntKind.i64.wrap (s-(8:Int)),true,(0:Nat),[])).triv (byJ (szI x) (IntKind.i64.wrap (s-(8:Int)),true,(0:Nat),[])/\Int.toNat (IntKind.i64.wrap (s-(8:Int))+(8:Car (Kd.int IntKind.i64)))<Int.toNat (s+(8:Car (Kd.int IntKind.i64))))))/\(decide (s>=(0:Int))=false->(byI (szI x) (s,true,(0:Nat),[])).triv (byO (szI x) (s,true,(0:Nat),[]))))) (by kernel_rfl) ?_
   refine⟨fun h=>?_,fun h=>tvi (by_end hj (of_decide_eq_false h))⟩
   have h:s>=0:=of_decide_eq_true h
   obtain⟨e1,e2,e3⟩:=by_step hj h
   rw[e1]
   refine⟨h,fun h5=>⟨by decide,by decide,by decide,tvi ⟨e2 (by simpa using h5),by show (s-8+8).toNat<(s+8).toNat;omega⟩⟩,fun h5=>tvi ⟨e3 (by simpa using h5),by show (s-8+8).toNat<(s+8).toNat;omega⟩⟩
  | false =>
   refine vcx (X:=((decide (s>=(0:Int))=true->(0:Int)<=s/\(((szI x).fdiv ((2:Int)^min s.toNat IntKind.u64.bits) != (0:Int))=true->0+1<=1/\m<=m/\(m+(1:Nat))*(1:Nat)<=(140737488355328:Nat)/\m+(1:Nat)<=(4611686018427387904:Nat)/\(byI (szI x) (IntKind.i64.wrap (s-(8:Int)),false,m+(1:Nat),List.take m l++List.take 1 [IntKind.u8.wrap ((szI x).fdiv ((2:Int)^min s.toNat IntKind.u64.bits))])).triv (byJ (szI x) (IntKind.i64.wrap (s-(8:Int)),false,m+(1:Nat),List.take m l++List.take 1 [IntKind.u8.wrap ((szI x).fdiv ((2:Int)^min s.toNat IntKind.u64.bits))])/\Int.toNat (IntKind.i64.wrap (s-(8:Int))+(8:Car (Kd.int IntKind.i64)))<Int.toNat (s+(8:Car (Kd.int IntKind.i64)))))/\(((szI x).fdiv ((2:Int)^min s.toNat IntKind.u64.bits) != (0:Int))=false->(byI (szI x) (IntKind.i64.wrap (s-(8:Int)),false,m,l)).triv (byJ (szI x) (IntKind.i64.wrap (s-(8:Int)),false,m,l)/\Int.toNat (IntKind.i64.wrap (s-(8:Int))+(8:Car (Kd.int IntKind.i64)))<Int.toNat (s+(8:Car (Kd.int IntKind.i64))))))/\(decide (s>=(0:Int))=false->(byI (szI x) (s,false,m,l)).triv (byO (szI x) (s,false,m,l))))) (by kernel_rfl) ?_
   refine⟨fun h=>?_,fun h=>tvi (by_end hj (of_decide_eq_false h))⟩
   have h:s>=0:=of_decide_eq_true h
   obtain⟨e1,e2,e3⟩:=by_step hj h
   rw[e1,show List.take m l=l by rw[k3,List.take_length]]
   refine⟨h,fun h5=>⟨by decide,Nat.le_refl _,by omega,by omega,tvi ⟨e2 (by simpa using h5),by show (s-8+8).toNat<(s+8).toNat;omega⟩⟩,fun h5=>tvi ⟨e3 (by simpa using h5),by show (s-8+8).toNat<(s+8).toNat;omega⟩⟩
 rintro⟨s,e,m,l⟩ ho
 revert s l
 intro (s:Int) (l:List Int) ⟨h1,h2,h3⟩
 have k1:l=byL (szI x) 8:=h1
 have k2:m=l.length:=h2
 refine tr_vc hsp mixed _ _ ?_
 cases e with
 | true =>
  have hl:l=[]:=h3 rfl
  refine vcx (X:=(([],())=outBytes (x,()))) (by kernel_rfl) ?_
  show _=(byL (szI x) 8,())
  rw[<- k1,hl]
 | false =>
  refine vcx (X:=((0:Nat)+m<=m/\(List.take m l,())=outBytes (x,()))) (by kernel_rfl) ?_
  rw[show List.take m l=l by rw[k2,List.take_length],k1]
  exact⟨by omega,rfl⟩
def spBytes:Nat × Eng.Spec:=(105,fnSpec [.int .i64] [.own (.int .u8)] pre1I outBytes)
theorem ent_at:enters Tryz.prog 16 Tryz.f16:=ek
def pat (p:List Fr) (x:Int):Fr:=opq (peval p (zm x))
theorem pat_eq (p:List Fr) (x:Int):pat p x=peval p (zm x):=opq_eq _
abbrev preAt:HL [.sl .fr,.int .i64]->Prop:=fun (p,x,_)=>List.length p<4611686018427387904/\preI x
abbrev outAt:HL [.sl .fr,.int .i64]->HO [.val .fr]:=fun (p,x,_)=>(pat p x,())
def atI (p:List Fr) (x:Int) (g:Int × Fr):St:=mkSt Tryz.f16.ntmps 80 [(0,.is (.one (.ro .fr p))),(4,.is (.one (.ptr 0 0))),(5,.is (.one (.ptr 24 0))),(6,.is (.one (.ptr 40 0))),(7,sI .i64 g.1)] [(0,[.row .fr 1 [0]]),(24,[.row .fr 1 [sclI x]]),(40,[.row .fr 1 [g.2]])]
def atJ (p:List Fr) (x:Int) (g:Int × Fr):Prop:=∃ k:Nat,k<=p.length/\g.1=(k:Int)-1/\g.2=peval (p.drop k) (zm x)
theorem fn_at:FnOk Tryz.prog 16 [.sl .fr,.int .i64] [.val .fr] noG preAt outAt:=by
 have hsp:SpecsOk Tryz.prog (sps [spScalar,fr.spMul,fr.spAdd]):=(spk (fok fn_scalar) (spk (fok fr.fn_mul) (spk (fok fr.fn_add) snl)))
 refine fn_of_tr (sp:=sps [spScalar,fr.spMul,fr.spAdd]) ent_at (by decide) (by decide) (by kernel_rfl) ?_
 rintro w M0 ⟨p,x,⟨⟩⟩
 revert p x
 intro (p:List Fr) (x:Int) _ hp
 obtain⟨hl,hx⟩:=hp
 have hl:p.length<4611686018427387904:=hl
 show Tr _ _ _ _ _ _ _
 have ew:IntKind.i64.wrap ((p.length:Int)-1)=(p.length:Int)-1:=wrap_i64' (by omega) (by omega)
 refine tr_cut hsp mixed 4 (atI p x (IntKind.i64.wrap ((p.length:Int)-1),0)) True ?_ (fun _=>?_)
 ·refine vcx (X:=(pre1I (x,())/\(atI p x (IntKind.i64.wrap ((↑p.length:Int)-(1:Int)),(0:Fr))).triv True)) (by kernel_rfl) ?_
  exact⟨hx,tvi trivial⟩
 refine tr_while hsp mixed noSw (fun σ=>(rdS (.int .i64) 7 σ,rdB .fr 40 σ)) (atI p x) (atJ p x) (fun g=>(g.1+1).toNat)
  (fun σ=>(rdS (.int .i64) 7 σ,rdB .fr 40 σ)) (atI p x) (fun g=>g.2=peval p (zm x)) (IntKind.i64.wrap ((p.length:Int)-1),0) (c:=nthC (codeOf Tryz.f16) 4) (by kernel_rfl) (by kernel_rfl) (le_of_proj (by kernel_rfl) (by kernel_rfl) ?_) ?_ ?_
 ·refine⟨p.length,Nat.le_refl _,ew,?_⟩
  show 0=_
  rw[List.drop_length];rfl
 ·rintro⟨i,s⟩ hj
  revert i s
  intro (i:Int) (s:Fr) ⟨k,hk,ei,es⟩
  have ei:i=(k:Int)-1:=ei
  have es:s=peval (p.drop k) (zm x):=es
  refine vcx (X:=((decide (i>=(0:Int))=true->True/\((0:Int)<=i/\i<(↑p.length:Int))/\i.toNat<p.length/\True/\(atI p x (IntKind.i64.wrap (i-(1:Int)),s*sclI x+p.getD i.toNat (0:Fr))).triv (atJ p x (IntKind.i64.wrap (i-(1:Int)),s*sclI x+p.getD i.toNat (0:Fr))/\Int.toNat (IntKind.i64.wrap (i-(1:Int))+(1:Car (Kd.int IntKind.i64)))<Int.toNat (i+(1:Car (Kd.int IntKind.i64)))))/\(decide (i>=(0:Int))=false->(atI p x (i,s)).triv (s=peval p (zmr x))))) (by kernel_rfl) ?_
  refine⟨fun h=>?_,fun h=>tvi ?_⟩
  ·have h:i>=0:=of_decide_eq_true h
   have hik:i=((k-1:Nat):Int):=by omega
   have hk1:k-1<p.length:=by omega
   have hd:p.drop (k-1)=p[k-1]::p.drop k:=by
    rw[List.drop_eq_getElem_cons hk1,show k-1+1=k by omega]
   have e:s*sclI x+p.getD i.toNat 0=peval (p.drop (k-1)) (zm x):=by
    rw[hik,Int.toNat_natCast,List.getD_eq_getElem?_getD,List.getElem?_eq_getElem hk1,Option.getD_some,hd,es,sclI_eq]
    rfl
   have ew':IntKind.i64.wrap (i-1)=i-1:=wrap_i64' (by omega) (by omega)
   rw[ew']
   exact⟨trivial,⟨h,by omega⟩,by omega,trivial,tvi ⟨⟨k-1,by omega,by show i-1=_;omega,e⟩,by show (i-1+1).toNat<(i+1).toNat;omega⟩⟩
  ·have h:¬ i>=0:=of_decide_eq_false h
   have:k=0:=by omega
   subst this
   exact es
 rintro⟨i,s⟩ hj
 revert i s
 intro (i:Int) (s:Fr) (hj:s=peval p (zm x))
 refine tr_vc hsp mixed _ _ ?_
 refine vcx (X:=((s,())=outAt (p,x,()))) (by kernel_rfl) ?_
 show _=(pat p x,())
 rw[pat_eq,hj]
def spAt:Nat × Eng.Spec:=(16,fnSpec [.sl .fr,.int .i64] [.val .fr] preAt outAt)
theorem ent_commit:enters Tryz.prog 18 Tryz.f18:=ek
def cmt (p:List Fr):List (Fp × Fp):=p.map (g1.gmul g1.gG)
abbrev preCommit:HL [.sl .fr]->Prop:=fun (p,_)=>List.length p<1048576
abbrev outCommit:HL [.sl .fr]->HO [.own pt1]:=fun (p,_)=>(cmt p,())
def cmI (p:List Fr) (g:Int × List (Fp × Fp)):St:=mkSt Tryz.f18.ntmps 64 [(3,.is (.one (.sl 24 0 0 (p.length:Int).toNat 12))),(9,.is (.one (.ro .fr p))),(10,sI .i64 p.length),(11,sI .i64 g.1)] [(24,[.row pt1 (p.length:Int).toNat g.2])]
def cmL (p:List Fr) (k:Nat):List (Fp × Fp):=(p.take k).map (g1.gmul g1.gG)++List.replicate (p.length-k) (0,0)
def cmJ (p:List Fr) (g:Int × List (Fp × Fp)):Prop:=∃ k:Nat,k<=p.length/\g.1=(k:Int)/\g.2=cmL p k
theorem cmL_step {p:List Fr} {k:Nat} (h:k<p.length):(cmL p k).set k (g1.gmul g1.gG (p.getD k 0))=cmL p (k+1):=by
 unfold cmL
 rw[List.set_append_right _ _ (by simp;omega),List.take_succ_eq_append_getElem h]
 have e:p.length-k=(p.length-(k+1))+1:=by omega
 have e2:k-((p.take k).map (g1.gmul g1.gG)).length=0:=by simp;omega
 rw[e2,e,List.replicate_succ,List.set_cons_zero,List.map_append,List.append_assoc]
 simp[h]
theorem fn_commit:FnOk Tryz.prog 18 [.sl .fr] [.own pt1] noG preCommit outCommit:=by
 have hsp:SpecsOk Tryz.prog (sps [g1.soGen,g1.soMul]):=(spk (fok g1.fo_gen) (spk (fok g1.fo_mul) snl))
 refine fn_of_tr (sp:=sps [g1.soGen,g1.soMul]) ent_commit (by decide) (by decide) (by kernel_rfl) ?_
 rintro w M0 ⟨p,⟨⟩⟩
 revert p
 intro (p:List Fr) _ hl
 have hl:p.length<1048576:=hl
 show Tr _ _ _ _ _ _ _
 refine tr_cut hsp mixed 3 (cmI p (0,List.replicate (p.length:Int).toNat (0,0))) True ?_ (fun _=>?_)
 ·refine vcx (X:=(((0:Int)<=(↑p.length:Int)/\(↑p.length:Int)<=(↑p.length:Int)/\(↑(96:Nat):Int)*(↑p.length:Int)<=(281474976710656:Int)/\(↑p.length:Int)<=(9223372036854775807:Int))/\(cmI p ((0:Int),List.replicate (↑p.length:Int).toNat ((0:Fp),(0:Fp)))).triv True)) (by kernel_rfl) ?_
  exact⟨⟨by omega,by omega,by omega,by omega⟩,tvi trivial⟩
 refine tr_while hsp mixed noSw (fun σ=>(rdS (.int .i64) 11 σ,rdR pt1 24 σ)) (cmI p) (cmJ p) (fun g=>p.length-g.1.toNat)
  (fun σ=>(rdS (.int .i64) 11 σ,rdR pt1 24 σ)) (cmI p) (fun g=>g.2=cmt p) (0,List.replicate (p.length:Int).toNat (0,0)) (c:=nthC (codeOf Tryz.f18) 3) (by kernel_rfl) (by kernel_rfl) (le_of_proj (by kernel_rfl) (by kernel_rfl) ?_) ?_ ?_
 ·exact⟨0,Nat.zero_le _,rfl,by simp[cmL]⟩
 ·rintro⟨i,l⟩ hj
  revert i l
  intro (i:Int) (l:List (Fp × Fp)) ⟨k,hk,ei,el⟩
  have ei:i=(k:Int):=ei
  have kl:l=cmL p k:=el
  subst ei
  refine vcx (X:=((decide ((↑k:Int)<(↑p.length:Int))=true->((0:Int)<=(↑k:Int)/\(↑k:Int)<(↑p.length:Int))/\(↑k:Int).toNat<p.length/\True/\True/\((0:Int)<=(↑k:Int)/\(↑k:Int)<(↑(↑p.length:Int).toNat:Int))/\(↑k:Int).toNat<(↑p.length:Int).toNat/\(cmI p (IntKind.i64.wrap ((↑k:Int)+(1:Int)),l.set (↑k:Int).toNat (g1.gmul g1.gG (p.getD (↑k:Int).toNat (0:Fr))))).triv (cmJ p (IntKind.i64.wrap ((↑k:Int)+(1:Int)),l.set (↑k:Int).toNat (g1.gmul g1.gG (p.getD (↑k:Int).toNat (0:Fr))))/\p.length-(IntKind.i64.wrap ((↑k:Int)+(1:Int))).toNat<p.length-(↑k:Int).toNat))/\(decide ((↑k:Int)<(↑p.length:Int))=false->(cmI p ((↑k:Int),l)).triv (l=cmt p)))) (by kernel_rfl) ?_
  rw[Int.toNat_natCast,Int.toNat_natCast]
  refine⟨fun h=>?_,fun h=>tvi ?_⟩
  ·have hlt:k<p.length:=by have:=dec_lt h;omega
   rw[wrap_succ (by omega)]
   refine⟨⟨by omega,by omega⟩,hlt,trivial,trivial,⟨by omega,by omega⟩,hlt,tvi ⟨⟨k+1,hlt,rfl,?_⟩,?_⟩⟩
   ·show l.set k _=_
    rw[kl,cmL_step hlt]
   ·show p.length-((k+1:Nat):Int).toNat<p.length-(k:Int).toNat
    rw[Int.toNat_natCast,Int.toNat_natCast];omega
  ·have:k=p.length:=by have:=dec_ge h;omega
   show l=cmt p
   rw[kl,this,cmL,List.take_length,Nat.sub_self]
   exact List.append_nil _
 rintro⟨i,l⟩ hj
 revert i l
 intro (i:Int) (l:List (Fp × Fp)) (hj:l=cmt p)
 refine tr_vc hsp mixed _ _ ?_
 refine vcx (X:=((0:Nat)+(↑p.length:Int).toNat<=(↑p.length:Int).toNat/\(List.take (↑p.length:Int).toNat l,())=outCommit (p,()))) (by kernel_rfl) ?_
 rw[Int.toNat_natCast]
 refine⟨by omega,?_⟩
 show (_,())=(cmt p,())
 rw[hj,List.take_of_length_le (by simp[cmt])]
def spCommit:Nat × Eng.Spec:=(18,fnSpec [.sl .fr] [.own pt1] preCommit outCommit)
end
end Go.Proofs.YtbeeaekepmnfhaaGreatDoor.poly
namespace Go.Proofs.YtbeeaekepmnfhaaGreatDoor.poly
noncomputable section
open Go Go.Eng Go.RowKit Cr
theorem ent_cat:enters Tryz.prog 63 Tryz.f63:=ek
def catS (x:Int) (s:Fp × Fp):Fp × Fp:=if x<0 then g1.gneg (g1.gtms s (bysI x)) else g1.gtms s (bysI x)
def catF (x:Int):List (Fp × Fp)->Fp × Fp
 | []=>(0,0)
 | p::l=>g1.gadd (catS x (catF x l)) p
abbrev preCat:HL [.sl pt1,.int .i64]->Prop:=fun (c,x,_)=>List.length c<4611686018427387904/\preI x
abbrev outCat:HL [.sl pt1,.int .i64]->HO [.val pt1]:=fun (c,x,_)=>(catF x c,())
def catI (c:List (Fp × Fp)) (x:Int) (g:Int × (Fp × Fp)):St:=mkSt Tryz.f63.ntmps 72 [(0,.is (.one (.ro pt1 c))),(1,sI .i64 x),(4,.is (.one (.ptr 0 0))),(5,.is (.one (.sl 16 0 0 (bysI x).length 1))),(6,.is (.one (.ptr 32 0))),(7,sI .i64 g.1)] [(0,g1.pc (0,0)),(16,[.ints .u8 (bysI x).length (bysI x)]),(32,g1.pc g.2)]
def catJ (c:List (Fp × Fp)) (x:Int) (g:Int × (Fp × Fp)):Prop:=∃ k:Nat,k<=c.length/\g.1=(k:Int)-1/\g.2=catF x (c.drop k)
def catO (c:List (Fp × Fp)) (x:Int) (g:Int × (Fp × Fp)):Prop:=g.2=catF x c
theorem bysI_ok {x:Int} (hx:preI x):Bs (bysI x)/\(bysI x).length<=8/\num (bysI x)=szI x:=by
 have hz:=szI_ok hx
 have h:=byL_ok hz.1 (show szI x<p256 8 from Int.lt_of_le_of_lt hz.2 (by decide)) 8 (by decide)
 refine⟨h.1,h.2.1,?_⟩
 rw[show num (bysI x)=szI x/p256 (8-8) from h.2.2]
 exact Int.ediv_one _
theorem fn_cat:FnOk Tryz.prog 63 [.sl pt1,.int .i64] [.val pt1] noG preCat outCat:=by
 have hsp:SpecsOk Tryz.prog (sps [spBytes,g1.soTimes,g1.soNeg,g1.soAdd]):=(spk (fok fn_bytes) (spk (fok g1.fo_times) (spk (fok g1.fo_neg) (spk (fok g1.fo_add) snl))))
 refine fn_of_tr (sp:=sps [spBytes,g1.soTimes,g1.soNeg,g1.soAdd]) ent_cat (by decide) (by decide) (by kernel_rfl) ?_
 rintro w M0 ⟨c,x,⟨⟩⟩
 revert c x
 intro (c:List (Fp × Fp)) (x:Int) _ hp
 obtain⟨hl,hx⟩:=hp
 have hl:c.length<4611686018427387904:=hl
 show Tr _ _ _ _ _ _ _
 obtain⟨b1,b2,b3⟩:=bysI_ok hx
 have ew:IntKind.i64.wrap ((c.length:Int)-1)=(c.length:Int)-1:=wrap_i64' (by omega) (by omega)
 refine tr_cut hsp mixed 4 (catI c x (IntKind.i64.wrap ((c.length:Int)-1),(0,0))) True ?_ (fun _=>?_)
 ·refine vcx (X:=(pre1I (x,())/\(catI c x (IntKind.i64.wrap ((↑c.length:Int)-(1:Int)),(0:Fp),(0:Fp))).triv True)) (by kernel_rfl) ?_
  exact⟨hx,tvi trivial⟩
 refine tr_while hsp mixed noSw (fun σ=>(rdS (.int .i64) 7 σ,rdB pt1 32 σ)) (catI c x) (catJ c x) (fun g=>(g.1+1).toNat)
  (fun σ=>(rdS (.int .i64) 7 σ,rdB pt1 32 σ)) (catI c x) (catO c x) (IntKind.i64.wrap ((c.length:Int)-1),(0,0)) (c:=nthC (codeOf Tryz.f63) 4) (by kernel_rfl) (by kernel_rfl) (le_of_proj (by kernel_rfl) (by kernel_rfl) ?_) ?_ ?_
 ·refine⟨c.length,Nat.le_refl _,ew,?_⟩
  show (0,0)=_
  rw[List.drop_length];rfl
 ·rintro⟨i,s⟩ hj
  revert i s
  intro (i:Int) (s:Fp × Fp) ⟨k,hk,ei,es⟩
  have ei:i=(k:Int)-1:=ei
  have es:s=catF x (c.drop k):=es
  refine vcx (X:=((decide (i>=(0:Int))=true->(0:Nat)+(bysI x).length<=(bysI x).length/\g1.preTimes (s,List.take (bysI x).length (bysI x),())/\(decide (x<(0:Int))=true->True/\((0:Int)<=i/\i<(↑c.length:Int))/\i.toNat<c.length/\True/\(catI c x (IntKind.i64.wrap (i-(1:Int)),g1.gadd (g1.gneg (g1.gtms s (List.take (bysI x).length (bysI x)))) (c.getD i.toNat ((0:Fp),(0:Fp))))).triv (catJ c x (IntKind.i64.wrap (i-(1:Int)),g1.gadd (g1.gneg (g1.gtms s (List.take (bysI x).length (bysI x)))) (c.getD i.toNat ((0:Fp),(0:Fp))))/\Int.toNat (IntKind.i64.wrap (i-(1:Int))+(1:Car (Kd.int IntKind.i64)))<Int.toNat (i+(1:Car (Kd.int IntKind.i64)))))/\(decide (x<(0:Int))=false->((0:Int)<=i/\i<(↑c.length:Int))/\i.toNat<c.length/\True/\(catI c x (IntKind.i64.wrap (i-(1:Int)),g1.gadd (g1.gtms s (List.take (bysI x).length (bysI x))) (c.getD i.toNat ((0:Fp),(0:Fp))))).triv (catJ c x (IntKind.i64.wrap (i-(1:Int)),g1.gadd (g1.gtms s (List.take (bysI x).length (bysI x))) (c.getD i.toNat ((0:Fp),(0:Fp))))/\Int.toNat (IntKind.i64.wrap (i-(1:Int))+(1:Car (Kd.int IntKind.i64)))<Int.toNat (i+(1:Car (Kd.int IntKind.i64))))))/\(decide (i>=(0:Int))=false->(catI c x (i,s)).triv (catO c x (i,s))))) (by kernel_rfl) ?_
  have pt:g1.preTimes (s,(bysI x).take (bysI x).length,()):=by rw[List.take_length];exact⟨b1,by show (bysI x).length<_;omega⟩
  refine⟨fun h=>?_,fun h=>tvi ?_⟩
  ·have h:i>=0:=of_decide_eq_true h
   have hik:i=((k-1:Nat):Int):=by omega
   have hk1:k-1<c.length:=by omega
   have hd:c.drop (k-1)=c[k-1]::c.drop k:=by
    rw[List.drop_eq_getElem_cons hk1,show k-1+1=k by omega]
   have hg:c.getD i.toNat (0,0)=c[k-1]:=by rw[hik,Int.toNat_natCast,List.getD_eq_getElem?_getD,List.getElem?_eq_getElem hk1,Option.getD_some]
   have ew':IntKind.i64.wrap (i-1)=i-1:=wrap_i64' (by omega) (by omega)
   rw[ew',hg]
   rw[List.take_length] at pt ⊢
   refine⟨by omega,pt,fun hx0=>⟨trivial,⟨h,by omega⟩,by omega,trivial,tvi ⟨⟨k-1,by omega,by show i-1=_;omega,?_⟩,by show (i-1+1).toNat<(i+1).toNat;omega⟩⟩,fun hx0=>⟨⟨h,by omega⟩,by omega,trivial,tvi ⟨⟨k-1,by omega,by show i-1=_;omega,?_⟩,by show (i-1+1).toNat<(i+1).toNat;omega⟩⟩⟩
   ·show g1.gadd _ _=catF x (c.drop (k-1))
    rw[hd,catF,catS,if_pos (of_decide_eq_true hx0),es]
   ·show g1.gadd _ _=catF x (c.drop (k-1))
    rw[hd,catF,catS,if_neg (of_decide_eq_false hx0),es]
  ·have h:¬ i>=0:=of_decide_eq_false h
   have:k=0:=by omega
   subst this
   exact es
 rintro⟨i,s⟩ hj
 revert i s
 intro (i:Int) (s:Fp × Fp) (hj:s=catF x c)
 refine tr_vc hsp mixed _ _ ?_
 refine vcx (X:=((s,())=outCat (c,x,()))) (by kernel_rfl) ?_
 rw[hj]
def spCat:Nat × Eng.Spec:=(63,fnSpec [.sl pt1,.int .i64] [.val pt1] preCat outCat)
theorem ent_weights:enters Tryz.prog 139 Tryz.f139:=ek
def plE (seen:List Int):List Int->Int
 | []=>0
 | x::xs=>if x<1\/x>9 then 34 else if x∈seen then 33 else plE (x::seen) xs
def wtI (xs:List Int) (x:Int):Fr:=opq (wgt (xs.map fun y=>(zm y:Fr)) (zm x))
def wtsF (xs:List Int):List Fr:=if plE [] xs=0 then xs.map (wtI xs) else []
abbrev preWeights:HL [.sl (.int .i64)]->Prop:=fun (xs,_)=>List.length xs<4611686018427387904/\∀ x∈(xs:List Int),preI x
abbrev outWeights:HL [.sl (.int .i64)]->HO [.own .fr,.val (.int .i64)]:=fun (xs,_)=>(wtsF xs,plE [] xs,())
def snL (done:List Int):List Bool:=(List.range 10).map fun (v:Nat)=>decide ((v:Int)∈done)
def w1I (xs:List Int) (g:Int × List Bool):St:=mkSt Tryz.f139.ntmps 48 [(0,.is (.one (.ro (.int .i64) xs))),(2,.is (.one (.v (.slice none 0 0)))),(3,sI .i64 0),(4,.is (.one (.ptr 16 0))),(14,.is (.one (.ro (.int .i64) xs))),(15,sI .i64 xs.length),(16,sI .i64 g.1)] [(16,[.row .bool 10 g.2])]
def w1J (xs:List Int) (g:Int × List Bool):Prop:=∃ k:Nat,k<=xs.length/\g.1=(k:Int)/\g.2=snL (xs.take k).reverse/\plE [] xs=plE (xs.take k).reverse (xs.drop k)
def w1O (xs:List Int):St:=mkSt Tryz.f139.ntmps 48 [(0,.is (.one (.ro (.int .i64) xs))),(2,.is (.one (.v (.slice none 0 0)))),(3,sI .i64 0)] []
theorem snL_get {l:List Int} {x:Int} (h0:0<=x) (h1:x<10):(snL l).getD x.toNat false=decide (x∈l):=by
 obtain⟨n,rfl⟩:=Int.eq_ofNat_of_zero_le h0
 have:n<10:=by omega
 simp[snL,this]
theorem snL_set {l:List Int} {x:Int} (h0:0<=x) (h1:x<10):(snL l).set x.toNat true=snL (x::l):=by
 obtain⟨n,rfl⟩:=Int.eq_ofNat_of_zero_le h0
 refine List.ext_getElem (by simp[snL]) fun i h2 h3=>?_
 rw[List.getElem_set]
 split
 ·rename_i e
  have e:n=i:=by simpa using e
  subst e;simp[snL]
 ·rename_i e
  have e:¬ (i:Int)=(n:Int):=by simp at e;omega
  simp[snL,e]
def w2I (xs:List Int) (g:Int × List Fr):St:=mkSt Tryz.f139.ntmps 104 [(0,.is (.one (.ro (.int .i64) xs))),(2,.is (.one (.v (.slice none 0 0)))),(3,sI .i64 0),(7,.is (.one (.sl 64 0 0 (xs.length:Int).toNat 4))),(35,.is (.one (.ro (.int .i64) xs))),(36,sI .i64 xs.length),(37,sI .i64 g.1)] [(64,[.row .fr (xs.length:Int).toNat g.2])]
def w2J (xs:List Int) (g:Int × List Fr):Prop:=∃ k:Nat,k<=xs.length/\g.1=(k:Int)/\g.2=(xs.take k).map (wtI xs)++List.replicate (xs.length-k) 0
def w2O (xs:List Int) (g:Int × List Fr):Prop:=g.2=xs.map (wtI xs)
theorem plE_ok:∀ {xs seen:List Int},plE seen xs=0->(∀ x∈xs,(1<=x/\x<=9)/\x∉seen)/\xs.Nodup
 | [],_,_=>⟨(fun _ h=>nomatch h),List.nodup_nil⟩
 | x::xs,seen,h=>by
  unfold plE at h
  split at h
  ·cases h
  ·rename_i h1
   split at h
   ·cases h
   ·rename_i h2
    obtain⟨h3,h4⟩:=plE_ok h
    refine⟨fun y hy=>?_,List.nodup_cons.2 ⟨fun hx=>(h3 x hx).2 (by simp),h4⟩⟩
    rcases List.mem_cons.1 hy with rfl|hy
    ·exact⟨by omega,h2⟩
    ·exact⟨(h3 y hy).1,fun hs=>(h3 y hy).2 (by simp[hs])⟩
theorem nodup_len:∀ (n:Nat) {xs:List Int},xs.Nodup->(∀ x∈xs,1<=x/\x<=(n:Int))->xs.length<=n
 | 0,xs,_,h=>by
  cases xs with
  | nil=>exact Nat.le_refl _
  | cons a l=>have:=h a (by simp);omega
 | n+1,xs,hd,h=>by
  have h1:=nodup_len n (xs:=xs.erase ((n+1:Nat):Int)) (hd.erase _) (fun x hx=>by
   have hm:=(List.Nodup.mem_erase_iff hd).1 hx
   have:=h x hm.2
   have hne:=hm.1
   omega)
  by_cases hm:((n+1:Nat):Int)∈xs
  ·rw[List.length_erase_of_mem hm] at h1;omega
  ·rw[List.erase_of_not_mem hm] at h1;omega
theorem plE_len {xs:List Int} (h:plE [] xs=0):xs.length<=9:=by
 obtain⟨h1,h2⟩:=plE_ok h
 exact nodup_len 9 h2 fun x hx=>(h1 x hx).1
theorem zm_inj9 {x y:Int} (hx:1<=x/\x<=9) (hy:1<=y/\y<=9) (h:(zm x:Fr)=zm y):x=y:=by
 have h:x%Mr=y%Mr:=congrArg Zm.v h
 rw[Int.emod_eq_of_lt (by omega) (by unfold Mr;omega),Int.emod_eq_of_lt (by omega) (by unfold Mr;omega)] at h
 exact h
theorem prd_snoc {F:Type} [Rg F]:∀ (l:List F) (a:F),prd (l++[a])=prd l*a
 | [],a=>by show a*1=1*a;rw[Rg.mul_comm]
 | b::l,a=>by show b*prd (l++[a])=b*prd l*a;rw[prd_snoc l a,Rg.mul_assoc]
def oth (xs:List Int) (x:Int):List Int:=xs.filter fun y=>decide (y≠x)
def abv (xs:List Int) (x:Int):Fr:=prd ((oth xs x).map fun y=>(zm y:Fr))
def blw (xs:List Int) (x:Int):Fr:=prd ((oth xs x).map fun y=>(zm (y-x):Fr))
theorem oth_snoc (xs:List Int) (x y:Int):oth (xs++[y]) x=if y=x then oth xs x else oth xs x++[y]:=by
 unfold oth
 rw[List.filter_append]
 by_cases h:y=x<;>simp[h]
theorem wtI_eq {xs:List Int} (h:∀ x∈xs,1<=x/\x<=9) {x:Int} (hx:x∈xs):wtI xs x=abv xs x*fr.zinv (blw xs x):=by
 have e:(xs.map fun y=>(zm y:Fr)).filter (fun y=>decide (y≠zm x))=(oth xs x).map fun y=>(zm y:Fr):=by
  rw[List.filter_map,oth]
  congr 1
  refine List.filter_congr fun y hy=>?_
  simp only[Function.comp,ne_eq]
  by_cases hyx:y=x
  ·simp[hyx]
  ·have:¬ (zm y:Fr)=zm x:=fun e=>hyx (zm_inj9 (h y hy) (h x hx) e)
   simp[hyx,this]
 rw[wtI,opq_eq,wgt,e,List.map_map]
 have e2:(fun y:Fr=>y-zm x)∘(fun y=>(zm y:Fr))=fun y=>(zm (y-x):Fr):=by
  funext y;simp only[Function.comp,zm_sub]
 rw[e2];rfl
def w3I (xs:List Int) (k:Nat) (x:Int) (l:List Fr) (g:Int × Fr × Fr):St:=mkSt Tryz.f139.ntmps 216 [(0,.is (.one (.ro (.int .i64) xs))),(2,.is (.one (.v (.slice none 0 0)))),(3,sI .i64 0),(7,.is (.one (.sl 64 0 0 (xs.length:Int).toNat 4))),(8,sI .i64 k),(9,sI .i64 x),(10,.is (.one (.ptr 160 0))),(11,.is (.one (.ptr 168 0))),(35,.is (.one (.ro (.int .i64) xs))),(36,sI .i64 xs.length),(37,sI .i64 k),(44,.is (.one (.ro (.int .i64) xs))),(45,sI .i64 xs.length),(46,sI .i64 g.1)] [(64,[.row .fr (xs.length:Int).toNat l]),(160,[.row .fr 1 [g.2.1]]),(168,[.row .fr 1 [g.2.2]])]
def w3J (xs:List Int) (x:Int) (g:Int × Fr × Fr):Prop:=∃ j:Nat,j<=xs.length/\g.1=(j:Int)/\g.2.1=abv (xs.take j) x/\g.2.2=blw (xs.take j) x
def w3O (xs:List Int) (x:Int) (g:Int × Fr × Fr):Prop:=g.2.1=abv xs x/\g.2.2=blw xs x
theorem fn_weights:FnOk Tryz.prog 139 [.sl (.int .i64)] [.own .fr,.val (.int .i64)] noG preWeights outWeights:=by
 have hsp:SpecsOk Tryz.prog (sps [fr.spOf,fr.spMul,spScalar,fr.spInv]):=(spk (fok fr.fn_of) (spk (fok fr.fn_mul) (spk (fok fn_scalar) (spk (fok fr.fn_inv) snl))))
 refine fn_of_tr (sp:=sps [fr.spOf,fr.spMul,spScalar,fr.spInv]) ent_weights (by decide) (by decide) (by kernel_rfl) ?_
 rintro w M0 ⟨xs,⟨⟩⟩
 revert xs
 intro (xs:List Int) _ hp
 obtain⟨hl,hx⟩:=hp
 have hl:xs.length<4611686018427387904:=hl
 have hx:∀ x∈xs,preI x:=hx
 show Tr _ _ _ _ _ _ _
 refine tr_cut hsp mixed 3 (w1I xs (0,List.replicate 10 false)) True ?_ (fun _=>?_)
 ·refine vcx (X:=((w1I xs ((0:Int),List.replicate (10:Nat) false)).triv True)) (by kernel_rfl) ?_
  exact tvi trivial
 refine tr_while hsp mixed noSw (fun σ=>(rdS (.int .i64) 16 σ,rdR .bool 16 σ)) (w1I xs) (w1J xs) (fun g=>xs.length-g.1.toNat)
  (fun _=>()) (fun _=>w1O xs) (fun _=>plE [] xs=0) (0,List.replicate 10 false) (c:=nthC (codeOf Tryz.f139) 3) (by kernel_rfl) (by kernel_rfl) (le_of_proj (by kernel_rfl) (by kernel_rfl) ?_) ?_ ?_
 ·exact⟨0,Nat.zero_le _,rfl,rfl,rfl⟩
 ·rintro⟨i,l⟩ hj
  revert i l
  intro (i:Int) (l:List Bool) ⟨k,hk,ei,el,ep⟩
  have ei:i=(k:Int):=ei
  have kl:l=snL (xs.take k).reverse:=el
  subst ei
  refine vcx (X:=((decide ((↑k:Int)<(↑xs.length:Int))=true->((0:Int)<=(↑k:Int)/\(↑k:Int)<(↑xs.length:Int))/\(↑k:Int).toNat<xs.length/\(decide (xs.getD (↑k:Int).toNat (0:Int)<(1:Int))=true->([],(34:Int),())=outWeights (xs,()))/\(decide (xs.getD (↑k:Int).toNat (0:Int)<(1:Int))=false->(decide (xs.getD (↑k:Int).toNat (0:Int)>(9:Int))=true->([],(34:Int),())=outWeights (xs,()))/\(decide (xs.getD (↑k:Int).toNat (0:Int)>(9:Int))=false->((0:Int)<=xs.getD (↑k:Int).toNat (0:Int)/\xs.getD (↑k:Int).toNat (0:Int)<(↑(10:Nat):Int))/\(xs.getD (↑k:Int).toNat (0:Int)).toNat<(10:Nat)/\(l.getD (xs.getD (↑k:Int).toNat (0:Int)).toNat false=true->([],(33:Int),())=outWeights (xs,()))/\(l.getD (xs.getD (↑k:Int).toNat (0:Int)).toNat false=false->((0:Int)<=xs.getD (↑k:Int).toNat (0:Int)/\xs.getD (↑k:Int).toNat (0:Int)<(↑(10:Nat):Int))/\(xs.getD (↑k:Int).toNat (0:Int)).toNat<(10:Nat)/\(w1I xs (IntKind.i64.wrap ((↑k:Int)+(1:Int)),l.set (xs.getD (↑k:Int).toNat (0:Int)).toNat true)).triv (w1J xs (IntKind.i64.wrap ((↑k:Int)+(1:Int)),l.set (xs.getD (↑k:Int).toNat (0:Int)).toNat true)/\xs.length-(IntKind.i64.wrap ((↑k:Int)+(1:Int))).toNat<xs.length-(↑k:Int).toNat)))))/\(decide ((↑k:Int)<(↑xs.length:Int))=false->(w1O xs).triv (plE [] xs=(0:Int))))) (by kernel_rfl) ?_
  rw[Int.toNat_natCast]
  refine⟨fun h=>?_,fun h=>tvi ?_⟩
  ·have hlt:k<xs.length:=by have:=dec_lt h;omega
   have hd:xs.drop k=xs[k]::xs.drop (k+1):=List.drop_eq_getElem_cons hlt
   have hg:xs.getD k 0=xs[k]:=by rw[List.getD_eq_getElem?_getD,List.getElem?_eq_getElem hlt,Option.getD_some]
   rw[hg,wrap_succ (by omega)]
   have hr:(xs.take (k+1)).reverse=xs[k]::(xs.take k).reverse:=by
    rw[List.take_succ_eq_append_getElem hlt,List.reverse_append];rfl
   rw[hd] at ep
   generalize xs[k]=x at *
   refine⟨⟨by omega,by omega⟩,hlt,fun h1=>?_,fun h1=>⟨fun h2=>?_,fun h2=>?_⟩⟩
   ·have h1:x<1:=of_decide_eq_true h1
    show _=(wtsF xs,plE [] xs,())
    rw[plE,if_pos (.inl h1)] at ep
    rw[wtsF,ep];rfl
   ·have h2:x>9:=of_decide_eq_true h2
    show _=(wtsF xs,plE [] xs,())
    rw[plE,if_pos (.inr h2)] at ep
    rw[wtsF,ep];rfl
   ·have h1:¬ x<1:=of_decide_eq_false h1
    have h2:¬ x>9:=of_decide_eq_false h2
    rw[plE,if_neg (by omega)] at ep
    have hm:l.getD x.toNat false=decide (x∈(xs.take k).reverse):=by
     rw[kl];exact snL_get (by omega) (by omega)
    rw[hm]
    refine⟨⟨by omega,by omega⟩,by omega,fun h3=>?_,fun h3=>⟨⟨by omega,by omega⟩,by omega,tvi ⟨⟨k+1,hlt,rfl,?_,?_⟩,?_⟩⟩⟩
    ·rw[if_pos (of_decide_eq_true h3)] at ep
     show _=(wtsF xs,plE [] xs,())
     rw[wtsF,ep];rfl
    ·show l.set x.toNat true=_
     rw[kl,snL_set (by omega) (by omega),hr]
    ·rw[if_neg (of_decide_eq_false h3)] at ep
     rw[ep,hr]
    ·show xs.length-((k+1:Nat):Int).toNat<xs.length-(k:Int).toNat
     rw[Int.toNat_natCast,Int.toNat_natCast];omega
  ·have:k=xs.length:=by have:=dec_ge h;omega
   rw[this,List.drop_length] at ep
   exact ep
 rintro⟨⟩ h0
 have h0:plE [] xs=0:=h0
 have hl9:xs.length<=9:=plE_len h0
 refine tr_cut hsp mixed 2 (w2I xs (0,List.replicate (xs.length:Int).toNat 0)) True ?_ (fun _=>?_)
 ·refine vcx (X:=(((0:Int)<=(↑xs.length:Int)/\(↑xs.length:Int)<=(↑xs.length:Int)/\(↑(32:Nat):Int)*(↑xs.length:Int)<=(281474976710656:Int)/\(↑xs.length:Int)<=(9223372036854775807:Int))/\(w2I xs ((0:Int),List.replicate (↑xs.length:Int).toNat (0:Fr))).triv True)) (by kernel_rfl) ?_
  exact⟨⟨by omega,by omega,by omega,by omega⟩,tvi trivial⟩
 refine tr_whileT noSw (fun σ=>(rdS (.int .i64) 37 σ,rdR .fr 64 σ)) (w2I xs) (w2J xs) (fun g=>xs.length-g.1.toNat)
  (fun σ=>(rdS (.int .i64) 37 σ,rdR .fr 64 σ)) (w2I xs) (w2O xs) (0,List.replicate (xs.length:Int).toNat 0) (c:=nthC (codeOf Tryz.f139) 6) (by kernel_rfl) (by kernel_rfl) (le_of_proj (by kernel_rfl) (by kernel_rfl) ?_) ?_ ?_
 ·exact⟨0,Nat.zero_le _,rfl,by simp⟩
 ·rintro⟨i,l⟩ hj
  revert i l
  intro (i:Int) (l:List Fr) ⟨k,hk,ei,el⟩
  have ei:i=(k:Int):=ei
  have kl:l=(xs.take k).map (wtI xs)++List.replicate (xs.length-k) 0:=el
  subst ei
  refine tr_cut hsp mixed 2 (w2I xs ((k:Int),l)) (k<xs.length) ?_ (fun hlt=>?_)
  ·refine vcx (X:=((decide ((↑k:Int)<(↑xs.length:Int))=true->(w2I xs ((↑k:Int),l)).triv (k<xs.length))/\(decide ((↑k:Int)<(↑xs.length:Int))=false->(w2I xs ((↑k:Int),l)).triv (w2O xs ((↑k:Int),l))))) (by kernel_rfl) ?_
   refine⟨fun h=>tvi (by have:=dec_lt h;omega),fun h=>tvi ?_⟩
   have:k=xs.length:=by have:=dec_ge h;omega
   show l=_
   rw[kl,this,List.take_length,Nat.sub_self]
   exact List.append_nil _
  refine tr_block (c:=nthC (loopOf (nthC (codeOf Tryz.f139) 6)) 2) (by kernel_rfl) (by kernel_rfl) ?_
  have hxk:xs[k]∈xs:=List.getElem_mem hlt
  obtain⟨hr9,_⟩:=plE_ok h0
  have hr9:∀ x∈xs,1<=x/\x<=9:=fun x hx=>(hr9 x hx).1
  have hgk:xs.getD k 0=xs[k]:=by rw[List.getD_eq_getElem?_getD,List.getElem?_eq_getElem hlt,Option.getD_some]
  generalize hxx:xs[k]=x at *
  refine tr_cut hsp mixed 3 (w3I xs k (xs.getD (k:Int).toNat 0) l (0,zm 1,zm 1)) True ?_ (fun _=>?_)
  ·refine vcx (X:=(((0:Int)<=(↑k:Int)/\(↑k:Int)<(↑xs.length:Int))/\(↑k:Int).toNat<xs.length/\U64 (1:Int)/\U64 (1:Int)/\(w3I xs k (xs.getD (↑k:Int).toNat (0:Int)) l ((0:Int),zmr (1:Int),zmr (1:Int))).triv True)) (by kernel_rfl) ?_
   exact⟨⟨by omega,by omega⟩,by omega,⟨by decide,by decide⟩,⟨by decide,by decide⟩,tvi trivial⟩
  rw[Int.toNat_natCast,hgk]
  refine tr_while hsp mixed noSw (fun σ=>(rdS (.int .i64) 46 σ,rdB .fr 160 σ,rdB .fr 168 σ)) (w3I xs k x l) (w3J xs x) (fun g=>xs.length-g.1.toNat)
   (fun σ=>(rdS (.int .i64) 46 σ,rdB .fr 160 σ,rdB .fr 168 σ)) (w3I xs k x l) (w3O xs x) (0,zm 1,zm 1) (c:=nthC (bodyOf (nthC (loopOf (nthC (codeOf Tryz.f139) 6)) 2)) 3) (by kernel_rfl) (by kernel_rfl) (le_of_proj (by kernel_rfl) (by kernel_rfl) ?_) ?_ ?_
  ·exact⟨0,Nat.zero_le _,rfl,rfl,rfl⟩
  ·rintro⟨j,a,b⟩ hj
   revert j a b
   intro (j:Int) (a:Fr) (b:Fr) ⟨n,hn,ej,ea,eb⟩
   have ej:j=(n:Int):=ej
   have ka:a=abv (xs.take n) x:=ea
   have kb:b=blw (xs.take n) x:=eb
   subst ej
   refine vcx (X:=((decide ((↑n:Int)<(↑xs.length:Int))=true->((0:Int)<=(↑n:Int)/\(↑n:Int)<(↑xs.length:Int))/\(↑n:Int).toNat<xs.length/\((xs.getD (↑n:Int).toNat (0:Int) != x)=true->pre1I (xs.getD (↑n:Int).toNat (0:Int),())/\True/\pre1I (IntKind.i64.wrap (xs.getD (↑n:Int).toNat (0:Int)-x),())/\True/\(w3I xs k x l (IntKind.i64.wrap ((↑n:Int)+(1:Int)),a*sclI (xs.getD (↑n:Int).toNat (0:Int)),b*sclI (IntKind.i64.wrap (xs.getD (↑n:Int).toNat (0:Int)-x)))).triv (w3J xs x (IntKind.i64.wrap ((↑n:Int)+(1:Int)),a*sclI (xs.getD (↑n:Int).toNat (0:Int)),b*sclI (IntKind.i64.wrap (xs.getD (↑n:Int).toNat (0:Int)-x)))/\xs.length-(IntKind.i64.wrap ((↑n:Int)+(1:Int))).toNat<xs.length-(↑n:Int).toNat))/\((xs.getD (↑n:Int).toNat (0:Int) != x)=false->(w3I xs k x l (IntKind.i64.wrap ((↑n:Int)+(1:Int)),a,b)).triv (w3J xs x (IntKind.i64.wrap ((↑n:Int)+(1:Int)),a,b)/\xs.length-(IntKind.i64.wrap ((↑n:Int)+(1:Int))).toNat<xs.length-(↑n:Int).toNat)))/\(decide ((↑n:Int)<(↑xs.length:Int))=false->(w3I xs k x l ((↑n:Int),a,b)).triv (w3O xs x ((↑n:Int),a,b))))) (by kernel_rfl) ?_
   rw[Int.toNat_natCast]
   refine⟨fun h=>?_,fun h=>tvi ?_⟩
   ·have hlt':n<xs.length:=by have:=dec_lt h;omega
    have hgn:xs.getD n 0=xs[n]:=by rw[List.getD_eq_getElem?_getD,List.getElem?_eq_getElem hlt',Option.getD_some]
    have hyn:xs[n]∈xs:=List.getElem_mem hlt'
    have htk:xs.take (n+1)=xs.take n++[xs[n]]:=List.take_succ_eq_append_getElem hlt'
    rw[hgn,wrap_succ (by omega)]
    generalize xs[n]=y at *
    have hy9:=hr9 y hyn
    have hx9:=hr9 x hxk
    have hyx:IntKind.i64.wrap (y-x)=y-x:=wrap_i64' (by omega) (by omega)
    rw[hyx]
    have hmu:xs.length-((n+1:Nat):Int).toNat<xs.length-(n:Int).toNat:=by rw[Int.toNat_natCast,Int.toNat_natCast];omega
    refine⟨⟨by omega,by omega⟩,hlt',fun h2=>⟨⟨by omega,by omega⟩,trivial,⟨by omega,by omega⟩,trivial,tvi ⟨⟨n+1,hlt',rfl,?_,?_⟩,hmu⟩⟩,fun h2=>tvi ⟨⟨n+1,hlt',rfl,?_,?_⟩,hmu⟩⟩
    ·have h2:¬ y=x:=by simpa using h2
     show a*sclI y=abv (xs.take (n+1)) x
     rw[htk,abv,oth_snoc,if_neg h2,List.map_append,List.map_cons,List.map_nil,prd_snoc,ka,sclI_eq];rfl
    ·have h2:¬ y=x:=by simpa using h2
     show b*sclI (y-x)=blw (xs.take (n+1)) x
     rw[htk,blw,oth_snoc,if_neg h2,List.map_append,List.map_cons,List.map_nil,prd_snoc,kb,sclI_eq];rfl
    ·have h2:y=x:=by simpa using h2
     show _=abv (xs.take (n+1)) x
     rw[htk,abv,oth_snoc,if_pos h2,ka];rfl
    ·have h2:y=x:=by simpa using h2
     show _=blw (xs.take (n+1)) x
     rw[htk,blw,oth_snoc,if_pos h2,kb];rfl
   ·have:n=xs.length:=by have:=dec_ge h;omega
    rw[this,List.take_length] at ka kb
    exact⟨ka,kb⟩
  rintro⟨j,a,b⟩ hj
  revert j a b
  intro (j:Int) (a:Fr) (b:Fr) ⟨ea,eb⟩
  have ka:a=abv xs x:=ea
  have kb:b=blw xs x:=eb
  refine tr_cut hsp mixed 1 (w2I xs ((k:Int),l.set k (a*fr.zinv b))) True ?_ (fun _=>?_)
  ·refine vcx (X:=(True/\True/\((0:Int)<=(↑k:Int)/\(↑k:Int)<(↑(↑xs.length:Int).toNat:Int))/\(↑k:Int).toNat<(↑xs.length:Int).toNat/\(w2I xs ((↑k:Int),l.set k (a*fr.zinv b))).triv True)) (by kernel_rfl) ?_
   exact⟨trivial,trivial,⟨by omega,by omega⟩,by omega,tvi trivial⟩
  refine tr_nil ?_
  refine tr_vc hsp mixed _ _ ?_
  refine vcx (X:=((w2I xs (IntKind.i64.wrap ((↑k:Int)+(1:Int)),l.set k (a*fr.zinv b))).triv (w2J xs (IntKind.i64.wrap ((↑k:Int)+(1:Int)),l.set k (a*fr.zinv b))/\xs.length-(IntKind.i64.wrap ((↑k:Int)+(1:Int))).toNat<xs.length-k))) (by kernel_rfl) ?_
  rw[wrap_succ (by omega)]
  refine tvi ⟨⟨k+1,hlt,rfl,?_⟩,by rw[Int.toNat_natCast];omega⟩
  show l.set k (a*fr.zinv b)=_
  rw[kl,ka,kb,<- wtI_eq hr9 hxk,List.set_append_right _ _ (by simp;omega),List.take_succ_eq_append_getElem hlt,hxx]
  have e:xs.length-k=(xs.length-(k+1))+1:=by omega
  have e2:k-((xs.take k).map (wtI xs)).length=0:=by simp;omega
  rw[e2,e,List.replicate_succ,List.set_cons_zero,List.map_append,List.append_assoc]
  rfl
 rintro⟨i,l⟩ hj
 revert i l
 intro (i:Int) (l:List Fr) (hj:l=xs.map (wtI xs))
 refine tr_vc hsp mixed _ _ ?_
 refine vcx (X:=((0:Nat)+(↑xs.length:Int).toNat<=(↑xs.length:Int).toNat/\(List.take (↑xs.length:Int).toNat l,(0:Int),())=outWeights (xs,()))) (by kernel_rfl) ?_
 rw[Int.toNat_natCast]
 refine⟨by omega,?_⟩
 show (_,_,())=(wtsF xs,plE [] xs,())
 rw[hj,wtsF,if_pos h0,h0,List.take_of_length_le (by simp)]
def spWeights:Nat × Eng.Spec:=(139,fnSpec [.sl (.int .i64)] [.own .fr,.val (.int .i64)] preWeights outWeights)
end
end Go.Proofs.YtbeeaekepmnfhaaGreatDoor.poly
namespace Cr
open Rg Fd
def addN2 (a b:Nat):Nat:=(a+b)%pN
def subN2 (a b:Nat):Nat:=(a+(pN-b%pN))%pN
def mulN2 (a b:Nat):Nat:=(a*b)%pN
theorem addN2_φ (a b:Nat):(zm ((addN2 a b:Nat):Int):Fp)=zm (a:Int)+zm (b:Int):=evP1.add_φ a b
theorem subN2_φ (a b:Nat):(zm ((subN2 a b:Nat):Int):Fp)=zm (a:Int)-zm (b:Int):=evP1.sub_φ a b
theorem mulN2_φ (a b:Nat):(zm ((mulN2 a b:Nat):Int):Fp)=zm (a:Int)*zm (b:Int):=evP1.mul_φ a b
noncomputable def evP2:Ev F2 where
 V:=Nat × Nat
 φ n:=(zm (n.1:Int),zm (n.2:Int))
 add a b:=(addN2 a.1 b.1,addN2 a.2 b.2)
 sub a b:=(subN2 a.1 b.1,subN2 a.2 b.2)
 mul a b:=(subN2 (a.1*b.1) (a.2*b.2),addN2 (a.1*b.2) (a.2*b.1))
 isz a:=Nat.beq (a.1%pN) 0&&Nat.beq (a.2%pN) 0
 zero:=(0,0)
 force a k:=fc a.1 fun x=>fc a.2 fun y=>k (x,y)
 add_φ a b:=by rw[F2.add_def,addN2_φ,addN2_φ]
 sub_φ a b:=by rw[F2.sub_def,subN2_φ,subN2_φ]
 mul_φ a b:=by
  rw[F2.mul_def,addN2_φ,subN2_φ]
  simp only[Int.natCast_mul,<- zm_mul]
 isz_φ a:=by
  rw[Bool.and_eq_true]
  have h1:=evP1.isz_φ a.1
  have h2:=evP1.isz_φ a.2
  constructor
  ·rintro⟨e1,e2⟩
   exact F2.ext (h1.1 e1) (h2.1 e2)
  ·intro e
   exact⟨h1.2 (congrArg Prod.fst e),h2.2 (congrArg Prod.snd e)⟩
 zero_φ:=rfl
 force_eq a k:=by rw[fc_eq,fc_eq]
def qxA:Nat:=0x024aa2b2f08f0a91260805272dc51051c6e47ad4fa403b02b4510b647ae3d1770bac0326a805bbefd48056c8c121bdb8
def qxB:Nat:=0x13e02b6052719f607dacd3a088274f65596bd0d09920b61ab5da61bbdc7f5049334cf11213945d57e5ac7d055d042b7e
def qyA:Nat:=0x0ce5d527727d6e118cc9cdc6da2e351aadfd9baa8cbdd3a76d429a695160d12c923ac9cc3baca289e193548608b82801
def qyB:Nat:=0x0606c4a02ea734cc32acd2b02bc28b99cb3e287e85a763af267492ab572e99ab3f370d275cec1da1aaa9075ff05f79be
theorem ord2_z:evP2.isz (evP2.mul2 ((qxA,qxB),(qyA,qyB),((1:Nat),(0:Nat))) 256 52435875175126190479447740508185965837690552500527637822603658699938581184513).2.2=true:=by kernel_rfl
end Cr
namespace Go.Proofs.YtbeeaekepmnfhaaGreatDoor.g2
open Go Go.Eng Go.RowKit Cr fp2
theorem gG_ne:gG≠O2:=by rw[gG_eq];exact fun h=>absurd (congrArg (fun p:F2 × F2=>p.1.1) h) (by decide)
abbrev rN:Nat:=g1.rN
theorem gG_ord:nmul gG rN=O2:=by
 have h1:Rep b4 (evP2.φ3 ((qxA,qxB),(qyA,qyB),((1:Nat),(0:Nat)))) gG:=by
  have h:=rep_lift gG_on
  unfold jlift at h
  rw[if_neg gG_ne,gG_eq] at h
  rw[gG_eq]
  exact h
 have h2:=Ev.mul2_rep b4_ne h1 256 rN (by decide)
 have h3:=(evP2.isz_φ _).1 ord2_z
 rcases h2 with ⟨_,h⟩|⟨h,_⟩
 ·exact h
 ·exact absurd h3 h
def Sub (p:F2 × F2):Prop:=Onb p/\nmul p rN=O2
theorem sub_G:Sub gG:=⟨gG_on,gG_ord⟩
theorem sub_nmul {p:F2 × F2} (h:Sub p) (n:Nat):Sub (nmul p n):=by
 refine⟨nmul_on b4_ne h.1 n,?_⟩
 rw[nmul_mul b4_ne h.1,Nat.mul_comm,<- nmul_mul b4_ne h.1,h.2,nmul_O]
theorem sub_gmul {p:F2 × F2} (h:Sub p) (k:Fr):Sub (gmul p k):=by rw[gmul_eq h.1];exact sub_nmul h _
theorem nmul_mod {p:F2 × F2} (h:Sub p) (m:Nat):nmul p m=nmul p (m%rN):=by
 conv=>lhs;rw[<- Nat.div_add_mod m rN]
 rw[nmul_add b4_ne h.1,<- nmul_mul b4_ne h.1,h.2,nmul_O,O_add]
theorem frv (x:Fr):∃ n:Nat,x.v=(n:Int)/\n<rN:=g1.frv x
theorem mul_of {p:F2 × F2} (h:Sub p) {x:Fr} {m:Nat} (hx:x.v=(m:Int)%(rN:Int)):gmul p x=nmul p m:=by
 rw[gmul_eq h.1,hx,nmul_mod h m,<- Int.natCast_emod,Int.toNat_natCast]
theorem mul_add {p:F2 × F2} (h:Sub p) (x y:Fr):gmul p (x+y)=padd (gmul p x) (gmul p y):=by
 obtain⟨m,hm,_⟩:=frv x
 obtain⟨n,hn,_⟩:=frv y
 rw[mul_of h (x:=x+y) (m:=m+n) (by rw[add_v,hm,hn,Int.natCast_add];rfl),gmul_eq h.1,gmul_eq h.1,hm,hn,Int.toNat_natCast,Int.toNat_natCast,nmul_add b4_ne h.1]
theorem mul_mul {p:F2 × F2} (h:Sub p) (x y:Fr):gmul p (x*y)=gmul (gmul p x) y:=by
 obtain⟨m,hm,_⟩:=frv x
 obtain⟨n,hn,_⟩:=frv y
 rw[mul_of h (x:=x*y) (m:=m*n) (by rw[mul_v,hm,hn,Int.natCast_mul];rfl),gmul_eq (sub_gmul h x).1,gmul_eq h.1,hm,hn,Int.toNat_natCast,Int.toNat_natCast,nmul_mul b4_ne h.1]
theorem mul_zero {p:F2 × F2} (h:Sub p):gmul p 0=O2:=by
 rw[gmul_eq h.1,zero_v];rfl
theorem mul_one {p:F2 × F2} (h:Sub p):gmul p 1=p:=by
 rw[gmul_eq h.1,one_v];exact nmul_one
end Go.Proofs.YtbeeaekepmnfhaaGreatDoor.g2
namespace Go.Proofs.YtbeeaekepmnfhaaGreatDoor.poly
noncomputable section
open Go Go.Eng Go.RowKit Cr
theorem ent_mixS:enters Tryz.prog 92 Tryz.f92:=ek
def mxS (ws:List Fr) (ts:List (F2 × F2)):Nat->F2 × F2
 | 0=>(0,0)
 | k+1=>g2.gadd (mxS ws ts k) (g2.gmul (ts.getD k (0,0)) (ws.getD k 0))
def mixS (xs:List Int) (ts:List (F2 × F2)):(F2 × F2) × Int:=if xs.length=ts.length then (if plE [] xs=0 then (mxS (wtsF xs) ts xs.length,0) else ((0,0),plE [] xs)) else ((0,0),1)
abbrev preMixS:HL [.sl (.int .i64),.sl g2.pt2]->Prop:=fun (xs,_,_)=>List.length xs<4611686018427387904/\∀ x∈(xs:List Int),preI x
abbrev outMixS:HL [.sl (.int .i64),.sl g2.pt2]->HO [.val g2.pt2,.val (.int .i64)]:=fun (xs,ts,_)=>((mixS xs ts).1,(mixS xs ts).2,())
def mIS (xs:List Int) (ts:List (F2 × F2)) (g:Int × (F2 × F2)):St:=mkSt Tryz.f92.ntmps 160 [(1,.is (.one (.ro g2.pt2 ts))),(2,fnSV 26),(3,fnSV 24),(8,.is (.one (.ptr 0 0))),(9,sI .i64 0),(10,.is (.one (.ptr 16 0))),(30,.is (.one (.sl 72 0 0 (wtsF xs).length 4))),(31,sI .i64 (wtsF xs).length),(32,sI .i64 g.1)] [(0,g2.pc (0,0)),(16,g2.pc g.2),(72,[.row .fr (wtsF xs).length (wtsF xs)])]
def mJS (xs:List Int) (ts:List (F2 × F2)) (g:Int × (F2 × F2)):Prop:=∃ k:Nat,k<=xs.length/\g.1=(k:Int)/\g.2=mxS (wtsF xs) ts k
def mOS (xs:List Int) (ts:List (F2 × F2)) (g:Int × (F2 × F2)):Prop:=g.2=mxS (wtsF xs) ts xs.length
theorem fn_mixS:FnOkT Tryz.prog 92 [.sl (.int .i64),.sl g2.pt2] ([26,24].map fnV) [.val g2.pt2,.val (.int .i64)] noG preMixS outMixS:=by
 have hsp:SpecsOk Tryz.prog (sps [spWeights,g2.soMul,g2.soAdd]):=(spk (fok fn_weights) (spk (fok g2.fo_mul) (spk (fok g2.fo_add) snl)))
 refine fn_of_trT (sp:=sps [spWeights,g2.soMul,g2.soAdd]) ent_mixS (by decide) (by decide) (by kernel_rfl) ?_
 rintro w M0 ⟨xs,ts,⟨⟩⟩
 revert xs ts
 intro (xs:List Int) (ts:List (F2 × F2)) _ hp
 have hpp:=hp
 obtain⟨hl,hx⟩:=hp
 have hl:xs.length<4611686018427387904:=hl
 show Tr _ _ _ _ _ _ _
 refine tr_cut hsp mixed 8 (mIS xs ts (0,(0,0))) (xs.length=ts.length/\plE [] xs=0) ?_ (fun hk=>?_)
 ·refine vcx (X:=((((↑xs.length:Int) != (↑ts.length:Int))=true->((((0:Fp),(0:Fp)),(0:Fp),(0:Fp)),(1:Int),())=outMixS (xs,ts,()))/\(((↑xs.length:Int) != (↑ts.length:Int))=false->preWeights (xs,())/\((plE [] xs != (0:Int))=true->((((0:Fp),(0:Fp)),(0:Fp),(0:Fp)),plE [] xs,())=outMixS (xs,ts,()))/\((plE [] xs != (0:Int))=false->(mIS xs ts ((0:Int),(0:F2),(0:F2))).triv (xs.length=ts.length/\plE [] xs=(0:Int)))))) (by kernel_rfl) ?_
  refine⟨fun h=>?_,fun h=>⟨hpp,fun h2=>?_,fun h2=>tvi ?_⟩⟩
  ·have h:¬ xs.length=ts.length:=by simp at h;omega
   show _=((mixS xs ts).1,(mixS xs ts).2,())
   rw[mixS,if_neg h];rfl
  ·have h:xs.length=ts.length:=by simp at h;omega
   have h2:¬ plE [] xs=0:=by simpa using h2
   show _=((mixS xs ts).1,(mixS xs ts).2,())
   rw[mixS,if_pos h,if_neg h2];rfl
  ·exact⟨by simp at h;omega,by simpa using h2⟩
 obtain⟨he,h0⟩:=hk
 have hwl:(wtsF xs).length=xs.length:=by rw[wtsF,if_pos h0,List.length_map]
 refine tr_while hsp mixed noSw (fun σ=>(rdS (.int .i64) 32 σ,rdB g2.pt2 16 σ)) (mIS xs ts) (mJS xs ts) (fun g=>xs.length-g.1.toNat)
  (fun σ=>(rdS (.int .i64) 32 σ,rdB g2.pt2 16 σ)) (mIS xs ts) (mOS xs ts) (0,(0,0)) (c:=nthC (codeOf Tryz.f92) 8) (by kernel_rfl) (by kernel_rfl) (le_of_proj (by kernel_rfl) (by kernel_rfl) ?_) ?_ ?_
 ·exact⟨0,Nat.zero_le _,rfl,rfl⟩
 ·rintro⟨i,s⟩ hj
  revert i s
  intro (i:Int) (s:F2 × F2) ⟨k,hk,ei,es⟩
  have ei:i=(k:Int):=ei
  have ks:s=mxS (wtsF xs) ts k:=es
  subst ei
  refine vcx (X:=((decide ((↑k:Int)<(↑(wtsF xs).length:Int))=true->((0:Int)<=(↑k:Int)/\(↑k:Int)<(↑(wtsF xs).length:Int))/\(↑k:Int).toNat<(wtsF xs).length/\((0:Int)<=(↑k:Int)/\(↑k:Int)<(↑ts.length:Int))/\(↑k:Int).toNat<ts.length/\True/\True/\(mIS xs ts (IntKind.i64.wrap ((↑k:Int)+(1:Int)),g2.gadd s (g2.gmul (ts.getD (↑k:Int).toNat (((0:Fp),(0:Fp)),(0:Fp),(0:Fp))) ((wtsF xs).getD (↑k:Int).toNat (0:Fr))))).triv (mJS xs ts (IntKind.i64.wrap ((↑k:Int)+(1:Int)),g2.gadd s (g2.gmul (ts.getD (↑k:Int).toNat (((0:Fp),(0:Fp)),(0:Fp),(0:Fp))) ((wtsF xs).getD (↑k:Int).toNat (0:Fr))))/\xs.length-(IntKind.i64.wrap ((↑k:Int)+(1:Int))).toNat<xs.length-(↑k:Int).toNat))/\(decide ((↑k:Int)<(↑(wtsF xs).length:Int))=false->(mIS xs ts ((↑k:Int),s)).triv (mOS xs ts ((↑k:Int),s))))) (by kernel_rfl) ?_
  rw[Int.toNat_natCast,hwl]
  refine⟨fun h=>?_,fun h=>tvi ?_⟩
  ·have hlt:k<xs.length:=by have:=dec_lt h;omega
   rw[wrap_succ (by omega)]
   refine⟨⟨by omega,by omega⟩,by omega,⟨by omega,by omega⟩,by omega,trivial,trivial,tvi ⟨⟨k+1,hlt,rfl,?_⟩,?_⟩⟩
   ·show g2.gadd (s) (g2.gmul (ts.getD k (0,0)) ((wtsF xs).getD k 0))=mxS _ ts (k+1)
    rw[ks];rfl
   ·show xs.length-((k+1:Nat):Int).toNat<xs.length-(k:Int).toNat
    rw[Int.toNat_natCast,Int.toNat_natCast];omega
  ·have:k=xs.length:=by have:=dec_ge h;omega
   show s=mxS _ ts _
   rw[ks,this]
 rintro⟨i,s⟩ hj
 revert i s
 intro (i:Int) (s:F2 × F2) (hj:s=mxS (wtsF xs) ts xs.length)
 refine tr_vc hsp mixed _ _ ?_
 refine vcx (X:=((s,(0:Int),())=outMixS (xs,ts,()))) (by kernel_rfl) ?_
 show _=((mixS xs ts).1,(mixS xs ts).2,())
 rw[mixS,if_pos he,if_pos h0,hj]
def spMixS:Nat × Eng.Spec:=(92,fnSpecT [.sl (.int .i64),.sl g2.pt2] [26,24] [.val g2.pt2,.val (.int .i64)] preMixS outMixS)
theorem ent_sig:enters Tryz.prog 53 Tryz.f53:=ek
theorem fn_sig:FnOk Tryz.prog 53 [.sl (.int .i64),.sl g2.pt2] [.val g2.pt2,.val (.int .i64)] noG preMixS outMixS:=by
 refine fn_of_vc (sp:=sps [spMixS]) (spk (fnSpecT_ok fn_mixS) snl) mixed ent_sig (by decide) (by decide) ?_
 rintro w M0 ⟨xs,ts,⟨⟩⟩
 revert xs ts
 intro (xs:List Int) (ts:List (F2 × F2)) _ hp
 refine vcx (X:=(preMixS (xs,ts,())/\((mixS xs ts).fst,(mixS xs ts).snd,())=outMixS (xs,ts,()))) (by kernel_rfl) ?_
 exact⟨hp,rfl⟩
def spSig:Nat × Eng.Spec:=(53,fnSpec [.sl (.int .i64),.sl g2.pt2] [.val g2.pt2,.val (.int .i64)] preMixS outMixS)
end
end Go.Proofs.YtbeeaekepmnfhaaGreatDoor.poly
