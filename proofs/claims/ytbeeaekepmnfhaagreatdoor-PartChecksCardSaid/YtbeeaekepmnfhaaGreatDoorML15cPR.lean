import Derived.Test.YtbeeaekepmnfhaaGreatDoorML15cPQ
set_option maxRecDepth 100000
namespace Go.Proofs.YtbeeaekepmnfhaaGreatDoor.fp2
noncomputable section
open Go Go.Eng Go.RowKit Cr
abbrev f2:Kd:=.pair .fp .fp
theorem eqF2 (a b:F2):eqC (.pair .fp .fp) a b=decide (a=b):=by
 have h:=eqC_iff (e:=.pair .fp .fp) a b
 rw[Bool.eq_iff_iff,h,decide_eq_true_iff]
theorem ent_small:enters Tryz.prog 67 Tryz.f67:=ek
abbrev outSmall:HL [.int .u64,.int .u64]->HO [.val f2]:=fun (a,b,_)=>((zm a,zm b),())
theorem fn_small:FnOk Tryz.prog 67 [.int .u64,.int .u64] [.val f2] noG (fun (a,b,_)=>U64 a/\U64 b) outSmall:=by
 refine fn_of_vc (sp:=sps [fp.spOf]) (spk (fok fp.fn_of) snl) mixed ent_small (by decide) (by decide) ?_
 rintro w M0 ⟨a,b,⟨⟩⟩
 revert a b
 intro (a:Int) (b:Int) _ hp
 refine vcx (X:=(U64 a/\U64 b/\((zmp a,zmp b),())=outSmall (a,b,()))) (by kernel_rfl) ?_
 exact⟨hp.1,hp.2,rfl⟩
def spSmall:Nat × Eng.Spec:=(67,fnSpec [.int .u64,.int .u64] [.val f2] (fun (a,b,_)=>U64 a/\U64 b) outSmall)
theorem ent_zero:enters Tryz.prog 146 Tryz.f146:=ek
abbrev outZero:HL [f2]->HO [.val .bool]:=fun (x,_)=>(decide ((x:F2)=0),())
theorem fn_zero:FnOk Tryz.prog 146 [f2] [.val .bool] noG (fun _=>True) outZero:=by
 refine fn_of_vc (sp:=sps []) snl mixed ent_zero (by decide) (by decide) ?_
 rintro w M0 ⟨x,⟨⟩⟩
 revert x
 intro (x:F2) _ _
 refine vcx (X:=((eqC (Kd.fp.pair Kd.fp) x ((0:Fp),(0:Fp)),())=outZero (x,()))) (by kernel_rfl) ?_
 rw[eqF2];rfl
def spZero:Nat × Eng.Spec:=(146,fnSpec [f2] [.val .bool] (fun _=>True) outZero)
theorem ent_add:enters Tryz.prog 27 Tryz.f27:=ek
abbrev outAdd:HL [f2,f2]->HO [.val f2]:=fun (x,y,_)=>((x:F2)+y,())
theorem fn_add:FnOk Tryz.prog 27 [f2,f2] [.val f2] noG (fun _=>True) outAdd:=by
 refine fn_of_vc (sp:=sps [fp.spAdd]) (spk (fok fp.fn_add) snl) mixed ent_add (by decide) (by decide) ?_
 rintro w M0 ⟨x,y,⟨⟩⟩
 revert x y
 intro (x:F2) (y:F2) _ _
 refine vcx (X:=(True/\True/\((x.fst+y.fst,x.snd+y.snd),())=outAdd (x,y,()))) (by kernel_rfl) ?_
 exact⟨trivial,trivial,by show _=((x:F2)+y,());rw[F2.add_def]⟩
def spAdd:Nat × Eng.Spec:=(27,fnSpec [f2,f2] [.val f2] (fun _=>True) outAdd)
theorem ent_sub:enters Tryz.prog 147 Tryz.f147:=ek
abbrev outSub:HL [f2,f2]->HO [.val f2]:=fun (x,y,_)=>((x:F2)-y,())
theorem fn_sub:FnOk Tryz.prog 147 [f2,f2] [.val f2] noG (fun _=>True) outSub:=by
 refine fn_of_vc (sp:=sps [fp.spSub]) (spk (fok fp.fn_sub) snl) mixed ent_sub (by decide) (by decide) ?_
 rintro w M0 ⟨x,y,⟨⟩⟩
 revert x y
 intro (x:F2) (y:F2) _ _
 refine vcx (X:=(True/\True/\((x.fst-y.fst,x.snd-y.snd),())=outSub (x,y,()))) (by kernel_rfl) ?_
 exact⟨trivial,trivial,by show _=((x:F2)-y,());rw[F2.sub_def]⟩
def spSub:Nat × Eng.Spec:=(147,fnSpec [f2,f2] [.val f2] (fun _=>True) outSub)
theorem ent_neg:enters Tryz.prog 112 Tryz.f112:=ek
abbrev outNeg:HL [f2]->HO [.val f2]:=fun (x,_)=>(-(x:F2),())
theorem fn_neg:FnOk Tryz.prog 112 [f2] [.val f2] noG (fun _=>True) outNeg:=by
 refine fn_of_vc (sp:=sps [fp.spNeg]) (spk (fok fp.fn_neg) snl) mixed ent_neg (by decide) (by decide) ?_
 rintro w M0 ⟨x,⟨⟩⟩
 revert x
 intro (x:F2) _ _
 refine vcx (X:=(True/\True/\((-x.fst,-x.snd),())=outNeg (x,()))) (by kernel_rfl) ?_
 exact⟨trivial,trivial,by show _=(-(x:F2),());rw[F2.neg_def]⟩
def spNeg:Nat × Eng.Spec:=(112,fnSpec [f2] [.val f2] (fun _=>True) outNeg)
theorem ent_mul:enters Tryz.prog 66 Tryz.f66:=ek
abbrev outMul:HL [f2,f2]->HO [.val f2]:=fun (x,y,_)=>((x:F2)*y,())
theorem fn_mul:FnOk Tryz.prog 66 [f2,f2] [.val f2] noG (fun _=>True) outMul:=by
 refine fn_of_vc (sp:=sps [fp.spAdd,fp.spSub,fp.spMul]) (spk (fok fp.fn_add) (spk (fok fp.fn_sub) (spk (fok fp.fn_mul) snl))) mixed ent_mul (by decide) (by decide) ?_
 rintro w M0 ⟨x,y,⟨⟩⟩
 revert x y
 intro (x:F2) (y:F2) _ _
 refine vcx (X:=(True/\True/\True/\True/\True/\True/\True/\True/\((x.fst*y.fst-x.snd*y.snd,(x.fst+x.snd)*(y.fst+y.snd)-x.fst*y.fst-x.snd*y.snd),())=outMul (x,y,()))) (by kernel_rfl) ?_
 refine⟨trivial,trivial,trivial,trivial,trivial,trivial,trivial,trivial,?_⟩
 show _=((x:F2)*y,())
 rw[F2.mul_def,f2_kar]
def spMul:Nat × Eng.Spec:=(66,fnSpec [f2,f2] [.val f2] (fun _=>True) outMul)
theorem ent_square:enters Tryz.prog 65 Tryz.f65:=ek
abbrev outSquare:HL [f2]->HO [.val f2]:=fun (x,_)=>((x:F2)*x,())
theorem fn_square:FnOk Tryz.prog 65 [f2] [.val f2] noG (fun _=>True) outSquare:=by
 refine fn_of_vc (sp:=sps [fp.spAdd,fp.spSub,fp.spMul]) (spk (fok fp.fn_add) (spk (fok fp.fn_sub) (spk (fok fp.fn_mul) snl))) mixed ent_square (by decide) (by decide) ?_
 rintro w M0 ⟨x,⟨⟩⟩
 revert x
 intro (x:F2) _ _
 refine vcx (X:=(True/\True/\True/\True/\True/\(((x.fst+x.snd)*(x.fst-x.snd),x.fst*x.snd+x.fst*x.snd),())=outSquare (x,()))) (by kernel_rfl) ?_
 refine⟨trivial,trivial,trivial,trivial,trivial,?_⟩
 show _=((x:F2)*x,())
 rw[F2.mul_def,f2_sq1,f2_sq2]
def spSquare:Nat × Eng.Spec:=(65,fnSpec [f2] [.val f2] (fun _=>True) outSquare)
theorem ent_conj:enters Tryz.prog 160 Tryz.f160:=ek
abbrev outConj:HL [f2]->HO [.val f2]:=fun (x,_)=>((Prod.fst (x:F2),-Prod.snd (x:F2)),())
theorem fn_conj:FnOk Tryz.prog 160 [f2] [.val f2] noG (fun _=>True) outConj:=by
 refine fn_of_vc (sp:=sps [fp.spNeg]) (spk (fok fp.fn_neg) snl) mixed ent_conj (by decide) (by decide) ?_
 rintro w M0 ⟨x,⟨⟩⟩
 revert x
 intro (x:F2) _ _
 refine vcx (X:=(True/\((x.fst,-x.snd),())=outConj (x,()))) (by kernel_rfl) ?_
 exact⟨trivial,rfl⟩
def spConj:Nat × Eng.Spec:=(160,fnSpec [f2] [.val f2] (fun _=>True) outConj)
theorem ent_scale:enters Tryz.prog 168 Tryz.f168:=ek
abbrev outScale:HL [f2,.fp]->HO [.val f2]:=fun (x,k,_)=>((Prod.fst (x:F2)*k,Prod.snd (x:F2)*k),())
theorem fn_scale:FnOk Tryz.prog 168 [f2,.fp] [.val f2] noG (fun _=>True) outScale:=by
 refine fn_of_vc (sp:=sps [fp.spMul]) (spk (fok fp.fn_mul) snl) mixed ent_scale (by decide) (by decide) ?_
 rintro w M0 ⟨x,k,⟨⟩⟩
 revert x k
 intro (x:F2) (k:Fp) _ _
 refine vcx (X:=(True/\True/\((x.fst*k,x.snd*k),())=outScale (x,k,()))) (by kernel_rfl) ?_
 exact⟨trivial,trivial,rfl⟩
def spScale:Nat × Eng.Spec:=(168,fnSpec [f2,.fp] [.val f2] (fun _=>True) outScale)
theorem ent_norm:enters Tryz.prog 167 Tryz.f167:=ek
abbrev outNorm:HL [f2]->HO [.val .fp]:=fun (x,_)=>(Prod.fst (x:F2)*Prod.fst (x:F2)+Prod.snd (x:F2)*Prod.snd (x:F2),())
theorem fn_norm:FnOk Tryz.prog 167 [f2] [.val .fp] noG (fun _=>True) outNorm:=by
 refine fn_of_vc (sp:=sps [fp.spAdd,fp.spSquare]) (spk (fok fp.fn_add) (spk (fok fp.fn_square) snl)) mixed ent_norm (by decide) (by decide) ?_
 rintro w M0 ⟨x,⟨⟩⟩
 revert x
 intro (x:F2) _ _
 refine vcx (X:=(True/\True/\True/\(x.fst*x.fst+x.snd*x.snd,())=outNorm (x,()))) (by kernel_rfl) ?_
 exact⟨trivial,trivial,trivial,rfl⟩
def spNorm:Nat × Eng.Spec:=(167,fnSpec [f2] [.val .fp] (fun _=>True) outNorm)
theorem ent_inv:enters Tryz.prog 148 Tryz.f148:=ek
abbrev outInv:HL [f2]->HO [.val f2]:=fun (x,_)=>(inv2 x,())
theorem fn_inv:FnOk Tryz.prog 148 [f2] [.val f2] noG (fun _=>True) outInv:=by
 refine fn_of_vc (sp:=sps [fp.spInv,spConj,spNorm,spScale]) (spk (fok fp.fn_inv) (spk (fok fn_conj) (spk (fok fn_norm) (spk (fok fn_scale) snl)))) mixed ent_inv (by decide) (by decide) ?_
 rintro w M0 ⟨x,⟨⟩⟩
 revert x
 intro (x:F2) _ _
 refine vcx (X:=(True/\True/\True/\True/\((x.fst*fp.zinv (x.fst*x.fst+x.snd*x.snd),-x.snd*fp.zinv (x.fst*x.fst+x.snd*x.snd)),())=outInv (x,()))) (by kernel_rfl) ?_
 refine⟨trivial,trivial,trivial,trivial,?_⟩
 show _=(inv2 x,())
 rw[inv2_def];rfl
def spInv:Nat × Eng.Spec:=(148,fnSpec [f2] [.val f2] (fun _=>True) outInv)
theorem ent_odd:enters Tryz.prog 156 Tryz.f156:=ek
abbrev outOdd:HL [f2]->HO [.val .bool]:=fun (x,_)=>(if Prod.fst (x:F2)=0 then (fp.outOdd (Prod.snd (x:F2),())).1 else (fp.outOdd (Prod.fst (x:F2),())).1,())
theorem fn_odd:FnOk Tryz.prog 156 [f2] [.val .bool] noG (fun _=>True) outOdd:=by
 refine fn_of_vc (sp:=sps [fp.spZero,fp.spOdd]) (spk (fok fp.fn_zero) (spk (fok fp.fn_odd) snl)) mixed ent_odd (by decide) (by decide) ?_
 rintro w M0 ⟨x,⟨⟩⟩
 revert x
 intro (x:F2) _ _
 refine vcx (X:=(True/\(decide (x.fst=(0:Zm Mp))=true->True/\(decide (x.snd.v%(2:Int)=(1:Int)),())=outOdd (x,()))/\(decide (x.fst=(0:Zm Mp))=false->True/\(decide (x.fst.v%(2:Int)=(1:Int)),())=outOdd (x,())))) (by kernel_rfl) ?_
 refine⟨trivial,fun h=>⟨trivial,?_⟩,fun h=>⟨trivial,?_⟩⟩
 ·show _=(if x.1=0 then _ else _,())
  rw[if_pos (of_decide_eq_true h)]
 ·show _=(if x.1=0 then _ else _,())
  rw[if_neg (of_decide_eq_false h)]
end
end Go.Proofs.YtbeeaekepmnfhaaGreatDoor.fp2
namespace Go.Proofs.YtbeeaekepmnfhaaGreatDoor.fp2
open Go Go.Eng Go.RowKit Cr Go.Proofs.YtbeeaekepmnfhaaGreatDoor
def rdF2 (bs:List Int):F2 × Int:=if bs.length=96 then (if (fp.rdFp (bs.take 48)).2=0 then (if (fp.rdFp (bs.drop 48)).2=0 then (((fp.rdFp (bs.drop 48)).1,(fp.rdFp (bs.take 48)).1),0) else ((0,0),(fp.rdFp (bs.drop 48)).2)) else ((0,0),(fp.rdFp (bs.take 48)).2)) else ((0,0),10)
theorem ent_read:enters Tryz.prog 101 Tryz.f101:=ek
abbrev preRead:HL [.sl (.int .u8)]->Prop:=fun (bs,_)=>Bs bs
abbrev outRead:HL [.sl (.int .u8)]->HO [.val f2,.val (.int .i64)]:=fun (bs,_)=>((rdF2 bs).1,(rdF2 bs).2,())
theorem fn_read:FnOk Tryz.prog 101 [.sl (.int .u8)] [.val f2,.val (.int .i64)] noG preRead outRead:=by
 refine fn_of_vc (sp:=sps [fp.spRead]) (spk (fok fp.fn_read) snl) mixed ent_read (by decide) (by decide) ?_
 rintro w M0 ⟨bs,⟨⟩⟩
 revert bs
 intro (bs:List Int) _ hb
 have hb:Bs bs:=hb
 refine vcx (X:=((((↑bs.length:Int) != (96:Int))=true->(((0:Fp),(0:Fp)),(10:Int),())=outRead (bs,()))/\(((↑bs.length:Int) != (96:Int))=false->((0:Int)<=(48:Int)/\(48:Int)<=(↑bs.length:Int))/\fp.preRead (List.take 48 bs,())/\(((fp.rdFp (List.take 48 bs)).snd != (0:Int))=true->(((0:Fp),(0:Fp)),(fp.rdFp (List.take 48 bs)).snd,())=outRead (bs,()))/\(((fp.rdFp (List.take 48 bs)).snd != (0:Int))=false->((0:Int)<=(48:Int)/\(48:Int)<=(↑bs.length:Int))/\fp.preRead (List.take ((↑bs.length:Int)-(48:Int)).toNat (List.drop (48:Nat) bs),())/\(((fp.rdFp (List.take ((↑bs.length:Int)-(48:Int)).toNat (List.drop (48:Nat) bs))).snd != (0:Int))=true->(((0:Fp),(0:Fp)),(fp.rdFp (List.take ((↑bs.length:Int)-(48:Int)).toNat (List.drop (48:Nat) bs))).snd,())=outRead (bs,()))/\(((fp.rdFp (List.take ((↑bs.length:Int)-(48:Int)).toNat (List.drop (48:Nat) bs))).snd != (0:Int))=false->(((fp.rdFp (List.take ((↑bs.length:Int)-(48:Int)).toNat (List.drop (48:Nat) bs))).fst,(fp.rdFp (List.take 48 bs)).fst),(0:Int),())=outRead (bs,())))))) (by kernel_rfl) ?_
 refine⟨fun h=>?_,fun h=>?_⟩
 ·have hl:¬ bs.length=96:=by simp at h;omega
  show _=((rdF2 bs).1,(rdF2 bs).2,())
  rw[rdF2,if_neg hl]
 have hl:bs.length=96:=by simp at h;omega
 have e1:List.take ((bs.length:Int)-48).toNat (List.drop 48 bs)=bs.drop 48:=List.take_of_length_le (by simp;omega)
 rw[e1]
 refine⟨⟨by omega,by omega⟩,fun x hx=>hb x (List.mem_of_mem_take hx),fun h2=>?_,fun h2=>⟨⟨by omega,by omega⟩,fun x hx=>hb x (List.mem_of_mem_drop hx),fun h3=>?_,fun h3=>?_⟩⟩
 ·have h2:¬ (fp.rdFp (bs.take 48)).2=0:=by simpa using h2
  show _=((rdF2 bs).1,(rdF2 bs).2,())
  rw[rdF2,if_pos hl,if_neg h2]
 ·have h2:(fp.rdFp (bs.take 48)).2=0:=by simpa using h2
  have h3:¬ (fp.rdFp (bs.drop 48)).2=0:=by simpa using h3
  show _=((rdF2 bs).1,(rdF2 bs).2,())
  rw[rdF2,if_pos hl,if_pos h2,if_neg h3]
 ·have h2:(fp.rdFp (bs.take 48)).2=0:=by simpa using h2
  have h3:(fp.rdFp (bs.drop 48)).2=0:=by simpa using h3
  show _=((rdF2 bs).1,(rdF2 bs).2,())
  rw[rdF2,if_pos hl,if_pos h2,if_pos h3]
noncomputable def spRead:Nat × Eng.Spec:=(101,fnSpec [.sl (.int .u8)] [.val f2,.val (.int .i64)] preRead outRead)
end Go.Proofs.YtbeeaekepmnfhaaGreatDoor.fp2
namespace Go.Proofs.YtbeeaekepmnfhaaGreatDoor.g2
open Go Go.Eng Go.RowKit Cr Go.Proofs.YtbeeaekepmnfhaaGreatDoor Go.Proofs.YtbeeaekepmnfhaaGreatDoor.fp2
abbrev pt2:Kd:=.pair f2 f2
theorem ent_number:enters Tryz.prog 59 Tryz.f59:=ek
abbrev outNumber:HL [.str]->HO [.val f2]:=fun (s,_)=>((fp2.rdF2 (sbytes s)).1,())
theorem fn_number:FnOk Tryz.prog 59 [.str] [.val f2] noG (fun _=>True) outNumber:=by
 refine fn_of_vc (sp:=sps [fp2.spRead]) (spk (fok fp2.fn_read) snl) mixed ent_number (by decide) (by decide) ?_
 rintro w M0 ⟨s,⟨⟩⟩ _ _
 refine vcx (X:=(0+s.size<=s.size/\fp2.preRead ((sbytes s).take s.size,())/\((fp2.rdF2 ((sbytes s).take s.size)).1,())=outNumber (s,()))) (by kernel_rfl) ?_
 rw[List.take_of_length_le (by rw[sbytes_len];exact Nat.le_refl _)]
 exact⟨by omega,sbytes_Bs s,rfl⟩
noncomputable def spNumber:Nat × Eng.Spec:=(59,fnSpec [.str] [.val f2] (fun _=>True) outNumber)
def gxA:Nat:=0x024aa2b2f08f0a91260805272dc51051c6e47ad4fa403b02b4510b647ae3d1770bac0326a805bbefd48056c8c121bdb8
def gxB:Nat:=0x13e02b6052719f607dacd3a088274f65596bd0d09920b61ab5da61bbdc7f5049334cf11213945d57e5ac7d055d042b7e
def gyA:Nat:=0x0ce5d527727d6e118cc9cdc6da2e351aadfd9baa8cbdd3a76d429a695160d12c923ac9cc3baca289e193548608b82801
def gyB:Nat:=0x0606c4a02ea734cc32acd2b02bc28b99cb3e287e85a763af267492ab572e99ab3f370d275cec1da1aaa9075ff05f79be
def gx:F2:=(zm (gxA:Int),zm (gxB:Int))
def gy:F2:=(zm (gyA:Int),zm (gyB:Int))
theorem ent_gen:enters Tryz.prog 25 Tryz.f25:=ek
abbrev outGen:HL []->HO [.val pt2]:=fun _=>((gx,gy),())
theorem fn_gen:FnOk Tryz.prog 25 [] [.val pt2] noG (fun _=>True) outGen:=by
 refine fn_of_vc (sp:=sps [spNumber]) (spk (fok fn_number) snl) mixed ent_gen (by decide) (by decide) ?_
 rintro w M0 ⟨⟩ _ _
 exact vcx (X:=(True/\True/\(((gx,gy),()):(F2 × F2) × Unit)=outGen ())) (by kernel_rfl) ⟨trivial,trivial,rfl⟩
end Go.Proofs.YtbeeaekepmnfhaaGreatDoor.g2
namespace Go.Proofs.YtbeeaekepmnfhaaGreatDoor.g2
noncomputable section
open Go Go.Eng Go.RowKit Cr fp2
abbrev bk:Kd:=.pair f2 (.pair f2 f2)
theorem eqP2 (a b:F2 × F2):eqC (.pair (.pair .fp .fp) (.pair .fp .fp)) a b=decide (a=b):=by
 have h:=eqC_iff (e:=.pair (.pair .fp .fp) (.pair .fp .fp)) a b
 rw[Bool.eq_iff_iff,h,decide_eq_true_iff]
theorem ent_lift:enters Tryz.prog 99 Tryz.f99:=ek
abbrev outLift:HL [pt2]->HO [.val bk]:=fun (p,_)=>(jlift (F:=F2) p,())
theorem fn_lift:FnOk Tryz.prog 99 [pt2] [.val bk] noG (fun _=>True) outLift:=by
 refine fn_of_vc (sp:=sps [fp2.spSmall]) (spk (fok fp2.fn_small) snl) mixed ent_lift (by decide) (by decide) ?_
 rintro w M0 ⟨p,⟨⟩⟩
 revert p
 intro (p:F2 × F2) _ _
 refine vcx (X:=((eqC ((Kd.fp.pair Kd.fp).pair (Kd.fp.pair Kd.fp)) p (((0:Fp),(0:Fp)),(0:Fp),(0:Fp))=true->((((0:Fp),(0:Fp)),((0:Fp),(0:Fp)),(0:Fp),(0:Fp)),())=outLift (p,()))/\(eqC ((Kd.fp.pair Kd.fp).pair (Kd.fp.pair Kd.fp)) p (((0:Fp),(0:Fp)),(0:Fp),(0:Fp))=false->(U64 (1:Int)/\U64 (0:Int))/\((p.fst,p.snd,zmp (1:Int),zmp (0:Int)),())=outLift (p,())))) (by kernel_rfl) ?_
 rw[eqP2]
 refine⟨fun h=>?_,fun h=>⟨⟨by constructor<;>decide,by constructor<;>decide⟩,?_⟩⟩
 ·show _=(jlift p,())
  unfold jlift
  rw[if_pos (show p=O2 from of_decide_eq_true h)];rfl
 ·show _=(jlift p,())
  unfold jlift
  rw[if_neg (show ¬ p=O2 from of_decide_eq_false h)];rfl
def spLift:Nat × Eng.Spec:=(99,fnSpec [pt2] [.val bk] (fun _=>True) outLift)
theorem ent_point:enters Tryz.prog 100 Tryz.f100:=ek
abbrev outPoint:HL [bk]->HO [.val pt2]:=fun (a,_)=>(jpoint (F:=F2) a,())
theorem fn_point:FnOk Tryz.prog 100 [bk] [.val pt2] noG (fun _=>True) outPoint:=by
 refine fn_of_vc (sp:=sps [fp2.spZero,fp2.spInv,fp2.spSquare,fp2.spMul]) (spk (fok fp2.fn_zero) (spk (fok fp2.fn_inv) (spk (fok fp2.fn_square) (spk (fok fp2.fn_mul) snl)))) mixed ent_point (by decide) (by decide) ?_
 rintro w M0 ⟨a,⟨⟩⟩
 revert a
 intro (a:F2 × F2 × F2) _ _
 refine vcx (X:=(True/\(decide (a.2.2=0)=true->(((0:F2),(0:F2)),())=outPoint (a,()))/\(decide (a.2.2=0)=false->Trs 5 (((a.1*(inv2 a.2.2*inv2 a.2.2),a.2.1*(inv2 a.2.2*inv2 a.2.2)*inv2 a.2.2),())=outPoint (a,()))))) (by kernel_rfl) ?_
 refine⟨trivial,fun h=>?_,fun h=>trs ?_ _⟩
 ·show _=(jpoint a,())
  unfold jpoint
  rw[if_pos (of_decide_eq_true h)]
 ·show _=(jpoint a,())
  unfold jpoint
  rw[if_neg (of_decide_eq_false h)]
  rfl
def spPoint:Nat × Eng.Spec:=(100,fnSpec [bk] [.val pt2] (fun _=>True) outPoint)
theorem ent_double:enters Tryz.prog 102 Tryz.f102:=ek
abbrev outDouble:HL [bk]->HO [.val bk]:=fun (a,_)=>(jdbl (F:=F2) a,())
theorem fn_double:FnOk Tryz.prog 102 [bk] [.val bk] noG (fun _=>True) outDouble:=by
 refine fn_of_vc (sp:=sps [fp2.spZero,fp2.spAdd,fp2.spSub,fp2.spSquare,fp2.spMul]) (spk (fok fp2.fn_zero) (spk (fok fp2.fn_add) (spk (fok fp2.fn_sub) (spk (fok fp2.fn_square) (spk (fok fp2.fn_mul) snl))))) mixed ent_double (by decide) (by decide) ?_
 rintro w M0 ⟨a,⟨⟩⟩
 revert a
 intro (a:F2 × F2 × F2) _ _
 refine vcx (X:=(True/\(decide (a.2.2=0)=true->(((0:F2),(0:F2),(0:F2)),())=outDouble (a,()))/\(decide (a.2.2=0)=false->Trs 18 ((jdbN a,())=outDouble (a,()))))) (by kernel_rfl) ?_
 refine⟨trivial,fun h=>?_,fun h=>trs ?_ _⟩
 ·show _=(jdbl a,())
  unfold jdbl
  rw[if_pos (of_decide_eq_true h)]
 ·show _=(jdbl a,())
  unfold jdbl
  rw[if_neg (of_decide_eq_false h)]
def spDouble:Nat × Eng.Spec:=(102,fnSpec [bk] [.val bk] (fun _=>True) outDouble)
theorem ent_add:enters Tryz.prog 98 Tryz.f98:=ek
abbrev outAdd:HL [bk,bk]->HO [.val bk]:=fun (a,b,_)=>(jadd (F:=F2) a b,())
abbrev wd (a b:F2 × F2 × F2):F2:=b.1*(a.2.2*a.2.2)-a.1*(b.2.2*b.2.2)
abbrev rs (a b:F2 × F2 × F2):F2:=b.2.1*(a.2.2*a.2.2)*a.2.2-a.2.1*(b.2.2*b.2.2)*b.2.2
theorem fn_add:FnOk Tryz.prog 98 [bk,bk] [.val bk] noG (fun _=>True) outAdd:=by
 refine fn_of_vc (sp:=sps [fp2.spZero,fp2.spSub,fp2.spSquare,fp2.spMul,spDouble]) (spk (fok fp2.fn_zero) (spk (fok fp2.fn_sub) (spk (fok fp2.fn_square) (spk (fok fp2.fn_mul) (spk (fok fn_double) snl))))) mixed ent_add (by decide) (by decide) ?_
 rintro w M0 ⟨a,b,⟨⟩⟩
 revert a b
 intro (a:F2 × F2 × F2) (b:F2 × F2 × F2) _ _
 refine vcx (X:=(True/\(decide (a.2.2=0)=true->(b,())=outAdd (a,b,()))/\(decide (a.2.2=0)=false->True/\(decide (b.2.2=0)=true->(a,())=outAdd (a,b,()))/\(decide (b.2.2=0)=false ->
  Trs 11 ((decide (wd a b=0)=true->True/\(decide (rs a b=0)=true->True/\(jdbl (F:=F2) a,())=outAdd (a,b,()))/\(decide (rs a b=0)=false->(((0:F2),(0:F2),(0:F2)),())=outAdd (a,b,()))) /\
   (decide (wd a b=0)=false->Trs 13 ((jfin (F:=F2) (wd a b) (rs a b) (a.1*(b.2.2*b.2.2)) (a.2.1*(b.2.2*b.2.2)*b.2.2) a.2.2 b.2.2,())=outAdd (a,b,())))))))) (by kernel_rfl) ?_
 refine⟨trivial,fun h=>?_,fun h=>⟨trivial,fun h2=>?_,fun h2=>trs ⟨fun h3=>⟨trivial,fun h4=>⟨trivial,?_⟩,fun h4=>?_⟩,fun h3=>trs ?_ _⟩ _⟩⟩
 all_goals show _=(jadd a b,())
 all_goals unfold jadd
 ·rw[if_pos (of_decide_eq_true h)]
 ·rw[if_neg (of_decide_eq_false h),if_pos (of_decide_eq_true h2)]
 ·rw[if_neg (of_decide_eq_false h),if_neg (of_decide_eq_false h2),if_pos (of_decide_eq_true h3),if_pos (of_decide_eq_true h4)]
 ·rw[if_neg (of_decide_eq_false h),if_neg (of_decide_eq_false h2),if_pos (of_decide_eq_true h3),if_neg (of_decide_eq_false h4)]
 ·rw[if_neg (of_decide_eq_false h),if_neg (of_decide_eq_false h2),if_neg (of_decide_eq_false h3)]
def spAdd:Nat × Eng.Spec:=(98,fnSpec [bk,bk] [.val bk] (fun _=>True) outAdd)
end
end Go.Proofs.YtbeeaekepmnfhaaGreatDoor.g2
namespace Go.Proofs.YtbeeaekepmnfhaaGreatDoor.g2
noncomputable section
open Go Go.Eng Go.RowKit Cr fp2
abbrev bc (s:F2 × F2 × F2):List Cell:=[.row .fp 1 [s.1.1],.row .fp 1 [s.1.2],.row .fp 1 [s.2.1.1],.row .fp 1 [s.2.1.2],.row .fp 1 [s.2.2.1],.row .fp 1 [s.2.2.2]]
abbrev pc (s:F2 × F2):List Cell:=[.row .fp 1 [s.1.1],.row .fp 1 [s.1.2],.row .fp 1 [s.2.1],.row .fp 1 [s.2.2]]
theorem ent_sum:enters Tryz.prog 58 Tryz.f58:=ek
def sumI (ps:List (F2 × F2)) (g:Int × (F2 × F2 × F2)):St:=mkSt Tryz.f58.ntmps 40 [(2,.is (.one (.ptr 0 0))),(3,.is (.one (.ptr 8 0))),(6,.is (.one (.ro pt2 ps))),(7,sI .i64 ps.length),(8,sI .i64 g.1)] [(8,bc g.2),(0,pc (0,0))]
def sumN (ps:List (F2 × F2)) (g:Int × (F2 × F2 × F2)):Int × (F2 × F2 × F2):=(IntKind.i64.wrap (g.1+1),jadd (F:=F2) g.2 (jlift (F:=F2) (ps.getD g.1.toNat (0,0))))
abbrev preSum:HL [.sl pt2]->Prop:=fun (ps,_)=>List.length ps<4611686018427387904
abbrev outSum:HL [.sl pt2]->HO [.val pt2]:=fun (ps,_)=>(jpoint (F:=F2) (jsm ps (List.length ps)),())
theorem fn_sum:FnOk Tryz.prog 58 [.sl pt2] [.val pt2] noG preSum outSum:=by
 have hsp:SpecsOk Tryz.prog (sps [spLift,spAdd,spPoint]):=spk (fok fn_lift) (spk (fok fn_add) (spk (fok fn_point) snl))
 refine fn_of_tr (sp:=sps [spLift,spAdd,spPoint]) ent_sum (by decide) (by decide) (by kernel_rfl) ?_
 rintro w M0 ⟨ps,⟨⟩⟩
 revert ps
 intro (ps:List (F2 × F2)) _ hl
 have hl:ps.length<4611686018427387904:=hl
 show Tr _ _ _ _ _ _ _
 refine tr_cut hsp mixed 3 (sumI ps (0,jsm ps 0)) True ?_ (fun _=>?_)
 ·exact vcx (X:=(sumI ps (0,jsm ps 0)).triv True) (by kernel_rfl) (tvi trivial)
 refine tr_count hsp mixed (sumI ps) (fun k=>((k:Int),jsm ps k)) ps.length (sumN ps) (sumI ps) (c:=nthC (codeOf Tryz.f58) 3) (by kernel_rfl) (by kernel_rfl) (le_of_proj (by kernel_rfl) (by kernel_rfl) trivial)
  (fun k hk=>by show (_,_)=(_,_);rw[wrap_succ (by omega)];rfl) ?_ ?_
 ·intro k hk
  generalize hs:jsm ps k=s
  refine vcx (X:=((decide ((k:Int)<(ps.length:Int))=true->(0<=(k:Int)/\(k:Int)<(ps.length:Int))/\(k:Int).toNat<ps.length/\True/\True/\(sumI ps (sumN ps ((k:Int),s))).triv (k<ps.length)) /\
   (decide ((k:Int)<(ps.length:Int))=false->(sumI ps ((k:Int),s)).triv (k=ps.length)))) (by kernel_rfl) ?_
  refine⟨fun h=>?_,fun h=>tvi (by have:=dec_ge h;omega)⟩
  have hlt:k<ps.length:=by have:=dec_lt h;omega
  exact⟨⟨by omega,by omega⟩,by omega,trivial,trivial,tvi hlt⟩
 ·refine tr_vc hsp mixed _ _ ?_
  exact vcx (X:=(True/\(jpoint (F:=F2) (jsm ps ps.length),())=outSum (ps,()))) (by kernel_rfl) ⟨trivial,rfl⟩
def spSum:Nat × Eng.Spec:=(58,fnSpec [.sl pt2] [.val pt2] preSum outSum)
theorem ent_padd:enters Tryz.prog 24 Tryz.f24:=ek
abbrev outPAdd:HL [pt2,pt2]->HO [.val pt2]:=fun (p,q,_)=>(jpoint (F:=F2) (jsm [p,q] 2),())
theorem fn_padd:FnOk Tryz.prog 24 [pt2,pt2] [.val pt2] noG (fun _=>True) outPAdd:=by
 refine fn_of_vc (sp:=sps [spSum]) (spk (fok fn_sum) snl) mixed ent_padd (by decide) (by decide) ?_
 rintro w M0 ⟨p,q,⟨⟩⟩
 revert p q
 intro (p:F2 × F2) (q:F2 × F2) _ _
 refine vcx (X:=((0+2:Nat)<=2/\preSum ([p,q],())/\outSum ([p,q],())=outPAdd (p,q,()))) (by kernel_rfl) ?_
 exact⟨by decide,show (2:Nat)<4611686018427387904 by decide,rfl⟩
theorem ent_pneg:enters Tryz.prog 69 Tryz.f69:=ek
abbrev outPNeg:HL [pt2]->HO [.val pt2]:=fun (p,_)=>(pneg (F:=F2) p,())
theorem fn_pneg:FnOk Tryz.prog 69 [pt2] [.val pt2] noG (fun _=>True) outPNeg:=by
 refine fn_of_vc (sp:=sps [fp2.spNeg]) (spk (fok fp2.fn_neg) snl) mixed ent_pneg (by decide) (by decide) ?_
 rintro w M0 ⟨p,⟨⟩⟩
 revert p
 intro (p:F2 × F2) _ _
 exact vcx (X:=(True/\(((p.1,-p.2),())=outPNeg (p,())))) (by kernel_rfl) ⟨trivial,rfl⟩
def spPNeg:Nat × Eng.Spec:=(69,fnSpec [pt2] [.val pt2] (fun _=>True) outPNeg)
def b4:F2:=(zm 4,zm 4)
theorem ent_on:enters Tryz.prog 30 Tryz.f30:=ek
def isOn (p:F2 × F2):Bool:=decide (p=((0:F2),(0:F2)))||decide (p.2*p.2=p.1*p.1*p.1+b4)
abbrev outOn:HL [pt2]->HO [.val .bool]:=fun (p,_)=>(isOn p,())
theorem fn_on:FnOk Tryz.prog 30 [pt2] [.val .bool] noG (fun _=>True) outOn:=by
 refine fn_of_vc (sp:=sps [fp2.spSquare,fp2.spMul,fp2.spSmall,fp2.spAdd]) (spk (fok fp2.fn_square) (spk (fok fp2.fn_mul) (spk (fok fp2.fn_small) (spk (fok fp2.fn_add) snl)))) mixed ent_on (by decide) (by decide) ?_
 rintro w M0 ⟨p,⟨⟩⟩
 revert p
 intro (p:F2 × F2) _ _
 refine vcx (X:=((eqC ((Kd.fp.pair Kd.fp).pair (Kd.fp.pair Kd.fp)) p (((0:Fp),(0:Fp)),(0:Fp),(0:Fp))=true->(true,())=outOn (p,()))/\(eqC ((Kd.fp.pair Kd.fp).pair (Kd.fp.pair Kd.fp)) p (((0:Fp),(0:Fp)),(0:Fp),(0:Fp))=false->True/\True/\True/\(U64 (4:Int)/\U64 (4:Int))/\True/\(eqC (Kd.fp.pair Kd.fp) (p.snd*p.snd) (p.fst*p.fst*p.fst+(zmp (4:Int),zmp (4:Int))),())=outOn (p,())))) (by kernel_rfl) ?_
 rw[eqP2]
 refine⟨fun h=>?_,fun h=>⟨trivial,trivial,trivial,⟨by constructor<;>decide,by constructor<;>decide⟩,trivial,?_⟩⟩
 ·show _=(isOn p,())
  rw[isOn,show decide (p=((0:F2),(0:F2)))=true from h,Bool.true_or]
 ·show _=(isOn p,())
  rw[isOn,show decide (p=((0:F2),(0:F2)))=false from h,Bool.false_or,eqF2]
  rfl
def spOn:Nat × Eng.Spec:=(30,fnSpec [pt2] [.val .bool] (fun _=>True) outOn)
end
end Go.Proofs.YtbeeaekepmnfhaaGreatDoor.g2
namespace Go.Proofs.YtbeeaekepmnfhaaGreatDoor.g2
noncomputable section
open Go Go.Eng Go.RowKit Cr fp2
abbrev Jp:=F2 × F2 × F2
def tmI (k:List Int) (o:Jp) (g:Int × List Jp):St:=mkSt Tryz.f61.ntmps 64 [(1,.is (.one (.ro (.int .u8) k))),(4,.is (.one (.ptr 8 0))),(5,.is (.one (.ptr 16 0))),(6,.is (.one (.ptr 40 0))),(15,sI .i64 g.1)] [(40,bc o),(16,[.row bk 16 g.2]),(8,pc (0,0))]
def tmS (k:List Int) (tb:List Jp) (s:Jp) (nx:Nat) (xs:List (Nat × SV)):St:=mkSt Tryz.f61.ntmps nx ([(4,.is (.one (.ptr 8 0))),(5,.is (.one (.ptr 16 0))),(8,.is (.one (.ptr 64 0))),(27,.is (.one (.ro (.int .u8) k))),(28,sI .i64 k.length)]++xs) [(64,bc s),(16,[.row bk 16 tb]),(8,pc (0,0))]
abbrev tmJ (k:List Int) (tb:List Jp) (g:Int × Jp):St:=tmS k tb g.2 96 [(29,sI .i64 g.1)]
abbrev tmK (k:List Int) (tb:List Jp) (i:Int) (ds:List Int) (g:Int × Jp):St:=tmS k tb g.2 168 [(29,sI .i64 i),(37,.is (.agg [.ints .u8 2 ds])),(38,sI .i64 g.1)]
abbrev tmL (k:List Int) (tb:List Jp) (i:Int) (ds:List Int) (j d:Int) (g:Int × Jp):St:=tmS k tb g.2 184 [(29,sI .i64 i),(37,.is (.agg [.ints .u8 2 ds])),(38,sI .i64 j),(12,sI .u8 d),(41,sI .i64 g.1)]
theorem ent_times:enters Tryz.prog 61 Tryz.f61:=ek
abbrev preTimes:HL [pt2,.sl (.int .u8)]->Prop:=fun (_,k,_)=>Bs k/\List.length k<4611686018427387904
abbrev outTimes:HL [pt2,.sl (.int .u8)]->HO [.val pt2]:=fun (p,k,_)=>(jpoint (F:=F2) (jtm (tabAt (jt (jlift (F:=F2) p)) (0,0,0) 15) k (List.length k)),())
theorem fn_times:FnOk Tryz.prog 61 [pt2,.sl (.int .u8)] [.val pt2] noG preTimes outTimes:=by
 have hsp:SpecsOk Tryz.prog (sps [spLift,spAdd,spPoint,spDouble]):=spk (fok fn_lift) (spk (fok fn_add) (spk (fok fn_point) (spk (fok fn_double) snl)))
 refine fn_of_tr (sp:=sps [spLift,spAdd,spPoint,spDouble]) ent_times (by decide) (by decide) (by kernel_rfl) ?_
 rintro w M0 ⟨p,k,⟨⟩⟩
 revert p k
 intro (p:F2 × F2) (k:List Int) _ hp
 obtain⟨hk,hl⟩:=hp
 have hk:Bs k:=hk
 have hl:k.length<4611686018427387904:=hl
 show Tr _ _ _ _ _ _ _
 refine tr_cut hsp mixed 4 (tmI k (jlift (F:=F2) p) (0,tabAt (jt (jlift (F:=F2) p)) (0,0,0) 0)) True ?_ (fun _=>?_)
 ·exact vcx (X:=(True/\(tmI k (jlift (F:=F2) p) (0,tabAt (jt (jlift (F:=F2) p)) (0,0,0) 0)).triv True)) (by kernel_rfl) ⟨trivial,tvi trivial⟩
 generalize ho:jlift (F:=F2) p=o
 refine tr_count hsp mixed (tmI k o) (fun n=>((n:Int),tabAt (jt o) (0,0,0) n)) 15 (fun g=>(IntKind.i64.wrap (g.1+1),g.2.set (IntKind.i64.wrap (g.1+1)).toNat (jadd (F:=F2) (g.2.getD g.1.toNat (0,0,0)) o))) (tmI k o) (c:=nthC (codeOf Tryz.f61) 4) (by kernel_rfl) (by kernel_rfl) (le_of_proj (by kernel_rfl) (by kernel_rfl) trivial)
  (fun n hn=>by
   show (_,_)=(_,_)
   rw[wrap_succ (by omega),Int.toNat_natCast,Int.toNat_natCast,tabAt_get _ _ _ (Nat.le_refl n) (by omega),show jadd (F:=F2) (jt o n) o=jt o (n+1) from rfl,tabAt_set]) ?_ ?_
 ·intro n hn
  generalize tabAt (jt o) (0,0,0) n=tb
  refine vcx (X:=((decide ((n:Int)<15)=true->(0<=(n:Int)/\(n:Int)<((16:Nat):Int))/\(n:Int).toNat<16/\True/\(0<=IntKind.i64.wrap ((n:Int)+1)/\IntKind.i64.wrap ((n:Int)+1)<((16:Nat):Int))/\(IntKind.i64.wrap ((n:Int)+1)).toNat<16 /\
    (tmI k o (IntKind.i64.wrap ((n:Int)+1),tb.set (IntKind.i64.wrap ((n:Int)+1)).toNat (jadd (F:=F2) (tb.getD (n:Int).toNat (0,0,0)) o))).triv (n<15)) /\
   (decide ((n:Int)<15)=false->(tmI k o ((n:Int),tb)).triv (n=15)))) (by kernel_rfl) ?_
  refine⟨fun h=>?_,fun h=>tvi (by have:=dec_ge h;omega)⟩
  have hlt:n<15:=by have:=dec_lt h;omega
  rw[wrap_succ (by omega)]
  exact⟨⟨by omega,by omega⟩,by omega,trivial,⟨by omega,by omega⟩,by omega,tvi hlt⟩
 subst ho
 show Tr _ _ _ _ _ _ _
 generalize htb:tabAt (jt (jlift (F:=F2) p)) (0,0,0) 15=tb
 refine tr_cut hsp mixed 2 (tmJ k tb (0,jtm tb k 0)) True ?_ (fun _=>?_)
 ·exact vcx (X:=(tmJ k tb (0,jtm tb k 0)).triv True) (by kernel_rfl) (tvi trivial)
 refine tr_countT (tmJ k tb) (fun i=>((i:Int),jtm tb k i)) k.length (fun g=>(IntKind.i64.wrap (g.1+1),jby tb g.2 (k.getD g.1.toNat 0))) (tmJ k tb) (c:=nthC (codeOf Tryz.f61) 7) (by kernel_rfl) (by kernel_rfl) (le_of_proj (by kernel_rfl) (by kernel_rfl) trivial)
  (fun i hi=>by show (_,_)=(_,_);rw[wrap_succ (by omega),Int.toNat_natCast];rfl) ?_ ?_
 ·intro i hi
  generalize jtm tb k i=s
  refine tr_cut hsp mixed 2 (tmJ k tb ((i:Int),s)) (i<k.length) ?_ (fun hlt=>?_)
  ·refine vcx (X:=((decide ((i:Int)<(k.length:Int))=true->(tmJ k tb ((i:Int),s)).triv (i<k.length))/\(decide ((i:Int)<(k.length:Int))=false->(tmJ k tb ((i:Int),s)).triv (i=k.length)))) (by kernel_rfl) ?_
   exact⟨fun h=>tvi (by have:=dec_lt h;omega),fun h=>tvi (by have:=dec_ge h;omega)⟩
  have hb:0<=k.getD i 0/\k.getD i 0<256:=by
   have:k.getD i 0∈k:=by rw[List.getD_eq_getElem?_getD,List.getElem?_eq_getElem hlt];exact List.getElem_mem hlt
   exact hk _ this
  have hbi:k.getD (i:Int).toNat 0=k.getD i 0:=by rw[Int.toNat_natCast]
  generalize hbb:k.getD i 0=b at hb hbi
  obtain⟨_,d1,d2⟩:=dh_ok hb.1 hb.2
  obtain⟨_,d3,d4⟩:=dl_ok hb.1 hb.2
  refine tr_block (c:=nthC (loopOf (nthC (codeOf Tryz.f61) 7)) 2) (by kernel_rfl) (by kernel_rfl) ?_
  refine tr_cut hsp mixed 2 (tmK k tb (i:Int) [dh (k.getD (i:Int).toNat 0),dl (k.getD (i:Int).toNat 0)] (0,jsd tb [dh b,dl b] s 0)) True ?_ (fun _=>?_)
  ·refine vcx (X:=((0<=(i:Int)/\(i:Int)<(k.length:Int))/\(i:Int).toNat<k.length/\(0:Int)<=4/\(tmK k tb (i:Int) [dh (k.getD (i:Int).toNat 0),dl (k.getD (i:Int).toNat 0)] (0,jsd tb [dh b,dl b] s 0)).triv True)) (by kernel_rfl) ?_
   exact⟨⟨by omega,by omega⟩,by omega,by decide,tvi trivial⟩
  rw[hbi]
  generalize hds:[dh b,dl b]=ds
  have hdd:∀ j,j<2->0<=ds.getD j 0/\ds.getD j 0<16:=by
   intro j hj
   subst hds
   match j,hj with
   | 0,_=>exact⟨d1,d2⟩
   | 1,_=>exact⟨d3,d4⟩
  refine tr_countT (tmK k tb (i:Int) ds) (fun j=>((j:Int),jsd tb ds s j)) 2 (fun g=>(IntKind.i64.wrap (g.1+1),jst tb g.2 (ds.getD g.1.toNat 0))) (tmK k tb (i:Int) ds) (c:=nthC (bodyOf (nthC (loopOf (nthC (codeOf Tryz.f61) 7)) 2)) 2) (by kernel_rfl) (by kernel_rfl) (le_of_proj (by kernel_rfl) (by kernel_rfl) trivial)
   (fun j hj=>by show (_,_)=(_,_);rw[wrap_succ (by omega),Int.toNat_natCast];rfl) ?_ ?_
  ·intro j hj
   generalize jsd tb ds s j=y
   refine tr_cut hsp mixed 2 (tmK k tb (i:Int) ds ((j:Int),y)) (j<2) ?_ (fun hj2=>?_)
   ·refine vcx (X:=((decide ((j:Int)<2)=true->(tmK k tb (i:Int) ds ((j:Int),y)).triv (j<2))/\(decide ((j:Int)<2)=false->(tmK k tb (i:Int) ds ((j:Int),y)).triv (j=2)))) (by kernel_rfl) ?_
    exact⟨fun h=>tvi (by have:=dec_lt h;omega),fun h=>tvi (by have:=dec_ge h;omega)⟩
   have hd:=hdd j hj2
   have hdj:ds.getD (j:Int).toNat 0=ds.getD j 0:=by rw[Int.toNat_natCast]
   generalize ds.getD j 0=d at hd hdj
   refine tr_block (c:=nthC (loopOf (nthC (bodyOf (nthC (loopOf (nthC (codeOf Tryz.f61) 7)) 2)) 2)) 2) (by kernel_rfl) (by kernel_rfl) ?_
   refine tr_cut hsp mixed 2 (tmL k tb (i:Int) ds (j:Int) (ds.getD (j:Int).toNat 0) (0,jdn y 0)) True ?_ (fun _=>?_)
   ·refine vcx (X:=((0<=(j:Int)/\(j:Int)<((2:Nat):Int))/\(tmL k tb (i:Int) ds (j:Int) (ds.getD (j:Int).toNat 0) (0,jdn y 0)).triv True)) (by kernel_rfl) ?_
    exact⟨⟨by omega,by omega⟩,tvi trivial⟩
   rw[hdj]
   refine tr_count hsp mixed (tmL k tb (i:Int) ds (j:Int) d) (fun n=>((n:Int),jdn y n)) 4 (fun g=>(IntKind.i64.wrap (g.1+1),jdbl (F:=F2) g.2)) (tmL k tb (i:Int) ds (j:Int) d) (c:=nthC (bodyOf (nthC (loopOf (nthC (bodyOf (nthC (loopOf (nthC (codeOf Tryz.f61) 7)) 2)) 2)) 2)) 2) (by kernel_rfl) (by kernel_rfl) (le_of_proj (by kernel_rfl) (by kernel_rfl) trivial)
    (fun n hn=>by show (_,_)=(_,_);rw[wrap_succ (by omega)];rfl) ?_ ?_
   ·intro n hn
    generalize jdn y n=z
    refine vcx (X:=((decide ((n:Int)<4)=true->True/\(tmL k tb (i:Int) ds (j:Int) d (IntKind.i64.wrap ((n:Int)+1),jdbl (F:=F2) z)).triv (n<4))/\(decide ((n:Int)<4)=false->(tmL k tb (i:Int) ds (j:Int) d ((n:Int),z)).triv (n=4)))) (by kernel_rfl) ?_
    exact⟨fun h=>⟨trivial,tvi (by have:=dec_lt h;omega)⟩,fun h=>tvi (by have:=dec_ge h;omega)⟩
   refine tr_cut hsp mixed 1 (tmK k tb (i:Int) ds ((j:Int),jst tb y d)) True ?_ (fun _=>?_)
   ·refine vcx (X:=((0<=d/\d<((16:Nat):Int))/\d.toNat<16/\True/\(tmK k tb (i:Int) ds ((j:Int),jst tb y d)).triv True)) (by kernel_rfl) ?_
    exact⟨⟨hd.1,by omega⟩,by omega,trivial,tvi trivial⟩
   refine tr_nil ?_
   refine tr_vc hsp mixed _ _ ?_
   exact vcx (X:=(tmK k tb (i:Int) ds (IntKind.i64.wrap ((j:Int)+1),jst tb y d)).triv (j<2)) (by kernel_rfl) (tvi hj2)
  refine tr_nil ?_
  refine tr_vc hsp mixed _ _ ?_
  have ey:jby tb s b=jsd tb ds s 2:=by unfold jby;rw[hds]
  show VC _ _ _ (fun σ'=>σ'.le _ (tmJ k tb (IntKind.i64.wrap ((i:Int)+1),jby tb s b)) (i<k.length)) _ _
  rw[ey]
  generalize jsd tb ds s 2=z
  exact vcx (X:=(tmJ k tb (IntKind.i64.wrap ((i:Int)+1),z)).triv (i<k.length)) (by kernel_rfl) (tvi hlt)
 ·refine tr_vc hsp mixed _ _ ?_
  refine vcx (X:=(True/\(jpoint (F:=F2) (jtm tb k k.length),())=outTimes (p,k,()))) (by kernel_rfl) ⟨trivial,?_⟩
  show _=(jpoint (F:=F2) (jtm (tabAt (jt (jlift (F:=F2) p)) (0,0,0) 15) k k.length),())
  rw[htb]
def spTimes:Nat × Eng.Spec:=(61,fnSpec [pt2,.sl (.int .u8)] [.val pt2] preTimes outTimes)
end
end Go.Proofs.YtbeeaekepmnfhaaGreatDoor.g2
namespace Go.Proofs.YtbeeaekepmnfhaaGreatDoor.g2
noncomputable section
open Go Go.Eng Go.RowKit Cr fp2
def tms (p:F2 × F2) (k:List Int):F2 × F2:=jpoint (F:=F2) (jtm (tabAt (jt (jlift (F:=F2) p)) (0,0,0) 15) k (List.length k))
def pml (p:F2 × F2) (k:Fr):F2 × F2:=tms p (bytesN 32 k.v)
theorem ent_pmul:enters Tryz.prog 26 Tryz.f26:=ek
abbrev outPMul:HL [pt2,.fr]->HO [.val pt2]:=fun (p,k,_)=>(pml p k,())
theorem fn_pmul:FnOk Tryz.prog 26 [pt2,.fr] [.val pt2] noG (fun _=>True) outPMul:=by
 refine fn_of_vc (sp:=sps [fr.spBytes,spTimes]) (spk (fok fr.fn_bytes) (spk (fok fn_times) snl)) mixed ent_pmul (by decide) (by decide) ?_
 rintro w M0 ⟨p,k,⟨⟩⟩
 revert p k
 intro (p:F2 × F2) (k:Fr) _ _
 refine vcx (X:=(True/\(0:Nat)+32<=32/\preTimes (p,(bytesN 32 k.v).take 32,())/\(tms p ((bytesN 32 k.v).take 32),())=outPMul (p,k,()))) (by kernel_rfl) ?_
 rw[List.take_of_length_le (by rw[bytesN_length];exact Nat.le_refl _)]
 exact⟨trivial,by decide,⟨bytesN_Bs _ _,by show (bytesN 32 k.v).length<_;rw[bytesN_length];decide⟩,rfl⟩
def spPMul:Nat × Eng.Spec:=(26,fnSpec [pt2,.fr] [.val pt2] (fun _=>True) outPMul)
end
end Go.Proofs.YtbeeaekepmnfhaaGreatDoor.g2
namespace Go.Proofs.YtbeeaekepmnfhaaGreatDoor.ref01
open Go Go.Eng Go.RowKit Cr
theorem ent_copy:enters Tryz.prog 23 Tryz.f23:=ek
noncomputable def cpI (b:List Int) (g:Int × List Int):St:=mkSt Tryz.f23.ntmps 64 [(0,.is (.one (.ro (.int .u8) b))),(3,.is (.one (.sl 24 0 0 (b.length:Int).toNat 1))),(9,sI .i64 b.length),(10,sI .i64 g.1)] [(24,[.ints .u8 (b.length:Int).toNat g.2])]
def cpL (b:List Int) (k:Nat):List Int:=b.take k++List.replicate (b.length-k) 0
theorem cpL_step {b:List Int} {k:Nat} (h:k<b.length):(cpL b k).set k (b.getD k 0)=cpL b (k+1):=by
 unfold cpL
 rw[List.set_append_right _ _ (by simp;omega),List.take_succ_eq_append_getElem h]
 have e:b.length-k=(b.length-(k+1))+1:=by omega
 have e2:k-(b.take k).length=0:=by simp;omega
 rw[e2,e,List.replicate_succ,List.set_cons_zero,List.append_assoc]
 simp[h]
abbrev preCopy:HL [.sl (.int .u8)]->Prop:=fun (b,_)=>List.length b<=281474976710656
abbrev outCopy:HL [.sl (.int .u8)]->HO [.own (.int .u8)]:=fun (b,_)=>(b,())
theorem fn_copy:FnOk Tryz.prog 23 [.sl (.int .u8)] [.own (.int .u8)] noG preCopy outCopy:=by
 have hsp:SpecsOk Tryz.prog (sps []):=snl
 refine fn_of_tr (sp:=sps []) ent_copy (by decide) (by decide) (by kernel_rfl) ?_
 rintro w M0 ⟨b,⟨⟩⟩
 revert b
 intro (b:List Int) _ hl
 have hl:b.length<=281474976710656:=hl
 show Tr _ _ _ _ _ _ _
 refine tr_cut hsp mixed 3 (cpI b (0,List.replicate (b.length:Int).toNat 0)) True ?_ (fun _=>?_)
 ·refine vcx (X:=((0<=(b.length:Int)/\(b.length:Int)<=(b.length:Int)/\((1:Nat):Int)*(b.length:Int)<=281474976710656/\(b.length:Int)<=9223372036854775807)/\(cpI b (0,List.replicate (b.length:Int).toNat 0)).triv True)) (by kernel_rfl) ?_
  exact⟨⟨by omega,by omega,by omega,by omega⟩,tvi trivial⟩
 rw[show List.replicate (b.length:Int).toNat (0:Int)=cpL b 0 by simp[cpL]]
 refine tr_count hsp mixed (cpI b) (fun k=>((k:Int),cpL b k)) b.length (fun g=>(IntKind.i64.wrap (g.1+1),g.2.set g.1.toNat (b.getD g.1.toNat 0))) (cpI b) (c:=nthC (codeOf Tryz.f23) 3) (by kernel_rfl) (by kernel_rfl) (le_of_proj (by kernel_rfl) (by kernel_rfl) trivial)
  (fun k hk=>by show (_,_)=(_,_);rw[wrap_succ (by omega),Int.toNat_natCast,cpL_step hk]) ?_ ?_
 ·intro k hk
  generalize cpL b k=xs
  refine vcx (X:=((decide ((k:Int)<(b.length:Int))=true->(0<=(k:Int)/\(k:Int)<(b.length:Int))/\(k:Int).toNat<b.length/\(0<=(k:Int)/\(k:Int)<((b.length:Int).toNat:Int))/\(k:Int).toNat<(b.length:Int).toNat/\(cpI b (IntKind.i64.wrap ((k:Int)+1),xs.set (k:Int).toNat (b.getD (k:Int).toNat 0))).triv (k<b.length)) /\
   (decide ((k:Int)<(b.length:Int))=false->(cpI b ((k:Int),xs)).triv (k=b.length)))) (by kernel_rfl) ?_
  refine⟨fun h=>?_,fun h=>tvi (by have:=dec_ge h;omega)⟩
  have hlt:k<b.length:=by have:=dec_lt h;omega
  exact⟨⟨by omega,by omega⟩,by omega,⟨by omega,by omega⟩,by omega,tvi hlt⟩
 ·refine tr_vc hsp mixed _ _ ?_
  refine vcx (X:=(0+(b.length:Int).toNat<=(b.length:Int).toNat/\(((cpL b b.length).take (b.length:Int).toNat,()):List Int × Unit)=outCopy (b,()))) (by kernel_rfl) ⟨by omega,?_⟩
  simp[cpL,outCopy]
noncomputable def spCopy:Nat × Eng.Spec:=(23,fnSpec [.sl (.int .u8)] [.own (.int .u8)] preCopy outCopy)
end Go.Proofs.YtbeeaekepmnfhaaGreatDoor.ref01
namespace Go.Proofs.YtbeeaekepmnfhaaGreatDoor.g1
noncomputable section
open Go Go.Eng Go.RowKit Cr
abbrev Jp:=Fp × Fp × Fp
def tmI (k:List Int) (o:Jp) (g:Int × List Jp):St:=mkSt Tryz.f82.ntmps 64 [(1,.is (.one (.ro (.int .u8) k))),(4,.is (.one (.ptr 8 0))),(5,.is (.one (.ptr 16 0))),(6,.is (.one (.ptr 40 0))),(15,sI .i64 g.1)] [(40,bc o),(16,[.row bk 16 g.2]),(8,pc (0,0))]
def tmS (k:List Int) (tb:List Jp) (s:Jp) (nx:Nat) (xs:List (Nat × SV)):St:=mkSt Tryz.f82.ntmps nx ([(4,.is (.one (.ptr 8 0))),(5,.is (.one (.ptr 16 0))),(8,.is (.one (.ptr 64 0))),(27,.is (.one (.ro (.int .u8) k))),(28,sI .i64 k.length)]++xs) [(64,bc s),(16,[.row bk 16 tb]),(8,pc (0,0))]
abbrev tmJ (k:List Int) (tb:List Jp) (g:Int × Jp):St:=tmS k tb g.2 96 [(29,sI .i64 g.1)]
abbrev tmK (k:List Int) (tb:List Jp) (i:Int) (ds:List Int) (g:Int × Jp):St:=tmS k tb g.2 168 [(29,sI .i64 i),(37,.is (.agg [.ints .u8 2 ds])),(38,sI .i64 g.1)]
abbrev tmL (k:List Int) (tb:List Jp) (i:Int) (ds:List Int) (j d:Int) (g:Int × Jp):St:=tmS k tb g.2 184 [(29,sI .i64 i),(37,.is (.agg [.ints .u8 2 ds])),(38,sI .i64 j),(12,sI .u8 d),(41,sI .i64 g.1)]
theorem ent_times:enters Tryz.prog 82 Tryz.f82:=ek
abbrev preTimes:HL [pt1,.sl (.int .u8)]->Prop:=fun (_,k,_)=>Bs k/\List.length k<4611686018427387904
abbrev outTimes:HL [pt1,.sl (.int .u8)]->HO [.val pt1]:=fun (p,k,_)=>(jpoint (F:=Fp) (jtm (tabAt (jt (jlift (F:=Fp) p)) (0,0,0) 15) k (List.length k)),())
theorem fn_times:FnOk Tryz.prog 82 [pt1,.sl (.int .u8)] [.val pt1] noG preTimes outTimes:=by
 have hsp:SpecsOk Tryz.prog (sps [spLift,spAdd,spPoint,spDouble]):=spk (fok fn_lift) (spk (fok fn_add) (spk (fok fn_point) (spk (fok fn_double) snl)))
 refine fn_of_tr (sp:=sps [spLift,spAdd,spPoint,spDouble]) ent_times (by decide) (by decide) (by kernel_rfl) ?_
 rintro w M0 ⟨p,k,⟨⟩⟩
 revert p k
 intro (p:Fp × Fp) (k:List Int) _ hp
 obtain⟨hk,hl⟩:=hp
 have hk:Bs k:=hk
 have hl:k.length<4611686018427387904:=hl
 show Tr _ _ _ _ _ _ _
 refine tr_cut hsp mixed 4 (tmI k (jlift (F:=Fp) p) (0,tabAt (jt (jlift (F:=Fp) p)) (0,0,0) 0)) True ?_ (fun _=>?_)
 ·exact vcx (X:=(True/\(tmI k (jlift (F:=Fp) p) (0,tabAt (jt (jlift (F:=Fp) p)) (0,0,0) 0)).triv True)) (by kernel_rfl) ⟨trivial,tvi trivial⟩
 generalize ho:jlift (F:=Fp) p=o
 refine tr_count hsp mixed (tmI k o) (fun n=>((n:Int),tabAt (jt o) (0,0,0) n)) 15 (fun g=>(IntKind.i64.wrap (g.1+1),g.2.set (IntKind.i64.wrap (g.1+1)).toNat (jadd (F:=Fp) (g.2.getD g.1.toNat (0,0,0)) o))) (tmI k o) (c:=nthC (codeOf Tryz.f82) 4) (by kernel_rfl) (by kernel_rfl) (le_of_proj (by kernel_rfl) (by kernel_rfl) trivial)
  (fun n hn=>by
   show (_,_)=(_,_)
   rw[wrap_succ (by omega),Int.toNat_natCast,Int.toNat_natCast,tabAt_get _ _ _ (Nat.le_refl n) (by omega),show jadd (F:=Fp) (jt o n) o=jt o (n+1) from rfl,tabAt_set]) ?_ ?_
 ·intro n hn
  generalize tabAt (jt o) (0,0,0) n=tb
  refine vcx (X:=((decide ((n:Int)<15)=true->(0<=(n:Int)/\(n:Int)<((16:Nat):Int))/\(n:Int).toNat<16/\True/\(0<=IntKind.i64.wrap ((n:Int)+1)/\IntKind.i64.wrap ((n:Int)+1)<((16:Nat):Int))/\(IntKind.i64.wrap ((n:Int)+1)).toNat<16 /\
    (tmI k o (IntKind.i64.wrap ((n:Int)+1),tb.set (IntKind.i64.wrap ((n:Int)+1)).toNat (jadd (F:=Fp) (tb.getD (n:Int).toNat (0,0,0)) o))).triv (n<15)) /\
   (decide ((n:Int)<15)=false->(tmI k o ((n:Int),tb)).triv (n=15)))) (by kernel_rfl) ?_
  refine⟨fun h=>?_,fun h=>tvi (by have:=dec_ge h;omega)⟩
  have hlt:n<15:=by have:=dec_lt h;omega
  rw[wrap_succ (by omega)]
  exact⟨⟨by omega,by omega⟩,by omega,trivial,⟨by omega,by omega⟩,by omega,tvi hlt⟩
 subst ho
 show Tr _ _ _ _ _ _ _
 generalize htb:tabAt (jt (jlift (F:=Fp) p)) (0,0,0) 15=tb
 refine tr_cut hsp mixed 2 (tmJ k tb (0,jtm tb k 0)) True ?_ (fun _=>?_)
 ·exact vcx (X:=(tmJ k tb (0,jtm tb k 0)).triv True) (by kernel_rfl) (tvi trivial)
 refine tr_countT (tmJ k tb) (fun i=>((i:Int),jtm tb k i)) k.length (fun g=>(IntKind.i64.wrap (g.1+1),jby tb g.2 (k.getD g.1.toNat 0))) (tmJ k tb) (c:=nthC (codeOf Tryz.f82) 7) (by kernel_rfl) (by kernel_rfl) (le_of_proj (by kernel_rfl) (by kernel_rfl) trivial)
  (fun i hi=>by show (_,_)=(_,_);rw[wrap_succ (by omega),Int.toNat_natCast];rfl) ?_ ?_
 ·intro i hi
  generalize jtm tb k i=s
  refine tr_cut hsp mixed 2 (tmJ k tb ((i:Int),s)) (i<k.length) ?_ (fun hlt=>?_)
  ·refine vcx (X:=((decide ((i:Int)<(k.length:Int))=true->(tmJ k tb ((i:Int),s)).triv (i<k.length))/\(decide ((i:Int)<(k.length:Int))=false->(tmJ k tb ((i:Int),s)).triv (i=k.length)))) (by kernel_rfl) ?_
   exact⟨fun h=>tvi (by have:=dec_lt h;omega),fun h=>tvi (by have:=dec_ge h;omega)⟩
  have hb:0<=k.getD i 0/\k.getD i 0<256:=by
   have:k.getD i 0∈k:=by rw[List.getD_eq_getElem?_getD,List.getElem?_eq_getElem hlt];exact List.getElem_mem hlt
   exact hk _ this
  have hbi:k.getD (i:Int).toNat 0=k.getD i 0:=by rw[Int.toNat_natCast]
  generalize hbb:k.getD i 0=b at hb hbi
  obtain⟨_,d1,d2⟩:=dh_ok hb.1 hb.2
  obtain⟨_,d3,d4⟩:=dl_ok hb.1 hb.2
  refine tr_block (c:=nthC (loopOf (nthC (codeOf Tryz.f82) 7)) 2) (by kernel_rfl) (by kernel_rfl) ?_
  refine tr_cut hsp mixed 2 (tmK k tb (i:Int) [dh (k.getD (i:Int).toNat 0),dl (k.getD (i:Int).toNat 0)] (0,jsd tb [dh b,dl b] s 0)) True ?_ (fun _=>?_)
  ·refine vcx (X:=((0<=(i:Int)/\(i:Int)<(k.length:Int))/\(i:Int).toNat<k.length/\(0:Int)<=4/\(tmK k tb (i:Int) [dh (k.getD (i:Int).toNat 0),dl (k.getD (i:Int).toNat 0)] (0,jsd tb [dh b,dl b] s 0)).triv True)) (by kernel_rfl) ?_
   exact⟨⟨by omega,by omega⟩,by omega,by decide,tvi trivial⟩
  rw[hbi]
  generalize hds:[dh b,dl b]=ds
  have hdd:∀ j,j<2->0<=ds.getD j 0/\ds.getD j 0<16:=by
   intro j hj
   subst hds
   match j,hj with
   | 0,_=>exact⟨d1,d2⟩
   | 1,_=>exact⟨d3,d4⟩
  refine tr_countT (tmK k tb (i:Int) ds) (fun j=>((j:Int),jsd tb ds s j)) 2 (fun g=>(IntKind.i64.wrap (g.1+1),jst tb g.2 (ds.getD g.1.toNat 0))) (tmK k tb (i:Int) ds) (c:=nthC (bodyOf (nthC (loopOf (nthC (codeOf Tryz.f82) 7)) 2)) 2) (by kernel_rfl) (by kernel_rfl) (le_of_proj (by kernel_rfl) (by kernel_rfl) trivial)
   (fun j hj=>by show (_,_)=(_,_);rw[wrap_succ (by omega),Int.toNat_natCast];rfl) ?_ ?_
  ·intro j hj
   generalize jsd tb ds s j=y
   refine tr_cut hsp mixed 2 (tmK k tb (i:Int) ds ((j:Int),y)) (j<2) ?_ (fun hj2=>?_)
   ·refine vcx (X:=((decide ((j:Int)<2)=true->(tmK k tb (i:Int) ds ((j:Int),y)).triv (j<2))/\(decide ((j:Int)<2)=false->(tmK k tb (i:Int) ds ((j:Int),y)).triv (j=2)))) (by kernel_rfl) ?_
    exact⟨fun h=>tvi (by have:=dec_lt h;omega),fun h=>tvi (by have:=dec_ge h;omega)⟩
   have hd:=hdd j hj2
   have hdj:ds.getD (j:Int).toNat 0=ds.getD j 0:=by rw[Int.toNat_natCast]
   generalize ds.getD j 0=d at hd hdj
   refine tr_block (c:=nthC (loopOf (nthC (bodyOf (nthC (loopOf (nthC (codeOf Tryz.f82) 7)) 2)) 2)) 2) (by kernel_rfl) (by kernel_rfl) ?_
   refine tr_cut hsp mixed 2 (tmL k tb (i:Int) ds (j:Int) (ds.getD (j:Int).toNat 0) (0,jdn y 0)) True ?_ (fun _=>?_)
   ·refine vcx (X:=((0<=(j:Int)/\(j:Int)<((2:Nat):Int))/\(tmL k tb (i:Int) ds (j:Int) (ds.getD (j:Int).toNat 0) (0,jdn y 0)).triv True)) (by kernel_rfl) ?_
    exact⟨⟨by omega,by omega⟩,tvi trivial⟩
   rw[hdj]
   refine tr_count hsp mixed (tmL k tb (i:Int) ds (j:Int) d) (fun n=>((n:Int),jdn y n)) 4 (fun g=>(IntKind.i64.wrap (g.1+1),jdbl (F:=Fp) g.2)) (tmL k tb (i:Int) ds (j:Int) d) (c:=nthC (bodyOf (nthC (loopOf (nthC (bodyOf (nthC (loopOf (nthC (codeOf Tryz.f82) 7)) 2)) 2)) 2)) 2) (by kernel_rfl) (by kernel_rfl) (le_of_proj (by kernel_rfl) (by kernel_rfl) trivial)
    (fun n hn=>by show (_,_)=(_,_);rw[wrap_succ (by omega)];rfl) ?_ ?_
   ·intro n hn
    generalize jdn y n=z
    refine vcx (X:=((decide ((n:Int)<4)=true->True/\(tmL k tb (i:Int) ds (j:Int) d (IntKind.i64.wrap ((n:Int)+1),jdbl (F:=Fp) z)).triv (n<4))/\(decide ((n:Int)<4)=false->(tmL k tb (i:Int) ds (j:Int) d ((n:Int),z)).triv (n=4)))) (by kernel_rfl) ?_
    exact⟨fun h=>⟨trivial,tvi (by have:=dec_lt h;omega)⟩,fun h=>tvi (by have:=dec_ge h;omega)⟩
   refine tr_cut hsp mixed 1 (tmK k tb (i:Int) ds ((j:Int),jst tb y d)) True ?_ (fun _=>?_)
   ·refine vcx (X:=((0<=d/\d<((16:Nat):Int))/\d.toNat<16/\True/\(tmK k tb (i:Int) ds ((j:Int),jst tb y d)).triv True)) (by kernel_rfl) ?_
    exact⟨⟨hd.1,by omega⟩,by omega,trivial,tvi trivial⟩
   refine tr_nil ?_
   refine tr_vc hsp mixed _ _ ?_
   exact vcx (X:=(tmK k tb (i:Int) ds (IntKind.i64.wrap ((j:Int)+1),jst tb y d)).triv (j<2)) (by kernel_rfl) (tvi hj2)
  refine tr_nil ?_
  refine tr_vc hsp mixed _ _ ?_
  have ey:jby tb s b=jsd tb ds s 2:=by unfold jby;rw[hds]
  show VC _ _ _ (fun σ'=>σ'.le _ (tmJ k tb (IntKind.i64.wrap ((i:Int)+1),jby tb s b)) (i<k.length)) _ _
  rw[ey]
  generalize jsd tb ds s 2=z
  exact vcx (X:=(tmJ k tb (IntKind.i64.wrap ((i:Int)+1),z)).triv (i<k.length)) (by kernel_rfl) (tvi hlt)
 ·refine tr_vc hsp mixed _ _ ?_
  refine vcx (X:=(True/\(jpoint (F:=Fp) (jtm tb k k.length),())=outTimes (p,k,()))) (by kernel_rfl) ⟨trivial,?_⟩
  show _=(jpoint (F:=Fp) (jtm (tabAt (jt (jlift (F:=Fp) p)) (0,0,0) 15) k k.length),())
  rw[htb]
def spTimes:Nat × Eng.Spec:=(82,fnSpec [pt1,.sl (.int .u8)] [.val pt1] preTimes outTimes)
end
end Go.Proofs.YtbeeaekepmnfhaaGreatDoor.g1
namespace Go.Proofs.YtbeeaekepmnfhaaGreatDoor.g1
open Go Go.Eng Go.RowKit Cr
noncomputable def tms (p:Fp × Fp) (k:List Int):Fp × Fp:=jpoint (F:=Fp) (jtm (tabAt (jt (jlift (F:=Fp) p)) (0,0,0) 15) k (List.length k))
noncomputable def pml (p:Fp × Fp) (k:Fr):Fp × Fp:=tms p (bytesN 32 k.v)
theorem ent_pmul:enters Tryz.prog 42 Tryz.f42:=ek
noncomputable abbrev outPMul:HL [pt1,.fr]->HO [.val pt1]:=fun (p,k,_)=>(pml p k,())
theorem fn_pmul:FnOk Tryz.prog 42 [pt1,.fr] [.val pt1] noG (fun _=>True) outPMul:=by
 refine fn_of_vc (sp:=sps [fr.spBytes,spTimes]) (spk (fok fr.fn_bytes) (spk (fok fn_times) snl)) mixed ent_pmul (by decide) (by decide) ?_
 rintro w M0 ⟨p,k,⟨⟩⟩
 revert p k
 intro (p:Fp × Fp) (k:Fr) _ _
 refine vcx (X:=(True/\(0:Nat)+32<=32/\preTimes (p,(bytesN 32 k.v).take 32,())/\(tms p ((bytesN 32 k.v).take 32),())=outPMul (p,k,()))) (by kernel_rfl) ?_
 rw[List.take_of_length_le (by rw[bytesN_length];exact Nat.le_refl _)]
 exact⟨trivial,by decide,⟨bytesN_Bs _ _,by show (bytesN 32 k.v).length<_;rw[bytesN_length];decide⟩,rfl⟩
end Go.Proofs.YtbeeaekepmnfhaaGreatDoor.g1
namespace Go.Proofs.YtbeeaekepmnfhaaGreatDoor.g1
noncomputable section
open Go Go.Eng Go.RowKit Cr
theorem b4_ne:b4≠0:=by decide
def gG:Fp × Fp:=opq (gx,gy)
def gadd (p q:Fp × Fp):Fp × Fp:=opq (jpoint (F:=Fp) (jsm [p,q] 2))
def gneg (p:Fp × Fp):Fp × Fp:=opq (pneg (F:=Fp) p)
def gtms (p:Fp × Fp) (k:List Int):Fp × Fp:=opq (tms p k)
def gmul (p:Fp × Fp) (k:Fr):Fp × Fp:=opq (pml p k)
theorem fo_gen:FnOk Tryz.prog 41 [] [.val pt1] noG (fun _=>True) (fun _=>(gG,())):=fn_gen.out fun _=>by show (gG,())=((gx,gy),());rw[gG,opq_eq]
theorem fo_add:FnOk Tryz.prog 106 [pt1,pt1] [.val pt1] noG (fun _=>True) (fun (p,q,_)=>(gadd p q,())):=fn_padd.out fun (p,q,_)=>by show (gadd p q,())=(_,());rw[gadd,opq_eq]
theorem fo_neg:FnOk Tryz.prog 96 [pt1] [.val pt1] noG (fun _=>True) (fun (p,_)=>(gneg p,())):=fn_pneg.out fun (p,_)=>by show (gneg p,())=(_,());rw[gneg,opq_eq]
theorem fo_times:FnOk Tryz.prog 82 [pt1,.sl (.int .u8)] [.val pt1] noG preTimes (fun (p,k,_)=>(gtms p k,())):=fn_times.out fun (p,k,_)=>by show (gtms p k,())=(_,());rw[gtms,opq_eq];rfl
theorem fo_mul:FnOk Tryz.prog 42 [pt1,.fr] [.val pt1] noG (fun _=>True) (fun (p,k,_)=>(gmul p k,())):=fn_pmul.out fun (p,k,_)=>by show (gmul p k,())=(_,());rw[gmul,opq_eq]
def soGen:Nat × Eng.Spec:=(41,fnSpec [] [.val pt1] (fun _=>True) (fun _=>(gG,())))
def soAdd:Nat × Eng.Spec:=(106,fnSpec [pt1,pt1] [.val pt1] (fun _=>True) (fun (p,q,_)=>(gadd p q,())))
def soNeg:Nat × Eng.Spec:=(96,fnSpec [pt1] [.val pt1] (fun _=>True) (fun (p,_)=>(gneg p,())))
def soTimes:Nat × Eng.Spec:=(82,fnSpec [pt1,.sl (.int .u8)] [.val pt1] preTimes (fun (p,k,_)=>(gtms p k,())))
def soMul:Nat × Eng.Spec:=(42,fnSpec [pt1,.fr] [.val pt1] (fun _=>True) (fun (p,k,_)=>(gmul p k,())))
abbrev Onb (p:Fp × Fp):Prop:=OnP b4 p
theorem gG_eq:gG=(gx,gy):=opq_eq _
theorem gG_on:Onb gG:=by rw[gG_eq];exact (isOn_iff _).1 (by decide +kernel)
theorem gadd_eq {p q:Fp × Fp} (hp:Onb p) (hq:Onb q):gadd p q=padd p q:=by rw[gadd,opq_eq];exact add_eq b4_ne hp hq
theorem gneg_eq (p:Fp × Fp):gneg p=pneg p:=opq_eq _
theorem gtms_eq {p:Fp × Fp} (hp:Onb p) {k:List Int} (hk:Bs k):gtms p k=nmul p (num k).toNat:=by rw[gtms,opq_eq];exact times_eq b4_ne hp hk
theorem gmul_eq {p:Fp × Fp} (hp:Onb p) (k:Fr):gmul p k=nmul p k.v.toNat:=by
 rw[gmul,opq_eq,pml,tms,times_eq b4_ne hp (bytesN_Bs _ _),num_bytesN 32 _ k.nn (Int.lt_trans k.lt (by decide))]
end
end Go.Proofs.YtbeeaekepmnfhaaGreatDoor.g1
namespace Go.Proofs.YtbeeaekepmnfhaaGreatDoor.g2
noncomputable section
open Go Go.Eng Go.RowKit Cr fp2
theorem b4_ne:b4≠0:=fun h=>absurd (congrArg Prod.fst h) (by decide)
def gG:F2 × F2:=opq (gx,gy)
def gadd (p q:F2 × F2):F2 × F2:=opq (jpoint (F:=F2) (jsm [p,q] 2))
def gsum (ps:List (F2 × F2)):F2 × F2:=opq (jpoint (F:=F2) (jsm ps ps.length))
def gneg (p:F2 × F2):F2 × F2:=opq (pneg (F:=F2) p)
def gtms (p:F2 × F2) (k:List Int):F2 × F2:=opq (tms p k)
def gmul (p:F2 × F2) (k:Fr):F2 × F2:=opq (pml p k)
def gon (p:F2 × F2):Bool:=opq (isOn p)
theorem fo_gen:FnOk Tryz.prog 25 [] [.val pt2] noG (fun _=>True) (fun _=>(gG,())):=fn_gen.out fun _=>by show (gG,())=((gx,gy),());rw[gG,opq_eq]
theorem fo_add:FnOk Tryz.prog 24 [pt2,pt2] [.val pt2] noG (fun _=>True) (fun (p,q,_)=>(gadd p q,())):=fn_padd.out fun (p,q,_)=>by show (gadd p q,())=(_,());rw[gadd,opq_eq]
theorem fo_sum:FnOk Tryz.prog 58 [.sl pt2] [.val pt2] noG preSum (fun (ps,_)=>(gsum ps,())):=fn_sum.out fun (ps,_)=>by show (gsum ps,())=(_,());rw[gsum,opq_eq]
theorem fo_neg:FnOk Tryz.prog 69 [pt2] [.val pt2] noG (fun _=>True) (fun (p,_)=>(gneg p,())):=fn_pneg.out fun (p,_)=>by show (gneg p,())=(_,());rw[gneg,opq_eq]
theorem fo_times:FnOk Tryz.prog 61 [pt2,.sl (.int .u8)] [.val pt2] noG preTimes (fun (p,k,_)=>(gtms p k,())):=fn_times.out fun (p,k,_)=>by show (gtms p k,())=(_,());rw[gtms,opq_eq];rfl
theorem fo_mul:FnOk Tryz.prog 26 [pt2,.fr] [.val pt2] noG (fun _=>True) (fun (p,k,_)=>(gmul p k,())):=fn_pmul.out fun (p,k,_)=>by show (gmul p k,())=(_,());rw[gmul,opq_eq]
theorem fo_on:FnOk Tryz.prog 30 [pt2] [.val .bool] noG (fun _=>True) (fun (p,_)=>(gon p,())):=fn_on.out fun (p,_)=>by show (gon p,())=(_,());rw[gon,opq_eq]
def soGen:Nat × Eng.Spec:=(25,fnSpec [] [.val pt2] (fun _=>True) (fun _=>(gG,())))
def soAdd:Nat × Eng.Spec:=(24,fnSpec [pt2,pt2] [.val pt2] (fun _=>True) (fun (p,q,_)=>(gadd p q,())))
def soSum:Nat × Eng.Spec:=(58,fnSpec [.sl pt2] [.val pt2] preSum (fun (ps,_)=>(gsum ps,())))
def soNeg:Nat × Eng.Spec:=(69,fnSpec [pt2] [.val pt2] (fun _=>True) (fun (p,_)=>(gneg p,())))
def soTimes:Nat × Eng.Spec:=(61,fnSpec [pt2,.sl (.int .u8)] [.val pt2] preTimes (fun (p,k,_)=>(gtms p k,())))
def soMul:Nat × Eng.Spec:=(26,fnSpec [pt2,.fr] [.val pt2] (fun _=>True) (fun (p,k,_)=>(gmul p k,())))
def soOn:Nat × Eng.Spec:=(30,fnSpec [pt2] [.val .bool] (fun _=>True) (fun (p,_)=>(gon p,())))
abbrev Onb (p:F2 × F2):Prop:=OnP b4 p
theorem gG_eq:gG=(gx,gy):=opq_eq _
theorem gG_on:Onb gG:=by
 rw[gG_eq]
 refine .inr ?_
 show gy*gy=gx*gx*gx+b4
 refine F2.ext ?_ ?_
 ·simp only[F2.mul1,F2.mul2,F2.add1];decide +kernel
 ·simp only[F2.mul1,F2.mul2,F2.add2];decide +kernel
theorem gadd_eq {p q:F2 × F2} (hp:Onb p) (hq:Onb q):gadd p q=padd p q:=by rw[gadd,opq_eq];exact add_eq b4_ne hp hq
theorem gsum_eq {ps:List (F2 × F2)} (h:∀ p∈ps,Onb p):gsum ps=psum ps:=by rw[gsum,opq_eq];exact sum_eq b4_ne h
theorem gneg_eq (p:F2 × F2):gneg p=pneg p:=opq_eq _
theorem gtms_eq {p:F2 × F2} (hp:Onb p) {k:List Int} (hk:Bs k):gtms p k=nmul p (num k).toNat:=by rw[gtms,opq_eq];exact times_eq b4_ne hp hk
theorem gmul_eq {p:F2 × F2} (hp:Onb p) (k:Fr):gmul p k=nmul p k.v.toNat:=by
 rw[gmul,opq_eq,pml,tms,times_eq b4_ne hp (bytesN_Bs _ _),num_bytesN 32 _ k.nn (Int.lt_trans k.lt (by decide))]
end
end Go.Proofs.YtbeeaekepmnfhaaGreatDoor.g2
namespace Go.Proofs.YtbeeaekepmnfhaaGreatDoor.part
section
variable {α:Type} (z:α) (key:α->Int)
def swp (l:List α) (j:Nat):List α:=(l.set (j+1) (l.getD j z)).set j (l.getD (j+1) z)
def bub (l:List α):Nat->List α
 | 0=>l
 | j+1=>if key (l.getD (j+1) z)<key (l.getD j z) then bub (swp z l j) j else l
def srt (l:List α):Nat->List α
 | 0=>l
 | k+1=>bub z key (srt l k) (k+1)
theorem swp_perm:∀ (l:List α) (j:Nat),j+1<l.length->(swp z l j).Perm l
 | x::y::l,0,_=>List.Perm.swap x y l
 | x::l,j+1,h=>by
  have h:j+1<l.length:=by simpa using h
  exact (swp_perm l j h).cons x
 | [],_,h=>absurd h (by simp)
 | [_],0,h=>absurd h (by simp)
theorem swp_len (l:List α) (j:Nat):(swp z l j).length=l.length:=by simp[swp]
theorem swp_get (l:List α) (j:Nat) (hj:j+1<l.length) (i:Nat):(swp z l j).getD i z=if i=j then l.getD (j+1) z else if i=j+1 then l.getD j z else l.getD i z:=by
 unfold swp
 simp only[List.getD_eq_getElem?_getD,List.getElem?_set,List.length_set]
 by_cases h1:i=j
 ·subst h1;simp[show i<l.length by omega]
 ·have h1':¬ j=i:=fun e=>h1 e.symm
  by_cases h2:i=j+1
  ·subst h2;simp[hj]
  ·have h2':¬ j+1=i:=fun e=>h2 e.symm
   simp[h1,h1',h2,h2']
theorem bub_perm:∀ (j:Nat) (l:List α),j<l.length->(bub z key l j).Perm l
 | 0,l,_=>List.Perm.refl l
 | j+1,l,h=>by
  unfold bub
  split
  ·exact (bub_perm j _ (by rw[swp_len];omega)).trans (swp_perm z l j h)
  ·exact List.Perm.refl l
theorem srt_perm (l:List α):∀ (k:Nat),k<l.length\/k=0->(srt z key l k).Perm l
 | 0,_=>List.Perm.refl l
 | k+1,h=>by
  have ih:=srt_perm l k (by omega)
  exact (bub_perm z key (k+1) _ (by rw[ih.length_eq];omega)).trans ih
def Up (l:List α) (k j:Nat):Prop:=∀ a b,a<b->b<=k->b≠j->key (l.getD a z)<=key (l.getD b z)
theorem bub_up {k:Nat}:∀ (j:Nat) (l:List α),j<=k->k<l.length->Up z key l k j->∀ a b,a<b->b<=k->key ((bub z key l j).getD a z)<=key ((bub z key l j).getD b z)
 | 0,l,_,_,h=>fun a b h1 h2=>h a b h1 h2 (by omega)
 | j+1,l,hj,hk,h=>by
  unfold bub
  split
  ·rename_i hlt
   refine bub_up j _ (by omega) (by rw[swp_len];exact hk) ?_
   intro a b h1 h2 h3
   rw[swp_get z l j (by omega),swp_get z l j (by omega),if_neg h3]
   by_cases e1:a=j
   ·rw[if_pos e1]
    by_cases e2:b=j+1
    ·rw[if_pos e2];omega
    ·rw[if_neg e2];exact h (j+1) b (by omega) h2 e2
   ·rw[if_neg e1]
    by_cases e3:a=j+1
    ·rw[if_pos e3,if_neg (by omega)]
     exact h j b (by omega) h2 (by omega)
    ·rw[if_neg e3]
     by_cases e2:b=j+1
     ·rw[if_pos e2];exact h a j (by omega) (by omega) (by omega)
     ·rw[if_neg e2];exact h a b h1 h2 e2
  ·rename_i hge
   intro a b h1 h2
   by_cases e:b=j+1
   ·subst e
    by_cases ea:a=j
    ·subst ea;omega
    ·have:=h a j (by omega) (by omega) (by omega)
     omega
   ·exact h a b h1 h2 e
theorem srt_up (l:List α):∀ (k:Nat),k<l.length->∀ a b,a<b->b<=k->key ((srt z key l k).getD a z)<=key ((srt z key l k).getD b z)
 | 0,_=>fun a b h1 h2=>by omega
 | k+1,h=>by
  have ih:=srt_up l k (by omega)
  refine bub_up z key (k+1) (srt z key l k) (Nat.le_refl _) (by rw[(srt_perm z key l k (by omega)).length_eq];exact h) ?_
  intro a b h1 h2 h3
  exact ih a b h1 (by omega)
def srtA (l:List α):List α:=srt z key l (l.length-1)
theorem srtA_perm (l:List α):(srtA z key l).Perm l:=srt_perm z key l _ (by omega)
theorem srtA_up (l:List α):((srtA z key l).map key).Pairwise (· <= ·):=by
 rw[List.pairwise_iff_getElem]
 intro i j hi hj hij
 have hl:=(srtA_perm z key l).length_eq
 simp only[List.length_map] at hi hj
 have:=srt_up z key l (l.length-1) (by omega) i j hij (by omega)
 simp only[List.getElem_map]
 have e:∀ (m:Nat) (hm:m<(srtA z key l).length),(srtA z key l)[m]=(srt z key l (l.length-1)).getD m z:=by
  intro m hm
  rw[List.getD_eq_getElem?_getD,<- srtA,List.getElem?_eq_getElem hm];rfl
 rw[e,e];exact this
end
def memI (x:Int):Bool:=decide (1<=x)&&decide (x<=9)
def scn (q:Option Int):List Int->Int
 | []=>0
 | x::l=>if memI x=false then 34 else if q=some x then 33 else scn (some x) l
def kd (v:Int):Int:=if memI v=false then 34 else 33
def Bad (l:List Int) (v:Int):Prop:=v∈l/\(memI v=false\/2<=l.count v)
def Ans (l:List Int) (e:Int):Prop:=(e=0/\∀ v,¬ Bad l v)\/∃ v,Bad l v/\(∀ u,Bad l u->v<=u)/\e=kd v
theorem kd_ne (v:Int):kd v≠0:=by unfold kd;split<;>decide
theorem Ans.same {l:List Int} {e f:Int} (h:Ans l e) (k:Ans l f):e=f:=by
 rcases h with ⟨h1,h2⟩|⟨v,h1,h2,h3⟩<;>rcases k with ⟨k1,k2⟩|⟨u,k1,k2,k3⟩
 ·rw[h1,k1]
 ·exact absurd k1 (h2 u)
 ·exact absurd h1 (k2 v)
 ·have:=h2 u k1
  have:=k2 v h1
  rw[h3,k3,show v=u by omega]
theorem Ans.perm {l m:List Int} {e:Int} (p:l.Perm m) (h:Ans l e):Ans m e:=by
 have hb:∀ v,Bad l v↔Bad m v:=fun v=>by unfold Bad;rw[p.mem_iff,p.count_eq]
 rcases h with ⟨h1,h2⟩|⟨v,h1,h2,h3⟩
 ·exact .inl ⟨h1,fun v hv=>h2 v ((hb v).2 hv)⟩
 ·exact .inr ⟨v,(hb v).1 h1,fun u hu=>h2 u ((hb u).2 hu),h3⟩
theorem scn_ans:∀ (t p:List Int),(∀ x∈p,memI x=true)->p.Nodup->(p++t).Pairwise (· <= ·)->Ans (p++t) (scn p.getLast? t)
 | [],p,hm,hd,_=>by
  rw[List.append_nil]
  refine .inl ⟨rfl,fun v ⟨hv,hb⟩=>?_⟩
  rcases hb with hb|hb
  ·rw[hm v hv] at hb;cases hb
  ·have:=List.nodup_iff_count.1 hd v
   omega
 | x::t,p,hm,hd,hs=>by
  have hin:∀ u,Bad (p++x::t) u->x<=u:=by
   intro u ⟨hu,hb⟩
   obtain⟨s1,s2,s3⟩:=List.pairwise_append.1 hs
   have hxt:∀ u∈x::t,x<=u:=by
    intro u hu
    rcases List.mem_cons.1 hu with rfl|hu
    ·exact Int.le_refl _
    ·exact List.rel_of_pairwise_cons s2 hu
   rcases List.mem_append.1 hu with hp|ht
   ·rcases hb with hb|hb
    ·rw[hm u hp] at hb;cases hb
    ·rw[List.count_append] at hb
     have h1:=List.nodup_iff_count.1 hd u
     exact hxt u (List.count_pos_iff.1 (by omega))
   ·exact hxt u ht
  have hxm:x∈p++x::t:=by simp
  unfold scn
  by_cases h1:memI x=false
  ·rw[if_pos h1]
   exact .inr ⟨x,⟨hxm,.inl h1⟩,hin,by rw[kd,if_pos h1]⟩
  ·rw[if_neg h1]
   by_cases h2:p.getLast?=some x
   ·rw[if_pos h2]
    have hxp:x∈p:=List.mem_of_getLast? h2
    refine .inr ⟨x,⟨hxm,.inr ?_⟩,hin,by rw[kd,if_neg h1]⟩
    rw[List.count_append]
    have e1:1<=p.count x:=List.count_pos_iff.2 hxp
    have e2:1<=(x::t).count x:=List.count_pos_iff.2 (by simp)
    omega
   ·rw[if_neg h2]
    have hx:x∉p:=by
     intro hx
     obtain⟨s1,s2,s3⟩:=List.pairwise_append.1 hs
     obtain⟨r,y,e⟩:∃ r y,p=r++[y]:=by
      rcases List.eq_nil_or_concat p with e|⟨r,y,e⟩
      ·rw[e] at hx;cases hx
      ·exact⟨r,y,by simpa using e⟩
     rw[e,List.getLast?_append] at h2
     have hy:y≠x:=by simpa using h2
     have hyx:y<=x:=s3 y (by rw[e];simp) x (by simp)
     rw[e] at hx s1
     rcases List.mem_append.1 hx with hr|hr
     ·have:=(List.pairwise_append.1 s1).2.2 x hr y (by simp)
      omega
     ·have hr:x=y:=by simpa using hr
      exact hy hr.symm
    have e:p++x::t=(p++[x])++t:=by simp
    have ih:=scn_ans t (p++[x]) (by
     intro y hy
     rcases List.mem_append.1 hy with hy|hy
     ·exact hm y hy
     ·have:y=x:=by simpa using hy
      subst this;simpa using h1) (by
     rw[List.nodup_append]
     refine⟨hd,by simp,fun a ha b hb=>?_⟩
     have:b=x:=by simpa using hb
     subst this
     exact fun e=>hx (e▸ha)) (by rw[<- e];exact hs)
    rw[e]
    simpa using ih
theorem scn_ok {l:List Int} (hs:l.Pairwise (· <= ·)):Ans l (scn none l):=by
 have:=scn_ans l [] (by simp) List.nodup_nil (by simpa using hs)
 simpa using this
def wr (xs:List Int) (i:Nat):Int:=if memI (xs.getD i 0)=false then 34 else if xs.getD i 0∈xs.take i then 33 else 0
def Fnd (xs:List Int) (k:Nat) (low e:Int):Prop:=(e=0/\∀ i,i<k->wr xs i=0)\/∃ i,i<k/\wr xs i=e/\e≠0/\xs.getD i 0=low/\∀ j,j<k->wr xs j≠0->low<=xs.getD j 0
theorem wr_bad {xs:List Int} {i:Nat} (hi:i<xs.length) (h:wr xs i≠0):Bad xs (xs.getD i 0)/\wr xs i=kd (xs.getD i 0):=by
 have hx:xs.getD i 0=xs[i]:=by rw[List.getD_eq_getElem?_getD,List.getElem?_eq_getElem hi];rfl
 unfold wr at h ⊢
 by_cases h1:memI (xs.getD i 0)=false
 ·rw[if_pos h1]
  exact⟨⟨by rw[hx];exact List.getElem_mem _,.inl h1⟩,by rw[kd,if_pos h1]⟩
 ·rw[if_neg h1] at h ⊢
  by_cases h2:xs.getD i 0∈xs.take i
  ·rw[if_pos h2]
   refine⟨⟨by rw[hx];exact List.getElem_mem _,.inr ?_⟩,by rw[kd,if_neg h1]⟩
   have e1:=List.count_pos_iff.2 h2
   have e2:0<(xs.drop i).count (xs.getD i 0):=by
    rw[hx]
    refine List.count_pos_iff.2 ?_
    rw[List.drop_eq_getElem_cons hi];exact List.mem_cons_self ..
   have:=congrArg (List.count (xs.getD i 0)) (List.take_append_drop i xs)
   rw[List.count_append] at this
   omega
  ·rw[if_neg h2] at h;exact absurd rfl h
theorem bad_wr {xs:List Int} {v:Int} (h:Bad xs v):∃ i,i<xs.length/\xs.getD i 0=v/\wr xs i≠0:=by
 obtain⟨hv,hb⟩:=h
 have hd:∀ {i:Nat} (hi:i<xs.length),xs.getD i 0=xs[i]:=fun hi=>by rw[List.getD_eq_getElem?_getD,List.getElem?_eq_getElem hi];rfl
 by_cases h1:memI v=false
 ·obtain⟨i,hi,e⟩:=List.getElem_of_mem hv
  refine⟨i,hi,by rw[hd hi,e],?_⟩
  unfold wr
  rw[hd hi,e,if_pos h1];decide
 ·have h2:2<=xs.count v:=by
   rcases hb with hb|hb
   ·exact absurd hb h1
   ·exact hb
  have:∃ i,∃ hi:i<xs.length,xs[i]=v/\v∈xs.take i:=by
   clear hv hb hd
   induction xs with
   | nil=>simp at h2
   | cons a l ih =>
    by_cases e:a=v
    ·subst e
     rw[List.count_cons_self] at h2
     obtain⟨i,hi,e⟩:=List.getElem_of_mem (List.count_pos_iff.1 (show 0<l.count a by omega))
     exact⟨i+1,by simpa using hi,by simpa using e,by simp⟩
    ·rw[List.count_cons_of_ne e] at h2
     obtain⟨i,hi,e1,e2⟩:=ih h2
     exact⟨i+1,by simpa using hi,by simpa using e1,by simp[e2]⟩
  obtain⟨i,hi,e1,e2⟩:=this
  refine⟨i,hi,by rw[hd hi,e1],?_⟩
  unfold wr
  rw[hd hi,e1,if_neg h1,if_pos e2];decide
theorem Fnd.ans {xs:List Int} {low e:Int} (h:Fnd xs xs.length low e):Ans xs e:=by
 rcases h with ⟨h1,h2⟩|⟨i,h1,h2,h3,h4,h5⟩
 ·refine .inl ⟨h1,fun v hv=>?_⟩
  obtain⟨i,hi,_,hw⟩:=bad_wr hv
  exact hw (h2 i hi)
 ·obtain⟨k1,k2⟩:=wr_bad h1 (by rw[h2];exact h3)
  refine .inr ⟨xs.getD i 0,k1,fun u hu=>?_,by rw[<- h2,k2]⟩
  obtain⟨j,hj,e1,e2⟩:=bad_wr hu
  rw[h4,<- e1]
  exact h5 j hj e2
theorem Fnd.nil (xs:List Int) (low:Int):Fnd xs 0 low 0:=.inl ⟨rfl,fun _ h=>absurd h (by omega)⟩
theorem Fnd.take {xs:List Int} {k:Nat} {low e:Int} (h:Fnd xs k low e) (hw:wr xs k≠0) (hk:e=0\/xs.getD k 0<low):Fnd xs (k+1) (xs.getD k 0) (wr xs k):=by
 refine .inr ⟨k,by omega,rfl,hw,rfl,fun j hj hj2=>?_⟩
 by_cases e1:j=k
 ·rw[e1];exact Int.le_refl _
 ·rcases h with ⟨h1,h2⟩|⟨i,h1,h2,h3,h4,h5⟩
  ·exact absurd (h2 j (by omega)) hj2
  ·have:=h5 j (by omega) hj2
   rcases hk with hk|hk
   ·exact absurd hk h3
   ·omega
end Go.Proofs.YtbeeaekepmnfhaaGreatDoor.part
