/- BeaconOrders, for every input: true; the input reads as it did. No condition. -/
import Derived.LaidLaws
import Derived.LaidHandle
import Derived.LaidMore
import Derived.MakeChecks
import Derived.OpenShut
import Derived.Test.YtbeeaekepmnfhaaGreatDoorCards
import Derived.Test.YtbeeaekepmnfhaaGreatDoorTie
import Derived.Stop.Joined
import Derived.SevenTiedAt
import Derived.Test.YtbeeaekepmnfhaaGreatDoorML24oPAF
set_option maxRecDepth 100000
namespace Go.Proofs.YtbeeaekepmnfhaaGreatDoor.eng
noncomputable section
open Go Go.Eng Go.RowKit Cr poly part sha
abbrev tc:Kd:=.sl (.int .u8)
abbrev lC:Kd:=.pair part.iK (.arr 96 (.int .u8))
abbrev N4:Kd:=.pair (.sl part.bo) (.pair part.bo (.pair part.iK part.ba))
abbrev EC:Kd:=.pair (.sl part.bo) (.pair part.bo (.pair part.iK (.pair part.ba (.sl bp))))
abbrev E4:=List (Fp × Fp) × (Fp × Fp) × Int × (Fp × Fp) × (Fp × Fp)
abbrev EK:=List (Fp × Fp) × (Fp × Fp) × Int × ((Fp × Fp) × (Fp × Fp)) × List PT
def m7 {α:Type} (p:α->Bool) (xs:List α):Int:=if xs.findIdx p<xs.length then (xs.findIdx p:Int) else -1
theorem Wi {α:Type} {p:α->Bool} {xs:List α} {k:Nat} (d:α) (hk:k<xs.length) (h:k<=xs.findIdx p) (h2:p (xs.getD k d)=true):(k:Int)=m7 p xs:=by
 have e:xs.findIdx p=k:=by
  rcases Nat.lt_or_ge k (xs.findIdx p) with c|c
  ·have:=List.not_of_lt_findIdx c
   rw[List.getD_eq_getElem?_getD,List.getElem?_eq_getElem hk,Option.getD_some] at h2
   rw[h2] at this;cases this
  ·omega
 rw[m7,e,if_pos hk]
theorem OW {α:Type} {p:α->Bool} {xs:List α} {k:Nat} (d:α) (hk:k<xs.length) (h:k<=xs.findIdx p) (h2:p (xs.getD k d)=false):k+1<=xs.findIdx p:=by
 rcases Nat.lt_or_ge k (xs.findIdx p) with c|c
 ·exact c
 ·have e:xs.findIdx p=k:=by omega
  have:=List.findIdx_getElem (p:=p) (xs:=xs) (w:=by omega)
  rw[List.getD_eq_getElem?_getD,List.getElem?_eq_getElem hk,Option.getD_some] at h2
  simp only[e] at this
  rw[this] at h2;cases h2
theorem RS {α:Type} {p:α->Bool} {xs:List α} (h:xs.length<=xs.findIdx p):m7 p xs=-1:=by
 rw[m7,if_neg (by omega)]
theorem RT (xs:List PT) (x:Int):decide (m7 (fun d:PT=>d.1==x) xs>=0)=decide (x∈xs.map ck):=by
 have h:m7 (fun d:PT=>d.1==x) xs>=0↔x∈xs.map ck:=by
  rw[List.mem_map]
  constructor
  ·intro h
   unfold m7 at h
   split at h
   ·rename_i hl
    exact⟨_,List.getElem_mem hl,by simpa using List.findIdx_getElem (p:=fun d:PT=>d.1==x) (w:=hl)⟩
   ·omega
  ·rintro⟨d,hd,e⟩
   have hl:xs.findIdx (fun d:PT=>d.1==x)<xs.length:=List.findIdx_lt_length.2 ⟨d,hd,by simpa using e⟩
   unfold m7
   rw[if_pos hl]
   omega
 rw[decide_eq_decide];exact h
theorem Rs:enters Tryz.prog 76 Tryz.f76:=ek
theorem zt:aB Tryz.prog 76 [bp,.ptr part.iK] [.val .bool] aM (fun _=>True) (fun (d,x,_)=>(d.1==x,())):=by
 refine ax (sp:=aF []) aR mixed Rs (by decide) (by decide) ?_
 rintro w M0 ⟨d,x,⟨⟩⟩
 revert d x
 intro (d:PT) (x:Int) _ _
 refine ao (X:=(0<[x].length/\(d.fst==x,())=(d.fst==x,()))) (by kernel_rfl) ?_
 exact⟨Nat.zero_lt_one,rfl⟩
def Ql:Nat × Eng.Spec:=(76,ar [bp,.ptr part.iK] [.val .bool] (fun _=>True) (fun (d,x,_)=>(d.1==x,())))
abbrev Dq:Kd:=.cap (.fn 76) part.iK
theorem Yj:enters Tryz.prog 117 Tryz.f117:=ek
def TN (xs:List PT) (x:Int) (g:Int):St:=aY Tryz.f117.ntmps 32 [(0,.is (.one (.ro bp xs))),(1,.is (.one (.fv Dq ((),x)))),(7,sI .i64 xs.length),(8,sI .i64 g)] []
theorem ab5:aB Tryz.prog 117 [.sl bp,Dq] [.val part.iK] aM (fun (xs,_,_)=>List.length xs<4611686018427387904) (fun (xs,(_,x),_)=>(m7 (fun d:PT=>d.1==x) xs,())):=by
 have hsp:aN Tryz.prog (aF [Ql]):=ai (ak zt) aR
 refine bh (sp:=aF [Ql]) Yj (by decide) (by decide) (by kernel_rfl) ?_
 rintro w M0 ⟨xs,⟨⟨⟩,x⟩,⟨⟩⟩
 revert xs x
 intro (xs:List PT) (x:Int) _ hl
 have hl:xs.length<4611686018427387904:=hl
 show Tr _ _ _ _ _ _ _
 refine aP hsp mixed 2 (TN xs x 0) True ?_ (fun _=>?_)
 ·refine ao (X:=((TN xs x 0).ah True)) (by kernel_rfl) ?_
  exact aA trivial
 refine bO hsp mixed dA (fun σ=>bU (.int .i64) 8 σ) (TN xs x) (fun g=>∃ k:Nat,k<=xs.length/\g=(k:Int)/\k<=xs.findIdx (fun d:PT=>d.1==x)) (fun g=>xs.length-g.toNat)
  (fun _=>()) (fun _=>aY Tryz.f117.ntmps 32 [] []) (fun _=>xs.length<=xs.findIdx (fun d:PT=>d.1==x)) 0 (c:=aI (aJ Tryz.f117) 2) (by kernel_rfl) (by kernel_rfl) (aC (by kernel_rfl) (by kernel_rfl) ?_) ?_ ?_
 ·exact⟨0,Nat.zero_le _,rfl,Nat.zero_le _⟩
 ·intro (i:Int) ⟨k,hk,ei,hn⟩
  subst ei
  refine ao (X:=((decide ((k:Int)<(xs.length:Int))=true->(0<=(k:Int)/\(k:Int)<(xs.length:Int))/\(k:Int).toNat<xs.length/\True/\(((xs.getD (k:Int).toNat (0,((0:Fp),(0:Fp)),(0:Fp),(0:Fp))).fst==x)=true->((k:Int),())=(m7 (fun d=>d.fst==x) xs,()))/\(((xs.getD (k:Int).toNat (0,((0:Fp),(0:Fp)),(0:Fp),(0:Fp))).fst==x)=false->(TN xs x (IntKind.i64.wrap ((k:Int)+1))).ah ((∃ cE,cE<=xs.length/\IntKind.i64.wrap ((k:Int)+1)=(cE:Int)/\cE<=List.findIdx (fun d=>d.fst==x) xs)/\xs.length-(IntKind.i64.wrap ((k:Int)+1)).toNat<xs.length-(k:Int).toNat)))/\(decide ((k:Int)<(xs.length:Int))=false->(aY Tryz.f117.ntmps 32 [] []).ah (xs.length<=List.findIdx (fun d=>d.fst==x) xs)))) (by kernel_rfl) ?_
  rw[Int.toNat_natCast]
  refine⟨fun h=>?_,fun h=>aA (by have:=Odf h;omega)⟩
  have hlt:k<xs.length:=by have:=Odt h;omega
  rw[aG (show -9223372036854775808<=(k:Int)+1 by omega) (by omega)]
  refine⟨⟨by omega,by omega⟩,hlt,trivial,fun h2=>?_,fun h2=>aA ⟨⟨k+1,hlt,rfl,OW zP hlt hn (by exact h2)⟩,by omega⟩⟩
  show ((k:Int),())=(m7 _ xs,())
  rw[Wi zP hlt hn (by exact h2)]
 rintro⟨⟩ (hn:_<=_)
 refine bf hsp mixed _ _ ?_
 refine ao (X:=(((-1:Int),())=(m7 (fun d=>d.fst==x) xs,()))) (by kernel_rfl) ?_
 show _=(m7 _ xs,())
 rw[RS hn]
def af4:Nat × Eng.Spec:=(117,ar [.sl bp,Dq] [.val part.iK] (fun (xs,_,_)=>List.length xs<4611686018427387904) (fun (xs,(_,x),_)=>(m7 (fun d:PT=>d.1==x) xs,())))
theorem Vl:enters Tryz.prog 75 Tryz.f75:=ek
def jH (xs:List PT) (x:Int):Bool:=cr (decide (x∈xs.map ck))
abbrev CA:HL [.sl bp,Dq]->Prop:=fun (xs,_,_)=>List.length xs<4611686018427387904
theorem YM:aB Tryz.prog 75 [.sl bp,Dq] [.val .bool] aM CA (fun (xs,(_,x),_)=>(jH xs x,())):=by
 refine ax (sp:=aF [af4]) (ai (ak ab5) aR) mixed Vl (by decide) (by decide) ?_
 rintro w M0 ⟨xs,⟨⟨⟩,x⟩,⟨⟩⟩
 revert xs x
 intro (xs:List PT) (x:Int) _ hl
 refine ao (X:=(xs.length<4611686018427387904/\(decide (m7 (fun d=>d.fst==x) xs>=0),())=(jH xs x,()))) (by kernel_rfl) ?_
 rw[jH,ay,<- RT]
 exact⟨hl,rfl⟩
def Ut:Nat × Eng.Spec:=(75,ar [.sl bp,Dq] [.val .bool] CA (fun (xs,(_,x),_)=>(jH xs x,())))
theorem Rh:enters Tryz.prog 73 Tryz.f73:=ek
theorem DA:aB Tryz.prog 73 [.ptr EC] [.val .bool] aM (fun _=>True) (fun (g,_)=>(((List.length g.1:Int)==0),())):=by
 refine ax (sp:=aF []) aR mixed Rh (by decide) (by decide) ?_
 rintro w M0 ⟨⟨c,k,r,h,ys⟩,⟨⟩⟩
 revert c k r h ys
 intro (c:List (Fp × Fp)) (k:Fp × Fp) (r:Int) (h:(Fp × Fp) × (Fp × Fp)) (ys:List PT) _ _
 refine ao (X:=(0<[(c,k,r,h,ys)].length/\((c.length:Int)==0,())=((c.length:Int)==0,()))) (by kernel_rfl) ?_
 exact⟨Nat.zero_lt_one,rfl⟩
def yM:Nat × Eng.Spec:=(73,ar [.ptr EC] [.val .bool] (fun _=>True) (fun (g,_)=>(((List.length g.1:Int)==0),())))
end
end Go.Proofs.YtbeeaekepmnfhaaGreatDoor.eng
namespace Go.Proofs.YtbeeaekepmnfhaaGreatDoor.eng
noncomputable section
open Go Go.Eng Go.RowKit Cr poly part sha
abbrev MM:HL [.sl part.bo]->Prop:=fun (c,_)=>0<List.length c/\List.length c<1048576
def Z4 (c:List (Fp × Fp)):EK:=(c,eT 0 c,0,z2,[])
theorem Gr:aB Tryz.prog 34 [.sl part.bo] [.box EC] aM MM (fun (c,_)=>(Z4 c,())):=by
 have hsp:aN Tryz.prog (aF [deal.rH,Nf]):=ai (ak deal.vW) (ai (ak Oo) aR)
 refine bh (sp:=aF [deal.rH,Nf]) beacon.JS (by decide) (by decide) (by kernel_rfl) ?_
 rintro w M0 ⟨c,⟨⟩⟩
 revert c
 intro (c:List (Fp × Fp)) _ hp
 obtain⟨h0,h1⟩:=hp
 have h0:0<c.length:=h0
 have h1:c.length<1048576:=h1
 show Tr _ _ _ _ _ _ _
 refine aP hsp mixed 4 (aY Tryz.f34.ntmps 88 [(2,.is (.one (.ptr 72 0)))] [(72,[.sl 40 0 0 c.length 12,.row .fp 1 [(eT 0 c).1],.row .fp 1 [(eT 0 c).2],.v (.int .i64 0),.row .fp 1 [0],.row .fp 1 [0],.row .fp 1 [0],.row .fp 1 [0],.v (.slice none 0 0)]),(40,[.row part.bo c.length c])]) True ?_ (fun _=>?_)
 ·refine ao (X:=((((c.length:Int)==0)=true->False)/\(((c.length:Int)==0)=false->deal.iV (c,())/\Cz (c,0,())/\(aY Tryz.f34.ntmps 88 [(2,SV.is (TV.one (Cell.ptr 72 0)))] [(72,[Cell.sl 40 0 0 c.length 12,Cell.row Kd.fp 1 [(eT 0 c).fst],Cell.row Kd.fp 1 [(eT 0 c).snd],Cell.v (Value.int IntKind.i64 0),Cell.row Kd.fp 1 [(0:au Kd.fp)],Cell.row Kd.fp 1 [(0:au Kd.fp)],Cell.row Kd.fp 1 [(0:au Kd.fp)],Cell.row Kd.fp 1 [(0:au Kd.fp)],Cell.v (Value.slice none 0 0)]),(40,[Cell.row part.bo c.length c])]).ah True))) (by kernel_rfl) ?_
  refine⟨fun h=>?_,fun _=>⟨h1,⟨by show c.length<_;omega,by decide,by decide⟩,aA trivial⟩⟩
  have h:(c.length:Int)=0:=eq_of_beq h
  omega
 refine Xm 72 40 c.length 12 part.bo c (.row part.bo c.length c) _ (by decide) (fun _ _ h=>h) rfl rfl rfl ?_
 refine bf hsp mixed _ _ ?_
 refine ao (X:=(((c,eT 0 c,0,(((0:Zm Mp),(0:Zm Mp)),(0:Zm Mp),(0:Zm Mp)),[]),())=(Z4 c,()))) (by kernel_rfl) ?_
 rfl
def FE:Nat × Eng.Spec:=(34,ar [.sl part.bo] [.box EC] MM (fun (c,_)=>(Z4 c,())))
theorem N5:enters Tryz.prog 35 Tryz.f35:=ek
abbrev MJ:(E4 × List PT) × HL [tc,part.iK]->Prop:=fun (x,p,_)=>0<List.length x.1.1/\List.length p<=5000
def XM (x:(E4 × List PT) × HL [tc,part.iK]):(E4 × List PT) × Unit:=(((x.1.1.1,x.1.1.2.1,x.2.2.1,bG.dv (beacon.fj x.2.1 x.2.2.1)),[]),())
theorem RC:q7 Tryz.prog 35 false N4 bp [tc,part.iK] [] db MJ XM:=by
 have hsp:aN Tryz.prog (aF [yM,beacon.Ic,bG.jk]):=ai (ak DA) (ai (B5 beacon.Kg) (ai (B5 bG.m5) aR))
 refine Oz (sp:=aF [yM,beacon.Ic,bG.jk]) N5 (by decide) (by decide) (by decide) (by kernel_rfl) ?_
 rintro w M0 b ⟨c,k,r,h⟩ ys ⟨p,n,⟨⟩⟩
 revert c k r h ys p n
 intro (c:List (Fp × Fp)) (k:Fp × Fp) (r:Int) (h:(Fp × Fp) × (Fp × Fp)) (ys:List PT) (p:List Int) (n:Int) _ _ hp
 obtain⟨h0,h1⟩:=hp
 have h0:0<c.length:=h0
 have h1:p.length<=5000:=h1
 show Tr _ _ _ _ _ _ _
 refine bf hsp mixed _ _ ?_
 refine ao (X:=(True/\(((c.length:Int)==0)=true->False)/\(((c.length:Int)==0)=false->(∀ (g:Nat) (s:Sigma au),db g=some s->Decidable.rec (fun h=>(fun x=>if g=1 then some ⟨Kd.arr 64 uK,dQ⟩ else none) h) (fun h=>(fun x=>some ⟨Kd.arr 8 uK,cw⟩) h) (instDecidableEqNat g 0)=some s)/\beacon.Fx (p,n,())/\(∀ (g:Nat) (s:Sigma au),db g=some s->Decidable.rec (fun h=>(fun x=>if g=1 then some ⟨Kd.arr 64 uK,dQ⟩ else none) h) (fun h=>(fun x=>some ⟨Kd.arr 8 uK,cw⟩) h) (instDecidableEqNat g 0)=some s)/\0+(beacon.fj p n).length<=(beacon.fj p n).length/\bG.MN (List.take (beacon.fj p n).length (beacon.fj p n),())/\(((c,k,n,bG.dv (List.take (beacon.fj p n).length (beacon.fj p n))),[]),())=XM (((c,k,r,h),ys),p,n,())))) (by kernel_rfl) ?_
 rw[List.take_length]
 refine⟨trivial,fun h=>?_,fun _=>⟨fun _ _ h=>h,h1,fun _ _ h=>h,Nat.le_of_eq (Nat.zero_add _),by show List.length _<=_;rw[beacon.Lv];decide,rfl⟩⟩
 have h:(c.length:Int)=0:=eq_of_beq h
 omega
def K8:Nat × Eng.Spec:=(35,AX db false N4 bp [tc,part.iK] [] MJ XM)
theorem Vq:enters Tryz.prog 36 Tryz.f36:=ek
theorem YU:aB Tryz.prog 36 [.ptr EC,.fr] [.val (.arr 96 (.int .u8))] aM (fun (g,_,_)=>0<List.length g.1) (fun (g,s,_)=>(codec.gi (g2.a6 g.2.2.2.1 s),())):=by
 refine ax (sp:=aF [yM,g2.zW,codec.aaU]) (ai (ak DA) (ai (ak g2.B9) (ai (ak codec.TB) aR))) mixed Vq (by decide) (by decide) ?_
 rintro w M0 ⟨⟨c,k,r,h,ys⟩,s,⟨⟩⟩
 revert c k r h ys s
 intro (c:List (Fp × Fp)) (k:Fp × Fp) (r:Int) (h:(Fp × Fp) × (Fp × Fp)) (ys:List PT) (s:Fr) _ h0
 have h0:0<c.length:=h0
 refine ao (X:=(True/\(((c.length:Int)==0)=true->([0,0,0,0,0,0,0,0,0,0,0,0,0,0,0,0,0,0,0,0,0,0,0,0,0,0,0,0,0,0,0,0,0,0,0,0,0,0,0,0,0,0,0,0,0,0,0,0,0,0,0,0,0,0,0,0,0,0,0,0,0,0,0,0,0,0,0,0,0,0,0,0,0,0,0,0,0,0,0,0,0,0,0,0,0,0,0,0,0,0,0,0,0,0,0,0],())=(codec.gi (g2.a6 h s),()))/\(((c.length:Int)==0)=false->0<[(c,k,r,h,ys)].length/\True/\True/\(codec.gi (g2.a6 h s),())=(codec.gi (g2.a6 h s),())))) (by kernel_rfl) ?_
 refine⟨trivial,fun h=>?_,fun _=>⟨Nat.zero_lt_one,trivial,trivial,rfl⟩⟩
 have h:(c.length:Int)=0:=eq_of_beq h
 omega
def Uz:Nat × Eng.Spec:=(36,ar [.ptr EC,.fr] [.val (.arr 96 (.int .u8))] (fun (g,_,_)=>0<List.length g.1) (fun (g,s,_)=>(codec.gi (g2.a6 g.2.2.2.1 s),())))
theorem Yk:enters Tryz.prog 78 Tryz.f78:=ek
def yi (c:List (Fp × Fp)) (k:Fp × Fp) (h:(Fp × Fp) × (Fp × Fp)) (ys:List PT):Prop:=(k8 c.length ys).2.1=0/\bG.ya k h (k8 c.length ys).1=true
theorem ab6:aB Tryz.prog 78 [.ptr EC] [.val lC,.val .bool] aM (fun (g,_)=>(List.length g.2.2.2.2<=12/\List.length g.1<1048576)/\yi g.1 g.2.1 g.2.2.2.1 g.2.2.2.2) (fun (g,_)=>((g.2.2.1,codec.gi (k8 (List.length g.1) g.2.2.2.2).1),true,())):=by
 refine ax (sp:=aF [aaW,bG.aa3,codec.aaU]) (ai (ak VY) (ai (ak bG.VG) (ai (ak codec.TB) aR))) mixed Yk (by decide) (by decide) ?_
 rintro w M0 ⟨⟨c,k,r,h,ys⟩,⟨⟩⟩
 revert c k r h ys
 intro (c:List (Fp × Fp)) (k:Fp × Fp) (r:Int) (h:(Fp × Fp) × (Fp × Fp)) (ys:List PT) _ hp
 obtain⟨h1,h2,h3⟩:=hp
 refine ao (X:=(0<[(c,k,r,h,ys)].length/\0<[(c,k,r,h,ys)].length/\zK (c,ys,())/\(((k8 c.length ys).snd.fst != 0)=true->((0,[0,0,0,0,0,0,0,0,0,0,0,0,0,0,0,0,0,0,0,0,0,0,0,0,0,0,0,0,0,0,0,0,0,0,0,0,0,0,0,0,0,0,0,0,0,0,0,0,0,0,0,0,0,0,0,0,0,0,0,0,0,0,0,0,0,0,0,0,0,0,0,0,0,0,0,0,0,0,0,0,0,0,0,0,0,0,0,0,0,0,0,0,0,0,0,0]),false,())=((r,codec.gi (k8 c.length ys).fst),true,()))/\(((k8 c.length ys).snd.fst != 0)=false->0<[(c,k,r,h,ys)].length/\0<[(c,k,r,h,ys)].length/\True/\((!bG.ya k h (k8 c.length ys).fst)=true->((0,[0,0,0,0,0,0,0,0,0,0,0,0,0,0,0,0,0,0,0,0,0,0,0,0,0,0,0,0,0,0,0,0,0,0,0,0,0,0,0,0,0,0,0,0,0,0,0,0,0,0,0,0,0,0,0,0,0,0,0,0,0,0,0,0,0,0,0,0,0,0,0,0,0,0,0,0,0,0,0,0,0,0,0,0,0,0,0,0,0,0,0,0,0,0,0,0]),false,())=((r,codec.gi (k8 c.length ys).fst),true,()))/\((!bG.ya k h (k8 c.length ys).fst)=false->0<[(c,k,r,h,ys)].length/\True/\((r,codec.gi (k8 c.length ys).fst),true,())=((r,codec.gi (k8 c.length ys).fst),true,()))))) (by kernel_rfl) ?_
 have h2:(k8 c.length ys).2.1=0:=h2
 have h3:bG.ya k h (k8 c.length ys).1=true:=h3
 rw[h2,h3]
 exact⟨Nat.zero_lt_one,Nat.zero_lt_one,h1,fun h=>absurd h (by decide),fun _=>⟨Nat.zero_lt_one,Nat.zero_lt_one,trivial,fun h=>absurd h (by decide),fun _=>⟨Nat.zero_lt_one,trivial,rfl⟩⟩⟩
def aa5:Nat × Eng.Spec:=(78,ar [.ptr EC] [.val lC,.val .bool] (fun (g,_)=>(List.length g.2.2.2.2<=12/\List.length g.1<1048576)/\yi g.1 g.2.1 g.2.2.2.1 g.2.2.2.2) (fun (g,_)=>((g.2.2.1,codec.gi (k8 (List.length g.1) g.2.2.2.2).1),true,())))
end
end Go.Proofs.YtbeeaekepmnfhaaGreatDoor.eng
namespace Go.Proofs.YtbeeaekepmnfhaaGreatDoor.eng
open Go Go.Eng Go.RowKit Cr poly part sha
def zL:Int × List Int:=(0,List.replicate 96 0)
noncomputable def fB (z:(E4 × List PT) × HL [part.iK,part.iK,tc]):(E4 × List PT) × (Int × List Int) × Bool × Unit :=
 if dm z.2.2.1=true/\jH z.1.2 z.2.2.1=false then
  (if z.1.2.length+1<z.1.1.1.length then ((z.1.1,z.1.2++[(z.2.2.1,(codec.gh z.2.2.2.1).1)]),zL,false,())
   else ((z.1.1,z.1.2++[(z.2.2.1,(codec.gh z.2.2.2.1).1)]),(z.1.1.2.2.1,codec.gi (k8 z.1.1.1.length (z.1.2++[(z.2.2.1,(codec.gh z.2.2.2.1).1)])).1),true,()))
 else (z.1,zL,false,())
theorem Pk {x:Int} (h:x<1):dm x=false:=by rw[dm,decide_eq_false (show ¬ 1<=x by omega),Bool.false_and]
theorem Ph {x:Int} (h:x>9):dm x=false:=by rw[dm,decide_eq_false (show ¬ x<=9 by omega),Bool.and_false]
theorem Pj {x:Int} (h:¬ x<1) (h2:¬ x>9):dm x=true:=by rw[dm,decide_eq_true (show 1<=x by omega),decide_eq_true (show x<=9 by omega)];rfl
section
variable {c:List (Fp × Fp)} {k:Fp × Fp} {r:Int} {h:(Fp × Fp) × (Fp × Fp)} {ys:List PT} {rd x:Int} {sg:List Int}
theorem rX (hn:¬ (dm x=true/\jH ys x=false)):fB (((c,k,r,h),ys),rd,x,sg,())=(((c,k,r,h),ys),zL,false,()):=by
 rw[fB,if_neg hn]
theorem C7 (hk:dm x=true/\jH ys x=false) (hl:ys.length+1<c.length):fB (((c,k,r,h),ys),rd,x,sg,())=(((c,k,r,h),ys++[(x,(codec.gh sg).1)]),zL,false,()):=by
 rw[fB,if_pos hk,if_pos hl]
theorem C6 (hk:dm x=true/\jH ys x=false) (hl:¬ ys.length+1<c.length):fB (((c,k,r,h),ys),rd,x,sg,())=(((c,k,r,h),ys++[(x,(codec.gh sg).1)]),(r,codec.gi (k8 c.length (ys++[(x,(codec.gh sg).1)])).1),true,()):=by
 rw[fB,if_pos hk,if_neg hl]
end
def yr (z:(E4 × List PT) × HL [part.iK,part.iK,tc]):Prop :=
 (0<z.1.1.1.length/\z.1.1.1.length<1048576)/\z.2.1=z.1.1.2.2.1/\codec.wE (z.2.2.2.1,())/\List.length z.2.2.2.1=96/\(codec.gh z.2.2.2.1).2=0/\z.1.2.length<=8 /\
 (dm z.2.2.1=true->jH z.1.2 z.2.2.1=false->z.1.1.1.length<=z.1.2.length+1->yi z.1.1.1 z.1.1.2.1 z.1.1.2.2.2 (z.1.2++[(z.2.2.1,(codec.gh z.2.2.2.1).1)]))
theorem j9:enters Tryz.prog 37 Tryz.f37:=ek
abbrev Yd (c:List (Fp × Fp)) (k:Fp × Fp) (r:Int) (h:(Fp × Fp) × (Fp × Fp)):List Cell:=[.ro part.bo c,.row .fp 1 [k.1],.row .fp 1 [k.2],.v (.int .i64 r)]++g2.pc h
noncomputable def adN (c:List (Fp × Fp)) (k:Fp × Fp) (r:Int) (h:(Fp × Fp) × (Fp × Fp)) (x:Int) (sg:List Int):St:=aY Tryz.f37.ntmps 257 [(0,.is (.one (.ptr 0 0))),(3,.is (.one (.ro (.int .u8) sg))),(6,.is (.one (.ptr 1 0))),(8,.is (.one (.ptr 9 0)))] [(0,Yd c k r h++[.v (.slice none 0 0)]),(1,[.v (.int .i64 x)]),(9,[.v (.int .i64 0),.ints .u8 96 (List.replicate 96 0)])]
noncomputable def adS (c:List (Fp × Fp)) (k:Fp × Fp) (r:Int) (h:(Fp × Fp) × (Fp × Fp)) (ys:List PT) (x:Int) (sg:List Int):St:=aY Tryz.f37.ntmps 258 [(0,.is (.one (.ptr 0 0))),(3,.is (.one (.ro (.int .u8) sg))),(6,.is (.one (.ptr 2 0))),(8,.is (.one (.ptr 10 0)))] [(0,Yd c k r h++[.sl 1 0 0 ys.length 25]),(1,[.row bp ys.length ys]),(2,[.v (.int .i64 x)]),(10,[.v (.int .i64 0),.ints .u8 96 (List.replicate 96 0)])]
theorem cC:q7 Tryz.prog 37 true N4 bp [part.iK,part.iK,tc] [.val lC,.val .bool] aM yr fB:=by
 have hsp:aN Tryz.prog (aF [yM,Ut,codec.H4,aa5]):=ai (ak DA) (ai (ak YM) (ai (ak codec.OF) (ai (ak ab6) aR)))
 refine OA (sp:=aF [yM,Ut,codec.H4,aa5]) j9 (by decide) (by decide) (by decide) (by kernel_rfl) ?_ ?_
 ·rintro w M0 b ⟨c,k,r,h⟩ ⟨rd,x,sg,⟨⟩⟩
  revert c k r h rd x sg
  intro (c:List (Fp × Fp)) (k:Fp × Fp) (r:Int) (h:(Fp × Fp) × (Fp × Fp)) (rd:Int) (x:Int) (sg:List Int) _ _ hp
  obtain⟨⟨h0,h1⟩,h2,h3,h4,h5,h6,h7⟩:=hp
  show Tr _ _ _ _ _ _ _
  have h0:0<c.length:=h0
  have h1:c.length<1048576:=h1
  have h2:rd=r:=h2
  have h4:sg.length=96:=h4
  have h5:(codec.gh sg).2=0:=h5
  have h6:([]:List PT).length<=8:=h6
  have hc0:((c.length:Int)==0)=true->False:=fun e=>by have e:(c.length:Int)=0:=eq_of_beq e;omega
  refine aP hsp mixed 5 (adN c k r h x sg) (dm x=true/\jH [] x=false) ?_ (fun hk=>?_)
  ·refine ao (X:=(True/\(((c.length:Int)==0)=true->(((c,k,r,h),[]),(0,[0,0,0,0,0,0,0,0,0,0,0,0,0,0,0,0,0,0,0,0,0,0,0,0,0,0,0,0,0,0,0,0,0,0,0,0,0,0,0,0,0,0,0,0,0,0,0,0,0,0,0,0,0,0,0,0,0,0,0,0,0,0,0,0,0,0,0,0,0,0,0,0,0,0,0,0,0,0,0,0,0,0,0,0,0,0,0,0,0,0,0,0,0,0,0,0]),false,())=fB (((c,k,r,h),[]),rd,x,sg,()))/\(((c.length:Int)==0)=false->((rd != r)=true->(((c,k,r,h),[]),(0,[0,0,0,0,0,0,0,0,0,0,0,0,0,0,0,0,0,0,0,0,0,0,0,0,0,0,0,0,0,0,0,0,0,0,0,0,0,0,0,0,0,0,0,0,0,0,0,0,0,0,0,0,0,0,0,0,0,0,0,0,0,0,0,0,0,0,0,0,0,0,0,0,0,0,0,0,0,0,0,0,0,0,0,0,0,0,0,0,0,0,0,0,0,0,0,0]),false,())=fB (((c,k,r,h),[]),rd,x,sg,()))/\((rd != r)=false->(decide (x<1)=true->(((c,k,r,h),[]),(0,[0,0,0,0,0,0,0,0,0,0,0,0,0,0,0,0,0,0,0,0,0,0,0,0,0,0,0,0,0,0,0,0,0,0,0,0,0,0,0,0,0,0,0,0,0,0,0,0,0,0,0,0,0,0,0,0,0,0,0,0,0,0,0,0,0,0,0,0,0,0,0,0,0,0,0,0,0,0,0,0,0,0,0,0,0,0,0,0,0,0,0,0,0,0,0,0]),false,())=fB (((c,k,r,h),[]),rd,x,sg,()))/\(decide (x<1)=false->(decide (x>9)=true->(((c,k,r,h),[]),(0,[0,0,0,0,0,0,0,0,0,0,0,0,0,0,0,0,0,0,0,0,0,0,0,0,0,0,0,0,0,0,0,0,0,0,0,0,0,0,0,0,0,0,0,0,0,0,0,0,0,0,0,0,0,0,0,0,0,0,0,0,0,0,0,0,0,0,0,0,0,0,0,0,0,0,0,0,0,0,0,0,0,0,0,0,0,0,0,0,0,0,0,0,0,0,0,0]),false,())=fB (((c,k,r,h),[]),rd,x,sg,()))/\(decide (x>9)=false->(((sg.length:Int) != 96)=true->(((c,k,r,h),[]),(0,[0,0,0,0,0,0,0,0,0,0,0,0,0,0,0,0,0,0,0,0,0,0,0,0,0,0,0,0,0,0,0,0,0,0,0,0,0,0,0,0,0,0,0,0,0,0,0,0,0,0,0,0,0,0,0,0,0,0,0,0,0,0,0,0,0,0,0,0,0,0,0,0,0,0,0,0,0,0,0,0,0,0,0,0,0,0,0,0,0,0,0,0,0,0,0,0]),false,())=fB (((c,k,r,h),[]),rd,x,sg,()))/\(((sg.length:Int) != 96)=false->CA ([],((),x),())/\(jH [] x=true->(((c,k,r,h),[]),(0,[0,0,0,0,0,0,0,0,0,0,0,0,0,0,0,0,0,0,0,0,0,0,0,0,0,0,0,0,0,0,0,0,0,0,0,0,0,0,0,0,0,0,0,0,0,0,0,0,0,0,0,0,0,0,0,0,0,0,0,0,0,0,0,0,0,0,0,0,0,0,0,0,0,0,0,0,0,0,0,0,0,0,0,0,0,0,0,0,0,0,0,0,0,0,0,0]),false,())=fB (((c,k,r,h),[]),rd,x,sg,()))/\(jH [] x=false->(adN c k r h x sg).ah (dm x=true/\jH [] x=false))))))))) (by kernel_rfl) ?_
   refine⟨trivial,fun e=>(hc0 e).elim,fun _=>⟨fun e=>absurd (by simpa using e) (fun f:¬ rd=r=>f h2),fun _=>⟨fun hx=>?_,fun hx=>⟨fun hy=>?_,fun hy=>⟨fun e=>absurd (by simpa using e) (fun f:¬ (sg.length:Int)=96=>f (by omega)),fun _=>⟨by show (0:Nat)<_;decide,fun hh=>?_,fun hh=>aA ⟨Pj (Odf hx) (Odf hy),hh⟩⟩⟩⟩⟩⟩⟩
   ·rw[rX (fun e=>by rw[Pk (Odt hx)] at e;exact absurd e.1 (by decide))];rfl
   ·rw[rX (fun e=>by rw[Ph (Odt hy)] at e;exact absurd e.1 (by decide))];rfl
   ·rw[rX (fun e=>by rw[hh] at e;exact absurd e.2 (by decide))];rfl
  refine bf hsp mixed _ _ ?_
  refine ao (X:=(codec.wE (sg,())/\(((codec.gh sg).snd != 0)=true->(((c,k,r,h),[]),(0,[0,0,0,0,0,0,0,0,0,0,0,0,0,0,0,0,0,0,0,0,0,0,0,0,0,0,0,0,0,0,0,0,0,0,0,0,0,0,0,0,0,0,0,0,0,0,0,0,0,0,0,0,0,0,0,0,0,0,0,0,0,0,0,0,0,0,0,0,0,0,0,0,0,0,0,0,0,0,0,0,0,0,0,0,0,0,0,0,0,0,0,0,0,0,0,0]),false,())=fB (((c,k,r,h),[]),rd,x,sg,()))/\(((codec.gh sg).snd != 0)=false->0+1<=1/\1*200<=140737488355328/\1<=4611686018427387904/\(decide ((↑(1:Nat):Int)<(c.length:Int))=true->1=1/\1=1/\(((c,k,r,h),[(x,(codec.gh sg).fst)]),(0,[0,0,0,0,0,0,0,0,0,0,0,0,0,0,0,0,0,0,0,0,0,0,0,0,0,0,0,0,0,0,0,0,0,0,0,0,0,0,0,0,0,0,0,0,0,0,0,0,0,0,0,0,0,0,0,0,0,0,0,0,0,0,0,0,0,0,0,0,0,0,0,0,0,0,0,0,0,0,0,0,0,0,0,0,0,0,0,0,0,0,0,0,0,0,0,0]),false,())=fB (((c,k,r,h),[]),rd,x,sg,()))/\(decide ((↑(1:Nat):Int)<(c.length:Int))=false->0+1<=1/\(((List.take 1 (List.take 1 [(x,(codec.gh sg).fst)])).length<=12/\c.length<1048576)/\yi c k h (List.take 1 (List.take 1 [(x,(codec.gh sg).fst)])))/\(true=true->1=1/\1=1/\(((c,k,r,h),[(x,(codec.gh sg).fst)]),(r,codec.gi (k8 c.length (List.take 1 (List.take 1 [(x,(codec.gh sg).fst)]))).fst),true,())=fB (((c,k,r,h),[]),rd,x,sg,()))/\(true=false->False))))) (by kernel_rfl) ?_
  rw[h5]
  refine⟨h3,fun e=>absurd e (by decide),fun _=>⟨by decide,by decide,by decide,fun hl=>⟨rfl,rfl,?_⟩,fun hl=>⟨by decide,⟨⟨by show (1:Nat)<=12;decide,h1⟩,?_⟩,fun _=>⟨rfl,rfl,?_⟩,fun e=>by cases e⟩⟩⟩
  ·rw[C7 hk (by have:=Odt hl;show 0+1<_;omega)];rfl
  ·exact h7 hk.1 hk.2 (by have:=Odf hl;show c.length<=0+1;omega)
  ·rw[C6 hk (by have:=Odf hl;show ¬ 0+1<_;omega)];rfl
 ·rintro w M0 b b1 ⟨c,k,r,h⟩ ys ⟨rd,x,sg,⟨⟩⟩
  revert c k r h ys rd x sg
  intro (c:List (Fp × Fp)) (k:Fp × Fp) (r:Int) (h:(Fp × Fp) × (Fp × Fp)) (ys:List PT) (rd:Int) (x:Int) (sg:List Int) _ _ hp
  obtain⟨⟨h0,h1⟩,h2,h3,h4,h5,h6,h7⟩:=hp
  show Tr _ _ _ _ _ _ _
  have h0:0<c.length:=h0
  have h1:c.length<1048576:=h1
  have h2:rd=r:=h2
  have h4:sg.length=96:=h4
  have h5:(codec.gh sg).2=0:=h5
  have h6:ys.length<=8:=h6
  have hc0:((c.length:Int)==0)=true->False:=fun e=>by have e:(c.length:Int)=0:=eq_of_beq e;omega
  refine aP hsp mixed 5 (adS c k r h ys x sg) (dm x=true/\jH ys x=false) ?_ (fun hk=>?_)
  ·refine ao (X:=(0+ys.length<=ys.length/\True/\(((c.length:Int)==0)=true->ys.length=ys.length/\ys.length=ys.length/\(((c,k,r,h),ys),(0,[0,0,0,0,0,0,0,0,0,0,0,0,0,0,0,0,0,0,0,0,0,0,0,0,0,0,0,0,0,0,0,0,0,0,0,0,0,0,0,0,0,0,0,0,0,0,0,0,0,0,0,0,0,0,0,0,0,0,0,0,0,0,0,0,0,0,0,0,0,0,0,0,0,0,0,0,0,0,0,0,0,0,0,0,0,0,0,0,0,0,0,0,0,0,0,0]),false,())=fB (((c,k,r,h),ys),rd,x,sg,()))/\(((c.length:Int)==0)=false->((rd != r)=true->ys.length=ys.length/\ys.length=ys.length/\(((c,k,r,h),ys),(0,[0,0,0,0,0,0,0,0,0,0,0,0,0,0,0,0,0,0,0,0,0,0,0,0,0,0,0,0,0,0,0,0,0,0,0,0,0,0,0,0,0,0,0,0,0,0,0,0,0,0,0,0,0,0,0,0,0,0,0,0,0,0,0,0,0,0,0,0,0,0,0,0,0,0,0,0,0,0,0,0,0,0,0,0,0,0,0,0,0,0,0,0,0,0,0,0]),false,())=fB (((c,k,r,h),ys),rd,x,sg,()))/\((rd != r)=false->(decide (x<1)=true->ys.length=ys.length/\ys.length=ys.length/\(((c,k,r,h),ys),(0,[0,0,0,0,0,0,0,0,0,0,0,0,0,0,0,0,0,0,0,0,0,0,0,0,0,0,0,0,0,0,0,0,0,0,0,0,0,0,0,0,0,0,0,0,0,0,0,0,0,0,0,0,0,0,0,0,0,0,0,0,0,0,0,0,0,0,0,0,0,0,0,0,0,0,0,0,0,0,0,0,0,0,0,0,0,0,0,0,0,0,0,0,0,0,0,0]),false,())=fB (((c,k,r,h),ys),rd,x,sg,()))/\(decide (x<1)=false->(decide (x>9)=true->ys.length=ys.length/\ys.length=ys.length/\(((c,k,r,h),ys),(0,[0,0,0,0,0,0,0,0,0,0,0,0,0,0,0,0,0,0,0,0,0,0,0,0,0,0,0,0,0,0,0,0,0,0,0,0,0,0,0,0,0,0,0,0,0,0,0,0,0,0,0,0,0,0,0,0,0,0,0,0,0,0,0,0,0,0,0,0,0,0,0,0,0,0,0,0,0,0,0,0,0,0,0,0,0,0,0,0,0,0,0,0,0,0,0,0]),false,())=fB (((c,k,r,h),ys),rd,x,sg,()))/\(decide (x>9)=false->(((sg.length:Int) != 96)=true->ys.length=ys.length/\ys.length=ys.length/\(((c,k,r,h),ys),(0,[0,0,0,0,0,0,0,0,0,0,0,0,0,0,0,0,0,0,0,0,0,0,0,0,0,0,0,0,0,0,0,0,0,0,0,0,0,0,0,0,0,0,0,0,0,0,0,0,0,0,0,0,0,0,0,0,0,0,0,0,0,0,0,0,0,0,0,0,0,0,0,0,0,0,0,0,0,0,0,0,0,0,0,0,0,0,0,0,0,0,0,0,0,0,0,0]),false,())=fB (((c,k,r,h),ys),rd,x,sg,()))/\(((sg.length:Int) != 96)=false->0+ys.length<=ys.length/\CA (List.take ys.length ys,((),x),())/\(jH (List.take ys.length ys) x=true->ys.length=ys.length/\ys.length=ys.length/\(((c,k,r,h),ys),(0,[0,0,0,0,0,0,0,0,0,0,0,0,0,0,0,0,0,0,0,0,0,0,0,0,0,0,0,0,0,0,0,0,0,0,0,0,0,0,0,0,0,0,0,0,0,0,0,0,0,0,0,0,0,0,0,0,0,0,0,0,0,0,0,0,0,0,0,0,0,0,0,0,0,0,0,0,0,0,0,0,0,0,0,0,0,0,0,0,0,0,0,0,0,0,0,0]),false,())=fB (((c,k,r,h),ys),rd,x,sg,()))/\(jH (List.take ys.length ys) x=false->(adS c k r h ys x sg).ah (dm x=true/\jH ys x=false))))))))) (by kernel_rfl) ?_
   rw[List.take_length]
   refine⟨by omega,trivial,fun e=>(hc0 e).elim,fun _=>⟨fun e=>absurd (by simpa using e) (fun f:¬ rd=r=>f h2),fun _=>⟨fun hx=>⟨rfl,rfl,?_⟩,fun hx=>⟨fun hy=>⟨rfl,rfl,?_⟩,fun hy=>⟨fun e=>absurd (by simpa using e) (fun f:¬ (sg.length:Int)=96=>f (by omega)),fun _=>⟨by omega,by show ys.length<_;omega,fun hh=>⟨rfl,rfl,?_⟩,fun hh=>aA ⟨Pj (Odf hx) (Odf hy),hh⟩⟩⟩⟩⟩⟩⟩
   ·rw[rX (fun e=>by rw[Pk (Odt hx)] at e;exact absurd e.1 (by decide))];rfl
   ·rw[rX (fun e=>by rw[Ph (Odt hy)] at e;exact absurd e.1 (by decide))];rfl
   ·rw[rX (fun e=>by rw[hh] at e;exact absurd e.2 (by decide))];rfl
  refine bf hsp mixed _ _ ?_
  refine ao (X:=(codec.wE (sg,())/\(((codec.gh sg).snd != 0)=true->ys.length=ys.length/\ys.length=ys.length/\(((c,k,r,h),ys),(0,[0,0,0,0,0,0,0,0,0,0,0,0,0,0,0,0,0,0,0,0,0,0,0,0,0,0,0,0,0,0,0,0,0,0,0,0,0,0,0,0,0,0,0,0,0,0,0,0,0,0,0,0,0,0,0,0,0,0,0,0,0,0,0,0,0,0,0,0,0,0,0,0,0,0,0,0,0,0,0,0,0,0,0,0,0,0,0,0,0,0,0,0,0,0,0,0]),false,())=fB (((c,k,r,h),ys),rd,x,sg,()))/\(((codec.gh sg).snd != 0)=false->0+1<=1/\ys.length<=ys.length/\(ys.length+1)*200<=140737488355328/\ys.length+1<=4611686018427387904/\(decide ((↑(ys.length+1):Int)<(c.length:Int))=true->ys.length+1=ys.length+1/\(List.take ys.length ys++List.take 1 [(x,(codec.gh sg).fst)]).length=ys.length+1/\(((c,k,r,h),List.take ys.length ys++List.take 1 [(x,(codec.gh sg).fst)]),(0,[0,0,0,0,0,0,0,0,0,0,0,0,0,0,0,0,0,0,0,0,0,0,0,0,0,0,0,0,0,0,0,0,0,0,0,0,0,0,0,0,0,0,0,0,0,0,0,0,0,0,0,0,0,0,0,0,0,0,0,0,0,0,0,0,0,0,0,0,0,0,0,0,0,0,0,0,0,0,0,0,0,0,0,0,0,0,0,0,0,0,0,0,0,0,0,0]),false,())=fB (((c,k,r,h),ys),rd,x,sg,()))/\(decide ((↑(ys.length+1):Int)<(c.length:Int))=false->0+(ys.length+1)<=ys.length+1/\(((List.take (ys.length+1) (List.take ys.length ys++List.take 1 [(x,(codec.gh sg).fst)])).length<=12/\c.length<1048576)/\yi c k h (List.take (ys.length+1) (List.take ys.length ys++List.take 1 [(x,(codec.gh sg).fst)])))/\(true=true->ys.length+1=ys.length+1/\(List.take ys.length ys++List.take 1 [(x,(codec.gh sg).fst)]).length=ys.length+1/\(((c,k,r,h),List.take ys.length ys++List.take 1 [(x,(codec.gh sg).fst)]),(r,codec.gi (k8 c.length (List.take (ys.length+1) (List.take ys.length ys++List.take 1 [(x,(codec.gh sg).fst)]))).fst),true,())=fB (((c,k,r,h),ys),rd,x,sg,()))/\(true=false->False))))) (by kernel_rfl) ?_
  have t1:List.take 1 [(x,(codec.gh sg).1)]=[(x,(codec.gh sg).1)]:=rfl
  have tl:(ys++[(x,(codec.gh sg).1)]).length=ys.length+1:=by rw[List.length_append];rfl
  rw[h5,t1,List.take_length,List.take_of_length_le (Nat.le_of_eq tl)]
  refine⟨h3,fun e=>absurd e (by decide),fun _=>⟨by decide,Nat.le_refl _,by omega,by omega,fun hl=>⟨rfl,tl,?_⟩,fun hl=>⟨by omega,⟨⟨by rw[tl];omega,h1⟩,?_⟩,fun _=>⟨rfl,tl,?_⟩,fun e=>by cases e⟩⟩⟩
  ·rw[C7 hk (by have:=Odt hl;omega)];rfl
  ·exact h7 hk.1 hk.2 (by have:=Odf hl;show c.length<=ys.length+1;omega)
  ·rw[C6 hk (by have:=Odf hl;omega)]
noncomputable def rW (z:(E4 × List PT) × HL [part.iK,part.iK,tc]):List PT:=cr (fB z).1.2
noncomputable def gY (z:(E4 × List PT) × HL [part.iK,part.iK,tc]):Int × List Int:=cr (fB z).2.1
noncomputable def vO (z:(E4 × List PT) × HL [part.iK,part.iK,tc]):Bool:=cr (fB z).2.2.1
noncomputable def QN (z:(E4 × List PT) × HL [part.iK,part.iK,tc]):(E4 × List PT) × (Int × List Int) × Bool × Unit:=((z.1.1,rW z),gY z,vO z,())
theorem XF:fB=QN:=by
 funext z
 have h:(fB z).1.1=z.1.1:=by
  unfold fB
  split
  ·split<;>rfl
  ·rfl
 show fB z=((z.1.1,rW z),gY z,vO z,())
 rw[rW,gY,vO,ay,ay,ay,<- h]
theorem se:q7 Tryz.prog 37 true N4 bp [part.iK,part.iK,tc] [.val lC,.val .bool] aM yr QN:=XF▸cC
noncomputable def oy:Nat × Eng.Spec:=(37,uY true N4 bp [part.iK,part.iK,tc] [.val lC,.val .bool] yr QN)
theorem FT {z:(E4 × List PT) × HL [part.iK,part.iK,tc]} {e:E4} {ys:List PT} {l:Int × List Int} {b:Bool} (h:fB z=((e,ys),l,b,())):rW z=ys/\gY z=l/\vO z=b:=by
 rw[rW,gY,vO,ay,ay,ay,h]
 exact⟨rfl,rfl,rfl⟩
end Go.Proofs.YtbeeaekepmnfhaaGreatDoor.eng
namespace Go.Proofs.YtbeeaekepmnfhaaGreatDoor.codec
open Go Go.Eng Go.RowKit Cr
section
variable {F:Type} [Cr.Fd F] [DecidableEq F] {S:iL F}
theorem Zc {l:List Int} (h:Bs l) (hd:BD l) {k:Nat} (hk:k<8):Bs (qX l k):=P7 h (by obtain⟨_,h2,h3⟩:=hd;omega)
theorem iL.Ok.SG (h:S.Ok) (p:F × F):Bs (S.short p):=by
 rw[h.Bo]
 exact Zc (h.bs _) (h.Xy _) (by split;decide;split<;>decide)
theorem iL.Ok.P8 (h:S.Ok) (p:F × F):(S.short p).length=S.n:=by rw[h.Bo,Ki,h.len]
end
theorem DP (p:F2 × F2):(gi p).length=96:=by rw[Ct];exact DD.P8 p
theorem WL (p:F2 × F2):wE (gi p,()):=⟨by rw[Ct];exact DD.SG p,by show List.length (gi p)<=_;rw[DP];decide⟩
theorem SQ {p:F2 × F2} (h:g2.Sub p):g2.lP p=true:=(g2.ry p).2 h.1
theorem aaa {p:F2 × F2} (h:g2.Sub p):gh (gi p)=(p,0):=by rw[Ct,Pw];exact DD.Nc (SQ h) (g2.CU h)
end Go.Proofs.YtbeeaekepmnfhaaGreatDoor.codec
namespace Go.Proofs.YtbeeaekepmnfhaaGreatDoor.law24
open Go Go.Eng Go.RowKit Cr poly part eng
theorem U2 {l:List Int} (h1:∀ x∈l,dm x=true) (h2:l.Nodup):tm l 0:=by
 refine .inl ⟨rfl,fun v ⟨hv,hb⟩=>?_⟩
 rcases hb with hb|hb
 ·rw[h1 v hv] at hb;cases hb
 ·have:=List.nodup_iff_count.1 h2 v
  omega
theorem uP (p:List Fr):(de p).length=p.length:=by rw[de,List.length_map]
noncomputable def AW (m:List Int) (p:List Fr):List Int:=codec.gi (g2.a6 (bG.dv m) (pat p 0))
theorem Kt (m:List Int) {p:List Fr} {zs:List Int} (h1:∀ x∈zs,dm x=true) (h2:zs.Nodup) (hp:1<=p.length) (hl:zs.length=p.length) :
  k8 (de p).length (zs.map (kE (bG.dv m) p))=(g2.a6 (bG.dv m) (pat p 0),0,()):=by
 have hj:=Wq (bG.zg m) p zs (U2 h1 h2)
 rw[if_pos rfl,if_neg (by omega)] at hj
 rw[uP,hj]
theorem Wr (m:List Int) {p:List Fr} {zs:List Int} (h1:∀ x∈zs,dm x=true) (h2:zs.Nodup) (hp:1<=p.length) (hl:zs.length=p.length) :
  yi (de p) (eT 0 (de p)) (bG.dv m) (zs.map (kE (bG.dv m) p)):=by
 rw[yi,Kt m h1 h2 hp hl]
 refine⟨rfl,?_⟩
 show bG.ya _ _ (g2.a6 (bG.dv m) (pat p 0))=true
 rw[JH (show nh 0 from ⟨by decide,by decide⟩),bG.aaS,bG.NP m,bG.V1,Rg.mul_comm]
 exact decide_eq_true rfl
theorem GA (h:F2 × F2) (p:List Fr) (zs:List Int) (x:Int):jH (zs.map (kE h p)) x=decide (x∈zs):=by
 have e:(zs.map (kE h p)).map ck=zs:=by
  rw[List.map_map]
  exact (List.map_congr_left fun a _=>rfl).trans (List.map_id _)
 rw[jH,ay,e]
def GN (p:List Fr) (zs:List Int):Prop:=(∀ x∈zs,dm x=true)/\zs.Nodup/\zs.length+1<=p.length
noncomputable def zO (m:List Int) (p:List Fr) (zs:List Int) (x:Int):(E4 × List PT) × HL [part.iK,part.iK,tc] :=
 (((de p,eT 0 (de p),9,bG.dv m),zs.map (kE (bG.dv m) p)),9,x,codec.gi (g2.a6 (bG.dv m) (pat p x)),())
theorem wv (m:List Int) (p:List Fr) (x:Int):codec.gh (codec.gi (g2.a6 (bG.dv m) (pat p x)))=(g2.a6 (bG.dv m) (pat p x),0):=codec.aaa (g2.gQ (bG.zg m) _)
theorem KB {zs:List Int} {x:Int} (h1:∀ x∈zs,dm x=true) (h2:zs.Nodup) (h:dm x=true) (hx:x∉zs):(∀ y∈zs++[x],dm y=true)/\(zs++[x]).Nodup:=by
 refine⟨fun y hy=>?_,?_⟩
 ·rcases List.mem_append.1 hy with hy|hy
  ·exact h1 y hy
  ·rw[List.mem_singleton.1 hy];exact h
 ·rw[List.nodup_append]
  refine⟨h2,List.nodup_cons.2 ⟨List.not_mem_nil,List.nodup_nil⟩,fun a ha b hb e=>?_⟩
  rw[List.mem_singleton.1 hb] at e
  exact hx (e▸ha)
theorem D4 (h:F2 × F2) (p:List Fr) (zs:List Int) (x:Int):zs.map (kE h p)++[(x,g2.a6 h (pat p x))]=(zs++[x]).map (kE h p):=by rw[List.map_append];rfl
theorem WS (m:List Int) {p:List Fr} (hp:p.length<=3) {zs:List Int} (hz:GN p zs) (x:Int):yr (zO m p zs x):=by
 obtain⟨h1,h2,h3⟩:=hz
 have hl:=uP p
 refine⟨⟨by show 0<(de p).length;omega,by show (de p).length<_;omega⟩,rfl,codec.WL _,codec.DP _,by show (codec.gh (codec.gi (g2.a6 (bG.dv m) (pat p x)))).2=0;rw[wv],by show (zs.map _).length<=8;rw[List.length_map];omega,fun hm hh hc=>?_⟩
 have hc:(de p).length<=(zs.map (kE (bG.dv m) p)).length+1:=hc
 rw[List.length_map] at hc
 have hh:jH (zs.map (kE (bG.dv m) p)) x=false:=hh
 rw[GA] at hh
 have hx:x∉zs:=Odf hh
 obtain⟨a1,a2⟩:=KB h1 h2 hm hx
 show yi (de p) (eT 0 (de p)) (bG.dv m) (zs.map (kE (bG.dv m) p)++[(x,(codec.gh (codec.gi (g2.a6 (bG.dv m) (pat p x)))).1)])
 rw[wv,D4]
 exact Wr m a1 a2 (by omega) (by rw[List.length_append];show zs.length+1=_;omega)
theorem QO (m:List Int) {p:List Fr} {zs:List Int} (hz:GN p zs) (x:Int) :
  ∃ zs':List Int,zs'.length<=zs.length+1/\rW (zO m p zs x)=zs'.map (kE (bG.dv m) p)/\((vO (zO m p zs x)=false/\GN p zs')\/(vO (zO m p zs x)=true/\gY (zO m p zs x)=(9,AW m p))):=by
 obtain⟨h1,h2,h3⟩:=hz
 have hl:=uP p
 by_cases hk:dm x=true/\jH (zs.map (kE (bG.dv m) p)) x=false
 ·obtain⟨hm,hh⟩:=hk
  have hx:x∉zs:=by rw[GA] at hh;exact Odf hh
  obtain⟨a1,a2⟩:=KB h1 h2 hm hx
  have al:(zs++[x]).length=zs.length+1:=by rw[List.length_append];rfl
  by_cases hc:(zs.map (kE (bG.dv m) p)).length+1<(de p).length
  ·obtain⟨e1,e2,e3⟩:=FT (C7 (c:=de p) (k:=eT 0 (de p)) (r:=9) (h:=bG.dv m) (rd:=9) (sg:=codec.gi (g2.a6 (bG.dv m) (pat p x))) ⟨hm,hh⟩ hc)
   rw[wv,D4] at e1
   rw[List.length_map] at hc
   exact⟨zs++[x],Nat.le_of_eq al,e1,.inl ⟨e3,a1,a2,by omega⟩⟩
  ·obtain⟨e1,e2,e3⟩:=FT (C6 (c:=de p) (k:=eT 0 (de p)) (r:=9) (h:=bG.dv m) (rd:=9) (sg:=codec.gi (g2.a6 (bG.dv m) (pat p x))) ⟨hm,hh⟩ hc)
   rw[List.length_map] at hc
   rw[wv,D4] at e1 e2
   rw[Kt m a1 a2 (by omega) (by omega)] at e2
   exact⟨zs++[x],Nat.le_of_eq al,e1,.inr ⟨e3,e2⟩⟩
 ·obtain⟨e1,e2,e3⟩:=FT (rX (c:=de p) (k:=eT 0 (de p)) (r:=9) (h:=bG.dv m) (rd:=9) (sg:=codec.gi (g2.a6 (bG.dv m) (pat p x))) hk)
  exact⟨zs,Nat.le_succ _,e1,.inl ⟨e3,h1,h2,h3⟩⟩
end Go.Proofs.YtbeeaekepmnfhaaGreatDoor.law24
open Go.IntKind(i64 u8)
namespace Go.Eng
def afU (t:Nat) (σ:St):Option Nat:=match σ.S t with
 | .is (.one (.sl i _ _ _ _))=>some i
 | _=>none
def rdK (t:Nat) (σ:St):Nat:=Cs 0 (afU t σ)
end Go.Eng
namespace Go.Proofs.YtbeeaekepmnfhaaGreatDoor.law24
open Go Go.Eng Go.RowKit Cr Go.Proofs.YtbeeaekepmnfhaaGreatDoor Go.Proofs.YtbeeaekepmnfhaaGreatDoor.poly Go.Proofs.YtbeeaekepmnfhaaGreatDoor.part Go.Proofs.YtbeeaekepmnfhaaGreatDoor.eng
theorem JT:enters Tryz.prog 7 Tryz.f7:=ek
theorem U1 (n:Int):0<=av .and .i64 n 1023/\av .and .i64 n 1023<=1023:=by
 have h:((BitVec.ofInt 64 n &&& BitVec.ofInt 64 1023:BitVec 64).toNat)<=1023:=by
  rw[BitVec.toNat_and]
  exact Nat.and_le_right
 have e:av .and .i64 n 1023=(((BitVec.ofInt 64 n &&& BitVec.ofInt 64 1023:BitVec 64).toNat:Nat):Int):=by
  show i64.wrap (((BitVec.ofInt 64 n &&& BitVec.ofInt 64 1023:BitVec 64).toNat:Nat):Int)=_
  exact aG (by omega) (by omega)
 rw[e];omega
noncomputable def boA (pv fs sc:List Int) (p:List Fr):St:=aY Tryz.f7.ntmps 160 [(1,.is (.one (.ro (.int .u8) pv))),(3,.is (.one (.ro part.iK fs))),(4,.is (.one (.ro part.iK sc))),(11,.is (.one (.sl 144 0 0 p.length 4)))] [(144,[.row .fr p.length p])]
noncomputable def boB (pv fs sc:List Int) (p:List Fr):St:=aY Tryz.f7.ntmps 216 [(1,.is (.one (.ro (.int .u8) pv))),(11,.is (.one (.ro .fr p))),(12,.is (.one (.sl 160 0 0 0 97))),(40,.is (.one (.sl 192 0 0 2 1))),(41,sI .i64 2),(42,sI .i64 0)] [(160,[.row lC 0 []]),(192,[.row (.sl part.iK) 2 [fs,sc]])]
noncomputable def F0 (pv fs sc:List Int) (p:List Fr) (g:Int × Nat × List (Int × List Int)):St:=aY Tryz.f7.ntmps 216 [(1,.is (.one (.ro (.int .u8) pv))),(11,.is (.one (.ro .fr p))),(12,.is (.one (.sl 160 0 0 g.2.1 97))),(40,.is (.one (.ro (.sl part.iK) [fs,sc]))),(41,sI .i64 2),(42,sI .i64 g.1)] [(160,[.row lC g.2.1 g.2.2])]
noncomputable def boD (g:Nat × List (Int × List Int)):St:=aY Tryz.f7.ntmps 216 [(12,.is (.one (.sl 160 0 0 g.1 97)))] [(160,[.row lC g.1 g.2])]
noncomputable def XP (pv:List Int) (p:List Fr) (g:List (Int × List Int)):Prop:=∀ x∈g,x=((9:Int),AW (beacon.fj pv 9) p)
noncomputable def XO (pv:List Int) (p:List Fr) (g:Int × Nat × List (Int × List Int)):Prop:=(0<=g.1/\g.1<=2)/\(g.2.1=g.2.2.length/\(g.2.1:Int)<=g.1)/\XP pv p g.2.2
noncomputable def Ti (pv fs sc:List Int) (p:List Fr) (i:Int) (m:Nat) (L:List (Int × List Int)) (c:List (Fp × Fp)) (v os:List Int) (g:Int × Nat × List PT):St:=aY Tryz.f7.ntmps 312 [(1,.is (.one (.ro (.int .u8) pv))),(11,.is (.one (.ro .fr p))),(12,.is (.one (.sl 160 0 0 m 97))),(14,.is (.one (.ro part.iK os))),(15,.is (.one (.ptr 256 0))),(16,sI .i64 g.1),(40,.is (.one (.ro (.sl part.iK) [fs,sc]))),(41,sI .i64 2),(42,sI .i64 i)] [(160,[.row lC m L]),(256,Yd c (eT 0 c) 9 (bG.dv (beacon.fj v 9))++[.sl 296 0 0 g.2.1 25]),(296,[.row bp g.2.1 g.2.2])]
noncomputable def Tj (pv fs sc:List Int) (p:List Fr) (i:Int) (g:Nat × Nat × List (Int × List Int)):St:=aY Tryz.f7.ntmps (Nat.max (g.1+16) 312) [(1,.is (.one (.ro (.int .u8) pv))),(11,.is (.one (.ro .fr p))),(12,.is (.one (.sl g.1 0 0 g.2.1 97))),(40,.is (.one (.ro (.sl part.iK) [fs,sc]))),(41,sI .i64 2),(42,sI .i64 i)] [(g.1,[.row lC g.2.1 g.2.2])]
def boI (pv:List Int) (p:List Fr) (g:Int × Nat × List PT):Prop:=0<=g.1/\∃ zs:List Int,GN p zs/\g.2.1=zs.length/\g.2.2=zs.map (kE (bG.dv (beacon.fj pv 9)) p)
noncomputable def Tk (pv:List Int) (p:List Fr) (m:Nat) (L:List (Int × List Int)) (g:Nat × Nat × List (Int × List Int)):Prop:=(g.1=160/\g.2.1=m/\g.2.2=L)\/(g.1=592/\g.2.1=m+1/\g.2.2=L++[((9:Int),AW (beacon.fj pv 9) p)])
noncomputable def boK (pv:List Int) (p:List Fr):Prop:=(1<=p.length/\p.length<=3)/\List.length pv<=4096
theorem YR:aB Tryz.prog 7 [ij,ij,part.iK,.sl part.iK,.sl part.iK] [.val .bool] sha.db (fun (b,pv,n,fs,sc,_)=>preB b/\preB pv/\nh n/\zJ fs/\zJ sc) (fun _=>(true,())):=by
 have hsp:aN Tryz.prog (aF [Qd,Qh,H8,eng.FE,ref01.CO,K8,aa0,Uz,oy]):=ai (B5 VJ) (ai (ak VO) (ai (ak Ot) (ai (ak eng.Gr) (ai (ak ref01.Kb) (ai (IX RC) (ai (ak ab2) (ai (ak YU) (ai (Mb se) aR))))))))
 refine bh (sp:=aF [Qd,Qh,H8,eng.FE,ref01.CO,K8,aa0,Uz,oy]) JT (by decide) (by decide) (by kernel_rfl) ?_
 rintro w M0 ⟨b,pv,n,fs,sc,⟨⟩⟩
 revert b pv n fs sc
 intro (b:List Int) (pv:List Int) (n:Int) (fs:List Int) (sc:List Int) _ hp
 obtain⟨hb,hpv,hn,hfs,hsc⟩:=hp
 show Tr _ _ _ _ _ _ _
 refine eB hsp mixed 7 (fun σ=>cN .fr 144 σ) (boA pv fs sc) (boK pv) ?_ ?_
 ·refine ao (X:=((∀ (g:Nat) (s:Sigma au),sha.db g=some s->Decidable.rec (fun h=>(fun x=>if g=1 then some ⟨Kd.arr 64 sha.uK,sha.dQ⟩ else none) h) (fun h=>(fun x=>some ⟨Kd.arr 8 sha.uK,sha.cw⟩) h) (instDecidableEqNat g 0)=some s)/\True/\((!true)=true->(false,())=(true,()))/\((!true)=false->(decide ((b.length:Int)>100)=true->(true,())=(true,()))/\(decide ((b.length:Int)>100)=false->(decide ((pv.length:Int)>4096)=true->(true,())=(true,()))/\(decide ((pv.length:Int)>4096)=false->((3:Int)=0->False)/\ML (b,i64.wrap (1+(av BinOp.and i64 n 1023).tmod 3),())/\(boA pv fs sc (qY b (i64.wrap (1+(av BinOp.and i64 n 1023).tmod 3)).toNat,()).fst).ah (boK pv (qY b (i64.wrap (1+(av BinOp.and i64 n 1023).tmod 3)).toNat))))))) (by kernel_rfl) ?_
  obtain⟨a0,a1⟩:=U1 n
  have hK:∃ k:Nat,i64.wrap ((1:Int)+(av BinOp.and i64 n (1023:Int)).tmod (3:Int))=(k:Int)/\1<=k/\k<=3:=by
   generalize av BinOp.and i64 n (1023:Int)=a at a0 a1
   rw[Int.tmod_eq_emod_of_nonneg a0]
   refine⟨((1:Int)+a%3).toNat,?_,by omega,by omega⟩
   rw[aG (by omega) (by omega)];omega
  obtain⟨k,ek,k1,k3⟩:=hK
  rw[ek]
  refine⟨fun _ _ h=>h,trivial,fun h=>absurd h (by decide),fun _=>⟨fun _=>rfl,fun hb1=>⟨fun _=>rfl,fun hp1=>⟨by decide,⟨⟨hb.1,?_⟩,by show (1:Int)<=(k:Int);omega,by show (k:Int)<=3;omega⟩,aA ⟨?_,?_⟩⟩⟩⟩⟩
  ·have:=Odf hb1;omega
  ·rw[Int.toNat_natCast,qY,List.length_map,List.length_range];exact⟨k1,k3⟩
  ·have:=Odf hp1;omega
 intro (p:List Fr) ⟨⟨p1,p3⟩,hpl⟩
 refine Is 11 144 p.length 4 .fr p rfl rfl rfl ?_
 refine aP hsp mixed 2 (boB pv fs sc p) True ?_ (fun _=>?_)
 ·refine ao (X:=((boB pv fs sc p).ah True)) (by kernel_rfl) ?_
  exact aA trivial
 refine Is 40 192 2 1 (.sl part.iK) [fs,sc] rfl rfl rfl ?_
 refine aP hsp mixed 0 (F0 pv fs sc p (0,0,[])) True ?_ (fun _=>?_)
 ·refine ao (X:=((F0 pv fs sc p (0,0,[])).ah True)) (by kernel_rfl) ?_
  exact aA trivial
 refine fh (fun σ=>[(160,PO 12 σ)]) (fun σ=>(bU part.iK 42 σ,yD 12 σ,cN lC 160 σ)) (F0 pv fs sc p) (XO pv p) (fun g=>(2-g.1).toNat)
  (fun σ=>(yD 12 σ,cN lC 160 σ)) boD (fun g=>g.1=g.2.length/\XP pv p g.2) (0,0,[]) (c:=aI (aJ Tryz.f7) 9) (by kernel_rfl) (by kernel_rfl) (aC (by kernel_rfl) (by kernel_rfl) ?_) ?_ ?_
 ·exact⟨⟨by decide,by decide⟩,⟨rfl,by decide⟩,fun _ h=>by cases h⟩
 ·rintro⟨i,m,L⟩ hj
  revert i L
  intro (i:Int) (L:List (Int × List Int)) ⟨⟨i0,i2⟩,⟨hm,hmi⟩,hL⟩
  have i0:0<=i:=i0
  have i2:i<=2:=i2
  have hm:m=L.length:=hm
  have hmi:(m:Int)<=i:=hmi
  refine aP hsp mixed 2 (F0 pv fs sc p (i,m,L)) (i<2) ?_ (fun hlt=>?_)
  ·refine ao (X:=((decide (i<2)=true->(F0 pv fs sc p (i,m,L)).ah (i<2))/\(decide (i<2)=false->(boD (m,L)).ah (m=L.length/\XP pv p L)))) (by kernel_rfl) ?_
   exact⟨fun h=>aA (Odt h),fun h=>aA ⟨hm,hL⟩⟩
  refine eG (c:=aI (bQ (aI (aJ Tryz.f7) 9)) 2) (by kernel_rfl) (by kernel_rfl) ?_
  refine eB hsp mixed 4 (fun σ=>KW part.iK 14 σ) (fun os=>Ti pv fs sc p i m L (List.take (de p).length (de p)) (List.take pv.length pv) os (0,0,[])) (fun os=>zJ os) ?_ ?_
  ·refine ao (X:=((0<=i/\i<(↑[fs,sc].length:Int))/\i.toNat<[fs,sc].length/\yt (p,())/\0+(de p).length<=(de p).length/\MM (List.take (de p).length (de p),())/\ref01.zI (pv,())/\(∀ (g:Nat) (s:Sigma au),sha.db g=some s->Decidable.rec (fun h=>(fun x=>if g=1 then some ⟨Kd.arr 64 sha.uK,sha.dQ⟩ else none) h) (fun h=>(fun x=>some ⟨Kd.arr 8 sha.uK,sha.cw⟩) h) (instDecidableEqNat g 0)=some s)/\0+pv.length<=pv.length/\MJ (((List.take (de p).length (de p),eT 0 (List.take (de p).length (de p)),0,((0:Fp),(0:Fp)),(0:Fp),(0:Fp)),[]),List.take pv.length pv,9,())/\(Ti pv fs sc p i m L (List.take (de p).length (de p)) (List.take pv.length pv) ([fs,sc].getD i.toNat []) (0,0,[])).ah (zJ ([fs,sc].getD i.toNat [])))) (by kernel_rfl) ?_
   have cl:=uP p
   have il:i.toNat<2:=by omega
   have hos:zJ ([fs,sc].getD i.toNat []):=by
    rcases (show i=0\/i=1 by omega) with rfl|rfl
    ·exact hfs
    ·exact hsc
   refine⟨⟨i0,by show i<2;exact hlt⟩,il,?_,Nat.le_of_eq (Nat.zero_add _),?_,?_,fun _ _ h=>h,Nat.le_of_eq (Nat.zero_add _),?_,aA hos⟩
   ·show p.length<_;omega
   ·rw[List.take_length];exact⟨by show 0<(de p).length;omega,by show (de p).length<1048576;omega⟩
   ·show pv.length<=281474976710656;omega
   ·rw[List.take_length,List.take_length];exact⟨by show 0<(de p).length;omega,by show pv.length<=5000;omega⟩
  intro (os:List Int) hos
  rw[List.take_length,List.take_length]
  refine bO hsp mixed (fun σ=>[(296,af0 296 256 σ)]) (fun σ=>(bU part.iK 16 σ,rdT 256 σ,cN bp 296 σ)) (Ti pv fs sc p i m L (de p) pv os) (boI pv p) (fun g=>os.length-g.1.toNat)
   (fun σ=>(rdK 12 σ,yD 12 σ,cN lC (rdK 12 σ) σ)) (Tj pv fs sc p i) (Tk pv p m L) (0,0,[]) (c:=aI (fz (aI (bQ (aI (aJ Tryz.f7) 9)) 2)) 4) (by kernel_rfl) (by kernel_rfl) (aC (by kernel_rfl) (by kernel_rfl) ?_) ?_ ?_
  ·exact⟨by decide,[],⟨(fun _ h=>nomatch h),List.nodup_nil,by show 0+1<=p.length;omega⟩,rfl,rfl⟩
  ·rintro⟨j,n,ys⟩ hj
   revert j ys
   intro (j:Int) (ys:List PT) ⟨j0,zs,hz,hn,hy⟩
   refine ao (X:=((decide (j<(os.length:Int))=true->(decide (j<8)=true->(0<=j/\j<(os.length:Int))/\j.toNat<os.length/\MI (p,os.getD j.toNat 0,())/\0+n<=n/\0<(de p).length/\(0<=j/\j<(os.length:Int))/\j.toNat<os.length/\n=n/\ys.length=n/\0+96<=96/\yr (((de p,eT 0 (de p),9,bG.dv (beacon.fj pv 9)),ys),9,os.getD j.toNat 0,List.take 96 (codec.gi (g2.a6 (bG.dv (beacon.fj pv 9)) (pat p (os.getD j.toNat 0)))),())/\(vO (((de p,eT 0 (de p),9,bG.dv (beacon.fj pv 9)),ys),9,os.getD j.toNat 0,List.take 96 (codec.gi (g2.a6 (bG.dv (beacon.fj pv 9)) (pat p (os.getD j.toNat 0)))),())=true->0+1<=1/\m<=m/\(m+1)*104<=140737488355328/\m+1<=4611686018427387904/\(Tj pv fs sc p i (592,m+1,List.take m L++List.take 1 [eng.gY (((de p,eT 0 (de p),9,bG.dv (beacon.fj pv 9)),ys),9,os.getD j.toNat 0,List.take 96 (codec.gi (g2.a6 (bG.dv (beacon.fj pv 9)) (pat p (os.getD j.toNat 0))),()).fst,())])).ah (Tk pv p m L (592,m+1,List.take m L++List.take 1 [eng.gY (((de p,eT 0 (de p),9,bG.dv (beacon.fj pv 9)),ys),9,os.getD j.toNat 0,List.take 96 (codec.gi (g2.a6 (bG.dv (beacon.fj pv 9)) (pat p (os.getD j.toNat 0)))),())])))/\(vO (((de p,eT 0 (de p),9,bG.dv (beacon.fj pv 9)),ys),9,os.getD j.toNat 0,List.take 96 (codec.gi (g2.a6 (bG.dv (beacon.fj pv 9)) (pat p (os.getD j.toNat 0)))),())=false->(Ti pv fs sc p i m L (de p) pv os (i64.wrap (j+1),(rW (((de p,eT 0 (de p),9,bG.dv (beacon.fj pv 9)),ys),9,os.getD j.toNat 0,List.take 96 (codec.gi (g2.a6 (bG.dv (beacon.fj pv 9)) (pat p (os.getD j.toNat 0))),()).fst,())).length,rW (((de p,eT 0 (de p),9,bG.dv (beacon.fj pv 9)),ys),9,os.getD j.toNat 0,List.take 96 (codec.gi (g2.a6 (bG.dv (beacon.fj pv 9)) (pat p (os.getD j.toNat 0))),()).fst,()))).ah (boI pv p (i64.wrap (j+1),(rW (((de p,eT 0 (de p),9,bG.dv (beacon.fj pv 9)),ys),9,os.getD j.toNat 0,List.take 96 (codec.gi (g2.a6 (bG.dv (beacon.fj pv 9)) (pat p (os.getD j.toNat 0)))),())).length,rW (((de p,eT 0 (de p),9,bG.dv (beacon.fj pv 9)),ys),9,os.getD j.toNat 0,List.take 96 (codec.gi (g2.a6 (bG.dv (beacon.fj pv 9)) (pat p (os.getD j.toNat 0)))),()))/\os.length-(i64.wrap (j+1)).toNat<os.length-j.toNat)))/\(decide (j<8)=false->(Tj pv fs sc p i (160,m,L)).ah (Tk pv p m L (160,m,L))))/\(decide (j<(os.length:Int))=false->(Tj pv fs sc p i (160,m,L)).ah (Tk pv p m L (160,m,L))))) (by kernel_rfl) ?_
   have ol:=List.take_of_length_le (Nat.le_of_eq (codec.DP (g2.a6 (bG.dv (beacon.fj pv 9)) (pat p (os.getD j.toNat 0)))))
   dsimp only
   rw[ol]
   have j0:0<=j:=j0
   have hn:n=zs.length:=hn
   have hy:ys=zs.map (kE (bG.dv (beacon.fj pv 9)) p):=hy
   subst hy
   have cl:=uP p
   have hyl:(zs.map (kE (bG.dv (beacon.fj pv 9)) p)).length=n:=by rw[List.length_map];exact hn.symm
   refine⟨fun hj=>⟨fun h8=>?_,fun _=>aA (.inl ⟨rfl,rfl,rfl⟩)⟩,fun _=>aA (.inl ⟨rfl,rfl,rfl⟩)⟩
   have hj:=Odt hj
   have h8:=Odt h8
   have jl:j.toNat<os.length:=by omega
   have hje:nh (os.getD j.toNat 0):=by
    rw[List.getD_eq_getElem?_getD,List.getElem?_eq_getElem jl]
    exact hos.1 _ (List.getElem_mem jl)
   have hz0:GN p zs:=hz
   obtain⟨zs',l1,e1,hh⟩:=QO (beacon.fj pv 9) hz (os.getD j.toNat 0)
   have hw:i64.wrap (j+1)=j+1:=aG (by omega) (by omega)
   refine⟨⟨j0,hj⟩,jl,⟨?_,hje⟩,Nat.le_of_eq (Nat.zero_add _),by omega,⟨j0,hj⟩,jl,rfl,hyl,by decide,WS _ p3 hz _,fun ha=>?_,fun hb=>?_⟩
   ·show p.length<_;omega
   ·rcases hh with ⟨hf,_⟩|⟨_,el⟩
    ·exact absurd (ha.symm.trans hf) (by decide)
    have t1:∀ a:Int × List Int,List.take 1 [a]=[a]:=fun _=>rfl
    rw[List.take_of_length_le (Nat.le_of_eq hm.symm)]
    refine⟨by decide,Nat.le_refl _,by omega,by omega,aA (.inr ⟨rfl,rfl,?_⟩)⟩
    rw[t1]
    show L++[gY (zO (beacon.fj pv 9) p zs (os.getD j.toNat 0))]=_
    rw[el]
   ·rcases hh with ⟨_,iz⟩|⟨hf,_⟩
    case inr=>exact absurd (hf.symm.trans hb) (by decide)
    rw[hw]
    refine aA ⟨⟨by show 0<=j+1;omega,zs',iz,?_,e1⟩,by omega⟩
    show (rW (zO (beacon.fj pv 9) p zs (os.getD j.toNat 0))).length=zs'.length
    rw[e1,List.length_map]
  rintro⟨id,m',L'⟩ hj
  revert L'
  intro (L':List (Int × List Int)) hj
  rcases hj with ⟨hid,hm',hL'⟩|⟨hid,hm',hL'⟩
  ·have hid:id=160:=hid
   subst hid
   refine ig ?_
   refine bf hsp mixed _ _ ?_
   refine ao (X:=((F0 pv fs sc p (i64.wrap (i+1),m',L')).ah (XO pv p (i64.wrap (i+1),m',L')/\Int.toNat ((2:au iK)-i64.wrap (i+1))<Int.toNat ((2:au iK)-i)))) (by kernel_rfl) ?_
   have hw:i64.wrap (i+1)=i+1:=aG (by omega) (by omega)
   have hm':m'=m:=hm'
   have hL':L'=L:=hL'
   subst hm' hL'
   rw[hw]
   refine aA ⟨⟨⟨by show 0<=i+1;omega,by show i+1<=2;omega⟩,⟨hm,?_⟩,hL⟩,?_⟩
   ·show ((m':Nat):Int)<=i+1;omega
   ·show ((2:Int)-(i+1)).toNat<((2:Int)-i).toNat;omega
  ·have hid:id=592:=hid
   subst hid
   refine ig ?_
   refine bf hsp mixed _ _ ?_
   refine ao (X:=((F0 pv fs sc p (i64.wrap (i+1),m',L')).ah (XO pv p (i64.wrap (i+1),m',L')/\Int.toNat ((2:au iK)-i64.wrap (i+1))<Int.toNat ((2:au iK)-i)))) (by kernel_rfl) ?_
   have hw:i64.wrap (i+1)=i+1:=aG (by omega) (by omega)
   have hm':m'=m+1:=hm'
   have hL':L'=L++[((9:Int),AW (beacon.fj pv 9) p)]:=hL'
   subst hm' hL'
   rw[hw]
   refine aA ⟨⟨⟨by show 0<=i+1;omega,by show i+1<=2;omega⟩,⟨by show m+1=List.length (L++_);rw[List.length_append,<- hm];rfl,?_⟩,fun x hx=>(List.mem_append.1 hx).elim (hL x) (fun h=>List.mem_singleton.1 h)⟩,?_⟩
   ·show ((m+1:Nat):Int)<=i+1;omega
   ·show ((2:Int)-(i+1)).toNat<((2:Int)-i).toNat;omega
 rintro⟨m,L⟩ ⟨hm,hL⟩
 revert L
 intro (L:List (Int × List Int)) hm hL
 refine bf hsp mixed _ _ ?_
 refine ao (X:=((decide ((m:Int)<2)=true->(true,())=(true,()))/\(decide ((m:Int)<2)=false->((0:Int)<=0/\0<(m:Int))/\0<m/\((0:Int)<=1/\1<(m:Int))/\1<m/\(gm ((Kd.int i64).pair (Kd.arr 96 (Kd.int u8))) (L.getD 0 (0,List.replicate 96 0)) (L.getD 1 (0,List.replicate 96 0)),())=(true,())))) (by kernel_rfl) ?_
 have hm:m=L.length:=hm
 refine⟨fun _=>rfl,fun h=>?_⟩
 have h:=Odf h
 have g:∀ k,k<L.length->∀ d,L.getD k d=((9:Int),AW (beacon.fj pv 9) p):=fun k hk d=>by
  rw[List.getD_eq_getElem?_getD,List.getElem?_eq_getElem hk]
  exact hL _ (List.getElem_mem hk)
 refine⟨⟨by decide,by omega⟩,by omega,⟨by decide,by omega⟩,by omega,?_⟩
 rw[g 0 (by omega),g 1 (by omega),(lh (e:=lC) ((9:Int),AW (beacon.fj pv 9) p) ((9:Int),AW (beacon.fj pv 9) p)).2 rfl]
end Go.Proofs.YtbeeaekepmnfhaaGreatDoor.law24
namespace Go.Eng
open Go Go.RowKit Cr Go.ChangeShapes Go.WideShapes Go.ChangeAt
theorem EG {P:Program} {t e:TypeId} {n:Nat} {k:IntKind} {H:Type} {enc:TypeId × Value->H} {W:World} {fl:Bool} {fuel:Nat} {cs:List Value} {p:List MemPlace} {xs:List Int} (ht:P.underlying t=some (.array n e)) (he:P.underlying e=some (.int k)) (hce:P.cellsOf e=1) (hct:P.cellsOf t=n)
  (h:DataW.trod enc P W 0 (fun _=>true) fl fuel t cs=some (.agg (xs.map fun x=>.lit (.int k x)),p)):cs=xs.map (Value.int k):=by
 obtain⟨ys,m,rfl,hx,hlen,hn,hel⟩:=DataW.trod_array ht h
 simp only[Prod.mk.injEq,DataW.agg.injEq] at hx
 obtain⟨hx,_⟩:=hx
 have hxl:xs.length=n:=by
  have:=congrArg List.length hx
  simpa[hn] using this
 refine List.ext_getElem (by rw[hlen,hct,List.length_map,hxl]) fun i h1 h2=>?_
 have hin:i<n:=by rw[hlen,hct] at h1;exact h1
 have h3:=hel i hin
 rw[hce,Nat.mul_one,List.getElem?_eq_getElem (by omega)] at h3
 obtain⟨z,e1,e2,_⟩:=DataW.trod_int he h3
 have e3:(cs.drop i).take 1=[cs[i]]:=by rw[List.drop_eq_getElem_cons h1];rfl
 rw[e3] at e1
 simp only[List.cons.injEq,and_true] at e1
 have h4:(xs.map fun x=>(DataW.lit (.int k x):DataW H))[i]?=(ys.map (·.1))[i]?:=by rw[hx]
 rw[List.getElem?_map,List.getElem?_map,List.getElem?_eq_getElem (by omega),List.getElem?_eq_getElem (by omega)] at h4
 simp only[Option.map_some,Option.some.injEq] at h4
 rw[e2] at h4
 simp only[DataW.lit.injEq,Lit.int.injEq,true_and] at h4
 rw[e1,List.getElem_map,h4]
theorem G0 {P:Program} {W:World} {nm:String} {g n:Nat} {k:IntKind} {cs:Array Value} {xs:List Int} (hg:P.globalNamed nm=some g) (hv:W.var? P nm=some cs) (hcs:cs.toList=xs.map (Value.int k)) (hx:xs.length=n):jW (Rd (cu W) (.arr n (.int k))) (width (.arr n (.int k))) (cu W) g 0 [xs]:=by
 have hh:∃ el fr,W.heap[g]?=some (.cells cs el fr):=by
  simp only[World.var?,hg,Option.bind_some] at hv
  split at hv
  ·rename_i c el fr hh
   simp only[Option.some.injEq] at hv
   subst hv
   exact⟨el,fr,hh⟩
  ·cases hv
 obtain⟨el,fr,hh⟩:=hh
 obtain⟨l⟩:=cs
 have hcs:l=xs.map (Value.int k):=hcs
 refine⟨l,c9 hh,?_,?_⟩
 ·simp[width,hcs,hx]
 ·rw[List.drop_zero,List.take_of_length_le (by simp[width,hcs,hx])]
  exact mb ⟨hx,uC.2 hcs⟩
theorem RZ {C:Checked} {f:FuncId} {fn:Func} {s:ChangeSpec} {bt:TypeId} {ts:List TypeId} {ks:List Kd} {pre pre':HL ks->Prop} {H:Type} {enc:TypeId × Value->H} {G:dH}
  (he:enters C.prog f fn) (hf:aB C.prog f ks [.val .bool] G pre (fun _=>(true,()))) (hl:laidOutB C.prog=true) (hts:fn.params.toList=ts) (hrs:fn.resultTypes=#[bt]) (hbt:C.prog.underlying bt=some .bool)
  (ho:OpnL C.prog ts ks pre') (hpre:∀ xs,pre' xs->pre xs) (hv:s.vars=[]) (hs:∀ ds:List (DataW H),ds.length=ts.length->s.fn H ds={ results:=[.lit (.bool true)],args:=ds })
  (W:World) (hG:pd G (cu W)) (base:Nat) (args:Array Value) (ds gs:List (DataW H)) (before:List MemPlace)
  (hok:∀ (j:Nat) t v,fn.params[j]?=some t->args[j]?=some v->Value.okWide C.prog W .any base t v)
  (hW:DataW.Whole enc C.prog fn.params.toList s.vars false W args.toList ds gs before)
  (hsz:(DataW.weightsEach C.prog (fn.params.toList++s.plain.varTypes C.prog) (ds++gs)).all (· <= reachBytes)=true) :
  Calls C.prog f args W fun e W'=>∃ v,e=.returned v/\s.post enc C.prog fn false true false false W args v W':=by
 have hW':=hW
 have hlt:∀ x∈before,x.block<W.heap.size:=fun x hx=>by simpa using hW'.lt x hx
 obtain⟨p,q,hA,hV,rfl,hfz,hnd⟩:=hW
 rw[hv] at hV
 obtain⟨rfl,rfl⟩:=trodVars_none hV
 rw[hts] at hA
 have hlen:ds.length=ts.length:=by
  exact Jg hA
 have hwt:∀ n∈DataW.weightsEach C.prog ts ds,n<=reachBytes:=by
  intro n hn
  have e:s.plain.varTypes C.prog=[]:=by simp[DataSpec.varTypes,ChangeSpec.plain,hv]
  rw[e,hts,List.append_nil,List.append_nil,List.all_eq_true] at hsz
  simpa using hsz n hn
 obtain⟨xs,hin,hp⟩:=Pv ho (enc:=enc) (W:=W) (base:=base) (vs:=args.toList) (ds:=ds) (p:=p) (fun j t v ht hj=>hok j t v (by rw[<- hts] at ht;simpa using ht) (by simpa using hj)) hA hwt
 have hc:=hf W (cu W) args.toList xs (fun b l h=>h) hG hin (hpre xs hp)
 refine (F4 he hc).mono ?_
 rintro e W' ⟨v,rfl,vs,ob,rfl,⟨v,vs',rfl,hv1,rfl⟩,hb⟩
 have hv1:v=.bool true:=by have h:[v]=[Value.bool true]:=hv1;simpa using h
 subst hv1
 refine⟨_,rfl,ds,[],p++[],[],p,[],hW',?_,?_,?_,?_,fun h=>by cases h⟩
 ·rw[hrs,List.append_nil,hs ds hlen]
  exact trodAll_mk1 (shut_bool hbt true)
 ·rw[hts,List.append_nil,hs ds hlen]
  exact MD hl ho hb hA (fun x hx=>hlt x (by simpa using hx))
 ·rw[hv,List.append_nil,hs ds hlen]
  rfl
 ·exact hb.frame _
end Go.Eng
namespace Go.Proofs.YtbeeaekepmnfhaaGreatDoor.sha
open Go Go.Eng Go.RowKit Cr
abbrev vx : List (String × DataW Unit) := [("cresset/sha.first", Rows.laid_cresset_sha_first), ("cresset/sha.roots", Rows.laid_cresset_sha_roots)]
theorem Y5 : Tryz.prog.globalNamed "cresset/sha.first" = some 0 := by kernel_rfl
theorem Y8 : Tryz.prog.globalNamed "cresset/sha.roots" = some 1 := by kernel_rfl
theorem abg:(Tryz.prog.globals[0]?).map (·.type)=some 213:=by kernel_rfl
theorem abh:(Tryz.prog.globals[1]?).map (·.type)=some 261:=by kernel_rfl
theorem SF {W:World} (h:laidMetH Tryz.prog vx W):pd db (cu W):=by
 rw[MakeChecks.laidMetH_plain _ _ _ (by kernel_rfl)] at h
 obtain⟨ps,⟨g0,t0,cs0,f0,p0,q0,hg0,ht0,hv0,hd0,⟨g1,t1,cs1,f1,p1,q1,hg1,ht1,hv1,hd1,_,_⟩,_⟩,_,_⟩:=h
 obtain rfl:=Option.some.inj (Y5.symm.trans hg0)
 obtain rfl:=Option.some.inj (Y8.symm.trans hg1)
 obtain rfl:=Option.some.inj (abg.symm.trans ht0)
 obtain rfl:=Option.some.inj (abh.symm.trans ht1)
 have e0:(Rows.laid_cresset_sha_first:DataW Unit)=.agg (cw.map fun x=>.lit (.int .u32 x)):=rfl
 have e1:(Rows.laid_cresset_sha_roots:DataW Unit)=.agg (dQ.map fun x=>.lit (.int .u32 x)):=rfl
 rw[e0] at hd0
 rw[e1] at hd1
 have c0:=EG (e:=191) (n:=8) (k:=.u32) (by kernel_rfl) (by kernel_rfl) (by kernel_rfl) (by kernel_rfl) hd0
 have c1:=EG (e:=191) (n:=64) (k:=.u32) (by kernel_rfl) (by kernel_rfl) (by kernel_rfl) (by kernel_rfl) hd1
 have r0:=G0 hg0 hv0 c0 (n:=8) rfl
 have r1:=G0 hg1 hv1 c1 (n:=64) rfl
 intro g e x hx
 unfold db at hx
 split at hx
 ·rename_i hg
  subst hg
  simp only[Option.some.injEq] at hx
  cases hx
  exact r0
 ·split at hx
  ·rename_i hg
   subst hg
   simp only[Option.some.injEq] at hx
   cases hx
   exact r1
  ·cases hx
theorem Q3 (os:Os) (args:Array Value):laidMetH Tryz.prog vx ((World.doorLaid Tryz.prog 400 os).forCall (fun _ _=>0) ⟨#[],args,[]⟩).memory :=
 laidMetH_of_parts3 (fuel:=8) (laidMet_of_run' 8 (by kernel_rfl) (by kernel_rfl)) (by kernel_rfl) (by kernel_rfl)
end Go.Proofs.YtbeeaekepmnfhaaGreatDoor.sha
namespace Go.Proofs.YtbeeaekepmnfhaaGreatDoor
open Go Go.Eng Go.RowKit Cr Go.ChangeShapes Go.WideShapes Go.ChangeAt
namespace beaconOrders
theorem own:ownKnob Tryz.prog.godebug=none:=by kernel_rfl
theorem laidOut:laidOutB Tryz.prog=true:=by kernel_rfl
abbrev UQ:au ij->Prop:=fun ys=>List.length ys*Tryz.prog.bytesOf 5<=reachBytes/\∀ y∈ys,(Lit.int .u8 y).wf=true
theorem oB:C4 Tryz.prog 38 ij UQ:=Cq (e:=5) (by kernel_rfl) (by kernel_rfl) (by decide) (Ba (by kernel_rfl))
theorem XS:Tryz.prog.bytesOf 5=1:=by kernel_rfl
theorem pB {xs:List Int} (h:UQ xs):preB xs:=by
 obtain⟨h1,h2⟩:=h
 rw[XS] at h1
 refine⟨fun x hx=>?_,?_⟩
 ·have:=h2 x hx
  simp[Lit.wf,IntKind.min,IntKind.max,IntKind.signed,IntKind.bits] at this
  omega
 ·show List.length xs<=_
  simp only[reachBytes] at h1
  omega
abbrev tZ:au (.int .i64)->Prop:=fun x=>(Lit.int .i64 x).wf=true
theorem oI:C4 Tryz.prog 3 (.int .i64) tZ:=Sj (by kernel_rfl)
theorem pI {x:Int} (h:tZ x):nh x:=by
 have:(Lit.int .i64 x).wf=true:=h
 simp[Lit.wf,IntKind.min,IntKind.max,IntKind.signed,IntKind.bits] at this
 exact⟨by omega,by omega⟩
abbrev Nv:au (.sl (.int .i64))->Prop:=fun ys=>List.length ys*Tryz.prog.bytesOf 3<=reachBytes/\∀ y∈ys,(Lit.int .i64 y).wf=true
theorem oIS:C4 Tryz.prog 42 (.sl (.int .i64)) Nv:=Cq (e:=3) (by kernel_rfl) (by kernel_rfl) (by decide) (Ba (by kernel_rfl))
theorem XR:Tryz.prog.bytesOf 3=8:=by kernel_rfl
theorem pIS {xs:List Int} (h:Nv xs):zJ xs:=by
 obtain⟨h1,h2⟩:=h
 rw[XR] at h1
 refine⟨fun x hx=>?_,?_⟩
 ·have:=h2 x hx
  simp[Lit.wf,IntKind.min,IntKind.max,IntKind.signed,IntKind.bits] at this
  exact⟨by omega,by omega⟩
 ·show List.length xs<=_
  simp only[reachBytes] at h1
  omega
theorem opened:OpnL Tryz.prog [38,38,3,42,42] [ij,ij,.int .i64,.sl (.int .i64),.sl (.int .i64)] (fun x=>UQ x.1/\UQ x.2.1/\tZ x.2.2.1/\Nv x.2.2.2.1/\Nv x.2.2.2.2.1/\True) :=
 .cons oB (by kernel_rfl) (Odt (by kernel_rfl)) (.cons oB (by kernel_rfl) (Odt (by kernel_rfl)) (.cons oI (by kernel_rfl) (Odt (by kernel_rfl)) (.cons oIS (by kernel_rfl) (Odt (by kernel_rfl)) (.cons oIS (by kernel_rfl) (Odt (by kernel_rfl)) .nil))))
theorem lifted (os:Os) (started:os.Started) (H:Type) (enc:TypeId × Value->H) :
  ReturnsInHanded {} Tryz.checked os 7 .any (fun w args=>(Rows.beaconOrdersSpec.pre enc Tryz.prog Tryz.f7 Rows.beaconOrdersRow.domain false w args/\laidMetH Tryz.prog sha.vx w)/\sizedMet enc Tryz.prog Tryz.f7 (OpenSpec.ofChange Rows.beaconOrdersSpec) false w args) (Rows.beaconOrdersSpec.post enc Tryz.prog Tryz.f7 false true false false):=by
 refine returnsInHanded_of_change_and (C:=Tryz.checked) (X:=fun w _=>laidMetH Tryz.prog sha.vx w) (fun _ _ _ hh h=>h.of_heap hh) own started (by kernel_rfl) Tryz.func7
  (ChangeSpec.witness_shaped (enc:=enc) (C:=Tryz.checked) (os:=os) (X:=fun w _=>laidMetH Tryz.prog sha.vx w) false (World.doorLaid Tryz.prog 400 os) #[.slice none 0 0,.slice none 0 0,.int .i64 0,.slice none 0 0,.slice none 0 0] 8 rfl (World.shaped_of_RefB (by kernel_rfl) (by kernel_rfl)) (by kernel_rfl) (by kernel_rfl) (by kernel_rfl) (sha.Q3 os _)) ?_
 intro W base args ds gs before hval hW _ hsz hL _
 refine RZ (C:=Tryz.checked) (bt:=4) (ts:=[38,38,3,42,42]) law24.JT law24.YR laidOut (by kernel_rfl) (by kernel_rfl) (by kernel_rfl) opened ?_ rfl ?_ W (sha.SF hL) base args ds gs before hval hW hsz
 ·rintro⟨x0,x1,x2,x3,x4,⟨⟩⟩ ⟨h0,h1,h2,h3,h4,_⟩
  exact⟨pB h0,pB h1,pI h2,pIS h3,pIS h4⟩
 ·intro ds hl
  match ds,hl with
  | [d0,d1,d2,d3,d4],_=>rfl
theorem row:Rows.BeaconOrdersSaid :=
 OpenClaim.holds_of_wide 7 Tryz.f7 rfl rfl rfl rfl rfl rfl rfl ⟨rfl,rfl,rfl,rfl,rfl⟩ rfl rfl rfl rfl rfl (by kernel_rfl) Tryz.func7 (by kernel_rfl)
  (Odt (by kernel_rfl)) (by unfold Func.isWrapper;first|(rw[if_pos (by decide +kernel)];kernel_rfl)|(rw[if_neg (by decide +kernel)];exact⟨rfl,rfl⟩))
  (fun os started H enc _=>lifted os started H enc)
theorem adw:(Tryz.f7.params.toList.all fun u => !Tryz.prog.wantsStandIn u)=true:=by kernel_rfl
theorem proved:Rows.BeaconOrdersCardSaid :=
 Claim7.holds_tied_plain_at .later [] [.data, .data] true (true, "cf2e951b99f3f2b23b04da4c4894839ac980a495d785b014e0b6a3403a28d2a0") false
  row (fun _ h=>by cases h) (by kernel_rfl) (fun _ h=>by cases h) beaconOrders_row_tie rfl ⟨rfl,rfl⟩ (by kernel_rfl) rfl
  (fun f fn hf hfn=>by
   obtain rfl : f = 7 := Option.some.inj ((show Tryz.prog.funcNamed "cresset/cressetlaw24.BeaconOrders" = some 7 by kernel_rfl).symm.trans hf) |>.symm
   obtain rfl:fn=Tryz.f7:=(Option.some.inj (Tryz.func7.symm.trans hfn)).symm
   exact⟨by kernel_rfl,fun j t ht=>by
    have hm:t∈Tryz.f7.params.toList:=by simpa using Array.mem_of_getElem? ht
    exact (show Tryz.prog.wantsStandIn t=false by simpa using List.all_eq_true.1 adw t hm)⟩)
  (by kernel_rfl)
#print axioms proved
end beaconOrders
end Go.Proofs.YtbeeaekepmnfhaaGreatDoor
