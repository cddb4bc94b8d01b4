import Derived.Test.YtbeeaekepmnfhaaGreatDoorML24oPZ
set_option maxRecDepth 100000
namespace Cr
open Rg Fd
section
variable {F:Type} [Fd F] {b:F}
instance mulAssoc : Std.Associative (α := F) (fun x y => x * y) := ⟨mul_assoc⟩
instance mulComm : Std.Commutative (α := F) (fun x y => x * y) := ⟨mul_comm⟩
theorem BX {A:F × F} (h:ae A A≠O2):A≠O2:=by rintro rfl;exact h (ct _)
structure Kill (F:Type) [Fd F] where
 χ:F->F
 mul:∀ x y,χ (x*y)=χ x*χ y
 one:χ 1=1
 neg:χ (-1)=1
theorem Kill.R9 (K:Kill F) (x:F):K.χ (-x)=K.χ x:=by
 have e : -x=-1*x:=by rw[neg_mul,one_mul]
 rw[e,K.mul,K.neg,one_mul]
noncomputable def kC (Q R:F × F) (s:F × (F × F)):Bool->F × (F × F)
 | false=>(s.1*s.1*Lt s.2 s.2 R,ae s.2 s.2)
 | true=>(s.1*s.1*Lt s.2 s.2 R*Lt (ae s.2 s.2) Q R,ae (ae s.2 s.2) Q)
noncomputable def ml (Q R:F × F) (l:List Bool):F × (F × F):=l.foldl (kC Q R) (1,Q)
def sj (x c:F):Bool->F
 | false=>c*c
 | true=>c*c*x
def ZX (x:F) (l:List Bool):F:=l.foldl (sj x) x
variable (K:Kill F)
structure Grp (b:F) (K:Kill F) (R:F × F) (S:F × F->Prop):Prop where
 on:∀ A,S A->aV b A
 add:∀ A B,S A->S B->S (ae A B)
 vt:∀ A,S A->K.χ (Vt A R)=1
variable {R:F × F} {S:F × F->Prop} (hb:b≠0) (oR:cY b R) (g:Grp b K R S)
include hb
theorem Hq {A B C D:F × F} (a:aV b A) (c:aV b B) (d:aV b C) (e:aV b D):ae (ae A B) (ae C D)=ae (ae A C) (ae B D):=by
 rw[eH hb a c (dP hb d e),eH hb a d (dP hb c e),<- eH hb c d e,<- eH hb d c e,dK hb c d]
include oR g
theorem GY {P Q T:F × F} (sP:S P) (sQ:S Q) (sT:S T):K.χ (Lt P Q R)*K.χ (Lt (ae P Q) T R)=K.χ (Lt Q T R)*K.χ (Lt P (ae Q T) R):=by
 have h:=congrArg K.χ (cyc hb (g.on _ sP) (g.on _ sQ) (g.on _ sT) oR)
 rw[K.mul,K.mul,K.mul,K.mul,g.vt _ (g.add _ _ sQ sT),g.vt _ (g.add _ _ sP sQ),mul_one,mul_one] at h
 exact h
omit oR in
theorem Wu {P Q:F × F} (sP:S P) (sQ:S Q):K.χ (Lt P Q R)=K.χ (Lt Q P R):=by
 show K.χ _=K.χ _
 rw[jY hb (g.on _ sP) (g.on _ sQ)]
theorem GZ {X Y A B:F × F} (sX:S X) (sY:S Y) (sA:S A) (sB:S B):K.χ (Lt X Y R)*K.χ (Lt A B R)*K.χ (Lt (ae X Y) (ae A B) R)=K.χ (Lt Y A R)*K.χ (Lt X (ae Y A) R)*K.χ (Lt (ae X (ae Y A)) B R):=by
 have h1:=GY K hb oR g sX sY (g.add _ _ sA sB)
 have h2:=GY K hb oR g sY sA sB
 have h3:=GY K hb oR g sX (g.add _ _ sY sA) sB
 rw[eH hb (g.on _ sY) (g.on _ sA) (g.on _ sB)] at h3
 have e1:K.χ (Lt X Y R)*K.χ (Lt A B R)*K.χ (Lt (ae X Y) (ae A B) R)=K.χ (Lt X Y R)*K.χ (Lt (ae X Y) (ae A B) R)*K.χ (Lt A B R):=by ac_rfl
 rw[e1,h1]
 have e2:K.χ (Lt Y (ae A B) R)*K.χ (Lt X (ae Y (ae A B)) R)*K.χ (Lt A B R)=K.χ (Lt A B R)*K.χ (Lt Y (ae A B) R)*K.χ (Lt X (ae Y (ae A B)) R):=by ac_rfl
 rw[e2,<- h2]
 have e3:K.χ (Lt Y A R)*K.χ (Lt (ae Y A) B R)*K.χ (Lt X (ae Y (ae A B)) R)=K.χ (Lt Y A R)*(K.χ (Lt (ae Y A) B R)*K.χ (Lt X (ae Y (ae A B)) R)):=by ac_rfl
 rw[e3,<- h3]
 ac_rfl
theorem Kv {X Y A B:F × F} (sX:S X) (sY:S Y) (sA:S A) (sB:S B):K.χ (Lt X Y R)*K.χ (Lt A B R)*K.χ (Lt (ae X Y) (ae A B) R)=K.χ (Lt X A R)*K.χ (Lt Y B R)*K.χ (Lt (ae X A) (ae Y B) R):=by
 rw[GZ K hb oR g sX sY sA sB,GZ K hb oR g sX sA sY sB,Wu K hb g sY sA,dK hb (g.on _ sY) (g.on _ sA)]
def vJ (K:Kill F) (R:F × F) (S:F × F->Prop) (sS sA sB:F × (F × F)) (c:F):Prop :=
 S sA.2/\S sB.2/\sS.2=ae sA.2 sB.2/\K.χ sS.1*c=K.χ sA.1*K.χ sB.1*K.χ (Lt sA.2 sB.2 R)
theorem GM {sS sA sB:F × (F × F)} {c:F} (A B:F × F) (x:F) (h:vJ K R S sS sA sB c):vJ K R S (kC (ae A B) R sS false) (kC A R sA false) (kC B R sB false) (sj x c false):=by
 obtain⟨h1,h2,h3,h4⟩:=h
 refine⟨g.add _ _ h1 h1,g.add _ _ h2 h2,?_,?_⟩
 ·show ae sS.2 sS.2=ae (ae sA.2 sA.2) (ae sB.2 sB.2)
  rw[h3];exact Hq hb (g.on _ h1) (g.on _ h2) (g.on _ h1) (g.on _ h2)
 ·show K.χ (sS.1*sS.1*Lt sS.2 sS.2 R)*(c*c)=K.χ (sA.1*sA.1*Lt sA.2 sA.2 R)*K.χ (sB.1*sB.1*Lt sB.2 sB.2 R)*K.χ (Lt (ae sA.2 sA.2) (ae sB.2 sB.2) R)
  have f:=Kv K hb oR g h1 h2 h1 h2
  rw[K.mul,K.mul,K.mul,K.mul,K.mul,K.mul,h3]
  have e:K.χ sS.1*K.χ sS.1*K.χ (Lt (ae sA.2 sB.2) (ae sA.2 sB.2) R)*(c*c)=(K.χ sS.1*c)*(K.χ sS.1*c)*K.χ (Lt (ae sA.2 sB.2) (ae sA.2 sB.2) R):=by ac_rfl
  rw[e,h4]
  have e2:K.χ sA.1*K.χ sB.1*K.χ (Lt sA.2 sB.2 R)*(K.χ sA.1*K.χ sB.1*K.χ (Lt sA.2 sB.2 R))*K.χ (Lt (ae sA.2 sB.2) (ae sA.2 sB.2) R)=K.χ sA.1*K.χ sB.1*(K.χ sA.1*K.χ sB.1)*(K.χ (Lt sA.2 sB.2 R)*K.χ (Lt sA.2 sB.2 R)*K.χ (Lt (ae sA.2 sB.2) (ae sA.2 sB.2) R)):=by ac_rfl
  rw[e2,f]
  ac_rfl
theorem RW {A B:F × F} {sS sA sB:F × (F × F)} {c:F} (sa:S A) (sb:S B) (h:vJ K R S sS sA sB c) :
  vJ K R S (sS.1*Lt sS.2 (ae A B) R,ae sS.2 (ae A B)) (sA.1*Lt sA.2 A R,ae sA.2 A) (sB.1*Lt sB.2 B R,ae sB.2 B) (c*K.χ (Lt A B R)):=by
 obtain⟨h1,h2,h3,h4⟩:=h
 refine⟨g.add _ _ h1 sa,g.add _ _ h2 sb,?_,?_⟩
 ·show ae sS.2 (ae A B)=ae (ae sA.2 A) (ae sB.2 B)
  rw[h3];exact Hq hb (g.on _ h1) (g.on _ h2) (g.on _ sa) (g.on _ sb)
 ·show K.χ (sS.1*Lt sS.2 (ae A B) R)*(c*K.χ (Lt A B R))=K.χ (sA.1*Lt sA.2 A R)*K.χ (sB.1*Lt sB.2 B R)*K.χ (Lt (ae sA.2 A) (ae sB.2 B) R)
  have f:=Kv K hb oR g h1 h2 sa sb
  rw[K.mul,K.mul,K.mul,h3]
  have e:K.χ sS.1*K.χ (Lt (ae sA.2 sB.2) (ae A B) R)*(c*K.χ (Lt A B R))=(K.χ sS.1*c)*(K.χ (Lt A B R)*K.χ (Lt (ae sA.2 sB.2) (ae A B) R)):=by ac_rfl
  rw[e,h4]
  have e2:K.χ sA.1*K.χ sB.1*K.χ (Lt sA.2 sB.2 R)*(K.χ (Lt A B R)*K.χ (Lt (ae sA.2 sB.2) (ae A B) R))=K.χ sA.1*K.χ sB.1*(K.χ (Lt sA.2 sB.2 R)*K.χ (Lt A B R)*K.χ (Lt (ae sA.2 sB.2) (ae A B) R)):=by ac_rfl
  rw[e2,f]
  ac_rfl
theorem OZ {A B:F × F} {sS sA sB:F × (F × F)} {c:F} (sa:S A) (sb:S B) (x:Bool) (h:vJ K R S sS sA sB c):vJ K R S (kC (ae A B) R sS x) (kC A R sA x) (kC B R sB x) (sj (K.χ (Lt A B R)) c x):=by
 cases x with
 | false=>exact GM K hb oR g A B _ h
 | true=>exact RW K hb oR g sa sb (GM K hb oR g A B 1 h)
theorem Wz {A B:F × F} (sa:S A) (sb:S B) (l:List Bool):vJ K R S (ml (ae A B) R l) (ml A R l) (ml B R l) (ZX (K.χ (Lt A B R)) l):=by
 have key:∀ (l:List Bool) (sS sA sB:F × (F × F)) (c:F),vJ K R S sS sA sB c->vJ K R S (l.foldl (kC (ae A B) R) sS) (l.foldl (kC A R) sA) (l.foldl (kC B R) sB) (l.foldl (sj (K.χ (Lt A B R))) c):=by
  intro l
  induction l with
  | nil=>intro sS sA sB c h;exact h
  | cons x l ih=>intro sS sA sB c h;exact ih _ _ _ _ (OZ K hb oR g sa sb x h)
 refine key l _ _ _ _ ⟨sa,sb,rfl,?_⟩
 show K.χ 1*_=K.χ 1*K.χ 1*_
 rw[K.one,one_mul,one_mul,one_mul]
theorem O5 {A B:F × F} (sa:S A) (sb:S B):K.χ (Lt A B R)*K.χ (Lt (aX A) (aX B) R)=1:=by
 have oa:=g.on _ sa
 have ob:=g.on _ sb
 have n:=congrArg K.χ (uz hb ob oa oR)
 have t:=Ji (R:=R) hb (cP oa) (cP ob)
 rw[<- sE hb oa ob,cR] at t
 rw[K.mul,K.mul,K.mul,g.vt _ sa,g.vt _ sb,g.vt _ (g.add _ _ sb sa),mul_one,mul_one,dK hb ob oa,jY hb ob oa] at n
 show K.χ _*K.χ _=1
 rw[t];exact n
end
section
variable {F:Type} [Fd F] {b:F} (K:Kill F)
def EM (Q:F × F):List Bool->F × F->Prop
 | [],_=>True
 | false::l,T=>ae T T≠O2/\EM Q l (ae T T)
 | true::l,T=>ae T T≠O2/\ae (ae T T) Q≠O2/\EM Q l (ae (ae T T) Q)
variable (hb:b≠0)
include hb
omit hb in
theorem Pf {A B R:F × F} {l:F} (h:gX A B l) (oA:cY b A) (oR:cY b R):lv A l R*lv A l (aX R)=-((R.1-A.1)*(R.1-B.1)*(R.1-sx A.1 B.1 l)):=by
 have e:lv A l (aX R)=-(R.2 - -(A.2+l*(R.1-A.1))):=by
  show -R.2-(A.2+l*(R.1-A.1))=_
  exact ae6 _ _
 rw[e,mul_neg]
 congr 1
 show (R.2-(A.2+l*(R.1-A.1)))*_=_
 rw[Zp]
 exact O7 _ _ _ _ (TG R.1 R.2 A.1 A.2 B.1 B.2 l b) oR oA h.2 h.1
structure NI (b:F) (K:Kill F) (S T:F × F->Prop):Prop where
 onS:∀ A,S A->aV b A
 addS:∀ A B,S A->S B->S (ae A B)
 onT:∀ A,T A->aV b A
 pf:∀ A B,T A->T B->T (ae A B)
 vt:∀ A R,S A->T R->A≠O2->R≠O2->K.χ (R.1-A.1)=1
variable {S T:F × F->Prop} (g:NI b K S T)
include g
omit hb in
theorem NI.vt' {A R:F × F} (hA:S A) (hR:T R) (nA:A≠O2) (nR:R≠O2):K.χ (A.1-R.1)=1:=by
 have e:A.1-R.1=-(R.1-A.1):=ae7 _ _
 rw[e,K.R9,g.vt _ _ hA hR nA nR]
theorem nq {A B R:F × F} (sA:S A) (sB:S B) (tR:T R) (nA:A≠O2) (nB:B≠O2) (nAB:ae A B≠O2) (nR:R≠O2):K.χ (Lt A B R)*K.χ (Lt A B (aX R))=1:=by
 have oA:=(g.onS _ sA).resolve_left nA
 have oB:=(g.onS _ sB).resolve_left nB
 have oR:=(g.onT _ tR).resolve_left nR
 rcases fQ oA oB with rfl|⟨l,h⟩
 ·exact absurd (bE A) nAB
 ·have eS:=bV hb oA oB h
  rw[gM hb oA oB h,gM hb oA oB h,<- K.mul,Pf h oA oR,K.R9,K.mul,K.mul,g.vt _ _ sA tR nA nR,g.vt _ _ sB tR nB nR]
  have:=g.vt _ _ (g.addS _ _ sA sB) tR nAB nR
  rw[eS] at this
  rw[this,mul_one,mul_one]
theorem O6 {A B P Q:F × F} (sA:S A) (sB:S B) (tP:T P) (tQ:T Q) (nA:A≠O2) (nB:B≠O2) (nAB:ae A B≠O2) (nP:P≠O2) (nQ:Q≠O2) (nPQ:ae P Q≠O2) :
  K.χ (Lt A B P)*K.χ (Lt A B Q)*K.χ (Lt P Q (ae A B))=K.χ (Lt P Q A)*K.χ (Lt P Q B)*K.χ (Lt A B (ae P Q)):=by
 have oA:=(g.onS _ sA).resolve_left nA
 have oB:=(g.onS _ sB).resolve_left nB
 have oP:=(g.onT _ tP).resolve_left nP
 have oQ:=(g.onT _ tQ).resolve_left nQ
 have g':NI b K T S:=⟨g.onT,g.pf,g.onS,g.addS,fun X Y hX hY nX nY=>g.vt' K hY hX nY nX⟩
 have m1:=nq K hb g sA sB (g.pf _ _ tP tQ) nA nB nAB nPQ
 have m2:=nq K hb g' tP tQ (g.addS _ _ sA sB) nP nQ nPQ nAB
 rcases fQ oA oB with rfl|⟨l,h⟩
 ·exact absurd (bE A) nAB
 rcases fQ oP oQ with rfl|⟨m,k⟩
 ·exact absurd (bE P) nPQ
 have r:=congrArg K.χ (ZQ h k oA oP)
 have e1:(sx P.1 Q.1 m,-sy P.1 P.2 Q.1 m)=aX (ae P Q):=by rw[bV hb oP oQ k];rfl
 have e2:(sx A.1 B.1 l,-sy A.1 A.2 B.1 l)=aX (ae A B):=by rw[bV hb oA oB h];rfl
 rw[e1,e2,K.R9,K.mul,K.mul,K.mul,K.mul] at r
 have f:∀ R,Lt A B R=lv A l R:=gM hb oA oB h
 have f':∀ R,Lt P Q R=lv P m R:=gM hb oP oQ k
 rw[<- f,<- f,<- f,<- f',<- f',<- f'] at r
 generalize K.χ (Lt A B P)=a1 at *
 generalize K.χ (Lt A B Q)=a2 at *
 generalize K.χ (Lt A B (ae P Q))=a3 at *
 generalize K.χ (Lt A B (aX (ae P Q)))=a4 at *
 generalize K.χ (Lt P Q A)=c1 at *
 generalize K.χ (Lt P Q B)=c2 at *
 generalize K.χ (Lt P Q (ae A B))=c3 at *
 generalize K.χ (Lt P Q (aX (ae A B)))=c4 at *
 have h1:a1*a2*c3=a1*a2*a4*(a3*c3):=by
  have:a1*a2*a4*(a3*c3)=a1*a2*c3*(a3*a4):=by ac_rfl
  rw[this,m1,mul_one]
 have h2:c1*c2*c4*(a3*c3)=c1*c2*a3:=by
  have:c1*c2*c4*(a3*c3)=c1*c2*a3*(c3*c4):=by ac_rfl
  rw[this,m2,mul_one]
 rw[h1,r,h2]
def AD (K:Kill F) (S:F × F->Prop) (P Q:F × F) (s1 s2 s3:F × (F × F)) (c:F):Prop :=
 S s1.2/\s2.2=s1.2/\s3.2=s1.2/\K.χ s1.1*K.χ s2.1*K.χ (Lt P Q s1.2)=K.χ s3.1*c
theorem RV {A P Q:F × F} {s1 s2 s3:F × (F × F)} {c:F} (tP:T P) (tQ:T Q) (nP:P≠O2) (nQ:Q≠O2) (nPQ:ae P Q≠O2) (sA:S A) (nA:A≠O2) (n1:s1.2≠O2) (nS:ae s1.2 A≠O2) (h:AD K S P Q s1 s2 s3 c) :
  AD K S P Q (s1.1*Lt s1.2 A P,ae s1.2 A) (s2.1*Lt s2.2 A Q,ae s2.2 A) (s3.1*Lt s3.2 A (ae P Q),ae s3.2 A) (c*K.χ (Lt P Q A)):=by
 obtain⟨h1,h2,h3,h4⟩:=h
 have r:=O6 K hb g h1 sA tP tQ n1 nA nS nP nQ nPQ
 refine⟨g.addS _ _ h1 sA,by show ae _ _=ae _ _;rw[h2],by show ae _ _=ae _ _;rw[h3],?_⟩
 show K.χ (s1.1*Lt s1.2 A P)*K.χ (s2.1*Lt s2.2 A Q)*K.χ (Lt P Q (ae s1.2 A))=K.χ (s3.1*Lt s3.2 A (ae P Q))*(c*K.χ (Lt P Q A))
 rw[h2,h3,K.mul,K.mul,K.mul]
 have e:K.χ s1.1*K.χ (Lt s1.2 A P)*(K.χ s2.1*K.χ (Lt s1.2 A Q))*K.χ (Lt P Q (ae s1.2 A))=K.χ s1.1*K.χ s2.1*(K.χ (Lt s1.2 A P)*K.χ (Lt s1.2 A Q)*K.χ (Lt P Q (ae s1.2 A))):=by ac_rfl
 rw[e,r]
 have e2:K.χ s1.1*K.χ s2.1*(K.χ (Lt P Q s1.2)*K.χ (Lt P Q A)*K.χ (Lt s1.2 A (ae P Q)))=K.χ s1.1*K.χ s2.1*K.χ (Lt P Q s1.2)*(K.χ (Lt P Q A)*K.χ (Lt s1.2 A (ae P Q))):=by ac_rfl
 rw[e2,h4]
 ac_rfl
theorem GL {P Q:F × F} {s1 s2 s3:F × (F × F)} {c:F} (tP:T P) (tQ:T Q) (nP:P≠O2) (nQ:Q≠O2) (nPQ:ae P Q≠O2) (n1:s1.2≠O2) (nS:ae s1.2 s1.2≠O2) (h:AD K S P Q s1 s2 s3 c) :
  AD K S P Q (s1.1*s1.1*Lt s1.2 s1.2 P,ae s1.2 s1.2) (s2.1*s2.1*Lt s2.2 s2.2 Q,ae s2.2 s2.2) (s3.1*s3.1*Lt s3.2 s3.2 (ae P Q),ae s3.2 s3.2) (c*c):=by
 obtain⟨h1,h2,h3,h4⟩:=h
 have r:=O6 K hb g h1 h1 tP tQ n1 n1 nS nP nQ nPQ
 refine⟨g.addS _ _ h1 h1,by show ae _ _=ae _ _;rw[h2],by show ae _ _=ae _ _;rw[h3],?_⟩
 show K.χ (s1.1*s1.1*Lt s1.2 s1.2 P)*K.χ (s2.1*s2.1*Lt s2.2 s2.2 Q)*K.χ (Lt P Q (ae s1.2 s1.2))=K.χ (s3.1*s3.1*Lt s3.2 s3.2 (ae P Q))*(c*c)
 rw[h2,h3,K.mul,K.mul,K.mul,K.mul,K.mul,K.mul]
 have e:K.χ s1.1*K.χ s1.1*K.χ (Lt s1.2 s1.2 P)*(K.χ s2.1*K.χ s2.1*K.χ (Lt s1.2 s1.2 Q))*K.χ (Lt P Q (ae s1.2 s1.2))=K.χ s1.1*K.χ s2.1*(K.χ s1.1*K.χ s2.1)*(K.χ (Lt s1.2 s1.2 P)*K.χ (Lt s1.2 s1.2 Q)*K.χ (Lt P Q (ae s1.2 s1.2))):=by ac_rfl
 rw[e,r]
 have e2:K.χ s1.1*K.χ s2.1*(K.χ s1.1*K.χ s2.1)*(K.χ (Lt P Q s1.2)*K.χ (Lt P Q s1.2)*K.χ (Lt s1.2 s1.2 (ae P Q)))=(K.χ s1.1*K.χ s2.1*K.χ (Lt P Q s1.2))*(K.χ s1.1*K.χ s2.1*K.χ (Lt P Q s1.2))*K.χ (Lt s1.2 s1.2 (ae P Q)):=by ac_rfl
 rw[e2,h4]
 ac_rfl
theorem Wy {A P Q:F × F} (sA:S A) (nA:A≠O2) (tP:T P) (tQ:T Q) (nP:P≠O2) (nQ:Q≠O2) (nPQ:ae P Q≠O2) (l:List Bool) (ok:EM A l A) :
  AD K S P Q (ml A P l) (ml A Q l) (ml A (ae P Q) l) (ZX (K.χ (Lt P Q A)) l):=by
 have key:∀ (l:List Bool) (s1 s2 s3:F × (F × F)) (c:F),EM A l s1.2->AD K S P Q s1 s2 s3 c->AD K S P Q (l.foldl (kC A P) s1) (l.foldl (kC A Q) s2) (l.foldl (kC A (ae P Q)) s3) (l.foldl (sj (K.χ (Lt P Q A))) c):=by
  intro l
  induction l with
  | nil=>intro s1 s2 s3 c _ h;exact h
  | cons x l ih =>
   intro s1 s2 s3 c ok h
   cases x with
   | false =>
    obtain⟨o1,o2⟩:=ok
    exact ih _ _ _ _ o2 (GL K hb g tP tQ nP nQ nPQ (BX o1) o1 h)
   | true =>
    obtain⟨o1,o2,o3⟩:=ok
    exact ih _ _ _ _ o3 (RV K hb g tP tQ nP nQ nPQ sA nA o1 o2 (GL K hb g tP tQ nP nQ nPQ (BX o1) o1 h))
 refine key l _ _ _ _ ok ⟨sA,rfl,rfl,?_⟩
 show K.χ 1*K.χ 1*_=K.χ 1*_
 rw[K.one,one_mul]
theorem Wx {A P:F × F} (sA:S A) (nA:A≠O2) (tP:T P) (nP:P≠O2) (l:List Bool) (ok:EM A l A):K.χ (ml A P l).1*K.χ (ml A (aX P) l).1=1:=by
 have key:∀ (l:List Bool) (s1 s2:F × (F × F)),EM A l s1.2->S s1.2->s2.2=s1.2->K.χ s1.1*K.χ s2.1=1->K.χ (l.foldl (kC A P) s1).1*K.χ (l.foldl (kC A (aX P)) s2).1=1:=by
  intro l
  induction l with
  | nil=>intro s1 s2 _ _ _ h;exact h
  | cons x l ih =>
   intro s1 s2 ok hs h2 h
   have d:ae s1.2 s1.2≠O2->K.χ (s1.1*s1.1*Lt s1.2 s1.2 P)*K.χ (s2.1*s2.1*Lt s2.2 s2.2 (aX P))=1:=by
    intro o1
    have m:=nq K hb g hs hs tP (BX o1) (BX o1) o1 nP
    rw[h2,K.mul,K.mul,K.mul,K.mul]
    have e:K.χ s1.1*K.χ s1.1*K.χ (Lt s1.2 s1.2 P)*(K.χ s2.1*K.χ s2.1*K.χ (Lt s1.2 s1.2 (aX P)))=(K.χ s1.1*K.χ s2.1)*(K.χ s1.1*K.χ s2.1)*(K.χ (Lt s1.2 s1.2 P)*K.χ (Lt s1.2 s1.2 (aX P))):=by ac_rfl
    rw[e,h,m,one_mul,one_mul]
   cases x with
   | false =>
    obtain⟨o1,o2⟩:=ok
    exact ih _ _ o2 (g.addS _ _ hs hs) (by show ae _ _=ae _ _;rw[h2]) (d o1)
   | true =>
    obtain⟨o1,o2,o3⟩:=ok
    refine ih _ _ o3 (g.addS _ _ (g.addS _ _ hs hs) sA) (by show ae (ae _ _) _=ae (ae _ _) _;rw[h2]) ?_
    have m:=nq K hb g (g.addS _ _ hs hs) sA tP o1 nA o2 nP
    have dd:=d o1
    show K.χ (s1.1*s1.1*Lt s1.2 s1.2 P*Lt (ae s1.2 s1.2) A P)*K.χ (s2.1*s2.1*Lt s2.2 s2.2 (aX P)*Lt (ae s2.2 s2.2) A (aX P))=1
    rw[K.mul (s1.1*s1.1*Lt s1.2 s1.2 P),K.mul (s2.1*s2.1*Lt s2.2 s2.2 (aX P)),h2]
    rw[h2] at dd
    generalize K.χ (s1.1*s1.1*Lt s1.2 s1.2 P)=u at *
    generalize K.χ (s2.1*s2.1*Lt s1.2 s1.2 (aX P))=v at *
    generalize K.χ (Lt (ae s1.2 s1.2) A P)=w at *
    generalize K.χ (Lt (ae s1.2 s1.2) A (aX P))=z at *
    have e:u*w*(v*z)=(u*v)*(w*z):=by ac_rfl
    rw[e,dd,m,one_mul]
 refine key l _ _ ok sA rfl ?_
 show K.χ 1*K.χ 1=1
 rw[K.one,one_mul]
end
end Cr
namespace Cr
open Rg Fd
theorem agy {F:Type} [Rg F] (x y b u:F):y*(u*u*u)*(y*(u*u*u))-(x*(u*u)*(x*(u*u))*(x*(u*u))+b*(u*u*u*(u*u*u)))=(u*u*u*(u*u*u))*(y*y-(x*x*x+b)) :=
 aL [x,y,b,u] ((fun (x y b u:PE)=>(y*(u*u*u)*(y*(u*u*u))-(x*(u*u)*(x*(u*u))*(x*(u*u))+b*(u*u*u*(u*u*u))))) (.v 0) (.v 1) (.v 2) (.v 3)) ((fun (x y b u:PE)=>((u*u*u*(u*u*u))*(y*y-(x*x*x+b)))) (.v 0) (.v 1) (.v 2) (.v 3)) (by kernel_rfl)
theorem agv {F:Type} [Rg F] (x1 y1 x2 y2 l u:F):l*u*(x2*(u*u)-x1*(u*u))-(y2*(u*u*u)-y1*(u*u*u))=(u*u*u)*(l*(x2-x1)-(y2-y1)) :=
 aL [x1,y1,x2,y2,l,u] ((fun (x1 y1 x2 y2 l u:PE)=>(l*u*(x2*(u*u)-x1*(u*u))-(y2*(u*u*u)-y1*(u*u*u)))) (.v 0) (.v 1) (.v 2) (.v 3) (.v 4) (.v 5)) ((fun (x1 y1 x2 y2 l u:PE)=>((u*u*u)*(l*(x2-x1)-(y2-y1)))) (.v 0) (.v 1) (.v 2) (.v 3) (.v 4) (.v 5)) (by kernel_rfl)
theorem agw {F:Type} [Rg F] (x1 y1 x2 y2 l u:F):l*u*(y1*(u*u*u)+y2*(u*u*u))-(x1*(u*u)*(x1*(u*u))+x1*(u*u)*(x2*(u*u))+x2*(u*u)*(x2*(u*u)))=(u*u*u*u)*(l*(y1+y2)-(x1*x1+x1*x2+x2*x2)) :=
 aL [x1,y1,x2,y2,l,u] ((fun (x1 y1 x2 y2 l u:PE)=>(l*u*(y1*(u*u*u)+y2*(u*u*u))-(x1*(u*u)*(x1*(u*u))+x1*(u*u)*(x2*(u*u))+x2*(u*u)*(x2*(u*u))))) (.v 0) (.v 1) (.v 2) (.v 3) (.v 4) (.v 5)) ((fun (x1 y1 x2 y2 l u:PE)=>((u*u*u*u)*(l*(y1+y2)-(x1*x1+x1*x2+x2*x2)))) (.v 0) (.v 1) (.v 2) (.v 3) (.v 4) (.v 5)) (by kernel_rfl)
theorem agz {F:Type} [Rg F] (x1 x2 l u:F):l*u*(l*u)-x1*(u*u)-x2*(u*u)=(l*l-x1-x2)*(u*u) :=
 aL [x1,x2,l,u] ((fun (x1 x2 l u:PE)=>(l*u*(l*u)-x1*(u*u)-x2*(u*u))) (.v 0) (.v 1) (.v 2) (.v 3)) ((fun (x1 x2 l u:PE)=>((l*l-x1-x2)*(u*u))) (.v 0) (.v 1) (.v 2) (.v 3)) (by kernel_rfl)
theorem agA {F:Type} [Rg F] (x1 y1 s l u:F) : -(y1*(u*u*u)+l*u*(s*(u*u)-x1*(u*u)))=-(y1+l*(s-x1))*(u*u*u) :=
 aL [x1,y1,s,l,u] ((fun (x1 y1 s l u:PE)=>(-(y1*(u*u*u)+l*u*(s*(u*u)-x1*(u*u))))) (.v 0) (.v 1) (.v 2) (.v 3) (.v 4)) ((fun (x1 y1 s l u:PE)=>(-(y1+l*(s-x1))*(u*u*u))) (.v 0) (.v 1) (.v 2) (.v 3) (.v 4)) (by kernel_rfl)
theorem agx {F:Type} [Rg F] (y u:F) : -y*(u*u*u)=-(y*(u*u*u)) :=
 aL [y,u] ((fun (y u:PE)=>(-y*(u*u*u))) (.v 0) (.v 1)) ((fun (y u:PE)=>(-(y*(u*u*u)))) (.v 0) (.v 1)) (by kernel_rfl)
theorem ags {F:Type} [Rg F] (x:F):x*(1*1)=x :=
 aL [x] ((fun (x:PE)=>(x*(1*1))) (.v 0)) ((fun (x:PE)=>(x)) (.v 0)) (by kernel_rfl)
theorem agt {F:Type} [Rg F] (x:F):x*(1*1*1)=x :=
 aL [x] ((fun (x:PE)=>(x*(1*1*1))) (.v 0)) ((fun (x:PE)=>(x)) (.v 0)) (by kernel_rfl)
theorem agu {F:Type} [Rg F] (x:F):x*1=x :=
 aL [x] ((fun (x:PE)=>(x*1)) (.v 0)) ((fun (x:PE)=>(x)) (.v 0)) (by kernel_rfl)
theorem Nm {F:Type} [Rg F] (b:F):b*(1*1*1*(1*1*1))=b :=
 aL [b] ((fun (b:PE)=>(b*(1*1*1*(1*1*1)))) (.v 0)) ((fun (b:PE)=>(b)) (.v 0)) (by kernel_rfl)
section
variable {F G:Type} [Fd F] [Fd G]
structure Hm (f:F->G):Prop where
 add:∀ x y,f (x+y)=f x+f y
 mul:∀ x y,f (x*y)=f x*f y
 neg:∀ x,f (-x)=-f x
 one:f 1=1
 inj:∀ x,f x=0->x=0
variable {f:F->G} (H:Hm f)
include H
theorem Hm.zero:f 0=0:=by
 have h:=H.add 0 0
 rw[add_zero] at h
 have h2:f 0+f 0=f 0+0:=by rw[add_zero];exact h.symm
 exact FU h2
theorem Hm.sub (x y:F):f (x-y)=f x-f y:=by rw[Rg.sub_def,Rg.sub_def,H.add,H.neg]
theorem Hm.eq {x y:F} (h:f x=f y):x=y:=bq (H.inj _ (by rw[H.sub,h,sub_self]))
omit H in
def cc (f:F->G) (u:G) (A:F × F):G × G:=(f A.1*(u*u),f A.2*(u*u*u))
variable {u:G}
theorem rj:cc f u O2=O2:=by
 show (f 0*(u*u),f 0*(u*u*u))=_
 rw[H.zero,zero_mul,zero_mul]
theorem Ls (A:F × F):cc f u (aX A)=aX (cc f u A):=by
 show (f A.1*(u*u),f (-A.2)*(u*u*u))=(f A.1*(u*u),-(f A.2*(u*u*u)))
 rw[H.neg,agx]
theorem ta (hu:u≠0) {A:F × F} (h:A≠O2):cc f u A≠O2:=by
 intro e
 have e1:f A.1*(u*u)=0:=congrArg Prod.fst e
 have e2:f A.2*(u*u*u)=0:=congrArg Prod.snd e
 have n1:A.1=0:=H.inj _ ((mul_eq_zero e1).resolve_right (dG hu hu))
 have n2:A.2=0:=H.inj _ ((mul_eq_zero e2).resolve_right (dG (dG hu hu) hu))
 exact h (Prod.ext n1 n2)
variable {b:F} {b':G} (eb:b'=f b*(u*u*u*(u*u*u)))
include eb
theorem qL {A:F × F} (h:cY b A):cY b' (cc f u A):=by
 have h1:A.2*A.2=A.1*A.1*A.1+b:=h
 have h2:=congrArg f h1
 rw[H.mul,H.add,H.mul,H.mul] at h2
 show f A.2*(u*u*u)*(f A.2*(u*u*u))=f A.1*(u*u)*(f A.1*(u*u))*(f A.1*(u*u))+b'
 rw[eb]
 exact mG _ (agy _ _ _ _) h2
theorem rM {A:F × F} (h:aV b A):aV b' (cc f u A):=by
 rcases h with rfl|h
 ·exact .inl (rj H)
 ·exact .inr (qL H eb h)
omit eb in
theorem yY {A B:F × F} {l:F} (h:gX A B l):gX (cc f u A) (cc f u B) (f l*u):=by
 have h1:=congrArg f h.1
 have h2:=congrArg f h.2
 rw[H.mul,H.sub,H.sub] at h1
 rw[H.mul,H.add,H.add,H.add,H.mul,H.mul,H.mul] at h2
 exact⟨mG _ (agv _ _ _ _ _ _) h1,mG _ (agw _ _ _ _ _ _) h2⟩
variable (hb:b≠0) (hb':b'≠0)
include hb hb'
theorem p7 {A B:F × F} (oA:aV b A) (oB:aV b B):cc f u (ae A B)=ae (cc f u A) (cc f u B):=by
 rcases oA with rfl|oA
 ·rw[rj H,ct,ct]
 rcases oB with rfl|oB
 ·rw[rj H,dD,dD]
 rcases fQ oA oB with rfl|⟨l,h⟩
 ·rw[Ls H,bE,bE,rj H]
 ·rw[bV hb oA oB h,bV hb' (qL H eb oA) (qL H eb oB) (yY H h)]
  have e1:f (sx A.1 B.1 l)*(u*u)=sx (f A.1*(u*u)) (f B.1*(u*u)) (f l*u):=by
   show f (l*l-A.1-B.1)*(u*u)=f l*u*(f l*u)-f A.1*(u*u)-f B.1*(u*u)
   rw[H.sub,H.sub,H.mul];exact (agz _ _ _ _).symm
  refine Prod.ext e1 ?_
  show f (-(A.2+l*(sx A.1 B.1 l-A.1)))*(u*u*u)=-(f A.2*(u*u*u)+f l*u*(sx (f A.1*(u*u)) (f B.1*(u*u)) (f l*u)-f A.1*(u*u)))
  rw[<- e1,H.neg,H.add,H.mul,H.sub];exact (agA _ _ _ _ _).symm
theorem ni {A:F × F} (oA:aV b A) (n:Nat):cc f u (aq A n)=aq (cc f u A) n:=by
 induction n with
 | zero=>exact rj H
 | succ n ih =>
  show cc f u (ae (aq A n) A)=ae (aq (cc f u A) n) (cc f u A)
  rw[p7 H eb hb hb' (a7 hb oA n) oA,ih]
end
section
variable {F G:Type} [Fd F] [Fd G] {f:F->G} (H:Hm f) {b:F} {b':G} (eb:b'=f b) (hb:b≠0) (hb':b'≠0)
def cD (f:F->G) (A:F × F):G × G:=(f A.1,f A.2)
omit [Fd F] in
theorem kX (A:F × F):cc f 1 A=cD f A:=by
 show (f A.1*(1*1),f A.2*(1*1*1))=_
 rw[ags,agt];rfl
theorem Kk (H:Hm f) (A:F × F):cD f (aX A)=aX (cD f A):=by rw[<- kX,<- kX,Ls H]
include H in
theorem Mm:cD f O2=O2:=by rw[<- kX,rj H]
include H eb in
theorem yd {A:F × F} (h:cY b A):cY b' (cD f A):=by
 rw[<- kX];exact qL (u:=1) H (by rw[Nm,eb]) h
include H eb in
theorem Wb {A:F × F} (h:aV b A):aV b' (cD f A):=by
 rw[<- kX];exact rM (u:=1) H (by rw[Nm,eb]) h
include H in
theorem Zh {A B:F × F} {l:F} (h:gX A B l):gX (cD f A) (cD f B) (f l):=by
 have:=yY (u:=1) H h
 rwa [kX,kX,agu] at this
include H in
theorem Zi (A:F × F) (l:F) (R:F × F):lv (cD f A) (f l) (cD f R)=f (lv A l R):=by
 show f R.2-(f A.2+f l*(f R.1-f A.1))=f (R.2-(A.2+l*(R.1-A.1)))
 rw[H.sub,H.add,H.mul,H.sub]
include H eb hb hb'
theorem GB {A:F × F} (oA:aV b A) (R:F × F):Vt (cD f A) (cD f R)=f (Vt A R):=by
 rcases oA with rfl|oA
 ·rw[Mm H,ue,ue,H.one]
 ·rw[qc (yd H eb oA) hb',qc oA hb,H.sub];rfl
theorem Kj {A B:F × F} (oA:aV b A) (oB:aV b B):cD f (ae A B)=ae (cD f A) (cD f B):=by
 rw[<- kX,<- kX,<- kX];exact p7 (u:=1) H (by rw[Nm,eb]) hb hb' oA oB
theorem RP {A:F × F} (oA:aV b A) (n:Nat):cD f (aq A n)=aq (cD f A) n:=by
 rw[<- kX,<- kX];exact ni (u:=1) H (by rw[Nm,eb]) hb hb' oA n
theorem OQ {A B:F × F} (oA:aV b A) (oB:aV b B) (R:F × F):Lt (cD f A) (cD f B) (cD f R)=f (Lt A B R):=by
 rcases oA with rfl|oA
 ·rw[Mm H,nD,nD];exact GB H eb hb hb' oB R
 rcases oB with rfl|oB
 ·rw[Mm H,mO,mO];exact GB H eb hb hb' (.inr oA) R
 rcases fQ oA oB with rfl|⟨l,h⟩
 ·rw[Kk H,kY,kY];exact GB H eb hb hb' (.inr oA) R
 ·rw[gM hb' (yd H eb oA) (yd H eb oB) (Zh H h),gM hb oA oB h,Zi H]
end
end Cr
namespace Cr
noncomputable section
open Rg Fd Go.Eng
def tb:F2:=(zm 4,zm 4)
theorem cd:tb≠0:=fun h=>absurd (congrArg Prod.fst h) (by decide)
def kN:Nat:=179184598021607201395328336867808778623227034365729160298681049842686063338121018147455353735441364525843719707164066765927216767229676667218777623574602578604133367281659313250333219842201540931831568844813240003724377679117
def hN:Nat:=209869847837335686905080341498658477663839067235703451875306851526599783796572738804459333109033834234622528588876978987822447936461846631641690358257586228683615991308971558879306463436166481
def p1x:V2:=(2,0)
def p1y:V2:=(188995492400578496451910581292546059920654572609832469388872107051048741028892423057992033888655218419282460458611,434381874456081807472298918693162486998243066160460423017297172308631992219110538691921044767658182807847155297615)
def p2x:V2:=(3502097864753066570550148371418669739303915645354957993882158272604968504426138630742300340054213004101649122574995,3191109489096775307193507002606793236600709294888301722308519387708220704158284978609877783087598478210803037831895)
def p2y:V2:=(1120128434309428118703815378359973697067986923993178994101501066809893730950108659182691351312157851099523537033621,3284094733358660625011281814609151989521685951164705617572026484241640633985466418925372124277545495873312627274873)
def qz:V2:=(877076961050607968509681729531255177986764537961432449499635504522207616027455086505066378536590128544573588734230,877076961050607968509681729531255177986764537961432449499635504522207616027455086505066378536590128544573588734230)
abbrev J3:=V2 × V2 × V2
def jp (x y:V2):J3:=(x,y,(1,0))
def j3 (t:J3):F2 × F2 × F2:=cJ.φ3 t
def onc (x y:V2):Bool:=Nat.beq (fF (aS y y) (fk (aS (aS x x) x) (4,4))).1 0&&Nat.beq (fF (aS y y) (fk (aS (aS x x) x) (4,4))).2 0
theorem Pt {x y:V2} (h:onc x y=true):cY tb (q2 x,q2 y):=by
 unfold onc at h
 rw[Bool.and_eq_true] at h
 have h1:q2 (fF (aS y y) (fk (aS (aS x x) x) (4,4)))=0:=by
  refine (cJ.isz_φ _).1 ?_
  show (Nat.beq (_%pN) 0&&Nat.beq (_%pN) 0)=true
  rw[Nat.eq_of_beq_eq_true h.1,Nat.eq_of_beq_eq_true h.2];rfl
 rw[mJ,qG,km,km,km] at h1
 exact bq h1
theorem O3 {x y:V2} (h:cY tb (q2 x,q2 y)):du tb (j3 (jp x y)) (q2 x,q2 y) :=
 .inr ⟨one_ne,by show q2 x=q2 x*(1*1);rw[mul_one,mul_one],by show q2 y=q2 y*(1*(1*1));rw[mul_one,mul_one,mul_one],h⟩
theorem zV {t:J3} {P:F2 × F2} (h:du tb (j3 t) P):cJ.isz t.2.2=true↔P=O2:=by
 have hi:=cJ.isz_φ t.2.2
 rcases h with ⟨h1,h2⟩|⟨h1,_,_,h2⟩
 ·exact⟨fun _=>h2,fun _=>hi.2 h1⟩
 ·exact⟨fun e=>absurd (hi.1 e) h1,fun e=>absurd e (tG cd h2)⟩
def T1:F2 × F2:=(q2 p1x,q2 p1y)
def T2:F2 × F2:=(q2 p2x,q2 p2y)
def o1:J3:=jp p1x p1y
def o2:J3:=jp p2x p2y
theorem q8:cY tb T1:=Pt (by kernel_rfl)
theorem tn:cY tb T2:=Pt (by kernel_rfl)
theorem qm:du tb (j3 o1) T1:=O3 q8
theorem xq:du tb (j3 o2) T2:=O3 tn
def mj (o:J3) (n:Nat):J3:=cJ.gK o 760 n
theorem qA {o:J3} {P:F2 × F2} (h:du tb (j3 o) P) {n:Nat} (hn:n<2^760):du tb (j3 (mj o n)) (aq P n):=Ev.wg cd h 760 n hn
theorem afl:cJ.isz (mj o1 (kN*299)).2.2=true:=by kernel_rfl
theorem afm:cJ.isz (mj o2 299).2.2=true:=by kernel_rfl
theorem vL:aq T1 (kN*299)=O2:=(zV (qA qm (Odt (by kernel_rfl)))).1 afl
theorem LO:aq T2 299=O2:=(zV (qA xq (Odt (by kernel_rfl)))).1 afm
theorem wu {o:J3} {P:F2 × F2} (h:du tb (j3 o) P) {n:Nat} (hn:n<2^760) (hz:cJ.isz (mj o n).2.2=false):aq P n≠O2:=fun e=>by
 have:=(zV (qA h hn)).2 e
 rw[hz] at this;cases this
theorem z_0:cJ.isz (mj o1 19747952380560469302323322050672622487410572530539262414045570918895367835642530197600129291152586801779311534258037583122830008625755003132478624935055720974064090238561052215941626514123944245712362360707393572102318070791).2.2=false:=by kernel_rfl
theorem z_1:cJ.isz (mj o1 4482238334180586732803745731069591299953558376587720148021888555422331878030468035312402808240355391385198041700163637832530562486545078515721116828311400569115358221134119857931032605439493076099526402124919163483107916511).2.2=false:=by kernel_rfl
theorem z_2:cJ.isz (mj o1 204435453290776677963449216517309658175308347325906608295165143160629959812485202088339905776329775720238838597629082276088502697387609078137492452174069313816727185654221348812143491724768136401549359461054755660202423507).2.2=false:=by kernel_rfl
theorem z_3:cJ.isz (mj o1 133242285665808607076488378322626308017882680317454143660064485930450545651671235455237836767).2.2=false:=by kernel_rfl
theorem z_4:cJ.isz (mj o1 1021746936224977739802674759843215733158749228274876731329980043418955197936360816142165308893846079758636364010172630974200012787218635773765140678191).2.2=false:=by kernel_rfl
theorem XE (a:Nat) (ha:aq T1 a=O2):kN∣a:=by
 have oT:aV tb T1:=.inr q8
 have d0:2713∣a:=vj cd oT Sp (n:=19747952380560469302323322050672622487410572530539262414045570918895367835642530197600129291152586801779311534258037583122830008625755003132478624935055720974064090238561052215941626514123944245712362360707393572102318070791) (by rw[show 19747952380560469302323322050672622487410572530539262414045570918895367835642530197600129291152586801779311534258037583122830008625755003132478624935055720974064090238561052215941626514123944245712362360707393572102318070791*2713=kN*299 from Odt (by kernel_rfl)];exact vL) (wu qm (Odt (by kernel_rfl)) z_0) ha
 have d1:11953∣a:=vj cd oT PG (n:=4482238334180586732803745731069591299953558376587720148021888555422331878030468035312402808240355391385198041700163637832530562486545078515721116828311400569115358221134119857931032605439493076099526402124919163483107916511) (by rw[show 4482238334180586732803745731069591299953558376587720148021888555422331878030468035312402808240355391385198041700163637832530562486545078515721116828311400569115358221134119857931032605439493076099526402124919163483107916511*11953=kN*299 from Odt (by kernel_rfl)];exact vL) (wu qm (Odt (by kernel_rfl)) z_1) ha
 have d2:262069∣a:=vj cd oT MO (n:=204435453290776677963449216517309658175308347325906608295165143160629959812485202088339905776329775720238838597629082276088502697387609078137492452174069313816727185654221348812143491724768136401549359461054755660202423507) (by rw[show 204435453290776677963449216517309658175308347325906608295165143160629959812485202088339905776329775720238838597629082276088502697387609078137492452174069313816727185654221348812143491724768136401549359461054755660202423507*262069=kN*299 from Odt (by kernel_rfl)];exact vL) (wu qm (Odt (by kernel_rfl)) z_2) ha
 have d3:402096035359507321594726366720466575392706800671181159425656785868777272553337714697862511267018014931937703598282857976535744623203249∣a:=vj cd oT acJ (n:=133242285665808607076488378322626308017882680317454143660064485930450545651671235455237836767) (by rw[show 133242285665808607076488378322626308017882680317454143660064485930450545651671235455237836767*402096035359507321594726366720466575392706800671181159425656785868777272553337714697862511267018014931937703598282857976535744623203249=kN*299 from Odt (by kernel_rfl)];exact vL) (wu qm (Odt (by kernel_rfl)) z_3) ha
 have d4:52435875175126190479447740508185965837690552500527637822603658699938581184513∣a:=vj cd oT T5 (n:=1021746936224977739802674759843215733158749228274876731329980043418955197936360816142165308893846079758636364010172630974200012787218635773765140678191) (by rw[show 1021746936224977739802674759843215733158749228274876731329980043418955197936360816142165308893846079758636364010172630974200012787218635773765140678191*52435875175126190479447740508185965837690552500527637822603658699938581184513=kN*299 from Odt (by kernel_rfl)];exact vL) (wu qm (Odt (by kernel_rfl)) z_4) ha
 have c1:2713*11953∣a:=Nat.Coprime.mul_dvd_of_dvd_of_dvd (show Nat.gcd 2713 11953=1 from Odt (by kernel_rfl)) d0 d1
 rw[show 2713*11953=32428489 from Odt (by kernel_rfl)] at c1
 have c2:32428489*262069∣a:=Nat.Coprime.mul_dvd_of_dvd_of_dvd (show Nat.gcd 32428489 262069=1 from Odt (by kernel_rfl)) c1 d2
 rw[show 32428489*262069=8498501683741 from Odt (by kernel_rfl)] at c2
 have c3:8498501683741*402096035359507321594726366720466575392706800671181159425656785868777272553337714697862511267018014931937703598282857976535744623203249∣a:=Nat.Coprime.mul_dvd_of_dvd_of_dvd (show Nat.gcd 8498501683741 402096035359507321594726366720466575392706800671181159425656785868777272553337714697862511267018014931937703598282857976535744623203249=1 from Odt (by kernel_rfl)) c2 d3
 rw[show 8498501683741*402096035359507321594726366720466575392706800671181159425656785868777272553337714697862511267018014931937703598282857976535744623203249=3417213833528353644824999196800052619260030863795574352274180747220585946275454234589181635096475183139252053545727862789966597950563999243361674509 from Odt (by kernel_rfl)] at c3
 have c4:3417213833528353644824999196800052619260030863795574352274180747220585946275454234589181635096475183139252053545727862789966597950563999243361674509*52435875175126190479447740508185965837690552500527637822603658699938581184513∣a:=Nat.Coprime.mul_dvd_of_dvd_of_dvd (show Nat.gcd 3417213833528353644824999196800052619260030863795574352274180747220585946275454234589181635096475183139252053545727862789966597950563999243361674509 52435875175126190479447740508185965837690552500527637822603658699938581184513=1 from Odt (by kernel_rfl)) c3 d4
 rw[show 3417213833528353644824999196800052619260030863795574352274180747220585946275454234589181635096475183139252053545727862789966597950563999243361674509*52435875175126190479447740508185965837690552500527637822603658699938581184513=179184598021607201395328336867808778623227034365729160298681049842686063338121018147455353735441364525843719707164066765927216767229676667218777623574602578604133367281659313250333219842201540931831568844813240003724377679117 from Odt (by kernel_rfl)] at c4
 exact c4
def Uq (a l l':Nat):Bool:=gI (mj o1 a) fun A=>(List.range l).all fun j => !cJ.isz (cJ.fC A (mj o2 (l'*j))).2.2
theorem Qb {a l l':Nat} (ha:a<2^760) (hl:l<300) (hl':l'<300) (h:Uq a l l'=true) (j:Nat) (hj:j<l):ae (aq T1 a) (aq (aq T2 l') j)≠O2:=by
 unfold Uq at h
 rw[lN] at h
 have h1:=List.all_eq_true.1 h j (List.mem_range.2 hj)
 have hb:l'*j<2^760:=by
  have h2:l'*j<=300*300:=Nat.mul_le_mul (by omega) (by omega)
  exact Nat.lt_of_le_of_lt h2 (Odt (by kernel_rfl))
 have r1:=qA qm ha
 have r2:=qA xq hb
 have r3:=pV cd r1 r2
 have e:Cr.fC (j3 (mj o1 a)) (j3 (mj o2 (l'*j)))=j3 (cJ.fC (mj o1 a) (mj o2 (l'*j))):=(cJ.GV _ _).symm
 rw[e] at r3
 rw[bu cd (.inr tn)]
 intro h0
 have h3:=(zV r3).2 h0
 rw[h3] at h1;cases h1
theorem ac2:Uq (kN*23) 13 23=true:=by kernel_rfl
theorem ac3:Uq (kN*13) 23 13=true:=by kernel_rfl
theorem agF:cJ.isz (mj o2 23).2.2=false:=by kernel_rfl
theorem agE:cJ.isz (mj o2 13).2.2=false:=by kernel_rfl
theorem Te (a c:Nat) (h:ae (aq T1 a) (aq T2 c)=O2):kN*299∣a/\299∣c :=
 Wm cd (.inr q8) (.inr tn) (k:=kN) (l:=13) (l':=23) aam aan (Odt (by kernel_rfl)) (Odt (by kernel_rfl)) vL LO XE
  (wu xq (Odt (by kernel_rfl)) agF) (fun j hj=>Qb (Odt (by kernel_rfl)) (by decide) (by decide) ac2 j hj)
  (wu xq (Odt (by kernel_rfl)) agE) (fun j hj=>Qb (Odt (by kernel_rfl)) (by decide) (by decide) ac3 j hj) a c h
theorem ado:lD (-tb)=1+1+(1+1)+(1+1+(1+1))+(1+1+(1+1)+(1+1+(1+1)))+(1+1+(1+1)+(1+1+(1+1))+(1+1+(1+1)+(1+1+(1+1)))):=by
 rw[F2.neg_def]
 refine Zm.ext (Odt (by kernel_rfl))
theorem WD (x:F2):x*x*x+tb≠0:=fun h=>by
 have h1:x*x*x=-tb:=(neg_eq ((add_comm tb (x*x*x)).trans h)).symm
 have e:=congrArg lD h1
 rw[rA,rA] at e
 obtain⟨s,hs⟩:∃ s,s=lD x:=⟨_,rfl⟩
 rw[<- hs] at e
 have hv:(lD (-tb)).v=32:=by rw[ado];exact Odt (by kernel_rfl)
 have s0:s≠0:=fun z=>by
  rw[z,zero_mul,zero_mul] at e
  rw[<- e] at hv
  exact absurd hv (by decide)
 have hf:=tA s0
 have hq:bM-1=3*1334136518407222464472596608578634718852294273313002628444019378708010550163612621480895876376338554679298090853262:=Odt (by kernel_rfl)
 obtain⟨q,hqq⟩:∃ q,q=1334136518407222464472596608578634718852294273313002628444019378708010550163612621480895876376338554679298090853262:=⟨_,rfl⟩
 rw[hq,<- hqq,Fe] at hf
 have h3:zpow s 3=lD (-tb):=by
  rw[<- e];show 1*s*s*s=_;rw[one_mul]
 rw[h3] at hf
 have hw:=congrArg Zm.v hf
 rw[II,hv] at hw
 have h4:((32:Int)^q%Mp)=1:=hw
 have h5:(32:Nat)^q%bM=1:=by
  have h6:(((32:Nat)^q%bM:Nat):Int)=1:=by rw[Int.natCast_emod,Int.natCast_pow];exact h4
  omega
 rw[<- vi bM 32 (Odt (by kernel_rfl)) 384 q (by rw[hqq];exact Odt (by kernel_rfl)),hqq] at h5
 exact absurd h5 (Odt (by kernel_rfl))
def od (y:F2):Bool:=if y.1=0 then decide (y.2.v%2=1) else decide (y.1.v%2=1)
theorem Z6 {a:Fp} (h:a≠0):decide ((-a).v%2=1)=!decide (a.v%2=1):=by
 have h0:a.v≠0:=fun e=>h (Zm.ext e)
 have hn:=a.nn
 have hl:=a.lt
 have e:(-a).v=Mp-a.v:=by
  rw[Cn]
  have h1:(-a.v+Mp*1)%Mp=(-a.v)%Mp:=Int.add_mul_emod_self_left _ _ _
  rw[<- h1,Int.mul_one,Int.emod_eq_of_lt (by omega) (by omega)];omega
 rw[e]
 have hp:Mp%2=1:=Odt (by kernel_rfl)
 by_cases h2:a.v%2=1
 ·rw[decide_eq_true h2,decide_eq_false (by omega)];rfl
 ·rw[decide_eq_false h2,decide_eq_true (by omega)];rfl
theorem Z5 {y:F2} (h:y≠0):od (-y)=!od y:=by
 unfold od
 rw[F2.neg_def]
 by_cases h1:y.1=0
 ·have h2:y.2≠0:=fun e=>h (F2.ext h1 e)
  rw[if_pos h1,if_pos (show -y.1=0 by rw[h1];exact neg_zero),Z6 h2]
 ·rw[if_neg h1,if_neg (show ¬ -y.1=0 from fun e=>h1 (by rw[<- neg_neg y.1,e];exact neg_zero)),Z6 h1]
def EA (P:F2 × F2):Nat:=if P=O2 then 0 else 1+2*(P.1.1.v.toNat*pN+P.1.2.v.toNat)+(if od P.2=true then 1 else 0)
theorem Ej (a:Fp):a.v.toNat<pN:=by
 have h1:=a.nn
 have h2:=a.lt
 have h3:Mp=(pN:Int):=rfl
 omega
theorem X6 (P:F2 × F2):EA P<2*(pN*pN)+1:=by
 have key:∀ a c n:Nat,a<n->c<n->2*(a*n+c)+2<2*(n*n)+1:=by
  intro a c n h1 h2
  have h4:(a+1)*n<=n*n:=Nat.mul_le_mul_right n h1
  rw[Nat.add_mul,Nat.one_mul] at h4
  omega
 have h:=key _ _ pN (Ej P.1.1) (Ej P.1.2)
 obtain⟨X,hX⟩:∃ X,X=2*(P.1.1.v.toNat*pN+P.1.2.v.toNat):=⟨_,rfl⟩
 obtain⟨Y,hY⟩:∃ Y,Y=2*(pN*pN):=⟨_,rfl⟩
 unfold EA
 rw[<- hX,<- hY] at h
 rw[<- hX,<- hY]
 split
 ·omega
 ·split<;>omega
theorem Ve:∀ (X Y:Nat) (s t:Bool),1+2*X+(if s=true then 1 else 0)=1+2*Y+(if t=true then 1 else 0)->X=Y/\s=t
 | X,Y,false,false,h=>by
  have h:1+2*X+0=1+2*Y+0:=h
  exact⟨by omega,rfl⟩
 | X,Y,false,true,h=>by
  have h:1+2*X+0=1+2*Y+1:=h
  omega
 | X,Y,true,false,h=>by
  have h:1+2*X+1=1+2*Y+0:=h
  omega
 | X,Y,true,true,h=>by
  have h:1+2*X+1=1+2*Y+1:=h
  exact⟨by omega,rfl⟩
theorem Vd {P Q:F2 × F2} (oP:aV tb P) (oQ:aV tb Q) (h:EA P=EA Q):P=Q:=by
 by_cases hP:P=O2
 ·by_cases hQ:Q=O2
  ·rw[hP,hQ]
  ·exfalso
   unfold EA at h
   rw[if_pos hP,if_neg hQ] at h
   omega
 by_cases hQ:Q=O2
 ·exfalso
  unfold EA at h
  rw[if_neg hP,if_pos hQ] at h
  omega
 have hp:cY tb P:=oP.resolve_left hP
 have hq:cY tb Q:=oQ.resolve_left hQ
 unfold EA at h
 rw[if_neg hP,if_neg hQ] at h
 have hx:P.1.1.v.toNat*pN+P.1.2.v.toNat=Q.1.1.v.toNat*pN+Q.1.2.v.toNat/\(od P.2=od Q.2):=by
  exact Ve _ _ _ _ h
 obtain⟨hx,ho⟩:=hx
 have v1:=Ej P.1.1
 have v2:=Ej P.1.2
 have v3:=Ej Q.1.1
 have v4:=Ej Q.1.2
 have d1:P.1.1.v.toNat=Q.1.1.v.toNat:=by
  have e1:(P.1.1.v.toNat*pN+P.1.2.v.toNat)/pN=(Q.1.1.v.toNat*pN+Q.1.2.v.toNat)/pN:=congrArg (· / pN) hx
  rw[Nat.mul_comm,Nat.mul_add_div (by decide),Nat.div_eq_of_lt v2,Nat.mul_comm Q.1.1.v.toNat,Nat.mul_add_div (by decide),Nat.div_eq_of_lt v4] at e1
  exact e1
 have d2:P.1.2.v.toNat=Q.1.2.v.toNat:=by rw[d1] at hx;omega
 have x1:P.1=Q.1:=by
  refine F2.ext (Zm.ext ?_) (Zm.ext ?_)
  ·have:=P.1.1.nn;have:=Q.1.1.nn;omega
  ·have:=P.1.2.nn;have:=Q.1.2.nn;omega
 have hy:P.2*P.2=Q.2*Q.2:=by
  have a1:P.2*P.2=P.1*P.1*P.1+tb:=hp
  have a2:Q.2*Q.2=Q.1*Q.1*Q.1+tb:=hq
  rw[a1,a2,x1]
 rcases CQ hy with e|e
 ·exact Prod.ext x1 e
 ·by_cases h0:Q.2=0
  ·exact Prod.ext x1 (by rw[e,h0];exact neg_zero)
  ·rw[e,Z5 h0] at ho
   cases hh:od Q.2<;>rw[hh] at ho<;>cases ho
theorem NL {Q:F2 × F2} (oQ:aV tb Q):mD T1 T2 Q :=
 V4 cd (.inr q8) (.inr tn) vL LO (Odt (by kernel_rfl)) Te (Z3 cd WD) EA (2*(pN*pN)+1) (fun P _=>X6 P) (fun _ _ hP hQ h=>Vd hP hQ h) (Odt (by kernel_rfl)) oQ
end
end Cr
namespace Cr
open Rg Fd Go.Eng
theorem Pe (a b c:F2):dN a b c=e2 a+ww*(ww*(e2 b+ww*e2 c)):=by
 have h:=horner a 0 b c 0 0
 have h0:e2 0=(0:aE):=rfl
 rw[h0,mul_zero,add_zero,mul_zero,add_zero,zero_add] at h
 exact h
end Cr
namespace Cr
open Rg Fd Go.Eng
theorem agC {F:Type} [Rg F] (w i:F):w*i*(w*i)*(w*i)*(w*i*(w*i)*(w*i))=w*(w*(w*(w*(w*w))))*(i*i*i*(i*i*i)) :=
 aL [w,i] ((fun (w i:PE)=>(w*i*(w*i)*(w*i)*(w*i*(w*i)*(w*i)))) (.v 0) (.v 1)) ((fun (w i:PE)=>(w*(w*(w*(w*(w*w))))*(i*i*i*(i*i*i)))) (.v 0) (.v 1)) (by kernel_rfl)
theorem agB {F:Type} [Rg F] (w i k:F):w*i*(w*i)*k=w*(w*k)*(i*i) :=
 aL [w,i,k] ((fun (w i k:PE)=>(w*i*(w*i)*k)) (.v 0) (.v 1) (.v 2)) ((fun (w i k:PE)=>(w*(w*k)*(i*i))) (.v 0) (.v 1) (.v 2)) (by kernel_rfl)
theorem agD {F:Type} [Rg F] (b x v:F):b*x*v=b*(x*v) :=
 aL [b,x,v] ((fun (b x v:PE)=>(b*x*v)) (.v 0) (.v 1) (.v 2)) ((fun (b x v:PE)=>(b*(x*v))) (.v 0) (.v 1) (.v 2)) (by kernel_rfl)
theorem Vf (c d:F2):e2 (c+d)=e2 c+e2 d:=by rw[BZ];rfl
theorem JN (c d:F2):e2 (c*d)=e2 c*e2 d:=by
 rw[xH]
 show _=((c*d,c*(0:F2),c*(0:F2)),c*(0:F2),c*(0:F2),c*(0:F2))
 rw[mul_zero];rfl
theorem cS:Hm e2:=⟨Vf,JN,fun x=>(Gd x).symm,rfl,fun _ h=>congrArg (fun t:aE=>t.1.1) h⟩
def e0 (x:Fp):F2:=(x,(0:Fp))
theorem Fo:Hm e0:=by
 refine⟨fun x y=>?_,fun x y=>?_,fun x=>?_,rfl,fun _ h=>congrArg (fun t:F2=>t.1) h⟩
 ·rw[F2.add_def];refine F2.ext rfl ?_
  show (0:Fp)=0+0
  rw[add_zero]
 ·rw[F2.mul_def];refine F2.ext ?_ ?_
  ·show x*y=x*y-0*0
   rw[mul_zero,ql]
  ·show (0:Fp)=x*0+0*y
   rw[mul_zero,zero_mul,add_zero]
 ·rw[F2.neg_def];exact F2.ext rfl gu.symm
theorem Hm.comp {F G E:Type} [Fd F] [Fd G] [Fd E] {f:F->G} {g:G->E} (H:Hm f) (K:Hm g):Hm (fun x=>g (f x)) :=
 ⟨fun x y=>by rw[H.add,K.add],fun x y=>by rw[H.mul,K.mul],fun x=>by rw[H.neg,K.neg],by rw[H.one,K.one],fun x h=>H.inj _ (K.inj _ h)⟩
def e1 (x:Fp):aE:=e2 (e0 x)
theorem qj:Hm e1:=Fo.comp cS
theorem yz {F:Type} [Fd F] {x:F} (hx:x≠0):∀ n,az x n≠0
 | 0=>one_ne
 | n+1=>dG (yz hx n) hx
theorem CH {F:Type} [Rg F] {n:Nat} (h:0<n):az (0:F) n=0:=by
 obtain⟨m,rfl⟩:∃ m,n=m+1:=⟨n-1,by omega⟩
 exact mul_zero _
noncomputable def gJ (p:Nat) (x:aE):aE:=az x p
theorem yc {p:Nat} (hp:p=bM):Hm (gJ p):=by
 have ha:∀ x y:aE,gJ p (x+y)=gJ p x+gJ p y:=fun x y=>zS (FA hp) (G8 hp) x y
 refine⟨ha,fun x y=>jQ x y p,fun x=>?_,fY p,fun x h=>?_⟩
 ·have h0:gJ p (-x)+gJ p x=0:=by
   rw[<- ha,Rg.neg_add]
   have hz:0<p:=by rw[hp];exact Odt (by kernel_rfl)
   exact CH hz
  rw[add_comm] at h0
  exact (neg_eq h0).symm
 ·by_cases hx:x=0
  ·exact hx
  ·exact absurd h (yz hx p)
theorem x9 {p:Nat} (hp:p=bM) (x:Fp):gJ p (e1 x)=e1 x:=by
 show az (e2 (e0 x)) p=e2 (e0 x)
 rw[mP,wH hp]
 show e2 (x,-(0:Fp))=e2 (x,0)
 rw[gu]
theorem DF {p:Nat} (hp:p=bM) (P:Fp × Fp):cD (gJ p) (cD e1 P)=cD e1 P:=Prod.ext (x9 hp P.1) (x9 hp P.2)
noncomputable def wi:aE:=inv ww
theorem adx:ww≠0:=fun h=>absurd (congrArg (fun t:aE=>t.2.1) h) one_ne
theorem z9:ww*wi=1:=mul_inv ww adx
theorem FM:wi≠0:=fun h=>by
 have e:=z9
 rw[h,mul_zero] at e
 exact one_ne e.symm
theorem abp:e2 xi*(wi*wi*wi*(wi*wi*wi))=1:=by
 rw[<- QE,<- agC,z9];simp only[mul_one]
noncomputable def k2:aE:=(((0:F2),(0:F2),inv xi),(0:F2),(0:F2),(0:F2))
theorem abq:wi*wi=k2:=by
 have h1:ww*(ww*k2)=1:=by
  rw[tf,tf]
  show ((xi*inv xi,(0:F2),(0:F2)),xi*(0:F2),(0:F2),(0:F2))=_
  rw[mul_zero,mul_inv xi NA];rfl
 have h2:ww*wi*(ww*wi)*k2=ww*(ww*k2)*(wi*wi):=agB _ _ _
 rw[z9,h1,mul_one,one_mul,one_mul] at h2
 exact h2.symm
theorem Ly (a c:F2):(e2 a-e2 c*(wi*wi)).2=0/\(e2 a-e2 c*(wi*wi)).1.2.2=-(c*inv xi):=by
 rw[abq,xH,aE.sub_def]
 refine⟨?_,?_⟩
 ·show (0:F6)-(c*(0:F2),c*(0:F2),c*(0:F2))=0
  rw[mul_zero];exact sub_self (0:F6)
 ·show ((e6 a)-(c*(0:F2),c*(0:F2),c*inv xi):F6).2.2=_
  rw[F6.sub_def]
  show (0:F2)-c*inv xi=_
  rw[Rg.sub_def,zero_add]
theorem abn {c:F2} (a:F2) (hc:c≠0):e2 a-e2 c*(wi*wi)≠0:=fun h=>by
 have h1:=(Ly a c).2
 rw[h] at h1
 have h2:(0:F2)=-(c*inv xi):=h1
 have h3:c*inv xi=0:=by rw[<- neg_neg (c*inv xi),<- h2,gu]
 have h4:inv xi≠0:=fun e=>by
  have:=mul_inv xi NA
  rw[e,mul_zero] at this
  exact one_ne this.symm
 exact (mul_eq_zero h3).elim hc h4
theorem J7 (c:F2):(e2 c*(ww*(ww*ww))).1=0/\(e2 c*(ww*(ww*ww))).2.2.1=c:=by
 rw[tf ww,tf,xH]
 refine⟨?_,?_⟩
 ·show (c*(xi*(0:F2)),c*(0:F2),c*(0:F2))=(0:F6)
  rw[mul_zero,mul_zero];rfl
 ·show c*(1:F2)=c
  exact mul_one c
structure qa (N p u r:Nat):Prop where
 pp:p=bM
 six:∀ x:aE,x≠0->x.2=0->az x N=1
 odd:∀ x:aE,x≠0->x.1=0->az x N=1
 ord:∀ x:aE,x≠0->az (az x N) r=1
 np:∃ s,u+p=r*s
 pos:0<N
section
variable {N p u r:Nat} (L:qa N p u r)
include L
theorem qa.up {x:aE} (hx:x≠0):az (az x N) u*az (az x N) p=1:=by
 obtain⟨s,hs⟩:=L.np
 rw[<- dZ,hs,bz,L.ord x hx,fY]
theorem qa.neg:az (-1:aE) N=1:=by
 refine L.six _ ?_ ?_
 ·intro h
  have h1:(1:aE)=0:=by rw[<- neg_neg (1:aE),h,gu]
  exact one_ne h1
 ·rw[aE.neg_def];exact gu (F:=F6)
noncomputable def dy:Kill aE:=⟨fun x=>az x N,fun x y=>jQ x y N,fY N,L.neg⟩
theorem GX {x y:aE} (h:(dy L).χ x*y=1):x≠0:=by
 rintro rfl
 have h1:az (0:aE) N*y=1:=h
 rw[CH L.pos,zero_mul] at h1
 exact one_ne h1.symm
theorem O4 {x:aE} (hx:x≠0):az ((dy L).χ x) u*az ((dy L).χ x) p=1:=L.up hx
theorem Ku (x:aE):(dy L).χ (gJ p x)=az ((dy L).χ x) p:=by
 show az (az x p) N=az (az x N) p
 rw[<- bz,<- bz,Nat.mul_comm]
theorem Wt {c:F2} (hc:c≠0):(dy L).χ (e2 c*(ww*(ww*ww)))=1:=by
 refine L.odd _ ?_ (J7 c).1
 intro h
 have h1:=(J7 c).2
 rw[h] at h1
 exact hc h1.symm
variable {b1:Fp} {b2:F2} (hb1:b1≠0) (hb2:b2≠0) (hns:∀ y:F2,y*y=b2->False) (he:b2=e0 b1*xi)
omit L in
theorem nG (he:b2=e0 b1*xi):e1 b1=e2 b2*(wi*wi*wi*(wi*wi*wi)):=by
 rw[he,JN,agD,abp,mul_one];rfl
omit L in
theorem qd (hb1:b1≠0):e1 b1≠0:=fun h=>hb1 (qj.inj _ h)
def TT (b1:Fp) (R:aE × aE):Prop:=∃ P,aV b1 P/\R=cD e1 P
def SS (b2:F2) (A:aE × aE):Prop:=∃ Q,aV b2 Q/\A=cc e2 wi Q
include hb1 hb2 hns he
theorem CX:NI (e1 b1) (dy L) (SS b2) (TT b1) where
 onS:=by
  rintro _ ⟨Q,o,rfl⟩
  exact rM cS (nG he) o
 addS:=by
  rintro _ _ ⟨Q,o,rfl⟩ ⟨Q',o',rfl⟩
  exact⟨ae Q Q',dP hb2 o o',(p7 cS (nG he) hb2 (qd hb1) o o').symm⟩
 onT:=by
  rintro _ ⟨P,o,rfl⟩
  exact Wb qj rfl o
 pf:=by
  rintro _ _ ⟨P,o,rfl⟩ ⟨P',o',rfl⟩
  exact⟨ae P P',dP hb1 o o',(Kj qj rfl hb1 (qd hb1) o o').symm⟩
 vt:=by
  rintro _ _ ⟨Q,o,rfl⟩ ⟨P,o',rfl⟩ nA nR
  have oQ:cY b2 Q:=o.resolve_left (fun e=>nA (by rw[e];exact rj cS))
  have hq:Q.1≠0:=fun e=>by
   have h:Q.2*Q.2=Q.1*Q.1*Q.1+b2:=oQ
   rw[e,mul_zero,zero_add] at h
   exact hns _ h
  show (dy L).χ (e2 (e0 P.1)-e2 Q.1*(wi*wi))=1
  exact L.six _ (abn _ hq) (Ly _ _).1
theorem TC {P:Fp × Fp} (oP:aV b1 P) (nP:P≠O2):Grp (e1 b1) (dy L) (cD e1 P) (SS b2) where
 on:=(CX L hb1 hb2 hns he).onS
 add:=(CX L hb1 hb2 hns he).addS
 vt:=by
  intro A sA
  have g:=CX L hb1 hb2 hns he
  by_cases h:A=O2
  ·rw[h,ue,(dy L).one]
  ·have oA:=(g.onS A sA).resolve_left h
   rw[qc oA (qd hb1)]
   refine g.vt A (cD e1 P) sA ⟨P,oP,rfl⟩ h ?_
   rw[<- kX]
   exact ta qj one_ne nP
end
end Cr
namespace Cr
noncomputable section
open Rg Fd Go.Eng
theorem agm {F:Type} [Rg F] (x r z:F):x*(z*z)*(r*r)=x*(r*r)*(z*z) :=
 aL [x,r,z] ((fun (x r z:PE)=>(x*(z*z)*(r*r))) (.v 0) (.v 1) (.v 2)) ((fun (x r z:PE)=>(x*(r*r)*(z*z))) (.v 0) (.v 1) (.v 2)) (by kernel_rfl)
theorem agn {F:Type} [Rg F] (y r z:F):y*(z*(z*z))*(r*r*r)=y*(r*r*r)*(z*(z*z)) :=
 aL [y,r,z] ((fun (y r z:PE)=>(y*(z*(z*z))*(r*r*r))) (.v 0) (.v 1) (.v 2)) ((fun (y r z:PE)=>(y*(r*r*r)*(z*(z*z)))) (.v 0) (.v 1) (.v 2)) (by kernel_rfl)
theorem agl {F:Type} [Rg F] (y z:F) : -(y*z)=-y*z :=
 aL [y,z] ((fun (y z:PE)=>(-(y*z))) (.v 0) (.v 1)) ((fun (y z:PE)=>(-y*z)) (.v 0) (.v 1)) (by kernel_rfl)
theorem nO:Hm dw:=by
 refine⟨fun x y=>?_,fun x y=>?_,fun x=>?_,F2.ext rfl gu,fun x h=>?_⟩
 ·show (_,_)=(_:F2)
  rw[F2.add_def,F2.add_def]
  exact F2.ext rfl (jN _ _)
 ·show (_,_)=(_:F2)
  rw[F2.mul_def,F2.mul_def]
  refine F2.ext ?_ ?_
  ·show x.1*y.1-x.2*y.2=x.1*y.1 - -x.2 * -y.2
   rw[neg_mul,mul_neg,neg_neg]
  ·show -(x.1*y.2+x.2*y.1)=x.1 * -y.2 + -x.2*y.1
   rw[jN,mul_neg,neg_mul]
 ·show (_,_)=(_:F2)
  rw[F2.neg_def,F2.neg_def];rfl
 ·have h1:x.1=0:=congrArg Prod.fst h
  have h2 : -x.2=0:=congrArg Prod.snd h
  exact F2.ext h1 (by rw[<- neg_neg x.2,h2];exact gu)
def ir:F2:=q2 qz
def tU (P:F2 × F2):F2 × F2:=cc dw ir P
theorem tbc:cJ.isz (fF (aS (qO (4,4)) (aS (aS (aS qz qz) qz) (aS (aS qz qz) qz))) (4,4))=true:=by kernel_rfl
theorem Ip:tb=dw tb*(ir*ir*ir*(ir*ir*ir)):=by
 have h1:q2 (fF (aS (qO (4,4)) (aS (aS (aS qz qz) qz) (aS (aS qz qz) qz))) (4,4))=0:=(cJ.isz_φ _).1 tbc
 simp only[mJ,km,CI] at h1
 exact (bq h1).symm
structure Ad (f:F2 × F2->F2 × F2):Prop where
 on:∀ P,aV tb P->aV tb (f P)
 add:∀ P Q,aV tb P->aV tb Q->f (ae P Q)=ae (f P) (f Q)
theorem LP:Ad fun P=>P:=⟨fun _ h=>h,fun _ _ _ _=>rfl⟩
theorem rS (n:Nat):Ad fun P=>aq P n:=⟨fun _ h=>a7 cd h n,fun _ _ h k=>kD cd h k n⟩
theorem NJ:Ad aX:=⟨fun _ h=>cP h,fun _ _ h k=>sE cd h k⟩
theorem uF:Ad tU:=⟨fun _ h=>rM nO Ip h,fun _ _ h k=>p7 nO Ip cd cd h k⟩
theorem Ad.comp {f g:F2 × F2->F2 × F2} (hf:Ad f) (hg:Ad g):Ad fun P=>f (g P):=⟨fun P h=>hf.on _ (hg.on P h),fun P Q h k=>by rw[hg.add P Q h k,hf.add _ _ (hg.on P h) (hg.on Q k)]⟩
theorem Ad.sum {f g:F2 × F2->F2 × F2} (hf:Ad f) (hg:Ad g):Ad fun P=>ae (f P) (g P):=⟨fun P h=>dP cd (hf.on P h) (hg.on P h),fun P Q h k=>by
 show ae (f (ae P Q)) (g (ae P Q))=_
 rw[hf.add P Q h k,hg.add P Q h k]
 exact FR cd (hf.on P h) (hf.on Q k) (hg.on P h) (hg.on Q k)⟩
theorem Ad.zero {f:F2 × F2->F2 × F2} (hf:Ad f):f O2=O2:=by
 have oO:aV tb (O2:F2 × F2):=.inl rfl
 have h:=hf.add O2 O2 oO oO
 rw[ct] at h
 have c:=cancel cd (hf.on _ oO) (hf.on _ oO)
 rw[<- h,eZ] at c
 exact c.symm
theorem Ad.aq {f:F2 × F2->F2 × F2} (hf:Ad f) {P:F2 × F2} (oP:aV tb P):∀ n,f (aq P n)=aq (f P) n
 | 0=>hf.zero
 | n+1=>by
  show f (ae (Cr.aq P n) P)=ae (Cr.aq (f P) n) (f P)
  rw[hf.add _ _ (a7 cd oP n) oP,hf.aq oP n]
theorem Ad.eq {f g:F2 × F2->F2 × F2} (hf:Ad f) (hg:Ad g) (h1:f T1=g T1) (h2:f T2=g T2) {P:F2 × F2} (oP:aV tb P):f P=g P:=by
 have oa:aV tb T1:=.inr q8
 have ob:aV tb T2:=.inr tn
 obtain⟨a,c,rfl⟩:=NL oP
 rw[hf.add _ _ (a7 cd oa a) (a7 cd ob c),hg.add _ _ (a7 cd oa a) (a7 cd ob c),hf.aq oa,hf.aq ob,hg.aq oa,hg.aq ob,h1,h2]
def uN:Nat:=15132376222941642752
def Tu (P:F2 × F2):F2 × F2:=pS [aq (aq P uN) uN,aq P uN,aX P,aX (tU (ae (aq P uN) P)),tU (tU (ae P P))]
def LW (P:F2 × F2):F2 × F2:=ae (aq (aq P uN) uN) (ae (aq P uN) (ae (aX P) (ae (aX (tU (ae (aq P uN) P))) (tU (tU (ae P P))))))
theorem X3 (P:F2 × F2):Tu P=LW P:=by
 simp only[Tu,LW,pS,dD]
theorem FQ:Ad LW:=((rS uN).comp (rS uN)).sum ((rS uN).sum (NJ.sum ((NJ.comp (uF.comp ((rS uN).sum LP))).sum (uF.comp (uF.comp (LP.sum LP))))))
def p6 (a:J3):J3:=cT (aS qz qz) fun r2=>cT (aS r2 qz) fun r3=>cT (aS (qO a.1) r2) fun x=>cT (aS (qO a.2.1) r3) fun y=>cT (qO a.2.2) fun z=>(x,y,z)
theorem Bz {a:J3} {P:F2 × F2} (h:du tb (j3 a) P):du tb (j3 (p6 a)) (tU P):=by
 have e:j3 (p6 a)=(dw (q2 a.1)*(ir*ir),dw (q2 a.2.1)*(ir*ir*ir),dw (q2 a.2.2)):=by
  have e1:j3 (p6 a)=(q2 (p6 a).1,q2 (p6 a).2.1,q2 (p6 a).2.2):=rfl
  rw[e1]
  simp only[p6,lM,km,CI];rfl
 rw[e]
 rcases h with ⟨h1,rfl⟩|⟨h1,h2,h3,h4⟩
 ·refine .inl ⟨?_,rj nO⟩
  show dw (q2 a.2.2)=0
  have h1:q2 a.2.2=0:=h1
  rw[h1,nO.zero]
 ·have h1:q2 a.2.2≠0:=h1
  have h2:q2 a.1=P.1*(q2 a.2.2*q2 a.2.2):=h2
  have h3:q2 a.2.1=P.2*(q2 a.2.2*(q2 a.2.2*q2 a.2.2)):=h3
  refine .inr ⟨fun z=>h1 (nO.inj _ z),?_,?_,qL nO Ip h4⟩
  ·show dw (q2 a.1)*(ir*ir)=dw P.1*(ir*ir)*(dw (q2 a.2.2)*dw (q2 a.2.2))
   rw[h2,nO.mul,nO.mul];exact agm _ _ _
  ·show dw (q2 a.2.1)*(ir*ir*ir)=dw P.2*(ir*ir*ir)*(dw (q2 a.2.2)*(dw (q2 a.2.2)*dw (q2 a.2.2)))
   rw[h3,nO.mul,nO.mul,nO.mul];exact agn _ _ _
def pK (a:J3):J3:=cT (Iy a.2.1) fun y=>(a.1,y,a.2.2)
theorem A7 {a:J3} {P:F2 × F2} (h:du tb (j3 a) P):du tb (j3 (pK a)) (aX P):=by
 have e:j3 (pK a)=(q2 a.1,-q2 a.2.1,q2 a.2.2):=by
  have e1:j3 (pK a)=(q2 (pK a).1,q2 (pK a).2.1,q2 (pK a).2.2):=rfl
  rw[e1]
  simp only[pK,lM,HI]
 rw[e]
 rcases h with ⟨h1,rfl⟩|⟨h1,h2,h3,h4⟩
 ·exact .inl ⟨h1,iC⟩
 ·have h3:q2 a.2.1=P.2*(q2 a.2.2*(q2 a.2.2*q2 a.2.2)):=h3
  refine .inr ⟨h1,h2,?_,pP h4⟩
  show -q2 a.2.1=-P.2*(q2 a.2.2*(q2 a.2.2*q2 a.2.2))
  rw[h3];exact agl _ _
def mB (a c:J3):J3:=cJ.fC a c
theorem mX {a c:J3} {P Q:F2 × F2} (h:du tb (j3 a) P) (k:du tb (j3 c) Q):du tb (j3 (mB a c)) (ae P Q):=by
 have e:j3 (mB a c)=Cr.fC (j3 a) (j3 c):=cJ.GV a c
 rw[e];exact pV cd h k
theorem UI:uN<2^760:=Odt (by kernel_rfl)
theorem aca:hN<2^760:=Odt (by kernel_rfl)
def NW (o:J3):J3:=gI (mj o uN) fun A=>gI (mj A uN) fun B=>gI (pK (p6 (mB A o))) fun D=>gI (p6 (p6 (mB o o))) fun E=>gI (pK o) fun C =>
 gI (mB D E) fun X=>gI (mB C X) fun Y=>gI (mB A Y) fun Z=>gI (mB B Z) fun W=>gI (mj o hN) fun H=>mB W (pK H)
theorem JI {o:J3} {P:F2 × F2} (h:du tb (j3 o) P):du tb (j3 (NW o)) (ae (LW P) (aX (aq P hN))):=by
 have hA:=qA h UI
 have e:NW o=mB (mB (mj (mj o uN) uN) (mB (mj o uN) (mB (pK o) (mB (pK (p6 (mB (mj o uN) o))) (p6 (p6 (mB o o))))))) (pK (mj o hN)):=by
  unfold NW;simp only[lN]
 rw[e]
 exact mX (mX (qA hA UI) (mX hA (mX (A7 h) (mX (A7 (Bz (mX hA h))) (Bz (Bz (mX h h))))))) (A7 (qA h aca))
theorem aeB:cJ.isz (NW o1).2.2=true:=by kernel_rfl
theorem aeC:cJ.isz (NW o2).2.2=true:=by kernel_rfl
theorem ED {P Q:F2 × F2} (oP:aV tb P) (oQ:aV tb Q) (h:ae P (aX Q)=O2):P=Q:=by
 have c:=zi cd oP (cP oQ)
 rw[h,ct,cR] at c
 exact c.symm
theorem abA {P:F2 × F2} (oP:aV tb P):Tu P=aq P hN:=by
 rw[X3]
 have oa:aV tb T1:=.inr q8
 have ob:aV tb T2:=.inr tn
 refine FQ.eq (rS hN) ?_ ?_ oP
 ·exact ED (FQ.on _ oa) (a7 cd oa hN) ((zV (JI qm)).1 aeB)
 ·exact ED (FQ.on _ ob) (a7 cd ob hN) ((zV (JI xq)).1 aeC)
def rQ:Nat:=52435875175126190479447740508185965837690552500527637822603658699938581184513
theorem G9 {P:F2 × F2} (oP:aV tb P) {m n:Nat} (h:aq P m=O2) (hd:n%m=0):aq P n=O2:=by
 obtain⟨s,rfl⟩:=Nat.dvd_of_mod_eq_zero hd
 rw[<- bu cd oP,h,fV]
theorem h_r {P:F2 × F2} (oP:aV tb P):aq (aq P hN) rQ=O2:=by
 have oa:aV tb T1:=.inr q8
 have ob:aV tb T2:=.inr tn
 have z:Ad fun _=>(O2:F2 × F2):=⟨fun _ _=>.inl rfl,fun _ _ _ _=>(ct _).symm⟩
 refine ((rS rQ).comp (rS hN)).eq z ?_ ?_ oP
 ·show aq (aq T1 hN) rQ=O2
  rw[bu cd oa];exact G9 oa vL (Odt (by kernel_rfl))
 ·show aq (aq T2 hN) rQ=O2
  rw[bu cd ob];exact G9 ob LO (Odt (by kernel_rfl))
end
end Cr
namespace Go.Proofs.YtbeeaekepmnfhaaGreatDoor.g2
open Go Go.Eng Go.RowKit Cr fp2 Rg Fd
def kR:Nat:=kN/rQ
theorem ZJ:kN=rQ*kR:=Odt (by kernel_rfl)
theorem aaD:0<rQ:=Odt (by kernel_rfl)
theorem afR:Nat.Coprime 299 rQ:=by
 show Nat.gcd 299 rQ=1
 exact Odt (by kernel_rfl)
noncomputable def R1:F2 × F2:=aq T1 (kR*299)
theorem agr {Q:F2 × F2} (oQ:aV tb Q) (h:aq Q rQ=O2):∃ s,Q=aq R1 s:=by
 obtain⟨a,c,rfl⟩:=NL oQ
 have oa:aV tb T1:=.inr q8
 have ob:aV tb T2:=.inr tn
 rw[kD cd (a7 cd oa a) (a7 cd ob c),bu cd oa,bu cd ob] at h
 obtain⟨⟨m,h1⟩,h2⟩:=Te (a*rQ) (c*rQ) h
 have h3:a=kR*299*m:=by
  refine Nat.eq_of_mul_eq_mul_right aaD ?_
  rw[h1,ZJ];ac_rfl
 obtain⟨n,h4⟩:=Nat.Coprime.dvd_of_dvd_mul_right afR h2
 have h5:aq T2 c=O2:=by
  rw[h4,<- bu cd ob,LO,fV]
 exact⟨m,by rw[h5,dD,h3,R1,bu cd oa]⟩
theorem acW:rN=rQ:=rfl
theorem FG:Sub R1:=by
 have oa:aV tb T1:=.inr q8
 refine⟨a7 cd oa _,?_⟩
 rw[acW,R1,bu cd oa]
 have e:kR*299*rQ=kN*299:=by rw[ZJ];ac_rfl
 rw[e];exact vL
theorem Qt {Q:F2 × F2} (hQ:Sub Q):∃ s:Fr,Q=a6 R1 s:=by
 obtain⟨s,hs⟩:=agr hQ.1 hQ.2
 exact⟨zm (s:Int),by rw[qB FG (x:=(zm (s:Int):Fr)) (m:=s) rfl];exact hs⟩
theorem Tv {Q:F2 × F2} (hQ:Sub Q):∃ c:Fr,Q=a6 gG c:=by
 obtain⟨t,ht⟩:=Qt lG
 obtain⟨s,hs⟩:=Qt hQ
 have h0:t≠0:=fun e=>by
  rw[e,mul_zero FG] at ht
  exact v7 ht
 refine⟨Fd.inv t*s,?_⟩
 have h1:a6 gG (Fd.inv t)=R1:=by
  rw[ht,<- pJ FG,Fd.mul_inv _ h0,mul_one FG]
 rw[pJ lG,h1,hs]
end Go.Proofs.YtbeeaekepmnfhaaGreatDoor.g2
namespace Go.Proofs.YtbeeaekepmnfhaaGreatDoor.part
open Go Go.Eng Go.RowKit Cr poly
theorem KF {h:F2 × F2} (hs:g2.Sub h) (ws:List Fr) (xs:List Int) (p:List Fr):∀ j,j<=xs.length->As ws (xs.map fun x=>g2.a6 h (pat p x)) j=g2.a6 h (KD ws (xs.map (pat p)) j)
 | 0,_=>by show (0,0)=g2.a6 h 0;rw[g2.mul_zero hs]
 | j+1,hj=>by
  have hj:j<xs.length:=hj
  rw[As,KD,KF hs ws xs p j (by omega),getD_map _ hj,getD_map _ hj,<- g2.pJ hs,g2.pE (g2.gQ hs _).1 (g2.gQ hs _).1,g2.mul_add hs]
theorem SH {h:F2 × F2} (hs:g2.Sub h) {xs:List Int} (h0:im [] xs=0) {p:List Fr} (hp:p.length<=xs.length):kO xs (xs.map fun x=>g2.a6 h (pat p x))=(g2.a6 h (pat p 0),0):=by
 have hm:=ZV h0 hp
 rw[R8,if_pos (by simp),if_pos h0] at hm
 rw[kO,if_pos (by simp),if_pos h0,KF hs _ _ _ _ (Nat.le_refl _),(Prod.mk.inj hm).1]
theorem PB:∀ (xs seen:List Int),(∀ x∈xs,dm x=true)->xs.Nodup->(∀ x∈xs,x∉seen)->im seen xs=0
 | [],_,_,_,_=>rfl
 | x::xs,seen,h1,h2,h3=>by
  obtain⟨h4,h5⟩:=List.nodup_cons.1 h2
  have hx:=h1 x (List.mem_cons_self ..)
  simp[dm] at hx
  rw[im,if_neg (by omega),if_neg (h3 x (List.mem_cons_self ..))]
  refine PB xs (x::seen) (fun y hy=>h1 y (List.mem_cons_of_mem _ hy)) h5 fun y hy hm=>?_
  rcases List.mem_cons.1 hm with rfl|hm
  ·exact h4 hy
  ·exact h3 y (List.mem_cons_of_mem _ hy) hm
theorem tm.zero {l:List Int} (h:tm l 0):(∀ x∈l,dm x=true)/\l.Nodup:=by
 rcases h with ⟨_,h⟩|⟨v,_,_,h⟩
 ·refine⟨fun x hx=>?_,List.nodup_iff_count.2 fun v=>?_⟩
  ·cases hm:dm x with
   | true=>rfl
   | false=>exact absurd ⟨hx,.inl hm⟩ (h x)
  ·refine Nat.le_of_lt_succ (Nat.lt_of_not_le fun hc=>?_)
   exact h v ⟨List.count_pos_iff.1 (by omega),.inr hc⟩
 ·exact absurd h.symm (acq v)
noncomputable def kE (h:F2 × F2) (p:List Fr) (x:Int):PT:=(x,g2.a6 h (pat p x))
theorem ZI {h:F2 × F2} (hs:g2.Sub h) (p:List Fr) (xs:List Int) {e:Int} (he:tm xs e) :
  jn p.length (eO (xs.map (kE h p)))=if e=0 then (if p.length=0\/xs.length<p.length then (z2,32,()) else (g2.a6 h (pat p 0),0,())) else (z2,e,()):=by
 have hpm:(eO (xs.map (kE h p))).Perm (xs.map (kE h p)):=yU zP ck _
 have hup:((eO (xs.map (kE h p))).map ck).Pairwise (· <= ·):=Xh zP ck _
 have hmem:∀ y∈eO (xs.map (kE h p)),y=kE h p (ck y):=by
  intro y hy
  obtain⟨x,_,rfl⟩:=List.mem_map.1 (hpm.mem_iff.1 hy)
  rfl
 generalize eO (xs.map (kE h p))=ss at *
 have hk:(ss.map ck).Perm xs:=by
  have:=hpm.map ck
  rw[List.map_map] at this
  have e:(ck∘kE h p)=id:=by funext x;rfl
  rwa [e,List.map_id] at this
 have hss:ss=(ss.map ck).map (kE h p):=by
  rw[List.map_map]
  conv=>lhs;rw[<- List.map_id ss]
  exact List.map_congr_left fun y hy=>hmem y hy
 have hA:tm xs (o9 none (ss.map ck)):=(aaP hup).perm hk
 have hee:=hA.same he
 have hl:ss.length=xs.length:=by have:=hk.length_eq;rwa [List.length_map] at this
 rw[jn,hee,hl]
 by_cases h0:e=0
 ·rw[if_pos h0,if_pos h0]
  by_cases hc:p.length=0\/xs.length<p.length
  ·rw[if_pos hc,if_pos hc]
  ·rw[if_neg hc,if_neg hc]
   subst h0
   obtain⟨z1,z3⟩:=he.zero
   have hks:((ss.take p.length).map ck)=(ss.map ck).take p.length:=List.map_take ..
   have hsd:(ss.take p.length).map Prod.snd=((ss.map ck).take p.length).map fun x=>g2.a6 h (pat p x):=by
    rw[<- List.map_take,List.map_map]
    exact List.map_congr_left fun y hy=>by rw[hmem y (List.mem_of_mem_take hy)];rfl
   have hpl:im [] ((ss.map ck).take p.length)=0:=by
    refine PB _ _ (fun x hx=>z1 x (hk.mem_iff.1 (List.mem_of_mem_take hx))) ?_ (fun x _ hx=>by cases hx)
    exact List.Nodup.sublist (List.take_sublist ..) (hk.nodup_iff.2 z3)
   rw[hks,hsd,SH hs hpl (by rw[List.length_take,List.length_map];omega)]
 ·rw[if_neg h0,if_neg h0]
noncomputable def k8 (m:Nat) (ps:List PT):((Fp × Fp) × (Fp × Fp)) × Int × Unit:=cr (jn m (eO ps))
theorem VY:aB Tryz.prog 17 [.sl bo,.sl bp] [.val ba,.val iK] aM zK (fun (c,ps,_)=>k8 (List.length c) ps):=VL.out fun (c,ps,_)=>by show k8 _ _=jn _ _;rw[k8,ay]
noncomputable def aaW:Nat × Eng.Spec:=(17,ar [.sl bo,.sl bp] [.val ba,.val iK] zK (fun (c,ps,_)=>k8 (List.length c) ps))
theorem Wq {h:F2 × F2} (hs:g2.Sub h) (p:List Fr) (xs:List Int) {e:Int} (he:tm xs e) :
  k8 p.length (xs.map (kE h p))=if e=0 then (if p.length=0\/xs.length<p.length then (z2,32,()) else (g2.a6 h (pat p 0),0,())) else (z2,e,()):=by rw[k8,ay,ZI hs p xs he]
end Go.Proofs.YtbeeaekepmnfhaaGreatDoor.part
open Go.IntKind(i64 u8 u32)
namespace Go.Proofs.YtbeeaekepmnfhaaGreatDoor.xmd
noncomputable section
open Go Go.Eng Go.RowKit Cr sha
theorem Oc:enters Tryz.prog 190 Tryz.f190:=ek
def sB (d:List Int) (i j:Nat) (w:List Int):List Int:=w.set i (av .or .u32 (u32.wrap (w.getD i 0*2^min (8:Nat) u32.bits)) (u32.wrap (d.getD (4*i+j) 0)))
def HU (d:List Int) (i:Nat) (w:List Int) (j:Nat):List Int:=it (fun j w=>sB d i j w) w j
def HT (d:List Int) (i:Nat):List Int:=it (fun i w=>HU d i w 4) (List.replicate 8 0) i
def xj (d:List Int):List Int:=cr (HT d 8)
def Av (d:List Int) (g:Int × List Int):St:=aY Tryz.f190.ntmps 32 [(1,.is (.one (.ptr 0 0))),(2,.is (.one (.ptr 8 0))),(3,.is (.one (.ptr 16 0))),(6,sI .i64 g.1)] [(16,[.ints .u32 8 g.2]),(8,[.ints .u32 8 (List.replicate 8 0)]),(0,[.ints .u8 32 d])]
def Ur (d:List Int) (i:Nat) (g:Int × List Int):St:=aY Tryz.f190.ntmps 32 [(1,.is (.one (.ptr 0 0))),(2,.is (.one (.ptr 8 0))),(3,.is (.one (.ptr 16 0))),(4,sI .i64 i),(6,sI .i64 i),(9,sI .i64 g.1)] [(16,[.ints .u32 8 g.2]),(8,[.ints .u32 8 (List.replicate 8 0)]),(0,[.ints .u8 32 d])]
theorem RL:aB Tryz.prog 190 [.arr 32 bK] [.val (.arr 8 uK)] aM (fun _=>True) (fun (d,_)=>(xj d,())):=by
 have hsp:aN Tryz.prog (aF []):=aR
 refine bh (sp:=aF []) Oc (by decide) (by decide) (by kernel_rfl) ?_
 rintro w M0 ⟨d,⟨⟩⟩
 revert d
 intro (d:List Int) hw _
 have hd:d.length=32:=hw.1.1
 show Tr _ _ _ _ _ _ _
 refine aP hsp mixed 3 (Av d (0,List.replicate 8 0)) True ?_ (fun _=>?_)
 ·refine ao (X:=((Av d ((0:Int),List.replicate (8:Nat) (0:Int))).ah True)) (by kernel_rfl) ?_
  exact aA trivial
 refine fh dA (fun σ=>(bU (.int .i64) 6 σ,cN uK 16 σ)) (Av d) (fun g=>∃ k:Nat,k<=8/\g.1=(k:Int)/\g.2=HT d k) (fun g=>8-g.1.toNat)
  (fun σ=>(bU (.int .i64) 6 σ,cN uK 16 σ)) (Av d) (fun g=>g.2=HT d 8) (0,List.replicate 8 0) (c:=aI (aJ Tryz.f190) 3) (by kernel_rfl) (by kernel_rfl) (aC (by kernel_rfl) (by kernel_rfl) ?_) ?_ ?_
 ·exact⟨0,by decide,rfl,rfl⟩
 ·rintro⟨i,wl⟩ hj
  revert i wl
  intro (i:Int) (wl:List Int) ⟨k,hk,ei,ew⟩
  have ei:i=(k:Int):=ei
  have kw:wl=HT d k:=ew
  subst ei
  refine aP hsp mixed 2 (Av d ((k:Int),wl)) (k<8) ?_ (fun hlt=>?_)
  ·refine ao (X:=((decide ((k:Int)<(8:Int))=true->(Av d ((k:Int),wl)).ah (k<(8:Nat)))/\(decide ((k:Int)<(8:Int))=false->(Av d ((k:Int),wl)).ah (wl=HT d (8:Nat))))) (by kernel_rfl) ?_
   refine⟨fun h=>aA (by have:=Odt h;omega),fun h=>aA ?_⟩
   have:k=8:=by have:=Odf h;omega
   rw[kw,this]
  refine eG (c:=aI (bQ (aI (aJ Tryz.f190) 3)) 2) (by kernel_rfl) (by kernel_rfl) ?_
  refine aP hsp mixed 2 (Ur d k (0,wl)) True ?_ (fun _=>?_)
  ·refine ao (X:=((Ur d k ((0:Int),wl)).ah True)) (by kernel_rfl) ?_
   exact aA trivial
  refine bO hsp mixed dA (fun σ=>(bU (.int .i64) 9 σ,cN uK 16 σ)) (Ur d k) (fun g=>∃ j:Nat,j<=4/\g.1=(j:Int)/\g.2=HU d k wl j) (fun g=>4-g.1.toNat)
   (fun σ=>cN uK 16 σ) (fun w=>Av d ((k:Int),w)) (fun w=>w=HU d k wl 4) (0,wl) (c:=aI (fz (aI (bQ (aI (aJ Tryz.f190) 3)) 2)) 2) (by kernel_rfl) (by kernel_rfl) (aC (by kernel_rfl) (by kernel_rfl) ?_) ?_ ?_
  ·exact⟨0,by decide,rfl,rfl⟩
  ·rintro⟨j,wj⟩ hj
   revert j wj
   intro (j:Int) (wj:List Int) ⟨t,ht,ej,ewj⟩
   have ej:j=(t:Int):=ej
   have kwj:wj=HU d k wl t:=ewj
   subst ej
   refine ao (X:=((decide ((t:Int)<(4:Int))=true->((0:Int)<=(k:Int)/\(k:Int)<(↑(8:Nat):Int))/\(k:Int).toNat<(8:Nat)/\(0:Int)<=(8:Int)/\((0:Int)<=i64.wrap (i64.wrap ((4:Int)*(k:Int))+(t:Int))/\i64.wrap (i64.wrap ((4:Int)*(k:Int))+(t:Int))<(↑(32:Nat):Int))/\(i64.wrap (i64.wrap ((4:Int)*(k:Int))+(t:Int))).toNat<(32:Nat)/\((0:Int)<=(k:Int)/\(k:Int)<(↑(8:Nat):Int))/\(k:Int).toNat<(8:Nat)/\(Ur d k (i64.wrap ((t:Int)+(1:Int)),wj.set (k:Int).toNat (av BinOp.or u32 (u32.wrap (wj.getD (k:Int).toNat (0:Int)*(2:Int)^min (8:Nat) u32.bits)) (u32.wrap (d.getD (i64.wrap (i64.wrap ((4:Int)*(k:Int))+(t:Int))).toNat (0:Int)))))).ah ((∃ j,j<=(4:Nat)/\i64.wrap ((t:Int)+(1:Int))=(j:Int)/\wj.set (k:Int).toNat (av BinOp.or u32 (u32.wrap (wj.getD (k:Int).toNat (0:Int)*(2:Int)^min (8:Nat) u32.bits)) (u32.wrap (d.getD (i64.wrap (i64.wrap ((4:Int)*(k:Int))+(t:Int))).toNat (0:Int))))=HU d k wl j)/\(4:Nat)-(i64.wrap ((t:Int)+(1:Int))).toNat<(4:Nat)-(t:Int).toNat))/\(decide ((t:Int)<(4:Int))=false->(Av d ((k:Int),wj)).ah (wj=HU d k wl (4:Nat))))) (by kernel_rfl) ?_
   refine⟨fun h=>?_,fun h=>aA ?_⟩
   ·have h4:t<4:=by have:=Odt h;omega
    have e1:i64.wrap (i64.wrap ((4:Int)*(k:Int))+(t:Int))=((4*k+t:Nat):Int):=by
     rw[aG (a:=4*(k:Int)) (by omega) (by omega),aG (by omega) (by omega)];omega
    rw[e1,aQ (by omega),Int.toNat_natCast,Int.toNat_natCast]
    exact⟨⟨by omega,by omega⟩,by omega,by decide,⟨by omega,by omega⟩,by omega,⟨by omega,by omega⟩,by omega,aA ⟨⟨t+1,h4,rfl,by rw[kwj];rfl⟩,by rw[Int.toNat_natCast,Int.toNat_natCast];omega⟩⟩
   ·have:t=4:=by have:=Odf h;omega
    rw[kwj,this]
  intro (w':List Int) (hw':w'=HU d k wl 4)
  refine ig ?_
  refine bf hsp mixed _ _ ?_
  refine ao (X:=((Av d (i64.wrap ((k:Int)+(1:Int)),w')).ah ((∃ cE,cE<=(8:Nat)/\i64.wrap ((k:Int)+(1:Int))=(cE:Int)/\w'=HT d cE)/\(8:Nat)-(i64.wrap ((k:Int)+(1:Int))).toNat<(8:Nat)-(k:Int).toNat))) (by kernel_rfl) ?_
  rw[aQ (by omega)]
  exact aA ⟨⟨k+1,hlt,rfl,by rw[hw',kw];rfl⟩,by rw[Int.toNat_natCast,Int.toNat_natCast];omega⟩
 rintro⟨i1,w1⟩ hw1
 revert i1 w1
 intro (i1:Int) (w1:List Int) (hw1:w1=HT d 8)
 refine bf hsp mixed _ _ ?_
 refine ao (X:=((w1,())=(xj d,()))) (by kernel_rfl) ?_
 rw[hw1,xj,ay]
def vA:Nat × Eng.Spec:=(190,ar [.arr 32 bK] [.val (.arr 8 uK)] (fun _=>True) (fun (d,_)=>(xj d,())))
theorem Ro:enters Tryz.prog 191 Tryz.f191:=ek
def oA (b:List Int) (i:Nat) (a:List Int):List Int:=a.set i (av .xor .u32 (a.getD i 0) (b.getD i 0))
def Hf (a b:List Int) (i:Nat):List Int:=it (oA b) a i
def su (a b:List Int):List Int:=cr (Hf a b 8)
def KK (b:List Int) (g:Int × List Int):St:=aY Tryz.f191.ntmps 40 [(2,.is (.one (.ptr 0 0))),(4,.is (.one (.ptr 16 0))),(7,sA .u32 8 b),(8,sI .i64 g.1)] [(16,[.ints .u32 8 (List.replicate 8 0)]),(0,[.ints .u32 8 g.2])]
theorem VR:aB Tryz.prog 191 [.arr 8 uK,.arr 8 uK] [.val (.arr 8 uK)] aM (fun _=>True) (fun (a,b,_)=>(su a b,())):=by
 have hsp:aN Tryz.prog (aF []):=aR
 refine bh (sp:=aF []) Ro (by decide) (by decide) (by kernel_rfl) ?_
 rintro w M0 ⟨a,b,⟨⟩⟩
 revert a b
 intro (a:List Int) (b:List Int) hw _
 have ha:a.length=8:=hw.1.1
 show Tr _ _ _ _ _ _ _
 refine aP hsp mixed 2 (KK b (0,a)) True ?_ (fun _=>?_)
 ·refine ao (X:=((KK b ((0:Int),a)).ah True)) (by kernel_rfl) ?_
  exact aA trivial
 refine bO hsp mixed dA (fun σ=>(bU (.int .i64) 8 σ,cN uK 0 σ)) (KK b) (fun g=>∃ k:Nat,k<=8/\g.1=(k:Int)/\g.2=Hf a b k) (fun g=>8-g.1.toNat)
  (fun σ=>(bU (.int .i64) 8 σ,cN uK 0 σ)) (KK b) (fun g=>g.2=Hf a b 8) (0,a) (c:=aI (aJ Tryz.f191) 2) (by kernel_rfl) (by kernel_rfl) (aC (by kernel_rfl) (by kernel_rfl) ?_) ?_ ?_
 ·exact⟨0,by decide,rfl,rfl⟩
 ·rintro⟨i,l⟩ hj
  revert i l
  intro (i:Int) (l:List Int) ⟨k,hk,ei,el⟩
  have ei:i=(k:Int):=ei
  have kl:l=Hf a b k:=el
  subst ei
  refine ao (X:=((decide ((k:Int)<(8:Int))=true->((0:Int)<=(k:Int)/\(k:Int)<(↑(8:Nat):Int))/\((0:Int)<=(k:Int)/\(k:Int)<(↑(8:Nat):Int))/\(k:Int).toNat<(8:Nat)/\((0:Int)<=(k:Int)/\(k:Int)<(↑(8:Nat):Int))/\(k:Int).toNat<(8:Nat)/\(KK b (i64.wrap ((k:Int)+(1:Int)),l.set (k:Int).toNat (av BinOp.xor u32 (l.getD (k:Int).toNat (0:Int)) (b.getD (k:Int).toNat (0:Int))))).ah ((∃ cE,cE<=(8:Nat)/\i64.wrap ((k:Int)+(1:Int))=(cE:Int)/\l.set (k:Int).toNat (av BinOp.xor u32 (l.getD (k:Int).toNat (0:Int)) (b.getD (k:Int).toNat (0:Int)))=Hf a b cE)/\(8:Nat)-(i64.wrap ((k:Int)+(1:Int))).toNat<(8:Nat)-(k:Int).toNat))/\(decide ((k:Int)<(8:Int))=false->(KK b ((k:Int),l)).ah (l=Hf a b (8:Nat))))) (by kernel_rfl) ?_
  refine⟨fun h=>?_,fun h=>aA ?_⟩
  ·have h4:k<8:=by have:=Odt h;omega
   rw[aQ (by omega)]
   simp only[Int.toNat_natCast]
   exact⟨⟨by omega,by omega⟩,⟨by omega,by omega⟩,h4,⟨by omega,by omega⟩,h4,aA ⟨⟨k+1,h4,rfl,by rw[kl];rfl⟩,by omega⟩⟩
  ·have:k=8:=by have:=Odf h;omega
   rw[kl,this]
 rintro⟨i1,w1⟩ hw1
 revert i1 w1
 intro (i1:Int) (w1:List Int) (hw1:w1=Hf a b 8)
 refine bf hsp mixed _ _ ?_
 refine ao (X:=((w1,())=(su a b,()))) (by kernel_rfl) ?_
 rw[hw1,su,ay]
def yN:Nat × Eng.Spec:=(191,ar [.arr 8 uK,.arr 8 uK] [.val (.arr 8 uK)] (fun _=>True) (fun (a,b,_)=>(su a b,())))
theorem h9:enters Tryz.prog 192 Tryz.f192:=ek
def bB (w:List Int) (i j:Nat) (d:List Int):List Int:=d.set (4*i+j) (u8.wrap ((w.getD i 0).fdiv (2^min (24-8*j) u32.bits)))
def BO (w:List Int) (i:Nat) (d:List Int) (j:Nat):List Int:=it (fun j d=>bB w i j d) d j
def Ew (w:List Int) (i:Nat):List Int:=it (fun i d=>BO w i d 4) (List.replicate 32 0) i
def qV (w:List Int):List Int:=cr (Ew w 8)
theorem Ju (w:List Int) (i:Nat) (d:List Int):∀ j,(BO w i d j).length=d.length
 | 0=>rfl
 | j+1=>by show (bB w i j _).length=_;rw[bB,List.length_set];exact Ju w i d j
theorem Jt (w:List Int):∀ i,(Ew w i).length=32
 | 0=>rfl
 | i+1=>by show (BO w i _ 4).length=_;rw[Ju];exact Jt w i
theorem U5 (w:List Int):(qV w).length=32:=by rw[qV,ay,Jt]
def Af (wd:List Int) (g:Int × List Int):St:=aY Tryz.f192.ntmps 40 [(2,.is (.one (.ptr 8 0))),(3,.is (.one (.ptr 16 0))),(7,sA .u32 8 wd),(8,sI .i64 g.1)] [(16,[.ints .u8 32 g.2]),(8,[.ints .u8 32 (List.replicate 32 0)])]
def Tl (wd:List Int) (i:Nat) (x:Int) (g:Int × List Int):St:=aY Tryz.f192.ntmps 40 [(2,.is (.one (.ptr 8 0))),(3,.is (.one (.ptr 16 0))),(4,sI .i64 i),(5,sI .u32 x),(7,sA .u32 8 wd),(8,sI .i64 i),(12,sI .i64 g.1)] [(16,[.ints .u8 32 g.2]),(8,[.ints .u8 32 (List.replicate 32 0)])]
theorem gO:aB Tryz.prog 192 [.arr 8 uK] [.val (.arr 32 bK)] aM (fun _=>True) (fun (w,_)=>(qV w,())):=by
 have hsp:aN Tryz.prog (aF []):=aR
 refine bh (sp:=aF []) h9 (by decide) (by decide) (by kernel_rfl) ?_
 rintro w M0 ⟨wd,⟨⟩⟩
 revert wd
 intro (wd:List Int) hw _
 have hd:wd.length=8:=hw.1.1
 show Tr _ _ _ _ _ _ _
 refine aP hsp mixed 3 (Af wd (0,List.replicate 32 0)) True ?_ (fun _=>?_)
 ·refine ao (X:=((Af wd ((0:Int),List.replicate (32:Nat) (0:Int))).ah True)) (by kernel_rfl) ?_
  exact aA trivial
 refine fh dA (fun σ=>(bU (.int .i64) 8 σ,cN bK 16 σ)) (Af wd) (fun g=>∃ k:Nat,k<=8/\g.1=(k:Int)/\g.2=Ew wd k) (fun g=>8-g.1.toNat)
  (fun σ=>(bU (.int .i64) 8 σ,cN bK 16 σ)) (Af wd) (fun g=>g.2=Ew wd 8) (0,List.replicate 32 0) (c:=aI (aJ Tryz.f192) 3) (by kernel_rfl) (by kernel_rfl) (aC (by kernel_rfl) (by kernel_rfl) ?_) ?_ ?_
 ·exact⟨0,by decide,rfl,rfl⟩
 ·rintro⟨i,wl⟩ hj
  revert i wl
  intro (i:Int) (wl:List Int) ⟨k,hk,ei,ew⟩
  have ei:i=(k:Int):=ei
  have kw:wl=Ew wd k:=ew
  subst ei
  refine aP hsp mixed 2 (Af wd ((k:Int),wl)) (k<8) ?_ (fun hlt=>?_)
  ·refine ao (X:=((decide ((k:Int)<(8:Int))=true->(Af wd ((k:Int),wl)).ah (k<(8:Nat)))/\(decide ((k:Int)<(8:Int))=false->(Af wd ((k:Int),wl)).ah (wl=Ew wd (8:Nat))))) (by kernel_rfl) ?_
   refine⟨fun h=>aA (by have:=Odt h;omega),fun h=>aA ?_⟩
   have:k=8:=by have:=Odf h;omega
   rw[kw,this]
  refine eG (c:=aI (bQ (aI (aJ Tryz.f192) 3)) 2) (by kernel_rfl) (by kernel_rfl) ?_
  refine eB hsp mixed 2 (fun σ=>bU (.int .u32) 5 σ) (fun x=>Tl wd k x (0,wl)) (fun x=>x=wd.getD k 0) ?_ ?_
  ·refine ao (X:=(((0:Int)<=(k:Int)/\(k:Int)<(↑(8:Nat):Int))/\(Tl wd k (wd.getD (k:Int).toNat (0:Int)) ((0:Int),wl)).ah (wd.getD (k:Int).toNat (0:Int)=wd.getD k (0:Int)))) (by kernel_rfl) ?_
   simp only[Int.toNat_natCast]
   exact⟨⟨by omega,by omega⟩,aA (by first|exact trivial|rfl)⟩
  intro (x:Int) (hx:x=wd.getD k 0)
  refine bO hsp mixed dA (fun σ=>(bU (.int .i64) 12 σ,cN bK 16 σ)) (Tl wd k x) (fun g=>∃ j:Nat,j<=4/\g.1=(j:Int)/\g.2=BO wd k wl j) (fun g=>4-g.1.toNat)
   (fun σ=>cN bK 16 σ) (fun w=>Af wd ((k:Int),w)) (fun w=>w=BO wd k wl 4) (0,wl) (c:=aI (fz (aI (bQ (aI (aJ Tryz.f192) 3)) 2)) 2) (by kernel_rfl) (by kernel_rfl) (aC (by kernel_rfl) (by kernel_rfl) ?_) ?_ ?_
  ·exact⟨0,by decide,rfl,rfl⟩
  ·rintro⟨j,wj⟩ hj
   revert j wj
   intro (j:Int) (wj:List Int) ⟨t,ht,ej,ewj⟩
   have ej:j=(t:Int):=ej
   have kwj:wj=BO wd k wl t:=ewj
   subst ej
   refine ao (X:=((decide ((t:Int)<(4:Int))=true->(0:Int)<=i64.wrap ((24:Int)-i64.wrap ((8:Int)*(t:Int)))/\((0:Int)<=i64.wrap (i64.wrap ((4:Int)*(k:Int))+(t:Int))/\i64.wrap (i64.wrap ((4:Int)*(k:Int))+(t:Int))<(↑(32:Nat):Int))/\(i64.wrap (i64.wrap ((4:Int)*(k:Int))+(t:Int))).toNat<(32:Nat)/\(Tl wd k x (i64.wrap ((t:Int)+(1:Int)),wj.set (i64.wrap (i64.wrap ((4:Int)*(k:Int))+(t:Int))).toNat (u8.wrap (x.fdiv ((2:Int)^min (i64.wrap ((24:Int)-i64.wrap ((8:Int)*(t:Int)))).toNat u32.bits))))).ah ((∃ j,j<=(4:Nat)/\i64.wrap ((t:Int)+(1:Int))=(j:Int)/\wj.set (i64.wrap (i64.wrap ((4:Int)*(k:Int))+(t:Int))).toNat (u8.wrap (x.fdiv ((2:Int)^min (i64.wrap ((24:Int)-i64.wrap ((8:Int)*(t:Int)))).toNat u32.bits)))=BO wd k wl j)/\(4:Nat)-(i64.wrap ((t:Int)+(1:Int))).toNat<(4:Nat)-(t:Int).toNat))/\(decide ((t:Int)<(4:Int))=false->(Af wd ((k:Int),wj)).ah (wj=BO wd k wl (4:Nat))))) (by kernel_rfl) ?_
   refine⟨fun h=>?_,fun h=>aA ?_⟩
   ·have h4:t<4:=by have:=Odt h;omega
    have e1:i64.wrap (i64.wrap ((4:Int)*(k:Int))+(t:Int))=((4*k+t:Nat):Int):=by
     rw[aG (a:=4*(k:Int)) (by omega) (by omega),aG (by omega) (by omega)];omega
    have e2:i64.wrap (24-i64.wrap ((8:Int)*(t:Int)))=((24-8*t:Nat):Int):=by
     rw[aG (a:=8*(t:Int)) (by omega) (by omega),aG (by omega) (by omega)];omega
    rw[e1,e2,aQ (by omega)]
    simp only[Int.toNat_natCast]
    exact⟨by omega,⟨by omega,by omega⟩,by omega,aA ⟨⟨t+1,h4,rfl,by rw[kwj,hx];rfl⟩,by omega⟩⟩
   ·have:t=4:=by have:=Odf h;omega
    rw[kwj,this]
  intro (w':List Int) (hw':w'=BO wd k wl 4)
  refine ig ?_
  refine bf hsp mixed _ _ ?_
  refine ao (X:=((Af wd (i64.wrap ((k:Int)+(1:Int)),w')).ah ((∃ cE,cE<=(8:Nat)/\i64.wrap ((k:Int)+(1:Int))=(cE:Int)/\w'=Ew wd cE)/\(8:Nat)-(i64.wrap ((k:Int)+(1:Int))).toNat<(8:Nat)-(k:Int).toNat))) (by kernel_rfl) ?_
  rw[aQ (by omega)]
  exact aA ⟨⟨k+1,hlt,rfl,by rw[hw',kw];rfl⟩,by rw[Int.toNat_natCast,Int.toNat_natCast];omega⟩
 rintro⟨i1,w1⟩ hw1
 revert i1 w1
 intro (i1:Int) (w1:List Int) (hw1:w1=Ew wd 8)
 refine bf hsp mixed _ _ ?_
 refine ao (X:=((w1,())=(qV wd,()))) (by kernel_rfl) ?_
 rw[hw1,qV,ay]
def fw:Nat × Eng.Spec:=(192,ar [.arr 8 uK] [.val (.arr 32 bK)] (fun _=>True) (fun (w,_)=>(qV w,())))
end
end Go.Proofs.YtbeeaekepmnfhaaGreatDoor.xmd
open Go.IntKind(i64 u8)
namespace Go.Proofs.YtbeeaekepmnfhaaGreatDoor.xmd
noncomputable section
open Go Go.Eng Go.RowKit Cr sha
abbrev ij:Kd:=.sl bK
def wz:List Int:=[72,50,67,45,79,86,69,82,83,73,90,69,45,68,83,84,45]
def Io (tag:List Int):List Int:=match decide (255<tag.length) with
 | true=>iM (wz++tag)
 | false=>tag
def Ds (t:List Int):List Int:=[u8.wrap t.length]
def Mk (msg t:List Int) (n:Int):List Int:=xj (iM (List.flatten [List.replicate 64 0,msg,[u8.wrap (n.fdiv (2^min 8 i64.bits)),u8.wrap n,0],t,Ds t]))
def Cp (f t:List Int) (i:Nat) (last:List Int):List Int:=iM (List.flatten [qV (su f last),[u8.wrap ((i:Int)+1)],t,Ds t])
def uW (f t:List Int) (i:Nat):List Int × List Int:=it (fun i s=>(s.1++Cp f t i s.2,xj (Cp f t i s.2))) ([],List.replicate 8 0) i
theorem J5 (f t:List Int):∀ i,(uW f t i).1.length=32*i
 | 0=>rfl
 | i+1=>by show ((uW f t i).1++Cp f t i _).length=_;rw[List.length_append,J5 f t i,Cp,rv];omega
def L9 (msg tag:List Int) (n:Int):List Int:=(uW (Mk msg (Io tag) n) (Io tag) ((n.toNat+31)/32)).1.take n.toNat
def lu (msg tag:List Int) (n:Int):List Int:=cr (L9 msg tag n)
theorem Rx (msg tag:List Int) (n:Int):(lu msg tag n).length=n.toNat:=by
 rw[lu,ay,L9,List.length_take,J5];omega
def kz (msg tag:List Int) (n:Int):List Int × Int:=match decide (n<0)||decide (n>8160) with
 | true=>([],1)
 | false=>(lu msg tag n,0)
def Yq (m:List Int) (n:Int) (t:List Int):St:=aY Tryz.f152.ntmps 88 [(0,.is (.one (.ro bK m))),(1,.is (.one (.ro bK t))),(2,sI .i64 n)] []
def Yr (m:List Int) (n:Int) (t:List Int):St:=aY Tryz.f152.ntmps 88 [(0,.is (.one (.ro bK m))),(1,.is (.one (.ro bK t))),(2,sI .i64 n),(24,.is (.one (.v (.bool (decide ((t.length:Int)>255))))))] []
theorem Qx {E:Env} {N:Nat} {n r:St->Prop} {x:Nat->St->Prop} {l l':List Code} {σ:St} (h:l=l') (ht:Tr E N l' σ n r x):Tr E N l σ n r x:=h▸ht
def Ys (m:List Int) (n:Int) (d:List Int):St:=aY Tryz.f152.ntmps 160 [(0,.is (.one (.ro bK m))),(1,.is (.one (.sl 128 0 0 32 1))),(2,sI .i64 n)] [(128,[.ints .u8 32 d])]
abbrev Xg:Type:=Int × Nat × Nat × List Int × List Int
def J2 (n:Int) (t e f:List Int) (g:Xg):St:=aY Tryz.f152.ntmps 296 [(1,.is (.one (.ro bK t))),(2,sI .i64 n),(9,.is (.one (.sl 112 0 0 1 1))),(10,.is (.one (.ptr 232 0))),(11,.is (.one (.sl 264 0 0 g.2.1 1))),(12,.is (.one (.ptr 280 0))),(13,sI .i64 g.1)] [(280,[.ints .u32 8 g.2.2.2.2]),(264,[.ints .u8 g.2.2.1 g.2.2.2.1]),(232,[.ints .u32 8 f]),(112,[.ints .u8 1 e])]
def J4 (n:Int) (t f:List Int) (g:Xg):Prop:=∃ k:Nat,g.1=(k:Int)+1/\g.2.1=32*k/\g.2.1<=g.2.2.1/\g.2.2.2.1.take (32*k)=(uW f t k).1/\g.2.2.2.2=(uW f t k).2/\((32*k:Nat):Int)<n+32
theorem L3:enters Tryz.prog 152 Tryz.f152:=ek
abbrev tK:HL [ij,ij,.int .i64]->Prop:=fun (m,t,_)=>List.length m<=1048576/\List.length t<=1048576
theorem Ou:aB Tryz.prog 152 [ij,ij,.int .i64] [.own bK,.val (.int .i64)] db tK (fun (m,t,n,_)=>((kz m t n).1,(kz m t n).2,())):=by
 have hsp:aN Tryz.prog (aF [ly,vA,yN,fw]):=ai (B5 nL) (ai (ak RL) (ai (ak VR) (ai (ak gO) aR)))
 refine bh (sp:=aF [ly,vA,yN,fw]) L3 (by decide) (by decide) (by kernel_rfl) ?_
 rintro w M0 ⟨m,t,n,⟨⟩⟩
 revert m t n
 intro (m:List Int) (t:List Int) (n:Int) hw hp
 have hm:m.length<=1048576:=hp.1
 have ht:t.length<=1048576:=hp.2
 show Tr _ _ _ _ _ _ _
 have rest:∀ t':List Int,t'.length<=255->0<=n->n<=8160->Io t=t'->Tr ⟨Tryz.prog,aF [ly,vA,yN,fw],⟨w,[],db,M0⟩⟩ Tryz.f152.ntmps (List.drop 5 (aJ Tryz.f152)) (Yq m n t') (uq ⟨Tryz.prog,aF [ly,vA,yN,fw],⟨w,[],db,M0⟩⟩ Tryz.f152 (post [.own bK,.val (.int .i64)] ((kz m t n).1,(kz m t n).2,()))) (uq ⟨Tryz.prog,aF [ly,vA,yN,fw],⟨w,[],db,M0⟩⟩ Tryz.f152 (post [.own bK,.val (.int .i64)] ((kz m t n).1,(kz m t n).2,()))) (fun _ _=>False):=by
  intro t' ht' hn0 hn1 htag
  refine eB hsp mixed 5 (fun σ=>(cN uK 232 σ,cN bK 112 σ,cN bK 264 σ)) (fun g=>J2 n t' g.2.1 g.1 (1,0,(i64.wrap (n+32)).toNat,g.2.2,List.replicate 8 0)) (fun g=>g.1=Mk m t' n/\g.2.1=Ds t') ?_ ?_
  ·refine ao (X:=(((0:Int)<=(64:Int)/\(64:Int)<=(64:Int)/\(↑(1:Nat):Int)*(64:Int)<=(281474976710656:Int)/\(64:Int)<=(9223372036854775807:Int))/\(0:Int)<=(8:Int)/\(∀ (g:Nat) (s:Sigma au),db g=some s->Decidable.rec (fun h=>(fun x=>if g=1 then some ⟨Kd.arr 64 uK,dQ⟩ else none) h) (fun h=>(fun x=>some ⟨Kd.arr 8 uK,cw⟩) h) (instDecidableEqNat g 0)=some s)/\0+64<=64/\0+3<=3/\0+1<=1/\zM ([List.take 64 (List.replicate 64 (0:Int)),m,List.take 3 [u8.wrap (n.fdiv ((2:Int)^min 8 i64.bits)),u8.wrap n,(0:Int)],t',List.take 1 [u8.wrap (↑t'.length:Int)]],())/\True/\((0:Int)<=(0:Int)/\(0:Int)<=i64.wrap (n+(32:Int))/\(↑(1:Nat):Int)*i64.wrap (n+(32:Int))<=(281474976710656:Int)/\i64.wrap (n+(32:Int))<=(9223372036854775807:Int))/\(J2 n t' ((xj (iM [List.take 64 (List.replicate 64 (0:Int)),m,List.take 3 [u8.wrap (n.fdiv ((2:Int)^min 8 i64.bits)),u8.wrap n,(0:Int)],t',List.take 1 [u8.wrap (↑t'.length:Int)]].flatten,()).fst,()).fst,[u8.wrap (↑t'.length:Int)],List.replicate (i64.wrap (n+(32:Int))).toNat (0:Int)).snd.fst ((xj (iM [List.take 64 (List.replicate 64 (0:Int)),m,List.take 3 [u8.wrap (n.fdiv ((2:Int)^min 8 i64.bits)),u8.wrap n,(0:Int)],t',List.take 1 [u8.wrap (↑t'.length:Int)]].flatten,()).fst,()).fst,[u8.wrap (↑t'.length:Int)],List.replicate (i64.wrap (n+(32:Int))).toNat (0:Int)).fst ((1:Int),0,(i64.wrap (n+(32:Int))).toNat,((xj (iM [List.take 64 (List.replicate 64 (0:Int)),m,List.take 3 [u8.wrap (n.fdiv ((2:Int)^min 8 i64.bits)),u8.wrap n,(0:Int)],t',List.take 1 [u8.wrap (↑t'.length:Int)]].flatten,()).fst,()).fst,[u8.wrap (↑t'.length:Int)],List.replicate (i64.wrap (n+(32:Int))).toNat (0:Int)).snd.snd,List.replicate 8 (0:Int))).ah (xj (iM [List.take 64 (List.replicate 64 (0:Int)),m,List.take 3 [u8.wrap (n.fdiv ((2:Int)^min 8 i64.bits)),u8.wrap n,(0:Int)],t',List.take 1 [u8.wrap (↑t'.length:Int)]].flatten)=Mk m t' n/\[u8.wrap (↑t'.length:Int)]=Ds t'))) (by kernel_rfl) ?_
   have e1:i64.wrap (n+32)=n+32:=aG (by omega) (by omega)
   have e2:List.take 64 (List.replicate 64 (0:Int))=List.replicate 64 0:=by rw[List.take_of_length_le (by simp)]
   have e3:∀ a b c:Int,List.take 3 [a,b,c]=[a,b,c]:=fun _ _ _=>rfl
   have e4:∀ a:Int,List.take 1 [a]=[a]:=fun _=>rfl
   rw[e1,e2,e3,e4]
   refine⟨⟨by decide,by decide,by decide,by decide⟩,by decide,fun _ _ h=>h,by decide,by decide,by decide,⟨?_,by show 5<=_;decide⟩,trivial,⟨by decide,by omega,by omega,by omega⟩,aA ⟨rfl,rfl⟩⟩
   show (List.flatten [List.replicate 64 (0:Int),m,[_,_,0],t',[_]]).length<=1099511627776
   simp only[List.flatten_cons,List.flatten_nil,List.length_append,List.length_replicate,List.length_cons,List.length_nil]
   omega
  rintro⟨f,e,x0⟩ ⟨hf,he⟩
  revert f e x0
  intro (f:List Int) (e:List Int) (x0:List Int) (hf:f=Mk m t' n) (he:e=Ds t')
  refine bO hsp mixed (fun σ=>[(264,PO 11 σ)]) (fun σ=>(bU (.int .i64) 13 σ,yD 11 σ,PQ 264 σ,cN bK 264 σ,cN uK 280 σ)) (J2 n t' e f) (J4 n t' f) (fun g=>n.toNat-g.2.1)
   (fun σ=>(bU (.int .i64) 13 σ,yD 11 σ,PQ 264 σ,cN bK 264 σ,cN uK 280 σ)) (J2 n t' e f) (fun g=>J4 n t' f g/\n<=(g.2.1:Int)) (1,0,(i64.wrap (n+32)).toNat,x0,List.replicate 8 0) (c:=aI (aJ Tryz.f152) 10) (by kernel_rfl) (by kernel_rfl) (aC (by kernel_rfl) (by kernel_rfl) ?_) ?_ ?_
  ·refine⟨0,rfl,rfl,Nat.zero_le _,rfl,rfl,?_⟩
   show ((0:Nat):Int)<n+32
   omega
  ·rintro⟨i,L,N,xs,last⟩ hj
   revert i xs last
   intro (i:Int) (xs:List Int) (last:List Int) (hj:J4 n t' f (i,L,N,xs,last))
   obtain⟨k,ei,eL,hLN,hx,hl,hk⟩:=hj
   have ei:i=(k:Int)+1:=ei
   have eL:L=32*k:=eL
   have hLN:L<=N:=hLN
   have hx:xs.take (32*k)=(uW f t' k).1:=hx
   have hl:last=(uW f t' k).2:=hl
   have hbl:=U5 (su f last)
   refine ao (X:=((decide ((L:Int)<n)=true->True/\True/\(∀ (g:Nat) (s:Sigma au),db g=some s->Decidable.rec (fun h=>(fun x=>if g=1 then some ⟨Kd.arr 64 uK,dQ⟩ else none) h) (fun h=>(fun x=>some ⟨Kd.arr 8 uK,cw⟩) h) (instDecidableEqNat g 0)=some s)/\0+32<=32/\0+1<=1/\0+1<=1/\zM ([List.take 32 (qV (su f last)),List.take 1 [u8.wrap i],t',List.take 1 e],())/\0+32<=32/\L<=N/\(L+32)*1<=140737488355328/\L+32<=4611686018427387904/\True/\(J2 n t' e f (i64.wrap (i+(1:Int)),L+32,L+32,List.take L xs++List.take 32 (iM [List.take 32 (qV (su f last,()).fst,()).fst,List.take 1 [u8.wrap i],t',List.take 1 e].flatten,()).fst,(xj (iM [List.take 32 (qV (su f last,()).fst,()).fst,List.take 1 [u8.wrap i],t',List.take 1 e].flatten,()).fst,()).fst)).ah (J4 n t' f (i64.wrap (i+(1:Int)),L+32,L+32,List.take L xs++List.take 32 (iM [List.take 32 (qV (su f last)),List.take 1 [u8.wrap i],t',List.take 1 e].flatten),xj (iM [List.take 32 (qV (su f last)),List.take 1 [u8.wrap i],t',List.take 1 e].flatten))/\n.toNat-(L+32)<n.toNat-L))/\(decide ((L:Int)<n)=false->(J2 n t' e f (i,L,N,xs,last)).ah (J4 n t' f (i,L,N,xs,last)/\n<=(L:Int))))) (by kernel_rfl) ?_
   have e5:List.take 32 (qV (su f last))=qV (su f last):=List.take_of_length_le (by omega)
   have e4:∀ a:Int,List.take 1 [a]=[a]:=fun _=>rfl
   have e6:List.take 1 e=e:=by rw[he];rfl
   have e7:∀ l,List.take 32 (iM l)=iM l:=fun l=>List.take_of_length_le (by rw[rv];omega)
   refine⟨fun h=>?_,fun h=>aA ⟨⟨k,ei,eL,hLN,hx,hl,hk⟩,by have:=Odf h;omega⟩⟩
   have hLn:(L:Int)<n:=Odt h
   have e8:iM (List.flatten [qV (su f last),[u8.wrap i],t',e])=Cp f t' k (uW f t' k).2:=by
    rw[Cp,hl,ei,he]
   rw[e5,e4,e6,e8]
   refine⟨trivial,trivial,fun _ _ h=>h,by decide,by decide,by decide,⟨?_,by show 4<=_;decide⟩,by decide,hLN,by omega,by omega,trivial,?_⟩
   ·show (List.flatten [qV (su f last),[u8.wrap i],t',e]).length<=1099511627776
    rw[he]
    simp only[List.flatten_cons,List.flatten_nil,List.length_append,List.length_cons,List.length_nil,hbl,Ds]
    omega
   ·refine aA ⟨⟨k+1,?_,?_,Nat.le_refl _,?_,?_,?_⟩,by omega⟩
    ·show i64.wrap (i+1)=_
     rw[ei,aG (by omega) (by omega)];omega
    ·show L+32=_
     omega
    ·show List.take (32*(k+1)) (List.take L xs++List.take 32 (Cp f t' k (uW f t' k).2))=_
     rw[Cp,e7,List.take_of_length_le (by rw[List.length_append,List.length_take,rv];omega),eL,hx]
     rfl
    ·rfl
    ·show ((32*(k+1):Nat):Int)<n+32
     omega
  rintro⟨i,L,N,xs,last⟩ hj
  revert i xs last
  intro (i:Int) (xs:List Int) (last:List Int) (hj:J4 n t' f (i,L,N,xs,last)/\n<=(L:Int))
  refine bf hsp mixed _ _ ?_
  obtain⟨⟨k,ei,eL,hLN,hx,hl,hk⟩,hnL⟩:=hj
  have eL:L=32*k:=eL
  have hLN:L<=N:=hLN
  have hx:xs.take (32*k)=(uW f t' k).1:=hx
  have hk:((32*k:Nat):Int)<n+32:=hk
  have hnL:n<=(L:Int):=hnL
  have hA:kz m t n=(lu m t n,0):=by
   rw[kz,decide_eq_false (by omega),decide_eq_false (by omega)];rfl
  have hkk:(n.toNat+31)/32=k:=by omega
  have hE:xs.take n.toNat=lu m t n:=by
   rw[lu,ay,L9,htag,hkk,<- hf,<- hx,List.take_take,Nat.min_eq_left (by omega)]
  rw[hA]
  refine ao (X:=(((0:Int)<=n/\n<=n/\n<=(L:Int))/\0+(n-(0:Int)).toNat<=N/\(List.take (n-(0:Int)).toNat xs,(0:Int),())=(lu m t n,(0:Int),()))) (by kernel_rfl) ?_
  have e1:(n-0).toNat=n.toNat:=by omega
  rw[e1,hE]
  exact⟨⟨by omega,by omega,hnL⟩,by omega,rfl⟩
 refine aP hsp mixed 4 (Yr m n t) (0<=n/\n<=8160) ?_ (fun hn=>?_)
 ·refine ao (X:=((decide (n<(0:Int))=true->([],(1:Int),())=((kz m t n).fst,(kz m t n).snd,()))/\(decide (n<(0:Int))=false->(decide (n>(8160:Int))=true->([],(1:Int),())=((kz m t n).fst,(kz m t n).snd,()))/\(decide (n>(8160:Int))=false->(Yr m n t).ah ((0:Int)<=n/\n<=(8160:Int)))))) (by kernel_rfl) ?_
  refine⟨fun h=>?_,fun h=>⟨fun h2=>?_,fun h2=>aA ⟨by have:=Odf h;omega,by have:=Odf h2;omega⟩⟩⟩
  ·rw[kz,h];rfl
  ·rw[kz,h,h2];rfl
 refine Lo (c:=aI (aJ Tryz.f152) 4) (decide ((t.length:Int)>255)) (by kernel_rfl) (by kernel_rfl) (by kernel_rfl) (fun hT=>?_) (fun hT=>?_)
 ·have hT:255<t.length:=by have:=Odt hT;omega
  refine eB hsp mixed 2 (fun σ=>cN bK 128 σ) (Ys m n) (fun d=>d=iM (wz++t)) ?_ ?_
  ·refine ao (X:=((∀ (g:Nat) (s:Sigma au),db g=some s->Decidable.rec (fun h=>(fun x=>if g=1 then some ⟨Kd.arr 64 uK,dQ⟩ else none) h) (fun h=>(fun x=>some ⟨Kd.arr 8 uK,cw⟩) h) (instDecidableEqNat g 0)=some s)/\0+(nat_lit 16+1)<=17/\zM ([List.take (nat_lit 16+1) [(72:Int),(50:Int),(67:Int),(45:Int),(79:Int),(86:Int),(69:Int),(82:Int),(83:Int),(73:Int),(90:Int),(69:Int),(45:Int),(68:Int),(83:Int),(84:Int),(45:Int)],t],())/\(Ys m n (iM [List.take (nat_lit 16+1) [(72:Int),(50:Int),(67:Int),(45:Int),(79:Int),(86:Int),(69:Int),(82:Int),(83:Int),(73:Int),(90:Int),(69:Int),(45:Int),(68:Int),(83:Int),(84:Int),(45:Int)],t].flatten,()).fst).ah (iM [List.take (nat_lit 16+1) [(72:Int),(50:Int),(67:Int),(45:Int),(79:Int),(86:Int),(69:Int),(82:Int),(83:Int),(73:Int),(90:Int),(69:Int),(45:Int),(68:Int),(83:Int),(84:Int),(45:Int)],t].flatten=iM (wz++t)))) (by kernel_rfl) ?_
   refine⟨fun _ _ h=>h,by decide,⟨?_,by show 2<=_;decide⟩,aA ?_⟩
   ·show (List.flatten [wz,t]).length<=1099511627776
    simp only[List.flatten_cons,List.flatten_nil,List.length_append,List.length_nil]
    have:wz.length=17:=rfl
    omega
   ·show iM (List.flatten [wz,t])=_
    simp only[List.flatten_cons,List.flatten_nil,List.append_nil]
  intro (d:List Int) (hd:d=iM (wz++t))
  have hdl:d.length=32:=by rw[hd,rv]
  refine Xn 1 128 32 1 .u8 d (by kernel_rfl) (by kernel_rfl) hdl ?_
  refine UG (τ:=Yq m n d) (K:=True) (aC (by kernel_rfl) (by kernel_rfl) trivial) (fun _=>?_)
  exact Qx (by kernel_rfl) (rest d (by omega) hn.1 hn.2 (by rw[Io,decide_eq_true hT,hd]))
 ·have hT:¬ 255<t.length:=by have:=Odf hT;omega
  refine UG (τ:=Yq m n t) (K:=True) (aC (by kernel_rfl) (by kernel_rfl) trivial) (fun _=>?_)
  exact Qx (by kernel_rfl) (rest t (by omega) hn.1 hn.2 (by rw[Io,decide_eq_false hT]))
end
end Go.Proofs.YtbeeaekepmnfhaaGreatDoor.xmd
