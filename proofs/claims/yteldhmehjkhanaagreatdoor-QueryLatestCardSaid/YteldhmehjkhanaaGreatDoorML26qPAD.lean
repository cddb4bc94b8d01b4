import Derived.Test.YteldhmehjkhanaaGreatDoorML26qPAC
set_option maxRecDepth 100000
namespace Cr
open Rg Fd
theorem pigeon:∀ (B A:Nat) (f:Nat->Nat),(∀ i,i<A->f i<B)->(∀ i j,i<A->j<A->f i=f j->i=j)->A<=B:=by
 intro B
 induction B with
 | zero =>
  intro A f h _
  cases A with
  | zero=>exact Nat.le_refl 0
  | succ A=>exact absurd (h 0 (by omega)) (by omega)
 | succ B ih =>
  intro A f h inj
  cases A with
  | zero=>omega
  | succ A =>
   have ne:∀ i,i<A->f i≠f A:=fun i hi e=>by have:=inj i A (by omega) (by omega) e;omega
   have:=ih A (fun i=>if f i>f A then f i-1 else f i) (fun i hi=>by
    have h1:=h i (by omega)
    have h2:=h A (by omega)
    have h3:=ne i hi
    show (if f i>f A then f i-1 else f i)<B
    split<;>omega) (fun i j hi hj e=>by
    have h3:=ne i hi
    have h4:=ne j hj
    have e:(if f i>f A then f i-1 else f i)=(if f j>f A then f j-1 else f j):=e
    refine inj i j (by omega) (by omega) ?_
    split at e<;>split at e<;>omega)
   omega
theorem bez (m n:Nat):∃ u v:Int,u*(m:Int)+v*(n:Int)=((Nat.gcd m n:Nat):Int):=by
 induction m,n using Nat.gcd.induction with
 | H0 n=>exact⟨0,1,by simp⟩
 | H1 m n hm ih =>
  obtain⟨u,v,h⟩:=ih
  refine⟨v-u*((n/m:Nat):Int),u,?_⟩
  rw[Nat.gcd_rec,<- h]
  have e:(n:Int)=(m:Int)*((n/m:Nat):Int)+((n%m:Nat):Int):=by
   have:=Nat.div_add_mod n m
   rw[<- Int.natCast_mul,<- Int.natCast_add,this]
  generalize ((n/m:Nat):Int)=q at *
  generalize ((n%m:Nat):Int)=t at *
  rw[e,Int.sub_mul,Int.mul_add]
  have:u*q*(m:Int)=u*((m:Int)*q):=by rw[Int.mul_assoc,Int.mul_comm q]
  omega
theorem inv_mod {l a:Nat} (h:Nat.Coprime l a) (hl:1<l):∃ s:Nat,a*s%l=1:=by
 obtain⟨u,v,e⟩:=bez l a
 rw[h] at e
 refine⟨(v%(l:Int)).toNat,?_⟩
 have hv:(((v%(l:Int)).toNat:Nat):Int)=v%(l:Int):=Int.toNat_of_nonneg (Int.emod_nonneg _ (by omega))
 have:(((a*(v%(l:Int)).toNat%l:Nat)):Int)=1:=by
  rw[Int.natCast_emod,Int.natCast_mul,hv,Int.mul_emod,Int.emod_emod_of_dvd _ (Int.dvd_refl _),<- Int.mul_emod]
  have e2:(a:Int)*v=1+(l:Int)*(-u):=by
   rw[Int.mul_neg,Int.mul_comm (l:Int) u,Int.mul_comm (a:Int) v]
   omega
  rw[e2,Int.add_mul_emod_self_left]
  exact Int.emod_eq_of_lt (by omega) (by omega)
 omega
section
variable {F:Type} [Fd F] {b:F} (hb:b≠0)
include hb
theorem nmul_gcd {S:F × F} (oS:OnP b S) (m n:Nat):nmul S m=O2->nmul S n=O2->nmul S (Nat.gcd m n)=O2:=by
 induction m,n using Nat.gcd.induction with
 | H0 n=>intro _ h;rw[Nat.gcd_zero_left];exact h
 | H1 m n hm ih =>
  intro h1 h2
  rw[Nat.gcd_rec]
  refine ih ?_ h1
  have e:=Nat.div_add_mod n m
  rw[<- e,nmul_add hb oS,<- nmul_mul hb oS,h1,nmul_O,O_add] at h2
  exact h2
theorem nmul_red {S:F × F} (oS:OnP b S) {l:Nat} (h:nmul S l=O2) (n:Nat):nmul S n=nmul S (n%l):=by
 conv=>lhs;rw[<- Nat.div_add_mod n l]
 rw[nmul_add hb oS,<- nmul_mul hb oS,h,nmul_O,O_add]
theorem ord_dvd {P:F × F} (oP:OnP b P) {l n a:Nat} (hl:Prm l) (hk:nmul P (n*l)=O2) (hne:nmul P n≠O2) (ha:nmul P a=O2):l∣a:=by
 refine Classical.byContradiction fun hd=>hne ?_
 have hc:Nat.gcd l a=1:=hl.coprime hd
 have oS:=nmul_on hb oP n
 have h1:nmul (nmul P n) l=O2:=by rw[nmul_mul hb oP];exact hk
 have h2:nmul (nmul P n) a=O2:=by rw[nmul_mul hb oP,Nat.mul_comm,<- nmul_mul hb oP,ha,nmul_O]
 have:=nmul_gcd hb oS l a h1 h2
 rw[hc,nmul_one] at this
 exact this
theorem ind2 {U V:F × F} (oU:OnP b U) (oV:OnP b V) {l:Nat} (hl:Prm l) (hU:nmul U l=O2) (hV:nmul V l=O2) (hV0:V≠O2) (hj:∀ j,j<l->padd U (nmul V j)≠O2) {a c:Nat}
  (h:padd (nmul U a) (nmul V c)=O2):l∣a/\l∣c:=by
 by_cases hd:l∣a
 ·refine⟨hd,?_⟩
  obtain⟨t,rfl⟩:=hd
  rw[<- nmul_mul hb oU,hU,nmul_O,O_add] at h
  refine Classical.byContradiction fun hc=>hV0 ?_
  have:=nmul_gcd hb oV l c hV h
  rw[show Nat.gcd l c=1 from hl.coprime hc,nmul_one] at this
  exact this
 ·obtain⟨s,hs⟩:=inv_mod (hl.coprime hd) hl.1
  have h2:nmul (padd (nmul U a) (nmul V c)) s=O2:=by rw[h,nmul_O]
  rw[nmul_padd hb (nmul_on hb oU _) (nmul_on hb oV _),nmul_mul hb oU,nmul_mul hb oV,nmul_red hb oU hU (a*s),hs,nmul_one,nmul_red hb oV hV (c*s)] at h2
  exact absurd h2 (hj _ (Nat.mod_lt _ (by have:=hl.1;omega)))
def InH (P1 P2 P:F × F):Prop:=∃ a c:Nat,P=padd (nmul P1 a) (nmul P2 c)
variable {P1 P2:F × F} (o1:OnP b P1) (o2:OnP b P2)
include o1 o2
theorem inH_on {P:F × F} (h:InH P1 P2 P):OnP b P:=by
 obtain⟨a,c,rfl⟩:=h
 exact padd_on hb (nmul_on hb o1 _) (nmul_on hb o2 _)
theorem inH_add {P Q:F × F} (h:InH P1 P2 P) (k:InH P1 P2 Q):InH P1 P2 (padd P Q):=by
 obtain⟨a,c,rfl⟩:=h
 obtain⟨a',c',rfl⟩:=k
 refine⟨a+a',c+c',?_⟩
 rw[nmul_add hb o1,nmul_add hb o2]
 exact add4 hb (nmul_on hb o1 _) (nmul_on hb o2 _) (nmul_on hb o1 _) (nmul_on hb o2 _)
theorem inH_mul {P:F × F} (h:InH P1 P2 P) (n:Nat):InH P1 P2 (nmul P n):=by
 obtain⟨a,c,rfl⟩:=h
 refine⟨a*n,c*n,?_⟩
 rw[nmul_padd hb (nmul_on hb o1 _) (nmul_on hb o2 _),nmul_mul hb o1,nmul_mul hb o2]
omit o1 o2 in
theorem neg_mul_of {P:F × F} (oP:OnP b P) {N:Nat} (h:nmul P N=O2) (hN:0<N):pneg P=nmul P (N-1):=by
 have e:N=1+(N-1):=by omega
 rw[e,nmul_add hb oP,nmul_one] at h
 have:=cancel hb oP (nmul_on hb oP (N-1))
 rw[h,add_O] at this
 exact this
variable {n1 n2:Nat} (k1:nmul P1 n1=O2) (k2:nmul P2 n2=O2)
include k1 k2
theorem inH_kill {P:F × F} (h:InH P1 P2 P):nmul P (n1*n2)=O2:=by
 obtain⟨a,c,rfl⟩:=h
 rw[nmul_padd hb (nmul_on hb o1 _) (nmul_on hb o2 _),nmul_mul hb o1,nmul_mul hb o2]
 rw[show a*(n1*n2)=n1*(n2*a) by rw[Nat.mul_comm a,Nat.mul_assoc],show c*(n1*n2)=n2*(n1*c) by rw[Nat.mul_comm c,Nat.mul_comm n1,Nat.mul_assoc]]
 rw[<- nmul_mul hb o1,<- nmul_mul hb o2,k1,k2,nmul_O,nmul_O,O_add]
theorem inH_neg (hN:0<n1*n2) {P:F × F} (h:InH P1 P2 P):InH P1 P2 (pneg P):=by
 rw[neg_mul_of hb (inH_on hb o1 o2 h) (inH_kill hb o1 o2 k1 k2 h) hN]
 exact inH_mul hb o1 o2 h _
theorem inH_half (hodd:n1*n2%2=1) (no2:∀ P:F × F,OnP b P->padd P P=O2->P=O2) {Q:F × F} (oQ:OnP b Q) (h:InH P1 P2 (padd Q Q)):InH P1 P2 Q:=by
 have hk:=inH_kill hb o1 o2 k1 k2 h
 rw[nmul_padd hb oQ oQ] at hk
 have hz:=no2 _ (nmul_on hb oQ _) hk
 have e:nmul Q (2*((n1*n2+1)/2))=Q:=by
  rw[show 2*((n1*n2+1)/2)=n1*n2+1 by omega,nmul_add hb oQ,hz,O_add,nmul_one]
 rw[<- nmul_mul hb oQ,nmul_two] at e
 rw[<- e]
 exact inH_mul hb o1 o2 h _
theorem inH_sub (hN:0<n1*n2) {X Y U V:F × F} (oX:OnP b X) (oY:OnP b Y) (hU:InH P1 P2 U) (hV:InH P1 P2 V) (e:padd X U=padd Y V):∃ W,InH P1 P2 W/\X=padd Y W/\(W=O2->U=V):=by
 have oU:=inH_on hb o1 o2 hU
 have oV:=inH_on hb o1 o2 hV
 have onU:=pneg_onP oU
 refine⟨padd V (pneg U),inH_add hb o1 o2 hV (inH_neg hb o1 o2 k1 k2 hN hU),?_,?_⟩
 ·rw[<- padd_assoc hb oY oV onU,<- e,padd_assoc hb oX oU onU,add_neg_self,add_O]
 ·intro h
  have:padd (padd V (pneg U)) U=padd O2 U:=by rw[h]
  rw[padd_assoc hb oV onU oU,neg_add_self,add_O,O_add] at this
  exact this.symm
theorem inH_inj (ind:∀ a c,padd (nmul P1 a) (nmul P2 c)=O2->n1∣a/\n2∣c) {a c a' c':Nat} (ha:a<n1) (ha':a'<n1) (hc:c<n2) (hc':c'<n2)
  (e:padd (nmul P1 a) (nmul P2 c)=padd (nmul P1 a') (nmul P2 c')):a=a'/\c=c':=by
 have h:padd (padd (nmul P1 a) (nmul P2 c)) (padd (nmul P1 (n1-a)) (nmul P2 (n2-c)))=O2:=by
  rw[add4 hb (nmul_on hb o1 _) (nmul_on hb o2 _) (nmul_on hb o1 _) (nmul_on hb o2 _),<- nmul_add hb o1,<- nmul_add hb o2,show a+(n1-a)=n1 by omega,show c+(n2-c)=n2 by omega,k1,k2,O_add]
 rw[e,add4 hb (nmul_on hb o1 _) (nmul_on hb o2 _) (nmul_on hb o1 _) (nmul_on hb o2 _),<- nmul_add hb o1,<- nmul_add hb o2] at h
 obtain⟨⟨u,hu⟩,⟨v,hv⟩⟩:=ind _ _ h
 refine⟨?_,?_⟩
 ·match u with
  | 0=>omega
  | 1=>omega
  | u+2=>have:n1*(u+2)=n1*u+n1+n1:=by rw[Nat.mul_add];omega
         omega
 ·match v with
  | 0=>omega
  | 1=>omega
  | v+2=>have:n2*(v+2)=n2*v+n2+n2:=by rw[Nat.mul_add];omega
         omega
def cQ (Q:F × F) (c:Nat):F × F:=if c=0 then O2 else if c=1 then Q else pneg Q
omit k1 k2 o1 o2 hb in
theorem cQ_on {Q:F × F} (oQ:OnP b Q) (c:Nat):OnP b (cQ Q c):=by
 unfold cQ
 split
 ·exact .inl rfl
 ·split
  ·exact oQ
  ·exact pneg_onP oQ
theorem gen_all (hodd:n1*n2%2=1) (ind:∀ a c,padd (nmul P1 a) (nmul P2 c)=O2->n1∣a/\n2∣c) (no2:∀ P:F × F,OnP b P->padd P P=O2->P=O2)
  (code:F × F->Nat) (B:Nat) (hB:∀ P,OnP b P->code P<B) (hinj:∀ P Q,OnP b P->OnP b Q->code P=code Q->P=Q) (hsz:B<3*(n1*n2)) {Q:F × F} (oQ:OnP b Q):InH P1 P2 Q:=by
 refine Classical.byContradiction fun hQ=>?_
 have hN:0<n1*n2:=by omega
 have hn2:0<n2:=Nat.pos_of_ne_zero fun e=>by rw[e] at hN;simp at hN
 have hH:∀ t,InH P1 P2 (padd (nmul P1 (t/n2)) (nmul P2 (t%n2))):=fun t=>⟨_,_,rfl⟩
 have hneg:∀ P,OnP b P->InH P1 P2 (pneg P)->InH P1 P2 P:=fun P _ h=>by have:=inH_neg hb o1 o2 k1 k2 hN h;rwa [pneg_pneg] at this
 have h2Q:¬ InH P1 P2 (padd Q Q):=fun h=>hQ (inH_half hb o1 o2 k1 k2 hodd no2 oQ h)
 have key:∀ c c',c<3->c'<3->c≠c'->∀ W,InH P1 P2 W->cQ Q c=padd (cQ Q c') W->False:=by
  intro c c' hc hc' hne W hW e
  have oW:=inH_on hb o1 o2 hW
  have oN:=pneg_onP oQ
  have hc:c=0\/c=1\/c=2:=by omega
  have hc':c'=0\/c'=1\/c'=2:=by omega
  have e0:cQ Q 0=O2:=rfl
  have e1:cQ Q 1=Q:=rfl
  have e2:cQ Q 2=pneg Q:=rfl
  rcases hc with rfl|rfl|rfl<;>rcases hc' with rfl|rfl|rfl
  ·exact hne rfl
  ·rw[e0,e1] at e
   have:=cancel hb oQ oW
   rw[<- e,add_O] at this
   exact hQ (hneg Q oQ (this▸hW))
  ·rw[e0,e2] at e
   have:=cancel hb oN oW
   rw[<- e,add_O,pneg_pneg] at this
   exact hQ (this▸hW)
  ·rw[e1,e0,O_add] at e
   exact hQ (e▸hW)
  ·exact hne rfl
  ·rw[e1,e2] at e
   have:padd Q Q=W:=by
    have:=cancel hb oN oW
    rw[<- e,pneg_pneg] at this
    exact this
   exact h2Q (this▸hW)
  ·rw[e2,e0,O_add] at e
   exact hQ (hneg Q oQ (e▸hW))
  ·rw[e2,e1] at e
   have:pneg (padd Q Q)=W:=by
    have:=cancel hb oQ oW
    rw[<- e] at this
    rw[<- this]
    exact pneg_add hb oQ oQ
   exact h2Q (hneg _ (padd_on hb oQ oQ) (this▸hW))
  ·exact hne rfl
 have:=pigeon B (3*(n1*n2)) (fun i=>code (padd (cQ Q (i/(n1*n2))) (padd (nmul P1 (i%(n1*n2)/n2)) (nmul P2 (i%(n1*n2)%n2))))) (fun i _=>hB _ (padd_on hb (cQ_on oQ _) (inH_on hb o1 o2 (hH _)))) (fun i j hi hj e=>by
  have e:=hinj _ _ (padd_on hb (cQ_on oQ _) (inH_on hb o1 o2 (hH _))) (padd_on hb (cQ_on oQ _) (inH_on hb o1 o2 (hH _))) e
  obtain⟨W,hW,eW,hz⟩:=inH_sub hb o1 o2 k1 k2 hN (cQ_on oQ _) (cQ_on oQ _) (hH _) (hH _) e
  have di:i/(n1*n2)<3:=Nat.div_lt_of_lt_mul (by rw[Nat.mul_comm];exact hi)
  have dj:j/(n1*n2)<3:=Nat.div_lt_of_lt_mul (by rw[Nat.mul_comm];exact hj)
  by_cases hc:i/(n1*n2)=j/(n1*n2)
  ·rw[hc] at eW
   have oc:=cQ_on oQ (j/(n1*n2))
   have hW0:W=O2:=by
    have:=cancel hb oc (inH_on hb o1 o2 hW)
    rw[<- eW,neg_add_self] at this
    exact this.symm
   have li:i%(n1*n2)<n1*n2:=Nat.mod_lt _ hN
   have lj:j%(n1*n2)<n1*n2:=Nat.mod_lt _ hN
   obtain⟨ea,ec⟩:=inH_inj hb o1 o2 k1 k2 ind (Nat.div_lt_of_lt_mul (by rw[Nat.mul_comm n2];exact li)) (Nat.div_lt_of_lt_mul (by rw[Nat.mul_comm n2];exact lj)) (Nat.mod_lt _ hn2) (Nat.mod_lt _ hn2) (hz hW0)
   have f1:=Nat.div_add_mod (i%(n1*n2)) n2
   have f2:=Nat.div_add_mod (j%(n1*n2)) n2
   have f3:=Nat.div_add_mod i (n1*n2)
   have f4:=Nat.div_add_mod j (n1*n2)
   rw[ea,ec,f2] at f1
   rw[<- f1,hc] at f3
   omega
  ·exact (key _ _ di dj hc W hW eW).elim)
 omega
omit k1 k2 o1 o2 in
theorem no2_of (hx:∀ x:F,x*x*x+b≠0) (P:F × F) (oP:OnP b P) (h:padd P P=O2):P=O2:=by
 rcases oP with rfl|oP
 ·rfl
 ·have:=cancel hb (.inr oP) (.inr oP)
  rw[h,add_O] at this
  have e : -P.2=P.2:=congrArg Prod.snd this
  have e0:=eq_neg_self e.symm
  have oP:P.2*P.2=P.1*P.1*P.1+b:=oP
  rw[e0,Rg.mul_zero] at oP
  exact absurd oP.symm (hx _)
omit k1 k2 in
theorem ind_all {k l l':Nat} (hl:Prm l) (hl':Prm l') (hll:Nat.Coprime l l') (hkl:Nat.Coprime k (l*l')) (k1:nmul P1 (k*(l*l'))=O2) (k2:nmul P2 (l*l')=O2)
  (hk:∀ a,nmul P1 a=O2->k∣a)
  (v1:nmul P2 l'≠O2) (j1:∀ j,j<l->padd (nmul P1 (k*l')) (nmul (nmul P2 l') j)≠O2)
  (v2:nmul P2 l≠O2) (j2:∀ j,j<l'->padd (nmul P1 (k*l)) (nmul (nmul P2 l) j)≠O2) (a c:Nat) (h:padd (nmul P1 a) (nmul P2 c)=O2):k*(l*l')∣a/\l*l'∣c:=by
 have h1:nmul (padd (nmul P1 a) (nmul P2 c)) (l*l')=O2:=by rw[h,nmul_O]
 rw[nmul_padd hb (nmul_on hb o1 _) (nmul_on hb o2 _),nmul_mul hb o1,nmul_mul hb o2,Nat.mul_comm c,<- nmul_mul hb o2,k2,nmul_O,add_O] at h1
 obtain⟨a',rfl⟩:k∣a:=hkl.dvd_of_dvd_mul_right (hk _ h1)
 have part:∀ {l l':Nat},Prm l->nmul P1 (k*(l*l'))=O2->nmul P2 (l*l')=O2->nmul P2 l'≠O2->(∀ j,j<l->padd (nmul P1 (k*l')) (nmul (nmul P2 l') j)≠O2)->l∣a'/\l∣c:=by
  intro l l' hl k1 k2 v1 j1
  have e:nmul (padd (nmul P1 (k*a')) (nmul P2 c)) l'=O2:=by rw[h,nmul_O]
  rw[nmul_padd hb (nmul_on hb o1 _) (nmul_on hb o2 _),nmul_mul hb o1,nmul_mul hb o2,show k*a'*l'=k*l'*a' by rw[Nat.mul_assoc,Nat.mul_comm a',Nat.mul_assoc],Nat.mul_comm c,<- nmul_mul hb o1,<- nmul_mul hb o2] at e
  exact ind2 hb (nmul_on hb o1 _) (nmul_on hb o2 _) hl (by rw[nmul_mul hb o1,Nat.mul_assoc,Nat.mul_comm l'];exact k1) (by rw[nmul_mul hb o2,Nat.mul_comm];exact k2) v1 j1 e
 obtain⟨d1,d2⟩:=part hl k1 k2 v1 j1
 obtain⟨d3,d4⟩:=part hl' (by rw[Nat.mul_comm l'];exact k1) (by rw[Nat.mul_comm l'];exact k2) v2 j2
 exact⟨Nat.mul_dvd_mul (Nat.dvd_refl k) (hll.mul_dvd_of_dvd_of_dvd d1 d3),hll.mul_dvd_of_dvd_of_dvd d2 d4⟩
end
end Cr
namespace Cr
theorem prm_1367711:Prm 1367711:=trial (f:=11) (by decide) (by decide) (by kernel_rfl)
theorem prm_541:Prm 541:=trial (f:=5) (by decide) (by decide) (by kernel_rfl)
theorem prm_12192593745179:Prm 12192593745179:=by
 refine Classical.byContradiction fun hp=>?_
 obtain⟨d,hd,hdn,hdd⟩:=small_prime (n:=12192593745179) (by decide) hp
 have h0:1367711∣d-1:=pock (k:=8914598) (a:=2) (f:=44) prm_1367711 (by kernel_rfl) (of_decide_eq_true (by kernel_rfl)) (by kernel_rfl) (by kernel_rfl) hd hdn
 have h1:541∣d-1:=pock (k:=22537141858) (a:=2) (f:=44) prm_541 (by kernel_rfl) (of_decide_eq_true (by kernel_rfl)) (by kernel_rfl) (by kernel_rfl) hd hdn
 have g1:1367711*541∣d-1:=Nat.Coprime.mul_dvd_of_dvd_of_dvd (show Nat.gcd 1367711 541=1 by kernel_rfl) h0 h1
 rw[show 1367711*541=739931651 by kernel_rfl] at g1
 exact pock_fin hd.1 g1 hdd (of_decide_eq_true (by kernel_rfl))
theorem prm_512088937297519:Prm 512088937297519:=by
 refine Classical.byContradiction fun hp=>?_
 obtain⟨d,hd,hdn,hdd⟩:=small_prime (n:=512088937297519) (by decide) hp
 have h0:12192593745179∣d-1:=pock (k:=42) (a:=2) (f:=49) prm_12192593745179 (by kernel_rfl) (of_decide_eq_true (by kernel_rfl)) (by kernel_rfl) (by kernel_rfl) hd hdn
 exact pock_fin hd.1 h0 hdd (of_decide_eq_true (by kernel_rfl))
theorem prm_1857858664515398933:Prm 1857858664515398933:=by
 refine Classical.byContradiction fun hp=>?_
 obtain⟨d,hd,hdn,hdd⟩:=small_prime (n:=1857858664515398933) (by decide) hp
 have h0:512088937297519∣d-1:=pock (k:=3628) (a:=2) (f:=61) prm_512088937297519 (by kernel_rfl) (of_decide_eq_true (by kernel_rfl)) (by kernel_rfl) (by kernel_rfl) hd hdn
 exact pock_fin hd.1 h0 hdd (of_decide_eq_true (by kernel_rfl))
theorem prm_22294303974184787197:Prm 22294303974184787197:=by
 refine Classical.byContradiction fun hp=>?_
 obtain⟨d,hd,hdn,hdd⟩:=small_prime (n:=22294303974184787197) (by decide) hp
 have h0:1857858664515398933∣d-1:=pock (k:=12) (a:=2) (f:=65) prm_1857858664515398933 (by kernel_rfl) (of_decide_eq_true (by kernel_rfl)) (by kernel_rfl) (by kernel_rfl) hd hdn
 exact pock_fin hd.1 h0 hdd (of_decide_eq_true (by kernel_rfl))
theorem prm_19931107752921199754119:Prm 19931107752921199754119:=by
 refine Classical.byContradiction fun hp=>?_
 obtain⟨d,hd,hdn,hdd⟩:=small_prime (n:=19931107752921199754119) (by decide) hp
 have h0:22294303974184787197∣d-1:=pock (k:=894) (a:=2) (f:=75) prm_22294303974184787197 (by kernel_rfl) (of_decide_eq_true (by kernel_rfl)) (by kernel_rfl) (by kernel_rfl) hd hdn
 exact pock_fin hd.1 h0 hdd (of_decide_eq_true (by kernel_rfl))
theorem prm_81162125843606155545104998607900118769099783:Prm 81162125843606155545104998607900118769099783:=by
 refine Classical.byContradiction fun hp=>?_
 obtain⟨d,hd,hdn,hdd⟩:=small_prime (n:=81162125843606155545104998607900118769099783) (by decide) hp
 have h0:19931107752921199754119∣d-1:=pock (k:=4072133212551150901578) (a:=2) (f:=146) prm_19931107752921199754119 (by kernel_rfl) (of_decide_eq_true (by kernel_rfl)) (by kernel_rfl) (by kernel_rfl) hd hdn
 exact pock_fin hd.1 h0 hdd (of_decide_eq_true (by kernel_rfl))
theorem prm_26935696298915610574513298451669528361624243820491956655650666425177:Prm 26935696298915610574513298451669528361624243820491956655650666425177:=by
 refine Classical.byContradiction fun hp=>?_
 obtain⟨d,hd,hdn,hdd⟩:=small_prime (n:=26935696298915610574513298451669528361624243820491956655650666425177) (by decide) hp
 have h0:81162125843606155545104998607900118769099783∣d-1:=pock (k:=331875194481953911837672) (a:=2) (f:=224) prm_81162125843606155545104998607900118769099783 (by kernel_rfl) (of_decide_eq_true (by kernel_rfl)) (by kernel_rfl) (by kernel_rfl) hd hdn
 exact pock_fin hd.1 h0 hdd (of_decide_eq_true (by kernel_rfl))
theorem prm_4638704574076146691498289350639807119782054683906549022985642612861209609656189848749536921852444848596916990932297:Prm 4638704574076146691498289350639807119782054683906549022985642612861209609656189848749536921852444848596916990932297:=by
 refine Classical.byContradiction fun hp=>?_
 obtain⟨d,hd,hdn,hdd⟩:=small_prime (n:=4638704574076146691498289350639807119782054683906549022985642612861209609656189848749536921852444848596916990932297) (by decide) hp
 have h0:26935696298915610574513298451669528361624243820491956655650666425177∣d-1:=pock (k:=172214021222941014338396330402661971150362189448) (a:=2) (f:=381) prm_26935696298915610574513298451669528361624243820491956655650666425177 (by kernel_rfl) (of_decide_eq_true (by kernel_rfl)) (by kernel_rfl) (by kernel_rfl) hd hdn
 exact pock_fin hd.1 h0 hdd (of_decide_eq_true (by kernel_rfl))
theorem prm_m:Prm 402096035359507321594726366720466575392706800671181159425656785868777272553337714697862511267018014931937703598282857976535744623203249:=by
 refine Classical.byContradiction fun hp=>?_
 obtain⟨d,hd,hdn,hdd⟩:=small_prime (n:=402096035359507321594726366720466575392706800671181159425656785868777272553337714697862511267018014931937703598282857976535744623203249) (by decide) hp
 have h0:4638704574076146691498289350639807119782054683906549022985642612861209609656189848749536921852444848596916990932297∣d-1:=pock (k:=86682828996409959984) (a:=2) (f:=448) prm_4638704574076146691498289350639807119782054683906549022985642612861209609656189848749536921852444848596916990932297 (by kernel_rfl) (of_decide_eq_true (by kernel_rfl)) (by kernel_rfl) (by kernel_rfl) hd hdn
 exact pock_fin hd.1 h0 hdd (of_decide_eq_true (by kernel_rfl))
theorem prm_13:Prm 13:=trial (f:=1) (by decide) (by decide) (by kernel_rfl)
theorem prm_23:Prm 23:=trial (f:=2) (by decide) (by decide) (by kernel_rfl)
theorem prm_2713:Prm 2713:=trial (f:=6) (by decide) (by decide) (by kernel_rfl)
theorem prm_11953:Prm 11953:=trial (f:=7) (by decide) (by decide) (by kernel_rfl)
theorem prm_262069:Prm 262069:=trial (f:=9) (by decide) (by decide) (by kernel_rfl)
end Cr
namespace Cr
open Rg Fd
structure Ev (F:Type) [Fd F] where
 V:Type
 φ:V->F
 add:V->V->V
 sub:V->V->V
 mul:V->V->V
 isz:V->Bool
 zero:V
 force:{α:Type}->V->(V->α)->α
 add_φ:∀ a b,φ (add a b)=φ a+φ b
 sub_φ:∀ a b,φ (sub a b)=φ a-φ b
 mul_φ:∀ a b,φ (mul a b)=φ a*φ b
 isz_φ:∀ a,isz a=true↔φ a=0
 zero_φ:φ zero=0
 force_eq:∀ {α:Type} (a:V) (k:V->α),force a k=k a
section
variable {F:Type} [Fd F] (E:Ev F)
abbrev Ev.J:=E.V × E.V × E.V
def Ev.φ3 (a:E.J):Jc F:=(E.φ a.1,E.φ a.2.1,E.φ a.2.2)
def Ev.dbl (a:E.J):E.J:=match E.isz a.2.2 with
 | true=>(E.zero,E.zero,E.zero)
 | false =>
  E.force (E.mul a.1 a.1) fun xx=>E.force (E.mul a.2.1 a.2.1) fun yy=>E.force (E.add (E.add xx xx) xx) fun sl =>
  E.force (E.mul a.1 yy) fun m1=>E.force (E.add m1 m1) fun m2=>E.force (E.add m2 m2) fun mid =>
  E.force (E.add yy yy) fun y2=>E.force (E.mul y2 y2) fun fall =>
  E.force (E.sub (E.sub (E.mul sl sl) mid) mid) fun x =>
  E.force (E.sub (E.sub (E.mul sl (E.sub mid x)) fall) fall) fun y =>
  E.force (E.mul a.2.1 a.2.2) fun z1=>E.force (E.add z1 z1) fun z=>(x,y,z)
theorem Ev.dbl_φ (a:E.J):E.φ3 (E.dbl a)=jdbl (E.φ3 a):=by
 unfold Ev.dbl jdbl
 cases h:E.isz a.2.2 with
 | true =>
  have:(E.φ3 a).2.2=0:=(E.isz_φ _).1 h
  rw[if_pos this]
  show (E.φ E.zero,E.φ E.zero,E.φ E.zero)=_
  rw[E.zero_φ]
 | false =>
  have:(E.φ3 a).2.2≠0:=fun e=>by have:=(E.isz_φ a.2.2).2 e;rw[h] at this;cases this
  rw[if_neg this]
  simp only[E.force_eq]
  simp only[Ev.φ3,jdbN,jdX,E.add_φ,E.sub_φ,E.mul_φ]
def Ev.jadd (a c:E.J):E.J:=match E.isz a.2.2 with
 | true=>c
 | false=>match E.isz c.2.2 with
  | true=>a
  | false =>
   E.force (E.mul a.2.2 a.2.2) fun aa=>E.force (E.mul c.2.2 c.2.2) fun bb =>
   E.force (E.mul a.1 bb) fun left=>E.force (E.mul c.1 aa) fun right =>
   E.force (E.mul (E.mul a.2.1 bb) c.2.2) fun low=>E.force (E.mul (E.mul c.2.1 aa) a.2.2) fun high =>
   E.force (E.sub right left) fun wide=>E.force (E.sub high low) fun rise =>
   match E.isz wide with
   | true=>match E.isz rise with
    | true=>E.dbl a
    | false=>(E.zero,E.zero,E.zero)
   | false =>
    E.force (E.mul wide wide) fun sq=>E.force (E.mul sq wide) fun cube=>E.force (E.mul left sq) fun l2 =>
    E.force (E.sub (E.sub (E.sub (E.mul rise rise) cube) l2) l2) fun x =>
    E.force (E.sub (E.mul rise (E.sub l2 x)) (E.mul low cube)) fun y =>
    E.force (E.mul (E.mul a.2.2 c.2.2) wide) fun z=>(x,y,z)
theorem Ev.jadd_φ (a c:E.J):E.φ3 (E.jadd a c)=Cr.jadd (E.φ3 a) (E.φ3 c):=by
 have nz:∀ v:E.V,E.isz v=false->E.φ v≠0:=fun v h e=>by have:=(E.isz_φ v).2 e;rw[h] at this;cases this
 unfold Ev.jadd Cr.jadd
 cases h:E.isz a.2.2 with
 | true=>rw[if_pos (show (E.φ3 a).2.2=0 from (E.isz_φ _).1 h)]
 | false =>
  rw[if_neg (show (E.φ3 a).2.2≠0 from nz _ h)]
  cases h2:E.isz c.2.2 with
  | true=>rw[if_pos (show (E.φ3 c).2.2=0 from (E.isz_φ _).1 h2)]
  | false =>
   rw[if_neg (show (E.φ3 c).2.2≠0 from nz _ h2)]
   simp only[E.force_eq]
   have ew:E.φ (E.sub (E.mul c.1 (E.mul a.2.2 a.2.2)) (E.mul a.1 (E.mul c.2.2 c.2.2)))=(E.φ3 c).1*((E.φ3 a).2.2*(E.φ3 a).2.2)-(E.φ3 a).1*((E.φ3 c).2.2*(E.φ3 c).2.2):=by simp only[Ev.φ3,E.sub_φ,E.mul_φ]
   have er:E.φ (E.sub (E.mul (E.mul c.2.1 (E.mul a.2.2 a.2.2)) a.2.2) (E.mul (E.mul a.2.1 (E.mul c.2.2 c.2.2)) c.2.2))=(E.φ3 c).2.1*((E.φ3 a).2.2*(E.φ3 a).2.2)*(E.φ3 a).2.2-(E.φ3 a).2.1*((E.φ3 c).2.2*(E.φ3 c).2.2)*(E.φ3 c).2.2:=by simp only[Ev.φ3,E.sub_φ,E.mul_φ]
   cases h3:E.isz (E.sub (E.mul c.1 (E.mul a.2.2 a.2.2)) (E.mul a.1 (E.mul c.2.2 c.2.2))) with
   | true =>
    have:=(E.isz_φ _).1 h3
    rw[ew] at this
    rw[if_pos this]
    cases h4:E.isz (E.sub (E.mul (E.mul c.2.1 (E.mul a.2.2 a.2.2)) a.2.2) (E.mul (E.mul a.2.1 (E.mul c.2.2 c.2.2)) c.2.2)) with
    | true =>
     have:=(E.isz_φ _).1 h4
     rw[er] at this
     rw[if_pos this]
     exact E.dbl_φ a
    | false =>
     have:=nz _ h4
     rw[er] at this
     rw[if_neg this]
     show (E.φ E.zero,E.φ E.zero,E.φ E.zero)=_
     rw[E.zero_φ]
   | false =>
    have:=nz _ h3
    rw[ew] at this
    rw[if_neg this]
    simp only[Ev.φ3,jfin,jaX,E.sub_φ,E.mul_φ]
def Ev.mul2 (o:E.J):Nat->Nat->E.J
 | 0,_=>(E.zero,E.zero,E.zero)
 | f+1,n=>match Nat.beq n 0 with
  | true=>(E.zero,E.zero,E.zero)
  | false=>match Nat.beq (n%2) 1 with
   | true=>E.jadd (E.dbl (Ev.mul2 o f (n/2))) o
   | false=>E.dbl (Ev.mul2 o f (n/2))
variable {E} in
theorem Ev.mul2_rep {b:F} (hb:b≠0) {o:E.J} {P:F × F} (ho:Rep b (E.φ3 o) P):∀ f n,n<2^f->Rep b (E.φ3 (E.mul2 o f n)) (nmul P n):=by
 have h0:Rep b (E.φ3 (E.zero,E.zero,E.zero)) (O2:F × F):=.inl ⟨E.zero_φ,rfl⟩
 intro f
 induction f with
 | zero=>intro n h;have:n=0:=by simp at h;exact h
         subst this;exact h0
 | succ f ih =>
  intro n h
  unfold Ev.mul2
  split
  ·rename_i hn;have:=Nat.eq_of_beq_eq_true hn;subst this;exact h0
  ·have hr:=ih (n/2) (by rw[Nat.pow_succ] at h;omega)
   have hd:=rep_dbl hb hr
   rw[<- E.dbl_φ,<- nmul_add hb ho.on] at hd
   split
   ·rename_i h1
    have h1:=Nat.eq_of_beq_eq_true h1
    have ha:=rep_add hb hd ho
    rw[<- E.jadd_φ] at ha
    have e:n=n/2+n/2+1:=by omega
    have:nmul P n=padd (nmul P (n/2+n/2)) P:=by
     conv=>lhs;rw[e]
     rfl
    rw[this]
    exact ha
   ·rename_i h1
    have h1:n%2≠1:=fun h2=>by rw[h2] at h1;exact absurd h1 (by decide)
    have e:n=n/2+n/2:=by omega
    have:nmul P n=nmul P (n/2+n/2):=by conv=>lhs;rw[e]
    rw[this]
    exact hd
end
end Cr
namespace Cr
open Rg Fd
def fc {α:Type} (n:Nat) (k:Nat->α):α:=Nat.rec (k 0) (fun m _=>k (m+1)) n
theorem fc_eq {α:Type} (n:Nat) (k:Nat->α):fc n k=k n:=by cases n<;>rfl
def pN:Nat:=4002409555221667393417789825735904156556882819939007885332058136124031650490837864442687629129015664037894272559787
theorem zm_nat (n:Nat):(zm ((n%pN:Nat):Int):Fp)=zm (n:Int):=zm_eq (by rw[Int.natCast_emod];exact Int.emod_emod_of_dvd _ (Int.dvd_refl _))
noncomputable def evP1:Ev Fp where
 V:=Nat
 φ n:=zm (n:Int)
 add a b:=(a+b)%pN
 sub a b:=(a+(pN-b%pN))%pN
 mul a b:=(a*b)%pN
 isz a:=Nat.beq (a%pN) 0
 zero:=0
 force:=fc
 add_φ a b:=by rw[zm_nat,zm_add,Int.natCast_add]
 sub_φ a b:=by
  rw[zm_nat,zm_sub]
  refine zm_eq ?_
  have h:=Nat.mod_lt b (show 0<pN by decide)
  have e:((a+(pN-b%pN):Nat):Int)=(a:Int)-b+(pN:Int)*(1+(b:Int)/pN):=by
   have h2:=Int.emod_add_mul_ediv (b:Int) (pN:Int)
   rw[Int.mul_add,Int.mul_one]
   omega
  rw[e]
  exact Int.add_mul_emod_self_left _ _ _
 mul_φ a b:=by rw[zm_nat,zm_mul,Int.natCast_mul]
 isz_φ a:=by
  constructor
  ·intro h
   have h:=Nat.eq_of_beq_eq_true h
   rw[<- zm_nat,h];rfl
  ·intro h
   have h:(zm (a:Int):Fp).v=0:=by rw[h,zero_v]
   have h:(a:Int)%(pN:Int)=0:=h
   have:a%pN=0:=by omega
   rw[this];rfl
 zero_φ:=rfl
 force_eq:=fc_eq
end Cr
namespace Cr
open Rg Fd Go.Eng
abbrev F6:=F2 × F2 × F2
def xi:F2:=((1:Fp),(1:Fp))
theorem f6_c1 {F:Type} [Rg F] (a b c d e f x:F):a*d+x*(b*f+c*e)=d*a+x*(e*c+f*b) :=
 rid [a,b,c,d,e,f,x] ((fun (a b c d e f x:PE)=>(a*d+x*(b*f+c*e))) (.v 0) (.v 1) (.v 2) (.v 3) (.v 4) (.v 5) (.v 6)) ((fun (a b c d e f x:PE)=>(d*a+x*(e*c+f*b))) (.v 0) (.v 1) (.v 2) (.v 3) (.v 4) (.v 5) (.v 6)) (by kernel_rfl)
theorem f6_c2 {F:Type} [Rg F] (a b c d e f x:F):a*e+b*d+x*(c*f)=d*b+e*a+x*(f*c) :=
 rid [a,b,c,d,e,f,x] ((fun (a b c d e f x:PE)=>(a*e+b*d+x*(c*f))) (.v 0) (.v 1) (.v 2) (.v 3) (.v 4) (.v 5) (.v 6)) ((fun (a b c d e f x:PE)=>(d*b+e*a+x*(f*c))) (.v 0) (.v 1) (.v 2) (.v 3) (.v 4) (.v 5) (.v 6)) (by kernel_rfl)
theorem f6_c3 {F:Type} [Rg F] (a b c d e f x:F):a*f+b*e+c*d=d*c+e*b+f*a :=
 rid [a,b,c,d,e,f,x] ((fun (a b c d e f x:PE)=>(a*f+b*e+c*d)) (.v 0) (.v 1) (.v 2) (.v 3) (.v 4) (.v 5) (.v 6)) ((fun (a b c d e f x:PE)=>(d*c+e*b+f*a)) (.v 0) (.v 1) (.v 2) (.v 3) (.v 4) (.v 5) (.v 6)) (by kernel_rfl)
theorem f6_s1 {F:Type} [Rg F] (a b c d e f g h k x:F):(a*d+x*(b*f+c*e))*g+x*((a*e+b*d+x*(c*f))*k+(a*f+b*e+c*d)*h)=a*(d*g+x*(e*k+f*h))+x*(b*(d*k+e*h+f*g)+c*(d*h+e*g+x*(f*k))) :=
 rid [a,b,c,d,e,f,g,h,k,x] ((fun (a b c d e f g h k x:PE)=>((a*d+x*(b*f+c*e))*g+x*((a*e+b*d+x*(c*f))*k+(a*f+b*e+c*d)*h))) (.v 0) (.v 1) (.v 2) (.v 3) (.v 4) (.v 5) (.v 6) (.v 7) (.v 8) (.v 9)) ((fun (a b c d e f g h k x:PE)=>(a*(d*g+x*(e*k+f*h))+x*(b*(d*k+e*h+f*g)+c*(d*h+e*g+x*(f*k))))) (.v 0) (.v 1) (.v 2) (.v 3) (.v 4) (.v 5) (.v 6) (.v 7) (.v 8) (.v 9)) (by kernel_rfl)
theorem f6_s2 {F:Type} [Rg F] (a b c d e f g h k x:F):(a*d+x*(b*f+c*e))*h+(a*e+b*d+x*(c*f))*g+x*((a*f+b*e+c*d)*k)=a*(d*h+e*g+x*(f*k))+b*(d*g+x*(e*k+f*h))+x*(c*(d*k+e*h+f*g)) :=
 rid [a,b,c,d,e,f,g,h,k,x] ((fun (a b c d e f g h k x:PE)=>((a*d+x*(b*f+c*e))*h+(a*e+b*d+x*(c*f))*g+x*((a*f+b*e+c*d)*k))) (.v 0) (.v 1) (.v 2) (.v 3) (.v 4) (.v 5) (.v 6) (.v 7) (.v 8) (.v 9)) ((fun (a b c d e f g h k x:PE)=>(a*(d*h+e*g+x*(f*k))+b*(d*g+x*(e*k+f*h))+x*(c*(d*k+e*h+f*g)))) (.v 0) (.v 1) (.v 2) (.v 3) (.v 4) (.v 5) (.v 6) (.v 7) (.v 8) (.v 9)) (by kernel_rfl)
theorem f6_s3 {F:Type} [Rg F] (a b c d e f g h k x:F):(a*d+x*(b*f+c*e))*k+(a*e+b*d+x*(c*f))*h+(a*f+b*e+c*d)*g=a*(d*k+e*h+f*g)+b*(d*h+e*g+x*(f*k))+c*(d*g+x*(e*k+f*h)) :=
 rid [a,b,c,d,e,f,g,h,k,x] ((fun (a b c d e f g h k x:PE)=>((a*d+x*(b*f+c*e))*k+(a*e+b*d+x*(c*f))*h+(a*f+b*e+c*d)*g)) (.v 0) (.v 1) (.v 2) (.v 3) (.v 4) (.v 5) (.v 6) (.v 7) (.v 8) (.v 9)) ((fun (a b c d e f g h k x:PE)=>(a*(d*k+e*h+f*g)+b*(d*h+e*g+x*(f*k))+c*(d*g+x*(e*k+f*h)))) (.v 0) (.v 1) (.v 2) (.v 3) (.v 4) (.v 5) (.v 6) (.v 7) (.v 8) (.v 9)) (by kernel_rfl)
theorem f6_o1 {F:Type} [Rg F] (a b c x:F):1*a+x*(0*c+0*b)=a :=
 rid [a,b,c,x] ((fun (a b c x:PE)=>(1*a+x*(0*c+0*b))) (.v 0) (.v 1) (.v 2) (.v 3)) ((fun (a b c x:PE)=>(a)) (.v 0) (.v 1) (.v 2) (.v 3)) (by kernel_rfl)
theorem f6_o2 {F:Type} [Rg F] (a b c x:F):1*b+0*a+x*(0*c)=b :=
 rid [a,b,c,x] ((fun (a b c x:PE)=>(1*b+0*a+x*(0*c))) (.v 0) (.v 1) (.v 2) (.v 3)) ((fun (a b c x:PE)=>(b)) (.v 0) (.v 1) (.v 2) (.v 3)) (by kernel_rfl)
theorem f6_o3 {F:Type} [Rg F] (a b c:F):1*c+0*b+0*a=c :=
 rid [a,b,c] ((fun (a b c:PE)=>(1*c+0*b+0*a)) (.v 0) (.v 1) (.v 2)) ((fun (a b c:PE)=>(c)) (.v 0) (.v 1) (.v 2)) (by kernel_rfl)
theorem f6_d1 {F:Type} [Rg F] (a b c d e f g h k x:F):(a+d)*g+x*((b+e)*k+(c+f)*h)=a*g+x*(b*k+c*h)+(d*g+x*(e*k+f*h)) :=
 rid [a,b,c,d,e,f,g,h,k,x] ((fun (a b c d e f g h k x:PE)=>((a+d)*g+x*((b+e)*k+(c+f)*h))) (.v 0) (.v 1) (.v 2) (.v 3) (.v 4) (.v 5) (.v 6) (.v 7) (.v 8) (.v 9)) ((fun (a b c d e f g h k x:PE)=>(a*g+x*(b*k+c*h)+(d*g+x*(e*k+f*h)))) (.v 0) (.v 1) (.v 2) (.v 3) (.v 4) (.v 5) (.v 6) (.v 7) (.v 8) (.v 9)) (by kernel_rfl)
theorem f6_d2 {F:Type} [Rg F] (a b c d e f g h k x:F):(a+d)*h+(b+e)*g+x*((c+f)*k)=a*h+b*g+x*(c*k)+(d*h+e*g+x*(f*k)) :=
 rid [a,b,c,d,e,f,g,h,k,x] ((fun (a b c d e f g h k x:PE)=>((a+d)*h+(b+e)*g+x*((c+f)*k))) (.v 0) (.v 1) (.v 2) (.v 3) (.v 4) (.v 5) (.v 6) (.v 7) (.v 8) (.v 9)) ((fun (a b c d e f g h k x:PE)=>(a*h+b*g+x*(c*k)+(d*h+e*g+x*(f*k)))) (.v 0) (.v 1) (.v 2) (.v 3) (.v 4) (.v 5) (.v 6) (.v 7) (.v 8) (.v 9)) (by kernel_rfl)
theorem f6_d3 {F:Type} [Rg F] (a b c d e f g h k:F):(a+d)*k+(b+e)*h+(c+f)*g=a*k+b*h+c*g+(d*k+e*h+f*g) :=
 rid [a,b,c,d,e,f,g,h,k] ((fun (a b c d e f g h k:PE)=>((a+d)*k+(b+e)*h+(c+f)*g)) (.v 0) (.v 1) (.v 2) (.v 3) (.v 4) (.v 5) (.v 6) (.v 7) (.v 8)) ((fun (a b c d e f g h k:PE)=>(a*k+b*h+c*g+(d*k+e*h+f*g))) (.v 0) (.v 1) (.v 2) (.v 3) (.v 4) (.v 5) (.v 6) (.v 7) (.v 8)) (by kernel_rfl)
section
variable {R:Type} [Rg R] (v:R)
noncomputable def cadd (x y:R × R × R):R × R × R:=opq (x.1+y.1,x.2.1+y.2.1,x.2.2+y.2.2)
noncomputable def csub (x y:R × R × R):R × R × R:=opq (x.1-y.1,x.2.1-y.2.1,x.2.2-y.2.2)
noncomputable def cneg (x:R × R × R):R × R × R:=opq (-x.1,-x.2.1,-x.2.2)
noncomputable def cmul (x y:R × R × R):R × R × R:=opq (x.1*y.1+v*(x.2.1*y.2.2+x.2.2*y.2.1),x.1*y.2.1+x.2.1*y.1+v*(x.2.2*y.2.2),x.1*y.2.2+x.2.1*y.2.1+x.2.2*y.1)
theorem cadd_def (x y:R × R × R):cadd x y=(x.1+y.1,x.2.1+y.2.1,x.2.2+y.2.2):=opq_eq _
theorem csub_def (x y:R × R × R):csub x y=(x.1-y.1,x.2.1-y.2.1,x.2.2-y.2.2):=opq_eq _
theorem cneg_def (x:R × R × R):cneg x=(-x.1,-x.2.1,-x.2.2):=opq_eq _
theorem cmul_def (x y:R × R × R):cmul v x y=(x.1*y.1+v*(x.2.1*y.2.2+x.2.2*y.2.1),x.1*y.2.1+x.2.1*y.1+v*(x.2.2*y.2.2),x.1*y.2.2+x.2.1*y.2.1+x.2.2*y.1):=opq_eq _
omit [Rg R] in
theorem cext {x y:R × R × R} (h1:x.1=y.1) (h2:x.2.1=y.2.1) (h3:x.2.2=y.2.2):x=y:=Prod.ext h1 (Prod.ext h2 h3)
theorem c_l1 (a b:R × R × R):cadd a b=cadd b a:=by rw[cadd_def,cadd_def,add_comm,add_comm a.2.1,add_comm a.2.2]
theorem c_l2 (a b c:R × R × R):cadd (cadd a b) c=cadd a (cadd b c):=by rw[cadd_def,cadd_def,cadd_def,cadd_def,add_assoc,add_assoc,add_assoc]
theorem c_l3 (a:R × R × R):cadd (0,0,0) a=a:=by rw[cadd_def,zero_add,zero_add,zero_add]
theorem c_l4 (a:R × R × R):cadd (cneg a) a=(0,0,0):=by rw[cadd_def,cneg_def,neg_add,neg_add,neg_add]
theorem c_l5 (a b:R × R × R):csub a b=cadd a (cneg b):=by rw[cadd_def,cneg_def,csub_def,Rg.sub_def,Rg.sub_def,Rg.sub_def]
theorem c_l6 (a b:R × R × R):cmul v a b=cmul v b a:=by rw[cmul_def,cmul_def];exact cext (f6_c1 _ _ _ _ _ _ _) (f6_c2 _ _ _ _ _ _ _) (f6_c3 _ _ _ _ _ _ (0:R))
theorem c_l7 (a b c:R × R × R):cmul v (cmul v a b) c=cmul v a (cmul v b c):=by rw[cmul_def,cmul_def,cmul_def,cmul_def];exact cext (f6_s1 _ _ _ _ _ _ _ _ _ _) (f6_s2 _ _ _ _ _ _ _ _ _ _) (f6_s3 _ _ _ _ _ _ _ _ _ _)
theorem c_l8 (a:R × R × R):cmul v (1,0,0) a=a:=by rw[cmul_def];exact cext (f6_o1 _ _ _ _) (f6_o2 _ _ _ _) (f6_o3 _ _ _)
theorem c_l9 (a b c:R × R × R):cmul v (cadd a b) c=cadd (cmul v a c) (cmul v b c):=by rw[cadd_def,cmul_def,cmul_def,cmul_def,cadd_def];exact cext (f6_d1 _ _ _ _ _ _ _ _ _ _) (f6_d2 _ _ _ _ _ _ _ _ _ _) (f6_d3 _ _ _ _ _ _ _ _ _)
end
noncomputable instance rgF6:Rg F6 where
 zero:=(0,0,0)
 one:=(1,0,0)
 add:=cadd
 sub:=csub
 neg:=cneg
 mul:=cmul xi
 add_comm:=c_l1
 add_assoc:=c_l2
 zero_add:=c_l3
 neg_add:=c_l4
 sub_def:=c_l5
 mul_comm:=c_l6 xi
 mul_assoc:=c_l7 xi
 one_mul:=c_l8 xi
 add_mul:=c_l9 xi
theorem F6.ext {x y:F6} (h1:x.1=y.1) (h2:x.2.1=y.2.1) (h3:x.2.2=y.2.2):x=y:=Prod.ext h1 (Prod.ext h2 h3)
theorem F6.add_def (x y:F6):x+y=(x.1+y.1,x.2.1+y.2.1,x.2.2+y.2.2):=cadd_def x y
theorem F6.sub_def (x y:F6):x-y=(x.1-y.1,x.2.1-y.2.1,x.2.2-y.2.2):=csub_def x y
theorem F6.neg_def (x:F6) : -x=(-x.1,-x.2.1,-x.2.2):=cneg_def x
theorem F6.mul_def (x y:F6):x*y=(x.1*y.1+xi*(x.2.1*y.2.2+x.2.2*y.2.1),x.1*y.2.1+x.2.1*y.1+xi*(x.2.2*y.2.2),x.1*y.2.2+x.2.1*y.2.1+x.2.2*y.1):=cmul_def xi x y
theorem f2_nn {F:Type} [Rg F] (a b c d:F):(a*c-b*d)*(a*c-b*d)+(a*d+b*c)*(a*d+b*c)=(a*a+b*b)*(c*c+d*d) :=
 rid [a,b,c,d] ((fun (a b c d:PE)=>((a*c-b*d)*(a*c-b*d)+(a*d+b*c)*(a*d+b*c))) (.v 0) (.v 1) (.v 2) (.v 3)) ((fun (a b c d:PE)=>((a*a+b*b)*(c*c+d*d))) (.v 0) (.v 1) (.v 2) (.v 3)) (by kernel_rfl)
noncomputable def nm2 (x:F2):Fp:=x.1*x.1+x.2*x.2
theorem nm2_mul (x y:F2):nm2 (x*y)=nm2 x*nm2 y:=by
 unfold nm2
 rw[F2.mul1,F2.mul2]
 exact f2_nn _ _ _ _
theorem nm2_xi:nm2 xi=1+1:=by
 unfold nm2 xi
 show (1:Fp)*1+1*1=1+1
 rw[one_mul]
section
variable {M:Int} [Md M]
theorem zpow_add' (x:Zm M) (m n:Nat):zpow x (m+n)=zpow x m*zpow x n:=by
 induction n with
 | zero=>show zpow x m=zpow x m*1;rw[mul_one]
 | succ n ih=>show zpow x (m+n)*x=zpow x m*(zpow x n*x);rw[ih,mul_assoc]
theorem zpow_mul' (x:Zm M) (m n:Nat):zpow x (m*n)=zpow (zpow x m) n:=by
 induction n with
 | zero=>rfl
 | succ n ih=>show zpow x (m*n+m)=zpow (zpow x m) n*zpow x m;rw[zpow_add',ih]
end
def fpP:Nat:=4002409555221667393417789825735904156556882819939007885332058136124031650490837864442687629129015664037894272559787
theorem fp_fermat {x:Fp} (hx:x≠0):zpow x (fpP-1)=1:=by
 have h1:=zm_fermat Mp_nat prm_p hx (n:=fpP-2) (of_decide_eq_true (by kernel_rfl))
 have h3:zpow x (fpP-1)=zpow x (fpP-2+1):=congrArg (zpow x) (of_decide_eq_true (by kernel_rfl))
 have h4:zpow x (fpP-2+1)=zpow x (fpP-2)*x:=rfl
 rw[h3,h4,mul_comm,h1]
def npm (m x:Nat):Nat->Nat->Nat
 | 0,_=>1
 | f+1,n=>match n with
  | 0=>1
  | n+1=>fc (npm m x f ((n+1)/2)) fun h=>match (n+1)%2 with
   | 0=>h*h%m
   | _=>h*h%m*x%m
theorem npm_eq (m x:Nat) (hm:1<m):∀ f n,n<2^f->npm m x f n=x^n%m
 | 0,n,h=>by
  have:n=0:=by simpa using h
  subst this
  show 1=1%m
  rw[Nat.mod_eq_of_lt hm]
 | f+1,0,_=>by show 1=1%m;rw[Nat.mod_eq_of_lt hm]
 | f+1,n+1,h=>by
  have ih:=npm_eq m x hm f ((n+1)/2) (by rw[Nat.pow_succ] at h;omega)
  rw[npm,fc_eq,ih]
  have e:n+1=(n+1)/2+(n+1)/2+(n+1)%2:=by omega
  have e2:x^(n+1)=x^((n+1)/2)*x^((n+1)/2)*x^((n+1)%2):=by rw[<- Nat.pow_add,<- Nat.pow_add,<- e]
  rw[e2]
  rcases Nat.mod_two_eq_zero_or_one (n+1) with h0|h0
  ·rw[h0,Nat.pow_zero,Nat.mul_one,<- Nat.mul_mod]
   rfl
  ·rw[h0,Nat.pow_one]
   show x^((n+1)/2)%m*(x^((n+1)/2)%m)%m*x%m=_
   rw[<- Nat.mul_mod,Nat.mul_mod (_%m) x,Nat.mod_mod,<- Nat.mul_mod]
theorem zpow_two_v (n:Nat):(zpow (1+1:Fp) n).v=((2^n%fpP:Nat):Int):=by
 rw[zpow_v]
 have:(1+1:Fp).v=2:=by decide
 rw[this,Mp_nat,Int.natCast_emod,Int.natCast_pow];rfl
theorem no_pow2 {s:Fp} {k:Nat} {q:Nat} (hq:q*k=fpP-1) (h:zpow s k=1+1):(2:Nat)^q%fpP=1:=by
 have hs:zpow (1+1:Fp) q=1:=by
  rw[<- h,<- zpow_mul',Nat.mul_comm,hq]
  refine fp_fermat ?_
  intro e
  subst e
  cases k with
  | zero=>rw[Nat.mul_zero] at hq;exact absurd hq (by decide)
  | succ k =>
   have:zpow (0:Fp) (k+1)=zpow (0:Fp) k*0:=rfl
   rw[this,mul_zero] at h
   exact absurd h (by decide)
 have h2:=zpow_two_v q
 rw[hs] at h2
 have:(1:Fp).v=1:=by decide
 rw[this] at h2
 omega
theorem two_sq:npm fpP 2 384 2001204777610833696708894912867952078278441409969503942666029068062015825245418932221343814564507832018947136279893=fpP-1:=by kernel_rfl
theorem two_cube:Nat.beq (npm fpP 2 384 1334136518407222464472596608578634718852294273313002628444019378708010550163612621480895876376338554679298090853262) 1=false:=by kernel_rfl
theorem xi_sq {s:F2} (h:s*s=xi):False:=by
 have e:=congrArg nm2 h
 rw[nm2_mul,nm2_xi] at e
 have k:=no_pow2 (s:=nm2 s) (k:=2) (q:=2001204777610833696708894912867952078278441409969503942666029068062015825245418932221343814564507832018947136279893) (of_decide_eq_true (by kernel_rfl)) (by
  show 1*nm2 s*nm2 s=1+1
  rw[one_mul];exact e)
 have t:=two_sq
 rw[npm_eq _ _ (by decide) 384 _ (of_decide_eq_true (by kernel_rfl)),k] at t
 exact absurd t (by decide)
theorem xi_cube {s:F2} (h:s*s*s=xi):False:=by
 have e:=congrArg nm2 h
 rw[nm2_mul,nm2_mul,nm2_xi] at e
 have k:=no_pow2 (s:=nm2 s) (k:=3) (q:=1334136518407222464472596608578634718852294273313002628444019378708010550163612621480895876376338554679298090853262) (of_decide_eq_true (by kernel_rfl)) (by
  show 1*nm2 s*nm2 s*nm2 s=1+1
  rw[one_mul];exact e)
 have t:=two_cube
 rw[npm_eq _ _ (by decide) 384 _ (of_decide_eq_true (by kernel_rfl)),k] at t
 exact absurd t (by decide)
theorem n6_id {F:Type} [Rg F] (a b c x:F):(a*(a*a-x*(b*c))+x*(c*(x*(c*c)-a*b)+b*(b*b-a*c)))*(x*(c*c*c)-b*b*b)=(x*(c*c)-a*b)*(x*(c*c)-a*b)*(x*(c*c)-a*b)+x*((c*a-b*b)*(c*a-b*b)*(c*a-b*b)) :=
 rid [a,b,c,x] ((fun (a b c x:PE)=>((a*(a*a-x*(b*c))+x*(c*(x*(c*c)-a*b)+b*(b*b-a*c)))*(x*(c*c*c)-b*b*b))) (.v 0) (.v 1) (.v 2) (.v 3)) ((fun (a b c x:PE)=>((x*(c*c)-a*b)*(x*(c*c)-a*b)*(x*(c*c)-a*b)+x*((c*a-b*b)*(c*a-b*b)*(c*a-b*b)))) (.v 0) (.v 1) (.v 2) (.v 3)) (by kernel_rfl)
theorem n6_c0 {F:Type} [Rg F] (a b x:F):a*(a*a-x*(b*0))+x*(0*(x*(0*0)-a*b)+b*(b*b-a*0))=a*a*a+x*(b*b*b) :=
 rid [a,b,x] ((fun (a b x:PE)=>(a*(a*a-x*(b*0))+x*(0*(x*(0*0)-a*b)+b*(b*b-a*0)))) (.v 0) (.v 1) (.v 2)) ((fun (a b x:PE)=>(a*a*a+x*(b*b*b))) (.v 0) (.v 1) (.v 2)) (by kernel_rfl)
theorem n6_t {F:Type} [Rg F] (a j:F):(- a*j)*(- a*j)*(- a*j)=-(a*a*a*(j*j*j)) :=
 rid [a,j] ((fun (a j:PE)=>((- a*j)*(- a*j)*(- a*j))) (.v 0) (.v 1)) ((fun (a j:PE)=>(-(a*a*a*(j*j*j)))) (.v 0) (.v 1)) (by kernel_rfl)
theorem n6_q {F:Type} [Rg F] (x c j:F):x*(c*c*c)*(j*j*j)=x*((c*j)*(c*j)*(c*j)) :=
 rid [x,c,j] ((fun (x c j:PE)=>(x*(c*c*c)*(j*j*j))) (.v 0) (.v 1) (.v 2)) ((fun (x c j:PE)=>(x*((c*j)*(c*j)*(c*j)))) (.v 0) (.v 1) (.v 2)) (by kernel_rfl)
theorem n6_p1 {F:Type} [Rg F] (b c a x:F):b*b*b-c*c*c*x=(-b)*(c*a-b*b)+(-c)*(x*(c*c)-a*b) :=
 rid [b,c,a,x] ((fun (b c a x:PE)=>(b*b*b-c*c*c*x)) (.v 0) (.v 1) (.v 2) (.v 3)) ((fun (b c a x:PE)=>((-b)*(c*a-b*b)+(-c)*(x*(c*c)-a*b))) (.v 0) (.v 1) (.v 2) (.v 3)) (by kernel_rfl)
theorem n6_p2 {F:Type} [Rg F] (b c j x:F):b*j*(b*j)*(b*j)-x*((c*j)*(c*j)*(c*j))=(j*j*j)*(b*b*b-c*c*c*x) :=
 rid [b,c,j,x] ((fun (b c j x:PE)=>(b*j*(b*j)*(b*j)-x*((c*j)*(c*j)*(c*j)))) (.v 0) (.v 1) (.v 2) (.v 3)) ((fun (b c j x:PE)=>((j*j*j)*(b*b*b-c*c*c*x))) (.v 0) (.v 1) (.v 2) (.v 3)) (by kernel_rfl)
theorem i6_1 {F:Type} [Rg F] (a b c x n:F):a*((a*a-x*(b*c))*n)+x*(b*((b*b-a*c)*n)+c*((x*(c*c)-a*b)*n))=(a*(a*a-x*(b*c))+x*(c*(x*(c*c)-a*b)+b*(b*b-a*c)))*n :=
 rid [a,b,c,x,n] ((fun (a b c x n:PE)=>(a*((a*a-x*(b*c))*n)+x*(b*((b*b-a*c)*n)+c*((x*(c*c)-a*b)*n)))) (.v 0) (.v 1) (.v 2) (.v 3) (.v 4)) ((fun (a b c x n:PE)=>((a*(a*a-x*(b*c))+x*(c*(x*(c*c)-a*b)+b*(b*b-a*c)))*n)) (.v 0) (.v 1) (.v 2) (.v 3) (.v 4)) (by kernel_rfl)
theorem i6_2 {F:Type} [Rg F] (a b c x n:F):a*((x*(c*c)-a*b)*n)+b*((a*a-x*(b*c))*n)+x*(c*((b*b-a*c)*n))=0 :=
 rid [a,b,c,x,n] ((fun (a b c x n:PE)=>(a*((x*(c*c)-a*b)*n)+b*((a*a-x*(b*c))*n)+x*(c*((b*b-a*c)*n)))) (.v 0) (.v 1) (.v 2) (.v 3) (.v 4)) ((fun (a b c x n:PE)=>(0)) (.v 0) (.v 1) (.v 2) (.v 3) (.v 4)) (by kernel_rfl)
theorem i6_3 {F:Type} [Rg F] (a b c x n:F):a*((b*b-a*c)*n)+b*((x*(c*c)-a*b)*n)+c*((a*a-x*(b*c))*n)=0 :=
 rid [a,b,c,x,n] ((fun (a b c x n:PE)=>(a*((b*b-a*c)*n)+b*((x*(c*c)-a*b)*n)+c*((a*a-x*(b*c))*n))) (.v 0) (.v 1) (.v 2) (.v 3) (.v 4)) ((fun (a b c x n:PE)=>(0)) (.v 0) (.v 1) (.v 2) (.v 3) (.v 4)) (by kernel_rfl)
theorem n6_sq {F:Type} [Rg F] (a b c x:F):(a*a+x*(b*c+c*b))*((a*a+x*(b*c+c*b))*(a*a+x*(b*c+c*b))-x*((a*b+b*a+x*(c*c))*(a*c+b*b+c*a)))+x*((a*c+b*b+c*a)*(x*((a*c+b*b+c*a)*(a*c+b*b+c*a))-(a*a+x*(b*c+c*b))*(a*b+b*a+x*(c*c)))+(a*b+b*a+x*(c*c))*((a*b+b*a+x*(c*c))*(a*b+b*a+x*(c*c))-(a*a+x*(b*c+c*b))*(a*c+b*b+c*a)))=(a*(a*a-x*(b*c))+x*(c*(x*(c*c)-a*b)+b*(b*b-a*c)))*(a*(a*a-x*(b*c))+x*(c*(x*(c*c)-a*b)+b*(b*b-a*c))) :=
 rid [a,b,c,x] ((fun (a b c x:PE)=>((a*a+x*(b*c+c*b))*((a*a+x*(b*c+c*b))*(a*a+x*(b*c+c*b))-x*((a*b+b*a+x*(c*c))*(a*c+b*b+c*a)))+x*((a*c+b*b+c*a)*(x*((a*c+b*b+c*a)*(a*c+b*b+c*a))-(a*a+x*(b*c+c*b))*(a*b+b*a+x*(c*c)))+(a*b+b*a+x*(c*c))*((a*b+b*a+x*(c*c))*(a*b+b*a+x*(c*c))-(a*a+x*(b*c+c*b))*(a*c+b*b+c*a))))) (.v 0) (.v 1) (.v 2) (.v 3)) ((fun (a b c x:PE)=>((a*(a*a-x*(b*c))+x*(c*(x*(c*c)-a*b)+b*(b*b-a*c)))*(a*(a*a-x*(b*c))+x*(c*(x*(c*c)-a*b)+b*(b*b-a*c))))) (.v 0) (.v 1) (.v 2) (.v 3)) (by kernel_rfl)
theorem n6_vv {F:Type} [Rg F] (x:F):0*(0*0-x*(1*0))+x*(0*(x*(0*0)-0*1)+1*(1*1-0*0))=x :=
 rid [x] ((fun (x:PE)=>(0*(0*0-x*(1*0))+x*(0*(x*(0*0)-0*1)+1*(1*1-0*0)))) (.v 0)) ((fun (x:PE)=>(x)) (.v 0)) (by kernel_rfl)
section
variable {R:Type} [Fd R] (x:R)
theorem c_lin (hx:∀ s:R,s*s*s=x->False) {a c:R} (h:a*a*a+x*(c*c*c)=0):a=0/\c=0:=by
 have hc:c=0:=by
  refine Classical.byContradiction fun hc=>?_
  have hi:=mul_inv c hc
  refine hx (-a*inv c) ?_
  have e:a*a*a=-(x*(c*c*c)):=by
   have:=neg_eq h
   rw[<- this,neg_neg]
  rw[n6_t,e,neg_mul,neg_neg]
  have:x*(c*c*c)*(inv c*inv c*inv c)=x*((c*inv c)*(c*inv c)*(c*inv c)):=n6_q _ _ _
  rw[this,hi,one_mul,one_mul,mul_one]
 refine⟨?_,hc⟩
 rw[hc,mul_zero,mul_zero,add_zero] at h
 rcases mul_eq_zero h with h|h
 ·rcases mul_eq_zero h with h|h<;>exact h
 ·exact h
def cadj (t:R × R × R):R × R × R:=(t.1*t.1-x*(t.2.1*t.2.2),x*(t.2.2*t.2.2)-t.1*t.2.1,t.2.1*t.2.1-t.1*t.2.2)
def cnm (t:R × R × R):R:=t.1*(t.1*t.1-x*(t.2.1*t.2.2))+x*(t.2.2*(x*(t.2.2*t.2.2)-t.1*t.2.1)+t.2.1*(t.2.1*t.2.1-t.1*t.2.2))
theorem cnm_ne (hx:∀ s:R,s*s*s=x->False) {t:R × R × R} (h:t≠(0,0,0)):cnm x t≠0:=by
 intro e
 unfold cnm at e
 by_cases hc:t.2.2=0
 ·rw[hc,n6_c0] at e
  obtain⟨h1,h2⟩:=c_lin x hx e
  exact h (cext h1 h2 hc)
 ·have k:=n6_id t.1 t.2.1 t.2.2 x
  rw[e,zero_mul] at k
  obtain⟨h1,h2⟩:=c_lin x hx k.symm
  have hi:=mul_inv _ hc
  refine hx (t.2.1*inv t.2.2) (eq_of_sub ?_)
  have p:=n6_p1 t.2.1 t.2.2 t.1 x
  rw[h1,h2,mul_zero,mul_zero,add_zero] at p
  have q:=n6_p2 t.2.1 t.2.2 (inv t.2.2) x
  rw[p,mul_zero,hi,one_mul,one_mul,mul_one] at q
  exact q
noncomputable def cinv (t:R × R × R):R × R × R:=opq ((cadj x t).1*inv (cnm x t),(cadj x t).2.1*inv (cnm x t),(cadj x t).2.2*inv (cnm x t))
theorem cinv_def (t:R × R × R):cinv x t=((cadj x t).1*inv (cnm x t),(cadj x t).2.1*inv (cnm x t),(cadj x t).2.2*inv (cnm x t)):=opq_eq _
theorem cinv_mul (hx:∀ s:R,s*s*s=x->False) {t:R × R × R} (h:t≠(0,0,0)):cmul x t (cinv x t)=(1,0,0):=by
 have hn:=mul_inv _ (cnm_ne x hx h)
 rw[cmul_def,cinv_def]
 exact cext ((i6_1 _ _ _ _ _).trans hn) (i6_2 _ _ _ _ _) (i6_3 _ _ _ _ _)
theorem cnm_sq (t:R × R × R):cnm x (cmul x t t)=cnm x t*cnm x t:=by
 rw[cmul_def]
 exact n6_sq t.1 t.2.1 t.2.2 x
theorem cnm_v:cnm x ((0:R),(1:R),(0:R))=x:=n6_vv x
end
noncomputable abbrev nm6 (t:F6):F2:=cnm xi t
noncomputable abbrev inv6 (t:F6):F6:=cinv xi t
noncomputable instance fdF6:Fd F6 where
 deq:=inferInstanceAs (DecidableEq (F2 × F2 × F2))
 inv:=inv6
 mul_inv _ h:=cinv_mul xi (fun _ e=>xi_cube e) h
 one_ne:=fun h=>absurd (congrArg Prod.fst h) one_ne
 two_ne:=fun h=>absurd (congrArg Prod.fst h) (by rw[F6.add_def];exact two_ne)
 three_ne:=fun h=>absurd (congrArg Prod.fst h) (by rw[F6.add_def,F6.add_def];exact three_ne)
end Cr
namespace Cr
open Rg
section
variable {F:Type} [Rg F]
def pwn (x:F):Nat->F
 | 0=>1
 | n+1=>pwn x n*x
theorem pwn_add (x:F) (m n:Nat):pwn x (m+n)=pwn x m*pwn x n:=by
 induction n with
 | zero=>show pwn x m=pwn x m*1;rw[mul_one]
 | succ n ih=>show pwn x (m+n)*x=pwn x m*(pwn x n*x);rw[ih,mul_assoc]
theorem pwn_mul (x:F) (m n:Nat):pwn x (m*n)=pwn (pwn x m) n:=by
 induction n with
 | zero=>rfl
 | succ n ih=>show pwn x (m*n+m)=pwn (pwn x m) n*pwn x m;rw[pwn_add,ih]
theorem pwn_prod (x y:F) (n:Nat):pwn (x*y) n=pwn x n*pwn y n:=by
 induction n with
 | zero=>show (1:F)=1*1;rw[one_mul]
 | succ n ih =>
  show pwn (x*y) n*(x*y)=pwn x n*x*(pwn y n*y)
  rw[ih,mul_assoc,mul_assoc,<- mul_assoc (pwn y n),mul_comm (pwn y n),mul_assoc x]
theorem pwn_one (n:Nat):pwn (1:F) n=1:=by
 induction n with
 | zero=>rfl
 | succ n ih=>show pwn (1:F) n*1=1;rw[ih,mul_one]
def sumN (f:Nat->F):Nat->F
 | 0=>0
 | n+1=>sumN f n+f n
def bc:Nat->Nat->Nat
 | _,0=>1
 | 0,_+1=>0
 | n+1,k+1=>bc n k+bc n (k+1)
end
end Cr
namespace Cr
open Rg Fd Go.Eng
abbrev F12:=F6 × F6
def vv:F6:=((0:F2),(1:F2),(0:F2))
section
variable {R:Type} [Rg R] (v:R)
end
theorem q_co1 {F:Type} [Rg F] (a b c d v:F):a*c+v*(b*d)=c*a+v*(d*b) :=
 rid [a,b,c,d,v] ((fun (a b c d v:PE)=>(a*c+v*(b*d))) (.v 0) (.v 1) (.v 2) (.v 3) (.v 4)) ((fun (a b c d v:PE)=>(c*a+v*(d*b))) (.v 0) (.v 1) (.v 2) (.v 3) (.v 4)) (by kernel_rfl)
theorem q_co2 {F:Type} [Rg F] (a b c d:F):a*d+b*c=c*b+d*a :=
 rid [a,b,c,d] ((fun (a b c d:PE)=>(a*d+b*c)) (.v 0) (.v 1) (.v 2) (.v 3)) ((fun (a b c d:PE)=>(c*b+d*a)) (.v 0) (.v 1) (.v 2) (.v 3)) (by kernel_rfl)
theorem q_as1 {F:Type} [Rg F] (a b c d e f v:F):(a*c+v*(b*d))*e+v*((a*d+b*c)*f)=a*(c*e+v*(d*f))+v*(b*(c*f+d*e)) :=
 rid [a,b,c,d,e,f,v] ((fun (a b c d e f v:PE)=>((a*c+v*(b*d))*e+v*((a*d+b*c)*f))) (.v 0) (.v 1) (.v 2) (.v 3) (.v 4) (.v 5) (.v 6)) ((fun (a b c d e f v:PE)=>(a*(c*e+v*(d*f))+v*(b*(c*f+d*e)))) (.v 0) (.v 1) (.v 2) (.v 3) (.v 4) (.v 5) (.v 6)) (by kernel_rfl)
theorem q_as2 {F:Type} [Rg F] (a b c d e f v:F):(a*c+v*(b*d))*f+(a*d+b*c)*e=a*(c*f+d*e)+b*(c*e+v*(d*f)) :=
 rid [a,b,c,d,e,f,v] ((fun (a b c d e f v:PE)=>((a*c+v*(b*d))*f+(a*d+b*c)*e)) (.v 0) (.v 1) (.v 2) (.v 3) (.v 4) (.v 5) (.v 6)) ((fun (a b c d e f v:PE)=>(a*(c*f+d*e)+b*(c*e+v*(d*f)))) (.v 0) (.v 1) (.v 2) (.v 3) (.v 4) (.v 5) (.v 6)) (by kernel_rfl)
theorem q_o1 {F:Type} [Rg F] (a b v:F):1*a+v*(0*b)=a :=
 rid [a,b,v] ((fun (a b v:PE)=>(1*a+v*(0*b))) (.v 0) (.v 1) (.v 2)) ((fun (a b v:PE)=>(a)) (.v 0) (.v 1) (.v 2)) (by kernel_rfl)
theorem q_o2 {F:Type} [Rg F] (a b:F):1*b+0*a=b :=
 rid [a,b] ((fun (a b:PE)=>(1*b+0*a)) (.v 0) (.v 1)) ((fun (a b:PE)=>(b)) (.v 0) (.v 1)) (by kernel_rfl)
theorem q_d1 {F:Type} [Rg F] (a b c d e f v:F):(a+c)*e+v*((b+d)*f)=a*e+v*(b*f)+(c*e+v*(d*f)) :=
 rid [a,b,c,d,e,f,v] ((fun (a b c d e f v:PE)=>((a+c)*e+v*((b+d)*f))) (.v 0) (.v 1) (.v 2) (.v 3) (.v 4) (.v 5) (.v 6)) ((fun (a b c d e f v:PE)=>(a*e+v*(b*f)+(c*e+v*(d*f)))) (.v 0) (.v 1) (.v 2) (.v 3) (.v 4) (.v 5) (.v 6)) (by kernel_rfl)
theorem q_d2 {F:Type} [Rg F] (a b c d e f:F):(a+c)*f+(b+d)*e=a*f+b*e+(c*f+d*e) :=
 rid [a,b,c,d,e,f] ((fun (a b c d e f:PE)=>((a+c)*f+(b+d)*e)) (.v 0) (.v 1) (.v 2) (.v 3) (.v 4) (.v 5)) ((fun (a b c d e f:PE)=>(a*f+b*e+(c*f+d*e))) (.v 0) (.v 1) (.v 2) (.v 3) (.v 4) (.v 5)) (by kernel_rfl)
section
variable {R:Type} [Rg R] (v:R)
noncomputable def qadd (x y:R × R):R × R:=opq (x.1+y.1,x.2+y.2)
noncomputable def qsub (x y:R × R):R × R:=opq (x.1-y.1,x.2-y.2)
noncomputable def qneg (x:R × R):R × R:=opq (-x.1,-x.2)
noncomputable def qmul (x y:R × R):R × R:=opq (x.1*y.1+v*(x.2*y.2),x.1*y.2+x.2*y.1)
theorem qadd_def (x y:R × R):qadd x y=(x.1+y.1,x.2+y.2):=opq_eq _
theorem qsub_def (x y:R × R):qsub x y=(x.1-y.1,x.2-y.2):=opq_eq _
theorem qneg_def (x:R × R):qneg x=(-x.1,-x.2):=opq_eq _
theorem qmul_def (x y:R × R):qmul v x y=(x.1*y.1+v*(x.2*y.2),x.1*y.2+x.2*y.1):=opq_eq _
theorem q_l1 (a b:R × R):qadd a b=qadd b a:=by rw[qadd_def,qadd_def,add_comm,add_comm a.2]
theorem q_l2 (a b c:R × R):qadd (qadd a b) c=qadd a (qadd b c):=by rw[qadd_def,qadd_def,qadd_def,qadd_def,add_assoc,add_assoc]
theorem q_l3 (a:R × R):qadd (0,0) a=a:=by rw[qadd_def,zero_add,zero_add]
theorem q_l4 (a:R × R):qadd (qneg a) a=(0,0):=by rw[qadd_def,qneg_def,neg_add,neg_add]
theorem q_l5 (a b:R × R):qsub a b=qadd a (qneg b):=by rw[qadd_def,qneg_def,qsub_def,Rg.sub_def,Rg.sub_def]
theorem q_l6 (a b:R × R):qmul v a b=qmul v b a:=by rw[qmul_def,qmul_def];exact Prod.ext (q_co1 a.1 a.2 b.1 b.2 v) (q_co2 a.1 a.2 b.1 b.2)
theorem q_l7 (a b c:R × R):qmul v (qmul v a b) c=qmul v a (qmul v b c):=by rw[qmul_def,qmul_def,qmul_def,qmul_def];exact Prod.ext (q_as1 a.1 a.2 b.1 b.2 c.1 c.2 v) (q_as2 a.1 a.2 b.1 b.2 c.1 c.2 v)
theorem q_l8 (a:R × R):qmul v (1,0) a=a:=by rw[qmul_def];exact Prod.ext (q_o1 a.1 a.2 v) (q_o2 a.1 a.2)
theorem q_l9 (a b c:R × R):qmul v (qadd a b) c=qadd (qmul v a c) (qmul v b c):=by rw[qadd_def,qmul_def,qmul_def,qmul_def,qadd_def];exact Prod.ext (q_d1 a.1 a.2 b.1 b.2 c.1 c.2 v) (q_d2 a.1 a.2 b.1 b.2 c.1 c.2)
end
noncomputable instance rgF12:Rg F12 where
 zero:=(0,0)
 one:=(1,0)
 add:=qadd
 sub:=qsub
 neg:=qneg
 mul:=qmul vv
 add_comm:=q_l1
 add_assoc:=q_l2
 zero_add:=q_l3
 neg_add:=q_l4
 sub_def:=q_l5
 mul_comm:=q_l6 vv
 mul_assoc:=q_l7 vv
 one_mul:=q_l8 vv
 add_mul:=q_l9 vv
theorem F12.ext {x y:F12} (h1:x.1=y.1) (h2:x.2=y.2):x=y:=Prod.ext h1 h2
theorem F12.add_def (x y:F12):x+y=(x.1+y.1,x.2+y.2):=qadd_def x y
theorem F12.sub_def (x y:F12):x-y=(x.1-y.1,x.2-y.2):=qsub_def x y
theorem F12.neg_def (x:F12) : -x=(-x.1,-x.2):=qneg_def x
theorem F12.mul_def (x y:F12):x*y=(x.1*y.1+vv*(x.2*y.2),x.1*y.2+x.2*y.1):=qmul_def vv x y
theorem F12.a1 (x y:F12):(x+y).1=x.1+y.1:=by rw[F12.add_def]
theorem F12.a2 (x y:F12):(x+y).2=x.2+y.2:=by rw[F12.add_def]
theorem F12.m1 (x y:F12):(x*y).1=x.1*y.1+vv*(x.2*y.2):=by rw[F12.mul_def]
theorem F12.m2 (x y:F12):(x*y).2=x.1*y.2+x.2*y.1:=by rw[F12.mul_def]
theorem nm6_sq (t:F6):nm6 (t*t)=nm6 t*nm6 t:=cnm_sq xi t
theorem nm6_vv:nm6 vv=xi:=cnm_v xi
theorem vv_sq {t:F6} (h:t*t=vv):False:=by
 have e:=congrArg nm6 h
 rw[nm6_sq,nm6_vv] at e
 exact xi_sq e
theorem q_nr {F:Type} [Rg F] (a b j v:F):(a*j)*(a*j)-v=(j*j)*(a*a-v*(b*b))+v*((b*j)*(b*j)-1) :=
 rid [a,b,j,v] ((fun (a b j v:PE)=>((a*j)*(a*j)-v)) (.v 0) (.v 1) (.v 2) (.v 3)) ((fun (a b j v:PE)=>((j*j)*(a*a-v*(b*b))+v*((b*j)*(b*j)-1))) (.v 0) (.v 1) (.v 2) (.v 3)) (by kernel_rfl)
theorem q_i1 {F:Type} [Rg F] (a b n v:F):a*(a*n)+v*(b * -(b*n))=(a*a-v*(b*b))*n :=
 rid [a,b,n,v] ((fun (a b n v:PE)=>(a*(a*n)+v*(b * -(b*n)))) (.v 0) (.v 1) (.v 2) (.v 3)) ((fun (a b n v:PE)=>((a*a-v*(b*b))*n)) (.v 0) (.v 1) (.v 2) (.v 3)) (by kernel_rfl)
theorem q_i2 {F:Type} [Rg F] (a b n:F):a * -(b*n)+b*(a*n)=0 :=
 rid [a,b,n] ((fun (a b n:PE)=>(a * -(b*n)+b*(a*n))) (.v 0) (.v 1) (.v 2)) ((fun (a b n:PE)=>(0)) (.v 0) (.v 1) (.v 2)) (by kernel_rfl)
section
variable {R:Type} [Fd R] (v:R)
theorem qnm_ne (hv:∀ t:R,t*t=v->False) {x:R × R} (h:x≠(0,0)):x.1*x.1-v*(x.2*x.2)≠0:=by
 intro e
 by_cases hb:x.2=0
 ·rw[hb,mul_zero,mul_zero,Rg.sub_def,neg_zero,add_zero] at e
  have ha:x.1=0:=by rcases mul_eq_zero e with e|e<;>exact e
  exact h (Prod.ext ha hb)
 ·have hi:=mul_inv x.2 hb
  refine hv (x.1*inv x.2) (eq_of_sub ?_)
  have k:=q_nr x.1 x.2 (inv x.2) v
  rw[e,hi,one_mul,sub_self,mul_zero,mul_zero,zero_add] at k
  exact k
noncomputable def qinv (x:R × R):R × R:=opq (x.1*inv (x.1*x.1-v*(x.2*x.2)),-(x.2*inv (x.1*x.1-v*(x.2*x.2))))
theorem qinv_def (x:R × R):qinv v x=(x.1*inv (x.1*x.1-v*(x.2*x.2)),-(x.2*inv (x.1*x.1-v*(x.2*x.2)))):=opq_eq _
theorem qinv_mul (hv:∀ t:R,t*t=v->False) {x:R × R} (h:x≠(0,0)):qmul v x (qinv v x)=(1,0):=by
 have hn:=mul_inv _ (qnm_ne v hv h)
 rw[qmul_def,qinv_def]
 exact Prod.ext ((q_i1 _ _ _ _).trans hn) (q_i2 _ _ _)
end
noncomputable abbrev inv12 (t:F12):F12:=qinv vv t
noncomputable instance fdF12:Fd F12 where
 deq:=inferInstanceAs (DecidableEq (F6 × F6))
 inv:=inv12
 mul_inv _ h:=qinv_mul vv (fun _ e=>vv_sq e) h
 one_ne:=fun h=>absurd (congrArg Prod.fst h) one_ne
 two_ne:=fun h=>absurd (congrArg Prod.fst h) (by rw[F12.add_def];exact two_ne)
 three_ne:=fun h=>absurd (congrArg Prod.fst h) (by rw[F12.add_def,F12.add_def];exact three_ne)
end Cr
namespace Cr
open Rg Fd
theorem zero_sub' {R:Type} [Rg R] (b:R):0-b=-b:=by rw[Rg.sub_def,zero_add]
end Cr
namespace Cr
open Rg Fd Go.Eng
theorem neg_z {F:Type} [Rg F]:(-0:F)=0:=by have h:=Rg.neg_add (0:F);rwa [add_zero] at h
theorem sub_z {F:Type} [Rg F] (x:F):x-0=x:=by rw[Rg.sub_def,neg_z,add_zero]
theorem zpow_pwn {M:Int} [Md M] (x:Zm M):∀ n,zpow x n=pwn x n
 | 0=>rfl
 | n+1=>by show zpow x n*x=pwn x n*x;rw[zpow_pwn x n]
theorem pw_2 (a:Fp):∀ n,pwn ((a,0):F2) n=(pwn a n,0)
 | 0=>rfl
 | n+1=>by
  show pwn ((a,0):F2) n*(a,0)=(pwn a n*a,0)
  rw[pw_2 a n,F2.mul_def]
  refine F2.ext ?_ ?_
  ·show pwn a n*a-0*0=_
   rw[zero_mul,sub_z]
  ·show pwn a n*0+0*a=0
   rw[mul_zero,zero_mul,zero_add]
def ii:F2:=((0:Fp),(1:Fp))
theorem ii_sq:ii*ii=(-1:F2):=by
 rw[F2.mul_def,F2.neg_def]
 refine F2.ext ?_ ?_
 ·show (0:Fp)*0-1*1=-1
  rw[zero_mul,one_mul,Rg.sub_def,zero_add]
 ·show (0:Fp)*1+1*0=-0
  rw[zero_mul,mul_zero,zero_add]
  exact Zm.ext (of_decide_eq_true (by kernel_rfl))
end Cr
namespace Cr
open Rg Fd Go.Eng
def e2 (c:F2):F12:=((c,(0:F2),(0:F2)),(0:F2),(0:F2),(0:F2))
def e6 (c:F2):F6:=(c,(0:F2),(0:F2))
def ww:F12:=(((0:F2),(0:F2),(0:F2)),(1:F2),(0:F2),(0:F2))
def cjg (x:F2):F2:=(x.1,-x.2)
theorem xi_two:xi*xi=(((1:Fp)+1,(0:Fp)):F2)*ii:=by
 rw[F2.mul_def,F2.mul_def]
 refine F2.ext ?_ ?_
 ·show (1:Fp)*1-1*1=(1+1)*0-0*1
  rw[mul_zero,one_mul,zero_mul,sub_z,Rg.sub_def,add_comm,Rg.neg_add]
 ·show (1:Fp)*1+1*1=(1+1)*1+0*0
  rw[mul_one,mul_one,mul_zero,add_zero]
theorem xi_pw {q m t:Nat} (hq:q=2*m+1) (hm:m=2*(2*t)+2+1):pwn xi q=(pwn ((1:Fp)+1) m,-pwn ((1:Fp)+1) m):=by
 have h2:pwn ii 2=(-1:F2):=by show 1*ii*ii=_;rw[one_mul,ii_sq]
 have h3:pwn (-1:F2) 2=1:=by show 1*(-1:F2) * -1=1;rw[one_mul,neg_mul,one_mul,neg_neg]
 have h4:pwn ii (2*(2*t))=1:=by rw[pwn_mul,h2,pwn_mul,h3,pwn_one]
 have h5:pwn ii m=-ii:=by
  rw[hm];show pwn ii (2*(2*t)+2)*ii=_
  rw[pwn_add,h4,h2,one_mul,neg_mul,one_mul]
 have h6:pwn xi 2=(((1:Fp)+1,(0:Fp)):F2)*ii:=by show 1*xi*xi=_;rw[one_mul,xi_two]
 rw[hq]
 show pwn xi (2*m)*xi=_
 rw[pwn_mul,h6,pwn_prod,pw_2,h5,F2.neg_def,F2.mul_def,F2.mul_def]
 obtain⟨u,hu⟩:∃ u,u=pwn ((1:Fp)+1) m:=⟨_,rfl⟩
 rw[<- hu]
 refine F2.ext ?_ ?_
 ·show (u * -0-0 * -1)*1-(u * -1+0 * -0)*1=u
  rw[neg_z,mul_zero,zero_mul,mul_zero,sub_z,add_zero,mul_one,mul_one,mul_comm,neg_mul,one_mul,Rg.sub_def,zero_add,neg_neg]
 ·show (u * -0-0 * -1)*1+(u * -1+0 * -0)*1=-u
  rw[neg_z,mul_zero,zero_mul,mul_zero,sub_z,add_zero,mul_one,mul_one,mul_comm,neg_mul,one_mul,zero_add]
end Cr
namespace Cr
open Rg Fd Go.Eng
end Cr
namespace Cr
open Rg Fd
def addN2 (a b:Nat):Nat:=(a+b)%pN
def subN2 (a b:Nat):Nat:=(a+(pN-b%pN))%pN
theorem addN2_φ (a b:Nat):(zm ((addN2 a b:Nat):Int):Fp)=zm (a:Int)+zm (b:Int):=evP1.add_φ a b
theorem subN2_φ (a b:Nat):(zm ((subN2 a b:Nat):Int):Fp)=zm (a:Int)-zm (b:Int):=evP1.sub_φ a b
noncomputable def evP2:Ev F2 where
 V:=Nat × Nat
 φ n:=(zm (n.1:Int),zm (n.2:Int))
 add a b:=(addN2 a.1 b.1,addN2 a.2 b.2)
 sub a b:=(subN2 a.1 b.1,subN2 a.2 b.2)
 mul a b:=(subN2 (a.1*b.1) (a.2*b.2),addN2 (a.1*b.2) (a.2*b.1))
 isz a:=Nat.beq (a.1%pN) 0&&Nat.beq (a.2%pN) 0
 zero:=(0,0)
 force a k:=fc a.1 fun x=>fc a.2 fun y=>k (x,y)
 add_φ a b:=by rw[F2.add_def,addN2_φ,addN2_φ]
 sub_φ a b:=by rw[F2.sub_def,subN2_φ,subN2_φ]
 mul_φ a b:=by
  rw[F2.mul_def,addN2_φ,subN2_φ]
  simp only[Int.natCast_mul,<- zm_mul]
 isz_φ a:=by
  rw[Bool.and_eq_true]
  have h1:=evP1.isz_φ a.1
  have h2:=evP1.isz_φ a.2
  constructor
  ·rintro⟨e1,e2⟩
   exact F2.ext (h1.1 e1) (h2.1 e2)
  ·intro e
   exact⟨h1.2 (congrArg Prod.fst e),h2.2 (congrArg Prod.snd e)⟩
 zero_φ:=rfl
 force_eq a k:=by rw[fc_eq,fc_eq]
end Cr
namespace Cr
open Rg Fd Go.Eng
abbrev V2:=Nat × Nat
abbrev V6:=V2 × V2 × V2
noncomputable def q2 (a:V2):F2:=evP2.φ a
noncomputable def q6 (a:V6):F6:=(q2 a.1,q2 a.2.1,q2 a.2.2)
def fo2 {α:Type} (a:V2) (k:V2->α):α:=fc a.1 fun x=>fc a.2 fun y=>k (x,y)
theorem fo2_eq {α:Type} (a:V2) (k:V2->α):fo2 a k=k a:=by rw[fo2,fc_eq,fc_eq]
def fo6 {α:Type} (a:V6) (k:V6->α):α:=fo2 a.1 fun x=>fo2 a.2.1 fun y=>fo2 a.2.2 fun z=>k (x,y,z)
theorem fo6_eq {α:Type} (a:V6) (k:V6->α):fo6 a k=k a:=by rw[fo6,fo2_eq,fo2_eq,fo2_eq]
def vadd (a b:V2):V2:=(addN2 a.1 b.1,addN2 a.2 b.2)
def vsub (a b:V2):V2:=(subN2 a.1 b.1,subN2 a.2 b.2)
def vmul (a b:V2):V2:=(subN2 (a.1*b.1) (a.2*b.2),addN2 (a.1*b.2) (a.2*b.1))
def vcj (a:V2):V2:=(a.1,subN2 0 a.2)
theorem q2_add (a b:V2):q2 (vadd a b)=q2 a+q2 b:=evP2.add_φ a b
theorem q2_sub (a b:V2):q2 (vsub a b)=q2 a-q2 b:=evP2.sub_φ a b
theorem q2_mul (a b:V2):q2 (vmul a b)=q2 a*q2 b:=evP2.mul_φ a b
theorem q2_zero:q2 (0,0)=0:=rfl
theorem q2_cj (a:V2):q2 (vcj a)=((q2 a).1,-(q2 a).2):=by
 refine F2.ext rfl ?_
 show (zm ((subN2 0 a.2:Nat):Int):Fp)=-zm (a.2:Int)
 rw[subN2_φ]
 show (0:Fp)-_=_
 rw[zero_sub']
end Cr
namespace Cr
open Rg Fd
section
variable {F:Type} [Fd F] {b:F}
def lv (A:F × F) (l:F) (R:F × F):F:=R.2-(A.2+l*(R.1-A.1))
variable (hb:b≠0)
include hb
theorem fn_same {xP yP xQ yQ xR yR l m u v l' m':F} (oP:On b xP yP) (oR:On b xR yR) (hl:Ln xP yP xQ yQ l) (hm:Ln (sx xP xQ l) (sy xP yP xQ l) xR yR m)
  (T2:xP+xQ+(u+l'*m')=(l'+m')*l) (f2P:fn u v l' m' xP yP=0) (f2R:fn u v l' m' xR yR=0) (h1:xR≠xP) (h2:xR≠xQ) (x y:F) :
  fn (sx xP xQ l) (sy xP yP xQ l) l m x y=fn u v l' m' x y:=by
 have f1P:fn (sx xP xQ l) (sy xP yP xQ l) l m xP yP=0:=fn1 hl.third
 have f1R:fn (sx xP xQ l) (sy xP yP xQ l) l m xR yR=0:=fn2 hm
 have T1:xP+xQ+(sx xP xQ l+l*m)=(l+m)*l:=i_T1 xP xQ l m
 have hne:yR≠yP+l*(xR-xP):=by
  intro hy
  rcases hl.which oP oR hy with e|e|e
  ·exact h1 e
  ·exact h2 e
  ·refine hm.not_neg hb (hl.sum_on oP) ⟨e.symm,?_⟩
   unfold sy
   rw[neg_neg,<- e]
   exact hy
 obtain⟨e1,e2,e3⟩:=same f1P f1R f2P f2R T1 T2 hne
 unfold fn
 rw[e1,e2,e3]
end
section
variable {F:Type} [Fd F] {b:F}
noncomputable def Vt (A R:F × F):F:=if A=O2 then 1 else R.1-A.1
noncomputable def Lt (A B R:F × F):F:=if A=O2 then Vt B R else if B=O2 then Vt A R else if A.1=B.1/\B.2=-A.2 then R.1-A.1 else lv A (slope A.1 A.2 B.1 B.2) R
variable (hb:b≠0)
include hb
end
end Cr
namespace Cr
open Rg Fd
section
variable {F:Type} [Fd F] {b:F}
instance mulAssoc : Std.Associative (α := F) (fun x y => x * y) := ⟨mul_assoc⟩
instance mulComm : Std.Commutative (α := F) (fun x y => x * y) := ⟨mul_comm⟩
structure Kill (F:Type) [Fd F] where
 χ:F->F
 mul:∀ x y,χ (x*y)=χ x*χ y
 one:χ 1=1
 neg:χ (-1)=1
noncomputable def mlS (Q R:F × F) (s:F × (F × F)):Bool->F × (F × F)
 | false=>(s.1*s.1*Lt s.2 s.2 R,padd s.2 s.2)
 | true=>(s.1*s.1*Lt s.2 s.2 R*Lt (padd s.2 s.2) Q R,padd (padd s.2 s.2) Q)
noncomputable def ml (Q R:F × F) (l:List Bool):F × (F × F):=l.foldl (mlS Q R) (1,Q)
variable (K:Kill F)
structure Grp (b:F) (K:Kill F) (R:F × F) (S:F × F->Prop):Prop where
 on:∀ A,S A->OnP b A
 add:∀ A B,S A->S B->S (padd A B)
 vt:∀ A,S A->K.χ (Vt A R)=1
variable {R:F × F} {S:F × F->Prop} (hb:b≠0) (oR:OnF b R) (g:Grp b K R S)
include hb
include oR g
end
section
variable {F:Type} [Fd F] {b:F} (K:Kill F)
variable (hb:b≠0)
include hb
structure Two (b:F) (K:Kill F) (S T:F × F->Prop):Prop where
 onS:∀ A,S A->OnP b A
 addS:∀ A B,S A->S B->S (padd A B)
 onT:∀ A,T A->OnP b A
 addT:∀ A B,T A->T B->T (padd A B)
 vt:∀ A R,S A->T R->A≠O2->R≠O2->K.χ (R.1-A.1)=1
variable {S T:F × F->Prop} (g:Two b K S T)
include g
end
end Cr
namespace Cr
open Rg Fd
theorem u_on {F:Type} [Rg F] (x y b u:F):y*(u*u*u)*(y*(u*u*u))-(x*(u*u)*(x*(u*u))*(x*(u*u))+b*(u*u*u*(u*u*u)))=(u*u*u*(u*u*u))*(y*y-(x*x*x+b)) :=
 rid [x,y,b,u] ((fun (x y b u:PE)=>(y*(u*u*u)*(y*(u*u*u))-(x*(u*u)*(x*(u*u))*(x*(u*u))+b*(u*u*u*(u*u*u))))) (.v 0) (.v 1) (.v 2) (.v 3)) ((fun (x y b u:PE)=>((u*u*u*(u*u*u))*(y*y-(x*x*x+b)))) (.v 0) (.v 1) (.v 2) (.v 3)) (by kernel_rfl)
theorem u_l1 {F:Type} [Rg F] (x1 y1 x2 y2 l u:F):l*u*(x2*(u*u)-x1*(u*u))-(y2*(u*u*u)-y1*(u*u*u))=(u*u*u)*(l*(x2-x1)-(y2-y1)) :=
 rid [x1,y1,x2,y2,l,u] ((fun (x1 y1 x2 y2 l u:PE)=>(l*u*(x2*(u*u)-x1*(u*u))-(y2*(u*u*u)-y1*(u*u*u)))) (.v 0) (.v 1) (.v 2) (.v 3) (.v 4) (.v 5)) ((fun (x1 y1 x2 y2 l u:PE)=>((u*u*u)*(l*(x2-x1)-(y2-y1)))) (.v 0) (.v 1) (.v 2) (.v 3) (.v 4) (.v 5)) (by kernel_rfl)
theorem u_l2 {F:Type} [Rg F] (x1 y1 x2 y2 l u:F):l*u*(y1*(u*u*u)+y2*(u*u*u))-(x1*(u*u)*(x1*(u*u))+x1*(u*u)*(x2*(u*u))+x2*(u*u)*(x2*(u*u)))=(u*u*u*u)*(l*(y1+y2)-(x1*x1+x1*x2+x2*x2)) :=
 rid [x1,y1,x2,y2,l,u] ((fun (x1 y1 x2 y2 l u:PE)=>(l*u*(y1*(u*u*u)+y2*(u*u*u))-(x1*(u*u)*(x1*(u*u))+x1*(u*u)*(x2*(u*u))+x2*(u*u)*(x2*(u*u))))) (.v 0) (.v 1) (.v 2) (.v 3) (.v 4) (.v 5)) ((fun (x1 y1 x2 y2 l u:PE)=>((u*u*u*u)*(l*(y1+y2)-(x1*x1+x1*x2+x2*x2)))) (.v 0) (.v 1) (.v 2) (.v 3) (.v 4) (.v 5)) (by kernel_rfl)
theorem u_sx {F:Type} [Rg F] (x1 x2 l u:F):l*u*(l*u)-x1*(u*u)-x2*(u*u)=(l*l-x1-x2)*(u*u) :=
 rid [x1,x2,l,u] ((fun (x1 x2 l u:PE)=>(l*u*(l*u)-x1*(u*u)-x2*(u*u))) (.v 0) (.v 1) (.v 2) (.v 3)) ((fun (x1 x2 l u:PE)=>((l*l-x1-x2)*(u*u))) (.v 0) (.v 1) (.v 2) (.v 3)) (by kernel_rfl)
theorem u_sy {F:Type} [Rg F] (x1 y1 s l u:F) : -(y1*(u*u*u)+l*u*(s*(u*u)-x1*(u*u)))=-(y1+l*(s-x1))*(u*u*u) :=
 rid [x1,y1,s,l,u] ((fun (x1 y1 s l u:PE)=>(-(y1*(u*u*u)+l*u*(s*(u*u)-x1*(u*u))))) (.v 0) (.v 1) (.v 2) (.v 3) (.v 4)) ((fun (x1 y1 s l u:PE)=>(-(y1+l*(s-x1))*(u*u*u))) (.v 0) (.v 1) (.v 2) (.v 3) (.v 4)) (by kernel_rfl)
theorem u_ng {F:Type} [Rg F] (y u:F) : -y*(u*u*u)=-(y*(u*u*u)) :=
 rid [y,u] ((fun (y u:PE)=>(-y*(u*u*u))) (.v 0) (.v 1)) ((fun (y u:PE)=>(-(y*(u*u*u)))) (.v 0) (.v 1)) (by kernel_rfl)
section
variable {F G:Type} [Fd F] [Fd G]
structure Hm (f:F->G):Prop where
 add:∀ x y,f (x+y)=f x+f y
 mul:∀ x y,f (x*y)=f x*f y
 neg:∀ x,f (-x)=-f x
 one:f 1=1
 inj:∀ x,f x=0->x=0
variable {f:F->G} (H:Hm f)
include H
theorem Hm.zero:f 0=0:=by
 have h:=H.add 0 0
 rw[add_zero] at h
 have h2:f 0+f 0=f 0+0:=by rw[add_zero];exact h.symm
 exact add_left h2
theorem Hm.sub (x y:F):f (x-y)=f x-f y:=by rw[Rg.sub_def,Rg.sub_def,H.add,H.neg]
theorem Hm.eq {x y:F} (h:f x=f y):x=y:=eq_of_sub (H.inj _ (by rw[H.sub,h,sub_self]))
omit H in
def tws (f:F->G) (u:G) (A:F × F):G × G:=(f A.1*(u*u),f A.2*(u*u*u))
variable {u:G}
theorem tws_O:tws f u O2=O2:=by
 show (f 0*(u*u),f 0*(u*u*u))=_
 rw[H.zero,zero_mul,zero_mul]
theorem tws_neg (A:F × F):tws f u (pneg A)=pneg (tws f u A):=by
 show (f A.1*(u*u),f (-A.2)*(u*u*u))=(f A.1*(u*u),-(f A.2*(u*u*u)))
 rw[H.neg,u_ng]
variable {b:F} {b':G} (eb:b'=f b*(u*u*u*(u*u*u)))
include eb
theorem tws_on {A:F × F} (h:OnF b A):OnF b' (tws f u A):=by
 have h1:A.2*A.2=A.1*A.1*A.1+b:=h
 have h2:=congrArg f h1
 rw[H.mul,H.add,H.mul,H.mul] at h2
 show f A.2*(u*u*u)*(f A.2*(u*u*u))=f A.1*(u*u)*(f A.1*(u*u))*(f A.1*(u*u))+b'
 rw[eb]
 exact lc1 _ (u_on _ _ _ _) h2
theorem tws_onP {A:F × F} (h:OnP b A):OnP b' (tws f u A):=by
 rcases h with rfl|h
 ·exact .inl (tws_O H)
 ·exact .inr (tws_on H eb h)
omit eb in
theorem tws_ln {A B:F × F} {l:F} (h:LnP A B l):LnP (tws f u A) (tws f u B) (f l*u):=by
 have h1:=congrArg f h.1
 have h2:=congrArg f h.2
 rw[H.mul,H.sub,H.sub] at h1
 rw[H.mul,H.add,H.add,H.add,H.mul,H.mul,H.mul] at h2
 exact⟨lc1 _ (u_l1 _ _ _ _ _ _) h1,lc1 _ (u_l2 _ _ _ _ _ _) h2⟩
variable (hb:b≠0) (hb':b'≠0)
include hb hb'
theorem tws_add {A B:F × F} (oA:OnP b A) (oB:OnP b B):tws f u (padd A B)=padd (tws f u A) (tws f u B):=by
 rcases oA with rfl|oA
 ·rw[tws_O H,O_add,O_add]
 rcases oB with rfl|oB
 ·rw[tws_O H,add_O,add_O]
 rcases ln_or oA oB with rfl|⟨l,h⟩
 ·rw[tws_neg H,add_neg_self,add_neg_self,tws_O H]
 ·rw[padd_ln hb oA oB h,padd_ln hb' (tws_on H eb oA) (tws_on H eb oB) (tws_ln H h)]
  have e1:f (sx A.1 B.1 l)*(u*u)=sx (f A.1*(u*u)) (f B.1*(u*u)) (f l*u):=by
   show f (l*l-A.1-B.1)*(u*u)=f l*u*(f l*u)-f A.1*(u*u)-f B.1*(u*u)
   rw[H.sub,H.sub,H.mul];exact (u_sx _ _ _ _).symm
  refine Prod.ext e1 ?_
  show f (-(A.2+l*(sx A.1 B.1 l-A.1)))*(u*u*u)=-(f A.2*(u*u*u)+f l*u*(sx (f A.1*(u*u)) (f B.1*(u*u)) (f l*u)-f A.1*(u*u)))
  rw[<- e1,H.neg,H.add,H.mul,H.sub];exact (u_sy _ _ _ _ _).symm
end
section
variable {F G:Type} [Fd F] [Fd G] {f:F->G} (H:Hm f) {b:F} {b':G} (eb:b'=f b) (hb:b≠0) (hb':b'≠0)
def hmp (f:F->G) (A:F × F):G × G:=(f A.1,f A.2)
include H in
include H eb in
include H eb in
include H in
include H in
include H eb hb hb'
end
end Cr
namespace Cr
noncomputable section
open Rg Fd Go.Eng
def tb:F2:=(zm 4,zm 4)
theorem tb_ne:tb≠0:=fun h=>absurd (congrArg Prod.fst h) (by decide)
def kN:Nat:=179184598021607201395328336867808778623227034365729160298681049842686063338121018147455353735441364525843719707164066765927216767229676667218777623574602578604133367281659313250333219842201540931831568844813240003724377679117
def hN:Nat:=209869847837335686905080341498658477663839067235703451875306851526599783796572738804459333109033834234622528588876978987822447936461846631641690358257586228683615991308971558879306463436166481
def p1x:V2:=(2,0)
def p1y:V2:=(188995492400578496451910581292546059920654572609832469388872107051048741028892423057992033888655218419282460458611,434381874456081807472298918693162486998243066160460423017297172308631992219110538691921044767658182807847155297615)
def p2x:V2:=(3502097864753066570550148371418669739303915645354957993882158272604968504426138630742300340054213004101649122574995,3191109489096775307193507002606793236600709294888301722308519387708220704158284978609877783087598478210803037831895)
def p2y:V2:=(1120128434309428118703815378359973697067986923993178994101501066809893730950108659182691351312157851099523537033621,3284094733358660625011281814609151989521685951164705617572026484241640633985466418925372124277545495873312627274873)
def irv:V2:=(877076961050607968509681729531255177986764537961432449499635504522207616027455086505066378536590128544573588734230,877076961050607968509681729531255177986764537961432449499635504522207616027455086505066378536590128544573588734230)
abbrev J3:=V2 × V2 × V2
def jp (x y:V2):J3:=(x,y,((1:Nat),(0:Nat)))
def j3 (t:J3):F2 × F2 × F2:=evP2.φ3 t
def onc (x y:V2):Bool:=Nat.beq (vsub (vmul y y) (vadd (vmul (vmul x x) x) (4,4))).1 0&&Nat.beq (vsub (vmul y y) (vadd (vmul (vmul x x) x) (4,4))).2 0
theorem onc_ok {x y:V2} (h:onc x y=true):OnF tb (q2 x,q2 y):=by
 unfold onc at h
 rw[Bool.and_eq_true] at h
 have h1:q2 (vsub (vmul y y) (vadd (vmul (vmul x x) x) (4,4)))=0:=by
  refine (evP2.isz_φ _).1 ?_
  show (Nat.beq (_%pN) 0&&Nat.beq (_%pN) 0)=true
  rw[Nat.eq_of_beq_eq_true h.1,Nat.eq_of_beq_eq_true h.2];rfl
 rw[q2_sub,q2_add,q2_mul,q2_mul,q2_mul] at h1
 exact eq_of_sub h1
theorem jp_rep {x y:V2} (h:OnF tb (q2 x,q2 y)):Rep tb (j3 (jp x y)) (q2 x,q2 y) :=
 .inr ⟨one_ne,by show q2 x=q2 x*(1*1);rw[mul_one,mul_one],by show q2 y=q2 y*(1*(1*1));rw[mul_one,mul_one,mul_one],h⟩
theorem rep_z {t:J3} {P:F2 × F2} (h:Rep tb (j3 t) P):evP2.isz t.2.2=true↔P=O2:=by
 have hi:=evP2.isz_φ t.2.2
 rcases h with ⟨h1,h2⟩|⟨h1,_,_,h2⟩
 ·exact⟨fun _=>h2,fun _=>hi.2 h1⟩
 ·exact⟨fun e=>absurd (hi.1 e) h1,fun e=>absurd e (on_ne tb_ne h2)⟩
def T1:F2 × F2:=(q2 p1x,q2 p1y)
def T2:F2 × F2:=(q2 p2x,q2 p2y)
def o1:J3:=jp p1x p1y
def o2:J3:=jp p2x p2y
theorem T1_on:OnF tb T1:=onc_ok (by kernel_rfl)
theorem T2_on:OnF tb T2:=onc_ok (by kernel_rfl)
theorem T1_rep:Rep tb (j3 o1) T1:=jp_rep T1_on
theorem T2_rep:Rep tb (j3 o2) T2:=jp_rep T2_on
def mj (o:J3) (n:Nat):J3:=evP2.mul2 o 760 n
theorem mj_rep {o:J3} {P:F2 × F2} (h:Rep tb (j3 o) P) {n:Nat} (hn:n<2^760):Rep tb (j3 (mj o n)) (nmul P n):=Ev.mul2_rep tb_ne h 760 n hn
theorem k_z1:evP2.isz (mj o1 (kN*299)).2.2=true:=by kernel_rfl
theorem k_z2:evP2.isz (mj o2 299).2.2=true:=by kernel_rfl
theorem T1_k:nmul T1 (kN*299)=O2:=(rep_z (mj_rep T1_rep (of_decide_eq_true (by kernel_rfl)))).1 k_z1
theorem T2_k:nmul T2 299=O2:=(rep_z (mj_rep T2_rep (of_decide_eq_true (by kernel_rfl)))).1 k_z2
theorem nz_of {o:J3} {P:F2 × F2} (h:Rep tb (j3 o) P) {n:Nat} (hn:n<2^760) (hz:evP2.isz (mj o n).2.2=false):nmul P n≠O2:=fun e=>by
 have:=(rep_z (mj_rep h hn)).2 e
 rw[hz] at this;cases this
theorem z_0:evP2.isz (mj o1 19747952380560469302323322050672622487410572530539262414045570918895367835642530197600129291152586801779311534258037583122830008625755003132478624935055720974064090238561052215941626514123944245712362360707393572102318070791).2.2=false:=by kernel_rfl
theorem z_1:evP2.isz (mj o1 4482238334180586732803745731069591299953558376587720148021888555422331878030468035312402808240355391385198041700163637832530562486545078515721116828311400569115358221134119857931032605439493076099526402124919163483107916511).2.2=false:=by kernel_rfl
theorem z_2:evP2.isz (mj o1 204435453290776677963449216517309658175308347325906608295165143160629959812485202088339905776329775720238838597629082276088502697387609078137492452174069313816727185654221348812143491724768136401549359461054755660202423507).2.2=false:=by kernel_rfl
theorem z_3:evP2.isz (mj o1 133242285665808607076488378322626308017882680317454143660064485930450545651671235455237836767).2.2=false:=by kernel_rfl
theorem z_4:evP2.isz (mj o1 1021746936224977739802674759843215733158749228274876731329980043418955197936360816142165308893846079758636364010172630974200012787218635773765140678191).2.2=false:=by kernel_rfl
theorem T1_dvd (a:Nat) (ha:nmul T1 a=O2):kN∣a:=by
 have oT:OnP tb T1:=.inr T1_on
 have d0:2713∣a:=ord_dvd tb_ne oT prm_2713 (n:=19747952380560469302323322050672622487410572530539262414045570918895367835642530197600129291152586801779311534258037583122830008625755003132478624935055720974064090238561052215941626514123944245712362360707393572102318070791) (by rw[show 19747952380560469302323322050672622487410572530539262414045570918895367835642530197600129291152586801779311534258037583122830008625755003132478624935055720974064090238561052215941626514123944245712362360707393572102318070791*2713=kN*299 from of_decide_eq_true (by kernel_rfl)];exact T1_k) (nz_of T1_rep (of_decide_eq_true (by kernel_rfl)) z_0) ha
 have d1:11953∣a:=ord_dvd tb_ne oT prm_11953 (n:=4482238334180586732803745731069591299953558376587720148021888555422331878030468035312402808240355391385198041700163637832530562486545078515721116828311400569115358221134119857931032605439493076099526402124919163483107916511) (by rw[show 4482238334180586732803745731069591299953558376587720148021888555422331878030468035312402808240355391385198041700163637832530562486545078515721116828311400569115358221134119857931032605439493076099526402124919163483107916511*11953=kN*299 from of_decide_eq_true (by kernel_rfl)];exact T1_k) (nz_of T1_rep (of_decide_eq_true (by kernel_rfl)) z_1) ha
 have d2:262069∣a:=ord_dvd tb_ne oT prm_262069 (n:=204435453290776677963449216517309658175308347325906608295165143160629959812485202088339905776329775720238838597629082276088502697387609078137492452174069313816727185654221348812143491724768136401549359461054755660202423507) (by rw[show 204435453290776677963449216517309658175308347325906608295165143160629959812485202088339905776329775720238838597629082276088502697387609078137492452174069313816727185654221348812143491724768136401549359461054755660202423507*262069=kN*299 from of_decide_eq_true (by kernel_rfl)];exact T1_k) (nz_of T1_rep (of_decide_eq_true (by kernel_rfl)) z_2) ha
 have d3:402096035359507321594726366720466575392706800671181159425656785868777272553337714697862511267018014931937703598282857976535744623203249∣a:=ord_dvd tb_ne oT prm_m (n:=133242285665808607076488378322626308017882680317454143660064485930450545651671235455237836767) (by rw[show 133242285665808607076488378322626308017882680317454143660064485930450545651671235455237836767*402096035359507321594726366720466575392706800671181159425656785868777272553337714697862511267018014931937703598282857976535744623203249=kN*299 from of_decide_eq_true (by kernel_rfl)];exact T1_k) (nz_of T1_rep (of_decide_eq_true (by kernel_rfl)) z_3) ha
 have d4:52435875175126190479447740508185965837690552500527637822603658699938581184513∣a:=ord_dvd tb_ne oT prm_r (n:=1021746936224977739802674759843215733158749228274876731329980043418955197936360816142165308893846079758636364010172630974200012787218635773765140678191) (by rw[show 1021746936224977739802674759843215733158749228274876731329980043418955197936360816142165308893846079758636364010172630974200012787218635773765140678191*52435875175126190479447740508185965837690552500527637822603658699938581184513=kN*299 from of_decide_eq_true (by kernel_rfl)];exact T1_k) (nz_of T1_rep (of_decide_eq_true (by kernel_rfl)) z_4) ha
 have c1:2713*11953∣a:=Nat.Coprime.mul_dvd_of_dvd_of_dvd (show Nat.gcd 2713 11953=1 from of_decide_eq_true (by kernel_rfl)) d0 d1
 rw[show 2713*11953=32428489 from of_decide_eq_true (by kernel_rfl)] at c1
 have c2:32428489*262069∣a:=Nat.Coprime.mul_dvd_of_dvd_of_dvd (show Nat.gcd 32428489 262069=1 from of_decide_eq_true (by kernel_rfl)) c1 d2
 rw[show 32428489*262069=8498501683741 from of_decide_eq_true (by kernel_rfl)] at c2
 have c3:8498501683741*402096035359507321594726366720466575392706800671181159425656785868777272553337714697862511267018014931937703598282857976535744623203249∣a:=Nat.Coprime.mul_dvd_of_dvd_of_dvd (show Nat.gcd 8498501683741 402096035359507321594726366720466575392706800671181159425656785868777272553337714697862511267018014931937703598282857976535744623203249=1 from of_decide_eq_true (by kernel_rfl)) c2 d3
 rw[show 8498501683741*402096035359507321594726366720466575392706800671181159425656785868777272553337714697862511267018014931937703598282857976535744623203249=3417213833528353644824999196800052619260030863795574352274180747220585946275454234589181635096475183139252053545727862789966597950563999243361674509 from of_decide_eq_true (by kernel_rfl)] at c3
 have c4:3417213833528353644824999196800052619260030863795574352274180747220585946275454234589181635096475183139252053545727862789966597950563999243361674509*52435875175126190479447740508185965837690552500527637822603658699938581184513∣a:=Nat.Coprime.mul_dvd_of_dvd_of_dvd (show Nat.gcd 3417213833528353644824999196800052619260030863795574352274180747220585946275454234589181635096475183139252053545727862789966597950563999243361674509 52435875175126190479447740508185965837690552500527637822603658699938581184513=1 from of_decide_eq_true (by kernel_rfl)) c3 d4
 rw[show 3417213833528353644824999196800052619260030863795574352274180747220585946275454234589181635096475183139252053545727862789966597950563999243361674509*52435875175126190479447740508185965837690552500527637822603658699938581184513=179184598021607201395328336867808778623227034365729160298681049842686063338121018147455353735441364525843719707164066765927216767229676667218777623574602578604133367281659313250333219842201540931831568844813240003724377679117 from of_decide_eq_true (by kernel_rfl)] at c4
 exact c4
def smz (a l l':Nat):Bool:=fo6 (mj o1 a) fun A=>(List.range l).all fun j => !evP2.isz (evP2.jadd A (mj o2 (l'*j))).2.2
theorem smz_ok {a l l':Nat} (ha:a<2^760) (hl:l<300) (hl':l'<300) (h:smz a l l'=true) (j:Nat) (hj:j<l):padd (nmul T1 a) (nmul (nmul T2 l') j)≠O2:=by
 unfold smz at h
 rw[fo6_eq] at h
 have h1:=List.all_eq_true.1 h j (List.mem_range.2 hj)
 have hb:l'*j<2^760:=by
  have h2:l'*j<=300*300:=Nat.mul_le_mul (by omega) (by omega)
  exact Nat.lt_of_le_of_lt h2 (of_decide_eq_true (by kernel_rfl))
 have r1:=mj_rep T1_rep ha
 have r2:=mj_rep T2_rep hb
 have r3:=rep_add tb_ne r1 r2
 have e:Cr.jadd (j3 (mj o1 a)) (j3 (mj o2 (l'*j)))=j3 (evP2.jadd (mj o1 a) (mj o2 (l'*j))):=(evP2.jadd_φ _ _).symm
 rw[e] at r3
 rw[nmul_mul tb_ne (.inr T2_on)]
 intro h0
 have h3:=(rep_z r3).2 h0
 rw[h3] at h1;cases h1
theorem sm_13:smz (kN*23) 13 23=true:=by kernel_rfl
theorem sm_23:smz (kN*13) 23 13=true:=by kernel_rfl
theorem v_23:evP2.isz (mj o2 23).2.2=false:=by kernel_rfl
theorem v_13:evP2.isz (mj o2 13).2.2=false:=by kernel_rfl
theorem T_ind (a c:Nat) (h:padd (nmul T1 a) (nmul T2 c)=O2):kN*299∣a/\299∣c :=
 ind_all tb_ne (.inr T1_on) (.inr T2_on) (k:=kN) (l:=13) (l':=23) prm_13 prm_23 (of_decide_eq_true (by kernel_rfl)) (of_decide_eq_true (by kernel_rfl)) T1_k T2_k T1_dvd
  (nz_of T2_rep (of_decide_eq_true (by kernel_rfl)) v_23) (fun j hj=>smz_ok (of_decide_eq_true (by kernel_rfl)) (by decide) (by decide) sm_13 j hj)
  (nz_of T2_rep (of_decide_eq_true (by kernel_rfl)) v_13) (fun j hj=>smz_ok (of_decide_eq_true (by kernel_rfl)) (by decide) (by decide) sm_23 j hj) a c h
theorem tb_nm:nm2 (-tb)=1+1+(1+1)+(1+1+(1+1))+(1+1+(1+1)+(1+1+(1+1)))+(1+1+(1+1)+(1+1+(1+1))+(1+1+(1+1)+(1+1+(1+1)))):=by
 rw[F2.neg_def]
 refine Zm.ext (of_decide_eq_true (by kernel_rfl))
theorem no_cube (x:F2):x*x*x+tb≠0:=fun h=>by
 have h1:x*x*x=-tb:=(neg_eq ((add_comm tb (x*x*x)).trans h)).symm
 have e:=congrArg nm2 h1
 rw[nm2_mul,nm2_mul] at e
 obtain⟨s,hs⟩:∃ s,s=nm2 x:=⟨_,rfl⟩
 rw[<- hs] at e
 have hv:(nm2 (-tb)).v=32:=by rw[tb_nm];exact of_decide_eq_true (by kernel_rfl)
 have s0:s≠0:=fun z=>by
  rw[z,zero_mul,zero_mul] at e
  rw[<- e] at hv
  exact absurd hv (by decide)
 have hf:=fp_fermat s0
 have hq:fpP-1=3*1334136518407222464472596608578634718852294273313002628444019378708010550163612621480895876376338554679298090853262:=of_decide_eq_true (by kernel_rfl)
 obtain⟨q,hqq⟩:∃ q,q=1334136518407222464472596608578634718852294273313002628444019378708010550163612621480895876376338554679298090853262:=⟨_,rfl⟩
 rw[hq,<- hqq,zpow_mul'] at hf
 have h3:zpow s 3=nm2 (-tb):=by
  rw[<- e];show 1*s*s*s=_;rw[one_mul]
 rw[h3] at hf
 have hw:=congrArg Zm.v hf
 rw[zpow_v,hv] at hw
 have h4:((32:Int)^q%Mp)=1:=hw
 have h5:(32:Nat)^q%fpP=1:=by
  have h6:(((32:Nat)^q%fpP:Nat):Int)=1:=by rw[Int.natCast_emod,Int.natCast_pow];exact h4
  omega
 rw[<- npm_eq fpP 32 (of_decide_eq_true (by kernel_rfl)) 384 q (by rw[hqq];exact of_decide_eq_true (by kernel_rfl)),hqq] at h5
 exact absurd h5 (of_decide_eq_true (by kernel_rfl))
def od (y:F2):Bool:=if y.1=0 then decide (y.2.v%2=1) else decide (y.1.v%2=1)
theorem od_v {a:Fp} (h:a≠0):decide ((-a).v%2=1)=!decide (a.v%2=1):=by
 have h0:a.v≠0:=fun e=>h (Zm.ext e)
 have hn:=a.nn
 have hl:=a.lt
 have e:(-a).v=Mp-a.v:=by
  rw[neg_v]
  have h1:(-a.v+Mp*1)%Mp=(-a.v)%Mp:=Int.add_mul_emod_self_left _ _ _
  rw[<- h1,Int.mul_one,Int.emod_eq_of_lt (by omega) (by omega)];omega
 rw[e]
 have hp:Mp%2=1:=of_decide_eq_true (by kernel_rfl)
 by_cases h2:a.v%2=1
 ·rw[decide_eq_true h2,decide_eq_false (by omega)];rfl
 ·rw[decide_eq_false h2,decide_eq_true (by omega)];rfl
theorem od_neg {y:F2} (h:y≠0):od (-y)=!od y:=by
 unfold od
 rw[F2.neg_def]
 by_cases h1:y.1=0
 ·have h2:y.2≠0:=fun e=>h (F2.ext h1 e)
  rw[if_pos h1,if_pos (show -y.1=0 by rw[h1];exact neg_zero),od_v h2]
 ·rw[if_neg h1,if_neg (show ¬ -y.1=0 from fun e=>h1 (by rw[<- neg_neg y.1,e];exact neg_zero)),od_v h1]
def cod (P:F2 × F2):Nat:=if P=O2 then 0 else 1+2*(P.1.1.v.toNat*pN+P.1.2.v.toNat)+(if od P.2=true then 1 else 0)
theorem v_lt (a:Fp):a.v.toNat<pN:=by
 have h1:=a.nn
 have h2:=a.lt
 have h3:Mp=(pN:Int):=rfl
 omega
theorem cod_lt (P:F2 × F2):cod P<2*(pN*pN)+1:=by
 have key:∀ a c n:Nat,a<n->c<n->2*(a*n+c)+2<2*(n*n)+1:=by
  intro a c n h1 h2
  have h4:(a+1)*n<=n*n:=Nat.mul_le_mul_right n h1
  rw[Nat.add_mul,Nat.one_mul] at h4
  omega
 have h:=key _ _ pN (v_lt P.1.1) (v_lt P.1.2)
 obtain⟨X,hX⟩:∃ X,X=2*(P.1.1.v.toNat*pN+P.1.2.v.toNat):=⟨_,rfl⟩
 obtain⟨Y,hY⟩:∃ Y,Y=2*(pN*pN):=⟨_,rfl⟩
 unfold cod
 rw[<- hX,<- hY] at h
 rw[<- hX,<- hY]
 split
 ·omega
 ·split<;>omega
theorem cod_key:∀ (X Y:Nat) (s t:Bool),1+2*X+(if s=true then 1 else 0)=1+2*Y+(if t=true then 1 else 0)->X=Y/\s=t
 | X,Y,false,false,h=>by
  have h:1+2*X+0=1+2*Y+0:=h
  exact⟨by omega,rfl⟩
 | X,Y,false,true,h=>by
  have h:1+2*X+0=1+2*Y+1:=h
  omega
 | X,Y,true,false,h=>by
  have h:1+2*X+1=1+2*Y+0:=h
  omega
 | X,Y,true,true,h=>by
  have h:1+2*X+1=1+2*Y+1:=h
  exact⟨by omega,rfl⟩
theorem cod_inj {P Q:F2 × F2} (oP:OnP tb P) (oQ:OnP tb Q) (h:cod P=cod Q):P=Q:=by
 by_cases hP:P=O2
 ·by_cases hQ:Q=O2
  ·rw[hP,hQ]
  ·exfalso
   unfold cod at h
   rw[if_pos hP,if_neg hQ] at h
   omega
 by_cases hQ:Q=O2
 ·exfalso
  unfold cod at h
  rw[if_neg hP,if_pos hQ] at h
  omega
 have hp:OnF tb P:=oP.resolve_left hP
 have hq:OnF tb Q:=oQ.resolve_left hQ
 unfold cod at h
 rw[if_neg hP,if_neg hQ] at h
 have hx:P.1.1.v.toNat*pN+P.1.2.v.toNat=Q.1.1.v.toNat*pN+Q.1.2.v.toNat/\(od P.2=od Q.2):=by
  exact cod_key _ _ _ _ h
 obtain⟨hx,ho⟩:=hx
 have v1:=v_lt P.1.1
 have v2:=v_lt P.1.2
 have v3:=v_lt Q.1.1
 have v4:=v_lt Q.1.2
 have d1:P.1.1.v.toNat=Q.1.1.v.toNat:=by
  have e1:(P.1.1.v.toNat*pN+P.1.2.v.toNat)/pN=(Q.1.1.v.toNat*pN+Q.1.2.v.toNat)/pN:=congrArg (· / pN) hx
  rw[Nat.mul_comm,Nat.mul_add_div (by decide),Nat.div_eq_of_lt v2,Nat.mul_comm Q.1.1.v.toNat,Nat.mul_add_div (by decide),Nat.div_eq_of_lt v4] at e1
  exact e1
 have d2:P.1.2.v.toNat=Q.1.2.v.toNat:=by rw[d1] at hx;omega
 have x1:P.1=Q.1:=by
  refine F2.ext (Zm.ext ?_) (Zm.ext ?_)
  ·have:=P.1.1.nn;have:=Q.1.1.nn;omega
  ·have:=P.1.2.nn;have:=Q.1.2.nn;omega
 have hy:P.2*P.2=Q.2*Q.2:=by
  have a1:P.2*P.2=P.1*P.1*P.1+tb:=hp
  have a2:Q.2*Q.2=Q.1*Q.1*Q.1+tb:=hq
  rw[a1,a2,x1]
 rcases sq_eq hy with e|e
 ·exact Prod.ext x1 e
 ·by_cases h0:Q.2=0
  ·exact Prod.ext x1 (by rw[e,h0];exact neg_zero)
  ·rw[e,od_neg h0] at ho
   cases hh:od Q.2<;>rw[hh] at ho<;>cases ho
theorem all_tw {Q:F2 × F2} (oQ:OnP tb Q):InH T1 T2 Q :=
 gen_all tb_ne (.inr T1_on) (.inr T2_on) T1_k T2_k (of_decide_eq_true (by kernel_rfl)) T_ind (no2_of tb_ne no_cube) cod (2*(pN*pN)+1) (fun P _=>cod_lt P) (fun _ _ hP hQ h=>cod_inj hP hQ h) (of_decide_eq_true (by kernel_rfl)) oQ
end
end Cr
namespace Cr
noncomputable section
open Rg Fd Go.Eng
theorem sw_1 {F:Type} [Rg F] (x t d a b:F):x*t*(x*t)*(x*t)+a*(x*t)+b-t*t*t*(x*x*x+a*x+b)=(t-t*t*t)*(a*x - -b*(1+d))+(b*(1-t))*(1-d*(t*t+t)) :=
 rid [x,t,d,a,b] ((fun (x t d a b:PE)=>(x*t*(x*t)*(x*t)+a*(x*t)+b-t*t*t*(x*x*x+a*x+b))) (.v 0) (.v 1) (.v 2) (.v 3) (.v 4)) ((fun (x t d a b:PE)=>((t-t*t*t)*(a*x - -b*(1+d))+(b*(1-t))*(1-d*(t*t+t)))) (.v 0) (.v 1) (.v 2) (.v 3) (.v 4)) (by kernel_rfl)
theorem sw_2 {F:Type} [Rg F] (b i d a:F):a*(-b*i*(1+d))=-b*(1+d)*(a*i) :=
 rid [b,i,d,a] ((fun (b i d a:PE)=>(a*(-b*i*(1+d)))) (.v 0) (.v 1) (.v 2) (.v 3)) ((fun (b i d a:PE)=>(-b*(1+d)*(a*i))) (.v 0) (.v 1) (.v 2) (.v 3)) (by kernel_rfl)
theorem sw_4 {F:Type} [Rg F] (z u g:F):z*(u*u)*(z*(u*u))*(z*(u*u))*g=z*u*u*u*(z*u*u*u)*(z*g) :=
 rid [z,u,g] ((fun (z u g:PE)=>(z*(u*u)*(z*(u*u))*(z*(u*u))*g)) (.v 0) (.v 1) (.v 2)) ((fun (z u g:PE)=>(z*u*u*u*(z*u*u*u)*(z*g))) (.v 0) (.v 1) (.v 2)) (by kernel_rfl)
theorem sw_5 {F:Type} [Rg F] (a y:F):a*a*(y*y)=a*y*(a*y) :=
 rid [a,y] ((fun (a y:PE)=>(a*a*(y*y))) (.v 0) (.v 1)) ((fun (a y:PE)=>(a*y*(a*y))) (.v 0) (.v 1)) (by kernel_rfl)
theorem hv_2 {F:Type} [Rg F] (s t x c d:F):s*x+c+(t*x+d)=(s+t)*x+(c+d) :=
 rid [s,t,x,c,d] ((fun (s t x c d:PE)=>(s*x+c+(t*x+d))) (.v 0) (.v 1) (.v 2) (.v 3) (.v 4)) ((fun (s t x c d:PE)=>((s+t)*x+(c+d))) (.v 0) (.v 1) (.v 2) (.v 3) (.v 4)) (by kernel_rfl)
theorem hv_3 {F:Type} [Rg F] (s x c k:F):k*(s*x+c)=k*s*x+k*c :=
 rid [s,x,c,k] ((fun (s x c k:PE)=>(k*(s*x+c))) (.v 0) (.v 1) (.v 2) (.v 3)) ((fun (s x c k:PE)=>(k*s*x+k*c)) (.v 0) (.v 1) (.v 2) (.v 3)) (by kernel_rfl)
theorem hv_4 {F:Type} [Rg F] (s h x c g:F):c*g+(s*g*x+0)=(s*x+c)*g :=
 rid [s,h,x,c,g] ((fun (s h x c g:PE)=>(c*g+(s*g*x+0))) (.v 0) (.v 1) (.v 2) (.v 3) (.v 4)) ((fun (s h x c g:PE)=>((s*x+c)*g)) (.v 0) (.v 1) (.v 2) (.v 3) (.v 4)) (by kernel_rfl)
theorem is_1 {F:Type} [Rg F] (y h u i g:F):y*h*u*i*(y*h*u*i)=y*y*(h*h)*(u*u)*(i*i) :=
 rid [y,h,u,i,g] ((fun (y h u i g:PE)=>(y*h*u*i*(y*h*u*i))) (.v 0) (.v 1) (.v 2) (.v 3) (.v 4)) ((fun (y h u i g:PE)=>(y*y*(h*h)*(u*u)*(i*i))) (.v 0) (.v 1) (.v 2) (.v 3) (.v 4)) (by kernel_rfl)
theorem is_2 {F:Type} [Rg F] (g h u b i:F):g*(h*h)*(u*u)*(i*i)*(u*b*i)=g*(h*h)*(u*u*u)*(b*(i*i*i)) :=
 rid [g,h,u,b,i] ((fun (g h u b i:PE)=>(g*(h*h)*(u*u)*(i*i)*(u*b*i))) (.v 0) (.v 1) (.v 2) (.v 3) (.v 4)) ((fun (g h u b i:PE)=>(g*(h*h)*(u*u*u)*(b*(i*i*i)))) (.v 0) (.v 1) (.v 2) (.v 3) (.v 4)) (by kernel_rfl)
theorem is_3 {F:Type} [Rg F] (w u b i t:F):b*b*(w*w*w+t*(u*u*u))*(b*(i*i*i))=w*b*i*(w*b*i)*(w*b*i)+t*(u*b*i*(u*b*i)*(u*b*i)) :=
 rid [w,u,b,i,t] ((fun (w u b i t:PE)=>(b*b*(w*w*w+t*(u*u*u))*(b*(i*i*i)))) (.v 0) (.v 1) (.v 2) (.v 3) (.v 4)) ((fun (w u b i t:PE)=>(w*b*i*(w*b*i)*(w*b*i)+t*(u*b*i*(u*b*i)*(u*b*i)))) (.v 0) (.v 1) (.v 2) (.v 3) (.v 4)) (by kernel_rfl)
theorem fs_1 {F:Type} [Rg F] (t i:F):t*i*(t*i)=t*t*(i*i) :=
 rid [t,i] ((fun (t i:PE)=>(t*i*(t*i))) (.v 0) (.v 1)) ((fun (t i:PE)=>(t*t*(i*i))) (.v 0) (.v 1)) (by kernel_rfl)
def hv (x:F2) (l:List F2):F2:=l.foldr (fun c s=>s*x+c) 0
def hq (x:F2) (l:List V2):F2:=hv x (l.map q2)
theorem hq_nil (x:F2):hq x []=0:=rfl
theorem hq_cons (x:F2) (c:V2) (l:List V2):hq x (c::l)=hq x l*x+q2 c:=rfl
def pls:List V2->List V2->List V2
 | [],b=>b
 | x::a,[]=>x::a
 | x::a,y::b=>vadd x y::pls a b
theorem hq_pls (x:F2):∀ a b,hq x (pls a b)=hq x a+hq x b
 | [],b=>by show hq x b=_;rw[hq_nil,zero_add]
 | c::a,[]=>by show hq x (c::a)=_;rw[hq_nil,add_zero]
 | c::a,d::b=>by
  show hq x (pls a b)*x+q2 (vadd c d)=(hq x a*x+q2 c)+(hq x b*x+q2 d)
  rw[hq_pls x a b,q2_add];exact (hv_2 _ _ _ _ _).symm
theorem hq_scl (x:F2) (c:V2):∀ b:List V2,hq x (b.map (vmul c))=q2 c*hq x b
 | []=>by show (0:F2)=_;rw[hq_nil,mul_zero]
 | d::b=>by
  show hq x (b.map (vmul c))*x+q2 (vmul c d)=q2 c*(hq x b*x+q2 d)
  rw[hq_scl x c b,q2_mul];exact (hv_3 _ _ _ _).symm
def pml:List V2->List V2->List V2
 | [],_=>[]
 | c::a,b=>pls (b.map (vmul c)) ((0,0)::pml a b)
theorem hq_pml (x:F2):∀ a b,hq x (pml a b)=hq x a*hq x b
 | [],b=>by show (0:F2)=_;rw[hq_nil,zero_mul]
 | c::a,b=>by
  show hq x (pls (b.map (vmul c)) ((0,0)::pml a b))=(hq x a*x+q2 c)*hq x b
  rw[hq_pls,hq_scl,hq_cons,hq_pml x a b,q2_zero];exact hv_4 _ 0 _ _ _
def fl2 {α:Type}:List V2->(List V2->α)->α
 | [],k=>k []
 | x::l,k=>fo2 x fun x=>fl2 l fun l=>k (x::l)
theorem fl2_eq {α:Type}:∀ (l:List V2) (k:List V2->α),fl2 l k=k l
 | [],k=>rfl
 | x::l,k=>by rw[fl2,fo2_eq,fl2_eq l]
def alz (l:List V2):Bool:=l.all fun c=>evP2.isz c
theorem alz_ok (x:F2):∀ l:List V2,alz l=true->hq x l=0
 | [],_=>rfl
 | c::l,h=>by
  have h:(evP2.isz c&&alz l)=true:=h
  rw[Bool.and_eq_true] at h
  have h1:q2 c=0:=(evP2.isz_φ c).1 h.1
  rw[hq_cons,alz_ok x l h.2,h1,zero_mul,add_zero]
def cU:List V2:=[(0,4002409555221667393417789825735904156556882819939007885332058136124031650490837864442687629129015664037894272559715),(12,4002409555221667393417789825735904156556882819939007885332058136124031650490837864442687629129015664037894272559775),(1,0)]
def cB:List V2:=[(4002409555221667393417789825735904156556882819939007885332058136124031650490837864442687629129015664037894272559355,4002409555221667393417789825735904156556882819939007885332058136124031650490837864442687629129015664037894272559355),(0,4002409555221667393417789825735904156556882819939007885332058136124031650490837864442687629129015664037894272559571),(18,4002409555221667393417789825735904156556882819939007885332058136124031650490837864442687629129015664037894272559769),(1,0)]
def cW:List V2:=[(889424345604814976315064405719089812568196182208668418962679585805340366775741747653930584250892369786198727235542,889424345604814976315064405719089812568196182208668418962679585805340366775741747653930584250892369786198727235542),(0,2668273036814444928945193217157269437704588546626005256888038757416021100327225242961791752752677109358596181706522),(2668273036814444928945193217157269437704588546626005256888038757416021100327225242961791752752677109358596181706526,1334136518407222464472596608578634718852294273313002628444019378708010550163612621480895876376338554679298090853261),(3557697382419259905260257622876359250272784728834673675850718343221361467102966990615722337003569479144794908942033,0)]
def cH:List V2:=[(3261222600550988246488569487636662646083386001431784202863158481286248011511053074731078808919938689216061999863558,3261222600550988246488569487636662646083386001431784202863158481286248011511053074731078808919938689216061999863558),(0,889424345604814976315064405719089812568196182208668418962679585805340366775741747653930584250892369786198727235518),(2668273036814444928945193217157269437704588546626005256888038757416021100327225242961791752752677109358596181706524,1334136518407222464472596608578634718852294273313002628444019378708010550163612621480895876376338554679298090853263),(2816510427748580758331037284777117739799287910327449993381818688383577828123182200904113516794492504322962636245776,0)]
def cG:List V2:=[(1012,1012),(0,240),(0,0),(1,0)]
def isc:Bool:=fl2 (pml cH cH) fun HH=>fl2 (pml cU cU) fun UU=>fl2 (pml UU cU) fun UUU=>fl2 (pml cG HH) fun GHH=>fl2 (pml GHH UUU) fun L =>
 fl2 (pml cB cB) fun BB=>fl2 (pml cW cW) fun WW=>fl2 (pml WW cW) fun WWW=>fl2 (pls WWW (UUU.map (vmul (4,4)))) fun S=>fl2 (pml BB S) fun R=>alz (pls L (R.map (vmul (4002409555221667393417789825735904156556882819939007885332058136124031650490837864442687629129015664037894272559786,0))))
theorem isc_ok:isc=true:=by kernel_rfl
theorem q2_m1:q2 (4002409555221667393417789825735904156556882819939007885332058136124031650490837864442687629129015664037894272559786,0)=-1:=by
 rw[F2.neg_def];exact F2.ext (Zm.ext (of_decide_eq_true (by kernel_rfl))) (Zm.ext (of_decide_eq_true (by kernel_rfl)))
theorem iso (x:F2):hq x cG*(hq x cH*hq x cH)*(hq x cU*hq x cU*hq x cU)=hq x cB*hq x cB*(hq x cW*hq x cW*hq x cW+tb*(hq x cU*hq x cU*hq x cU)):=by
 have h:=isc_ok
 unfold isc at h
 simp only[fl2_eq] at h
 have h1:=alz_ok x _ h
 simp only[hq_pls,hq_scl,hq_pml,q2_m1] at h1
 rw[neg_mul,one_mul,<- Rg.sub_def] at h1
 exact eq_of_sub h1
theorem iso_on {x y i:F2} (hy:y*y=hq x cG) (hi:hq x cU*hq x cB*i=1):OnF tb (hq x cW*hq x cB*i,y*hq x cH*hq x cU*i):=by
 show y*hq x cH*hq x cU*i*(y*hq x cH*hq x cU*i)=hq x cW*hq x cB*i*(hq x cW*hq x cB*i)*(hq x cW*hq x cB*i)+tb
 have h:=iso x
 have e:=is_3 (hq x cW) (hq x cU) (hq x cB) i tb
 rw[hi,mul_one,mul_one,mul_one,<- h,<- is_2,hi,mul_one] at e
 rw[is_1 _ _ _ _ 0,hy];exact e
def ca:F2:=q2 (0,240)
def cb:F2:=q2 (1012,1012)
def cz:F2:=q2 (4002409555221667393417789825735904156556882819939007885332058136124031650490837864442687629129015664037894272559785,4002409555221667393417789825735904156556882819939007885332058136124031650490837864442687629129015664037894272559786)
theorem hG (x:F2):hq x cG=x*x*x+ca*x+cb:=by
 show (((0*x+q2 (1,0))*x+q2 (0,0))*x+q2 (0,240))*x+q2 (1012,1012)=_
 have h1:q2 (1,0)=1:=rfl
 rw[h1,q2_zero,zero_mul,zero_add,one_mul,add_zero,add_mul];rfl
theorem ca_ne:ca≠0:=fun h=>absurd (congrArg Prod.snd h) (by decide)
theorem sw_t {x t d:F2} (hd:d*(t*t+t)=1) (hx:x=-cb*inv ca*(1+d)):hq (x*t) cG=t*t*t*hq x cG:=by
 have h1:ca*x=-cb*(1+d):=by rw[hx,sw_2,mul_inv ca ca_ne,mul_one]
 rw[hG,hG]
 exact lc2 _ _ (sw_1 x t d ca cb) h1 hd.symm
theorem sqm (a:Fp):∃ s:Fp,s*s=a\/s*s=-a:=by
 by_cases ha:a=0
 ·exact⟨0,.inl (by rw[ha,mul_zero])⟩
 obtain⟨m,hm⟩:∃ m,m=(fpP-1)/2:=⟨_,rfl⟩
 obtain⟨k,hk⟩:∃ k,k=(fpP+1)/4:=⟨_,rfl⟩
 have h1:fpP-1=m+m:=by rw[hm];exact of_decide_eq_true (by kernel_rfl)
 have h2:k+k=m+1:=by rw[hm,hk];exact of_decide_eq_true (by kernel_rfl)
 have hf:=fp_fermat ha
 rw[h1,zpow_add'] at hf
 have hs:zpow a k*zpow a k=zpow a m*a:=by rw[<- zpow_add',h2];rfl
 have h3:zpow a m*zpow a m=1*1:=by rw[hf,one_mul]
 refine⟨zpow a k,?_⟩
 rw[hs]
 rcases sq_eq h3 with e|e
 ·rw[e,one_mul];exact .inl rfl
 ·rw[e,neg_mul,one_mul];exact .inr rfl
theorem sq_nm {x:F2} {n:Fp} (h:nm2 x=n*n):∃ y:F2,y*y=x:=by
 by_cases hb:x.2=0
 ·obtain⟨s,hs⟩:=sqm x.1
  rcases hs with hs|hs
  ·refine⟨(s,0),?_⟩
   rw[F2.mul_def]
   refine F2.ext ?_ ?_
   ·show s*s-0*0=x.1
    rw[hs,mul_zero,sub_z]
   ·show s*0+0*s=x.2
    rw[mul_zero,zero_mul,add_zero,hb]
  ·refine⟨(0,s),?_⟩
   rw[F2.mul_def]
   refine F2.ext ?_ ?_
   ·show 0*0-s*s=x.1
    rw[hs,mul_zero,Rg.sub_def,neg_neg,zero_add]
   ·show 0*s+s*0=x.2
    rw[mul_zero,zero_mul,add_zero,hb]
 ·have hn:n*n=x.1*x.1+x.2*x.2:=h.symm
  have key:∀ s t:Fp,(s=x.1+n\/s=x.1-n)->t*t=s+s->∃ y:F2,y*y=x:=fun s t hs ht=>by
   have k:=fin_ok hb hn hs ht (i:=inv t) (fun h=>mul_inv t h)
   refine⟨(s*inv t,x.2*inv t),?_⟩
   refine F2.ext ?_ ?_
   ·rw[F2.mul1];exact k.1
   ·rw[F2.mul2];exact k.2
  obtain⟨s,hs⟩:=sqm (x.1+n+(x.1+n))
  rcases hs with hs|hs
  ·exact key _ s (.inl rfl) hs
  ·by_cases hs0:s=0
   ·rw[hs0,mul_zero] at hs
    have e:x.1+n+(x.1+n)=0:=by rw[<- neg_neg (x.1+n+(x.1+n)),<- hs];exact neg_zero
    exact key _ 0 (.inl rfl) (by rw[mul_zero,e])
   ·-- 2 (a+n) times 2 (a-n) is-(2 b)^2
    have e1:(x.1+n+(x.1+n))*(x.1-n+(x.1-n))=-((x.2+x.2)*(x.2+x.2)):=by
     have q:=q_4 x.1 n
     have e2:(x.1+n+(x.1+n))*(x.1-n+(x.1-n))=(x.1+n)*(x.1-n)+(x.1+n)*(x.1-n)+((x.1+n)*(x.1-n)+(x.1+n)*(x.1-n)):=by
      rw[add_mul,mul_add]
     rw[e2,q,hn]
     have e3:x.1*x.1-(x.1*x.1+x.2*x.2)=-(x.2*x.2):=by
      rw[Rg.sub_def,neg_add_rev,<- add_assoc,add_neg,zero_add]
     rw[e3,<- neg_add_rev,<- neg_add_rev,add_mul,mul_add]
    have e4:x.1+n+(x.1+n)=-(s*s):=by rw[hs,neg_neg]
    rw[e4,neg_mul] at e1
    have e5:s*s*(x.1-n+(x.1-n))=(x.2+x.2)*(x.2+x.2):=by
     rw[<- neg_neg (s*s*_),e1,neg_neg]
    refine key _ ((x.2+x.2)*inv s) (.inr rfl) ?_
    rw[fs_1,<- e5]
    have e6:s*s*(x.1-n+(x.1-n))*(inv s*inv s)=(s*inv s)*(s*inv s)*(x.1-n+(x.1-n)):=by ac_rfl
    rw[e6,mul_inv s hs0,one_mul,one_mul]
def wN:Int:=3754115229487400743760384662840082984744650971178826659753975400945528899667118516813924993650507119217982417812692
theorem cz_nm:(zm wN:Fp)*zm wN=-nm2 cz:=by
 unfold nm2 cz
 exact Zm.ext (of_decide_eq_true (by kernel_rfl))
theorem sq_z {g:F2} (h:∀ y:F2,y*y≠g):∃ y:F2,y*y=cz*g:=by
 obtain⟨s,hs⟩:=sqm (nm2 g)
 rcases hs with hs|hs
 ·obtain⟨y,hy⟩:=sq_nm (x:=g) (n:=s) hs.symm
  exact absurd hy (h y)
 ·refine sq_nm (n:=zm wN*s) ?_
  have e:(zm wN*s)*(zm wN*s)=(zm wN*zm wN)*(s*s):=by ac_rfl
  rw[nm2_mul,e,cz_nm,hs,neg_mul,mul_neg,neg_neg]
theorem sw_two {u t d x:F2} (ht:t=cz*(u*u)) (hd:d*(t*t+t)=1) (hx:x=-cb*inv ca*(1+d)) (h:∀ y:F2,y*y≠hq x cG):∃ y:F2,y*y=hq (x*t) cG:=by
 obtain⟨y,hy⟩:=sq_z h
 refine⟨cz*u*u*u*y,?_⟩
 rw[sw_t hd hx,ht,sw_4,<- hy]
 exact (sw_5 _ _).symm
def s0:V2:=(391013756818087021228608844186469378708965029305944648629640836944759185027123020480318340657013194950516187264795,3578796461873081174841411974298466426866052387096285028890861355461367155938811896227938614244375769879856986283402)
theorem sw_c:evP2.isz (vsub (vmul (vmul s0 s0) (vmul (vmul (vmul (4002409555221667393417789825735904156556882819939007885332058136124031650490837864442687629129015664037894272559785,4002409555221667393417789825735904156556882819939007885332058136124031650490837864442687629129015664037894272559786) (0,240)) (vmul (4002409555221667393417789825735904156556882819939007885332058136124031650490837864442687629129015664037894272559785,4002409555221667393417789825735904156556882819939007885332058136124031650490837864442687629129015664037894272559786) (0,240))) (vmul (4002409555221667393417789825735904156556882819939007885332058136124031650490837864442687629129015664037894272559785,4002409555221667393417789825735904156556882819939007885332058136124031650490837864442687629129015664037894272559786) (0,240)))) (vadd (vadd (vmul (vmul (1012,1012) (1012,1012)) (1012,1012)) (vmul (vmul (0,240) (1012,1012)) (vmul (vmul (4002409555221667393417789825735904156556882819939007885332058136124031650490837864442687629129015664037894272559785,4002409555221667393417789825735904156556882819939007885332058136124031650490837864442687629129015664037894272559786) (0,240)) (vmul (4002409555221667393417789825735904156556882819939007885332058136124031650490837864442687629129015664037894272559785,4002409555221667393417789825735904156556882819939007885332058136124031650490837864442687629129015664037894272559786) (0,240))))) (vmul (1012,1012) (vmul (vmul (vmul (4002409555221667393417789825735904156556882819939007885332058136124031650490837864442687629129015664037894272559785,4002409555221667393417789825735904156556882819939007885332058136124031650490837864442687629129015664037894272559786) (0,240)) (vmul (4002409555221667393417789825735904156556882819939007885332058136124031650490837864442687629129015664037894272559785,4002409555221667393417789825735904156556882819939007885332058136124031650490837864442687629129015664037894272559786) (0,240))) (vmul (4002409555221667393417789825735904156556882819939007885332058136124031650490837864442687629129015664037894272559785,4002409555221667393417789825735904156556882819939007885332058136124031650490837864442687629129015664037894272559786) (0,240))))))=true:=by kernel_rfl
theorem cz_ne:cz≠0:=fun h=>absurd (congrArg Prod.snd h) (by decide)
theorem sw_0:∃ y:F2,y*y=hq (cb*inv (cz*ca)) cG:=by
 have h1:=(evP2.isz_φ _).1 sw_c
 have h2:q2 (vsub (vmul (vmul s0 s0) (vmul (vmul (vmul (4002409555221667393417789825735904156556882819939007885332058136124031650490837864442687629129015664037894272559785,4002409555221667393417789825735904156556882819939007885332058136124031650490837864442687629129015664037894272559786) (0,240)) (vmul (4002409555221667393417789825735904156556882819939007885332058136124031650490837864442687629129015664037894272559785,4002409555221667393417789825735904156556882819939007885332058136124031650490837864442687629129015664037894272559786) (0,240))) (vmul (4002409555221667393417789825735904156556882819939007885332058136124031650490837864442687629129015664037894272559785,4002409555221667393417789825735904156556882819939007885332058136124031650490837864442687629129015664037894272559786) (0,240)))) (vadd (vadd (vmul (vmul (1012,1012) (1012,1012)) (1012,1012)) (vmul (vmul (0,240) (1012,1012)) (vmul (vmul (4002409555221667393417789825735904156556882819939007885332058136124031650490837864442687629129015664037894272559785,4002409555221667393417789825735904156556882819939007885332058136124031650490837864442687629129015664037894272559786) (0,240)) (vmul (4002409555221667393417789825735904156556882819939007885332058136124031650490837864442687629129015664037894272559785,4002409555221667393417789825735904156556882819939007885332058136124031650490837864442687629129015664037894272559786) (0,240))))) (vmul (1012,1012) (vmul (vmul (vmul (4002409555221667393417789825735904156556882819939007885332058136124031650490837864442687629129015664037894272559785,4002409555221667393417789825735904156556882819939007885332058136124031650490837864442687629129015664037894272559786) (0,240)) (vmul (4002409555221667393417789825735904156556882819939007885332058136124031650490837864442687629129015664037894272559785,4002409555221667393417789825735904156556882819939007885332058136124031650490837864442687629129015664037894272559786) (0,240))) (vmul (4002409555221667393417789825735904156556882819939007885332058136124031650490837864442687629129015664037894272559785,4002409555221667393417789825735904156556882819939007885332058136124031650490837864442687629129015664037894272559786) (0,240))))))=0:=h1
 simp only[q2_sub,q2_add,q2_mul] at h2
 have h3:q2 s0*q2 s0*(cz*ca*(cz*ca)*(cz*ca))=cb*cb*cb+ca*cb*(cz*ca*(cz*ca))+cb*(cz*ca*(cz*ca)*(cz*ca)):=eq_of_sub h2
 have hne:cz*ca≠0:=mul_ne cz_ne ca_ne
 obtain⟨D,hD⟩:∃ D,D=cz*ca:=⟨_,rfl⟩
 rw[<- hD] at h3 hne
 refine⟨q2 s0,?_⟩
 rw[<- hD,hG]
 refine mul_left (mul_ne (mul_ne hne hne) hne) ?_
 have e:D*D*D*(cb*inv D*(cb*inv D)*(cb*inv D)+ca*(cb*inv D)+cb)=(D*inv D)*(D*inv D)*(D*inv D)*(cb*cb*cb)+(D*inv D)*(ca*cb*(D*D))+cb*(D*D*D):=by
  rw[mul_add,mul_add]
  congr 1
  ·congr 1
   ·ac_rfl
   ·ac_rfl
  ·ac_rfl
 rw[e,mul_inv D hne,one_mul,one_mul,one_mul,one_mul,<- h3]
 ac_rfl
end
end Cr
namespace Go.Proofs.YteldhmehjkhanaaGreatDoor.fp
open Go Go.Eng Go.RowKit Cr
theorem ent_wide:enters Tryz.prog 126 Tryz.f126:=ek
noncomputable def wideI (g:List Int × Fp):St:=mkSt Tryz.f126.ntmps 40 [(0,.is (.one (.ro (.int .u8) g.1))),(2,.is (.one (.ptr 0 0))),(3,.is (.one (.ptr 8 0))),(4,.is (.one (.ptr 24 0)))] [(0,[.row .fp 1 [(0:Fp)]]),(8,[.row .fp 1 [g.2]]),(24,[.row .fp 1 [(R2:Fp)]])]
def wn (len:Int):Int:=IntKind.i64.wrap ((IntKind.i64.wrap (len-1)).tmod 48+1)
def wch (bs:List Int):List Int:=List.take (wn bs.length-0).toNat (List.drop (Int.toNat 0) bs)
def wideN (g:List Int × Fp):List Int × Fp:=(List.take ((g.1.length:Int)-wn g.1.length).toNat (List.drop (wn g.1.length).toNat g.1),g.2*R2+dec (lim 6 (val (enc (R2:Fp))*val (lim 6 (num (wch g.1)))*rinv%M)))
def wp (len k:Nat):Nat:=len-48*((len+47)/48-k)
def wideG (bs:List Int) (k:Nat):List Int × Fp:=(bs.drop (wp bs.length k),zm (num (bs.take (wp bs.length k))))
theorem wn_eq {L:Nat} (h0:0<L) (h1:L<4611686018427387904):wn L=(((L-1)%48+1:Nat):Int):=by
 unfold wn
 rw[wrap_i64' (a:=(L:Int)-1) (by omega) (by omega),Int.tmod_eq_emod_of_nonneg (by omega),wrap_i64' (by omega) (by omega)]
 omega
theorem wide_next {bs:List Int} (hb:Bs bs) (hl:bs.length<4611686018427387904) {k:Nat} (hk:k<(bs.length+47)/48) :
  0<bs.length-wp bs.length k/\wideN (wideG bs k)=wideG bs (k+1)/\(wch (bs.drop (wp bs.length k))).length<=48/\1<=(bs.length-wp bs.length k-1)%48+1/\(bs.length-wp bs.length k-1)%48+1<=bs.length-wp bs.length k:=by
 have hL:0<bs.length-wp bs.length k:=by unfold wp;omega
 have hn:(bs.length-wp bs.length k-1)%48+1=wp bs.length (k+1)-wp bs.length k:=by unfold wp;omega
 have hle:wp bs.length (k+1)<=bs.length:=by unfold wp;omega
 have hlt:wp bs.length k<wp bs.length (k+1):=by unfold wp;omega
 have hlen:(bs.drop (wp bs.length k)).length=bs.length-wp bs.length k:=List.length_drop
 have hwn:wn (bs.drop (wp bs.length k)).length=((wp bs.length (k+1)-wp bs.length k:Nat):Int):=by
  rw[wn_eq (by omega) (by omega),hlen,hn]
 have hch:wch (bs.drop (wp bs.length k))=(bs.drop (wp bs.length k)).take (wp bs.length (k+1)-wp bs.length k):=by
  unfold wch
  rw[hwn]
  congr 1
 refine⟨hL,?_,?_,by omega,by omega⟩
 ·unfold wideN wideG
  simp only
  rw[hwn,hch]
  have e1:List.take (((bs.drop (wp bs.length k)).length:Int)-((wp bs.length (k+1)-wp bs.length k:Nat):Int)).toNat (List.drop ((wp bs.length (k+1)-wp bs.length k:Nat):Int).toNat (bs.drop (wp bs.length k)))=bs.drop (wp bs.length (k+1)):=by
   rw[Int.toNat_natCast,List.drop_drop,show wp bs.length k+(wp bs.length (k+1)-wp bs.length k)=wp bs.length (k+1) by omega]
   exact List.take_of_length_le (by simp;omega)
  rw[e1]
  congr 1
  have hcb:Bs ((bs.drop (wp bs.length k)).take (wp bs.length (k+1)-wp bs.length k)):=Bs_take (Bs_drop hb _) _
  have hcl:((bs.drop (wp bs.length k)).take (wp bs.length (k+1)-wp bs.length k)).length=wp bs.length (k+1)-wp bs.length k:=by simp;omega
  have hc48:wp bs.length (k+1)-wp bs.length k<=48:=by omega
  have hnb:=num_bd hcb
  rw[hcl] at hnb
  have hpl:p256 (wp bs.length (k+1)-wp bs.length k)<=pw 6:=by
   rw[<- p256_8,show 8*6=(wp bs.length (k+1)-wp bs.length k)+(48-(wp bs.length (k+1)-wp bs.length k)) by omega,p256_add]
   have h1:=p256_pos (wp bs.length (k+1)-wp bs.length k)
   have h2:=p256_pos (48-(wp bs.length (k+1)-wp bs.length k))
   have:=Int.mul_le_mul_of_nonneg_left (show 1<=p256 (48-(wp bs.length (k+1)-wp bs.length k)) by omega) (Int.le_of_lt h1)
   omega
  rw[show lim 6 (val (enc (R2:Fp))*val (lim 6 (num ((bs.drop (wp bs.length k)).take (wp bs.length (k+1)-wp bs.length k))))*rinv%M)=enc (zm (val (lim 6 (num ((bs.drop (wp bs.length k)).take (wp bs.length (k+1)-wp bs.length k))))):Fp) from shift_enc (M:=Mp),val_lim_of hnb.1 (by omega),dec_enc]
  show zm _*zm (pw 6)+zm _=zm _
  rw[zm_mul,zm_add]
  congr 1
  have hsplit:bs.take (wp bs.length (k+1))=bs.take (wp bs.length k)++(bs.drop (wp bs.length k)).take (wp bs.length (k+1)-wp bs.length k):=by
   rw[<- List.take_add,show wp bs.length k+(wp bs.length (k+1)-wp bs.length k)=wp bs.length (k+1) by omega]
  rw[hsplit,num_append,hcl]
  by_cases h0:wp bs.length k=0
  ·rw[h0];simp[num]
  ·rw[show wp bs.length (k+1)-wp bs.length k=48 by unfold wp at h0 ⊢;omega,<- p256_8]
 ·rw[hch];simp;omega
abbrev preWide:HL [.sl (.int .u8)]->Prop:=fun (bs,_)=>Bs bs/\List.length bs<4611686018427387904
abbrev outWide:HL [.sl (.int .u8)]->HO [.val .fp]:=fun (bs,_)=>((zm (num bs):Fp),())
theorem fn_wide:FnOk Tryz.prog 126 [.sl (.int .u8)] [.val .fp] noG preWide outWide:=by
 have hsp:SpecsOk Tryz.prog (sps [spWords,spMul,spAdd,spShift,spTimes]):=spk (fok fn_words) (spk (fok fn_mul) (spk (fok fn_add) (spk (fok fn_shift) (spk (fok fn_times) snl))))
 refine fn_of_tr (sp:=sps [spWords,spMul,spAdd,spShift,spTimes]) ent_wide (by decide) (by decide) (by kernel_rfl) ?_
 rintro w M0 ⟨bs,⟨⟩⟩ _ ⟨hb,hl⟩
 have hb:Bs bs:=hb
 have hl:bs.length<4611686018427387904:=hl
 show Tr _ _ _ _ _ _ _
 refine tr_cut hsp mixed 3 (wideI (bs,0)) True ?_ (fun _=>?_)
 ·refine vcx (X:=True/\(wideI (bs,0)).triv True) (by kernel_rfl) ⟨trivial,tvi trivial⟩
 have e0:(bs,(0:Fp))=wideG bs 0:=by
  unfold wideG
  rw[show wp bs.length 0=0 by unfold wp;omega]
  rfl
 rw[e0]
 refine tr_count hsp mixed wideI (wideG bs) ((bs.length+47)/48) wideN wideI (c:=nthC (codeOf Tryz.f126) 3) (by kernel_rfl) (by kernel_rfl) (le_of_proj (by kernel_rfl) (by kernel_rfl) trivial)
  (fun k hk=>(wide_next hb hl hk).2.1) ?_ ?_
 ·intro k hk
  have hlen:(wideG bs k).1.length=bs.length-wp bs.length k:=by unfold wideG;simp
  have hbs:Bs (wideG bs k).1:=Bs_drop hb _
  have hnx:k<(bs.length+47)/48->(wch (wideG bs k).1).length<=48:=fun h=>(wide_next hb hl h).2.2.1
  have hb1:k<(bs.length+47)/48->1<=((wideG bs k).1.length-1)%48+1/\((wideG bs k).1.length-1)%48+1<=(wideG bs k).1.length:=fun h=>by rw[hlen];exact (wide_next hb hl h).2.2.2
  have hiff:k<(bs.length+47)/48↔0<(wideG bs k).1.length:=by rw[hlen];unfold wp;omega
  have hll:(wideG bs k).1.length<4611686018427387904:=by omega
  clear hlen
  generalize wideG bs k=g at *
  obtain⟨cs,x⟩:=g
  simp only at hbs hnx hb1 hiff hll
  refine vcx (X:=((decide ((cs.length:Int)>0)=true->(48:Int)≠0/\True/\(0<=wn cs.length/\wn cs.length<=(cs.length:Int))/\preWords (wch cs,())/\preTimes (enc (R2:Fp),lim 6 (num (wch cs)),())/\Canon Mp (lim 6 (val (enc (R2:Fp))*val (lim 6 (num (wch cs)))*rinv%M))/\True/\(0<=wn cs.length/\wn cs.length<=(cs.length:Int))/\(wideI (wideN (cs,x))).triv (k<(bs.length+47)/48)) /\
   (decide ((cs.length:Int)>0)=false->(wideI (cs,x)).triv (k=(bs.length+47)/48)))) (by kernel_rfl) ?_
  refine⟨fun h=>?_,fun h=>tvi ?_⟩
  ·have h0:0<cs.length:=by have:=of_decide_eq_true h;omega
   have hk':=hiff.2 h0
   have h1:=hb1 hk'
   have hw:=wn_eq h0 hll
   have hch:Bs (wch cs):=by unfold wch;exact Bs_take (Bs_drop hbs _) _
   refine⟨by decide,trivial,by rw[hw];omega,⟨hch,hnx hk'⟩,⟨enc_ws _,lim_ws _ _,(enc_canon _).2.2⟩,?_,trivial,by rw[hw];omega,tvi hk'⟩
   rw[show lim 6 (val (enc (R2:Fp))*val (lim 6 (num (wch cs)))*rinv%M)=enc (zm (val (lim 6 (num (wch cs)))):Fp) from shift_enc (M:=Mp)]
   exact enc_canon _
  ·have:=of_decide_eq_false h
   omega
 refine tr_vc hsp mixed _ _ ?_
 refine vcx (X:=((wideG bs ((bs.length+47)/48)).2,())=outWide (bs,())) (by kernel_rfl) ?_
 unfold wideG
 rw[show wp bs.length ((bs.length+47)/48)=bs.length by unfold wp;omega,List.take_length]
noncomputable def spWide:Nat × Eng.Spec:=(126,fnSpec [.sl (.int .u8)] [.val .fp] preWide outWide)
end Go.Proofs.YteldhmehjkhanaaGreatDoor.fp
namespace Go.Proofs.YteldhmehjkhanaaGreatDoor.h2c
open Go Go.Eng Go.RowKit Cr fp2
abbrev iK:Kd:=.int .i64
abbrev pt2:Kd:=.pair f2 f2
def smA (n:Int):Prop:=-1000000<=n/\n<=1000000
theorem ent_sm1:enters Tryz.prog 161 Tryz.f161:=ek
theorem fn_sm1:FnOk Tryz.prog 161 [iK] [.val .fp] noG (fun (n,_)=>smA n) (fun (n,_)=>((zmp n:Fp),())):=by
 refine fn_of_vc (sp:=sps [fp.spOf,fp.spNeg]) (spk (fok fp.fn_of) (spk (fok fp.fn_neg) snl)) mixed ent_sm1 (by decide) (by decide) ?_
 rintro w M0 ⟨n,⟨⟩⟩
 revert n
 intro (n:Int) _ hp
 have hp : -1000000<=n/\n<=1000000:=hp
 refine vcx (X:=((decide (n<(0:Int))=true->U64 (IntKind.u64.wrap (IntKind.i64.wrap ((0:Int)-n)))/\True/\(-zmp (IntKind.u64.wrap (IntKind.i64.wrap ((0:Int)-n))),())=(zmp n,()))/\(decide (n<(0:Int))=false->U64 (IntKind.u64.wrap n)/\(zmp (IntKind.u64.wrap n),())=(zmp n,())))) (by kernel_rfl) ?_
 refine⟨fun h=>?_,fun h=>?_⟩
 ·have h:n<0:=of_decide_eq_true h
  have e1:IntKind.i64.wrap ((0:Int)-n)=-n:=by rw[wrap_i64' (by omega) (by omega)];omega
  have e2:IntKind.u64.wrap (-n)=-n:=by rw[wrap_u64' (-n)];omega
  rw[e1,e2]
  refine⟨⟨by omega,by omega⟩,trivial,?_⟩
  rw[zm_neg,Int.neg_neg]
 ·have h:¬ n<0:=of_decide_eq_false h
  have e2:IntKind.u64.wrap n=n:=by rw[wrap_u64' n];omega
  rw[e2]
  exact⟨⟨by omega,by omega⟩,rfl⟩
noncomputable def spSm1:Nat × Eng.Spec:=(161,fnSpec [iK] [.val .fp] (fun (n,_)=>smA n) (fun (n,_)=>((zmp n:Fp),())))
theorem ent_sm2:enters Tryz.prog 162 Tryz.f162:=ek
abbrev f116:Kd:=.fn 161
theorem fn_sm2:FnOk Tryz.prog 162 [iK,iK,.ptr f116] [.val f2] noG (fun (m,n,_)=>smA m/\smA n) (fun (m,n,_)=>(((zmp m,zmp n):F2),())):=by
 refine fn_of_vc (sp:=sps [spSm1]) (spk (fok fn_sm1) snl) mixed ent_sm2 (by decide) (by decide) ?_
 rintro w M0 ⟨m,n,c,⟨⟩⟩
 revert m n
 intro (m:Int) (n:Int) _ hp
 have hp:smA m/\smA n:=hp
 refine vcx (X:=((0:Nat)<[c].length/\smA m/\(0:Nat)<[c].length/\smA n/\((zmp m,zmp n),())=((zmp m,zmp n),()))) (by kernel_rfl) ?_
 exact⟨Nat.zero_lt_one,hp.1,Nat.zero_lt_one,hp.2,rfl⟩
noncomputable def spSm2:Nat × Eng.Spec:=(162,fnSpec [iK,iK,.ptr f116] [.val f2] (fun (m,n,_)=>smA m/\smA n) (fun (m,n,_)=>(((zmp m,zmp n):F2),())))
abbrev cloSm:Kd:=.cap (.fn 162) f116
theorem ent_small:enters Tryz.prog 128 Tryz.f128:=ek
theorem fn_small:FnOk Tryz.prog 128 [] [.val cloSm] noG (fun _=>True) (fun _=>(((),()),())):=by
 refine fn_of_vc (sp:=sps []) snl mixed ent_small (by decide) (by decide) ?_
 rintro w M0 ⟨⟩ _ _
 refine vcx (X:=((((),()),())=(((),()),()))) (by kernel_rfl) ?_
 trivial
noncomputable def spSmall:Nat × Eng.Spec:=(128,fnSpec [] [.val cloSm] (fun _=>True) (fun _=>(((),()),())))
end Go.Proofs.YteldhmehjkhanaaGreatDoor.h2c
namespace Go.Proofs.YteldhmehjkhanaaGreatDoor.h2c
noncomputable section
open Go Go.Eng Go.RowKit Cr fp2
theorem ent_great:enters Tryz.prog 168 Tryz.f168:=ek
def grI (s:ByteArray) (g:Int × List Int):St:=mkSt Tryz.f168.ntmps 40 [(0,.is (.one (.v (.string s)))),(2,.is (.one (.ptr 0 0))),(3,.is (.one (.ptr 8 0))),(8,.is (.one (.v (.string s)))),(9,sI .i64 s.size),(10,sI .i64 g.1)] [(8,[.ints .u8 48 g.2]),(0,[.row .fp 1 [(0:Fp)]])]
def grD (s:ByteArray) (k:Nat):Int:=if IntKind.u8.wrap ((sbytes s).getD k 0-48)>9 then IntKind.u8.wrap (IntKind.u8.wrap ((sbytes s).getD k 0-97)+10) else IntKind.u8.wrap ((sbytes s).getD k 0-48)
def grN (s:ByteArray) (k:Nat) (xs:List Int):List Int:=xs.set (k/2) (bitOp .or .u8 (IntKind.u8.wrap (xs.getD (k/2) 0*2^min (Int.toNat 4) IntKind.u8.bits)) (grD s k))
def grG (s:ByteArray) (k:Nat):List Int:=it (fun k xs=>grN s k xs) (List.replicate 48 0) k
def grOk (s:ByteArray):Bool:=decide (s.size<=96)&&(List.take 48 (grG s s.size)).all fun x=>decide (0<=x)&&decide (x<256)
theorem grOk_1 {s:ByteArray} (h:grOk s=true):s.size<=96/\Bs (List.take 48 (grG s s.size)):=by
 unfold grOk at h
 rw[Bool.and_eq_true] at h
 refine⟨of_decide_eq_true h.1,fun x hx=>?_⟩
 have h2:=List.all_eq_true.1 h.2 x hx
 rw[Bool.and_eq_true] at h2
 exact⟨of_decide_eq_true h2.1,of_decide_eq_true h2.2⟩
def gro (s:ByteArray):Fp:=opq (fp.rdFp (List.take 48 (grG s s.size))).1
theorem fn_great:FnOk Tryz.prog 168 [.str] [.val .fp] noG (fun (s,_)=>grOk s=true) (fun (s,_)=>(gro s,())):=by
 have hsp:SpecsOk Tryz.prog (sps [fp.spRead]):=spk (fok fp.fn_read) snl
 refine fn_of_tr (sp:=sps [fp.spRead]) ent_great (by decide) (by decide) (by kernel_rfl) ?_
 rintro w M0 ⟨s,⟨⟩⟩
 revert s
 intro (s:ByteArray) _ hl
 have hg:grOk s=true:=hl
 have hl:=(grOk_1 hg).1
 show Tr _ _ _ _ _ _ _
 refine tr_cut hsp mixed 3 (grI s (0,List.replicate 48 0)) True ?_ (fun _=>?_)
 ·refine vcx (X:=((grI s ((0:Int),List.replicate (48:Nat) (0:Int))).triv True)) (by kernel_rfl) ?_
  exact tvi trivial
 refine tr_while hsp mixed noSw (fun σ=>(rdS (.int .i64) 10 σ,rdB (.arr 48 (.int .u8)) 8 σ)) (grI s) (fun g=>∃ k:Nat,k<=s.size/\g.1=(k:Int)/\g.2=grG s k) (fun g=>s.size-g.1.toNat)
  (fun σ=>(rdS (.int .i64) 10 σ,rdB (.arr 48 (.int .u8)) 8 σ)) (grI s) (fun g=>g.2=grG s s.size) (0,List.replicate 48 0) (c:=nthC (codeOf Tryz.f168) 3) (by kernel_rfl) (by kernel_rfl) (le_of_proj (by kernel_rfl) (by kernel_rfl) ?_) ?_ ?_
 ·exact⟨0,Nat.zero_le _,rfl,rfl⟩
 ·rintro⟨i,xs⟩ hj
  revert i xs
  intro (i:Int) (xs:List Int) ⟨k,hk,ei,ex⟩
  have ei:i=(k:Int):=ei
  have ex:xs=grG s k:=ex
  subst ei
  have e2:IntKind.i64.wrap ((k:Int).tdiv 2)=((k/2:Nat):Int):=by
   rw[Int.tdiv_eq_ediv_of_nonneg (by omega),wrap_i64' (by omega) (by omega)];rfl
  refine vcx (X:=((decide ((↑k:Int)<(↑s.size:Int))=true->((0:Int)<=(↑k:Int)/\(↑k:Int)<(↑s.size:Int))/\(decide (IntKind.u8.wrap ((sbytes s).getD (↑k:Int).toNat (0:Int)-(48:Int))>(9:Int))=true->((0:Int)<=(↑k:Int)/\(↑k:Int)<(↑s.size:Int))/\((2:Int)=(0:Int)->False)/\((2:Int)=(0:Int)->False)/\((0:Int)<=IntKind.i64.wrap ((↑k:Int).tdiv (2:Int))/\IntKind.i64.wrap ((↑k:Int).tdiv (2:Int))<(↑(48:Nat):Int))/\(IntKind.i64.wrap ((↑k:Int).tdiv (2:Int))).toNat<(48:Nat)/\(0:Int)<=(4:Int)/\((0:Int)<=IntKind.i64.wrap ((↑k:Int).tdiv (2:Int))/\IntKind.i64.wrap ((↑k:Int).tdiv (2:Int))<(↑(48:Nat):Int))/\(IntKind.i64.wrap ((↑k:Int).tdiv (2:Int))).toNat<(48:Nat)/\(grI s (IntKind.i64.wrap ((↑k:Int)+(1:Int)),xs.set (IntKind.i64.wrap ((↑k:Int).tdiv (2:Int))).toNat (bitOp BinOp.or IntKind.u8 (IntKind.u8.wrap (xs.getD (IntKind.i64.wrap ((↑k:Int).tdiv (2:Int))).toNat (0:Int)*(2:Int)^min (4:Nat) IntKind.u8.bits)) (IntKind.u8.wrap (IntKind.u8.wrap ((sbytes s).getD (↑k:Int).toNat (0:Int)-(97:Int))+(10:Int)))))).triv ((∃ k_1,k_1<=s.size/\IntKind.i64.wrap ((↑k:Int)+(1:Int))=(↑k_1:Int)/\xs.set (IntKind.i64.wrap ((↑k:Int).tdiv (2:Int))).toNat (bitOp BinOp.or IntKind.u8 (IntKind.u8.wrap (xs.getD (IntKind.i64.wrap ((↑k:Int).tdiv (2:Int))).toNat (0:Int)*(2:Int)^min (4:Nat) IntKind.u8.bits)) (IntKind.u8.wrap (IntKind.u8.wrap ((sbytes s).getD (↑k:Int).toNat (0:Int)-(97:Int))+(10:Int))))=grG s k_1)/\s.size-(IntKind.i64.wrap ((↑k:Int)+(1:Int))).toNat<s.size-(↑k:Int).toNat))/\(decide (IntKind.u8.wrap ((sbytes s).getD (↑k:Int).toNat (0:Int)-(48:Int))>(9:Int))=false->((2:Int)=(0:Int)->False)/\((2:Int)=(0:Int)->False)/\((0:Int)<=IntKind.i64.wrap ((↑k:Int).tdiv (2:Int))/\IntKind.i64.wrap ((↑k:Int).tdiv (2:Int))<(↑(48:Nat):Int))/\(IntKind.i64.wrap ((↑k:Int).tdiv (2:Int))).toNat<(48:Nat)/\(0:Int)<=(4:Int)/\((0:Int)<=IntKind.i64.wrap ((↑k:Int).tdiv (2:Int))/\IntKind.i64.wrap ((↑k:Int).tdiv (2:Int))<(↑(48:Nat):Int))/\(IntKind.i64.wrap ((↑k:Int).tdiv (2:Int))).toNat<(48:Nat)/\(grI s (IntKind.i64.wrap ((↑k:Int)+(1:Int)),xs.set (IntKind.i64.wrap ((↑k:Int).tdiv (2:Int))).toNat (bitOp BinOp.or IntKind.u8 (IntKind.u8.wrap (xs.getD (IntKind.i64.wrap ((↑k:Int).tdiv (2:Int))).toNat (0:Int)*(2:Int)^min (4:Nat) IntKind.u8.bits)) (IntKind.u8.wrap ((sbytes s).getD (↑k:Int).toNat (0:Int)-(48:Int)))))).triv ((∃ k_1,k_1<=s.size/\IntKind.i64.wrap ((↑k:Int)+(1:Int))=(↑k_1:Int)/\xs.set (IntKind.i64.wrap ((↑k:Int).tdiv (2:Int))).toNat (bitOp BinOp.or IntKind.u8 (IntKind.u8.wrap (xs.getD (IntKind.i64.wrap ((↑k:Int).tdiv (2:Int))).toNat (0:Int)*(2:Int)^min (4:Nat) IntKind.u8.bits)) (IntKind.u8.wrap ((sbytes s).getD (↑k:Int).toNat (0:Int)-(48:Int))))=grG s k_1)/\s.size-(IntKind.i64.wrap ((↑k:Int)+(1:Int))).toNat<s.size-(↑k:Int).toNat)))/\(decide ((↑k:Int)<(↑s.size:Int))=false->(grI s ((↑k:Int),xs)).triv (xs=grG s s.size)))) (by kernel_rfl) ?_
  refine⟨fun h=>?_,fun h=>tvi ?_⟩
  ·have hlt:k<s.size:=by have:=of_decide_eq_true h;omega
   have b1:(0:Int)<=(k:Int)/\(k:Int)<(s.size:Int):=⟨by omega,by omega⟩
   have z2:(2:Int)=0->False:=by decide
   have b2:(0:Int)<=((k/2:Nat):Int)/\((k/2:Nat):Int)<((48:Nat):Int):=⟨by omega,by omega⟩
   have b3:k/2<48:=by omega
   rw[e2]
   simp only[Int.toNat_natCast]
   refine⟨b1,fun h2=>⟨b1,z2,z2,b2,b3,by decide,b2,b3,tvi ⟨⟨k+1,hlt,wrap_succ (by omega),?_⟩,?_⟩⟩,fun h2=>⟨z2,z2,b2,b3,by decide,b2,b3,tvi ⟨⟨k+1,hlt,wrap_succ (by omega),?_⟩,?_⟩⟩⟩
   ·show _=grN s k (grG s k)
    rw[grN,grD,if_pos (of_decide_eq_true h2),<- ex];rfl
   ·rw[wrap_succ (by omega)];omega
   ·show _=grN s k (grG s k)
    rw[grN,grD,if_neg (of_decide_eq_false h2),<- ex];rfl
   ·rw[wrap_succ (by omega)];omega
  ·have hk2:k=s.size:=by have:=of_decide_eq_false h;omega
   rw[<- hk2];exact ex
 rintro⟨i,xs⟩ hx
 revert i xs
 intro (i:Int) (xs:List Int) (hx:xs=grG s s.size)
 refine tr_vc hsp mixed _ _ ?_
 refine vcx (X:=(0+48<=48/\fp.preRead (List.take 48 xs,())/\((fp.rdFp (List.take 48 xs)).fst,())=(gro s,()))) (by kernel_rfl) ?_
 refine⟨Nat.le_refl _,by rw[hx];exact (grOk_1 hg).2,?_⟩
 rw[gro,opq_eq,hx]
def spGreat:Nat × Eng.Spec:=(168,fnSpec [.str] [.val .fp] (fun (s,_)=>grOk s=true) (fun (s,_)=>(gro s,())))
theorem ent_acr1:enters Tryz.prog 167 Tryz.f167:=ek
theorem fn_acr1:FnOk Tryz.prog 167 [.str,.str] [.val f2] noG (fun (a,b,_)=>grOk a=true/\grOk b=true) (fun (a,b,_)=>(((gro a,gro b):F2),())):=by
 refine fn_of_vc (sp:=sps [spGreat]) (spk (fok fn_great) snl) mixed ent_acr1 (by decide) (by decide) ?_
 rintro w M0 ⟨a,b,⟨⟩⟩
 revert a b
 intro (a:ByteArray) (b:ByteArray) _ hp
 have hp:grOk a=true/\grOk b=true:=hp
 refine vcx (X:=(grOk a=true/\grOk b=true/\((gro a,gro b),())=((gro a,gro b),()))) (by kernel_rfl) ?_
 exact⟨hp.1,hp.2,rfl⟩
def spAcr1:Nat × Eng.Spec:=(167,fnSpec [.str,.str] [.val f2] (fun (a,b,_)=>grOk a=true/\grOk b=true) (fun (a,b,_)=>(((gro a,gro b):F2),())))
theorem ent_value:enters Tryz.prog 135 Tryz.f135:=ek
def hvo (x:F2) (l:List F2):F2:=opq (hv x l)
def vaI (x:F2) (l:List F2) (g:Int × F2):St:=mkSt Tryz.f135.ntmps 48 [(1,.is (.one (.ro f2 l))),(2,.is (.one (.ptr 0 0))),(4,.is (.one (.ptr 8 0))),(5,.is (.one (.ptr 16 0))),(6,sI .i64 g.1)] [(16,cellsOf f2 g.2),(8,cellsOf f2 (0:F2)),(0,cellsOf f2 x)]
theorem fn_value:FnOk Tryz.prog 135 [f2,.sl f2] [.val f2] noG (fun (_,l,_)=>List.length l<=1048576) (fun (x,l,_)=>(hvo x l,())):=by
 have hsp:SpecsOk Tryz.prog (sps [fp2.spMul,fp2.spAdd]):=spk (fok fp2.fn_mul) (spk (fok fp2.fn_add) snl)
 refine fn_of_tr (sp:=sps [fp2.spMul,fp2.spAdd]) ent_value (by decide) (by decide) (by kernel_rfl) ?_
 rintro w M0 ⟨x,l,⟨⟩⟩
 revert x l
 intro (x:F2) (l:List F2) _ hl
 have hl:l.length<=1048576:=hl
 show Tr _ _ _ _ _ _ _
 refine tr_cut hsp mixed 3 (vaI x l ((l.length:Int)-1,0)) True ?_ (fun _=>?_)
 ·have hw:IntKind.i64.wrap ((l.length:Int)-1)=(l.length:Int)-1:=wrap_i64' (by omega) (by omega)
  rw[<- hw]
  refine vcx (X:=((vaI x l (IntKind.i64.wrap ((↑l.length:Int)-(1:Int)),(0:F2))).triv True)) (by kernel_rfl) ?_
  exact tvi trivial
 refine tr_while hsp mixed noSw (fun σ=>(rdS (.int .i64) 6 σ,rdB f2 16 σ)) (vaI x l) (fun g=>∃ k:Nat,k<=l.length/\g.1=(k:Int)-1/\g.2=hv x (l.drop k)) (fun g=>(g.1+1).toNat)
  (fun σ=>(rdS (.int .i64) 6 σ,rdB f2 16 σ)) (vaI x l) (fun g=>g.2=hv x l) ((l.length:Int)-1,0) (c:=nthC (codeOf Tryz.f135) 3) (by kernel_rfl) (by kernel_rfl) (le_of_proj (by kernel_rfl) (by kernel_rfl) ?_) ?_ ?_
 ·exact⟨l.length,Nat.le_refl _,rfl,by rw[List.drop_length];rfl⟩
 ·rintro⟨i,s⟩ hj
  revert i s
  intro (i:Int) (s:F2) ⟨k,hk,ei,es⟩
  have ei:i=(k:Int)-1:=ei
  have es:s=hv x (l.drop k):=es
  refine vcx (X:=((decide (i>=(0:Int))=true->True/\((0:Int)<=i/\i<(↑l.length:Int))/\i.toNat<l.length/\True/\(vaI x l (IntKind.i64.wrap (i-(1:Int)),s*x+l.getD i.toNat ((0:Fp),(0:Fp)))).triv ((∃ k,k<=l.length/\IntKind.i64.wrap (i-(1:Int))=(↑k:Int)-(1:Car (Kd.int IntKind.i64))/\s*x+l.getD i.toNat ((0:Fp),(0:Fp))=hv x (List.drop k l))/\Int.toNat (IntKind.i64.wrap (i-(1:Int))+(1:Car (Kd.int IntKind.i64)))<Int.toNat (i+(1:Car (Kd.int IntKind.i64)))))/\(decide (i>=(0:Int))=false->(vaI x l (i,s)).triv (s=hv x l)))) (by kernel_rfl) ?_
  refine⟨fun h=>?_,fun h=>tvi ?_⟩
  ·have h0:0<=i:=of_decide_eq_true h
   obtain⟨j,hj⟩:∃ j,k=j+1:=⟨k-1,by omega⟩
   have e1:i.toNat=j:=by omega
   have e2:IntKind.i64.wrap (i-1)=(j:Int)-1:=by rw[wrap_i64' (by omega) (by omega)];omega
   have hlt:j<l.length:=by omega
   have hd:l.drop j=l[j]::l.drop (j+1):=List.drop_eq_getElem_cons hlt
   have hg:l.getD j ((0:Fp),(0:Fp))=l[j]:=by simp[List.getD_eq_getElem?_getD,hlt]
   rw[e2,e1,hg]
   refine⟨trivial,⟨h0,by omega⟩,hlt,trivial,tvi ⟨⟨j,by omega,rfl,?_⟩,by omega⟩⟩
   rw[hd,es,hj];rfl
  ·have h0:¬ 0<=i:=of_decide_eq_false h
   have hk0:k=0:=by omega
   rw[es,hk0];rfl
 rintro⟨i,s⟩ hx
 revert i s
 intro (i:Int) (s:F2) (hx:s=hv x l)
 refine tr_vc hsp mixed _ _ ?_
 refine vcx (X:=((s,())=(hvo x l,()))) (by kernel_rfl) ?_
 rw[hvo,opq_eq,hx]
def spValue:Nat × Eng.Spec:=(135,fnSpec [f2,.sl f2] [.val f2] (fun (_,l,_)=>List.length l<=1048576) (fun (x,l,_)=>(hvo x l,())))
end
end Go.Proofs.YteldhmehjkhanaaGreatDoor.h2c
namespace Go.Proofs.YteldhmehjkhanaaGreatDoor.h2c
open Go Go.Eng Go.RowKit Cr fp2
abbrev csH2c1:=(List.take 3 [(zmp (0:Int),zmp (-72:Int)),(zmp (12:Int),zmp (-12:Int)),(zmp (1:Int),zmp (0:Int))])
abbrev csH2c0:=(List.take 4 [(zmp (-432:Int),zmp (-432:Int)),(zmp (0:Int),zmp (-216:Int)),(zmp (18:Int),zmp (-18:Int)),(zmp (1:Int),zmp (0:Int))])
def balH2c1:ByteArray:=(ByteArray.mk (([(48:UInt8),(53:UInt8),(99:UInt8),(55:UInt8),(53:UInt8),(57:UInt8),(53:UInt8),(48:UInt8),(55:UInt8),(101:UInt8),(56:UInt8),(101:UInt8),(51:UInt8),(51:UInt8),(51:UInt8),(101:UInt8),(98:UInt8),(98:UInt8),(53:UInt8),(98:UInt8),(55:UInt8),(97:UInt8),(57:UInt8),(97:UInt8),(52:UInt8),(55:UInt8),(100:UInt8),(55:UInt8),(101:UInt8),(100:UInt8),(56:UInt8),(53:UInt8),(51:UInt8),(50:UInt8),(99:UInt8),(53:UInt8),(50:UInt8),(100:UInt8),(51:UInt8),(57:UInt8),(102:UInt8),(100:UInt8),(51:UInt8),(97:UInt8),(48:UInt8),(52:UInt8),(50:UInt8),(97:UInt8)].append [(56:UInt8),(56:UInt8),(98:UInt8),(53:UInt8),(56:UInt8),(52:UInt8),(50:UInt8),(51:UInt8),(99:UInt8),(53:UInt8),(48:UInt8),(97:UInt8),(101:UInt8),(49:UInt8),(53:UInt8),(100:UInt8),(53:UInt8),(99:UInt8),(50:UInt8),(54:UInt8),(51:UInt8),(56:UInt8),(101:UInt8),(51:UInt8),(52:UInt8),(51:UInt8),(100:UInt8),(57:UInt8),(99:UInt8),(55:UInt8),(49:UInt8),(99:UInt8),(54:UInt8),(50:UInt8),(51:UInt8),(56:UInt8),(97:UInt8),(97:UInt8),(97:UInt8),(97:UInt8),(97:UInt8),(97:UInt8),(97:UInt8),(97:UInt8),(57:UInt8),(55:UInt8),(100:UInt8),(54:UInt8)]).toArray ))
def balH2c2:ByteArray:=(ByteArray.mk (([(48:UInt8),(53:UInt8),(99:UInt8),(55:UInt8),(53:UInt8),(57:UInt8),(53:UInt8),(48:UInt8),(55:UInt8),(101:UInt8),(56:UInt8),(101:UInt8),(51:UInt8),(51:UInt8),(51:UInt8),(101:UInt8),(98:UInt8),(98:UInt8),(53:UInt8),(98:UInt8),(55:UInt8),(97:UInt8),(57:UInt8),(97:UInt8),(52:UInt8),(55:UInt8),(100:UInt8),(55:UInt8),(101:UInt8),(100:UInt8),(56:UInt8),(53:UInt8),(51:UInt8),(50:UInt8),(99:UInt8),(53:UInt8),(50:UInt8),(100:UInt8),(51:UInt8),(57:UInt8),(102:UInt8),(100:UInt8),(51:UInt8),(97:UInt8),(48:UInt8),(52:UInt8),(50:UInt8),(97:UInt8)].append [(56:UInt8),(56:UInt8),(98:UInt8),(53:UInt8),(56:UInt8),(52:UInt8),(50:UInt8),(51:UInt8),(99:UInt8),(53:UInt8),(48:UInt8),(97:UInt8),(101:UInt8),(49:UInt8),(53:UInt8),(100:UInt8),(53:UInt8),(99:UInt8),(50:UInt8),(54:UInt8),(51:UInt8),(56:UInt8),(101:UInt8),(51:UInt8),(52:UInt8),(51:UInt8),(100:UInt8),(57:UInt8),(99:UInt8),(55:UInt8),(49:UInt8),(99:UInt8),(54:UInt8),(50:UInt8),(51:UInt8),(56:UInt8),(97:UInt8),(97:UInt8),(97:UInt8),(97:UInt8),(97:UInt8),(97:UInt8),(97:UInt8),(97:UInt8),(57:UInt8),(55:UInt8),(98:UInt8),(101:UInt8)]).toArray ))
def balH2c3:ByteArray:=(ByteArray.mk (([(48:UInt8),(56:UInt8),(97:UInt8),(98:UInt8),(48:UInt8),(53:UInt8),(102:UInt8),(56:UInt8),(98:UInt8),(100:UInt8),(100:UInt8),(53:UInt8),(52:UInt8),(99:UInt8),(100:UInt8),(101:UInt8),(49:UInt8),(57:UInt8),(48:UInt8),(57:UInt8),(51:UInt8),(55:UInt8),(101:UInt8),(55:UInt8),(54:UInt8),(98:UInt8),(99:UInt8),(51:UInt8),(101:UInt8),(52:UInt8),(52:UInt8),(55:UInt8),(99:UInt8),(99:UInt8),(50:UInt8),(55:UInt8),(99:UInt8),(51:UInt8),(100:UInt8),(54:UInt8),(102:UInt8),(98:UInt8),(100:UInt8),(55:UInt8),(48:UInt8),(54:UInt8),(51:UInt8),(102:UInt8)].append [(99:UInt8),(100:UInt8),(49:UInt8),(48:UInt8),(52:UInt8),(54:UInt8),(51:UInt8),(53:UInt8),(97:UInt8),(55:UInt8),(57:UInt8),(48:UInt8),(53:UInt8),(50:UInt8),(48:UInt8),(99:UInt8),(48:UInt8),(97:UInt8),(51:UInt8),(57:UInt8),(53:UInt8),(53:UInt8),(53:UInt8),(52:UInt8),(101:UInt8),(53:UInt8),(99:UInt8),(54:UInt8),(97:UInt8),(97:UInt8),(97:UInt8),(97:UInt8),(57:UInt8),(51:UInt8),(53:UInt8),(52:UInt8),(102:UInt8),(102:UInt8),(102:UInt8),(102:UInt8),(102:UInt8),(102:UInt8),(102:UInt8),(102:UInt8),(101:UInt8),(51:UInt8),(56:UInt8),(100:UInt8)]).toArray ))
def balH2c4:ByteArray:=(ByteArray.mk (([(48:UInt8),(56:UInt8),(97:UInt8),(98:UInt8),(48:UInt8),(53:UInt8),(102:UInt8),(56:UInt8),(98:UInt8),(100:UInt8),(100:UInt8),(53:UInt8),(52:UInt8),(99:UInt8),(100:UInt8),(101:UInt8),(49:UInt8),(57:UInt8),(48:UInt8),(57:UInt8),(51:UInt8),(55:UInt8),(101:UInt8),(55:UInt8),(54:UInt8),(98:UInt8),(99:UInt8),(51:UInt8),(101:UInt8),(52:UInt8),(52:UInt8),(55:UInt8),(99:UInt8),(99:UInt8),(50:UInt8),(55:UInt8),(99:UInt8),(51:UInt8),(100:UInt8),(54:UInt8),(102:UInt8),(98:UInt8),(100:UInt8),(55:UInt8),(48:UInt8),(54:UInt8),(51:UInt8),(102:UInt8)].append [(99:UInt8),(100:UInt8),(49:UInt8),(48:UInt8),(52:UInt8),(54:UInt8),(51:UInt8),(53:UInt8),(97:UInt8),(55:UInt8),(57:UInt8),(48:UInt8),(53:UInt8),(50:UInt8),(48:UInt8),(99:UInt8),(48:UInt8),(97:UInt8),(51:UInt8),(57:UInt8),(53:UInt8),(53:UInt8),(53:UInt8),(52:UInt8),(101:UInt8),(53:UInt8),(99:UInt8),(54:UInt8),(97:UInt8),(97:UInt8),(97:UInt8),(97:UInt8),(57:UInt8),(51:UInt8),(53:UInt8),(52:UInt8),(102:UInt8),(102:UInt8),(102:UInt8),(102:UInt8),(102:UInt8),(102:UInt8),(102:UInt8),(102:UInt8),(101:UInt8),(51:UInt8),(56:UInt8),(102:UInt8)]).toArray ))
def balH2c5:ByteArray:=(ByteArray.mk (([(49:UInt8),(49:UInt8),(53:UInt8),(54:UInt8),(48:UInt8),(98:UInt8),(102:UInt8),(49:UInt8),(55:UInt8),(98:UInt8),(97:UInt8),(97:UInt8),(57:UInt8),(57:UInt8),(98:UInt8),(99:UInt8),(51:UInt8),(50:UInt8),(49:UInt8),(50:UInt8),(54:UInt8),(102:UInt8),(99:UInt8),(101:UInt8),(100:UInt8),(55:UInt8),(56:UInt8),(55:UInt8),(99:UInt8),(56:UInt8),(56:UInt8),(102:UInt8),(57:UInt8),(56:UInt8),(52:UInt8),(102:UInt8),(56:UInt8),(55:UInt8),(97:UInt8),(100:UInt8),(102:UInt8),(55:UInt8),(97:UInt8),(101:UInt8),(48:UInt8),(99:UInt8),(55:UInt8),(102:UInt8)].append [(57:UInt8),(97:UInt8),(50:UInt8),(48:UInt8),(56:UInt8),(99:UInt8),(54:UInt8),(98:UInt8),(52:UInt8),(102:UInt8),(50:UInt8),(48:UInt8),(97:UInt8),(52:UInt8),(49:UInt8),(56:UInt8),(49:UInt8),(52:UInt8),(55:UInt8),(50:UInt8),(97:UInt8),(97:UInt8),(97:UInt8),(57:UInt8),(99:UInt8),(98:UInt8),(56:UInt8),(100:UInt8),(53:UInt8),(53:UInt8),(53:UInt8),(53:UInt8),(50:UInt8),(54:UInt8),(97:UInt8),(57:UInt8),(102:UInt8),(102:UInt8),(102:UInt8),(102:UInt8),(102:UInt8),(102:UInt8),(102:UInt8),(102:UInt8),(99:UInt8),(55:UInt8),(49:UInt8),(101:UInt8)]).toArray ))
def balH2c6:ByteArray:=(ByteArray.mk (([(49:UInt8),(49:UInt8),(53:UInt8),(54:UInt8),(48:UInt8),(98:UInt8),(102:UInt8),(49:UInt8),(55:UInt8),(98:UInt8),(97:UInt8),(97:UInt8),(57:UInt8),(57:UInt8),(98:UInt8),(99:UInt8),(51:UInt8),(50:UInt8),(49:UInt8),(50:UInt8),(54:UInt8),(102:UInt8),(99:UInt8),(101:UInt8),(100:UInt8),(55:UInt8),(56:UInt8),(55:UInt8),(99:UInt8),(56:UInt8),(56:UInt8),(102:UInt8),(57:UInt8),(56:UInt8),(52:UInt8),(102:UInt8),(56:UInt8),(55:UInt8),(97:UInt8),(100:UInt8),(102:UInt8),(55:UInt8),(97:UInt8),(101:UInt8),(48:UInt8),(99:UInt8),(55:UInt8),(102:UInt8)].append [(57:UInt8),(97:UInt8),(50:UInt8),(48:UInt8),(56:UInt8),(99:UInt8),(54:UInt8),(98:UInt8),(52:UInt8),(102:UInt8),(50:UInt8),(48:UInt8),(97:UInt8),(52:UInt8),(49:UInt8),(56:UInt8),(49:UInt8),(52:UInt8),(55:UInt8),(50:UInt8),(97:UInt8),(97:UInt8),(97:UInt8),(57:UInt8),(99:UInt8),(98:UInt8),(56:UInt8),(100:UInt8),(53:UInt8),(53:UInt8),(53:UInt8),(53:UInt8),(50:UInt8),(54:UInt8),(97:UInt8),(57:UInt8),(102:UInt8),(102:UInt8),(102:UInt8),(102:UInt8),(102:UInt8),(102:UInt8),(102:UInt8),(102:UInt8),(99:UInt8),(55:UInt8),(49:UInt8),(97:UInt8)]).toArray ))
def balH2c7:ByteArray:=(ByteArray.mk (([(49:UInt8),(49:UInt8),(53:UInt8),(54:UInt8),(48:UInt8),(98:UInt8),(102:UInt8),(49:UInt8),(55:UInt8),(98:UInt8),(97:UInt8),(97:UInt8),(57:UInt8),(57:UInt8),(98:UInt8),(99:UInt8),(51:UInt8),(50:UInt8),(49:UInt8),(50:UInt8),(54:UInt8),(102:UInt8),(99:UInt8),(101:UInt8),(100:UInt8),(55:UInt8),(56:UInt8),(55:UInt8),(99:UInt8),(56:UInt8),(56:UInt8),(102:UInt8),(57:UInt8),(56:UInt8),(52:UInt8),(102:UInt8),(56:UInt8),(55:UInt8),(97:UInt8),(100:UInt8),(102:UInt8),(55:UInt8),(97:UInt8),(101:UInt8),(48:UInt8),(99:UInt8),(55:UInt8),(102:UInt8)].append [(57:UInt8),(97:UInt8),(50:UInt8),(48:UInt8),(56:UInt8),(99:UInt8),(54:UInt8),(98:UInt8),(52:UInt8),(102:UInt8),(50:UInt8),(48:UInt8),(97:UInt8),(52:UInt8),(49:UInt8),(56:UInt8),(49:UInt8),(52:UInt8),(55:UInt8),(50:UInt8),(97:UInt8),(97:UInt8),(97:UInt8),(57:UInt8),(99:UInt8),(98:UInt8),(56:UInt8),(100:UInt8),(53:UInt8),(53:UInt8),(53:UInt8),(53:UInt8),(50:UInt8),(54:UInt8),(97:UInt8),(57:UInt8),(102:UInt8),(102:UInt8),(102:UInt8),(102:UInt8),(102:UInt8),(102:UInt8),(102:UInt8),(102:UInt8),(99:UInt8),(55:UInt8),(49:UInt8),(99:UInt8)]).toArray ))
def balH2c8:ByteArray:=(ByteArray.mk (([(49:UInt8),(50:UInt8),(52:UInt8),(99:UInt8),(57:UInt8),(97:UInt8),(100:UInt8),(52:UInt8),(51:UInt8),(98:UInt8),(54:UInt8),(99:UInt8),(102:UInt8),(55:UInt8),(57:UInt8),(98:UInt8),(102:UInt8),(98:UInt8),(102:UInt8),(55:UInt8),(48:UInt8),(52:UInt8),(51:UInt8),(100:UInt8),(101:UInt8),(51:UInt8),(56:UInt8),(49:UInt8),(49:UInt8),(97:UInt8),(100:UInt8),(48:UInt8),(55:UInt8),(54:UInt8),(49:UInt8),(98:UInt8),(48:UInt8),(102:UInt8),(51:UInt8),(55:UInt8),(97:UInt8),(49:UInt8),(101:UInt8),(50:UInt8),(54:UInt8),(50:UInt8),(56:UInt8),(54:UInt8)].append [(98:UInt8),(48:UInt8),(101:UInt8),(57:UInt8),(55:UInt8),(55:UInt8),(99:UInt8),(54:UInt8),(57:UInt8),(97:UInt8),(97:UInt8),(50:UInt8),(55:UInt8),(52:UInt8),(53:UInt8),(50:UInt8),(52:UInt8),(101:UInt8),(55:UInt8),(57:UInt8),(48:UInt8),(57:UInt8),(55:UInt8),(97:UInt8),(53:UInt8),(54:UInt8),(100:UInt8),(99:UInt8),(52:UInt8),(98:UInt8),(100:UInt8),(57:UInt8),(101:UInt8),(49:UInt8),(98:UInt8),(51:UInt8),(55:UInt8),(49:UInt8),(99:UInt8),(55:UInt8),(49:UInt8),(99:UInt8),(55:UInt8),(49:UInt8),(56:UInt8),(98:UInt8),(49:UInt8),(48:UInt8)]).toArray ))
def balH2c9:ByteArray:=(ByteArray.mk (([(49:UInt8),(53:UInt8),(51:UInt8),(48:UInt8),(52:UInt8),(55:UInt8),(55:UInt8),(99:UInt8),(55:UInt8),(97:UInt8),(98:UInt8),(52:UInt8),(49:UInt8),(49:UInt8),(51:UInt8),(98:UInt8),(53:UInt8),(57:UInt8),(97:UInt8),(52:UInt8),(99:UInt8),(49:UInt8),(56:UInt8),(98:UInt8),(48:UInt8),(55:UInt8),(54:UInt8),(100:UInt8),(49:UInt8),(49:UInt8),(57:UInt8),(51:UInt8),(48:UInt8),(102:UInt8),(55:UInt8),(100:UInt8),(97:UInt8),(53:UInt8),(100:UInt8),(52:UInt8),(97:UInt8),(48:UInt8),(55:UInt8),(102:UInt8),(54:UInt8),(52:UInt8),(57:UInt8),(98:UInt8)].append [(102:UInt8),(53:UInt8),(52:UInt8),(52:UInt8),(51:UInt8),(57:UInt8),(100:UInt8),(56:UInt8),(55:UInt8),(100:UInt8),(50:UInt8),(55:UInt8),(101:UInt8),(53:UInt8),(48:UInt8),(48:UInt8),(102:UInt8),(99:UInt8),(56:UInt8),(99:UInt8),(50:UInt8),(53:UInt8),(101:UInt8),(98:UInt8),(102:UInt8),(56:UInt8),(99:UInt8),(57:UInt8),(50:UInt8),(102:UInt8),(54:UInt8),(56:UInt8),(49:UInt8),(50:UInt8),(99:UInt8),(102:UInt8),(99:UInt8),(55:UInt8),(49:UInt8),(99:UInt8),(55:UInt8),(49:UInt8),(99:UInt8),(54:UInt8),(100:UInt8),(55:UInt8),(48:UInt8),(54:UInt8)]).toArray ))
def balH2c10:ByteArray:=(ByteArray.mk (([(49:UInt8),(55:UInt8),(49:UInt8),(100:UInt8),(54:UInt8),(53:UInt8),(52:UInt8),(49:UInt8),(102:UInt8),(97:UInt8),(51:UInt8),(56:UInt8),(99:UInt8),(99:UInt8),(102:UInt8),(97:UInt8),(101:UInt8),(100:UInt8),(54:UInt8),(100:UInt8),(101:UInt8),(97:UInt8),(54:UInt8),(57:UInt8),(49:UInt8),(102:UInt8),(53:UInt8),(102:UInt8),(98:UInt8),(54:UInt8),(49:UInt8),(52:UInt8),(99:UInt8),(98:UInt8),(49:UInt8),(52:UInt8),(98:UInt8),(52:UInt8),(101:UInt8),(55:UInt8),(102:UInt8),(52:UInt8),(101:UInt8),(56:UInt8),(49:UInt8),(48:UInt8),(97:UInt8),(97:UInt8)].append [(50:UInt8),(50:UInt8),(100:UInt8),(54:UInt8),(49:UInt8),(48:UInt8),(56:UInt8),(102:UInt8),(49:UInt8),(52:UInt8),(50:UInt8),(98:UInt8),(56:UInt8),(53:UInt8),(55:UInt8),(53:UInt8),(55:UInt8),(48:UInt8),(57:UInt8),(56:UInt8),(101:UInt8),(51:UInt8),(56:UInt8),(100:UInt8),(48:UInt8),(102:UInt8),(54:UInt8),(55:UInt8),(49:UInt8),(99:UInt8),(55:UInt8),(49:UInt8),(56:UInt8),(56:UInt8),(101:UInt8),(50:UInt8),(97:UInt8),(97:UInt8),(97:UInt8),(97:UInt8),(97:UInt8),(97:UInt8),(97:UInt8),(97:UInt8),(53:UInt8),(101:UInt8),(100:UInt8),(49:UInt8)]).toArray ))
noncomputable def acro (x y:F2):F2 × F2:=opq (if hq x cU*hq x cB=0 then O2 else (hq x cW*hq x cB*inv2 (hq x cU*hq x cB),y*hq x cH*hq x cU*inv2 (hq x cU*hq x cB)))
theorem lU:([(zmp (0:Int),zmp (-72:Int)),(zmp (12:Int),zmp (-12:Int)),(zmp (1:Int),zmp (0:Int))]:List F2)=cU.map q2:=of_decide_eq_true (by kernel_rfl)
theorem lB:([(zmp (-432:Int),zmp (-432:Int)),(zmp (0:Int),zmp (-216:Int)),(zmp (18:Int),zmp (-18:Int)),(zmp (1:Int),zmp (0:Int))]:List F2)=cB.map q2:=of_decide_eq_true (by kernel_rfl)
theorem hU (x:F2):hvo x csH2c1=hq x cU:=by
 rw[hvo,opq_eq,hq,<- lU];rfl
theorem hB (x:F2):hvo x csH2c0=hq x cB:=by
 rw[hvo,opq_eq,hq,<- lB];rfl
theorem hvo_4 {x a b c d:F2} {p q r s:V2} (ha:a=q2 p) (hb:b=q2 q) (hc:c=q2 r) (hd:d=q2 s):hvo x (List.take 4 [a,b,c,d])=hq x [p,q,r,s]:=by
 rw[hvo,opq_eq,ha,hb,hc,hd];rfl
def grv (s:ByteArray) (n:Nat):Bool:=decide ((fp.rdFp (List.take 48 (grG s s.size))).1.v=(n:Int)%Mp)
theorem gq {s t:ByteArray} {m n:Nat} (h1:grv s m=true) (h2:grv t n=true):((gro s,gro t):F2)=q2 (m,n):=by
 refine F2.ext (Zm.ext ?_) (Zm.ext ?_)
 ·show (gro s).v=_
  rw[gro,opq_eq];exact of_decide_eq_true h1
 ·show (gro t).v=_
  rw[gro,opq_eq];exact of_decide_eq_true h2
theorem across_0 {x y:F2} (h:decide (hvo x csH2c1*hvo x csH2c0=(0:Car Kd.fp × Car Kd.fp))=true):((((0:Fp),(0:Fp)),(0:Fp),(0:Fp)),())=(acro x y,()):=by
 have h:hvo x csH2c1*hvo x csH2c0=0:=of_decide_eq_true h
 rw[hU,hB] at h
 rw[acro,opq_eq,if_pos h];rfl
theorem across_1 {x y a0 a1 a2 a3 b0 b1 b2 b3:F2} (h:decide (hvo x csH2c1*hvo x csH2c0=(0:Car Kd.fp × Car Kd.fp))=false) (e0:a0=q2 (889424345604814976315064405719089812568196182208668418962679585805340366775741747653930584250892369786198727235542,889424345604814976315064405719089812568196182208668418962679585805340366775741747653930584250892369786198727235542)) (e1:a1=q2 (0,2668273036814444928945193217157269437704588546626005256888038757416021100327225242961791752752677109358596181706522)) (e2:a2=q2 (2668273036814444928945193217157269437704588546626005256888038757416021100327225242961791752752677109358596181706526,1334136518407222464472596608578634718852294273313002628444019378708010550163612621480895876376338554679298090853261)) (e3:a3=q2 (3557697382419259905260257622876359250272784728834673675850718343221361467102966990615722337003569479144794908942033,0)) (f0:b0=q2 (3261222600550988246488569487636662646083386001431784202863158481286248011511053074731078808919938689216061999863558,3261222600550988246488569487636662646083386001431784202863158481286248011511053074731078808919938689216061999863558)) (f1:b1=q2 (0,889424345604814976315064405719089812568196182208668418962679585805340366775741747653930584250892369786198727235518)) (f2:b2=q2 (2668273036814444928945193217157269437704588546626005256888038757416021100327225242961791752752677109358596181706524,1334136518407222464472596608578634718852294273313002628444019378708010550163612621480895876376338554679298090853263)) (f3:b3=q2 (2816510427748580758331037284777117739799287910327449993381818688383577828123182200904113516794492504322962636245776,0)) :
  ((hvo x (List.take 4 [a0,a1,a2,a3])*hvo x csH2c0*inv2 (hvo x csH2c1*hvo x csH2c0),y*hvo x (List.take 4 [b0,b1,b2,b3])*hvo x csH2c1*inv2 (hvo x csH2c1*hvo x csH2c0)),())=(acro x y,()):=by
 have h:¬ hvo x csH2c1*hvo x csH2c0=0:=of_decide_eq_false h
 rw[hU,hB] at h
 rw[acro,opq_eq,if_neg h,hU,hB,hvo_4 e0 e1 e2 e3,hvo_4 f0 f1 f2 f3];rfl
theorem ent_across:enters Tryz.prog 138 Tryz.f138:=ek
theorem fn_across:FnOk Tryz.prog 138 [f2,f2] [.val pt2] noG (fun _=>True) (fun (x,y,_)=>(acro x y,())):=by
 refine fn_of_vc (sp:=sps [spSmall,spSm2,spValue,spAcr1,fp2.spMul,fp2.spZero,fp2.spInv]) (spk (fok fn_small) (spk (fok fn_sm2) (spk (fok fn_value) (spk (fok fn_acr1) (spk (fok fp2.fn_mul) (spk (fok fp2.fn_zero) (spk (fok fp2.fn_inv) snl))))))) mixed ent_across (by decide) (by decide) ?_
 rintro w M0 ⟨x,y,⟨⟩⟩
 revert x y
 intro (x:F2) (y:F2) _ _
 refine vcx (X:=(True/\(smA (0:Int)/\smA (-72:Int))/\(smA (12:Int)/\smA (-12:Int))/\(smA (1:Int)/\smA (0:Int))/\0+3<=3/\csH2c1.length<=(1048576:Nat)/\(smA (-432:Int)/\smA (-432:Int))/\(smA (0:Int)/\smA (-216:Int))/\(smA (18:Int)/\smA (-18:Int))/\(smA (1:Int)/\smA (0:Int))/\0+4<=4/\csH2c0.length<=(1048576:Nat)/\True/\True/\(decide (hvo x csH2c1*hvo x csH2c0=(0:Car Kd.fp × Car Kd.fp))=true->((((0:Fp),(0:Fp)),(0:Fp),(0:Fp)),())=(acro x y,()))/\(decide (hvo x csH2c1*hvo x csH2c0=(0:Car Kd.fp × Car Kd.fp))=false->(grOk balH2c1=true/\grOk balH2c1=true)/\(grOk (ByteArray.mk (#[] ))=true/\grOk balH2c6=true)/\(grOk balH2c5=true/\grOk balH2c3=true)/\(grOk balH2c10=true/\grOk (ByteArray.mk (#[] ))=true)/\0+4<=4/\(List.take 4 [(gro balH2c1,gro balH2c1),(gro (ByteArray.mk (#[] )),gro balH2c6),(gro balH2c5,gro balH2c3),(gro balH2c10,gro (ByteArray.mk (#[] )))]).length<=(1048576:Nat)/\(grOk balH2c9=true/\grOk balH2c9=true)/\(grOk (ByteArray.mk (#[] ))=true/\grOk balH2c2=true)/\(grOk balH2c7=true/\grOk balH2c4=true)/\(grOk balH2c8=true/\grOk (ByteArray.mk (#[] ))=true)/\0+4<=4/\(List.take 4 [(gro balH2c9,gro balH2c9),(gro (ByteArray.mk (#[] )),gro balH2c2),(gro balH2c7,gro balH2c4),(gro balH2c8,gro (ByteArray.mk (#[] )))]).length<=(1048576:Nat)/\True/\True/\True/\True/\True/\True/\((hvo x (List.take 4 [(gro balH2c1,gro balH2c1),(gro (ByteArray.mk (#[] )),gro balH2c6),(gro balH2c5,gro balH2c3),(gro balH2c10,gro (ByteArray.mk (#[] )))])*hvo x csH2c0*inv2 (hvo x csH2c1*hvo x csH2c0),y*hvo x (List.take 4 [(gro balH2c9,gro balH2c9),(gro (ByteArray.mk (#[] )),gro balH2c2),(gro balH2c7,gro balH2c4),(gro balH2c8,gro (ByteArray.mk (#[] )))])*hvo x csH2c1*inv2 (hvo x csH2c1*hvo x csH2c0)),())=(acro x y,())))) (by kernel_rfl) ?_
 refine⟨trivial,⟨⟨by decide,by decide⟩,⟨by decide,by decide⟩⟩,⟨⟨by decide,by decide⟩,⟨by decide,by decide⟩⟩,⟨⟨by decide,by decide⟩,⟨by decide,by decide⟩⟩,Nat.le_refl _,by decide,⟨⟨by decide,by decide⟩,⟨by decide,by decide⟩⟩,⟨⟨by decide,by decide⟩,⟨by decide,by decide⟩⟩,⟨⟨by decide,by decide⟩,⟨by decide,by decide⟩⟩,⟨⟨by decide,by decide⟩,⟨by decide,by decide⟩⟩,Nat.le_refl _,by decide,trivial,trivial,fun h=>across_0 h,fun h=>⟨⟨by kernel_rfl,by kernel_rfl⟩,⟨by kernel_rfl,by kernel_rfl⟩,⟨by kernel_rfl,by kernel_rfl⟩,⟨by kernel_rfl,by kernel_rfl⟩,Nat.le_refl _,Nat.le_trans (List.length_take_le _ _) (by decide),⟨by kernel_rfl,by kernel_rfl⟩,⟨by kernel_rfl,by kernel_rfl⟩,⟨by kernel_rfl,by kernel_rfl⟩,⟨by kernel_rfl,by kernel_rfl⟩,Nat.le_refl _,Nat.le_trans (List.length_take_le _ _) (by decide),trivial,trivial,trivial,trivial,trivial,trivial,?_⟩⟩
 exact across_1 h (gq (by kernel_rfl) (by kernel_rfl)) (gq (by kernel_rfl) (by kernel_rfl)) (gq (by kernel_rfl) (by kernel_rfl)) (gq (by kernel_rfl) (by kernel_rfl)) (gq (by kernel_rfl) (by kernel_rfl)) (gq (by kernel_rfl) (by kernel_rfl)) (gq (by kernel_rfl) (by kernel_rfl)) (gq (by kernel_rfl) (by kernel_rfl))
noncomputable def spAcross:Nat × Eng.Spec:=(138,fnSpec [f2,f2] [.val pt2] (fun _=>True) (fun (x,y,_)=>(acro x y,())))
end Go.Proofs.YteldhmehjkhanaaGreatDoor.h2c
namespace Go.Proofs.YteldhmehjkhanaaGreatDoor.h2c
noncomputable section
open Go Go.Eng Go.RowKit Cr fp2
abbrev csH2d0:=(List.take 4 [(zmp (1012:Int),zmp (1012:Int)),(zmp (0:Int),zmp (240:Int)),((0:Fp),(0:Fp)),(zmp (1:Int),zmp (0:Int))])
def odo (y:F2):Bool:=opq (od y)
theorem fo_odd:FnOk Tryz.prog 137 [f2] [.val .bool] noG (fun _=>True) (fun (y,_)=>(odo y,())):=fp2.fn_odd.out fun (y,_)=>by show (odo y,())=(_,());rw[odo,opq_eq];rfl
def soOdd:Nat × Eng.Spec:=(137,fnSpec [f2] [.val .bool] (fun _=>True) (fun (y,_)=>(odo y,())))
def gsq (x:F2):F2 × Bool:=sqrt2 (hq x cG)
def fixy (u y:F2):F2:=if odo y=odo u then y else -y
def swm (u t x:F2):F2 × F2:=if (gsq x).2=true then acro x (fixy u (gsq x).1) else acro (x*t) (fixy u (gsq (x*t)).1)
def swx (u:F2):F2:=if inv2 (cz*(u*u)*(cz*(u*u))+cz*(u*u))=0 then cb*inv2 (cz*ca) else -cb*inv2 ca*(1+inv2 (cz*(u*u)*(cz*(u*u))+cz*(u*u)))
def mapo (u:F2):F2 × F2:=opq (swm u (cz*(u*u)) (swx u))
theorem k_a:((zmp (0:Int),zmp (240:Int)):F2)=ca:=rfl
theorem k_b:((zmp (1012:Int),zmp (1012:Int)):F2)=cb:=rfl
theorem k_z:((zmp (-2:Int),zmp (-1:Int)):F2)=cz:=F2.ext (Zm.ext (of_decide_eq_true (by kernel_rfl))) (Zm.ext (of_decide_eq_true (by kernel_rfl)))
theorem k_1:((zmp (1:Int),zmp (0:Int)):F2)=1:=F2.ext (Zm.ext (of_decide_eq_true (by kernel_rfl))) (Zm.ext (of_decide_eq_true (by kernel_rfl)))
theorem hG4 (x:F2):hvo x csH2d0=hq x cG:=hvo_4 (p:=(1012,1012)) (q:=(0,240)) (r:=(0,0)) (s:=(1,0)) k_b k_a rfl (k_1.trans rfl)
theorem map_o {u y:F2} {x:F2} {R:F2 × F2} (hR:R=acro x (fixy u y)):((!odo y==odo u)=true->True/\True/\(acro x (-y),())=(R,()))/\((!odo y==odo u)=false->True/\(acro x y,())=(R,())):=by
 refine⟨fun h=>⟨trivial,trivial,?_⟩,fun h=>⟨trivial,?_⟩⟩
 ·have h1:¬ odo y=odo u:=by simpa using h
  rw[hR,fixy,if_neg h1]
 ·have h1:odo y=odo u:=by simpa using h
  rw[hR,fixy,if_pos h1]
theorem map_t {u T x:F2} {R:F2 × F2} (hR:R=swm u T x):((!(sqrt2 (hvo x csH2d0)).snd)=true->True/\0+4<=4/\csH2d0.length<=(1048576:Nat)/\True/\True/\True/\((!odo (sqrt2 (hvo (x*T) csH2d0)).fst==odo u)=true->True/\True/\(acro (x*T) (-(sqrt2 (hvo (x*T) csH2d0)).fst),())=(R,()))/\((!odo (sqrt2 (hvo (x*T) csH2d0)).fst==odo u)=false->True/\(acro (x*T) (sqrt2 (hvo (x*T) csH2d0)).fst,())=(R,())))/\((!(sqrt2 (hvo x csH2d0)).snd)=false->True/\True/\((!odo (sqrt2 (hvo x csH2d0)).fst==odo u)=true->True/\True/\(acro x (-(sqrt2 (hvo x csH2d0)).fst),())=(R,()))/\((!odo (sqrt2 (hvo x csH2d0)).fst==odo u)=false->True/\(acro x (sqrt2 (hvo x csH2d0)).fst,())=(R,()))):=by
 rw[hG4,hG4]
 refine⟨fun h=>⟨trivial,Nat.le_refl _,by decide,trivial,trivial,trivial,map_o ?_⟩,fun h=>⟨trivial,trivial,map_o ?_⟩⟩
 ·have h1:¬ (gsq x).2=true:=by
   have h:(!(gsq x).2)=true:=h
   simpa using h
  rw[hR,swm,if_neg h1];rfl
 ·have h1:(gsq x).2=true:=by
   have h:(!(gsq x).2)=false:=h
   simpa using h
  rw[hR,swm,if_pos h1];rfl
theorem ent_map:enters Tryz.prog 100 Tryz.f100:=ek
theorem fn_map:FnOk Tryz.prog 100 [f2] [.val pt2] noG (fun _=>True) (fun (u,_)=>(mapo u,())):=by
 refine fn_of_vc (sp:=sps [spSmall,spSm2,fp2.spSquare,fp2.spMul,fp2.spAdd,fp2.spInv,fp2.spZero,fp2.spNeg,spValue,fp2.spSqrt,soOdd,spAcross]) (spk (fok fn_small) (spk (fok fn_sm2) (spk (fok fp2.fn_square) (spk (fok fp2.fn_mul) (spk (fok fp2.fn_add) (spk (fok fp2.fn_inv) (spk (fok fp2.fn_zero) (spk (fok fp2.fn_neg) (spk (fok fn_value) (spk (fok fp2.fn_sqrt) (spk (fok fo_odd) (spk (fok fn_across) snl)))))))))))) mixed ent_map (by decide) (by decide) ?_
 rintro w M0 ⟨u,⟨⟩⟩
 revert u
 intro (u:F2) _ _
 refine vcx (X:=(True/\(smA (0:Int)/\smA (240:Int))/\(smA (1012:Int)/\smA (1012:Int))/\(smA (-2:Int)/\smA (-1:Int))/\(smA (1:Int)/\smA (0:Int))/\True/\True/\True/\True/\True/\True/\(decide (inv2 ((zmp (-2:Int),zmp (-1:Int))*(u*u)*((zmp (-2:Int),zmp (-1:Int))*(u*u))+(zmp (-2:Int),zmp (-1:Int))*(u*u))=(0:Car Kd.fp × Car Kd.fp))=true->True/\True/\True/\0+4<=4/\csH2d0.length<=(1048576:Nat)/\True/\((!(sqrt2 (hvo ((zmp (1012:Int),zmp (1012:Int))*inv2 ((zmp (-2:Int),zmp (-1:Int))*(zmp (0:Int),zmp (240:Int)))) csH2d0)).snd)=true->True/\0+4<=4/\csH2d0.length<=(1048576:Nat)/\True/\True/\True/\((!odo (sqrt2 (hvo ((zmp (1012:Int),zmp (1012:Int))*inv2 ((zmp (-2:Int),zmp (-1:Int))*(zmp (0:Int),zmp (240:Int)))*((zmp (-2:Int),zmp (-1:Int))*(u*u))) csH2d0)).fst==odo u)=true->True/\True/\(acro ((zmp (1012:Int),zmp (1012:Int))*inv2 ((zmp (-2:Int),zmp (-1:Int))*(zmp (0:Int),zmp (240:Int)))*((zmp (-2:Int),zmp (-1:Int))*(u*u))) (-(sqrt2 (hvo ((zmp (1012:Int),zmp (1012:Int))*inv2 ((zmp (-2:Int),zmp (-1:Int))*(zmp (0:Int),zmp (240:Int)))*((zmp (-2:Int),zmp (-1:Int))*(u*u))) csH2d0)).fst),())=(mapo u,()))/\((!odo (sqrt2 (hvo ((zmp (1012:Int),zmp (1012:Int))*inv2 ((zmp (-2:Int),zmp (-1:Int))*(zmp (0:Int),zmp (240:Int)))*((zmp (-2:Int),zmp (-1:Int))*(u*u))) csH2d0)).fst==odo u)=false->True/\(acro ((zmp (1012:Int),zmp (1012:Int))*inv2 ((zmp (-2:Int),zmp (-1:Int))*(zmp (0:Int),zmp (240:Int)))*((zmp (-2:Int),zmp (-1:Int))*(u*u))) (sqrt2 (hvo ((zmp (1012:Int),zmp (1012:Int))*inv2 ((zmp (-2:Int),zmp (-1:Int))*(zmp (0:Int),zmp (240:Int)))*((zmp (-2:Int),zmp (-1:Int))*(u*u))) csH2d0)).fst,())=(mapo u,())))/\((!(sqrt2 (hvo ((zmp (1012:Int),zmp (1012:Int))*inv2 ((zmp (-2:Int),zmp (-1:Int))*(zmp (0:Int),zmp (240:Int)))) csH2d0)).snd)=false->True/\True/\((!odo (sqrt2 (hvo ((zmp (1012:Int),zmp (1012:Int))*inv2 ((zmp (-2:Int),zmp (-1:Int))*(zmp (0:Int),zmp (240:Int)))) csH2d0)).fst==odo u)=true->True/\True/\(acro ((zmp (1012:Int),zmp (1012:Int))*inv2 ((zmp (-2:Int),zmp (-1:Int))*(zmp (0:Int),zmp (240:Int)))) (-(sqrt2 (hvo ((zmp (1012:Int),zmp (1012:Int))*inv2 ((zmp (-2:Int),zmp (-1:Int))*(zmp (0:Int),zmp (240:Int)))) csH2d0)).fst),())=(mapo u,()))/\((!odo (sqrt2 (hvo ((zmp (1012:Int),zmp (1012:Int))*inv2 ((zmp (-2:Int),zmp (-1:Int))*(zmp (0:Int),zmp (240:Int)))) csH2d0)).fst==odo u)=false->True/\(acro ((zmp (1012:Int),zmp (1012:Int))*inv2 ((zmp (-2:Int),zmp (-1:Int))*(zmp (0:Int),zmp (240:Int)))) (sqrt2 (hvo ((zmp (1012:Int),zmp (1012:Int))*inv2 ((zmp (-2:Int),zmp (-1:Int))*(zmp (0:Int),zmp (240:Int)))) csH2d0)).fst,())=(mapo u,()))))/\(decide (inv2 ((zmp (-2:Int),zmp (-1:Int))*(u*u)*((zmp (-2:Int),zmp (-1:Int))*(u*u))+(zmp (-2:Int),zmp (-1:Int))*(u*u))=(0:Car Kd.fp × Car Kd.fp))=false->True/\True/\True/\True/\True/\0+4<=4/\csH2d0.length<=(1048576:Nat)/\True/\((!(sqrt2 (hvo (-(zmp (1012:Int),zmp (1012:Int))*inv2 (zmp (0:Int),zmp (240:Int))*((zmp (1:Int),zmp (0:Int))+inv2 ((zmp (-2:Int),zmp (-1:Int))*(u*u)*((zmp (-2:Int),zmp (-1:Int))*(u*u))+(zmp (-2:Int),zmp (-1:Int))*(u*u)))) csH2d0)).snd)=true->True/\0+4<=4/\csH2d0.length<=(1048576:Nat)/\True/\True/\True/\((!odo (sqrt2 (hvo (-(zmp (1012:Int),zmp (1012:Int))*inv2 (zmp (0:Int),zmp (240:Int))*((zmp (1:Int),zmp (0:Int))+inv2 ((zmp (-2:Int),zmp (-1:Int))*(u*u)*((zmp (-2:Int),zmp (-1:Int))*(u*u))+(zmp (-2:Int),zmp (-1:Int))*(u*u)))*((zmp (-2:Int),zmp (-1:Int))*(u*u))) csH2d0)).fst==odo u)=true->True/\True/\(acro (-(zmp (1012:Int),zmp (1012:Int))*inv2 (zmp (0:Int),zmp (240:Int))*((zmp (1:Int),zmp (0:Int))+inv2 ((zmp (-2:Int),zmp (-1:Int))*(u*u)*((zmp (-2:Int),zmp (-1:Int))*(u*u))+(zmp (-2:Int),zmp (-1:Int))*(u*u)))*((zmp (-2:Int),zmp (-1:Int))*(u*u))) (-(sqrt2 (hvo (-(zmp (1012:Int),zmp (1012:Int))*inv2 (zmp (0:Int),zmp (240:Int))*((zmp (1:Int),zmp (0:Int))+inv2 ((zmp (-2:Int),zmp (-1:Int))*(u*u)*((zmp (-2:Int),zmp (-1:Int))*(u*u))+(zmp (-2:Int),zmp (-1:Int))*(u*u)))*((zmp (-2:Int),zmp (-1:Int))*(u*u))) csH2d0)).fst),())=(mapo u,()))/\((!odo (sqrt2 (hvo (-(zmp (1012:Int),zmp (1012:Int))*inv2 (zmp (0:Int),zmp (240:Int))*((zmp (1:Int),zmp (0:Int))+inv2 ((zmp (-2:Int),zmp (-1:Int))*(u*u)*((zmp (-2:Int),zmp (-1:Int))*(u*u))+(zmp (-2:Int),zmp (-1:Int))*(u*u)))*((zmp (-2:Int),zmp (-1:Int))*(u*u))) csH2d0)).fst==odo u)=false->True/\(acro (-(zmp (1012:Int),zmp (1012:Int))*inv2 (zmp (0:Int),zmp (240:Int))*((zmp (1:Int),zmp (0:Int))+inv2 ((zmp (-2:Int),zmp (-1:Int))*(u*u)*((zmp (-2:Int),zmp (-1:Int))*(u*u))+(zmp (-2:Int),zmp (-1:Int))*(u*u)))*((zmp (-2:Int),zmp (-1:Int))*(u*u))) (sqrt2 (hvo (-(zmp (1012:Int),zmp (1012:Int))*inv2 (zmp (0:Int),zmp (240:Int))*((zmp (1:Int),zmp (0:Int))+inv2 ((zmp (-2:Int),zmp (-1:Int))*(u*u)*((zmp (-2:Int),zmp (-1:Int))*(u*u))+(zmp (-2:Int),zmp (-1:Int))*(u*u)))*((zmp (-2:Int),zmp (-1:Int))*(u*u))) csH2d0)).fst,())=(mapo u,())))/\((!(sqrt2 (hvo (-(zmp (1012:Int),zmp (1012:Int))*inv2 (zmp (0:Int),zmp (240:Int))*((zmp (1:Int),zmp (0:Int))+inv2 ((zmp (-2:Int),zmp (-1:Int))*(u*u)*((zmp (-2:Int),zmp (-1:Int))*(u*u))+(zmp (-2:Int),zmp (-1:Int))*(u*u)))) csH2d0)).snd)=false->True/\True/\((!odo (sqrt2 (hvo (-(zmp (1012:Int),zmp (1012:Int))*inv2 (zmp (0:Int),zmp (240:Int))*((zmp (1:Int),zmp (0:Int))+inv2 ((zmp (-2:Int),zmp (-1:Int))*(u*u)*((zmp (-2:Int),zmp (-1:Int))*(u*u))+(zmp (-2:Int),zmp (-1:Int))*(u*u)))) csH2d0)).fst==odo u)=true->True/\True/\(acro (-(zmp (1012:Int),zmp (1012:Int))*inv2 (zmp (0:Int),zmp (240:Int))*((zmp (1:Int),zmp (0:Int))+inv2 ((zmp (-2:Int),zmp (-1:Int))*(u*u)*((zmp (-2:Int),zmp (-1:Int))*(u*u))+(zmp (-2:Int),zmp (-1:Int))*(u*u)))) (-(sqrt2 (hvo (-(zmp (1012:Int),zmp (1012:Int))*inv2 (zmp (0:Int),zmp (240:Int))*((zmp (1:Int),zmp (0:Int))+inv2 ((zmp (-2:Int),zmp (-1:Int))*(u*u)*((zmp (-2:Int),zmp (-1:Int))*(u*u))+(zmp (-2:Int),zmp (-1:Int))*(u*u)))) csH2d0)).fst),())=(mapo u,()))/\((!odo (sqrt2 (hvo (-(zmp (1012:Int),zmp (1012:Int))*inv2 (zmp (0:Int),zmp (240:Int))*((zmp (1:Int),zmp (0:Int))+inv2 ((zmp (-2:Int),zmp (-1:Int))*(u*u)*((zmp (-2:Int),zmp (-1:Int))*(u*u))+(zmp (-2:Int),zmp (-1:Int))*(u*u)))) csH2d0)).fst==odo u)=false->True/\(acro (-(zmp (1012:Int),zmp (1012:Int))*inv2 (zmp (0:Int),zmp (240:Int))*((zmp (1:Int),zmp (0:Int))+inv2 ((zmp (-2:Int),zmp (-1:Int))*(u*u)*((zmp (-2:Int),zmp (-1:Int))*(u*u))+(zmp (-2:Int),zmp (-1:Int))*(u*u)))) (sqrt2 (hvo (-(zmp (1012:Int),zmp (1012:Int))*inv2 (zmp (0:Int),zmp (240:Int))*((zmp (1:Int),zmp (0:Int))+inv2 ((zmp (-2:Int),zmp (-1:Int))*(u*u)*((zmp (-2:Int),zmp (-1:Int))*(u*u))+(zmp (-2:Int),zmp (-1:Int))*(u*u)))) csH2d0)).fst,())=(mapo u,())))))) (by kernel_rfl) ?_
 refine⟨trivial,⟨⟨by decide,by decide⟩,⟨by decide,by decide⟩⟩,⟨⟨by decide,by decide⟩,⟨by decide,by decide⟩⟩,⟨⟨by decide,by decide⟩,⟨by decide,by decide⟩⟩,⟨⟨by decide,by decide⟩,⟨by decide,by decide⟩⟩,trivial,trivial,trivial,trivial,trivial,trivial,fun h=>⟨trivial,trivial,trivial,Nat.le_refl _,by decide,trivial,map_t ?_⟩,fun h=>⟨trivial,trivial,trivial,trivial,trivial,Nat.le_refl _,by decide,trivial,map_t ?_⟩⟩
 ·rw[k_z] at h
  rw[mapo,opq_eq,swx,if_pos (of_decide_eq_true h),k_z,k_a,k_b]
 ·rw[k_z] at h
  rw[mapo,opq_eq,swx,if_neg (of_decide_eq_false h),k_z,k_a,k_b,k_1]
def spMap:Nat × Eng.Spec:=(100,fnSpec [f2] [.val pt2] (fun _=>True) (fun (u,_)=>(mapo u,())))
end
end Go.Proofs.YteldhmehjkhanaaGreatDoor.h2c
namespace Cr
open Rg Fd Go.Eng
end Cr
namespace Cr
open Rg Fd Go.Eng
def e0 (x:Fp):F2:=(x,(0:Fp))
def e1 (x:Fp):F12:=e2 (e0 x)
noncomputable def fro (p:Nat) (x:F12):F12:=pwn x p
noncomputable def wi:F12:=inv ww
noncomputable def k2:F12:=(((0:F2),(0:F2),inv xi),(0:F2),(0:F2),(0:F2))
structure LastP (N p u r:Nat):Prop where
 pp:p=fpP
 six:∀ x:F12,x≠0->x.2=0->pwn x N=1
 odd:∀ x:F12,x≠0->x.1=0->pwn x N=1
 ord:∀ x:F12,x≠0->pwn (pwn x N) r=1
 np:∃ s,u+p=r*s
 pos:0<N
section
variable {N p u r:Nat} (L:LastP N p u r)
include L
theorem LastP.up {x:F12} (hx:x≠0):pwn (pwn x N) u*pwn (pwn x N) p=1:=by
 obtain⟨s,hs⟩:=L.np
 rw[<- pwn_add,hs,pwn_mul,L.ord x hx,pwn_one]
theorem LastP.neg:pwn (-1:F12) N=1:=by
 refine L.six _ ?_ ?_
 ·intro h
  have h1:(1:F12)=0:=by rw[<- neg_neg (1:F12),h,neg_z]
  exact one_ne h1
 ·rw[F12.neg_def];exact neg_z (F:=F6)
noncomputable def kil:Kill F12:=⟨fun x=>pwn x N,fun x y=>pwn_prod x y N,pwn_one N,L.neg⟩
variable {b1:Fp} {b2:F2} (hb1:b1≠0) (hb2:b2≠0) (hns:∀ y:F2,y*y=b2->False) (he:b2=e0 b1*xi)
include hb1 hb2 hns he
end
end Cr
namespace Cr
open Rg Fd Go.Eng
theorem hm_cj:Hm cjg:=by
 refine⟨fun x y=>?_,fun x y=>?_,fun x=>?_,F2.ext rfl neg_z,fun x h=>?_⟩
 ·show (_,_)=(_:F2)
  rw[F2.add_def,F2.add_def]
  exact F2.ext rfl (neg_add_rev _ _)
 ·show (_,_)=(_:F2)
  rw[F2.mul_def,F2.mul_def]
  refine F2.ext ?_ ?_
  ·show x.1*y.1-x.2*y.2=x.1*y.1 - -x.2 * -y.2
   rw[neg_mul,mul_neg,neg_neg]
  ·show -(x.1*y.2+x.2*y.1)=x.1 * -y.2 + -x.2*y.1
   rw[neg_add_rev,mul_neg,neg_mul]
 ·show (_,_)=(_:F2)
  rw[F2.neg_def,F2.neg_def];rfl
 ·have h1:x.1=0:=congrArg Prod.fst h
  have h2 : -x.2=0:=congrArg Prod.snd h
  exact F2.ext h1 (by rw[<- neg_neg x.2,h2];exact neg_z)
noncomputable def ir:F2:=q2 irv
noncomputable def tau (P:F2 × F2):F2 × F2:=tws cjg ir P
theorem tbc:evP2.isz (vsub (vmul (vcj (4,4)) (vmul (vmul (vmul irv irv) irv) (vmul (vmul irv irv) irv))) (4,4))=true:=by kernel_rfl
theorem tb_tau:tb=cjg tb*(ir*ir*ir*(ir*ir*ir)):=by
 have h1:q2 (vsub (vmul (vcj (4,4)) (vmul (vmul (vmul irv irv) irv) (vmul (vmul irv irv) irv))) (4,4))=0:=(evP2.isz_φ _).1 tbc
 simp only[q2_sub,q2_mul,q2_cj] at h1
 exact (eq_of_sub h1).symm
structure Ad (f:F2 × F2->F2 × F2):Prop where
 on:∀ P,OnP tb P->OnP tb (f P)
 add:∀ P Q,OnP tb P->OnP tb Q->f (padd P Q)=padd (f P) (f Q)
theorem ad_tau:Ad tau:=⟨fun _ h=>tws_onP hm_cj tb_tau h,fun _ _ h k=>tws_add hm_cj tb_tau tb_ne tb_ne h k⟩
theorem Ad.sum {f g:F2 × F2->F2 × F2} (hf:Ad f) (hg:Ad g):Ad fun P=>padd (f P) (g P):=⟨fun P h=>padd_on tb_ne (hf.on P h) (hg.on P h),fun P Q h k=>by
 show padd (f (padd P Q)) (g (padd P Q))=_
 rw[hf.add P Q h k,hg.add P Q h k]
 exact add4 tb_ne (hf.on P h) (hf.on Q k) (hg.on P h) (hg.on Q k)⟩
theorem Ad.zero {f:F2 × F2->F2 × F2} (hf:Ad f):f O2=O2:=by
 have oO:OnP tb (O2:F2 × F2):=.inl rfl
 have h:=hf.add O2 O2 oO oO
 rw[O_add] at h
 have c:=cancel tb_ne (hf.on _ oO) (hf.on _ oO)
 rw[<- h,neg_add_self] at c
 exact c.symm
theorem Ad.nmul {f:F2 × F2->F2 × F2} (hf:Ad f) {P:F2 × F2} (oP:OnP tb P):∀ n,f (nmul P n)=nmul (f P) n
 | 0=>hf.zero
 | n+1=>by
  show f (padd (Cr.nmul P n) P)=padd (Cr.nmul (f P) n) (f P)
  rw[hf.add _ _ (nmul_on tb_ne oP n) oP,hf.nmul oP n]
theorem Ad.eq {f g:F2 × F2->F2 × F2} (hf:Ad f) (hg:Ad g) (h1:f T1=g T1) (h2:f T2=g T2) {P:F2 × F2} (oP:OnP tb P):f P=g P:=by
 have oa:OnP tb T1:=.inr T1_on
 have ob:OnP tb T2:=.inr T2_on
 obtain⟨a,c,rfl⟩:=all_tw oP
 rw[hf.add _ _ (nmul_on tb_ne oa a) (nmul_on tb_ne ob c),hg.add _ _ (nmul_on tb_ne oa a) (nmul_on tb_ne ob c),hf.nmul oa,hf.nmul ob,hg.nmul oa,hg.nmul ob,h1,h2]
def uN:Nat:=15132376222941642752
noncomputable def clr (P:F2 × F2):F2 × F2:=psum [nmul (nmul P uN) uN,nmul P uN,pneg P,pneg (tau (padd (nmul P uN) P)),tau (tau (padd P P))]
end Cr
namespace Go.Proofs.YteldhmehjkhanaaGreatDoor.h2c
open Go Go.Eng Go.RowKit Cr fp2 Rg Fd
theorem fpsqrt_sq (y:Fp):(fp.fpSqrt (y*y)).2=true:=by
 by_cases hy:y=0
 ·rw[hy,mul_zero];exact fp2.fpsqrt_zero
 ·unfold fp.fpSqrt
  have e:zpw (y*y) fp.p14*zpw (y*y) fp.p14=y*y:=by
   have hf:=zpw_inv hy
   rw[zpw_eq] at hf ⊢
   rw[<- zpow_sq,<- zpow_add]
   have en:2*fp.p14.toNat+2*fp.p14.toNat=(4002409555221667393417789825735904156556882819939007885332058136124031650490837864442687629129015664037894272559785:Int).toNat+1+1+1:=of_decide_eq_true (by kernel_rfl)
   rw[en]
   generalize (4002409555221667393417789825735904156556882819939007885332058136124031650490837864442687629129015664037894272559785:Int).toNat=m at *
   show zpow y m*y*y*y=y*y
   rw[mul_comm (zpow y m) y,hf,one_mul]
  rw[if_pos e]
theorem sqrt2_sq (z:F2):(fp2.sqrt2 (z*z)).2=true:=by
 obtain⟨c,d⟩:=z
 have e1:(((c,d):F2)*(c,d)).1=c*c-d*d:=F2.mul1 _ _
 have e2:(((c,d):F2)*(c,d)).2=c*d+d*c:=F2.mul2 _ _
 by_cases hb:(((c,d):F2)*(c,d)).2=0
 ·rw[fp2.sqrt2,if_pos hb]
  by_cases h1:(fp.fpSqrt (((c,d):F2)*(c,d)).1).2=true
  ·rw[if_pos h1]
  ·rw[if_neg h1]
   show (fp.fpSqrt (-(((c,d):F2)*(c,d)).1)).2=true
   rw[e1] at h1 ⊢
   rw[e2,mul_comm d c] at hb
   rcases mul_eq_zero (double_eq_zero hb) with h|h
   ·rw[h,q_8,neg_neg];exact fpsqrt_sq d
   ·rw[h,mul_zero,sub_def,neg_zero,add_zero] at h1
    exact absurd (fpsqrt_sq c) h1
 ·rw[fp2.sqrt2,if_neg hb,e1,e2,q_5,if_pos (fpsqrt_sq _)]
  have hn:=fp2.fpsqrt_ok (fpsqrt_sq (c*c+d*d))
  generalize (fp.fpSqrt ((c*c+d*d)*(c*c+d*d))).1=n at *
  rcases sq_eq hn with h|h
  ·rw[h,q_6,if_pos (fpsqrt_sq _)]
  ·by_cases h2:(fp.fpSqrt (c*c-d*d+n+(c*c-d*d+n))).2=true
   ·rw[if_pos h2]
   ·rw[if_neg h2]
    show (fp.fpSqrt (c*c-d*d-n+(c*c-d*d-n))).2=true
    rw[h,q_7]
    exact fpsqrt_sq _
theorem gsq_of {x y:F2} (h:y*y=hq x cG):(gsq x).2=true:=by rw[gsq,<- h];exact sqrt2_sq y
theorem gsq_sq {x:F2} (h:(gsq x).2=true):(gsq x).1*(gsq x).1=hq x cG:=sqrt2_ok h
theorem inv2_0:inv2 0=0:=by
 rw[inv2_def]
 refine F2.ext ?_ ?_
 ·show (0:Fp)*_=0
  rw[zero_mul]
 ·show -(0:Fp)*_=0
  rw[neg_zero,zero_mul]
theorem inv2_m {x:F2} (h:x≠0):x*inv2 x=1:=mul_inv (F:=F2) x h
theorem inv2_u {x y:F2} (h:y*x=1):inv2 x=y:=by
 have hx:x≠0:=fun e=>by
  rw[e,mul_zero] at h
  exact absurd (congrArg Prod.fst h) (by decide)
 refine mul_left hx ?_
 rw[inv2_m hx,mul_comm x y,h]
theorem map_sq (u:F2):(gsq (swx u)).2=true\/(gsq (swx u*(cz*(u*u)))).2=true:=by
 by_cases h:∃ y:F2,y*y=hq (swx u) cG
 ·obtain⟨y,hy⟩:=h
  exact .inl (gsq_of hy)
 ·right
  have hn:∀ y:F2,y*y≠hq (swx u) cG:=fun y e=>h ⟨y,e⟩
  by_cases hd:inv2 (cz*(u*u)*(cz*(u*u))+cz*(u*u))=0
  ·exfalso
   obtain⟨y,hy⟩:=sw_0
   refine hn y ?_
   rw[swx,if_pos hd];exact hy
  ·have ht:cz*(u*u)*(cz*(u*u))+cz*(u*u)≠0:=fun e=>hd (by rw[e];exact inv2_0)
   obtain⟨y,hy⟩:=sw_two (u:=u) (t:=cz*(u*u)) (d:=inv2 (cz*(u*u)*(cz*(u*u))+cz*(u*u))) (x:=swx u) rfl (by rw[mul_comm];exact inv2_m ht) (by rw[swx,if_neg hd];rfl) hn
   exact gsq_of hy
theorem fixy_sq (u y:F2):fixy u y*fixy u y=y*y:=by
 rw[fixy]
 by_cases h:odo y=odo u
 ·rw[if_pos h]
 ·rw[if_neg h,neg_mul,mul_neg,neg_neg]
theorem acro_on {x y:F2} (h:y*y=hq x cG):OnP tb (acro x y):=by
 rw[acro,opq_eq]
 by_cases hz:hq x cU*hq x cB=0
 ·rw[if_pos hz];exact .inl rfl
 ·rw[if_neg hz];exact .inr (iso_on h (inv2_m hz))
theorem mapo_form (u:F2):∃ x y:F2,y*y=hq x cG/\mapo u=acro x (fixy u y)/\mapo (-u)=acro x (fixy (-u) y):=by
 have e1 : -u * -u=u*u:=by rw[neg_mul,mul_neg,neg_neg]
 have e2:swx (-u)=swx u:=by rw[swx,swx,e1]
 by_cases h:(gsq (swx u)).2=true
 ·refine⟨swx u,(gsq (swx u)).1,gsq_sq h,?_,?_⟩
  ·rw[mapo,opq_eq,swm,if_pos h]
  ·rw[mapo,opq_eq,e2,swm,if_pos h]
 ·have h2:=(map_sq u).resolve_left h
  refine⟨swx u*(cz*(u*u)),(gsq (swx u*(cz*(u*u)))).1,gsq_sq h2,?_,?_⟩
  ·rw[mapo,opq_eq,swm,if_neg h]
  ·rw[mapo,opq_eq,e2,e1,swm,if_neg h]
theorem mapo_on (u:F2):OnP tb (mapo u):=by
 obtain⟨x,y,h,e,_⟩:=mapo_form u
 rw[e]
 exact acro_on (by rw[fixy_sq,h])
noncomputable def eqv (a b:V2):Bool:=evP2.isz (vsub a b)
theorem eqv_ok {a b:V2} (h:eqv a b=true):q2 a=q2 b:=by
 have h1:q2 (vsub a b)=0:=(evP2.isz_φ _).1 h
 rw[q2_sub] at h1
 exact eq_of_sub h1
theorem q2_one:q2 (1,0)=1:=rfl
end Go.Proofs.YteldhmehjkhanaaGreatDoor.h2c
namespace Go.Proofs.YteldhmehjkhanaaGreatDoor.xmd
open Go Go.Eng Go.RowKit Cr sha
noncomputable def nmb (E:List Int) (i:Nat):F2:=(zm (num ((E.drop (128*i)).take 64)),zm (num ((E.drop (128*i+64)).take 64)))
noncomputable def nums (m t:List Int) (n:Nat):List F2:=opq ((List.range n).map (nmb (expo m t (128*(n:Int)))))
theorem nums_len (m t:List Int) (n:Nat):(nums m t n).length=n:=by rw[nums,opq_eq,List.length_map,List.length_range]
theorem nums_two (m t:List Int):nums m t 2=[nmb (expo m t 256) 0,nmb (expo m t 256) 1]:=by rw[nums,opq_eq];rfl
end Go.Proofs.YteldhmehjkhanaaGreatDoor.xmd
namespace Go.Proofs.YteldhmehjkhanaaGreatDoor.xmd
noncomputable section
open Go Go.Eng Go.RowKit Cr sha
abbrev f2:Kd:=fp2.f2
def spExF:Nat × Eng.Spec:=(125,fnSpecG shaG [bsl,bsl,.int .i64] [.val (.sl bK),.val (.int .i64)] preEx (fun (m,t,n,_)=>((exA m t n).1,(exA m t n).2,())))
theorem fn_exF:FnOk Tryz.prog 125 [bsl,bsl,.int .i64] [.val (.sl bK),.val (.int .i64)] shaG preEx (fun (m,t,n,_)=>((exA m t n).1,(exA m t n).2,())):=fn_expand.frz2
def nuA (m t:List Int) (n:Int):List F2 × Int:=match decide (n<0)||decide (n>63) with
 | true=>([],1)
 | false=>(nums m t n.toNat,0)
theorem ent_numbers:enters Tryz.prog 98 Tryz.f98:=ek
theorem dig_Bs (L:List Int):Bs (dig L):=by
 rw[dig,opq_eq,digF,outB]
 intro x hx
 obtain⟨i,_,rfl⟩:=List.mem_map.1 hx
 generalize (Int.fdiv _ _)=y
 simp[IntKind.wrap,IntKind.signed,IntKind.bits]
 omega
theorem exK_Bs (f t:List Int):∀ i,Bs (exK f t i).1
 | 0=>fun x hx=>by cases hx
 | i+1=>by
  show Bs ((exK f t i).1++nxD f t i (exK f t i).2)
  intro x hx
  rcases List.mem_append.1 hx with h|h
  ·exact exK_Bs f t i x h
  ·exact dig_Bs _ x h
theorem expo_Bs (m t:List Int) (n:Int):Bs (expo m t n):=by
 rw[expo,opq_eq,expF]
 intro x hx
 exact exK_Bs _ _ _ x (List.mem_of_mem_take hx)
theorem cut_a (E:List Int) (k:Nat):List.take 64 (List.take 128 (List.drop (128*k) E))=List.take 64 (List.drop (128*k) E):=by
 rw[List.take_take];rfl
theorem cut_b (E:List Int) (k:Nat):List.take 64 (List.drop 64 (List.take 128 (List.drop (128*k) E)))=List.take 64 (List.drop (128*k+64) E):=by
 rw[List.drop_take,List.take_take,List.drop_drop];rfl
def nuL (E:List Int) (n k:Nat):List F2:=(List.range k).map (nmb E)++List.replicate (n-k) ((0:Fp),(0:Fp))
theorem nuL_step {E:List Int} {n k:Nat} (h:k<n):(nuL E n k).set k (nmb E k)=nuL E n (k+1):=by
 unfold nuL
 rw[List.set_append_right _ _ (by simp),List.range_succ]
 have e:n-k=(n-(k+1))+1:=by omega
 have e2:k-((List.range k).map (nmb E)).length=0:=by simp
 rw[e2,e,List.replicate_succ,List.set_cons_zero,List.map_append,List.append_assoc]
 simp
def nuI (E:List Int) (n:Int) (g:Int × List F2):St:=mkSt Tryz.f98.ntmps 208 [(8,.is (.one (.ro bK E))),(10,.is (.one (.sl 168 0 0 n.toNat 12))),(33,sI .i64 n.toNat),(34,sI .i64 g.1)] [(168,[.row f2 n.toNat g.2])]
theorem fn_numbers:FnOk Tryz.prog 98 [bsl,bsl,.int .i64] [.own f2,.val (.int .i64)] shaG preEx (fun (m,t,n,_)=>((nuA m t n).1,(nuA m t n).2,())):=by
 have hsp:SpecsOk Tryz.prog (sps [spExF,fp.spWide]):=spk (fgk fn_exF) (spk (fok fp.fn_wide) snl)
 refine fn_of_tr (sp:=sps [spExF,fp.spWide]) ent_numbers (by decide) (by decide) (by kernel_rfl) ?_
 rintro w M0 ⟨m,t,n,⟨⟩⟩
 revert m t n
 intro (m:List Int) (t:List Int) (n:Int) hw hp
 have hm:m.length<=1048576:=hp.1
 have ht:t.length<=1048576:=hp.2
 show Tr _ _ _ _ _ _ _
 refine tr_cutF hsp mixed 8 (fun σ=>rdO bK 8 σ) (fun E=>nuI E n (0,List.replicate n.toNat ((0:Fp),(0:Fp)))) (fun E=>E=expo m t (128*n)/\0<=n/\n<=63) ?_ ?_
 ·refine vcx (X:=((decide (n<(0:Int))=true->([],(1:Int),())=((nuA m t n).fst,(nuA m t n).snd,()))/\(decide (n<(0:Int))=false->(decide (n>(63:Int))=true->([],(1:Int),())=((nuA m t n).fst,(nuA m t n).snd,()))/\(decide (n>(63:Int))=false->(∀ (g:Nat) (s:Sigma Car),shaG g=some s->Decidable.rec (fun h=>(fun x=>if g=(1:Nat) then some ⟨Kd.arr (64:Nat) uK,rootsL⟩ else none) h) (fun h=>(fun x=>some ⟨Kd.arr (8:Nat) uK,firstL⟩) h) (instDecidableEqNat g (0:Nat))=some s)/\preEx (m,t,IntKind.i64.wrap ((128:Int)*n),())/\(((exA m t (IntKind.i64.wrap ((128:Int)*n))).snd != (0:Int))=true->([],(exA m t (IntKind.i64.wrap ((128:Int)*n))).snd,())=((nuA m t n).fst,(nuA m t n).snd,()))/\(((exA m t (IntKind.i64.wrap ((128:Int)*n))).snd != (0:Int))=false->((0:Int)<=n/\n<=n/\(↑(96:Nat):Int)*n<=(281474976710656:Int)/\n<=(9223372036854775807:Int))/\(nuI ((exA m t (IntKind.i64.wrap ((128:Int)*n))).fst,(exA m t (IntKind.i64.wrap ((128:Int)*n))).snd,()).fst n ((0:Int),List.replicate n.toNat ((0:Fp),(0:Fp)))).triv ((exA m t (IntKind.i64.wrap ((128:Int)*n))).fst=expo m t ((128:Int)*n)/\(0:Int)<=n/\n<=(63:Int))))))) (by kernel_rfl) ?_
  refine⟨fun h=>by rw[nuA,h];rfl,fun h=>⟨fun h2=>by rw[nuA,h,h2];rfl,fun h2=>?_⟩⟩
  have hn0:0<=n:=by have:=of_decide_eq_false h;omega
  have hn1:n<=63:=by have:=of_decide_eq_false h2;omega
  have e1:IntKind.i64.wrap (128*n)=128*n:=wrap_i64' (by omega) (by omega)
  have eA:exA m t (128*n)=(expo m t (128*n),0):=by
   rw[exA,decide_eq_false (by omega),decide_eq_false (by omega)];rfl
  rw[e1,eA]
  exact⟨fun _ _ h=>h,⟨hm,ht⟩,fun h=>by simp at h,fun _=>⟨⟨hn0,Int.le_refl _,by omega,by omega⟩,tvi ⟨rfl,hn0,hn1⟩⟩⟩
 rintro E ⟨hE,hn0,hn1⟩
 revert E
 intro (E:List Int) (hE:E=expo m t (128*n))
 have hl:E.length=128*n.toNat:=by rw[hE,expo_len];omega
 refine tr_while hsp mixed noSw (fun σ=>(rdS (.int .i64) 34 σ,rdR f2 168 σ)) (nuI E n) (fun g=>∃ k:Nat,k<=n.toNat/\g.1=(k:Int)/\g.2=nuL E n.toNat k) (fun g=>n.toNat-g.1.toNat)
  (fun σ=>(rdS (.int .i64) 34 σ,rdR f2 168 σ)) (nuI E n) (fun g=>g.2=nums m t n.toNat) (0,List.replicate n.toNat ((0:Fp),(0:Fp))) (c:=nthC (codeOf Tryz.f98) 8) (by kernel_rfl) (by kernel_rfl) (le_of_proj (by kernel_rfl) (by kernel_rfl) ?_) ?_ ?_
 ·exact⟨0,Nat.zero_le _,rfl,by simp[nuL]⟩
 ·rintro⟨i,l⟩ hj
  revert i l
  intro (i:Int) (l:List F2) ⟨k,hk,ei,el⟩
  have ei:i=(k:Int):=ei
  have kl:l=nuL E n.toNat k:=el
  subst ei
  have e1:IntKind.i64.wrap (128*(k:Int))=((128*k:Nat):Int):=by rw[wrap_i64' (by omega) (by omega)];omega
  have e2:IntKind.i64.wrap ((k:Int)+1)=((k+1:Nat):Int):=wrap_succ (by omega)
  have e3:IntKind.i64.wrap (128*((k+1:Nat):Int))=((128*k+128:Nat):Int):=by rw[wrap_i64' (by omega) (by omega)];omega
  have e4:(((128*k+128:Nat):Int)-((128*k:Nat):Int)).toNat=128:=by omega
  refine vcx (X:=((decide ((↑k:Int)<(↑n.toNat:Int))=true->((0:Int)<=IntKind.i64.wrap ((128:Int)*(↑k:Int))/\IntKind.i64.wrap ((128:Int)*(↑k:Int))<=IntKind.i64.wrap ((128:Int)*IntKind.i64.wrap ((↑k:Int)+(1:Int)))/\IntKind.i64.wrap ((128:Int)*IntKind.i64.wrap ((↑k:Int)+(1:Int)))<=(↑E.length:Int))/\((0:Int)<=(64:Int)/\(64:Int)<=(↑(List.take (IntKind.i64.wrap ((128:Int)*IntKind.i64.wrap ((↑k:Int)+(1:Int)))-IntKind.i64.wrap ((128:Int)*(↑k:Int))).toNat (List.drop (IntKind.i64.wrap ((128:Int)*(↑k:Int))).toNat E)).length:Int))/\fp.preWide (List.take 64 (List.take (IntKind.i64.wrap ((128:Int)*IntKind.i64.wrap ((↑k:Int)+(1:Int)))-IntKind.i64.wrap ((128:Int)*(↑k:Int))).toNat (List.drop (IntKind.i64.wrap ((128:Int)*(↑k:Int))).toNat E)),())/\((0:Int)<=(64:Int)/\(64:Int)<=(↑(List.take (IntKind.i64.wrap ((128:Int)*IntKind.i64.wrap ((↑k:Int)+(1:Int)))-IntKind.i64.wrap ((128:Int)*(↑k:Int))).toNat (List.drop (IntKind.i64.wrap ((128:Int)*(↑k:Int))).toNat E)).length:Int))/\fp.preWide (List.take ((↑(List.take (IntKind.i64.wrap ((128:Int)*IntKind.i64.wrap ((↑k:Int)+(1:Int)))-IntKind.i64.wrap ((128:Int)*(↑k:Int))).toNat (List.drop (IntKind.i64.wrap ((128:Int)*(↑k:Int))).toNat E)).length:Int)-(64:Int)).toNat (List.drop (64:Nat) (List.take (IntKind.i64.wrap ((128:Int)*IntKind.i64.wrap ((↑k:Int)+(1:Int)))-IntKind.i64.wrap ((128:Int)*(↑k:Int))).toNat (List.drop (IntKind.i64.wrap ((128:Int)*(↑k:Int))).toNat E))),())/\((0:Int)<=(↑k:Int)/\(↑k:Int)<(↑n.toNat:Int))/\(↑k:Int).toNat<n.toNat/\(nuI E n (IntKind.i64.wrap ((↑k:Int)+(1:Int)),l.set (↑k:Int).toNat (zmp (num (List.take 64 (List.take (IntKind.i64.wrap ((128:Int)*IntKind.i64.wrap ((↑k:Int)+(1:Int)))-IntKind.i64.wrap ((128:Int)*(↑k:Int))).toNat (List.drop (IntKind.i64.wrap ((128:Int)*(↑k:Int))).toNat E)))),zmp (num (List.take ((↑(List.take (IntKind.i64.wrap ((128:Int)*IntKind.i64.wrap ((↑k:Int)+(1:Int)))-IntKind.i64.wrap ((128:Int)*(↑k:Int))).toNat (List.drop (IntKind.i64.wrap ((128:Int)*(↑k:Int))).toNat E)).length:Int)-(64:Int)).toNat (List.drop (64:Nat) (List.take (IntKind.i64.wrap ((128:Int)*IntKind.i64.wrap ((↑k:Int)+(1:Int)))-IntKind.i64.wrap ((128:Int)*(↑k:Int))).toNat (List.drop (IntKind.i64.wrap ((128:Int)*(↑k:Int))).toNat E)))))))).triv ((∃ k_1,k_1<=n.toNat/\IntKind.i64.wrap ((↑k:Int)+(1:Int))=(↑k_1:Int)/\l.set (↑k:Int).toNat (zmp (num (List.take 64 (List.take (IntKind.i64.wrap ((128:Int)*IntKind.i64.wrap ((↑k:Int)+(1:Int)))-IntKind.i64.wrap ((128:Int)*(↑k:Int))).toNat (List.drop (IntKind.i64.wrap ((128:Int)*(↑k:Int))).toNat E)))),zmp (num (List.take ((↑(List.take (IntKind.i64.wrap ((128:Int)*IntKind.i64.wrap ((↑k:Int)+(1:Int)))-IntKind.i64.wrap ((128:Int)*(↑k:Int))).toNat (List.drop (IntKind.i64.wrap ((128:Int)*(↑k:Int))).toNat E)).length:Int)-(64:Int)).toNat (List.drop (64:Nat) (List.take (IntKind.i64.wrap ((128:Int)*IntKind.i64.wrap ((↑k:Int)+(1:Int)))-IntKind.i64.wrap ((128:Int)*(↑k:Int))).toNat (List.drop (IntKind.i64.wrap ((128:Int)*(↑k:Int))).toNat E))))))=nuL E n.toNat k_1)/\n.toNat-(IntKind.i64.wrap ((↑k:Int)+(1:Int))).toNat<n.toNat-(↑k:Int).toNat))/\(decide ((↑k:Int)<(↑n.toNat:Int))=false->(nuI E n ((↑k:Int),l)).triv (l=nums m t n.toNat)))) (by kernel_rfl) ?_
  rw[e1,e2,e3,e4]
  simp only[Int.toNat_natCast]
  refine⟨fun h=>?_,fun h=>tvi ?_⟩
  ·have hlt:k<n.toNat:=by have:=of_decide_eq_true h;omega
   have lp:(List.take 128 (List.drop (128*k) E)).length=128:=by rw[List.length_take,List.length_drop];omega
   rw[lp]
   have e5:(((128:Nat):Int)-64).toNat=64:=rfl
   rw[e5,cut_a,cut_b]
   have hb:=expo_Bs m t (128*n)
   rw[<- hE] at hb
   have pw:∀ a:Nat,fp.preWide (List.take 64 (List.drop a E),()):=fun a=>⟨fun x hx=>hb x (List.mem_of_mem_drop (List.mem_of_mem_take hx)),by
    show (List.take 64 (List.drop a E)).length<_
    rw[List.length_take];omega⟩
   refine⟨⟨by omega,by omega,by omega⟩,⟨by decide,by decide⟩,pw _,⟨by decide,by decide⟩,pw _,⟨by omega,by omega⟩,hlt,tvi ⟨⟨k+1,hlt,rfl,?_⟩,?_⟩⟩
   ·show l.set k (nmb E k)=_
    rw[kl,nuL_step hlt]
   ·show n.toNat-((k+1:Nat):Int).toNat<n.toNat-(k:Int).toNat
    rw[Int.toNat_natCast,Int.toNat_natCast];omega
  ·have hk':k=n.toNat:=by have:=of_decide_eq_false h;omega
   show l=_
   rw[kl,hk',nuL,Nat.sub_self,List.replicate_zero,List.append_nil,nums,opq_eq,hE]
   have e6:128*(n.toNat:Int)=128*n:=by omega
   rw[e6]
 rintro⟨i,l⟩ hj
 revert i l
 intro (i:Int) (l:List F2) (hj:l=nums m t n.toNat)
 refine tr_vc hsp mixed _ _ ?_
 refine vcx (X:=((0:Nat)+n.toNat<=n.toNat/\(List.take n.toNat l,(0:Int),())=((nuA m t n).fst,(nuA m t n).snd,()))) (by kernel_rfl) ?_
 have eN:nuA m t n=(nums m t n.toNat,0):=by
  rw[nuA,decide_eq_false (by omega),decide_eq_false (by omega)];rfl
 rw[eN,hj,List.take_of_length_le (by rw[nums_len];exact Nat.le_refl _)]
 exact⟨by omega,rfl⟩
end
end Go.Proofs.YteldhmehjkhanaaGreatDoor.xmd
namespace Go.Proofs.YteldhmehjkhanaaGreatDoor.tower
open Go Go.Eng Go.RowKit Cr fp2
end Go.Proofs.YteldhmehjkhanaaGreatDoor.tower
namespace Go.Proofs.YteldhmehjkhanaaGreatDoor.tower
noncomputable section
open Go Go.Eng Go.RowKit Cr fp2
def tp (e:Nat):Fp:=zpow (1+1:Fp) e
theorem tp_sq (e:Nat):tp e*tp e=tp (2*e):=by rw[tp,tp,<- zpow_add',show e+e=2*e by omega]
theorem tp_succ (e:Nat):tp e+tp e=tp (e+1):=by
 show tp e+tp e=zpow (1+1:Fp) e*(1+1)
 rw[Rg.mul_add,Rg.mul_one];rfl
theorem or_byte (r b:Nat) (hr:r<4294967296) (hb:b<256):bitOp .or .i64 ((r*256:Nat):Int) (b:Int)=((r*256+b:Nat):Int):=by
 have e:((BitVec.ofInt 64 ((r*256:Nat):Int) ||| BitVec.ofInt 64 (b:Int):BitVec 64).toNat)=r*256+b:=by
  rw[BitVec.toNat_or,BitVec.toNat_ofInt,BitVec.toNat_ofInt]
  have h1:(((r*256:Nat):Int)%((2^64:Nat):Int)).toNat=r <<< 8:=by rw[Nat.shiftLeft_eq];omega
  have h2:((b:Int)%((2^64:Nat):Int)).toNat=b:=by omega
  rw[h1,h2,<- Nat.shiftLeft_add_eq_or_of_lt (by omega),Nat.shiftLeft_eq]
 show IntKind.i64.wrap (((BitVec.ofInt 64 ((r*256:Nat):Int) ||| BitVec.ofInt 64 (b:Int):BitVec 64).toNat:Nat):Int)=_
 rw[e]
 exact wrap_i64' (by omega) (by omega)
theorem and_one (n:Nat) (hn:n<4294967296):bitOp .and .i64 (n:Int) 1=((n%2:Nat):Int):=by
 have e:((BitVec.ofInt 64 (n:Int) &&& BitVec.ofInt 64 1:BitVec 64).toNat)=n%2:=by
  rw[BitVec.toNat_and,BitVec.toNat_ofInt,BitVec.toNat_ofInt]
  have h1:((n:Int)%((2^64:Nat):Int)).toNat=n:=by omega
  have h2:((1:Int)%((2^64:Nat):Int)).toNat=1:=by omega
  rw[h1,h2,Nat.and_one_is_mod]
 show IntKind.i64.wrap (((BitVec.ofInt 64 (n:Int) &&& BitVec.ofInt 64 1:BitVec 64).toNat:Nat):Int)=_
 rw[e]
 exact wrap_i64' (by omega) (by omega)
theorem ent_root:enters Tryz.prog 139 Tryz.f139:=ek
abbrev rBs:List Int:=bytesN 48 (Zm.v (-(zm 1:Fp)))
theorem rBs_len:List.length rBs=48:=bytesN_length 48 _
def rtA (bs:List Int) (g:Int × Fp × Int):St:=mkSt Tryz.f139.ntmps 72 [(0,.is (.one (.ptr 0 0))),(1,.is (.one (.ptr 16 0))),(2,sI .i64 g.2.2),(10,sA .u8 48 bs),(11,sI .i64 g.1)] [(16,[.row .fp 1 [g.2.1]]),(0,[.row .fp 1 [(0:Fp)],.row .fp 1 [(0:Fp)]])]
def rtB (bs:List Int) (i rest dg:Int) (g:Int × Fp):St:=mkSt Tryz.f139.ntmps 72 [(0,.is (.one (.ptr 0 0))),(1,.is (.one (.ptr 16 0))),(2,sI .i64 rest),(5,sI .i64 dg),(10,sA .u8 48 bs),(11,sI .i64 i),(23,sI .i64 g.1)] [(16,[.row .fp 1 [g.2]]),(0,[.row .fp 1 [(0:Fp)],.row .fp 1 [(0:Fp)]])]
def rtO (x:Fp):St:=mkSt Tryz.f139.ntmps 72 [(0,.is (.one (.ptr 0 0))),(1,.is (.one (.ptr 16 0)))] [(16,[.row .fp 1 [x]]),(0,[.row .fp 1 [(0:Fp)],.row .fp 1 [(0:Fp)]])]
def rtJ (bs:List Int) (g:Int × Fp × Int):Prop:=∃ k:Nat,k<=48/\g.1=(k:Int)/\g.2.1=tp (num (bs.take k)/12).toNat/\g.2.2=num (bs.take k)%12
def rootK:Fp:=tp (num rBs/12).toNat
theorem fn_root:FnOk Tryz.prog 139 [] [.val f2] noG (fun _=>True) (fun _=>((rootK,-rootK),())):=by
 have hsp:SpecsOk Tryz.prog (sps [fp.spOf,fp.spNeg,fp.spBytes,fp.spSquare,fp.spAdd]):=spk (fok fp.fn_of) (spk (fok fp.fn_neg) (spk (fok fp.fn_bytes) (spk (fok fp.fn_square) (spk (fok fp.fn_add) snl))))
 refine fn_of_tr (sp:=sps [fp.spOf,fp.spNeg,fp.spBytes,fp.spSquare,fp.spAdd]) ent_root (by decide) (by decide) (by kernel_rfl) ?_
 rintro w M0 ⟨⟩ _ _
 show Tr _ _ _ _ _ _ _
 refine tr_cut hsp mixed 3 (rtA rBs (0,zm 1,0)) True ?_ (fun _=>?_)
 ·refine vcx (X:=(U64 (1:Int)/\U64 (1:Int)/\True/\True/\(rtA rBs ((0:Int),zmp (1:Int),(0:Int))).triv True)) (by kernel_rfl) ?_
  exact⟨⟨by decide,by decide⟩,⟨by decide,by decide⟩,trivial,trivial,tvi trivial⟩
 refine tr_whileT noSw (fun σ=>(rdS (.int .i64) 11 σ,rdB .fp 16 σ,rdS (.int .i64) 2 σ)) (rtA rBs) (rtJ rBs) (fun g=>48-g.1.toNat)
  (fun σ=>rdB .fp 16 σ) rtO (fun x=>x=rootK) (0,zm 1,0) (c:=nthC (codeOf Tryz.f139) 3) (by kernel_rfl) (by kernel_rfl) (le_of_proj (by kernel_rfl) (by kernel_rfl) ?_) ?_ ?_
 ·refine⟨0,by decide,rfl,?_,rfl⟩
  exact Zm.ext (by decide)
 ·rintro⟨i,x,rest⟩ hj
  revert i x rest
  intro (i:Int) (x:Fp) (rest:Int) ⟨k,hk,ei,ex,er⟩
  have ei:i=(k:Int):=ei
  subst ei
  have hbd:=num_bd (l:=rBs.take k) (fun x hx=>(bytesN_Bs 48 _:Bs rBs) x (List.mem_of_mem_take hx))
  refine tr_cut hsp mixed 2 (rtA rBs ((k:Int),x,rest)) (k<48) ?_ (fun hlt=>?_)
  ·refine vcx (X:=((decide ((↑k:Int)<(48:Int))=true->(rtA rBs ((↑k:Int),x,rest)).triv (k<(48:Nat)))/\(decide ((↑k:Int)<(48:Int))=false->(rtO x).triv (x=rootK)))) (by kernel_rfl) ?_
   refine⟨fun h=>tvi (by have:=of_decide_eq_true h;omega),fun h=>tvi ?_⟩
   have e48:k=48:=by have:=of_decide_eq_false h;omega
   have ex:x=tp (num (rBs.take k)/12).toNat:=ex
   rw[ex,e48,List.take_of_length_le (by rw[rBs_len];decide)];rfl
  refine tr_block (c:=nthC (loopOf (nthC (codeOf Tryz.f139) 3)) 2) (by kernel_rfl) (by kernel_rfl) ?_
  have hkl:k<List.length rBs:=by rw[rBs_len];exact hlt
  obtain⟨b,hb⟩:∃ b,b=rBs.getD k 0:=⟨_,rfl⟩
  have hb0:0<=b/\b<256:=by
   rw[hb];simp only[List.getD_eq_getElem?_getD,List.getElem?_eq_getElem hkl,Option.getD_some]
   exact (bytesN_Bs 48 _:Bs rBs) _ (List.getElem_mem hkl)
  refine tr_cutF hsp mixed 5 (fun σ=>(rdS (.int .i64) 2 σ,rdS (.int .i64) 5 σ)) (fun g=>rtB rBs k g.1 g.2 (0,x)) (fun g=>g.1=(rest*256+b)%12/\g.2=(rest*256+b)/12) ?_ ?_
  ·refine vcx (X:=(((0:Int)<=(↑k:Int)/\(↑k:Int)<(↑(48:Nat):Int))/\(0:Int)<=(8:Int)/\((12:Int)=(0:Int)->False)/\((12:Int)=(0:Int)->False)/\(rtB rBs (↑k:Int) ((bitOp BinOp.or IntKind.i64 (IntKind.i64.wrap (rest*(2:Int)^min (8:Nat) IntKind.i64.bits)) (IntKind.i64.wrap (rBs.getD (↑k:Int).toNat (0:Int)))).tmod (12:Int),IntKind.i64.wrap ((bitOp BinOp.or IntKind.i64 (IntKind.i64.wrap (rest*(2:Int)^min (8:Nat) IntKind.i64.bits)) (IntKind.i64.wrap (rBs.getD (↑k:Int).toNat (0:Int)))).tdiv (12:Int))).fst ((bitOp BinOp.or IntKind.i64 (IntKind.i64.wrap (rest*(2:Int)^min (8:Nat) IntKind.i64.bits)) (IntKind.i64.wrap (rBs.getD (↑k:Int).toNat (0:Int)))).tmod (12:Int),IntKind.i64.wrap ((bitOp BinOp.or IntKind.i64 (IntKind.i64.wrap (rest*(2:Int)^min (8:Nat) IntKind.i64.bits)) (IntKind.i64.wrap (rBs.getD (↑k:Int).toNat (0:Int)))).tdiv (12:Int))).snd ((0:Int),x)).triv ((bitOp BinOp.or IntKind.i64 (IntKind.i64.wrap (rest*(2:Int)^min (8:Nat) IntKind.i64.bits)) (IntKind.i64.wrap (rBs.getD (↑k:Int).toNat (0:Int)))).tmod (12:Int)=(rest*(256:Car (Kd.int IntKind.i64))+b)%(12:Car (Kd.int IntKind.i64))/\IntKind.i64.wrap ((bitOp BinOp.or IntKind.i64 (IntKind.i64.wrap (rest*(2:Int)^min (8:Nat) IntKind.i64.bits)) (IntKind.i64.wrap (rBs.getD (↑k:Int).toNat (0:Int)))).tdiv (12:Int))=(rest*(256:Car (Kd.int IntKind.i64))+b)/(12:Car (Kd.int IntKind.i64))))) (by kernel_rfl) ?_
   have er:rest=num (rBs.take k)%12:=er
   have hr0:0<=rest/\rest<12:=by rw[er];omega
   obtain⟨rn,hrn⟩:=Int.eq_ofNat_of_zero_le hr0.1
   obtain⟨bn,hbn⟩:=Int.eq_ofNat_of_zero_le hb0.1
   have e1:IntKind.i64.wrap (rest*2^min (8:Nat) IntKind.i64.bits)=((rn*256:Nat):Int):=by
    show IntKind.i64.wrap (rest*256)=_
    rw[wrap_i64' (by omega) (by omega)];omega
   have e2:IntKind.i64.wrap (rBs.getD (k:Int).toNat 0)=(bn:Int):=by
    rw[Int.toNat_natCast,<- hb,wrap_i64' (by omega) (by omega),hbn]
   have e3:rest*256+b=((rn*256+bn:Nat):Int):=by rw[hrn,hbn];simp
   rw[e1,e2,or_byte rn bn (by omega) (by omega)]
   have e4:((rn*256+bn:Nat):Int).tmod 12=(rest*256+b)%12:=by rw[Int.tmod_eq_emod_of_nonneg (by omega),e3]
   have e5:IntKind.i64.wrap (((rn*256+bn:Nat):Int).tdiv 12)=(rest*256+b)/12:=by rw[Int.tdiv_eq_ediv_of_nonneg (by omega),wrap_i64' (by omega) (by omega),e3]
   rw[e4,e5]
   exact⟨⟨by omega,by omega⟩,by decide,by decide,by decide,tvi ⟨rfl,rfl⟩⟩
  rintro⟨r2,dg⟩ hrd
  revert r2 dg
  intro (r2:Int) (dg:Int) ⟨hr2,hdg⟩
  have hr2:r2=(rest*256+b)%12:=hr2
  have hdg:dg=(rest*256+b)/12:=hdg
  have hdg0:0<=dg/\dg<256:=by
   have er:rest=num (rBs.take k)%12:=er
   rw[hdg];omega
  refine tr_while hsp mixed noSw (fun σ=>(rdS (.int .i64) 23 σ,rdB .fp 16 σ)) (rtB rBs k r2 dg) (fun g=>∃ j:Nat,j<=8/\g.1=(j:Int)/\g.2=tp (((num (rBs.take k)/12).toNat)*2^j+dg.toNat/2^(8-j))) (fun g=>8-g.1.toNat)
   (fun σ=>rdB .fp 16 σ) (fun y=>rtA rBs ((k:Int),y,r2)) (fun y=>y=tp (((num (rBs.take k)/12).toNat)*256+dg.toNat)) (0,x) (c:=nthC (bodyOf (nthC (loopOf (nthC (codeOf Tryz.f139) 3)) 2)) 5) (by kernel_rfl) (by kernel_rfl) (le_of_proj (by kernel_rfl) (by kernel_rfl) ?_) ?_ ?_
  ·refine⟨0,by decide,rfl,?_⟩
   have ex:x=tp (num (rBs.take k)/12).toNat:=ex
   rw[Nat.pow_zero,Nat.mul_one,show 8-0=8 from rfl,show (2:Nat)^8=256 from rfl,Nat.div_eq_of_lt (by omega),Nat.add_zero]
   exact ex
  ·rintro⟨j,y⟩ hj
   revert j y
   intro (j:Int) (y:Fp) ⟨t,ht,ej,ey⟩
   have ej:j=(t:Int):=ej
   subst ej
   refine vcx (X:=((decide ((↑t:Int)<(8:Int))=true->True/\(0:Int)<=IntKind.i64.wrap ((7:Int)-(↑t:Int))/\((bitOp BinOp.and IntKind.i64 (dg.fdiv ((2:Int)^min (IntKind.i64.wrap ((7:Int)-(↑t:Int))).toNat IntKind.i64.bits)) (1:Int)==(1:Int))=true->True/\(rtB rBs (↑k:Int) r2 dg (IntKind.i64.wrap ((↑t:Int)+(1:Int)),y*y+y*y)).triv ((∃ j,j<=(8:Nat)/\IntKind.i64.wrap ((↑t:Int)+(1:Int))=(↑j:Int)/\y*y+y*y=tp ((num (List.take k rBs)/(12:Int)).toNat*(2:Nat)^j+dg.toNat/(2:Nat)^((8:Nat)-j)))/\(8:Nat)-(IntKind.i64.wrap ((↑t:Int)+(1:Int))).toNat<(8:Nat)-(↑t:Int).toNat))/\((bitOp BinOp.and IntKind.i64 (dg.fdiv ((2:Int)^min (IntKind.i64.wrap ((7:Int)-(↑t:Int))).toNat IntKind.i64.bits)) (1:Int)==(1:Int))=false->(rtB rBs (↑k:Int) r2 dg (IntKind.i64.wrap ((↑t:Int)+(1:Int)),y*y)).triv ((∃ j,j<=(8:Nat)/\IntKind.i64.wrap ((↑t:Int)+(1:Int))=(↑j:Int)/\y*y=tp ((num (List.take k rBs)/(12:Int)).toNat*(2:Nat)^j+dg.toNat/(2:Nat)^((8:Nat)-j)))/\(8:Nat)-(IntKind.i64.wrap ((↑t:Int)+(1:Int))).toNat<(8:Nat)-(↑t:Int).toNat)))/\(decide ((↑t:Int)<(8:Int))=false->(rtA rBs ((↑k:Int),y,r2)).triv (y=tp ((num (List.take k rBs)/(12:Int)).toNat*(256:Nat)+dg.toNat))))) (by kernel_rfl) ?_
   have ht:t<=8:=ht
   have ey:y=tp (((num (rBs.take k)/12).toNat)*2^t+dg.toNat/2^(8-t)):=ey
   obtain⟨d,hd⟩:=Int.eq_ofNat_of_zero_le hdg0.1
   generalize (num (rBs.take k)/12).toNat=q at *
   refine⟨fun h=>?_,fun h=>tvi ?_⟩
   ·have h8:t<8:=by have:=of_decide_eq_true h;omega
    have e1:(IntKind.i64.wrap (7-(t:Int))).toNat=7-t:=by rw[wrap_i64' (by omega) (by omega)];omega
    have e0:0<=IntKind.i64.wrap (7-(t:Int)):=by rw[wrap_i64' (by omega) (by omega)];omega
    have hm:min (7-t) IntKind.i64.bits=7-t:=Nat.min_eq_left (show 7-t<=64 by omega)
    have e2:dg.fdiv (2^(7-t))=((d/2^(7-t):Nat):Int):=by
     rw[Int.fdiv_eq_ediv_of_nonneg _ (Int.le_of_lt (Int.pow_pos (by decide))),hd]
     simp
    have e3:d/2^(8-t)=d/2^(7-t)/2:=by
     rw[Nat.div_div_eq_div_mul,<- Nat.pow_succ,show (7-t).succ=8-t by omega]
    have e4:dg.toNat=d:=by rw[hd];rfl
    have hdl:d/2^(7-t)<4294967296:=Nat.lt_of_le_of_lt (Nat.div_le_self _ _) (by omega)
    have e5:8-(t+1)=7-t:=by omega
    rw[e1,hm,e2,and_one _ hdl,wrap_succ (by omega)]
    have key:y*y=tp (q*2^(t+1)+2*(d/2^(7-t)/2)):=by
     rw[ey,tp_sq,e4,e3,Nat.pow_succ]
     congr 1
     rw[Nat.mul_add,<- Nat.mul_assoc,Nat.mul_comm 2 q,Nat.mul_assoc,Nat.mul_comm 2 (2^t)]
    refine⟨trivial,e0,fun h1=>⟨trivial,tvi ⟨⟨t+1,h8,rfl,?_⟩,by omega⟩⟩,fun h1=>tvi ⟨⟨t+1,h8,rfl,?_⟩,by omega⟩⟩
    ·have hbit:d/2^(7-t)%2=1:=by
      have h1:((d/2^(7-t)%2:Nat):Int)=1:=by simpa using h1
      omega
     rw[key,tp_succ,e4,e5]
     congr 1
     omega
    ·have hbit:d/2^(7-t)%2=0:=by
      have h1:¬ ((d/2^(7-t)%2:Nat):Int)=1:=by simpa using h1
      omega
     rw[key,e4,e5]
     congr 1
     omega
   ·have h8:t=8:=by have:=of_decide_eq_false h;omega
    rw[ey,h8]
    simp
  intro (y:Fp) (hy:y=tp (((num (rBs.take k)/12).toNat)*256+dg.toNat))
  refine tr_nil ?_
  refine tr_vc hsp mixed _ _ ?_
  refine vcx (X:=((rtA rBs (IntKind.i64.wrap ((↑k:Int)+(1:Int)),y,r2)).triv (rtJ rBs (IntKind.i64.wrap ((↑k:Int)+(1:Int)),y,r2)/\(48:Nat)-(IntKind.i64.wrap ((↑k:Int)+(1:Int))).toNat<(48:Nat)-(↑k:Int).toNat))) (by kernel_rfl) ?_
  have er:rest=num (rBs.take k)%12:=er
  have hns:=num_take_succ hkl
  rw[<- hb] at hns
  rw[wrap_succ (by omega)]
  refine tvi ⟨⟨k+1,hlt,rfl,?_,?_⟩,by omega⟩
  ·show y=tp _
   rw[hy,hns]
   congr 1
   omega
  ·show r2=_
   rw[hr2,hns,er]
   omega
 intro (x:Fp) (hx:x=rootK)
 refine tr_vc hsp mixed _ _ ?_
 refine vcx (X:=(True/\((x,-x),())=((rootK,-rootK),()))) (by kernel_rfl) ?_
 exact⟨trivial,by rw[hx]⟩
end
end Go.Proofs.YteldhmehjkhanaaGreatDoor.tower
namespace Go.Proofs.YteldhmehjkhanaaGreatDoor.tower
open Go Go.Eng Go.RowKit Cr fp2
end Go.Proofs.YteldhmehjkhanaaGreatDoor.tower
namespace Go.Proofs.YteldhmehjkhanaaGreatDoor.fp2
open Go Go.Eng Go.RowKit Cr Go.Proofs.YteldhmehjkhanaaGreatDoor
noncomputable abbrev outDouble:HL [f2]->HO [.val f2]:=fun (x,_)=>((x:F2)+x,())
end Go.Proofs.YteldhmehjkhanaaGreatDoor.fp2
namespace Go.Proofs.YteldhmehjkhanaaGreatDoor.tower
open Go Go.Eng Go.RowKit Cr Go.Proofs.YteldhmehjkhanaaGreatDoor Go.Proofs.YteldhmehjkhanaaGreatDoor.fp2
noncomputable def rt1:F2:=(rootK,-rootK)
end Go.Proofs.YteldhmehjkhanaaGreatDoor.tower
namespace Go.Proofs.YteldhmehjkhanaaGreatDoor.pairing
open Go Go.Eng Go.RowKit Cr Go.Proofs.YteldhmehjkhanaaGreatDoor Go.Proofs.YteldhmehjkhanaaGreatDoor.fp2 Go.Proofs.YteldhmehjkhanaaGreatDoor.tower
end Go.Proofs.YteldhmehjkhanaaGreatDoor.pairing
namespace Go.Proofs.YteldhmehjkhanaaGreatDoor.pairing
open Go Go.Eng Go.RowKit Cr fp2 tower
end Go.Proofs.YteldhmehjkhanaaGreatDoor.pairing
namespace Go.Proofs.YteldhmehjkhanaaGreatDoor.pairing
open Go Go.Eng Go.RowKit Cr fp2 tower
end Go.Proofs.YteldhmehjkhanaaGreatDoor.pairing
namespace Go.Proofs.YteldhmehjkhanaaGreatDoor.pairing
open Go Go.Eng Go.RowKit Cr fp2 tower
def pbit (b:Int):Bool:=bitOp .and .u64 (Int.fdiv 15132376222941642752 (2^min b.toNat IntKind.u64.bits)) 1==1
end Go.Proofs.YteldhmehjkhanaaGreatDoor.pairing
namespace Go.Proofs.YteldhmehjkhanaaGreatDoor.pairing
open Go Go.Eng Go.RowKit Cr fp2 tower
end Go.Proofs.YteldhmehjkhanaaGreatDoor.pairing
namespace Go.Proofs.YteldhmehjkhanaaGreatDoor.tower
open Go Go.Eng Go.RowKit Cr Go.Proofs.YteldhmehjkhanaaGreatDoor Go.Proofs.YteldhmehjkhanaaGreatDoor.fp2
theorem rt1_eq {q:Nat} (hq:q=fpP/6):rt1=pwn xi q:=by
 obtain⟨m,hm⟩:∃ m,m=(num rBs/12).toNat:=⟨_,rfl⟩
 have hm2:m=fpP/12:=hm.trans (of_decide_eq_true (by kernel_rfl))
 have h1:q=2*m+1:=by rw[hq,hm2];exact of_decide_eq_true (by kernel_rfl)
 have h2:m=2*(2*(fpP/48))+2+1:=hm2.trans (of_decide_eq_true (by kernel_rfl))
 rw[xi_pw h1 h2,<- zpow_pwn]
 show (zpow _ _,-zpow _ _)=_
 rw[<- hm]
end Go.Proofs.YteldhmehjkhanaaGreatDoor.tower
namespace Go.Proofs.YteldhmehjkhanaaGreatDoor.pairing
open Go Go.Eng Go.RowKit Cr Go.Proofs.YteldhmehjkhanaaGreatDoor Go.Proofs.YteldhmehjkhanaaGreatDoor.fp2 Go.Proofs.YteldhmehjkhanaaGreatDoor.tower
end Go.Proofs.YteldhmehjkhanaaGreatDoor.pairing
namespace Cr
open Rg Fd Go.Eng
def bst (n:Nat):Bool->Nat
 | false=>n+n
 | true=>n+n+1
def bval (l:List Bool) (m:Nat):Nat:=l.foldl bst m
section
variable {F:Type} [Fd F] {b:F}
variable (hb:b≠0)
include hb
end
section
variable {N p u r:Nat} (L:LastP N p u r) {b1:Fp} {b2:F2} (hb1:b1≠0) (hb2:b2≠0) (hns:∀ y:F2,y*y=b2->False) (he:b2=e0 b1*xi)
structure GQ (p u r:Nat) (b2:F2) (Q:F2 × F2):Prop where
 on:OnP b2 Q
 fro:hmp (fro p) (tws e2 wi Q)=pneg (tws e2 wi (nmul Q u))
 ord:nmul Q r=O2
 small:Q=O2\/∀ k,0<k->k<=u->nmul Q k≠O2
noncomputable def ev0 (L:LastP N p u r) (bl:List Bool) (P:Fp × Fp) (Q:F2 × F2):F12:=(kil L).χ (ml (tws e2 wi Q) (hmp e1 P) bl).1
include hb1 hb2 hns he
variable {bl:List Bool} (hbl:bval bl 1=u)
include hbl
omit hb1 hb2 hns he hbl in
noncomputable def ev (L:LastP N p u r) (bl:List Bool) (P:Fp × Fp) (Q:F2 × F2):F12:=if P=O2 then 1 else ev0 L bl P Q
include L in
end
end Cr
namespace Cr
open Rg
end Cr
namespace Go.Proofs.YteldhmehjkhanaaGreatDoor.pairing
open Go Go.Eng Go.RowKit Cr Go.Proofs.YteldhmehjkhanaaGreatDoor Go.Proofs.YteldhmehjkhanaaGreatDoor.fp2 Go.Proofs.YteldhmehjkhanaaGreatDoor.tower
section
variable {b:F2} (hb:b≠0)
include hb
end
section
variable {N p u r:Nat} (L:LastP N p u r) {b1:Fp} {b2:F2} (hb1:b1≠0) (hb2:b2≠0) (hns:∀ y:F2,y*y=b2->False) (he:b2=e0 b1*xi)
include hb1 hb2 he
end
end Go.Proofs.YteldhmehjkhanaaGreatDoor.pairing
namespace Go.Proofs.YteldhmehjkhanaaGreatDoor.pairing
open Go Go.Eng Go.RowKit Cr fp2 tower
def bls (j:Nat):List Bool:=(List.range j).map fun (j:Nat)=>pbit (62-(j:Int))
section
variable {N p u r:Nat} (L:LastP N p u r) {b1:Fp} {b2:F2} (hb1:b1≠0) (hb2:b2≠0) (hns:∀ y:F2,y*y=b2->False) (he:b2=e0 b1*xi)
variable (hu:0<u) (hbl:bval (bls 63) 1=u)
include hb1 hb2 hns he hu hbl
end
end Go.Proofs.YteldhmehjkhanaaGreatDoor.pairing
namespace Go.Proofs.YteldhmehjkhanaaGreatDoor.pairing
open Go Go.Eng Go.RowKit Cr fp2 tower
def rtN:Nat:=3850754370037169011952147076051364057158807420970682438676050522613628423219637725072182697113062777891589506424760
end Go.Proofs.YteldhmehjkhanaaGreatDoor.pairing
namespace Go.Proofs.YteldhmehjkhanaaGreatDoor.g1
noncomputable section
open Go Go.Eng Go.RowKit Cr
abbrev Jp:=Fp × Fp × Fp
def tmI (k:List Int) (o:Jp) (g:Int × List Jp):St:=mkSt Tryz.f71.ntmps 64 [(1,.is (.one (.ro (.int .u8) k))),(4,.is (.one (.ptr 8 0))),(5,.is (.one (.ptr 16 0))),(6,.is (.one (.ptr 40 0))),(15,sI .i64 g.1)] [(40,bc o),(16,[.row bk 16 g.2]),(8,pc (0,0))]
def tmS (k:List Int) (tb:List Jp) (s:Jp) (nx:Nat) (xs:List (Nat × SV)):St:=mkSt Tryz.f71.ntmps nx ([(4,.is (.one (.ptr 8 0))),(5,.is (.one (.ptr 16 0))),(8,.is (.one (.ptr 64 0))),(27,.is (.one (.ro (.int .u8) k))),(28,sI .i64 k.length)]++xs) [(64,bc s),(16,[.row bk 16 tb]),(8,pc (0,0))]
abbrev tmJ (k:List Int) (tb:List Jp) (g:Int × Jp):St:=tmS k tb g.2 96 [(29,sI .i64 g.1)]
abbrev tmK (k:List Int) (tb:List Jp) (i:Int) (ds:List Int) (g:Int × Jp):St:=tmS k tb g.2 168 [(29,sI .i64 i),(37,.is (.agg [.ints .u8 2 ds])),(38,sI .i64 g.1)]
abbrev tmL (k:List Int) (tb:List Jp) (i:Int) (ds:List Int) (j d:Int) (g:Int × Jp):St:=tmS k tb g.2 184 [(29,sI .i64 i),(37,.is (.agg [.ints .u8 2 ds])),(38,sI .i64 j),(12,sI .u8 d),(41,sI .i64 g.1)]
theorem ent_times:enters Tryz.prog 71 Tryz.f71:=ek
abbrev preTimes:HL [pt1,.sl (.int .u8)]->Prop:=fun (_,k,_)=>Bs k/\List.length k<4611686018427387904
abbrev outTimes:HL [pt1,.sl (.int .u8)]->HO [.val pt1]:=fun (p,k,_)=>(jpoint (F:=Fp) (jtm (tabAt (jt (jlift (F:=Fp) p)) (0,0,0) 15) k (List.length k)),())
theorem fn_times:FnOk Tryz.prog 71 [pt1,.sl (.int .u8)] [.val pt1] noG preTimes outTimes:=by
 have hsp:SpecsOk Tryz.prog (sps [spLift,spAdd,spPoint,spDouble]):=spk (fok fn_lift) (spk (fok fn_add) (spk (fok fn_point) (spk (fok fn_double) snl)))
 refine fn_of_tr (sp:=sps [spLift,spAdd,spPoint,spDouble]) ent_times (by decide) (by decide) (by kernel_rfl) ?_
 rintro w M0 ⟨p,k,⟨⟩⟩
 revert p k
 intro (p:Fp × Fp) (k:List Int) _ hp
 obtain⟨hk,hl⟩:=hp
 have hk:Bs k:=hk
 have hl:k.length<4611686018427387904:=hl
 show Tr _ _ _ _ _ _ _
 refine tr_cut hsp mixed 4 (tmI k (jlift (F:=Fp) p) (0,tabAt (jt (jlift (F:=Fp) p)) (0,0,0) 0)) True ?_ (fun _=>?_)
 ·exact vcx (X:=(True/\(tmI k (jlift (F:=Fp) p) (0,tabAt (jt (jlift (F:=Fp) p)) (0,0,0) 0)).triv True)) (by kernel_rfl) ⟨trivial,tvi trivial⟩
 generalize ho:jlift (F:=Fp) p=o
 refine tr_count hsp mixed (tmI k o) (fun n=>((n:Int),tabAt (jt o) (0,0,0) n)) 15 (fun g=>(IntKind.i64.wrap (g.1+1),g.2.set (IntKind.i64.wrap (g.1+1)).toNat (jadd (F:=Fp) (g.2.getD g.1.toNat (0,0,0)) o))) (tmI k o) (c:=nthC (codeOf Tryz.f71) 4) (by kernel_rfl) (by kernel_rfl) (le_of_proj (by kernel_rfl) (by kernel_rfl) trivial)
  (fun n hn=>by
   show (_,_)=(_,_)
   rw[wrap_succ (by omega),Int.toNat_natCast,Int.toNat_natCast,tabAt_get _ _ _ (Nat.le_refl n) (by omega),show jadd (F:=Fp) (jt o n) o=jt o (n+1) from rfl,tabAt_set]) ?_ ?_
 ·intro n hn
  generalize tabAt (jt o) (0,0,0) n=tb
  refine vcx (X:=((decide ((n:Int)<15)=true->(0<=(n:Int)/\(n:Int)<((16:Nat):Int))/\(n:Int).toNat<16/\True/\(0<=IntKind.i64.wrap ((n:Int)+1)/\IntKind.i64.wrap ((n:Int)+1)<((16:Nat):Int))/\(IntKind.i64.wrap ((n:Int)+1)).toNat<16 /\
    (tmI k o (IntKind.i64.wrap ((n:Int)+1),tb.set (IntKind.i64.wrap ((n:Int)+1)).toNat (jadd (F:=Fp) (tb.getD (n:Int).toNat (0,0,0)) o))).triv (n<15)) /\
   (decide ((n:Int)<15)=false->(tmI k o ((n:Int),tb)).triv (n=15)))) (by kernel_rfl) ?_
  refine⟨fun h=>?_,fun h=>tvi (by have:=dec_ge h;omega)⟩
  have hlt:n<15:=by have:=dec_lt h;omega
  rw[wrap_succ (by omega)]
  exact⟨⟨by omega,by omega⟩,by omega,trivial,⟨by omega,by omega⟩,by omega,tvi hlt⟩
 subst ho
 show Tr _ _ _ _ _ _ _
 generalize htb:tabAt (jt (jlift (F:=Fp) p)) (0,0,0) 15=tb
 refine tr_cut hsp mixed 2 (tmJ k tb (0,jtm tb k 0)) True ?_ (fun _=>?_)
 ·exact vcx (X:=(tmJ k tb (0,jtm tb k 0)).triv True) (by kernel_rfl) (tvi trivial)
 refine tr_countT (tmJ k tb) (fun i=>((i:Int),jtm tb k i)) k.length (fun g=>(IntKind.i64.wrap (g.1+1),jby tb g.2 (k.getD g.1.toNat 0))) (tmJ k tb) (c:=nthC (codeOf Tryz.f71) 7) (by kernel_rfl) (by kernel_rfl) (le_of_proj (by kernel_rfl) (by kernel_rfl) trivial)
  (fun i hi=>by show (_,_)=(_,_);rw[wrap_succ (by omega),Int.toNat_natCast];rfl) ?_ ?_
 ·intro i hi
  generalize jtm tb k i=s
  refine tr_cut hsp mixed 2 (tmJ k tb ((i:Int),s)) (i<k.length) ?_ (fun hlt=>?_)
  ·refine vcx (X:=((decide ((i:Int)<(k.length:Int))=true->(tmJ k tb ((i:Int),s)).triv (i<k.length))/\(decide ((i:Int)<(k.length:Int))=false->(tmJ k tb ((i:Int),s)).triv (i=k.length)))) (by kernel_rfl) ?_
   exact⟨fun h=>tvi (by have:=dec_lt h;omega),fun h=>tvi (by have:=dec_ge h;omega)⟩
  have hb:0<=k.getD i 0/\k.getD i 0<256:=by
   have:k.getD i 0∈k:=by rw[List.getD_eq_getElem?_getD,List.getElem?_eq_getElem hlt];exact List.getElem_mem hlt
   exact hk _ this
  have hbi:k.getD (i:Int).toNat 0=k.getD i 0:=by rw[Int.toNat_natCast]
  generalize hbb:k.getD i 0=b at hb hbi
  obtain⟨_,d1,d2⟩:=dh_ok hb.1 hb.2
  obtain⟨_,d3,d4⟩:=dl_ok hb.1 hb.2
  refine tr_block (c:=nthC (loopOf (nthC (codeOf Tryz.f71) 7)) 2) (by kernel_rfl) (by kernel_rfl) ?_
  refine tr_cut hsp mixed 2 (tmK k tb (i:Int) [dh (k.getD (i:Int).toNat 0),dl (k.getD (i:Int).toNat 0)] (0,jsd tb [dh b,dl b] s 0)) True ?_ (fun _=>?_)
  ·refine vcx (X:=((0<=(i:Int)/\(i:Int)<(k.length:Int))/\(i:Int).toNat<k.length/\(0:Int)<=4/\(tmK k tb (i:Int) [dh (k.getD (i:Int).toNat 0),dl (k.getD (i:Int).toNat 0)] (0,jsd tb [dh b,dl b] s 0)).triv True)) (by kernel_rfl) ?_
   exact⟨⟨by omega,by omega⟩,by omega,by decide,tvi trivial⟩
  rw[hbi]
  generalize hds:[dh b,dl b]=ds
  have hdd:∀ j,j<2->0<=ds.getD j 0/\ds.getD j 0<16:=by
   intro j hj
   subst hds
   match j,hj with
   | 0,_=>exact⟨d1,d2⟩
   | 1,_=>exact⟨d3,d4⟩
  refine tr_countT (tmK k tb (i:Int) ds) (fun j=>((j:Int),jsd tb ds s j)) 2 (fun g=>(IntKind.i64.wrap (g.1+1),jst tb g.2 (ds.getD g.1.toNat 0))) (tmK k tb (i:Int) ds) (c:=nthC (bodyOf (nthC (loopOf (nthC (codeOf Tryz.f71) 7)) 2)) 2) (by kernel_rfl) (by kernel_rfl) (le_of_proj (by kernel_rfl) (by kernel_rfl) trivial)
   (fun j hj=>by show (_,_)=(_,_);rw[wrap_succ (by omega),Int.toNat_natCast];rfl) ?_ ?_
  ·intro j hj
   generalize jsd tb ds s j=y
   refine tr_cut hsp mixed 2 (tmK k tb (i:Int) ds ((j:Int),y)) (j<2) ?_ (fun hj2=>?_)
   ·refine vcx (X:=((decide ((j:Int)<2)=true->(tmK k tb (i:Int) ds ((j:Int),y)).triv (j<2))/\(decide ((j:Int)<2)=false->(tmK k tb (i:Int) ds ((j:Int),y)).triv (j=2)))) (by kernel_rfl) ?_
    exact⟨fun h=>tvi (by have:=dec_lt h;omega),fun h=>tvi (by have:=dec_ge h;omega)⟩
   have hd:=hdd j hj2
   have hdj:ds.getD (j:Int).toNat 0=ds.getD j 0:=by rw[Int.toNat_natCast]
   generalize ds.getD j 0=d at hd hdj
   refine tr_block (c:=nthC (loopOf (nthC (bodyOf (nthC (loopOf (nthC (codeOf Tryz.f71) 7)) 2)) 2)) 2) (by kernel_rfl) (by kernel_rfl) ?_
   refine tr_cut hsp mixed 2 (tmL k tb (i:Int) ds (j:Int) (ds.getD (j:Int).toNat 0) (0,jdn y 0)) True ?_ (fun _=>?_)
   ·refine vcx (X:=((0<=(j:Int)/\(j:Int)<((2:Nat):Int))/\(tmL k tb (i:Int) ds (j:Int) (ds.getD (j:Int).toNat 0) (0,jdn y 0)).triv True)) (by kernel_rfl) ?_
    exact⟨⟨by omega,by omega⟩,tvi trivial⟩
   rw[hdj]
   refine tr_count hsp mixed (tmL k tb (i:Int) ds (j:Int) d) (fun n=>((n:Int),jdn y n)) 4 (fun g=>(IntKind.i64.wrap (g.1+1),jdbl (F:=Fp) g.2)) (tmL k tb (i:Int) ds (j:Int) d) (c:=nthC (bodyOf (nthC (loopOf (nthC (bodyOf (nthC (loopOf (nthC (codeOf Tryz.f71) 7)) 2)) 2)) 2)) 2) (by kernel_rfl) (by kernel_rfl) (le_of_proj (by kernel_rfl) (by kernel_rfl) trivial)
    (fun n hn=>by show (_,_)=(_,_);rw[wrap_succ (by omega)];rfl) ?_ ?_
   ·intro n hn
    generalize jdn y n=z
    refine vcx (X:=((decide ((n:Int)<4)=true->True/\(tmL k tb (i:Int) ds (j:Int) d (IntKind.i64.wrap ((n:Int)+1),jdbl (F:=Fp) z)).triv (n<4))/\(decide ((n:Int)<4)=false->(tmL k tb (i:Int) ds (j:Int) d ((n:Int),z)).triv (n=4)))) (by kernel_rfl) ?_
    exact⟨fun h=>⟨trivial,tvi (by have:=dec_lt h;omega)⟩,fun h=>tvi (by have:=dec_ge h;omega)⟩
   refine tr_cut hsp mixed 1 (tmK k tb (i:Int) ds ((j:Int),jst tb y d)) True ?_ (fun _=>?_)
   ·refine vcx (X:=((0<=d/\d<((16:Nat):Int))/\d.toNat<16/\True/\(tmK k tb (i:Int) ds ((j:Int),jst tb y d)).triv True)) (by kernel_rfl) ?_
    exact⟨⟨hd.1,by omega⟩,by omega,trivial,tvi trivial⟩
   refine tr_nil ?_
   refine tr_vc hsp mixed _ _ ?_
   exact vcx (X:=(tmK k tb (i:Int) ds (IntKind.i64.wrap ((j:Int)+1),jst tb y d)).triv (j<2)) (by kernel_rfl) (tvi hj2)
  refine tr_nil ?_
  refine tr_vc hsp mixed _ _ ?_
  have ey:jby tb s b=jsd tb ds s 2:=by unfold jby;rw[hds]
  show VC _ _ _ (fun σ'=>σ'.le _ (tmJ k tb (IntKind.i64.wrap ((i:Int)+1),jby tb s b)) (i<k.length)) _ _
  rw[ey]
  generalize jsd tb ds s 2=z
  exact vcx (X:=(tmJ k tb (IntKind.i64.wrap ((i:Int)+1),z)).triv (i<k.length)) (by kernel_rfl) (tvi hlt)
 ·refine tr_vc hsp mixed _ _ ?_
  refine vcx (X:=(True/\(jpoint (F:=Fp) (jtm tb k k.length),())=outTimes (p,k,()))) (by kernel_rfl) ⟨trivial,?_⟩
  show _=(jpoint (F:=Fp) (jtm (tabAt (jt (jlift (F:=Fp) p)) (0,0,0) 15) k k.length),())
  rw[htb]
def spTimes:Nat × Eng.Spec:=(71,fnSpec [pt1,.sl (.int .u8)] [.val pt1] preTimes outTimes)
end
end Go.Proofs.YteldhmehjkhanaaGreatDoor.g1
namespace Go.Proofs.YteldhmehjkhanaaGreatDoor.g1
open Go Go.Eng Go.RowKit Cr
noncomputable def tms (p:Fp × Fp) (k:List Int):Fp × Fp:=jpoint (F:=Fp) (jtm (tabAt (jt (jlift (F:=Fp) p)) (0,0,0) 15) k (List.length k))
noncomputable def pml (p:Fp × Fp) (k:Fr):Fp × Fp:=tms p (bytesN 32 k.v)
theorem ent_pmul:enters Tryz.prog 41 Tryz.f41:=ek
noncomputable abbrev outPMul:HL [pt1,.fr]->HO [.val pt1]:=fun (p,k,_)=>(pml p k,())
theorem fn_pmul:FnOk Tryz.prog 41 [pt1,.fr] [.val pt1] noG (fun _=>True) outPMul:=by
 refine fn_of_vc (sp:=sps [fr.spBytes,spTimes]) (spk (fok fr.fn_bytes) (spk (fok fn_times) snl)) mixed ent_pmul (by decide) (by decide) ?_
 rintro w M0 ⟨p,k,⟨⟩⟩
 revert p k
 intro (p:Fp × Fp) (k:Fr) _ _
 refine vcx (X:=(True/\(0:Nat)+32<=32/\preTimes (p,(bytesN 32 k.v).take 32,())/\(tms p ((bytesN 32 k.v).take 32),())=outPMul (p,k,()))) (by kernel_rfl) ?_
 rw[List.take_of_length_le (by rw[bytesN_length];exact Nat.le_refl _)]
 exact⟨trivial,by decide,⟨bytesN_Bs _ _,by show (bytesN 32 k.v).length<_;rw[bytesN_length];decide⟩,rfl⟩
end Go.Proofs.YteldhmehjkhanaaGreatDoor.g1
namespace Go.Proofs.YteldhmehjkhanaaGreatDoor.ref01
open Go Go.Eng Go.RowKit Cr
theorem ent_copy:enters Tryz.prog 12 Tryz.f12:=ek
noncomputable def cpI (b:List Int) (g:Int × List Int):St:=mkSt Tryz.f12.ntmps 64 [(0,.is (.one (.ro (.int .u8) b))),(3,.is (.one (.sl 24 0 0 (b.length:Int).toNat 1))),(9,sI .i64 b.length),(10,sI .i64 g.1)] [(24,[.ints .u8 (b.length:Int).toNat g.2])]
def cpL (b:List Int) (k:Nat):List Int:=b.take k++List.replicate (b.length-k) 0
theorem cpL_step {b:List Int} {k:Nat} (h:k<b.length):(cpL b k).set k (b.getD k 0)=cpL b (k+1):=by
 unfold cpL
 rw[List.set_append_right _ _ (by simp;omega),List.take_succ_eq_append_getElem h]
 have e:b.length-k=(b.length-(k+1))+1:=by omega
 have e2:k-(b.take k).length=0:=by simp;omega
 rw[e2,e,List.replicate_succ,List.set_cons_zero,List.append_assoc]
 simp[h]
abbrev preCopy:HL [.sl (.int .u8)]->Prop:=fun (b,_)=>List.length b<=281474976710656
abbrev outCopy:HL [.sl (.int .u8)]->HO [.own (.int .u8)]:=fun (b,_)=>(b,())
theorem fn_copy:FnOk Tryz.prog 12 [.sl (.int .u8)] [.own (.int .u8)] noG preCopy outCopy:=by
 have hsp:SpecsOk Tryz.prog (sps []):=snl
 refine fn_of_tr (sp:=sps []) ent_copy (by decide) (by decide) (by kernel_rfl) ?_
 rintro w M0 ⟨b,⟨⟩⟩
 revert b
 intro (b:List Int) _ hl
 have hl:b.length<=281474976710656:=hl
 show Tr _ _ _ _ _ _ _
 refine tr_cut hsp mixed 3 (cpI b (0,List.replicate (b.length:Int).toNat 0)) True ?_ (fun _=>?_)
 ·refine vcx (X:=((0<=(b.length:Int)/\(b.length:Int)<=(b.length:Int)/\((1:Nat):Int)*(b.length:Int)<=281474976710656/\(b.length:Int)<=9223372036854775807)/\(cpI b (0,List.replicate (b.length:Int).toNat 0)).triv True)) (by kernel_rfl) ?_
  exact⟨⟨by omega,by omega,by omega,by omega⟩,tvi trivial⟩
 rw[show List.replicate (b.length:Int).toNat (0:Int)=cpL b 0 by simp[cpL]]
 refine tr_count hsp mixed (cpI b) (fun k=>((k:Int),cpL b k)) b.length (fun g=>(IntKind.i64.wrap (g.1+1),g.2.set g.1.toNat (b.getD g.1.toNat 0))) (cpI b) (c:=nthC (codeOf Tryz.f12) 3) (by kernel_rfl) (by kernel_rfl) (le_of_proj (by kernel_rfl) (by kernel_rfl) trivial)
  (fun k hk=>by show (_,_)=(_,_);rw[wrap_succ (by omega),Int.toNat_natCast,cpL_step hk]) ?_ ?_
 ·intro k hk
  generalize cpL b k=xs
  refine vcx (X:=((decide ((k:Int)<(b.length:Int))=true->(0<=(k:Int)/\(k:Int)<(b.length:Int))/\(k:Int).toNat<b.length/\(0<=(k:Int)/\(k:Int)<((b.length:Int).toNat:Int))/\(k:Int).toNat<(b.length:Int).toNat/\(cpI b (IntKind.i64.wrap ((k:Int)+1),xs.set (k:Int).toNat (b.getD (k:Int).toNat 0))).triv (k<b.length)) /\
   (decide ((k:Int)<(b.length:Int))=false->(cpI b ((k:Int),xs)).triv (k=b.length)))) (by kernel_rfl) ?_
  refine⟨fun h=>?_,fun h=>tvi (by have:=dec_ge h;omega)⟩
  have hlt:k<b.length:=by have:=dec_lt h;omega
  exact⟨⟨by omega,by omega⟩,by omega,⟨by omega,by omega⟩,by omega,tvi hlt⟩
 ·refine tr_vc hsp mixed _ _ ?_
  refine vcx (X:=(0+(b.length:Int).toNat<=(b.length:Int).toNat/\(((cpL b b.length).take (b.length:Int).toNat,()):List Int × Unit)=outCopy (b,()))) (by kernel_rfl) ⟨by omega,?_⟩
  simp[cpL,outCopy]
noncomputable def spCopy:Nat × Eng.Spec:=(12,fnSpec [.sl (.int .u8)] [.own (.int .u8)] preCopy outCopy)
end Go.Proofs.YteldhmehjkhanaaGreatDoor.ref01
namespace Go.Proofs.YteldhmehjkhanaaGreatDoor.g1
noncomputable section
open Go Go.Eng Go.RowKit Cr
def gG:Fp × Fp:=opq (gx,gy)
def gmul (p:Fp × Fp) (k:Fr):Fp × Fp:=opq (pml p k)
theorem fo_gen:FnOk Tryz.prog 40 [] [.val pt1] noG (fun _=>True) (fun _=>(gG,())):=fn_gen.out fun _=>by show (gG,())=((gx,gy),());rw[gG,opq_eq]
theorem fo_mul:FnOk Tryz.prog 41 [pt1,.fr] [.val pt1] noG (fun _=>True) (fun (p,k,_)=>(gmul p k,())):=fn_pmul.out fun (p,k,_)=>by show (gmul p k,())=(_,());rw[gmul,opq_eq]
def soGen:Nat × Eng.Spec:=(40,fnSpec [] [.val pt1] (fun _=>True) (fun _=>(gG,())))
def soMul:Nat × Eng.Spec:=(41,fnSpec [pt1,.fr] [.val pt1] (fun _=>True) (fun (p,k,_)=>(gmul p k,())))
end
end Go.Proofs.YteldhmehjkhanaaGreatDoor.g1
namespace Go.Proofs.YteldhmehjkhanaaGreatDoor.g1
open Go Go.Eng Go.RowKit Cr
end Go.Proofs.YteldhmehjkhanaaGreatDoor.g1
namespace Go.Proofs.YteldhmehjkhanaaGreatDoor.fp2
open Go Go.Eng Go.RowKit Cr Go.Proofs.YteldhmehjkhanaaGreatDoor
end Go.Proofs.YteldhmehjkhanaaGreatDoor.fp2
namespace Go.Proofs.YteldhmehjkhanaaGreatDoor.g2
open Go Go.Eng Go.RowKit Cr Go.Proofs.YteldhmehjkhanaaGreatDoor Go.Proofs.YteldhmehjkhanaaGreatDoor.fp2
abbrev pt2:Kd:=.pair f2 f2
end Go.Proofs.YteldhmehjkhanaaGreatDoor.g2
namespace Go.Proofs.YteldhmehjkhanaaGreatDoor.g2
noncomputable section
open Go Go.Eng Go.RowKit Cr fp2
abbrev bk:Kd:=.pair f2 (.pair f2 f2)
theorem eqP2 (a b:F2 × F2):eqC (.pair (.pair .fp .fp) (.pair .fp .fp)) a b=decide (a=b):=by
 have h:=eqC_iff (e:=.pair (.pair .fp .fp) (.pair .fp .fp)) a b
 rw[Bool.eq_iff_iff,h,decide_eq_true_iff]
theorem ent_lift:enters Tryz.prog 102 Tryz.f102:=ek
abbrev outLift:HL [pt2]->HO [.val bk]:=fun (p,_)=>(jlift (F:=F2) p,())
theorem fn_lift:FnOk Tryz.prog 102 [pt2] [.val bk] noG (fun _=>True) outLift:=by
 refine fn_of_vc (sp:=sps [fp2.spSmall]) (spk (fok fp2.fn_small) snl) mixed ent_lift (by decide) (by decide) ?_
 rintro w M0 ⟨p,⟨⟩⟩
 revert p
 intro (p:F2 × F2) _ _
 refine vcx (X:=((eqC ((Kd.fp.pair Kd.fp).pair (Kd.fp.pair Kd.fp)) p (((0:Fp),(0:Fp)),(0:Fp),(0:Fp))=true->((((0:Fp),(0:Fp)),((0:Fp),(0:Fp)),(0:Fp),(0:Fp)),())=outLift (p,()))/\(eqC ((Kd.fp.pair Kd.fp).pair (Kd.fp.pair Kd.fp)) p (((0:Fp),(0:Fp)),(0:Fp),(0:Fp))=false->(U64 (1:Int)/\U64 (0:Int))/\((p.fst,p.snd,zmp (1:Int),zmp (0:Int)),())=outLift (p,())))) (by kernel_rfl) ?_
 rw[eqP2]
 refine⟨fun h=>?_,fun h=>⟨⟨by constructor<;>decide,by constructor<;>decide⟩,?_⟩⟩
 ·show _=(jlift p,())
  unfold jlift
  rw[if_pos (show p=O2 from of_decide_eq_true h)];rfl
 ·show _=(jlift p,())
  unfold jlift
  rw[if_neg (show ¬ p=O2 from of_decide_eq_false h)];rfl
def spLift:Nat × Eng.Spec:=(102,fnSpec [pt2] [.val bk] (fun _=>True) outLift)
theorem ent_point:enters Tryz.prog 105 Tryz.f105:=ek
abbrev outPoint:HL [bk]->HO [.val pt2]:=fun (a,_)=>(jpoint (F:=F2) a,())
theorem fn_point:FnOk Tryz.prog 105 [bk] [.val pt2] noG (fun _=>True) outPoint:=by
 refine fn_of_vc (sp:=sps [fp2.spZero,fp2.spInv,fp2.spSquare,fp2.spMul]) (spk (fok fp2.fn_zero) (spk (fok fp2.fn_inv) (spk (fok fp2.fn_square) (spk (fok fp2.fn_mul) snl)))) mixed ent_point (by decide) (by decide) ?_
 rintro w M0 ⟨a,⟨⟩⟩
 revert a
 intro (a:F2 × F2 × F2) _ _
 refine vcx (X:=(True/\(decide (a.2.2=0)=true->(((0:F2),(0:F2)),())=outPoint (a,()))/\(decide (a.2.2=0)=false->Trs 5 (((a.1*(inv2 a.2.2*inv2 a.2.2),a.2.1*(inv2 a.2.2*inv2 a.2.2)*inv2 a.2.2),())=outPoint (a,()))))) (by kernel_rfl) ?_
 refine⟨trivial,fun h=>?_,fun h=>trs ?_ _⟩
 ·show _=(jpoint a,())
  unfold jpoint
  rw[if_pos (of_decide_eq_true h)]
 ·show _=(jpoint a,())
  unfold jpoint
  rw[if_neg (of_decide_eq_false h)]
  rfl
def spPoint:Nat × Eng.Spec:=(105,fnSpec [bk] [.val pt2] (fun _=>True) outPoint)
theorem ent_double:enters Tryz.prog 104 Tryz.f104:=ek
abbrev outDouble:HL [bk]->HO [.val bk]:=fun (a,_)=>(jdbl (F:=F2) a,())
theorem fn_double:FnOk Tryz.prog 104 [bk] [.val bk] noG (fun _=>True) outDouble:=by
 refine fn_of_vc (sp:=sps [fp2.spZero,fp2.spAdd,fp2.spSub,fp2.spSquare,fp2.spMul]) (spk (fok fp2.fn_zero) (spk (fok fp2.fn_add) (spk (fok fp2.fn_sub) (spk (fok fp2.fn_square) (spk (fok fp2.fn_mul) snl))))) mixed ent_double (by decide) (by decide) ?_
 rintro w M0 ⟨a,⟨⟩⟩
 revert a
 intro (a:F2 × F2 × F2) _ _
 refine vcx (X:=(True/\(decide (a.2.2=0)=true->(((0:F2),(0:F2),(0:F2)),())=outDouble (a,()))/\(decide (a.2.2=0)=false->Trs 18 ((jdbN a,())=outDouble (a,()))))) (by kernel_rfl) ?_
 refine⟨trivial,fun h=>?_,fun h=>trs ?_ _⟩
 ·show _=(jdbl a,())
  unfold jdbl
  rw[if_pos (of_decide_eq_true h)]
 ·show _=(jdbl a,())
  unfold jdbl
  rw[if_neg (of_decide_eq_false h)]
def spDouble:Nat × Eng.Spec:=(104,fnSpec [bk] [.val bk] (fun _=>True) outDouble)
theorem ent_add:enters Tryz.prog 103 Tryz.f103:=ek
abbrev outAdd:HL [bk,bk]->HO [.val bk]:=fun (a,b,_)=>(jadd (F:=F2) a b,())
abbrev wd (a b:F2 × F2 × F2):F2:=b.1*(a.2.2*a.2.2)-a.1*(b.2.2*b.2.2)
abbrev rs (a b:F2 × F2 × F2):F2:=b.2.1*(a.2.2*a.2.2)*a.2.2-a.2.1*(b.2.2*b.2.2)*b.2.2
theorem fn_add:FnOk Tryz.prog 103 [bk,bk] [.val bk] noG (fun _=>True) outAdd:=by
 refine fn_of_vc (sp:=sps [fp2.spZero,fp2.spSub,fp2.spSquare,fp2.spMul,spDouble]) (spk (fok fp2.fn_zero) (spk (fok fp2.fn_sub) (spk (fok fp2.fn_square) (spk (fok fp2.fn_mul) (spk (fok fn_double) snl))))) mixed ent_add (by decide) (by decide) ?_
 rintro w M0 ⟨a,b,⟨⟩⟩
 revert a b
 intro (a:F2 × F2 × F2) (b:F2 × F2 × F2) _ _
 refine vcx (X:=(True/\(decide (a.2.2=0)=true->(b,())=outAdd (a,b,()))/\(decide (a.2.2=0)=false->True/\(decide (b.2.2=0)=true->(a,())=outAdd (a,b,()))/\(decide (b.2.2=0)=false ->
  Trs 11 ((decide (wd a b=0)=true->True/\(decide (rs a b=0)=true->True/\(jdbl (F:=F2) a,())=outAdd (a,b,()))/\(decide (rs a b=0)=false->(((0:F2),(0:F2),(0:F2)),())=outAdd (a,b,()))) /\
   (decide (wd a b=0)=false->Trs 13 ((jfin (F:=F2) (wd a b) (rs a b) (a.1*(b.2.2*b.2.2)) (a.2.1*(b.2.2*b.2.2)*b.2.2) a.2.2 b.2.2,())=outAdd (a,b,())))))))) (by kernel_rfl) ?_
 refine⟨trivial,fun h=>?_,fun h=>⟨trivial,fun h2=>?_,fun h2=>trs ⟨fun h3=>⟨trivial,fun h4=>⟨trivial,?_⟩,fun h4=>?_⟩,fun h3=>trs ?_ _⟩ _⟩⟩
 all_goals show _=(jadd a b,())
 all_goals unfold jadd
 ·rw[if_pos (of_decide_eq_true h)]
 ·rw[if_neg (of_decide_eq_false h),if_pos (of_decide_eq_true h2)]
 ·rw[if_neg (of_decide_eq_false h),if_neg (of_decide_eq_false h2),if_pos (of_decide_eq_true h3),if_pos (of_decide_eq_true h4)]
 ·rw[if_neg (of_decide_eq_false h),if_neg (of_decide_eq_false h2),if_pos (of_decide_eq_true h3),if_neg (of_decide_eq_false h4)]
 ·rw[if_neg (of_decide_eq_false h),if_neg (of_decide_eq_false h2),if_neg (of_decide_eq_false h3)]
def spAdd:Nat × Eng.Spec:=(103,fnSpec [bk,bk] [.val bk] (fun _=>True) outAdd)
end
end Go.Proofs.YteldhmehjkhanaaGreatDoor.g2
namespace Go.Proofs.YteldhmehjkhanaaGreatDoor.g2
noncomputable section
open Go Go.Eng Go.RowKit Cr fp2
abbrev bc (s:F2 × F2 × F2):List Cell:=[.row .fp 1 [s.1.1],.row .fp 1 [s.1.2],.row .fp 1 [s.2.1.1],.row .fp 1 [s.2.1.2],.row .fp 1 [s.2.2.1],.row .fp 1 [s.2.2.2]]
abbrev pc (s:F2 × F2):List Cell:=[.row .fp 1 [s.1.1],.row .fp 1 [s.1.2],.row .fp 1 [s.2.1],.row .fp 1 [s.2.2]]
theorem ent_sum:enters Tryz.prog 127 Tryz.f127:=ek
def sumI (ps:List (F2 × F2)) (g:Int × (F2 × F2 × F2)):St:=mkSt Tryz.f127.ntmps 40 [(2,.is (.one (.ptr 0 0))),(3,.is (.one (.ptr 8 0))),(6,.is (.one (.ro pt2 ps))),(7,sI .i64 ps.length),(8,sI .i64 g.1)] [(8,bc g.2),(0,pc (0,0))]
def sumN (ps:List (F2 × F2)) (g:Int × (F2 × F2 × F2)):Int × (F2 × F2 × F2):=(IntKind.i64.wrap (g.1+1),jadd (F:=F2) g.2 (jlift (F:=F2) (ps.getD g.1.toNat (0,0))))
abbrev preSum:HL [.sl pt2]->Prop:=fun (ps,_)=>List.length ps<4611686018427387904
abbrev outSum:HL [.sl pt2]->HO [.val pt2]:=fun (ps,_)=>(jpoint (F:=F2) (jsm ps (List.length ps)),())
theorem fn_sum:FnOk Tryz.prog 127 [.sl pt2] [.val pt2] noG preSum outSum:=by
 have hsp:SpecsOk Tryz.prog (sps [spLift,spAdd,spPoint]):=spk (fok fn_lift) (spk (fok fn_add) (spk (fok fn_point) snl))
 refine fn_of_tr (sp:=sps [spLift,spAdd,spPoint]) ent_sum (by decide) (by decide) (by kernel_rfl) ?_
 rintro w M0 ⟨ps,⟨⟩⟩
 revert ps
 intro (ps:List (F2 × F2)) _ hl
 have hl:ps.length<4611686018427387904:=hl
 show Tr _ _ _ _ _ _ _
 refine tr_cut hsp mixed 3 (sumI ps (0,jsm ps 0)) True ?_ (fun _=>?_)
 ·exact vcx (X:=(sumI ps (0,jsm ps 0)).triv True) (by kernel_rfl) (tvi trivial)
 refine tr_count hsp mixed (sumI ps) (fun k=>((k:Int),jsm ps k)) ps.length (sumN ps) (sumI ps) (c:=nthC (codeOf Tryz.f127) 3) (by kernel_rfl) (by kernel_rfl) (le_of_proj (by kernel_rfl) (by kernel_rfl) trivial)
  (fun k hk=>by show (_,_)=(_,_);rw[wrap_succ (by omega)];rfl) ?_ ?_
 ·intro k hk
  generalize hs:jsm ps k=s
  refine vcx (X:=((decide ((k:Int)<(ps.length:Int))=true->(0<=(k:Int)/\(k:Int)<(ps.length:Int))/\(k:Int).toNat<ps.length/\True/\True/\(sumI ps (sumN ps ((k:Int),s))).triv (k<ps.length)) /\
   (decide ((k:Int)<(ps.length:Int))=false->(sumI ps ((k:Int),s)).triv (k=ps.length)))) (by kernel_rfl) ?_
  refine⟨fun h=>?_,fun h=>tvi (by have:=dec_ge h;omega)⟩
  have hlt:k<ps.length:=by have:=dec_lt h;omega
  exact⟨⟨by omega,by omega⟩,by omega,trivial,trivial,tvi hlt⟩
 ·refine tr_vc hsp mixed _ _ ?_
  exact vcx (X:=(True/\(jpoint (F:=F2) (jsm ps ps.length),())=outSum (ps,()))) (by kernel_rfl) ⟨trivial,rfl⟩
def spSum:Nat × Eng.Spec:=(127,fnSpec [.sl pt2] [.val pt2] preSum outSum)
theorem ent_padd:enters Tryz.prog 99 Tryz.f99:=ek
abbrev outPAdd:HL [pt2,pt2]->HO [.val pt2]:=fun (p,q,_)=>(jpoint (F:=F2) (jsm [p,q] 2),())
theorem fn_padd:FnOk Tryz.prog 99 [pt2,pt2] [.val pt2] noG (fun _=>True) outPAdd:=by
 refine fn_of_vc (sp:=sps [spSum]) (spk (fok fn_sum) snl) mixed ent_padd (by decide) (by decide) ?_
 rintro w M0 ⟨p,q,⟨⟩⟩
 revert p q
 intro (p:F2 × F2) (q:F2 × F2) _ _
 refine vcx (X:=((0+2:Nat)<=2/\preSum ([p,q],())/\outSum ([p,q],())=outPAdd (p,q,()))) (by kernel_rfl) ?_
 exact⟨by decide,show (2:Nat)<4611686018427387904 by decide,rfl⟩
theorem ent_pneg:enters Tryz.prog 142 Tryz.f142:=ek
abbrev outPNeg:HL [pt2]->HO [.val pt2]:=fun (p,_)=>(pneg (F:=F2) p,())
theorem fn_pneg:FnOk Tryz.prog 142 [pt2] [.val pt2] noG (fun _=>True) outPNeg:=by
 refine fn_of_vc (sp:=sps [fp2.spNeg]) (spk (fok fp2.fn_neg) snl) mixed ent_pneg (by decide) (by decide) ?_
 rintro w M0 ⟨p,⟨⟩⟩
 revert p
 intro (p:F2 × F2) _ _
 exact vcx (X:=(True/\(((p.1,-p.2),())=outPNeg (p,())))) (by kernel_rfl) ⟨trivial,rfl⟩
def b4:F2:=(zm 4,zm 4)
end
end Go.Proofs.YteldhmehjkhanaaGreatDoor.g2
namespace Go.Proofs.YteldhmehjkhanaaGreatDoor.g2
noncomputable section
open Go Go.Eng Go.RowKit Cr fp2
abbrev Jp:=F2 × F2 × F2
def tmI (k:List Int) (o:Jp) (g:Int × List Jp):St:=mkSt Tryz.f74.ntmps 64 [(1,.is (.one (.ro (.int .u8) k))),(4,.is (.one (.ptr 8 0))),(5,.is (.one (.ptr 16 0))),(6,.is (.one (.ptr 40 0))),(15,sI .i64 g.1)] [(40,bc o),(16,[.row bk 16 g.2]),(8,pc (0,0))]
def tmS (k:List Int) (tb:List Jp) (s:Jp) (nx:Nat) (xs:List (Nat × SV)):St:=mkSt Tryz.f74.ntmps nx ([(4,.is (.one (.ptr 8 0))),(5,.is (.one (.ptr 16 0))),(8,.is (.one (.ptr 64 0))),(27,.is (.one (.ro (.int .u8) k))),(28,sI .i64 k.length)]++xs) [(64,bc s),(16,[.row bk 16 tb]),(8,pc (0,0))]
abbrev tmJ (k:List Int) (tb:List Jp) (g:Int × Jp):St:=tmS k tb g.2 96 [(29,sI .i64 g.1)]
abbrev tmK (k:List Int) (tb:List Jp) (i:Int) (ds:List Int) (g:Int × Jp):St:=tmS k tb g.2 168 [(29,sI .i64 i),(37,.is (.agg [.ints .u8 2 ds])),(38,sI .i64 g.1)]
abbrev tmL (k:List Int) (tb:List Jp) (i:Int) (ds:List Int) (j d:Int) (g:Int × Jp):St:=tmS k tb g.2 184 [(29,sI .i64 i),(37,.is (.agg [.ints .u8 2 ds])),(38,sI .i64 j),(12,sI .u8 d),(41,sI .i64 g.1)]
theorem ent_times:enters Tryz.prog 74 Tryz.f74:=ek
abbrev preTimes:HL [pt2,.sl (.int .u8)]->Prop:=fun (_,k,_)=>Bs k/\List.length k<4611686018427387904
abbrev outTimes:HL [pt2,.sl (.int .u8)]->HO [.val pt2]:=fun (p,k,_)=>(jpoint (F:=F2) (jtm (tabAt (jt (jlift (F:=F2) p)) (0,0,0) 15) k (List.length k)),())
theorem fn_times:FnOk Tryz.prog 74 [pt2,.sl (.int .u8)] [.val pt2] noG preTimes outTimes:=by
 have hsp:SpecsOk Tryz.prog (sps [spLift,spAdd,spPoint,spDouble]):=spk (fok fn_lift) (spk (fok fn_add) (spk (fok fn_point) (spk (fok fn_double) snl)))
 refine fn_of_tr (sp:=sps [spLift,spAdd,spPoint,spDouble]) ent_times (by decide) (by decide) (by kernel_rfl) ?_
 rintro w M0 ⟨p,k,⟨⟩⟩
 revert p k
 intro (p:F2 × F2) (k:List Int) _ hp
 obtain⟨hk,hl⟩:=hp
 have hk:Bs k:=hk
 have hl:k.length<4611686018427387904:=hl
 show Tr _ _ _ _ _ _ _
 refine tr_cut hsp mixed 4 (tmI k (jlift (F:=F2) p) (0,tabAt (jt (jlift (F:=F2) p)) (0,0,0) 0)) True ?_ (fun _=>?_)
 ·exact vcx (X:=(True/\(tmI k (jlift (F:=F2) p) (0,tabAt (jt (jlift (F:=F2) p)) (0,0,0) 0)).triv True)) (by kernel_rfl) ⟨trivial,tvi trivial⟩
 generalize ho:jlift (F:=F2) p=o
 refine tr_count hsp mixed (tmI k o) (fun n=>((n:Int),tabAt (jt o) (0,0,0) n)) 15 (fun g=>(IntKind.i64.wrap (g.1+1),g.2.set (IntKind.i64.wrap (g.1+1)).toNat (jadd (F:=F2) (g.2.getD g.1.toNat (0,0,0)) o))) (tmI k o) (c:=nthC (codeOf Tryz.f74) 4) (by kernel_rfl) (by kernel_rfl) (le_of_proj (by kernel_rfl) (by kernel_rfl) trivial)
  (fun n hn=>by
   show (_,_)=(_,_)
   rw[wrap_succ (by omega),Int.toNat_natCast,Int.toNat_natCast,tabAt_get _ _ _ (Nat.le_refl n) (by omega),show jadd (F:=F2) (jt o n) o=jt o (n+1) from rfl,tabAt_set]) ?_ ?_
 ·intro n hn
  generalize tabAt (jt o) (0,0,0) n=tb
  refine vcx (X:=((decide ((n:Int)<15)=true->(0<=(n:Int)/\(n:Int)<((16:Nat):Int))/\(n:Int).toNat<16/\True/\(0<=IntKind.i64.wrap ((n:Int)+1)/\IntKind.i64.wrap ((n:Int)+1)<((16:Nat):Int))/\(IntKind.i64.wrap ((n:Int)+1)).toNat<16 /\
    (tmI k o (IntKind.i64.wrap ((n:Int)+1),tb.set (IntKind.i64.wrap ((n:Int)+1)).toNat (jadd (F:=F2) (tb.getD (n:Int).toNat (0,0,0)) o))).triv (n<15)) /\
   (decide ((n:Int)<15)=false->(tmI k o ((n:Int),tb)).triv (n=15)))) (by kernel_rfl) ?_
  refine⟨fun h=>?_,fun h=>tvi (by have:=dec_ge h;omega)⟩
  have hlt:n<15:=by have:=dec_lt h;omega
  rw[wrap_succ (by omega)]
  exact⟨⟨by omega,by omega⟩,by omega,trivial,⟨by omega,by omega⟩,by omega,tvi hlt⟩
 subst ho
 show Tr _ _ _ _ _ _ _
 generalize htb:tabAt (jt (jlift (F:=F2) p)) (0,0,0) 15=tb
 refine tr_cut hsp mixed 2 (tmJ k tb (0,jtm tb k 0)) True ?_ (fun _=>?_)
 ·exact vcx (X:=(tmJ k tb (0,jtm tb k 0)).triv True) (by kernel_rfl) (tvi trivial)
 refine tr_countT (tmJ k tb) (fun i=>((i:Int),jtm tb k i)) k.length (fun g=>(IntKind.i64.wrap (g.1+1),jby tb g.2 (k.getD g.1.toNat 0))) (tmJ k tb) (c:=nthC (codeOf Tryz.f74) 7) (by kernel_rfl) (by kernel_rfl) (le_of_proj (by kernel_rfl) (by kernel_rfl) trivial)
  (fun i hi=>by show (_,_)=(_,_);rw[wrap_succ (by omega),Int.toNat_natCast];rfl) ?_ ?_
 ·intro i hi
  generalize jtm tb k i=s
  refine tr_cut hsp mixed 2 (tmJ k tb ((i:Int),s)) (i<k.length) ?_ (fun hlt=>?_)
  ·refine vcx (X:=((decide ((i:Int)<(k.length:Int))=true->(tmJ k tb ((i:Int),s)).triv (i<k.length))/\(decide ((i:Int)<(k.length:Int))=false->(tmJ k tb ((i:Int),s)).triv (i=k.length)))) (by kernel_rfl) ?_
   exact⟨fun h=>tvi (by have:=dec_lt h;omega),fun h=>tvi (by have:=dec_ge h;omega)⟩
  have hb:0<=k.getD i 0/\k.getD i 0<256:=by
   have:k.getD i 0∈k:=by rw[List.getD_eq_getElem?_getD,List.getElem?_eq_getElem hlt];exact List.getElem_mem hlt
   exact hk _ this
  have hbi:k.getD (i:Int).toNat 0=k.getD i 0:=by rw[Int.toNat_natCast]
  generalize hbb:k.getD i 0=b at hb hbi
  obtain⟨_,d1,d2⟩:=dh_ok hb.1 hb.2
  obtain⟨_,d3,d4⟩:=dl_ok hb.1 hb.2
  refine tr_block (c:=nthC (loopOf (nthC (codeOf Tryz.f74) 7)) 2) (by kernel_rfl) (by kernel_rfl) ?_
  refine tr_cut hsp mixed 2 (tmK k tb (i:Int) [dh (k.getD (i:Int).toNat 0),dl (k.getD (i:Int).toNat 0)] (0,jsd tb [dh b,dl b] s 0)) True ?_ (fun _=>?_)
  ·refine vcx (X:=((0<=(i:Int)/\(i:Int)<(k.length:Int))/\(i:Int).toNat<k.length/\(0:Int)<=4/\(tmK k tb (i:Int) [dh (k.getD (i:Int).toNat 0),dl (k.getD (i:Int).toNat 0)] (0,jsd tb [dh b,dl b] s 0)).triv True)) (by kernel_rfl) ?_
   exact⟨⟨by omega,by omega⟩,by omega,by decide,tvi trivial⟩
  rw[hbi]
  generalize hds:[dh b,dl b]=ds
  have hdd:∀ j,j<2->0<=ds.getD j 0/\ds.getD j 0<16:=by
   intro j hj
   subst hds
   match j,hj with
   | 0,_=>exact⟨d1,d2⟩
   | 1,_=>exact⟨d3,d4⟩
  refine tr_countT (tmK k tb (i:Int) ds) (fun j=>((j:Int),jsd tb ds s j)) 2 (fun g=>(IntKind.i64.wrap (g.1+1),jst tb g.2 (ds.getD g.1.toNat 0))) (tmK k tb (i:Int) ds) (c:=nthC (bodyOf (nthC (loopOf (nthC (codeOf Tryz.f74) 7)) 2)) 2) (by kernel_rfl) (by kernel_rfl) (le_of_proj (by kernel_rfl) (by kernel_rfl) trivial)
   (fun j hj=>by show (_,_)=(_,_);rw[wrap_succ (by omega),Int.toNat_natCast];rfl) ?_ ?_
  ·intro j hj
   generalize jsd tb ds s j=y
   refine tr_cut hsp mixed 2 (tmK k tb (i:Int) ds ((j:Int),y)) (j<2) ?_ (fun hj2=>?_)
   ·refine vcx (X:=((decide ((j:Int)<2)=true->(tmK k tb (i:Int) ds ((j:Int),y)).triv (j<2))/\(decide ((j:Int)<2)=false->(tmK k tb (i:Int) ds ((j:Int),y)).triv (j=2)))) (by kernel_rfl) ?_
    exact⟨fun h=>tvi (by have:=dec_lt h;omega),fun h=>tvi (by have:=dec_ge h;omega)⟩
   have hd:=hdd j hj2
   have hdj:ds.getD (j:Int).toNat 0=ds.getD j 0:=by rw[Int.toNat_natCast]
   generalize ds.getD j 0=d at hd hdj
   refine tr_block (c:=nthC (loopOf (nthC (bodyOf (nthC (loopOf (nthC (codeOf Tryz.f74) 7)) 2)) 2)) 2) (by kernel_rfl) (by kernel_rfl) ?_
   refine tr_cut hsp mixed 2 (tmL k tb (i:Int) ds (j:Int) (ds.getD (j:Int).toNat 0) (0,jdn y 0)) True ?_ (fun _=>?_)
   ·refine vcx (X:=((0<=(j:Int)/\(j:Int)<((2:Nat):Int))/\(tmL k tb (i:Int) ds (j:Int) (ds.getD (j:Int).toNat 0) (0,jdn y 0)).triv True)) (by kernel_rfl) ?_
    exact⟨⟨by omega,by omega⟩,tvi trivial⟩
   rw[hdj]
   refine tr_count hsp mixed (tmL k tb (i:Int) ds (j:Int) d) (fun n=>((n:Int),jdn y n)) 4 (fun g=>(IntKind.i64.wrap (g.1+1),jdbl (F:=F2) g.2)) (tmL k tb (i:Int) ds (j:Int) d) (c:=nthC (bodyOf (nthC (loopOf (nthC (bodyOf (nthC (loopOf (nthC (codeOf Tryz.f74) 7)) 2)) 2)) 2)) 2) (by kernel_rfl) (by kernel_rfl) (le_of_proj (by kernel_rfl) (by kernel_rfl) trivial)
    (fun n hn=>by show (_,_)=(_,_);rw[wrap_succ (by omega)];rfl) ?_ ?_
   ·intro n hn
    generalize jdn y n=z
    refine vcx (X:=((decide ((n:Int)<4)=true->True/\(tmL k tb (i:Int) ds (j:Int) d (IntKind.i64.wrap ((n:Int)+1),jdbl (F:=F2) z)).triv (n<4))/\(decide ((n:Int)<4)=false->(tmL k tb (i:Int) ds (j:Int) d ((n:Int),z)).triv (n=4)))) (by kernel_rfl) ?_
    exact⟨fun h=>⟨trivial,tvi (by have:=dec_lt h;omega)⟩,fun h=>tvi (by have:=dec_ge h;omega)⟩
   refine tr_cut hsp mixed 1 (tmK k tb (i:Int) ds ((j:Int),jst tb y d)) True ?_ (fun _=>?_)
   ·refine vcx (X:=((0<=d/\d<((16:Nat):Int))/\d.toNat<16/\True/\(tmK k tb (i:Int) ds ((j:Int),jst tb y d)).triv True)) (by kernel_rfl) ?_
    exact⟨⟨hd.1,by omega⟩,by omega,trivial,tvi trivial⟩
   refine tr_nil ?_
   refine tr_vc hsp mixed _ _ ?_
   exact vcx (X:=(tmK k tb (i:Int) ds (IntKind.i64.wrap ((j:Int)+1),jst tb y d)).triv (j<2)) (by kernel_rfl) (tvi hj2)
  refine tr_nil ?_
  refine tr_vc hsp mixed _ _ ?_
  have ey:jby tb s b=jsd tb ds s 2:=by unfold jby;rw[hds]
  show VC _ _ _ (fun σ'=>σ'.le _ (tmJ k tb (IntKind.i64.wrap ((i:Int)+1),jby tb s b)) (i<k.length)) _ _
  rw[ey]
  generalize jsd tb ds s 2=z
  exact vcx (X:=(tmJ k tb (IntKind.i64.wrap ((i:Int)+1),z)).triv (i<k.length)) (by kernel_rfl) (tvi hlt)
 ·refine tr_vc hsp mixed _ _ ?_
  refine vcx (X:=(True/\(jpoint (F:=F2) (jtm tb k k.length),())=outTimes (p,k,()))) (by kernel_rfl) ⟨trivial,?_⟩
  show _=(jpoint (F:=F2) (jtm (tabAt (jt (jlift (F:=F2) p)) (0,0,0) 15) k k.length),())
  rw[htb]
def spTimes:Nat × Eng.Spec:=(74,fnSpec [pt2,.sl (.int .u8)] [.val pt2] preTimes outTimes)
end
end Go.Proofs.YteldhmehjkhanaaGreatDoor.g2
namespace Go.Proofs.YteldhmehjkhanaaGreatDoor.g2
open Go Go.Eng Go.RowKit Cr fp2
noncomputable def tms (p:F2 × F2) (k:List Int):F2 × F2:=jpoint (F:=F2) (jtm (tabAt (jt (jlift (F:=F2) p)) (0,0,0) 15) k (List.length k))
noncomputable def pml (p:F2 × F2) (k:Fr):F2 × F2:=tms p (bytesN 32 k.v)
theorem ent_pmul:enters Tryz.prog 45 Tryz.f45:=ek
noncomputable abbrev outPMul:HL [pt2,.fr]->HO [.val pt2]:=fun (p,k,_)=>(pml p k,())
theorem fn_pmul:FnOk Tryz.prog 45 [pt2,.fr] [.val pt2] noG (fun _=>True) outPMul:=by
 refine fn_of_vc (sp:=sps [fr.spBytes,spTimes]) (spk (fok fr.fn_bytes) (spk (fok fn_times) snl)) mixed ent_pmul (by decide) (by decide) ?_
 rintro w M0 ⟨p,k,⟨⟩⟩
 revert p k
 intro (p:F2 × F2) (k:Fr) _ _
 refine vcx (X:=(True/\(0:Nat)+32<=32/\preTimes (p,(bytesN 32 k.v).take 32,())/\(tms p ((bytesN 32 k.v).take 32),())=outPMul (p,k,()))) (by kernel_rfl) ?_
 rw[List.take_of_length_le (by rw[bytesN_length];exact Nat.le_refl _)]
 exact⟨trivial,by decide,⟨bytesN_Bs _ _,by show (bytesN 32 k.v).length<_;rw[bytesN_length];decide⟩,rfl⟩
end Go.Proofs.YteldhmehjkhanaaGreatDoor.g2
namespace Go.Proofs.YteldhmehjkhanaaGreatDoor.g2
noncomputable section
open Go Go.Eng Go.RowKit Cr fp2
theorem b4_ne:b4≠0:=fun h=>absurd (congrArg Prod.fst h) (by decide)
def gadd (p q:F2 × F2):F2 × F2:=opq (jpoint (F:=F2) (jsm [p,q] 2))
def gsum (ps:List (F2 × F2)):F2 × F2:=opq (jpoint (F:=F2) (jsm ps ps.length))
def gneg (p:F2 × F2):F2 × F2:=opq (pneg (F:=F2) p)
def gtms (p:F2 × F2) (k:List Int):F2 × F2:=opq (tms p k)
def gmul (p:F2 × F2) (k:Fr):F2 × F2:=opq (pml p k)
theorem fo_add:FnOk Tryz.prog 99 [pt2,pt2] [.val pt2] noG (fun _=>True) (fun (p,q,_)=>(gadd p q,())):=fn_padd.out fun (p,q,_)=>by show (gadd p q,())=(_,());rw[gadd,opq_eq]
theorem fo_sum:FnOk Tryz.prog 127 [.sl pt2] [.val pt2] noG preSum (fun (ps,_)=>(gsum ps,())):=fn_sum.out fun (ps,_)=>by show (gsum ps,())=(_,());rw[gsum,opq_eq]
theorem fo_neg:FnOk Tryz.prog 142 [pt2] [.val pt2] noG (fun _=>True) (fun (p,_)=>(gneg p,())):=fn_pneg.out fun (p,_)=>by show (gneg p,())=(_,());rw[gneg,opq_eq]
theorem fo_times:FnOk Tryz.prog 74 [pt2,.sl (.int .u8)] [.val pt2] noG preTimes (fun (p,k,_)=>(gtms p k,())):=fn_times.out fun (p,k,_)=>by show (gtms p k,())=(_,());rw[gtms,opq_eq];rfl
theorem fo_mul:FnOk Tryz.prog 45 [pt2,.fr] [.val pt2] noG (fun _=>True) (fun (p,k,_)=>(gmul p k,())):=fn_pmul.out fun (p,k,_)=>by show (gmul p k,())=(_,());rw[gmul,opq_eq]
def soAdd:Nat × Eng.Spec:=(99,fnSpec [pt2,pt2] [.val pt2] (fun _=>True) (fun (p,q,_)=>(gadd p q,())))
def soSum:Nat × Eng.Spec:=(127,fnSpec [.sl pt2] [.val pt2] preSum (fun (ps,_)=>(gsum ps,())))
def soNeg:Nat × Eng.Spec:=(142,fnSpec [pt2] [.val pt2] (fun _=>True) (fun (p,_)=>(gneg p,())))
def soTimes:Nat × Eng.Spec:=(74,fnSpec [pt2,.sl (.int .u8)] [.val pt2] preTimes (fun (p,k,_)=>(gtms p k,())))
def soMul:Nat × Eng.Spec:=(45,fnSpec [pt2,.fr] [.val pt2] (fun _=>True) (fun (p,k,_)=>(gmul p k,())))
abbrev Onb (p:F2 × F2):Prop:=OnP b4 p
theorem gadd_eq {p q:F2 × F2} (hp:Onb p) (hq:Onb q):gadd p q=padd p q:=by rw[gadd,opq_eq];exact add_eq b4_ne hp hq
theorem gsum_eq {ps:List (F2 × F2)} (h:∀ p∈ps,Onb p):gsum ps=psum ps:=by rw[gsum,opq_eq];exact sum_eq b4_ne h
theorem gneg_eq (p:F2 × F2):gneg p=pneg p:=opq_eq _
theorem gtms_eq {p:F2 × F2} (hp:Onb p) {k:List Int} (hk:Bs k):gtms p k=nmul p (num k).toNat:=by rw[gtms,opq_eq];exact times_eq b4_ne hp hk
end
end Go.Proofs.YteldhmehjkhanaaGreatDoor.g2
namespace Go.Proofs.YteldhmehjkhanaaGreatDoor.g2
open Go Go.Eng Go.RowKit Cr fp2
end Go.Proofs.YteldhmehjkhanaaGreatDoor.g2
namespace Go.Proofs.YteldhmehjkhanaaGreatDoor.pairing
open Go Go.Eng Go.RowKit Cr fp2 tower
abbrev b1:Fp:=g1.b4
abbrev b2:F2:=g2.b4
def rtv:V2:=vcj (rtN,rtN)
theorem rtv_eq:q2 rtv=rt1:=by
 obtain⟨m,hm⟩:∃ m,m=fpP/12:=⟨_,rfl⟩
 have h1:fpP/6=2*m+1:=by rw[hm];exact of_decide_eq_true (by kernel_rfl)
 have h2:m=2*(2*(fpP/48))+2+1:=by rw[hm];exact of_decide_eq_true (by kernel_rfl)
 have h3:(zm (rtN:Int):Fp)=pwn (1+1:Fp) m:=by
  rw[<- zpow_pwn]
  refine Zm.ext ?_
  rw[zpow_two_v,<- npm_eq fpP 2 (of_decide_eq_true (by kernel_rfl)) 384 m (by rw[hm];exact of_decide_eq_true (by kernel_rfl)),hm]
  exact of_decide_eq_true (by kernel_rfl)
 rw[rt1_eq rfl,xi_pw h1 h2,<- h3,rtv,q2_cj];rfl
end Go.Proofs.YteldhmehjkhanaaGreatDoor.pairing
