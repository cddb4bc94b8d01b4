import Derived.Test.YtbfimfdhmggieaaGreatDoorML13sPU
set_option maxRecDepth 100000
namespace Cr
open Rg Fd
theorem pigeon : ∀ (B A : Nat) (f : Nat -> Nat),(∀ i,i < A -> f i < B) -> (∀ i j,i < A -> j < A -> f i=f j -> i=j) -> A <= B:=by
 intro B
 induction B with
 | zero =>
  intro A f h _
  cases A with
  | zero => exact Nat.le_refl 0
  | succ A => exact absurd (h 0 (by omega)) (by omega)
 | succ B ih =>
  intro A f h inj
  cases A with
  | zero => omega
  | succ A =>
   have ne : ∀ i,i < A -> f i ≠ f A:=fun i hi e => by have:=inj i A (by omega) (by omega) e; omega
   have:=ih A (fun i => if f i > f A then f i - 1 else f i) (fun i hi => by
    have h1:=h i (by omega)
    have h2:=h A (by omega)
    have h3:=ne i hi
    show (if f i > f A then f i - 1 else f i) < B
    split <;> omega) (fun i j hi hj e => by
    have h3:=ne i hi
    have h4:=ne j hj
    have e : (if f i > f A then f i - 1 else f i)=(if f j > f A then f j - 1 else f j):=e
    refine inj i j (by omega) (by omega) ?_
    split at e <;> split at e <;> omega)
   omega
theorem bez (m n : Nat) : ∃ u v : Int,u * (m : Int) + v * (n : Int)=((Nat.gcd m n : Nat) : Int):=by
 induction m,n using Nat.gcd.induction with
 | H0 n => exact ⟨0,1,by simp⟩
 | H1 m n hm ih =>
  obtain ⟨u,v,h⟩:=ih
  refine ⟨v - u * ((n / m : Nat) : Int),u,?_⟩
  rw [Nat.gcd_rec,<- h]
  have e : (n : Int)=(m : Int) * ((n / m : Nat) : Int) + ((n % m : Nat) : Int):=by
   have:=Nat.div_add_mod n m
   rw [<- Int.natCast_mul,<- Int.natCast_add,this]
  generalize ((n / m : Nat) : Int)=q at *
  generalize ((n % m : Nat) : Int)=t at *
  rw [e,Int.sub_mul,Int.mul_add]
  have : u * q * (m : Int)=u * ((m : Int) * q):=by rw [Int.mul_assoc,Int.mul_comm q]
  omega
theorem inv_mod {l a : Nat} (h : Nat.Coprime l a) (hl : 1 < l) : ∃ s : Nat,a * s % l=1:=by
 obtain ⟨u,v,e⟩:=bez l a
 rw [h] at e
 refine ⟨(v % (l : Int)).toNat,?_⟩
 have hv : (((v % (l : Int)).toNat : Nat) : Int)=v % (l : Int):=Int.toNat_of_nonneg (Int.emod_nonneg _ (by omega))
 have : (((a * (v % (l : Int)).toNat % l : Nat)) : Int)=1:=by
  rw [Int.natCast_emod,Int.natCast_mul,hv,Int.mul_emod,Int.emod_emod_of_dvd _ (Int.dvd_refl _),<- Int.mul_emod]
  have e2 : (a : Int) * v=1 + (l : Int) * (-u):=by
   rw [Int.mul_neg,Int.mul_comm (l : Int) u,Int.mul_comm (a : Int) v]
   omega
  rw [e2,Int.add_mul_emod_self_left]
  exact Int.emod_eq_of_lt (by omega) (by omega)
 omega
section
variable {F : Type} [Fd F] {b : F} (hb : b ≠ 0)
include hb
theorem nmul_gcd {S : F × F} (oS : OnP b S) (m n : Nat) : nmul S m=O2 -> nmul S n=O2 -> nmul S (Nat.gcd m n)=O2:=by
 induction m,n using Nat.gcd.induction with
 | H0 n => intro _ h; rw [Nat.gcd_zero_left]; exact h
 | H1 m n hm ih =>
  intro h1 h2
  rw [Nat.gcd_rec]
  refine ih ?_ h1
  have e:=Nat.div_add_mod n m
  rw [<- e,nmul_add hb oS,<- nmul_mul hb oS,h1,nmul_O,O_add] at h2
  exact h2
theorem nmul_red {S : F × F} (oS : OnP b S) {l : Nat} (h : nmul S l=O2) (n : Nat) : nmul S n=nmul S (n % l):=by
 conv => lhs; rw [<- Nat.div_add_mod n l]
 rw [nmul_add hb oS,<- nmul_mul hb oS,h,nmul_O,O_add]
theorem ord_dvd {P : F × F} (oP : OnP b P) {l n a : Nat} (hl : Prm l) (hk : nmul P (n * l)=O2) (hne : nmul P n ≠ O2) (ha : nmul P a=O2) : l ∣ a:=by
 refine Classical.byContradiction fun hd => hne ?_
 have hc : Nat.gcd l a=1:=hl.coprime hd
 have oS:=nmul_on hb oP n
 have h1 : nmul (nmul P n) l=O2:=by rw [nmul_mul hb oP]; exact hk
 have h2 : nmul (nmul P n) a=O2:=by rw [nmul_mul hb oP,Nat.mul_comm,<- nmul_mul hb oP,ha,nmul_O]
 have:=nmul_gcd hb oS l a h1 h2
 rw [hc,nmul_one] at this
 exact this
theorem ind2 {U V : F × F} (oU : OnP b U) (oV : OnP b V) {l : Nat} (hl : Prm l) (hU : nmul U l=O2) (hV : nmul V l=O2) (hV0 : V ≠ O2) (hj : ∀ j,j < l -> padd U (nmul V j) ≠ O2) {a c : Nat}
  (h : padd (nmul U a) (nmul V c)=O2) : l ∣ a /\ l ∣ c:=by
 by_cases hd : l ∣ a
 ·refine ⟨hd,?_⟩
  obtain ⟨t,rfl⟩:=hd
  rw [<- nmul_mul hb oU,hU,nmul_O,O_add] at h
  refine Classical.byContradiction fun hc => hV0 ?_
  have:=nmul_gcd hb oV l c hV h
  rw [show Nat.gcd l c=1 from hl.coprime hc,nmul_one] at this
  exact this
 ·obtain ⟨s,hs⟩:=inv_mod (hl.coprime hd) hl.1
  have h2 : nmul (padd (nmul U a) (nmul V c)) s=O2:=by rw [h,nmul_O]
  rw [nmul_padd hb (nmul_on hb oU _) (nmul_on hb oV _),nmul_mul hb oU,nmul_mul hb oV,nmul_red hb oU hU (a * s),hs,nmul_one,nmul_red hb oV hV (c * s)] at h2
  exact absurd h2 (hj _ (Nat.mod_lt _ (by have:=hl.1; omega)))
def InH (P1 P2 P : F × F) : Prop:=∃ a c : Nat,P=padd (nmul P1 a) (nmul P2 c)
variable {P1 P2 : F × F} (o1 : OnP b P1) (o2 : OnP b P2)
include o1 o2
theorem inH_on {P : F × F} (h : InH P1 P2 P) : OnP b P:=by
 obtain ⟨a,c,rfl⟩:=h
 exact padd_on hb (nmul_on hb o1 _) (nmul_on hb o2 _)
theorem inH_add {P Q : F × F} (h : InH P1 P2 P) (k : InH P1 P2 Q) : InH P1 P2 (padd P Q):=by
 obtain ⟨a,c,rfl⟩:=h
 obtain ⟨a',c',rfl⟩:=k
 refine ⟨a + a',c + c',?_⟩
 rw [nmul_add hb o1,nmul_add hb o2]
 exact add4 hb (nmul_on hb o1 _) (nmul_on hb o2 _) (nmul_on hb o1 _) (nmul_on hb o2 _)
theorem inH_mul {P : F × F} (h : InH P1 P2 P) (n : Nat) : InH P1 P2 (nmul P n):=by
 obtain ⟨a,c,rfl⟩:=h
 refine ⟨a * n,c * n,?_⟩
 rw [nmul_padd hb (nmul_on hb o1 _) (nmul_on hb o2 _),nmul_mul hb o1,nmul_mul hb o2]
omit o1 o2 in
theorem neg_mul_of {P : F × F} (oP : OnP b P) {N : Nat} (h : nmul P N=O2) (hN : 0 < N) : pneg P=nmul P (N - 1):=by
 have e : N=1 + (N - 1):=by omega
 rw [e,nmul_add hb oP,nmul_one] at h
 have:=cancel hb oP (nmul_on hb oP (N - 1))
 rw [h,add_O] at this
 exact this
variable {n1 n2 : Nat} (k1 : nmul P1 n1=O2) (k2 : nmul P2 n2=O2)
include k1 k2
theorem inH_kill {P : F × F} (h : InH P1 P2 P) : nmul P (n1 * n2)=O2:=by
 obtain ⟨a,c,rfl⟩:=h
 rw [nmul_padd hb (nmul_on hb o1 _) (nmul_on hb o2 _),nmul_mul hb o1,nmul_mul hb o2]
 rw [show a * (n1 * n2)=n1 * (n2 * a) by rw [Nat.mul_comm a,Nat.mul_assoc],show c * (n1 * n2)=n2 * (n1 * c) by rw [Nat.mul_comm c,Nat.mul_comm n1,Nat.mul_assoc]]
 rw [<- nmul_mul hb o1,<- nmul_mul hb o2,k1,k2,nmul_O,nmul_O,O_add]
theorem inH_neg (hN : 0 < n1 * n2) {P : F × F} (h : InH P1 P2 P) : InH P1 P2 (pneg P):=by
 rw [neg_mul_of hb (inH_on hb o1 o2 h) (inH_kill hb o1 o2 k1 k2 h) hN]
 exact inH_mul hb o1 o2 h _
theorem inH_half (hodd : n1 * n2 % 2=1) (no2 : ∀ P : F × F,OnP b P -> padd P P=O2 -> P=O2) {Q : F × F} (oQ : OnP b Q) (h : InH P1 P2 (padd Q Q)) : InH P1 P2 Q:=by
 have hk:=inH_kill hb o1 o2 k1 k2 h
 rw [nmul_padd hb oQ oQ] at hk
 have hz:=no2 _ (nmul_on hb oQ _) hk
 have e : nmul Q (2 * ((n1 * n2 + 1) / 2))=Q:=by
  rw [show 2 * ((n1 * n2 + 1) / 2)=n1 * n2 + 1 by omega,nmul_add hb oQ,hz,O_add,nmul_one]
 rw [<- nmul_mul hb oQ,nmul_two] at e
 rw [<- e]
 exact inH_mul hb o1 o2 h _
theorem inH_sub (hN : 0 < n1 * n2) {X Y U V : F × F} (oX : OnP b X) (oY : OnP b Y) (hU : InH P1 P2 U) (hV : InH P1 P2 V) (e : padd X U=padd Y V) : ∃ W,InH P1 P2 W /\ X=padd Y W /\ (W=O2 -> U=V):=by
 have oU:=inH_on hb o1 o2 hU
 have oV:=inH_on hb o1 o2 hV
 have onU:=pneg_onP oU
 refine ⟨padd V (pneg U),inH_add hb o1 o2 hV (inH_neg hb o1 o2 k1 k2 hN hU),?_,?_⟩
 ·rw [<- padd_assoc hb oY oV onU,<- e,padd_assoc hb oX oU onU,add_neg_self,add_O]
 ·intro h
  have : padd (padd V (pneg U)) U=padd O2 U:=by rw [h]
  rw [padd_assoc hb oV onU oU,neg_add_self,add_O,O_add] at this
  exact this.symm
theorem inH_inj (ind : ∀ a c,padd (nmul P1 a) (nmul P2 c)=O2 -> n1 ∣ a /\ n2 ∣ c) {a c a' c' : Nat} (ha : a < n1) (ha' : a' < n1) (hc : c < n2) (hc' : c' < n2)
  (e : padd (nmul P1 a) (nmul P2 c)=padd (nmul P1 a') (nmul P2 c')) : a=a' /\ c=c':=by
 have h : padd (padd (nmul P1 a) (nmul P2 c)) (padd (nmul P1 (n1 - a)) (nmul P2 (n2 - c)))=O2:=by
  rw [add4 hb (nmul_on hb o1 _) (nmul_on hb o2 _) (nmul_on hb o1 _) (nmul_on hb o2 _),<- nmul_add hb o1,<- nmul_add hb o2,show a + (n1 - a)=n1 by omega,show c + (n2 - c)=n2 by omega,k1,k2,O_add]
 rw [e,add4 hb (nmul_on hb o1 _) (nmul_on hb o2 _) (nmul_on hb o1 _) (nmul_on hb o2 _),<- nmul_add hb o1,<- nmul_add hb o2] at h
 obtain ⟨⟨u,hu⟩,⟨v,hv⟩⟩:=ind _ _ h
 refine ⟨?_,?_⟩
 ·match u with
  | 0 => omega
  | 1 => omega
  | u + 2 => have : n1 * (u + 2)=n1 * u + n1 + n1:=by rw [Nat.mul_add]; omega
             omega
 ·match v with
  | 0 => omega
  | 1 => omega
  | v + 2 => have : n2 * (v + 2)=n2 * v + n2 + n2:=by rw [Nat.mul_add]; omega
             omega
def cQ (Q : F × F) (c : Nat) : F × F:=if c=0 then O2 else if c=1 then Q else pneg Q
omit k1 k2 o1 o2 hb in
theorem cQ_on {Q : F × F} (oQ : OnP b Q) (c : Nat) : OnP b (cQ Q c):=by
 unfold cQ
 split
 ·exact .inl rfl
 ·split
  ·exact oQ
  ·exact pneg_onP oQ
theorem gen_all (hodd : n1 * n2 % 2=1) (ind : ∀ a c,padd (nmul P1 a) (nmul P2 c)=O2 -> n1 ∣ a /\ n2 ∣ c) (no2 : ∀ P : F × F,OnP b P -> padd P P=O2 -> P=O2)
  (code : F × F -> Nat) (B : Nat) (hB : ∀ P,OnP b P -> code P < B) (hinj : ∀ P Q,OnP b P -> OnP b Q -> code P=code Q -> P=Q) (hsz : B < 3 * (n1 * n2)) {Q : F × F} (oQ : OnP b Q) : InH P1 P2 Q:=by
 refine Classical.byContradiction fun hQ => ?_
 have hN : 0 < n1 * n2:=by omega
 have hn2 : 0 < n2:=Nat.pos_of_ne_zero fun e => by rw [e] at hN; simp at hN
 have hH : ∀ t,InH P1 P2 (padd (nmul P1 (t / n2)) (nmul P2 (t % n2))):=fun t => ⟨_,_,rfl⟩
 have hneg : ∀ P,OnP b P -> InH P1 P2 (pneg P) -> InH P1 P2 P:=fun P _ h => by have:=inH_neg hb o1 o2 k1 k2 hN h; rwa [pneg_pneg] at this
 have h2Q : ¬ InH P1 P2 (padd Q Q):=fun h => hQ (inH_half hb o1 o2 k1 k2 hodd no2 oQ h)
 have key : ∀ c c',c < 3 -> c' < 3 -> c ≠ c' -> ∀ W,InH P1 P2 W -> cQ Q c=padd (cQ Q c') W -> False:=by
  intro c c' hc hc' hne W hW e
  have oW:=inH_on hb o1 o2 hW
  have oN:=pneg_onP oQ
  have hc : c=0 \/ c=1 \/ c=2:=by omega
  have hc' : c'=0 \/ c'=1 \/ c'=2:=by omega
  have e0 : cQ Q 0=O2:=rfl
  have e1 : cQ Q 1=Q:=rfl
  have e2 : cQ Q 2=pneg Q:=rfl
  rcases hc with rfl | rfl | rfl <;> rcases hc' with rfl | rfl | rfl
  ·exact hne rfl
  ·rw [e0,e1] at e
   have:=cancel hb oQ oW
   rw [<- e,add_O] at this
   exact hQ (hneg Q oQ (this ▸ hW))
  ·rw [e0,e2] at e
   have:=cancel hb oN oW
   rw [<- e,add_O,pneg_pneg] at this
   exact hQ (this ▸ hW)
  ·rw [e1,e0,O_add] at e
   exact hQ (e ▸ hW)
  ·exact hne rfl
  ·rw [e1,e2] at e
   have : padd Q Q=W:=by
    have:=cancel hb oN oW
    rw [<- e,pneg_pneg] at this
    exact this
   exact h2Q (this ▸ hW)
  ·rw [e2,e0,O_add] at e
   exact hQ (hneg Q oQ (e ▸ hW))
  ·rw [e2,e1] at e
   have : pneg (padd Q Q)=W:=by
    have:=cancel hb oQ oW
    rw [<- e] at this
    rw [<- this]
    exact pneg_add hb oQ oQ
   exact h2Q (hneg _ (padd_on hb oQ oQ) (this ▸ hW))
  ·exact hne rfl
 have:=pigeon B (3 * (n1 * n2)) (fun i => code (padd (cQ Q (i / (n1 * n2))) (padd (nmul P1 (i % (n1 * n2) / n2)) (nmul P2 (i % (n1 * n2) % n2))))) (fun i _ => hB _ (padd_on hb (cQ_on oQ _) (inH_on hb o1 o2 (hH _)))) (fun i j hi hj e => by
  have e:=hinj _ _ (padd_on hb (cQ_on oQ _) (inH_on hb o1 o2 (hH _))) (padd_on hb (cQ_on oQ _) (inH_on hb o1 o2 (hH _))) e
  obtain ⟨W,hW,eW,hz⟩:=inH_sub hb o1 o2 k1 k2 hN (cQ_on oQ _) (cQ_on oQ _) (hH _) (hH _) e
  have di : i / (n1 * n2) < 3:=Nat.div_lt_of_lt_mul (by rw [Nat.mul_comm]; exact hi)
  have dj : j / (n1 * n2) < 3:=Nat.div_lt_of_lt_mul (by rw [Nat.mul_comm]; exact hj)
  by_cases hc : i / (n1 * n2)=j / (n1 * n2)
  ·rw [hc] at eW
   have oc:=cQ_on oQ (j / (n1 * n2))
   have hW0 : W=O2:=by
    have:=cancel hb oc (inH_on hb o1 o2 hW)
    rw [<- eW,neg_add_self] at this
    exact this.symm
   have li : i % (n1 * n2) < n1 * n2:=Nat.mod_lt _ hN
   have lj : j % (n1 * n2) < n1 * n2:=Nat.mod_lt _ hN
   obtain ⟨ea,ec⟩:=inH_inj hb o1 o2 k1 k2 ind (Nat.div_lt_of_lt_mul (by rw [Nat.mul_comm n2]; exact li)) (Nat.div_lt_of_lt_mul (by rw [Nat.mul_comm n2]; exact lj)) (Nat.mod_lt _ hn2) (Nat.mod_lt _ hn2) (hz hW0)
   have f1:=Nat.div_add_mod (i % (n1 * n2)) n2
   have f2:=Nat.div_add_mod (j % (n1 * n2)) n2
   have f3:=Nat.div_add_mod i (n1 * n2)
   have f4:=Nat.div_add_mod j (n1 * n2)
   rw [ea,ec,f2] at f1
   rw [<- f1,hc] at f3
   omega
  ·exact (key _ _ di dj hc W hW eW).elim)
 omega
omit k1 k2 o1 o2 in
theorem no2_of (hx : ∀ x : F,x * x * x + b ≠ 0) (P : F × F) (oP : OnP b P) (h : padd P P=O2) : P=O2:=by
 rcases oP with rfl | oP
 ·rfl
 ·have:=cancel hb (.inr oP) (.inr oP)
  rw [h,add_O] at this
  have e : -P.2=P.2:=congrArg Prod.snd this
  have e0:=eq_neg_self e.symm
  have oP : P.2 * P.2=P.1 * P.1 * P.1 + b:=oP
  rw [e0,Rg.mul_zero] at oP
  exact absurd oP.symm (hx _)
omit k1 k2 in
theorem ind_all {k l l' : Nat} (hl : Prm l) (hl' : Prm l') (hll : Nat.Coprime l l') (hkl : Nat.Coprime k (l * l')) (k1 : nmul P1 (k * (l * l'))=O2) (k2 : nmul P2 (l * l')=O2)
  (hk : ∀ a,nmul P1 a=O2 -> k ∣ a)
  (v1 : nmul P2 l' ≠ O2) (j1 : ∀ j,j < l -> padd (nmul P1 (k * l')) (nmul (nmul P2 l') j) ≠ O2)
  (v2 : nmul P2 l ≠ O2) (j2 : ∀ j,j < l' -> padd (nmul P1 (k * l)) (nmul (nmul P2 l) j) ≠ O2) (a c : Nat) (h : padd (nmul P1 a) (nmul P2 c)=O2) : k * (l * l') ∣ a /\ l * l' ∣ c:=by
 have h1 : nmul (padd (nmul P1 a) (nmul P2 c)) (l * l')=O2:=by rw [h,nmul_O]
 rw [nmul_padd hb (nmul_on hb o1 _) (nmul_on hb o2 _),nmul_mul hb o1,nmul_mul hb o2,Nat.mul_comm c,<- nmul_mul hb o2,k2,nmul_O,add_O] at h1
 obtain ⟨a',rfl⟩ : k ∣ a:=hkl.dvd_of_dvd_mul_right (hk _ h1)
 have part : ∀ {l l' : Nat},Prm l -> nmul P1 (k * (l * l'))=O2 -> nmul P2 (l * l')=O2 -> nmul P2 l' ≠ O2 -> (∀ j,j < l -> padd (nmul P1 (k * l')) (nmul (nmul P2 l') j) ≠ O2) -> l ∣ a' /\ l ∣ c:=by
  intro l l' hl k1 k2 v1 j1
  have e : nmul (padd (nmul P1 (k * a')) (nmul P2 c)) l'=O2:=by rw [h,nmul_O]
  rw [nmul_padd hb (nmul_on hb o1 _) (nmul_on hb o2 _),nmul_mul hb o1,nmul_mul hb o2,show k * a' * l'=k * l' * a' by rw [Nat.mul_assoc,Nat.mul_comm a',Nat.mul_assoc],Nat.mul_comm c,<- nmul_mul hb o1,<- nmul_mul hb o2] at e
  exact ind2 hb (nmul_on hb o1 _) (nmul_on hb o2 _) hl (by rw [nmul_mul hb o1,Nat.mul_assoc,Nat.mul_comm l']; exact k1) (by rw [nmul_mul hb o2,Nat.mul_comm]; exact k2) v1 j1 e
 obtain ⟨d1,d2⟩:=part hl k1 k2 v1 j1
 obtain ⟨d3,d4⟩:=part hl' (by rw [Nat.mul_comm l']; exact k1) (by rw [Nat.mul_comm l']; exact k2) v2 j2
 exact ⟨Nat.mul_dvd_mul (Nat.dvd_refl k) (hll.mul_dvd_of_dvd_of_dvd d1 d3),hll.mul_dvd_of_dvd_of_dvd d2 d4⟩
end
end Cr
namespace Cr
theorem prm_1367711 : Prm 1367711:=trial (f:=11) (by decide) (by decide) (by kernel_rfl)
theorem prm_541 : Prm 541:=trial (f:=5) (by decide) (by decide) (by kernel_rfl)
theorem prm_12192593745179 : Prm 12192593745179:=by
 refine Classical.byContradiction fun hp => ?_
 obtain ⟨d,hd,hdn,hdd⟩:=small_prime (n:=12192593745179) (by decide) hp
 have h0 : 1367711 ∣ d - 1:=pock (k:=8914598) (a:=2) (f:=44) prm_1367711 (by kernel_rfl) (of_decide_eq_true (by kernel_rfl)) (by kernel_rfl) (by kernel_rfl) hd hdn
 have h1 : 541 ∣ d - 1:=pock (k:=22537141858) (a:=2) (f:=44) prm_541 (by kernel_rfl) (of_decide_eq_true (by kernel_rfl)) (by kernel_rfl) (by kernel_rfl) hd hdn
 have g1 : 1367711 * 541 ∣ d - 1:=Nat.Coprime.mul_dvd_of_dvd_of_dvd (show Nat.gcd 1367711 541=1 by kernel_rfl) h0 h1
 rw [show 1367711 * 541=739931651 by kernel_rfl] at g1
 exact pock_fin hd.1 g1 hdd (of_decide_eq_true (by kernel_rfl))
theorem prm_512088937297519 : Prm 512088937297519:=by
 refine Classical.byContradiction fun hp => ?_
 obtain ⟨d,hd,hdn,hdd⟩:=small_prime (n:=512088937297519) (by decide) hp
 have h0 : 12192593745179 ∣ d - 1:=pock (k:=42) (a:=2) (f:=49) prm_12192593745179 (by kernel_rfl) (of_decide_eq_true (by kernel_rfl)) (by kernel_rfl) (by kernel_rfl) hd hdn
 exact pock_fin hd.1 h0 hdd (of_decide_eq_true (by kernel_rfl))
theorem prm_1857858664515398933 : Prm 1857858664515398933:=by
 refine Classical.byContradiction fun hp => ?_
 obtain ⟨d,hd,hdn,hdd⟩:=small_prime (n:=1857858664515398933) (by decide) hp
 have h0 : 512088937297519 ∣ d - 1:=pock (k:=3628) (a:=2) (f:=61) prm_512088937297519 (by kernel_rfl) (of_decide_eq_true (by kernel_rfl)) (by kernel_rfl) (by kernel_rfl) hd hdn
 exact pock_fin hd.1 h0 hdd (of_decide_eq_true (by kernel_rfl))
theorem prm_22294303974184787197 : Prm 22294303974184787197:=by
 refine Classical.byContradiction fun hp => ?_
 obtain ⟨d,hd,hdn,hdd⟩:=small_prime (n:=22294303974184787197) (by decide) hp
 have h0 : 1857858664515398933 ∣ d - 1:=pock (k:=12) (a:=2) (f:=65) prm_1857858664515398933 (by kernel_rfl) (of_decide_eq_true (by kernel_rfl)) (by kernel_rfl) (by kernel_rfl) hd hdn
 exact pock_fin hd.1 h0 hdd (of_decide_eq_true (by kernel_rfl))
theorem prm_19931107752921199754119 : Prm 19931107752921199754119:=by
 refine Classical.byContradiction fun hp => ?_
 obtain ⟨d,hd,hdn,hdd⟩:=small_prime (n:=19931107752921199754119) (by decide) hp
 have h0 : 22294303974184787197 ∣ d - 1:=pock (k:=894) (a:=2) (f:=75) prm_22294303974184787197 (by kernel_rfl) (of_decide_eq_true (by kernel_rfl)) (by kernel_rfl) (by kernel_rfl) hd hdn
 exact pock_fin hd.1 h0 hdd (of_decide_eq_true (by kernel_rfl))
theorem prm_81162125843606155545104998607900118769099783 : Prm 81162125843606155545104998607900118769099783:=by
 refine Classical.byContradiction fun hp => ?_
 obtain ⟨d,hd,hdn,hdd⟩:=small_prime (n:=81162125843606155545104998607900118769099783) (by decide) hp
 have h0 : 19931107752921199754119 ∣ d - 1:=pock (k:=4072133212551150901578) (a:=2) (f:=146) prm_19931107752921199754119 (by kernel_rfl) (of_decide_eq_true (by kernel_rfl)) (by kernel_rfl) (by kernel_rfl) hd hdn
 exact pock_fin hd.1 h0 hdd (of_decide_eq_true (by kernel_rfl))
theorem prm_26935696298915610574513298451669528361624243820491956655650666425177 : Prm 26935696298915610574513298451669528361624243820491956655650666425177:=by
 refine Classical.byContradiction fun hp => ?_
 obtain ⟨d,hd,hdn,hdd⟩:=small_prime (n:=26935696298915610574513298451669528361624243820491956655650666425177) (by decide) hp
 have h0 : 81162125843606155545104998607900118769099783 ∣ d - 1:=pock (k:=331875194481953911837672) (a:=2) (f:=224) prm_81162125843606155545104998607900118769099783 (by kernel_rfl) (of_decide_eq_true (by kernel_rfl)) (by kernel_rfl) (by kernel_rfl) hd hdn
 exact pock_fin hd.1 h0 hdd (of_decide_eq_true (by kernel_rfl))
theorem prm_4638704574076146691498289350639807119782054683906549022985642612861209609656189848749536921852444848596916990932297 : Prm 4638704574076146691498289350639807119782054683906549022985642612861209609656189848749536921852444848596916990932297:=by
 refine Classical.byContradiction fun hp => ?_
 obtain ⟨d,hd,hdn,hdd⟩:=small_prime (n:=4638704574076146691498289350639807119782054683906549022985642612861209609656189848749536921852444848596916990932297) (by decide) hp
 have h0 : 26935696298915610574513298451669528361624243820491956655650666425177 ∣ d - 1:=pock (k:=172214021222941014338396330402661971150362189448) (a:=2) (f:=381) prm_26935696298915610574513298451669528361624243820491956655650666425177 (by kernel_rfl) (of_decide_eq_true (by kernel_rfl)) (by kernel_rfl) (by kernel_rfl) hd hdn
 exact pock_fin hd.1 h0 hdd (of_decide_eq_true (by kernel_rfl))
theorem prm_m : Prm 402096035359507321594726366720466575392706800671181159425656785868777272553337714697862511267018014931937703598282857976535744623203249:=by
 refine Classical.byContradiction fun hp => ?_
 obtain ⟨d,hd,hdn,hdd⟩:=small_prime (n:=402096035359507321594726366720466575392706800671181159425656785868777272553337714697862511267018014931937703598282857976535744623203249) (by decide) hp
 have h0 : 4638704574076146691498289350639807119782054683906549022985642612861209609656189848749536921852444848596916990932297 ∣ d - 1:=pock (k:=86682828996409959984) (a:=2) (f:=448) prm_4638704574076146691498289350639807119782054683906549022985642612861209609656189848749536921852444848596916990932297 (by kernel_rfl) (of_decide_eq_true (by kernel_rfl)) (by kernel_rfl) (by kernel_rfl) hd hdn
 exact pock_fin hd.1 h0 hdd (of_decide_eq_true (by kernel_rfl))
theorem prm_13 : Prm 13:=trial (f:=1) (by decide) (by decide) (by kernel_rfl)
theorem prm_23 : Prm 23:=trial (f:=2) (by decide) (by decide) (by kernel_rfl)
theorem prm_2713 : Prm 2713:=trial (f:=6) (by decide) (by decide) (by kernel_rfl)
theorem prm_11953 : Prm 11953:=trial (f:=7) (by decide) (by decide) (by kernel_rfl)
theorem prm_262069 : Prm 262069:=trial (f:=9) (by decide) (by decide) (by kernel_rfl)
end Cr
namespace Cr
open Rg Fd
structure Ev (F : Type) [Fd F] where
 V : Type
 φ : V -> F
 add : V -> V -> V
 sub : V -> V -> V
 mul : V -> V -> V
 isz : V -> Bool
 zero : V
 force : {α : Type} -> V -> (V -> α) -> α
 add_φ : ∀ a b,φ (add a b)=φ a + φ b
 sub_φ : ∀ a b,φ (sub a b)=φ a - φ b
 mul_φ : ∀ a b,φ (mul a b)=φ a * φ b
 isz_φ : ∀ a,isz a=true ↔ φ a=0
 zero_φ : φ zero=0
 force_eq : ∀ {α : Type} (a : V) (k : V -> α),force a k=k a
section
variable {F : Type} [Fd F] (E : Ev F)
abbrev Ev.J:=E.V × E.V × E.V
def Ev.φ3 (a : E.J) : Jc F:=(E.φ a.1,E.φ a.2.1,E.φ a.2.2)
def Ev.dbl (a : E.J) : E.J:=match E.isz a.2.2 with
 | true => (E.zero,E.zero,E.zero)
 | false =>
  E.force (E.mul a.1 a.1) fun xx => E.force (E.mul a.2.1 a.2.1) fun yy => E.force (E.add (E.add xx xx) xx) fun sl =>
  E.force (E.mul a.1 yy) fun m1 => E.force (E.add m1 m1) fun m2 => E.force (E.add m2 m2) fun mid =>
  E.force (E.add yy yy) fun y2 => E.force (E.mul y2 y2) fun fall =>
  E.force (E.sub (E.sub (E.mul sl sl) mid) mid) fun x =>
  E.force (E.sub (E.sub (E.mul sl (E.sub mid x)) fall) fall) fun y =>
  E.force (E.mul a.2.1 a.2.2) fun z1 => E.force (E.add z1 z1) fun z => (x,y,z)
theorem Ev.dbl_φ (a : E.J) : E.φ3 (E.dbl a)=jdbl (E.φ3 a):=by
 unfold Ev.dbl jdbl
 cases h : E.isz a.2.2 with
 | true =>
  have : (E.φ3 a).2.2=0:=(E.isz_φ _).1 h
  rw [if_pos this]
  show (E.φ E.zero,E.φ E.zero,E.φ E.zero)=_
  rw [E.zero_φ]
 | false =>
  have : (E.φ3 a).2.2 ≠ 0:=fun e => by have:=(E.isz_φ a.2.2).2 e; rw [h] at this; cases this
  rw [if_neg this]
  simp only [E.force_eq]
  simp only [Ev.φ3,jdbN,jdX,E.add_φ,E.sub_φ,E.mul_φ]
def Ev.jadd (a c : E.J) : E.J:=match E.isz a.2.2 with
 | true => c
 | false => match E.isz c.2.2 with
  | true => a
  | false =>
   E.force (E.mul a.2.2 a.2.2) fun aa => E.force (E.mul c.2.2 c.2.2) fun bb =>
   E.force (E.mul a.1 bb) fun left => E.force (E.mul c.1 aa) fun right =>
   E.force (E.mul (E.mul a.2.1 bb) c.2.2) fun low => E.force (E.mul (E.mul c.2.1 aa) a.2.2) fun high =>
   E.force (E.sub right left) fun wide => E.force (E.sub high low) fun rise =>
   match E.isz wide with
   | true => match E.isz rise with
    | true => E.dbl a
    | false => (E.zero,E.zero,E.zero)
   | false =>
    E.force (E.mul wide wide) fun sq => E.force (E.mul sq wide) fun cube => E.force (E.mul left sq) fun l2 =>
    E.force (E.sub (E.sub (E.sub (E.mul rise rise) cube) l2) l2) fun x =>
    E.force (E.sub (E.mul rise (E.sub l2 x)) (E.mul low cube)) fun y =>
    E.force (E.mul (E.mul a.2.2 c.2.2) wide) fun z => (x,y,z)
theorem Ev.jadd_φ (a c : E.J) : E.φ3 (E.jadd a c)=Cr.jadd (E.φ3 a) (E.φ3 c):=by
 have nz : ∀ v : E.V,E.isz v=false -> E.φ v ≠ 0:=fun v h e => by have:=(E.isz_φ v).2 e; rw [h] at this; cases this
 unfold Ev.jadd Cr.jadd
 cases h : E.isz a.2.2 with
 | true => rw [if_pos (show (E.φ3 a).2.2=0 from (E.isz_φ _).1 h)]
 | false =>
  rw [if_neg (show (E.φ3 a).2.2 ≠ 0 from nz _ h)]
  cases h2 : E.isz c.2.2 with
  | true => rw [if_pos (show (E.φ3 c).2.2=0 from (E.isz_φ _).1 h2)]
  | false =>
   rw [if_neg (show (E.φ3 c).2.2 ≠ 0 from nz _ h2)]
   simp only [E.force_eq]
   have ew : E.φ (E.sub (E.mul c.1 (E.mul a.2.2 a.2.2)) (E.mul a.1 (E.mul c.2.2 c.2.2)))=(E.φ3 c).1 * ((E.φ3 a).2.2 * (E.φ3 a).2.2) - (E.φ3 a).1 * ((E.φ3 c).2.2 * (E.φ3 c).2.2):=by simp only [Ev.φ3,E.sub_φ,E.mul_φ]
   have er : E.φ (E.sub (E.mul (E.mul c.2.1 (E.mul a.2.2 a.2.2)) a.2.2) (E.mul (E.mul a.2.1 (E.mul c.2.2 c.2.2)) c.2.2))=(E.φ3 c).2.1 * ((E.φ3 a).2.2 * (E.φ3 a).2.2) * (E.φ3 a).2.2 - (E.φ3 a).2.1 * ((E.φ3 c).2.2 * (E.φ3 c).2.2) * (E.φ3 c).2.2:=by simp only [Ev.φ3,E.sub_φ,E.mul_φ]
   cases h3 : E.isz (E.sub (E.mul c.1 (E.mul a.2.2 a.2.2)) (E.mul a.1 (E.mul c.2.2 c.2.2))) with
   | true =>
    have:=(E.isz_φ _).1 h3
    rw [ew] at this
    rw [if_pos this]
    cases h4 : E.isz (E.sub (E.mul (E.mul c.2.1 (E.mul a.2.2 a.2.2)) a.2.2) (E.mul (E.mul a.2.1 (E.mul c.2.2 c.2.2)) c.2.2)) with
    | true =>
     have:=(E.isz_φ _).1 h4
     rw [er] at this
     rw [if_pos this]
     exact E.dbl_φ a
    | false =>
     have:=nz _ h4
     rw [er] at this
     rw [if_neg this]
     show (E.φ E.zero,E.φ E.zero,E.φ E.zero)=_
     rw [E.zero_φ]
   | false =>
    have:=nz _ h3
    rw [ew] at this
    rw [if_neg this]
    simp only [Ev.φ3,jfin,jaX,E.sub_φ,E.mul_φ]
def Ev.mul2 (o : E.J) : Nat -> Nat -> E.J
 | 0,_ => (E.zero,E.zero,E.zero)
 | f + 1,n => match Nat.beq n 0 with
  | true => (E.zero,E.zero,E.zero)
  | false => match Nat.beq (n % 2) 1 with
   | true => E.jadd (E.dbl (Ev.mul2 o f (n / 2))) o
   | false => E.dbl (Ev.mul2 o f (n / 2))
variable {E} in
theorem Ev.mul2_rep {b : F} (hb : b ≠ 0) {o : E.J} {P : F × F} (ho : Rep b (E.φ3 o) P) : ∀ f n,n < 2 ^ f -> Rep b (E.φ3 (E.mul2 o f n)) (nmul P n):=by
 have h0 : Rep b (E.φ3 (E.zero,E.zero,E.zero)) (O2 : F × F):=.inl ⟨E.zero_φ,rfl⟩
 intro f
 induction f with
 | zero => intro n h; have : n=0:=by simp at h; exact h
           subst this; exact h0
 | succ f ih =>
  intro n h
  unfold Ev.mul2
  split
  ·rename_i hn; have:=Nat.eq_of_beq_eq_true hn; subst this; exact h0
  ·have hr:=ih (n / 2) (by rw [Nat.pow_succ] at h; omega)
   have hd:=rep_dbl hb hr
   rw [<- E.dbl_φ,<- nmul_add hb ho.on] at hd
   split
   ·rename_i h1
    have h1:=Nat.eq_of_beq_eq_true h1
    have ha:=rep_add hb hd ho
    rw [<- E.jadd_φ] at ha
    have e : n=n / 2 + n / 2 + 1:=by omega
    have : nmul P n=padd (nmul P (n / 2 + n / 2)) P:=by
     conv => lhs; rw [e]
     rfl
    rw [this]
    exact ha
   ·rename_i h1
    have h1 : n % 2 ≠ 1:=fun h2 => by rw [h2] at h1; exact absurd h1 (by decide)
    have e : n=n / 2 + n / 2:=by omega
    have : nmul P n=nmul P (n / 2 + n / 2):=by conv => lhs; rw [e]
    rw [this]
    exact hd
end
end Cr
namespace Cr
open Rg Fd
def fc {α : Type} (n : Nat) (k : Nat -> α) : α:=Nat.rec (k 0) (fun m _ => k (m + 1)) n
theorem fc_eq {α : Type} (n : Nat) (k : Nat -> α) : fc n k=k n:=by cases n <;> rfl
def pN : Nat:=4002409555221667393417789825735904156556882819939007885332058136124031650490837864442687629129015664037894272559787
theorem zm_nat (n : Nat) : (zm ((n % pN : Nat) : Int) : Fp)=zm (n : Int):=zm_eq (by rw [Int.natCast_emod]; exact Int.emod_emod_of_dvd _ (Int.dvd_refl _))
noncomputable def evP1 : Ev Fp where
 V:=Nat
 φ n:=zm (n : Int)
 add a b:=(a + b) % pN
 sub a b:=(a + (pN - b % pN)) % pN
 mul a b:=(a * b) % pN
 isz a:=Nat.beq (a % pN) 0
 zero:=0
 force:=fc
 add_φ a b:=by rw [zm_nat,zm_add,Int.natCast_add]
 sub_φ a b:=by
  rw [zm_nat,zm_sub]
  refine zm_eq ?_
  have h:=Nat.mod_lt b (show 0 < pN by decide)
  have e : ((a + (pN - b % pN) : Nat) : Int)=(a : Int) - b + (pN : Int) * (1 + (b : Int) / pN):=by
   have h2:=Int.emod_add_mul_ediv (b : Int) (pN : Int)
   rw [Int.mul_add,Int.mul_one]
   omega
  rw [e]
  exact Int.add_mul_emod_self_left _ _ _
 mul_φ a b:=by rw [zm_nat,zm_mul,Int.natCast_mul]
 isz_φ a:=by
  constructor
  ·intro h
   have h:=Nat.eq_of_beq_eq_true h
   rw [<- zm_nat,h]; rfl
  ·intro h
   have h : (zm (a : Int) : Fp).v=0:=by rw [h,zero_v]
   have h : (a : Int) % (pN : Int)=0:=h
   have : a % pN=0:=by omega
   rw [this]; rfl
 zero_φ:=rfl
 force_eq:=fc_eq
def gxN : Nat:=0x17f1d3a73197d7942695638c4fa9ac0fc3688c4f9774b905a14e3a3f171bac586c55e83ff97a1aeffb3af00adb22c6bb
def gyN : Nat:=0x08b3f481e3aaa0f1a09e30ed741d8ae4fcf5e095d5d00af600db18cb2c04b3edd03cc744a2888ae40caa232946c5e7e1
theorem ord_z : evP1.isz (evP1.mul2 (gxN,gyN,(1 : Nat)) 256 52435875175126190479447740508185965837690552500527637822603658699938581184513).2.2=true:=by kernel_rfl
end Cr
namespace Cr
open Rg Fd Go.Eng
abbrev F6:=F2 × F2 × F2
def xi : F2:=((1 : Fp),(1 : Fp))
theorem xi_mul (x : F2) : xi * x=(x.1 - x.2,x.1 + x.2):=by
 rw [F2.mul_def]
 show ((1 : Fp) * x.1 - 1 * x.2,1 * x.2 + 1 * x.1)=_
 rw [one_mul,one_mul,add_comm x.2]
theorem f6_c1 {F : Type} [Rg F] (a b c d e f x : F) : a * d + x * (b * f + c * e)=d * a + x * (e * c + f * b) :=
 rid [a,b,c,d,e,f,x] ((fun (a b c d e f x : PE) => (a * d + x * (b * f + c * e))) (.v 0) (.v 1) (.v 2) (.v 3) (.v 4) (.v 5) (.v 6)) ((fun (a b c d e f x : PE) => (d * a + x * (e * c + f * b))) (.v 0) (.v 1) (.v 2) (.v 3) (.v 4) (.v 5) (.v 6)) (by kernel_rfl)
theorem f6_c2 {F : Type} [Rg F] (a b c d e f x : F) : a * e + b * d + x * (c * f)=d * b + e * a + x * (f * c) :=
 rid [a,b,c,d,e,f,x] ((fun (a b c d e f x : PE) => (a * e + b * d + x * (c * f))) (.v 0) (.v 1) (.v 2) (.v 3) (.v 4) (.v 5) (.v 6)) ((fun (a b c d e f x : PE) => (d * b + e * a + x * (f * c))) (.v 0) (.v 1) (.v 2) (.v 3) (.v 4) (.v 5) (.v 6)) (by kernel_rfl)
theorem f6_c3 {F : Type} [Rg F] (a b c d e f x : F) : a * f + b * e + c * d=d * c + e * b + f * a :=
 rid [a,b,c,d,e,f,x] ((fun (a b c d e f x : PE) => (a * f + b * e + c * d)) (.v 0) (.v 1) (.v 2) (.v 3) (.v 4) (.v 5) (.v 6)) ((fun (a b c d e f x : PE) => (d * c + e * b + f * a)) (.v 0) (.v 1) (.v 2) (.v 3) (.v 4) (.v 5) (.v 6)) (by kernel_rfl)
theorem f6_s1 {F : Type} [Rg F] (a b c d e f g h k x : F) : (a * d + x * (b * f + c * e)) * g + x * ((a * e + b * d + x * (c * f)) * k + (a * f + b * e + c * d) * h)=a * (d * g + x * (e * k + f * h)) + x * (b * (d * k + e * h + f * g) + c * (d * h + e * g + x * (f * k))) :=
 rid [a,b,c,d,e,f,g,h,k,x] ((fun (a b c d e f g h k x : PE) => ((a * d + x * (b * f + c * e)) * g + x * ((a * e + b * d + x * (c * f)) * k + (a * f + b * e + c * d) * h))) (.v 0) (.v 1) (.v 2) (.v 3) (.v 4) (.v 5) (.v 6) (.v 7) (.v 8) (.v 9)) ((fun (a b c d e f g h k x : PE) => (a * (d * g + x * (e * k + f * h)) + x * (b * (d * k + e * h + f * g) + c * (d * h + e * g + x * (f * k))))) (.v 0) (.v 1) (.v 2) (.v 3) (.v 4) (.v 5) (.v 6) (.v 7) (.v 8) (.v 9)) (by kernel_rfl)
theorem f6_s2 {F : Type} [Rg F] (a b c d e f g h k x : F) : (a * d + x * (b * f + c * e)) * h + (a * e + b * d + x * (c * f)) * g + x * ((a * f + b * e + c * d) * k)=a * (d * h + e * g + x * (f * k)) + b * (d * g + x * (e * k + f * h)) + x * (c * (d * k + e * h + f * g)) :=
 rid [a,b,c,d,e,f,g,h,k,x] ((fun (a b c d e f g h k x : PE) => ((a * d + x * (b * f + c * e)) * h + (a * e + b * d + x * (c * f)) * g + x * ((a * f + b * e + c * d) * k))) (.v 0) (.v 1) (.v 2) (.v 3) (.v 4) (.v 5) (.v 6) (.v 7) (.v 8) (.v 9)) ((fun (a b c d e f g h k x : PE) => (a * (d * h + e * g + x * (f * k)) + b * (d * g + x * (e * k + f * h)) + x * (c * (d * k + e * h + f * g)))) (.v 0) (.v 1) (.v 2) (.v 3) (.v 4) (.v 5) (.v 6) (.v 7) (.v 8) (.v 9)) (by kernel_rfl)
theorem f6_s3 {F : Type} [Rg F] (a b c d e f g h k x : F) : (a * d + x * (b * f + c * e)) * k + (a * e + b * d + x * (c * f)) * h + (a * f + b * e + c * d) * g=a * (d * k + e * h + f * g) + b * (d * h + e * g + x * (f * k)) + c * (d * g + x * (e * k + f * h)) :=
 rid [a,b,c,d,e,f,g,h,k,x] ((fun (a b c d e f g h k x : PE) => ((a * d + x * (b * f + c * e)) * k + (a * e + b * d + x * (c * f)) * h + (a * f + b * e + c * d) * g)) (.v 0) (.v 1) (.v 2) (.v 3) (.v 4) (.v 5) (.v 6) (.v 7) (.v 8) (.v 9)) ((fun (a b c d e f g h k x : PE) => (a * (d * k + e * h + f * g) + b * (d * h + e * g + x * (f * k)) + c * (d * g + x * (e * k + f * h)))) (.v 0) (.v 1) (.v 2) (.v 3) (.v 4) (.v 5) (.v 6) (.v 7) (.v 8) (.v 9)) (by kernel_rfl)
theorem f6_o1 {F : Type} [Rg F] (a b c x : F) : 1 * a + x * (0 * c + 0 * b)=a :=
 rid [a,b,c,x] ((fun (a b c x : PE) => (1 * a + x * (0 * c + 0 * b))) (.v 0) (.v 1) (.v 2) (.v 3)) ((fun (a b c x : PE) => (a)) (.v 0) (.v 1) (.v 2) (.v 3)) (by kernel_rfl)
theorem f6_o2 {F : Type} [Rg F] (a b c x : F) : 1 * b + 0 * a + x * (0 * c)=b :=
 rid [a,b,c,x] ((fun (a b c x : PE) => (1 * b + 0 * a + x * (0 * c))) (.v 0) (.v 1) (.v 2) (.v 3)) ((fun (a b c x : PE) => (b)) (.v 0) (.v 1) (.v 2) (.v 3)) (by kernel_rfl)
theorem f6_o3 {F : Type} [Rg F] (a b c : F) : 1 * c + 0 * b + 0 * a=c :=
 rid [a,b,c] ((fun (a b c : PE) => (1 * c + 0 * b + 0 * a)) (.v 0) (.v 1) (.v 2)) ((fun (a b c : PE) => (c)) (.v 0) (.v 1) (.v 2)) (by kernel_rfl)
theorem f6_d1 {F : Type} [Rg F] (a b c d e f g h k x : F) : (a + d) * g + x * ((b + e) * k + (c + f) * h)=a * g + x * (b * k + c * h) + (d * g + x * (e * k + f * h)) :=
 rid [a,b,c,d,e,f,g,h,k,x] ((fun (a b c d e f g h k x : PE) => ((a + d) * g + x * ((b + e) * k + (c + f) * h))) (.v 0) (.v 1) (.v 2) (.v 3) (.v 4) (.v 5) (.v 6) (.v 7) (.v 8) (.v 9)) ((fun (a b c d e f g h k x : PE) => (a * g + x * (b * k + c * h) + (d * g + x * (e * k + f * h)))) (.v 0) (.v 1) (.v 2) (.v 3) (.v 4) (.v 5) (.v 6) (.v 7) (.v 8) (.v 9)) (by kernel_rfl)
theorem f6_d2 {F : Type} [Rg F] (a b c d e f g h k x : F) : (a + d) * h + (b + e) * g + x * ((c + f) * k)=a * h + b * g + x * (c * k) + (d * h + e * g + x * (f * k)) :=
 rid [a,b,c,d,e,f,g,h,k,x] ((fun (a b c d e f g h k x : PE) => ((a + d) * h + (b + e) * g + x * ((c + f) * k))) (.v 0) (.v 1) (.v 2) (.v 3) (.v 4) (.v 5) (.v 6) (.v 7) (.v 8) (.v 9)) ((fun (a b c d e f g h k x : PE) => (a * h + b * g + x * (c * k) + (d * h + e * g + x * (f * k)))) (.v 0) (.v 1) (.v 2) (.v 3) (.v 4) (.v 5) (.v 6) (.v 7) (.v 8) (.v 9)) (by kernel_rfl)
theorem f6_d3 {F : Type} [Rg F] (a b c d e f g h k : F) : (a + d) * k + (b + e) * h + (c + f) * g=a * k + b * h + c * g + (d * k + e * h + f * g) :=
 rid [a,b,c,d,e,f,g,h,k] ((fun (a b c d e f g h k : PE) => ((a + d) * k + (b + e) * h + (c + f) * g)) (.v 0) (.v 1) (.v 2) (.v 3) (.v 4) (.v 5) (.v 6) (.v 7) (.v 8)) ((fun (a b c d e f g h k : PE) => (a * k + b * h + c * g + (d * k + e * h + f * g))) (.v 0) (.v 1) (.v 2) (.v 3) (.v 4) (.v 5) (.v 6) (.v 7) (.v 8)) (by kernel_rfl)
section
variable {R : Type} [Rg R] (v : R)
noncomputable def cadd (x y : R × R × R) : R × R × R:=opq (x.1 + y.1,x.2.1 + y.2.1,x.2.2 + y.2.2)
noncomputable def csub (x y : R × R × R) : R × R × R:=opq (x.1 - y.1,x.2.1 - y.2.1,x.2.2 - y.2.2)
noncomputable def cneg (x : R × R × R) : R × R × R:=opq (-x.1,-x.2.1,-x.2.2)
noncomputable def cmul (x y : R × R × R) : R × R × R:=opq (x.1 * y.1 + v * (x.2.1 * y.2.2 + x.2.2 * y.2.1),x.1 * y.2.1 + x.2.1 * y.1 + v * (x.2.2 * y.2.2),x.1 * y.2.2 + x.2.1 * y.2.1 + x.2.2 * y.1)
theorem cadd_def (x y : R × R × R) : cadd x y=(x.1 + y.1,x.2.1 + y.2.1,x.2.2 + y.2.2):=opq_eq _
theorem csub_def (x y : R × R × R) : csub x y=(x.1 - y.1,x.2.1 - y.2.1,x.2.2 - y.2.2):=opq_eq _
theorem cneg_def (x : R × R × R) : cneg x=(-x.1,-x.2.1,-x.2.2):=opq_eq _
theorem cmul_def (x y : R × R × R) : cmul v x y=(x.1 * y.1 + v * (x.2.1 * y.2.2 + x.2.2 * y.2.1),x.1 * y.2.1 + x.2.1 * y.1 + v * (x.2.2 * y.2.2),x.1 * y.2.2 + x.2.1 * y.2.1 + x.2.2 * y.1):=opq_eq _
omit [Rg R] in
theorem cext {x y : R × R × R} (h1 : x.1=y.1) (h2 : x.2.1=y.2.1) (h3 : x.2.2=y.2.2) : x=y:=Prod.ext h1 (Prod.ext h2 h3)
theorem c_l1 (a b : R × R × R) : cadd a b=cadd b a:=by rw [cadd_def,cadd_def,add_comm,add_comm a.2.1,add_comm a.2.2]
theorem c_l2 (a b c : R × R × R) : cadd (cadd a b) c=cadd a (cadd b c):=by rw [cadd_def,cadd_def,cadd_def,cadd_def,add_assoc,add_assoc,add_assoc]
theorem c_l3 (a : R × R × R) : cadd (0,0,0) a=a:=by rw [cadd_def,zero_add,zero_add,zero_add]
theorem c_l4 (a : R × R × R) : cadd (cneg a) a=(0,0,0):=by rw [cadd_def,cneg_def,neg_add,neg_add,neg_add]
theorem c_l5 (a b : R × R × R) : csub a b=cadd a (cneg b):=by rw [cadd_def,cneg_def,csub_def,Rg.sub_def,Rg.sub_def,Rg.sub_def]
theorem c_l6 (a b : R × R × R) : cmul v a b=cmul v b a:=by rw [cmul_def,cmul_def]; exact cext (f6_c1 _ _ _ _ _ _ _) (f6_c2 _ _ _ _ _ _ _) (f6_c3 _ _ _ _ _ _ (0 : R))
theorem c_l7 (a b c : R × R × R) : cmul v (cmul v a b) c=cmul v a (cmul v b c):=by rw [cmul_def,cmul_def,cmul_def,cmul_def]; exact cext (f6_s1 _ _ _ _ _ _ _ _ _ _) (f6_s2 _ _ _ _ _ _ _ _ _ _) (f6_s3 _ _ _ _ _ _ _ _ _ _)
theorem c_l8 (a : R × R × R) : cmul v (1,0,0) a=a:=by rw [cmul_def]; exact cext (f6_o1 _ _ _ _) (f6_o2 _ _ _ _) (f6_o3 _ _ _)
theorem c_l9 (a b c : R × R × R) : cmul v (cadd a b) c=cadd (cmul v a c) (cmul v b c):=by rw [cadd_def,cmul_def,cmul_def,cmul_def,cadd_def]; exact cext (f6_d1 _ _ _ _ _ _ _ _ _ _) (f6_d2 _ _ _ _ _ _ _ _ _ _) (f6_d3 _ _ _ _ _ _ _ _ _)
end
noncomputable instance rgF6 : Rg F6 where
 zero:=(0,0,0)
 one:=(1,0,0)
 add:=cadd
 sub:=csub
 neg:=cneg
 mul:=cmul xi
 add_comm:=c_l1
 add_assoc:=c_l2
 zero_add:=c_l3
 neg_add:=c_l4
 sub_def:=c_l5
 mul_comm:=c_l6 xi
 mul_assoc:=c_l7 xi
 one_mul:=c_l8 xi
 add_mul:=c_l9 xi
theorem F6.ext {x y : F6} (h1 : x.1=y.1) (h2 : x.2.1=y.2.1) (h3 : x.2.2=y.2.2) : x=y:=Prod.ext h1 (Prod.ext h2 h3)
theorem F6.add_def (x y : F6) : x + y=(x.1 + y.1,x.2.1 + y.2.1,x.2.2 + y.2.2):=cadd_def x y
theorem F6.sub_def (x y : F6) : x - y=(x.1 - y.1,x.2.1 - y.2.1,x.2.2 - y.2.2):=csub_def x y
theorem F6.neg_def (x : F6) : -x=(-x.1,-x.2.1,-x.2.2):=cneg_def x
theorem F6.mul_def (x y : F6) : x * y=(x.1 * y.1 + xi * (x.2.1 * y.2.2 + x.2.2 * y.2.1),x.1 * y.2.1 + x.2.1 * y.1 + xi * (x.2.2 * y.2.2),x.1 * y.2.2 + x.2.1 * y.2.1 + x.2.2 * y.1):=cmul_def xi x y
theorem f2_nn {F : Type} [Rg F] (a b c d : F) : (a * c - b * d) * (a * c - b * d) + (a * d + b * c) * (a * d + b * c)=(a * a + b * b) * (c * c + d * d) :=
 rid [a,b,c,d] ((fun (a b c d : PE) => ((a * c - b * d) * (a * c - b * d) + (a * d + b * c) * (a * d + b * c))) (.v 0) (.v 1) (.v 2) (.v 3)) ((fun (a b c d : PE) => ((a * a + b * b) * (c * c + d * d))) (.v 0) (.v 1) (.v 2) (.v 3)) (by kernel_rfl)
noncomputable def nm2 (x : F2) : Fp:=x.1 * x.1 + x.2 * x.2
theorem nm2_mul (x y : F2) : nm2 (x * y)=nm2 x * nm2 y:=by
 unfold nm2
 rw [F2.mul1,F2.mul2]
 exact f2_nn _ _ _ _
theorem nm2_xi : nm2 xi=1 + 1:=by
 unfold nm2 xi
 show (1 : Fp) * 1 + 1 * 1=1 + 1
 rw [one_mul]
section
variable {M : Int} [Md M]
theorem zpow_add' (x : Zm M) (m n : Nat) : zpow x (m + n)=zpow x m * zpow x n:=by
 induction n with
 | zero => show zpow x m=zpow x m * 1; rw [mul_one]
 | succ n ih => show zpow x (m + n) * x=zpow x m * (zpow x n * x); rw [ih,mul_assoc]
theorem zpow_mul' (x : Zm M) (m n : Nat) : zpow x (m * n)=zpow (zpow x m) n:=by
 induction n with
 | zero => rfl
 | succ n ih => show zpow x (m * n + m)=zpow (zpow x m) n * zpow x m; rw [zpow_add',ih]
end
def fpP : Nat:=4002409555221667393417789825735904156556882819939007885332058136124031650490837864442687629129015664037894272559787
theorem fp_fermat {x : Fp} (hx : x ≠ 0) : zpow x (fpP - 1)=1:=by
 have h1:=zm_fermat Mp_nat prm_p hx (n:=fpP - 2) (of_decide_eq_true (by kernel_rfl))
 have h3 : zpow x (fpP - 1)=zpow x (fpP - 2 + 1):=congrArg (zpow x) (of_decide_eq_true (by kernel_rfl))
 have h4 : zpow x (fpP - 2 + 1)=zpow x (fpP - 2) * x:=rfl
 rw [h3,h4,mul_comm,h1]
def npm (m x : Nat) : Nat -> Nat -> Nat
 | 0,_ => 1
 | f + 1,n => match n with
  | 0 => 1
  | n + 1 => fc (npm m x f ((n + 1) / 2)) fun h => match (n + 1) % 2 with
   | 0 => h * h % m
   | _ => h * h % m * x % m
theorem npm_eq (m x : Nat) (hm : 1 < m) : ∀ f n,n < 2 ^ f -> npm m x f n=x ^ n % m
 | 0,n,h => by
  have : n=0:=by simpa using h
  subst this
  show 1=1 % m
  rw [Nat.mod_eq_of_lt hm]
 | f + 1,0,_ => by show 1=1 % m; rw [Nat.mod_eq_of_lt hm]
 | f + 1,n + 1,h => by
  have ih:=npm_eq m x hm f ((n + 1) / 2) (by rw [Nat.pow_succ] at h; omega)
  rw [npm,fc_eq,ih]
  have e : n + 1=(n + 1) / 2 + (n + 1) / 2 + (n + 1) % 2:=by omega
  have e2 : x ^ (n + 1)=x ^ ((n + 1) / 2) * x ^ ((n + 1) / 2) * x ^ ((n + 1) % 2):=by rw [<- Nat.pow_add,<- Nat.pow_add,<- e]
  rw [e2]
  rcases Nat.mod_two_eq_zero_or_one (n + 1) with h0 | h0
  ·rw [h0,Nat.pow_zero,Nat.mul_one,<- Nat.mul_mod]
   rfl
  ·rw [h0,Nat.pow_one]
   show x ^ ((n + 1) / 2) % m * (x ^ ((n + 1) / 2) % m) % m * x % m=_
   rw [<- Nat.mul_mod,Nat.mul_mod (_ % m) x,Nat.mod_mod,<- Nat.mul_mod]
theorem zpow_two_v (n : Nat) : (zpow (1 + 1 : Fp) n).v=((2 ^ n % fpP : Nat) : Int):=by
 rw [zpow_v]
 have : (1 + 1 : Fp).v=2:=by decide
 rw [this,Mp_nat,Int.natCast_emod,Int.natCast_pow]; rfl
theorem no_pow2 {s : Fp} {k : Nat} {q : Nat} (hq : q * k=fpP - 1) (h : zpow s k=1 + 1) : (2 : Nat) ^ q % fpP=1:=by
 have hs : zpow (1 + 1 : Fp) q=1:=by
  rw [<- h,<- zpow_mul',Nat.mul_comm,hq]
  refine fp_fermat ?_
  intro e
  subst e
  cases k with
  | zero => rw [Nat.mul_zero] at hq; exact absurd hq (by decide)
  | succ k =>
   have : zpow (0 : Fp) (k + 1)=zpow (0 : Fp) k * 0:=rfl
   rw [this,mul_zero] at h
   exact absurd h (by decide)
 have h2:=zpow_two_v q
 rw [hs] at h2
 have : (1 : Fp).v=1:=by decide
 rw [this] at h2
 omega
theorem two_sq : npm fpP 2 384 2001204777610833696708894912867952078278441409969503942666029068062015825245418932221343814564507832018947136279893=fpP - 1:=by kernel_rfl
theorem two_cube : Nat.beq (npm fpP 2 384 1334136518407222464472596608578634718852294273313002628444019378708010550163612621480895876376338554679298090853262) 1=false:=by kernel_rfl
theorem xi_sq {s : F2} (h : s * s=xi) : False:=by
 have e:=congrArg nm2 h
 rw [nm2_mul,nm2_xi] at e
 have k:=no_pow2 (s:=nm2 s) (k:=2) (q:=2001204777610833696708894912867952078278441409969503942666029068062015825245418932221343814564507832018947136279893) (of_decide_eq_true (by kernel_rfl)) (by
  show 1 * nm2 s * nm2 s=1 + 1
  rw [one_mul]; exact e)
 have t:=two_sq
 rw [npm_eq _ _ (by decide) 384 _ (of_decide_eq_true (by kernel_rfl)),k] at t
 exact absurd t (by decide)
theorem xi_cube {s : F2} (h : s * s * s=xi) : False:=by
 have e:=congrArg nm2 h
 rw [nm2_mul,nm2_mul,nm2_xi] at e
 have k:=no_pow2 (s:=nm2 s) (k:=3) (q:=1334136518407222464472596608578634718852294273313002628444019378708010550163612621480895876376338554679298090853262) (of_decide_eq_true (by kernel_rfl)) (by
  show 1 * nm2 s * nm2 s * nm2 s=1 + 1
  rw [one_mul]; exact e)
 have t:=two_cube
 rw [npm_eq _ _ (by decide) 384 _ (of_decide_eq_true (by kernel_rfl)),k] at t
 exact absurd t (by decide)
theorem n6_id {F : Type} [Rg F] (a b c x : F) : (a * (a * a - x * (b * c)) + x * (c * (x * (c * c) - a * b) + b * (b * b - a * c))) * (x * (c * c * c) - b * b * b)=(x * (c * c) - a * b) * (x * (c * c) - a * b) * (x * (c * c) - a * b) + x * ((c * a - b * b) * (c * a - b * b) * (c * a - b * b)) :=
 rid [a,b,c,x] ((fun (a b c x : PE) => ((a * (a * a - x * (b * c)) + x * (c * (x * (c * c) - a * b) + b * (b * b - a * c))) * (x * (c * c * c) - b * b * b))) (.v 0) (.v 1) (.v 2) (.v 3)) ((fun (a b c x : PE) => ((x * (c * c) - a * b) * (x * (c * c) - a * b) * (x * (c * c) - a * b) + x * ((c * a - b * b) * (c * a - b * b) * (c * a - b * b)))) (.v 0) (.v 1) (.v 2) (.v 3)) (by kernel_rfl)
theorem n6_c0 {F : Type} [Rg F] (a b x : F) : a * (a * a - x * (b * 0)) + x * (0 * (x * (0 * 0) - a * b) + b * (b * b - a * 0))=a * a * a + x * (b * b * b) :=
 rid [a,b,x] ((fun (a b x : PE) => (a * (a * a - x * (b * 0)) + x * (0 * (x * (0 * 0) - a * b) + b * (b * b - a * 0)))) (.v 0) (.v 1) (.v 2)) ((fun (a b x : PE) => (a * a * a + x * (b * b * b))) (.v 0) (.v 1) (.v 2)) (by kernel_rfl)
theorem n6_t {F : Type} [Rg F] (a j : F) : (- a * j) * (- a * j) * (- a * j)=-(a * a * a * (j * j * j)) :=
 rid [a,j] ((fun (a j : PE) => ((- a * j) * (- a * j) * (- a * j))) (.v 0) (.v 1)) ((fun (a j : PE) => (-(a * a * a * (j * j * j)))) (.v 0) (.v 1)) (by kernel_rfl)
theorem n6_q {F : Type} [Rg F] (x c j : F) : x * (c * c * c) * (j * j * j)=x * ((c * j) * (c * j) * (c * j)) :=
 rid [x,c,j] ((fun (x c j : PE) => (x * (c * c * c) * (j * j * j))) (.v 0) (.v 1) (.v 2)) ((fun (x c j : PE) => (x * ((c * j) * (c * j) * (c * j)))) (.v 0) (.v 1) (.v 2)) (by kernel_rfl)
theorem n6_p1 {F : Type} [Rg F] (b c a x : F) : b * b * b - c * c * c * x=(-b) * (c * a - b * b) + (-c) * (x * (c * c) - a * b) :=
 rid [b,c,a,x] ((fun (b c a x : PE) => (b * b * b - c * c * c * x)) (.v 0) (.v 1) (.v 2) (.v 3)) ((fun (b c a x : PE) => ((-b) * (c * a - b * b) + (-c) * (x * (c * c) - a * b))) (.v 0) (.v 1) (.v 2) (.v 3)) (by kernel_rfl)
theorem n6_p2 {F : Type} [Rg F] (b c j x : F) : b * j * (b * j) * (b * j) - x * ((c * j) * (c * j) * (c * j))=(j * j * j) * (b * b * b - c * c * c * x) :=
 rid [b,c,j,x] ((fun (b c j x : PE) => (b * j * (b * j) * (b * j) - x * ((c * j) * (c * j) * (c * j)))) (.v 0) (.v 1) (.v 2) (.v 3)) ((fun (b c j x : PE) => ((j * j * j) * (b * b * b - c * c * c * x))) (.v 0) (.v 1) (.v 2) (.v 3)) (by kernel_rfl)
theorem i6_1 {F : Type} [Rg F] (a b c x n : F) : a * ((a * a - x * (b * c)) * n) + x * (b * ((b * b - a * c) * n) + c * ((x * (c * c) - a * b) * n))=(a * (a * a - x * (b * c)) + x * (c * (x * (c * c) - a * b) + b * (b * b - a * c))) * n :=
 rid [a,b,c,x,n] ((fun (a b c x n : PE) => (a * ((a * a - x * (b * c)) * n) + x * (b * ((b * b - a * c) * n) + c * ((x * (c * c) - a * b) * n)))) (.v 0) (.v 1) (.v 2) (.v 3) (.v 4)) ((fun (a b c x n : PE) => ((a * (a * a - x * (b * c)) + x * (c * (x * (c * c) - a * b) + b * (b * b - a * c))) * n)) (.v 0) (.v 1) (.v 2) (.v 3) (.v 4)) (by kernel_rfl)
theorem i6_2 {F : Type} [Rg F] (a b c x n : F) : a * ((x * (c * c) - a * b) * n) + b * ((a * a - x * (b * c)) * n) + x * (c * ((b * b - a * c) * n))=0 :=
 rid [a,b,c,x,n] ((fun (a b c x n : PE) => (a * ((x * (c * c) - a * b) * n) + b * ((a * a - x * (b * c)) * n) + x * (c * ((b * b - a * c) * n)))) (.v 0) (.v 1) (.v 2) (.v 3) (.v 4)) ((fun (a b c x n : PE) => (0)) (.v 0) (.v 1) (.v 2) (.v 3) (.v 4)) (by kernel_rfl)
theorem i6_3 {F : Type} [Rg F] (a b c x n : F) : a * ((b * b - a * c) * n) + b * ((x * (c * c) - a * b) * n) + c * ((a * a - x * (b * c)) * n)=0 :=
 rid [a,b,c,x,n] ((fun (a b c x n : PE) => (a * ((b * b - a * c) * n) + b * ((x * (c * c) - a * b) * n) + c * ((a * a - x * (b * c)) * n))) (.v 0) (.v 1) (.v 2) (.v 3) (.v 4)) ((fun (a b c x n : PE) => (0)) (.v 0) (.v 1) (.v 2) (.v 3) (.v 4)) (by kernel_rfl)
theorem n6_sq {F : Type} [Rg F] (a b c x : F) : (a * a + x * (b * c + c * b)) * ((a * a + x * (b * c + c * b)) * (a * a + x * (b * c + c * b)) - x * ((a * b + b * a + x * (c * c)) * (a * c + b * b + c * a))) + x * ((a * c + b * b + c * a) * (x * ((a * c + b * b + c * a) * (a * c + b * b + c * a)) - (a * a + x * (b * c + c * b)) * (a * b + b * a + x * (c * c))) + (a * b + b * a + x * (c * c)) * ((a * b + b * a + x * (c * c)) * (a * b + b * a + x * (c * c)) - (a * a + x * (b * c + c * b)) * (a * c + b * b + c * a)))=(a * (a * a - x * (b * c)) + x * (c * (x * (c * c) - a * b) + b * (b * b - a * c))) * (a * (a * a - x * (b * c)) + x * (c * (x * (c * c) - a * b) + b * (b * b - a * c))) :=
 rid [a,b,c,x] ((fun (a b c x : PE) => ((a * a + x * (b * c + c * b)) * ((a * a + x * (b * c + c * b)) * (a * a + x * (b * c + c * b)) - x * ((a * b + b * a + x * (c * c)) * (a * c + b * b + c * a))) + x * ((a * c + b * b + c * a) * (x * ((a * c + b * b + c * a) * (a * c + b * b + c * a)) - (a * a + x * (b * c + c * b)) * (a * b + b * a + x * (c * c))) + (a * b + b * a + x * (c * c)) * ((a * b + b * a + x * (c * c)) * (a * b + b * a + x * (c * c)) - (a * a + x * (b * c + c * b)) * (a * c + b * b + c * a))))) (.v 0) (.v 1) (.v 2) (.v 3)) ((fun (a b c x : PE) => ((a * (a * a - x * (b * c)) + x * (c * (x * (c * c) - a * b) + b * (b * b - a * c))) * (a * (a * a - x * (b * c)) + x * (c * (x * (c * c) - a * b) + b * (b * b - a * c))))) (.v 0) (.v 1) (.v 2) (.v 3)) (by kernel_rfl)
theorem n6_vv {F : Type} [Rg F] (x : F) : 0 * (0 * 0 - x * (1 * 0)) + x * (0 * (x * (0 * 0) - 0 * 1) + 1 * (1 * 1 - 0 * 0))=x :=
 rid [x] ((fun (x : PE) => (0 * (0 * 0 - x * (1 * 0)) + x * (0 * (x * (0 * 0) - 0 * 1) + 1 * (1 * 1 - 0 * 0)))) (.v 0)) ((fun (x : PE) => (x)) (.v 0)) (by kernel_rfl)
section
variable {R : Type} [Fd R] (x : R)
theorem c_lin (hx : ∀ s : R,s * s * s=x -> False) {a c : R} (h : a * a * a + x * (c * c * c)=0) : a=0 /\ c=0:=by
 have hc : c=0:=by
  refine Classical.byContradiction fun hc => ?_
  have hi:=mul_inv c hc
  refine hx (-a * inv c) ?_
  have e : a * a * a=-(x * (c * c * c)):=by
   have:=neg_eq h
   rw [<- this,neg_neg]
  rw [n6_t,e,neg_mul,neg_neg]
  have : x * (c * c * c) * (inv c * inv c * inv c)=x * ((c * inv c) * (c * inv c) * (c * inv c)):=n6_q _ _ _
  rw [this,hi,one_mul,one_mul,mul_one]
 refine ⟨?_,hc⟩
 rw [hc,mul_zero,mul_zero,add_zero] at h
 rcases mul_eq_zero h with h | h
 ·rcases mul_eq_zero h with h | h <;> exact h
 ·exact h
def cadj (t : R × R × R) : R × R × R:=(t.1 * t.1 - x * (t.2.1 * t.2.2),x * (t.2.2 * t.2.2) - t.1 * t.2.1,t.2.1 * t.2.1 - t.1 * t.2.2)
def cnm (t : R × R × R) : R:=t.1 * (t.1 * t.1 - x * (t.2.1 * t.2.2)) + x * (t.2.2 * (x * (t.2.2 * t.2.2) - t.1 * t.2.1) + t.2.1 * (t.2.1 * t.2.1 - t.1 * t.2.2))
theorem cnm_ne (hx : ∀ s : R,s * s * s=x -> False) {t : R × R × R} (h : t ≠ (0,0,0)) : cnm x t ≠ 0:=by
 intro e
 unfold cnm at e
 by_cases hc : t.2.2=0
 ·rw [hc,n6_c0] at e
  obtain ⟨h1,h2⟩:=c_lin x hx e
  exact h (cext h1 h2 hc)
 ·have k:=n6_id t.1 t.2.1 t.2.2 x
  rw [e,zero_mul] at k
  obtain ⟨h1,h2⟩:=c_lin x hx k.symm
  have hi:=mul_inv _ hc
  refine hx (t.2.1 * inv t.2.2) (eq_of_sub ?_)
  have p:=n6_p1 t.2.1 t.2.2 t.1 x
  rw [h1,h2,mul_zero,mul_zero,add_zero] at p
  have q:=n6_p2 t.2.1 t.2.2 (inv t.2.2) x
  rw [p,mul_zero,hi,one_mul,one_mul,mul_one] at q
  exact q
noncomputable def cinv (t : R × R × R) : R × R × R:=opq ((cadj x t).1 * inv (cnm x t),(cadj x t).2.1 * inv (cnm x t),(cadj x t).2.2 * inv (cnm x t))
theorem cinv_def (t : R × R × R) : cinv x t=((cadj x t).1 * inv (cnm x t),(cadj x t).2.1 * inv (cnm x t),(cadj x t).2.2 * inv (cnm x t)):=opq_eq _
theorem cinv_mul (hx : ∀ s : R,s * s * s=x -> False) {t : R × R × R} (h : t ≠ (0,0,0)) : cmul x t (cinv x t)=(1,0,0):=by
 have hn:=mul_inv _ (cnm_ne x hx h)
 rw [cmul_def,cinv_def]
 exact cext ((i6_1 _ _ _ _ _).trans hn) (i6_2 _ _ _ _ _) (i6_3 _ _ _ _ _)
theorem cnm_sq (t : R × R × R) : cnm x (cmul x t t)=cnm x t * cnm x t:=by
 rw [cmul_def]
 exact n6_sq t.1 t.2.1 t.2.2 x
theorem cnm_v : cnm x ((0 : R),(1 : R),(0 : R))=x:=n6_vv x
end
noncomputable abbrev nm6 (t : F6) : F2:=cnm xi t
noncomputable abbrev inv6 (t : F6) : F6:=cinv xi t
noncomputable instance fdF6 : Fd F6 where
 deq:=inferInstanceAs (DecidableEq (F2 × F2 × F2))
 inv:=inv6
 mul_inv _ h:=cinv_mul xi (fun _ e => xi_cube e) h
 one_ne:=fun h => absurd (congrArg Prod.fst h) one_ne
 two_ne:=fun h => absurd (congrArg Prod.fst h) (by rw [F6.add_def]; exact two_ne)
 three_ne:=fun h => absurd (congrArg Prod.fst h) (by rw [F6.add_def,F6.add_def]; exact three_ne)
end Cr
namespace Cr
open Rg
section
variable {F : Type} [Rg F]
def pwn (x : F) : Nat -> F
 | 0 => 1
 | n + 1 => pwn x n * x
theorem pwn_add (x : F) (m n : Nat) : pwn x (m + n)=pwn x m * pwn x n:=by
 induction n with
 | zero => show pwn x m=pwn x m * 1; rw [mul_one]
 | succ n ih => show pwn x (m + n) * x=pwn x m * (pwn x n * x); rw [ih,mul_assoc]
theorem pwn_mul (x : F) (m n : Nat) : pwn x (m * n)=pwn (pwn x m) n:=by
 induction n with
 | zero => rfl
 | succ n ih => show pwn x (m * n + m)=pwn (pwn x m) n * pwn x m; rw [pwn_add,ih]
theorem pwn_prod (x y : F) (n : Nat) : pwn (x * y) n=pwn x n * pwn y n:=by
 induction n with
 | zero => show (1 : F)=1 * 1; rw [one_mul]
 | succ n ih =>
  show pwn (x * y) n * (x * y)=pwn x n * x * (pwn y n * y)
  rw [ih,mul_assoc,mul_assoc,<- mul_assoc (pwn y n),mul_comm (pwn y n),mul_assoc x]
theorem pwn_one (n : Nat) : pwn (1 : F) n=1:=by
 induction n with
 | zero => rfl
 | succ n ih => show pwn (1 : F) n * 1=1; rw [ih,mul_one]
def sumN (f : Nat -> F) : Nat -> F
 | 0 => 0
 | n + 1 => sumN f n + f n
theorem sumN_congr {f g : Nat -> F} : ∀ n,(∀ k,k < n -> f k=g k) -> sumN f n=sumN g n
 | 0,_ => rfl
 | n + 1,h => by show sumN f n + f n=sumN g n + g n; rw [sumN_congr n (fun k hk => h k (by omega)),h n (by omega)]
theorem sumN_add (f g : Nat -> F) : ∀ n,sumN (fun k => f k + g k) n=sumN f n + sumN g n
 | 0 => by show (0 : F)=0 + 0; rw [zero_add]
 | n + 1 => by show sumN _ n + (f n + g n)=sumN f n + f n + (sumN g n + g n); rw [sumN_add f g n,add_add_add]
theorem sumN_mul (f : Nat -> F) (c : F) : ∀ n,sumN f n * c=sumN (fun k => f k * c) n
 | 0 => zero_mul c
 | n + 1 => by show (sumN f n + f n) * c=_ + f n * c; rw [add_mul,sumN_mul f c n]
theorem sumN_shift (f : Nat -> F) : ∀ n,sumN f (n + 1)=f 0 + sumN (fun k => f (k + 1)) n
 | 0 => by show 0 + f 0=f 0 + 0; rw [zero_add,add_zero]
 | n + 1 => by show sumN f (n + 1) + f (n + 1)=f 0 + (sumN _ n + f (n + 1)); rw [sumN_shift f n,add_assoc]
theorem sumN_zero {f : Nat -> F} : ∀ n,(∀ k,k < n -> f k=0) -> sumN f n=0
 | 0,_ => rfl
 | n + 1,h => by show sumN f n + f n=0; rw [sumN_zero n (fun k hk => h k (by omega)),h n (by omega),zero_add]
def bc : Nat -> Nat -> Nat
 | _,0 => 1
 | 0,_ + 1 => 0
 | n + 1,k + 1 => bc n k + bc n (k + 1)
theorem bc_big : ∀ n k,n < k -> bc n k=0
 | 0,k + 1,_ => rfl
 | n + 1,k + 1,h => by show bc n k + bc n (k + 1)=0; rw [bc_big n k (by omega),bc_big n (k + 1) (by omega)]
theorem bc_self : ∀ n,bc n n=1
 | 0 => rfl
 | n + 1 => by show bc n n + bc n (n + 1)=1; rw [bc_self n,bc_big n (n + 1) (by omega)]
theorem bc_zero (n : Nat) : bc n 0=1:=by cases n <;> rfl
theorem bc_abs : ∀ n k,(k + 1) * bc (n + 1) (k + 1)=(n + 1) * bc n k
 | 0,0 => rfl
 | 0,k + 1 => by show (k + 2) * (bc 0 (k + 1) + bc 0 (k + 2))=_; rfl
 | n + 1,0 => by
  have h:=bc_abs n 0
  show 1 * (bc (n + 1) 0 + bc (n + 1) 1)=(n + 2) * bc (n + 1) 0
  rw [bc_zero] at h ⊢
  have h : 1 * bc (n + 1) 1=(n + 1) * 1:=h
  omega
 | n + 1,k + 1 => by
  have h1:=bc_abs n k
  have h2:=bc_abs n (k + 1)
  show (k + 2) * (bc (n + 1) (k + 1) + bc (n + 1) (k + 2))=(n + 2) * bc (n + 1) (k + 1)
  have h3 : bc (n + 1) (k + 1)=bc n k + bc n (k + 1):=rfl
  have e1 : (k + 2) * (bc (n + 1) (k + 1) + bc (n + 1) (k + 2))=(k + 1) * bc (n + 1) (k + 1) + bc (n + 1) (k + 1) + (k + 2) * bc (n + 1) (k + 2):=by
   rw [Nat.mul_add,show (k + 2) * bc (n + 1) (k + 1)=(k + 1) * bc (n + 1) (k + 1) + bc (n + 1) (k + 1) by rw [<- Nat.succ_mul]]
  have e2 : (n + 2) * bc (n + 1) (k + 1)=(n + 1) * bc n k + (n + 1) * bc n (k + 1) + bc (n + 1) (k + 1):=by
   rw [show (n + 2) * bc (n + 1) (k + 1)=(n + 1) * bc (n + 1) (k + 1) + bc (n + 1) (k + 1) by rw [<- Nat.succ_mul],h3,Nat.mul_add]
  rw [e1,e2,h1,h2]
  omega
theorem pwn_binom (x y : F) : ∀ n,pwn (x + y) n=sumN (fun k => nc (bc n k) * (pwn x k * pwn y (n - k))) (n + 1)
 | 0 => by
  show (1 : F)=0 + nc 1 * (1 * 1)
  have : (nc 1 : F)=1:=by show (0 : F) + 1=1; rw [zero_add]
  rw [this,one_mul,one_mul,zero_add]
 | n + 1 => by
  have ih:=pwn_binom x y n
  show pwn (x + y) n * (x + y)=_
  rw [mul_add,ih,sumN_mul,sumN_mul,sumN_shift _ (n + 1)]
  have a0 : nc (bc (n + 1) 0) * (pwn x 0 * pwn y (n + 1 - 0))=pwn y (n + 1):=by
   have : (nc 1 : F)=1:=by show (0 : F) + 1=1; rw [zero_add]
   rw [bc_zero,this,one_mul]
   show 1 * pwn y (n + 1)=_
   rw [one_mul]
  have a1 : sumN (fun k => nc (bc (n + 1) (k + 1)) * (pwn x (k + 1) * pwn y (n + 1 - (k + 1)))) (n + 1) =
    sumN (fun k => nc (bc n k) * (pwn x (k + 1) * pwn y (n - k))) (n + 1) + sumN (fun k => nc (bc n (k + 1)) * (pwn x (k + 1) * pwn y (n - k))) (n + 1):=by
   rw [<- sumN_add]
   refine sumN_congr _ fun k _ => ?_
   show nc (bc n k + bc n (k + 1)) * _=_
   rw [nc_add,add_mul,Nat.add_sub_add_right]
  have a2 : sumN (fun k => nc (bc n k) * (pwn x k * pwn y (n - k)) * x) (n + 1)=sumN (fun k => nc (bc n k) * (pwn x (k + 1) * pwn y (n - k))) (n + 1):=by
   refine sumN_congr _ fun k _ => ?_
   show nc (bc n k) * (pwn x k * pwn y (n - k)) * x=nc (bc n k) * (pwn x k * x * pwn y (n - k))
   rw [mul_assoc,mul_assoc,mul_assoc,mul_comm (pwn y (n - k)) x]
  have a3 : sumN (fun k => nc (bc n k) * (pwn x k * pwn y (n - k)) * y) (n + 1)=pwn y (n + 1) + sumN (fun k => nc (bc n (k + 1)) * (pwn x (k + 1) * pwn y (n - k))) (n + 1):=by
   rw [sumN_shift]
   have b0 : nc (bc n 0) * (pwn x 0 * pwn y (n - 0)) * y=pwn y (n + 1):=by
    have : (nc 1 : F)=1:=by show (0 : F) + 1=1; rw [zero_add]
    rw [bc_zero,this,one_mul]
    show 1 * pwn y n * y=pwn y n * y
    rw [one_mul]
   have b1 : sumN (fun k => nc (bc n (k + 1)) * (pwn x (k + 1) * pwn y (n - k))) (n + 1)=sumN (fun k => nc (bc n (k + 1)) * (pwn x (k + 1) * pwn y (n - k))) n:=by
    show _ + nc (bc n (n + 1)) * _=_
    rw [bc_big n (n + 1) (by omega)]
    show _ + (0 : F) * _=_
    rw [zero_mul,add_zero]
   rw [b0,b1]
   congr 1
   refine sumN_congr _ fun k hk => ?_
   have e : n - k=n - (k + 1) + 1:=by omega
   rw [e]
   show nc _ * (_ * _) * y=nc _ * (_ * (pwn y (n - (k + 1)) * y))
   rw [mul_assoc,mul_assoc]
  rw [a0,a1,a2,a3]
  generalize sumN (fun k => nc (bc n k) * (pwn x (k + 1) * pwn y (n - k))) (n + 1)=A
  generalize sumN (fun k => nc (bc n (k + 1)) * (pwn x (k + 1) * pwn y (n - k))) (n + 1)=B
  rw [<- add_assoc,<- add_assoc,add_comm A]
theorem bc_dvd {p : Nat} (hp : Prm p) {k : Nat} (h0 : 0 < k) (h1 : k < p) : p ∣ bc p k:=by
 obtain ⟨k,rfl⟩ : ∃ j,k=j + 1:=⟨k - 1,by omega⟩
 obtain ⟨n,rfl⟩ : ∃ m,p=m + 1:=⟨p - 1,by omega⟩
 have h:=bc_abs n k
 have hd : (n + 1) ∣ (k + 1) * bc (n + 1) (k + 1):=⟨_,h⟩
 rcases hp.dvd_mul hd with h2 | h2
 ·exact absurd (Nat.le_of_dvd (by omega) h2) (by omega)
 ·exact h2
theorem pwn_sum {p : Nat} (hp : Prm p) (h0 : (nc p : F)=0) (x y : F) : pwn (x + y) p=pwn x p + pwn y p:=by
 have hp1 : 1 < p:=hp.1
 obtain ⟨n,rfl⟩ : ∃ m,p=m + 1:=⟨p - 1,by omega⟩
 have n1 : (nc 1 : F)=1:=by show (0 : F) + 1=1; rw [zero_add]
 rw [pwn_binom,sumN_shift]
 show _ + (sumN _ n + _)=_
 have e1 : sumN (fun k => nc (bc (n + 1) (k + 1)) * (pwn x (k + 1) * pwn y (n + 1 - (k + 1)))) n=0:=by
  refine sumN_zero _ fun k hk => ?_
  obtain ⟨c,hc⟩:=bc_dvd hp (show 0 < k + 1 by omega) (show k + 1 < n + 1 by omega)
  show nc (bc (n + 1) (k + 1)) * _=0
  rw [hc,nc_mul,h0,zero_mul,zero_mul]
 rw [e1]
 show nc (bc (n + 1) 0) * (pwn x 0 * pwn y (n + 1 - 0)) + (0 + nc (bc (n + 1) (n + 1)) * (pwn x (n + 1) * pwn y (n + 1 - (n + 1))))=_
 rw [zero_add,bc_zero,bc_self,n1,one_mul,one_mul,Nat.sub_self,Nat.sub_zero]
 show 1 * pwn y (n + 1) + pwn x (n + 1) * 1=_
 rw [one_mul,mul_one,add_comm]
end
end Cr
namespace Cr
open Rg Fd Go.Eng
abbrev F12:=F6 × F6
def vv : F6:=((0 : F2),(1 : F2),(0 : F2))
theorem vv_1 {F : Type} [Rg F] (a b c x : F) : 0 * a + x * (1 * c + 0 * b)=x * c :=
 rid [a,b,c,x] ((fun (a b c x : PE) => (0 * a + x * (1 * c + 0 * b))) (.v 0) (.v 1) (.v 2) (.v 3)) ((fun (a b c x : PE) => (x * c)) (.v 0) (.v 1) (.v 2) (.v 3)) (by kernel_rfl)
theorem vv_2 {F : Type} [Rg F] (a b c x : F) : 0 * b + 1 * a + x * (0 * c)=a :=
 rid [a,b,c,x] ((fun (a b c x : PE) => (0 * b + 1 * a + x * (0 * c))) (.v 0) (.v 1) (.v 2) (.v 3)) ((fun (a b c x : PE) => (a)) (.v 0) (.v 1) (.v 2) (.v 3)) (by kernel_rfl)
theorem vv_3 {F : Type} [Rg F] (a b c : F) : 0 * c + 1 * b + 0 * a=b :=
 rid [a,b,c] ((fun (a b c : PE) => (0 * c + 1 * b + 0 * a)) (.v 0) (.v 1) (.v 2)) ((fun (a b c : PE) => (b)) (.v 0) (.v 1) (.v 2)) (by kernel_rfl)
section
variable {R : Type} [Rg R] (v : R)
theorem cv_mul (x : R × R × R) : cmul v (0,1,0) x=(v * x.2.2,x.1,x.2.1):=by rw [cmul_def]; exact cext (vv_1 _ _ _ _) (vv_2 _ _ _ _) (vv_3 _ _ _)
end
theorem vv_mul (x : F6) : vv * x=(xi * x.2.2,x.1,x.2.1):=cv_mul xi x
theorem q_co1 {F : Type} [Rg F] (a b c d v : F) : a * c + v * (b * d)=c * a + v * (d * b) :=
 rid [a,b,c,d,v] ((fun (a b c d v : PE) => (a * c + v * (b * d))) (.v 0) (.v 1) (.v 2) (.v 3) (.v 4)) ((fun (a b c d v : PE) => (c * a + v * (d * b))) (.v 0) (.v 1) (.v 2) (.v 3) (.v 4)) (by kernel_rfl)
theorem q_co2 {F : Type} [Rg F] (a b c d : F) : a * d + b * c=c * b + d * a :=
 rid [a,b,c,d] ((fun (a b c d : PE) => (a * d + b * c)) (.v 0) (.v 1) (.v 2) (.v 3)) ((fun (a b c d : PE) => (c * b + d * a)) (.v 0) (.v 1) (.v 2) (.v 3)) (by kernel_rfl)
theorem q_as1 {F : Type} [Rg F] (a b c d e f v : F) : (a * c + v * (b * d)) * e + v * ((a * d + b * c) * f)=a * (c * e + v * (d * f)) + v * (b * (c * f + d * e)) :=
 rid [a,b,c,d,e,f,v] ((fun (a b c d e f v : PE) => ((a * c + v * (b * d)) * e + v * ((a * d + b * c) * f))) (.v 0) (.v 1) (.v 2) (.v 3) (.v 4) (.v 5) (.v 6)) ((fun (a b c d e f v : PE) => (a * (c * e + v * (d * f)) + v * (b * (c * f + d * e)))) (.v 0) (.v 1) (.v 2) (.v 3) (.v 4) (.v 5) (.v 6)) (by kernel_rfl)
theorem q_as2 {F : Type} [Rg F] (a b c d e f v : F) : (a * c + v * (b * d)) * f + (a * d + b * c) * e=a * (c * f + d * e) + b * (c * e + v * (d * f)) :=
 rid [a,b,c,d,e,f,v] ((fun (a b c d e f v : PE) => ((a * c + v * (b * d)) * f + (a * d + b * c) * e)) (.v 0) (.v 1) (.v 2) (.v 3) (.v 4) (.v 5) (.v 6)) ((fun (a b c d e f v : PE) => (a * (c * f + d * e) + b * (c * e + v * (d * f)))) (.v 0) (.v 1) (.v 2) (.v 3) (.v 4) (.v 5) (.v 6)) (by kernel_rfl)
theorem q_o1 {F : Type} [Rg F] (a b v : F) : 1 * a + v * (0 * b)=a :=
 rid [a,b,v] ((fun (a b v : PE) => (1 * a + v * (0 * b))) (.v 0) (.v 1) (.v 2)) ((fun (a b v : PE) => (a)) (.v 0) (.v 1) (.v 2)) (by kernel_rfl)
theorem q_o2 {F : Type} [Rg F] (a b : F) : 1 * b + 0 * a=b :=
 rid [a,b] ((fun (a b : PE) => (1 * b + 0 * a)) (.v 0) (.v 1)) ((fun (a b : PE) => (b)) (.v 0) (.v 1)) (by kernel_rfl)
theorem q_d1 {F : Type} [Rg F] (a b c d e f v : F) : (a + c) * e + v * ((b + d) * f)=a * e + v * (b * f) + (c * e + v * (d * f)) :=
 rid [a,b,c,d,e,f,v] ((fun (a b c d e f v : PE) => ((a + c) * e + v * ((b + d) * f))) (.v 0) (.v 1) (.v 2) (.v 3) (.v 4) (.v 5) (.v 6)) ((fun (a b c d e f v : PE) => (a * e + v * (b * f) + (c * e + v * (d * f)))) (.v 0) (.v 1) (.v 2) (.v 3) (.v 4) (.v 5) (.v 6)) (by kernel_rfl)
theorem q_d2 {F : Type} [Rg F] (a b c d e f : F) : (a + c) * f + (b + d) * e=a * f + b * e + (c * f + d * e) :=
 rid [a,b,c,d,e,f] ((fun (a b c d e f : PE) => ((a + c) * f + (b + d) * e)) (.v 0) (.v 1) (.v 2) (.v 3) (.v 4) (.v 5)) ((fun (a b c d e f : PE) => (a * f + b * e + (c * f + d * e))) (.v 0) (.v 1) (.v 2) (.v 3) (.v 4) (.v 5)) (by kernel_rfl)
section
variable {R : Type} [Rg R] (v : R)
noncomputable def qadd (x y : R × R) : R × R:=opq (x.1 + y.1,x.2 + y.2)
noncomputable def qsub (x y : R × R) : R × R:=opq (x.1 - y.1,x.2 - y.2)
noncomputable def qneg (x : R × R) : R × R:=opq (-x.1,-x.2)
noncomputable def qmul (x y : R × R) : R × R:=opq (x.1 * y.1 + v * (x.2 * y.2),x.1 * y.2 + x.2 * y.1)
theorem qadd_def (x y : R × R) : qadd x y=(x.1 + y.1,x.2 + y.2):=opq_eq _
theorem qsub_def (x y : R × R) : qsub x y=(x.1 - y.1,x.2 - y.2):=opq_eq _
theorem qneg_def (x : R × R) : qneg x=(-x.1,-x.2):=opq_eq _
theorem qmul_def (x y : R × R) : qmul v x y=(x.1 * y.1 + v * (x.2 * y.2),x.1 * y.2 + x.2 * y.1):=opq_eq _
theorem q_l1 (a b : R × R) : qadd a b=qadd b a:=by rw [qadd_def,qadd_def,add_comm,add_comm a.2]
theorem q_l2 (a b c : R × R) : qadd (qadd a b) c=qadd a (qadd b c):=by rw [qadd_def,qadd_def,qadd_def,qadd_def,add_assoc,add_assoc]
theorem q_l3 (a : R × R) : qadd (0,0) a=a:=by rw [qadd_def,zero_add,zero_add]
theorem q_l4 (a : R × R) : qadd (qneg a) a=(0,0):=by rw [qadd_def,qneg_def,neg_add,neg_add]
theorem q_l5 (a b : R × R) : qsub a b=qadd a (qneg b):=by rw [qadd_def,qneg_def,qsub_def,Rg.sub_def,Rg.sub_def]
theorem q_l6 (a b : R × R) : qmul v a b=qmul v b a:=by rw [qmul_def,qmul_def]; exact Prod.ext (q_co1 a.1 a.2 b.1 b.2 v) (q_co2 a.1 a.2 b.1 b.2)
theorem q_l7 (a b c : R × R) : qmul v (qmul v a b) c=qmul v a (qmul v b c):=by rw [qmul_def,qmul_def,qmul_def,qmul_def]; exact Prod.ext (q_as1 a.1 a.2 b.1 b.2 c.1 c.2 v) (q_as2 a.1 a.2 b.1 b.2 c.1 c.2 v)
theorem q_l8 (a : R × R) : qmul v (1,0) a=a:=by rw [qmul_def]; exact Prod.ext (q_o1 a.1 a.2 v) (q_o2 a.1 a.2)
theorem q_l9 (a b c : R × R) : qmul v (qadd a b) c=qadd (qmul v a c) (qmul v b c):=by rw [qadd_def,qmul_def,qmul_def,qmul_def,qadd_def]; exact Prod.ext (q_d1 a.1 a.2 b.1 b.2 c.1 c.2 v) (q_d2 a.1 a.2 b.1 b.2 c.1 c.2)
end
noncomputable instance rgF12 : Rg F12 where
 zero:=(0,0)
 one:=(1,0)
 add:=qadd
 sub:=qsub
 neg:=qneg
 mul:=qmul vv
 add_comm:=q_l1
 add_assoc:=q_l2
 zero_add:=q_l3
 neg_add:=q_l4
 sub_def:=q_l5
 mul_comm:=q_l6 vv
 mul_assoc:=q_l7 vv
 one_mul:=q_l8 vv
 add_mul:=q_l9 vv
theorem F12.ext {x y : F12} (h1 : x.1=y.1) (h2 : x.2=y.2) : x=y:=Prod.ext h1 h2
theorem F12.add_def (x y : F12) : x + y=(x.1 + y.1,x.2 + y.2):=qadd_def x y
theorem F12.sub_def (x y : F12) : x - y=(x.1 - y.1,x.2 - y.2):=qsub_def x y
theorem F12.neg_def (x : F12) : -x=(-x.1,-x.2):=qneg_def x
theorem F12.mul_def (x y : F12) : x * y=(x.1 * y.1 + vv * (x.2 * y.2),x.1 * y.2 + x.2 * y.1):=qmul_def vv x y
theorem F12.a1 (x y : F12) : (x + y).1=x.1 + y.1:=by rw [F12.add_def]
theorem F12.a2 (x y : F12) : (x + y).2=x.2 + y.2:=by rw [F12.add_def]
theorem F12.m1 (x y : F12) : (x * y).1=x.1 * y.1 + vv * (x.2 * y.2):=by rw [F12.mul_def]
theorem F12.m2 (x y : F12) : (x * y).2=x.1 * y.2 + x.2 * y.1:=by rw [F12.mul_def]
theorem nm6_sq (t : F6) : nm6 (t * t)=nm6 t * nm6 t:=cnm_sq xi t
theorem nm6_vv : nm6 vv=xi:=cnm_v xi
theorem vv_sq {t : F6} (h : t * t=vv) : False:=by
 have e:=congrArg nm6 h
 rw [nm6_sq,nm6_vv] at e
 exact xi_sq e
theorem q_nr {F : Type} [Rg F] (a b j v : F) : (a * j) * (a * j) - v=(j * j) * (a * a - v * (b * b)) + v * ((b * j) * (b * j) - 1) :=
 rid [a,b,j,v] ((fun (a b j v : PE) => ((a * j) * (a * j) - v)) (.v 0) (.v 1) (.v 2) (.v 3)) ((fun (a b j v : PE) => ((j * j) * (a * a - v * (b * b)) + v * ((b * j) * (b * j) - 1))) (.v 0) (.v 1) (.v 2) (.v 3)) (by kernel_rfl)
theorem q_i1 {F : Type} [Rg F] (a b n v : F) : a * (a * n) + v * (b * -(b * n))=(a * a - v * (b * b)) * n :=
 rid [a,b,n,v] ((fun (a b n v : PE) => (a * (a * n) + v * (b * -(b * n)))) (.v 0) (.v 1) (.v 2) (.v 3)) ((fun (a b n v : PE) => ((a * a - v * (b * b)) * n)) (.v 0) (.v 1) (.v 2) (.v 3)) (by kernel_rfl)
theorem q_i2 {F : Type} [Rg F] (a b n : F) : a * -(b * n) + b * (a * n)=0 :=
 rid [a,b,n] ((fun (a b n : PE) => (a * -(b * n) + b * (a * n))) (.v 0) (.v 1) (.v 2)) ((fun (a b n : PE) => (0)) (.v 0) (.v 1) (.v 2)) (by kernel_rfl)
section
variable {R : Type} [Fd R] (v : R)
theorem qnm_ne (hv : ∀ t : R,t * t=v -> False) {x : R × R} (h : x ≠ (0,0)) : x.1 * x.1 - v * (x.2 * x.2) ≠ 0:=by
 intro e
 by_cases hb : x.2=0
 ·rw [hb,mul_zero,mul_zero,Rg.sub_def,neg_zero,add_zero] at e
  have ha : x.1=0:=by rcases mul_eq_zero e with e | e <;> exact e
  exact h (Prod.ext ha hb)
 ·have hi:=mul_inv x.2 hb
  refine hv (x.1 * inv x.2) (eq_of_sub ?_)
  have k:=q_nr x.1 x.2 (inv x.2) v
  rw [e,hi,one_mul,sub_self,mul_zero,mul_zero,zero_add] at k
  exact k
noncomputable def qinv (x : R × R) : R × R:=opq (x.1 * inv (x.1 * x.1 - v * (x.2 * x.2)),-(x.2 * inv (x.1 * x.1 - v * (x.2 * x.2))))
theorem qinv_def (x : R × R) : qinv v x=(x.1 * inv (x.1 * x.1 - v * (x.2 * x.2)),-(x.2 * inv (x.1 * x.1 - v * (x.2 * x.2)))):=opq_eq _
theorem qinv_mul (hv : ∀ t : R,t * t=v -> False) {x : R × R} (h : x ≠ (0,0)) : qmul v x (qinv v x)=(1,0):=by
 have hn:=mul_inv _ (qnm_ne v hv h)
 rw [qmul_def,qinv_def]
 exact Prod.ext ((q_i1 _ _ _ _).trans hn) (q_i2 _ _ _)
end
noncomputable abbrev inv12 (t : F12) : F12:=qinv vv t
noncomputable instance fdF12 : Fd F12 where
 deq:=inferInstanceAs (DecidableEq (F6 × F6))
 inv:=inv12
 mul_inv _ h:=qinv_mul vv (fun _ e => vv_sq e) h
 one_ne:=fun h => absurd (congrArg Prod.fst h) one_ne
 two_ne:=fun h => absurd (congrArg Prod.fst h) (by rw [F12.add_def]; exact two_ne)
 three_ne:=fun h => absurd (congrArg Prod.fst h) (by rw [F12.add_def,F12.add_def]; exact three_ne)
end Cr
namespace Cr
open Rg Fd
theorem t6_1 {F : Type} [Rg F] (a b c d e f x : F) : a * d + x * ((b + c) * (e + f) - b * e - c * f)=a * d + x * (b * f + c * e) :=
 rid [a,b,c,d,e,f,x] ((fun (a b c d e f x : PE) => (a * d + x * ((b + c) * (e + f) - b * e - c * f))) (.v 0) (.v 1) (.v 2) (.v 3) (.v 4) (.v 5) (.v 6)) ((fun (a b c d e f x : PE) => (a * d + x * (b * f + c * e))) (.v 0) (.v 1) (.v 2) (.v 3) (.v 4) (.v 5) (.v 6)) (by kernel_rfl)
theorem t6_2 {F : Type} [Rg F] (a b c d e f x : F) : ((a + b) * (d + e) - a * d - b * e) + x * (c * f)=a * e + b * d + x * (c * f) :=
 rid [a,b,c,d,e,f,x] ((fun (a b c d e f x : PE) => (((a + b) * (d + e) - a * d - b * e) + x * (c * f))) (.v 0) (.v 1) (.v 2) (.v 3) (.v 4) (.v 5) (.v 6)) ((fun (a b c d e f x : PE) => (a * e + b * d + x * (c * f))) (.v 0) (.v 1) (.v 2) (.v 3) (.v 4) (.v 5) (.v 6)) (by kernel_rfl)
theorem t6_3 {F : Type} [Rg F] (a b c d e f : F) : ((a + c) * (d + f) - a * d - c * f) + b * e=a * f + b * e + c * d :=
 rid [a,b,c,d,e,f] ((fun (a b c d e f : PE) => (((a + c) * (d + f) - a * d - c * f) + b * e)) (.v 0) (.v 1) (.v 2) (.v 3) (.v 4) (.v 5)) ((fun (a b c d e f : PE) => (a * f + b * e + c * d)) (.v 0) (.v 1) (.v 2) (.v 3) (.v 4) (.v 5)) (by kernel_rfl)
theorem tw_mul (x y : F6) : ((x.1 * y.1 + xi * ((x.2.1 + x.2.2) * (y.2.1 + y.2.2) - x.2.1 * y.2.1 - x.2.2 * y.2.2),((x.1 + x.2.1) * (y.1 + y.2.1) - x.1 * y.1 - x.2.1 * y.2.1) + xi * (x.2.2 * y.2.2),((x.1 + x.2.2) * (y.1 + y.2.2) - x.1 * y.1 - x.2.2 * y.2.2) + x.2.1 * y.2.1) : F6)=x * y:=by
 rw [F6.mul_def,t6_1,t6_2,t6_3]
theorem t6_p1 {F : Type} [Rg F] (a b c d e x : F) : a * d + x * (c * e)=a * d + x * (b * 0 + c * e) :=
 rid [a,b,c,d,e,x] ((fun (a b c d e x : PE) => (a * d + x * (c * e))) (.v 0) (.v 1) (.v 2) (.v 3) (.v 4) (.v 5)) ((fun (a b c d e x : PE) => (a * d + x * (b * 0 + c * e))) (.v 0) (.v 1) (.v 2) (.v 3) (.v 4) (.v 5)) (by kernel_rfl)
theorem t6_p2 {F : Type} [Rg F] (a b c d e x : F) : (a + b) * (d + e) - a * d - b * e=a * e + b * d + x * (c * 0) :=
 rid [a,b,c,d,e,x] ((fun (a b c d e x : PE) => ((a + b) * (d + e) - a * d - b * e)) (.v 0) (.v 1) (.v 2) (.v 3) (.v 4) (.v 5)) ((fun (a b c d e x : PE) => (a * e + b * d + x * (c * 0))) (.v 0) (.v 1) (.v 2) (.v 3) (.v 4) (.v 5)) (by kernel_rfl)
theorem t6_p3 {F : Type} [Rg F] (a b c d e : F) : b * e + c * d=a * 0 + b * e + c * d :=
 rid [a,b,c,d,e] ((fun (a b c d e : PE) => (b * e + c * d)) (.v 0) (.v 1) (.v 2) (.v 3) (.v 4)) ((fun (a b c d e : PE) => (a * 0 + b * e + c * d)) (.v 0) (.v 1) (.v 2) (.v 3) (.v 4)) (by kernel_rfl)
theorem tw_pair (x : F6) (a b : F2) : ((x.1 * a + xi * (x.2.2 * b),(x.1 + x.2.1) * (a + b) - x.1 * a - x.2.1 * b,x.2.1 * b + x.2.2 * a) : F6)=x * ((a,b,0) : F6):=by
 rw [F6.mul_def,t6_p1 x.1 x.2.1 x.2.2 a b xi,t6_p2 x.1 x.2.1 x.2.2 a b xi,t6_p3 x.1 x.2.1 x.2.2 a b]
theorem t6_s1 {F : Type} [Rg F] (a b c k x : F) : a * k=a * k + x * (b * 0 + c * 0) :=
 rid [a,b,c,k,x] ((fun (a b c k x : PE) => (a * k)) (.v 0) (.v 1) (.v 2) (.v 3) (.v 4)) ((fun (a b c k x : PE) => (a * k + x * (b * 0 + c * 0))) (.v 0) (.v 1) (.v 2) (.v 3) (.v 4)) (by kernel_rfl)
theorem t6_s2 {F : Type} [Rg F] (a b c k x : F) : b * k=a * 0 + b * k + x * (c * 0) :=
 rid [a,b,c,k,x] ((fun (a b c k x : PE) => (b * k)) (.v 0) (.v 1) (.v 2) (.v 3) (.v 4)) ((fun (a b c k x : PE) => (a * 0 + b * k + x * (c * 0))) (.v 0) (.v 1) (.v 2) (.v 3) (.v 4)) (by kernel_rfl)
theorem t6_s3 {F : Type} [Rg F] (a b c k : F) : c * k=a * 0 + b * 0 + c * k :=
 rid [a,b,c,k] ((fun (a b c k : PE) => (c * k)) (.v 0) (.v 1) (.v 2) (.v 3)) ((fun (a b c k : PE) => (a * 0 + b * 0 + c * k)) (.v 0) (.v 1) (.v 2) (.v 3)) (by kernel_rfl)
theorem tw_scale (x : F6) (k : F2) : ((x.1 * k,x.2.1 * k,x.2.2 * k) : F6)=x * ((k,0,0) : F6):=by
 rw [F6.mul_def,<- t6_s1,<- t6_s2,<- t6_s3]
theorem tw_inv (x : F6) : ((x.1 * x.1 - xi * (x.2.1 * x.2.2),xi * (x.2.2 * x.2.2) - x.1 * x.2.1,x.2.1 * x.2.1 - x.1 * x.2.2) : F6) * ((inv (x.1 * (x.1 * x.1 - xi * (x.2.1 * x.2.2)) + xi * (x.2.2 * (xi * (x.2.2 * x.2.2) - x.1 * x.2.1) + x.2.1 * (x.2.1 * x.2.1 - x.1 * x.2.2))),0,0) : F6)=inv x:=by
 rw [<- tw_scale]
 show _=cinv xi x
 rw [cinv_def]; rfl
theorem t12_1 {F : Type} [Rg F] (a b c d v : F) : (a + b) * (c + d) - a * c - b * d=a * d + b * c :=
 rid [a,b,c,d,v] ((fun (a b c d v : PE) => ((a + b) * (c + d) - a * c - b * d)) (.v 0) (.v 1) (.v 2) (.v 3) (.v 4)) ((fun (a b c d v : PE) => (a * d + b * c)) (.v 0) (.v 1) (.v 2) (.v 3) (.v 4)) (by kernel_rfl)
theorem tw_emul (x y : F12) : ((x.1 * y.1 + vv * (x.2 * y.2),(x.1 + x.2) * (y.1 + y.2) - x.1 * y.1 - x.2 * y.2) : F12)=x * y:=by
 rw [F12.mul_def,t12_1 x.1 x.2 y.1 y.2 vv]
theorem t12_2 {F : Type} [Rg F] (a b v : F) : (a + b) * (a + v * b) - a * b - v * (a * b)=a * a + v * (b * b) :=
 rid [a,b,v] ((fun (a b v : PE) => ((a + b) * (a + v * b) - a * b - v * (a * b))) (.v 0) (.v 1) (.v 2)) ((fun (a b v : PE) => (a * a + v * (b * b))) (.v 0) (.v 1) (.v 2)) (by kernel_rfl)
theorem t12_3 {F : Type} [Rg F] (a b : F) : a * b + a * b=a * b + b * a :=
 rid [a,b] ((fun (a b : PE) => (a * b + a * b)) (.v 0) (.v 1)) ((fun (a b : PE) => (a * b + b * a)) (.v 0) (.v 1)) (by kernel_rfl)
theorem tw_esq (x : F12) : (((x.1 + x.2) * (x.1 + vv * x.2) - x.1 * x.2 - vv * (x.1 * x.2),x.1 * x.2 + x.1 * x.2) : F12)=x * x:=by
 rw [F12.mul_def,t12_2 x.1 x.2 vv,t12_3 x.1 x.2]
noncomputable def conj12 (x : F12) : F12:=(x.1,-x.2)
theorem zero_sub' {R : Type} [Rg R] (b : R) : 0 - b=-b:=by rw [Rg.sub_def,zero_add]
theorem tw_conj (x : F12) : ((x.1,(0 : F6) - x.2) : F12)=conj12 x:=by rw [zero_sub']; rfl
theorem tw_einv (x : F12) : ((x.1 * inv (x.1 * x.1 - vv * (x.2 * x.2)),(0 : F6) - x.2 * inv (x.1 * x.1 - vv * (x.2 * x.2))) : F12)=inv x:=by
 rw [zero_sub']
 show _=qinv vv x
 rw [qinv_def]
def line12 (a b c : F2) : F12:=(((a,b,0) : F6),((0,c,0) : F6))
theorem l12_1 (c : F2) : vv * ((c,0,0) : F6)=((0,c,0) : F6):=by
 rw [vv_mul]
 show ((xi * 0,c,0) : F6)=_
 rw [mul_zero]
theorem l12_2 (a b c : F2) : ((a,b + c,0) : F6)=((a,b,0) : F6) + ((0,c,0) : F6):=by
 rw [F6.add_def]
 show _=((a + 0,b + c,0 + 0) : F6)
 rw [add_zero,add_zero]
theorem t12_l {F : Type} [Rg F] (b c v : F) : v * (b * c)=b * (v * c) :=
 rid [b,c,v] ((fun (b c v : PE) => (v * (b * c))) (.v 0) (.v 1) (.v 2)) ((fun (b c v : PE) => (b * (v * c))) (.v 0) (.v 1) (.v 2)) (by kernel_rfl)
theorem t12_m {F : Type} [Rg F] (a b l m : F) : (a + b) * (l + m) - a * l - b * m=a * m + b * l :=
 rid [a,b,l,m] ((fun (a b l m : PE) => ((a + b) * (l + m) - a * l - b * m)) (.v 0) (.v 1) (.v 2) (.v 3)) ((fun (a b l m : PE) => (a * m + b * l)) (.v 0) (.v 1) (.v 2) (.v 3)) (by kernel_rfl)
theorem tw_line (x : F12) (a b c : F2) : ((x.1 * ((a,b,0) : F6) + vv * (vv * (x.2 * ((c,0,0) : F6))),(x.1 + x.2) * ((a,b + c,0) : F6) - x.1 * ((a,b,0) : F6) - vv * (x.2 * ((c,0,0) : F6))) : F12)=x * line12 a b c:=by
 rw [F12.mul_def,t12_l x.2,l12_1,l12_2,t12_m]
 rfl
end Cr
namespace Cr
open Rg Fd Go.Eng
theorem neg_z {F : Type} [Rg F] : (-0 : F)=0:=by have h:=Rg.neg_add (0 : F); rwa [add_zero] at h
theorem sub_z {F : Type} [Rg F] (x : F) : x - 0=x:=by rw [Rg.sub_def,neg_z,add_zero]
theorem zpow_pwn {M : Int} [Md M] (x : Zm M) : ∀ n,zpow x n=pwn x n
 | 0 => rfl
 | n + 1 => by show zpow x n * x=pwn x n * x; rw [zpow_pwn x n]
theorem nc_v : ∀ n : Nat,(nc n : Fp).v=(n : Int) % Mp
 | 0 => by rw [Int.natCast_zero,Int.zero_emod]; rfl
 | n + 1 => by
  show ((nc n : Fp) + 1).v=_
  rw [add_v,nc_v n,one_v,Int.emod_add_emod]
  rfl
theorem nc_2 : ∀ n : Nat,(nc n : F2)=((nc n : Fp),(0 : Fp))
 | 0 => rfl
 | n + 1 => by
  show (nc n : F2) + 1=((nc n : Fp) + 1,(0 : Fp))
  rw [nc_2 n,F2.add_def]
  exact F2.ext rfl (zero_add _)
theorem nc_p {p : Nat} (hp : p=fpP) : (nc p : Fp)=0:=by
 refine Zm.ext ?_
 rw [nc_v,hp]
 exact of_decide_eq_true (by kernel_rfl)
theorem nc_p2 {p : Nat} (hp : p=fpP) : (nc p : F2)=0:=by rw [nc_2,nc_p hp]; rfl
theorem prm_q {p : Nat} (hp : p=fpP) : Prm p:=by rw [hp]; exact prm_p
theorem pw_fp {p : Nat} (hp : p=fpP) (x : Fp) : pwn x p=x:=by
 obtain ⟨q,hq⟩ : ∃ q,p=q + 1:=⟨fpP - 1,hp.trans (of_decide_eq_true (by kernel_rfl))⟩
 by_cases hx : x=0
 ·rw [hq,hx]; show _ * (0 : Fp)=0; rw [mul_zero]
 ·have h1:=fp_fermat hx
  have h2 : fpP - 1=q:=by rw [<- hp,hq]; rfl
  rw [h2,zpow_pwn] at h1
  rw [hq]; show pwn x q * x=x; rw [h1,one_mul]
theorem pw_2 (a : Fp) : ∀ n,pwn ((a,0) : F2) n=(pwn a n,0)
 | 0 => rfl
 | n + 1 => by
  show pwn ((a,0) : F2) n * (a,0)=(pwn a n * a,0)
  rw [pw_2 a n,F2.mul_def]
  refine F2.ext ?_ ?_
  ·show pwn a n * a - 0 * 0=_
   rw [zero_mul,sub_z]
  ·show pwn a n * 0 + 0 * a=0
   rw [mul_zero,zero_mul,zero_add]
def ii : F2:=((0 : Fp),(1 : Fp))
theorem ii_sq : ii * ii=(-1 : F2):=by
 rw [F2.mul_def,F2.neg_def]
 refine F2.ext ?_ ?_
 ·show (0 : Fp) * 0 - 1 * 1=-1
  rw [zero_mul,one_mul,Rg.sub_def,zero_add]
 ·show (0 : Fp) * 1 + 1 * 0=-0
  rw [zero_mul,mul_zero,zero_add]
  exact Zm.ext (of_decide_eq_true (by kernel_rfl))
theorem pw_ii {p : Nat} (hp : p=fpP) : pwn ii p=-ii:=by
 obtain ⟨q,hq⟩ : ∃ q,p=2 * (2 * q) + 2 + 1:=⟨fpP / 4,hp.trans (of_decide_eq_true (by kernel_rfl))⟩
 have h2 : pwn ii 2=(-1 : F2):=by show 1 * ii * ii=_; rw [one_mul,ii_sq]
 have h3 : pwn (-1 : F2) 2=1:=by show 1 * (-1 : F2) * -1=1; rw [one_mul,neg_mul,one_mul,neg_neg]
 have h4 : pwn ii (2 * (2 * q))=1:=by rw [pwn_mul,h2,pwn_mul,h3,pwn_one]
 rw [hq]
 show pwn ii (2 * (2 * q) + 2) * ii=_
 rw [pwn_add,h4,h2,one_mul,neg_mul,one_mul]
theorem pw_f2 {p : Nat} (hp : p=fpP) (x : F2) : pwn x p=(x.1,-x.2):=by
 have h1 : x=(x.1,0) + (x.2,0) * ii:=by
  rw [F2.mul_def,F2.add_def]
  refine F2.ext ?_ ?_
  ·show x.1=x.1 + (x.2 * 0 - 0 * 1)
   rw [mul_zero,zero_mul,sub_z,add_zero]
  ·show x.2=0 + (x.2 * 1 + 0 * 0)
   rw [mul_one,mul_zero,add_zero,zero_add]
 have h2 : pwn x p=pwn ((x.1,0) + (x.2,0) * ii) p:=congrArg (fun t => pwn t p) h1
 rw [h2,pwn_sum (prm_q hp) (nc_p2 hp),pwn_prod,pw_2,pw_2,pw_fp hp,pw_fp hp,pw_ii hp,F2.neg_def,F2.mul_def,F2.add_def]
 refine F2.ext ?_ ?_
 ·show x.1 + (x.2 * -0 - 0 * -1)=x.1
  rw [neg_z,mul_zero,zero_mul,sub_z,add_zero]
 ·show 0 + (x.2 * -1 + 0 * -0)=-x.2
  rw [neg_z,mul_zero,add_zero,zero_add,mul_comm,neg_mul,one_mul]
end Cr
namespace Cr
open Rg Fd Go.Eng
theorem fr_2 {F : Type} [Rg F] (r c : F) : r * (r * c)=c * (r * r) :=
 rid [r,c] ((fun (r c : PE) => (r * (r * c))) (.v 0) (.v 1)) ((fun (r c : PE) => (c * (r * r))) (.v 0) (.v 1)) (by kernel_rfl)
theorem fr_3 {F : Type} [Rg F] (r c : F) : r * (r * (r * c))=c * (r * r * r) :=
 rid [r,c] ((fun (r c : PE) => (r * (r * (r * c)))) (.v 0) (.v 1)) ((fun (r c : PE) => (c * (r * r * r))) (.v 0) (.v 1)) (by kernel_rfl)
theorem fr_4 {F : Type} [Rg F] (r c : F) : r * (r * (r * (r * c)))=c * (r * r * (r * r)) :=
 rid [r,c] ((fun (r c : PE) => (r * (r * (r * (r * c))))) (.v 0) (.v 1)) ((fun (r c : PE) => (c * (r * r * (r * r)))) (.v 0) (.v 1)) (by kernel_rfl)
theorem fr_5 {F : Type} [Rg F] (r c : F) : r * (r * (r * (r * (r * c))))=c * (r * r * (r * r) * r) :=
 rid [r,c] ((fun (r c : PE) => (r * (r * (r * (r * (r * c)))))) (.v 0) (.v 1)) ((fun (r c : PE) => (c * (r * r * (r * r) * r))) (.v 0) (.v 1)) (by kernel_rfl)
def e2 (c : F2) : F12:=((c,(0 : F2),(0 : F2)),(0 : F2),(0 : F2),(0 : F2))
def e6 (c : F2) : F6:=(c,(0 : F2),(0 : F2))
def ww : F12:=(((0 : F2),(0 : F2),(0 : F2)),(1 : F2),(0 : F2),(0 : F2))
theorem e6_mul (c : F2) (x : F6) : e6 c * x=(c * x.1,c * x.2.1,c * x.2.2):=by
 rw [F6.mul_def]
 refine F6.ext ?_ ?_ ?_
 ·show c * x.1 + xi * (0 * x.2.2 + 0 * x.2.1)=c * x.1
  rw [zero_mul,zero_mul,add_zero,mul_zero,add_zero]
 ·show c * x.2.1 + 0 * x.1 + xi * (0 * x.2.2)=c * x.2.1
  rw [zero_mul,zero_mul,mul_zero,add_zero,add_zero]
 ·show c * x.2.2 + 0 * x.2.1 + 0 * x.1=c * x.2.2
  rw [zero_mul,zero_mul,add_zero,add_zero]
theorem e2_mul (c : F2) (x : F12) : e2 c * x=((c * x.1.1,c * x.1.2.1,c * x.1.2.2),c * x.2.1,c * x.2.2.1,c * x.2.2.2):=by
 rw [F12.mul_def]
 refine F12.ext ?_ ?_
 ·show e6 c * x.1 + vv * ((0 : F6) * x.2)=_
  rw [zero_mul,mul_zero,add_zero,e6_mul]
 ·show e6 c * x.2 + (0 : F6) * x.1=_
  rw [zero_mul,add_zero,e6_mul]
theorem ww_mul (x : F12) : ww * x=((xi * x.2.2.2,x.2.1,x.2.2.1),x.1):=by
 rw [F12.mul_def]
 refine F12.ext ?_ ?_
 ·show (0 : F6) * x.1 + vv * ((1 : F6) * x.2)=_
  rw [zero_mul,zero_add,one_mul,vv_mul]
 ·show (0 : F6) * x.2 + (1 : F6) * x.1=x.1
  rw [zero_mul,zero_add,one_mul]
theorem e2_one : e2 1=(1 : F12):=rfl
theorem e2_pw (c : F2) : ∀ n,pwn (e2 c) n=e2 (pwn c n)
 | 0 => rfl
 | n + 1 => by
  show pwn (e2 c) n * e2 c=e2 (pwn c n * c)
  rw [e2_pw c n,e2_mul]
  show ((pwn c n * c,pwn c n * 0,pwn c n * 0),pwn c n * 0,pwn c n * 0,pwn c n * 0)=_
  rw [mul_zero]; rfl
theorem ww_six : ww * (ww * (ww * (ww * (ww * ww))))=e2 xi:=by
 simp only [ww_mul]
 show ((xi * (1 : F2),xi * (0 : F2),xi * (0 : F2)),xi * (0 : F2),xi * (0 : F2),(0 : F2))=_
 rw [mul_one,mul_zero]; rfl
theorem ww_six' : pwn ww 6=e2 xi:=by
 show (1 : F12) * ww * ww * ww * ww * ww * ww=_
 rw [one_mul,mul_assoc,mul_assoc,mul_assoc,mul_assoc]
 exact ww_six
theorem pw_ww {p q : Nat} (hq : p=6 * q + 1) : pwn ww p=e2 (pwn xi q) * ww:=by
 rw [hq]
 show pwn ww (6 * q) * ww=_
 rw [pwn_mul,ww_six',e2_pw]
theorem e2_add (c : F2) (x : F12) : e2 c + x=((c + x.1.1,x.1.2.1,x.1.2.2),x.2):=by
 rw [F12.add_def]
 refine F12.ext ?_ ?_
 ·rw [F6.add_def]
  refine F6.ext rfl ?_ ?_
  ·exact zero_add _
  ·exact zero_add _
 ·exact zero_add x.2
theorem horner (a b c d e f : F2) : (((a,c,e),b,d,f) : F12)=e2 a + ww * (e2 b + ww * (e2 c + ww * (e2 d + ww * (e2 e + ww * e2 f)))):=by
 simp only [ww_mul,e2_add]
 show _=((a + xi * (0 : F2),c + xi * (0 : F2),e + xi * (0 : F2)),b + xi * (0 : F2),d + xi * (0 : F2),f)
 simp only [mul_zero,add_zero]
theorem nc_12 : ∀ n : Nat,(nc n : F12)=e2 (nc n)
 | 0 => rfl
 | n + 1 => by
  show (nc n : F12) + 1=e2 ((nc n : F2) + 1)
  rw [nc_12 n,e2_add]; rfl
theorem nc_p12 {p : Nat} (hp : p=fpP) : (nc p : F12)=0:=by rw [nc_12,nc_p2 hp]; rfl
def cjg (x : F2) : F2:=(x.1,-x.2)
noncomputable def frg (r : F2) (x : F12) : F12:=((cjg x.1.1,cjg x.1.2.1 * (r * r),cjg x.1.2.2 * (r * r * (r * r))),(cjg x.2.1 * r,cjg x.2.2.1 * (r * r * r),cjg x.2.2.2 * (r * r * (r * r) * r)))
theorem pw_st {p q : Nat} (hp : p=fpP) (hq : p=6 * q + 1) (a : F2) (Y : F12) : pwn (e2 a + ww * Y) p=e2 (cjg a) + e2 (pwn xi q) * (ww * pwn Y p):=by
 rw [pwn_sum (prm_q hp) (nc_p12 hp),pwn_prod,e2_pw,pw_f2 hp,pw_ww hq,mul_assoc]; rfl
theorem pw_f12 {p q : Nat} (hp : p=fpP) (hq : p=6 * q + 1) (x : F12) : pwn x p=frg (pwn xi q) x:=by
 obtain ⟨⟨a,c,e⟩,b,d,f⟩:=x
 obtain ⟨r,hr⟩ : ∃ r,r=pwn xi q:=⟨_,rfl⟩
 have h1:=horner a b c d e f
 have h2:=congrArg (fun t : F12 => pwn t p) h1
 refine h2.trans ?_
 show pwn (e2 a + ww * (e2 b + ww * (e2 c + ww * (e2 d + ww * (e2 e + ww * e2 f))))) p=_
 rw [pw_st hp hq,pw_st hp hq,pw_st hp hq,pw_st hp hq,pw_st hp hq,e2_pw,pw_f2 hp,<- hr]
 show e2 (cjg a) + e2 r * (ww * (e2 (cjg b) + e2 r * (ww * (e2 (cjg c) + e2 r * (ww * (e2 (cjg d) + e2 r * (ww * (e2 (cjg e) + e2 r * (ww * e2 (cjg f))))))))))=_
 simp only [ww_mul,e2_add,e2_mul]
 refine F12.ext (F6.ext ?_ ?_ ?_) (F6.ext ?_ ?_ ?_)
 ·show cjg a + r * (xi * (r * (r * (r * (r * (0 : F2))))))=cjg a
  simp only [mul_zero,add_zero]
 ·show r * (r * (cjg c + r * (xi * (r * (r * (0 : F2))))))=cjg c * (r * r)
  simp only [mul_zero,add_zero]; exact fr_2 r _
 ·show r * (r * (r * (r * (cjg e + r * (xi * (0 : F2))))))=cjg e * (r * r * (r * r))
  simp only [mul_zero,add_zero]; exact fr_4 r _
 ·show r * (cjg b + r * (xi * (r * (r * (r * (0 : F2))))))=cjg b * r
  simp only [mul_zero,add_zero]; exact mul_comm _ _
 ·show r * (r * (r * (cjg d + r * (xi * (r * (0 : F2))))))=cjg d * (r * r * r)
  simp only [mul_zero,add_zero]; exact fr_3 r _
 ·exact fr_5 r (cjg f)
theorem xi_two : xi * xi=(((1 : Fp) + 1,(0 : Fp)) : F2) * ii:=by
 rw [F2.mul_def,F2.mul_def]
 refine F2.ext ?_ ?_
 ·show (1 : Fp) * 1 - 1 * 1=(1 + 1) * 0 - 0 * 1
  rw [mul_zero,one_mul,zero_mul,sub_z,Rg.sub_def,add_comm,Rg.neg_add]
 ·show (1 : Fp) * 1 + 1 * 1=(1 + 1) * 1 + 0 * 0
  rw [mul_one,mul_one,mul_zero,add_zero]
theorem xi_pw {q m t : Nat} (hq : q=2 * m + 1) (hm : m=2 * (2 * t) + 2 + 1) : pwn xi q=(pwn ((1 : Fp) + 1) m,-pwn ((1 : Fp) + 1) m):=by
 have h2 : pwn ii 2=(-1 : F2):=by show 1 * ii * ii=_; rw [one_mul,ii_sq]
 have h3 : pwn (-1 : F2) 2=1:=by show 1 * (-1 : F2) * -1=1; rw [one_mul,neg_mul,one_mul,neg_neg]
 have h4 : pwn ii (2 * (2 * t))=1:=by rw [pwn_mul,h2,pwn_mul,h3,pwn_one]
 have h5 : pwn ii m=-ii:=by
  rw [hm]; show pwn ii (2 * (2 * t) + 2) * ii=_
  rw [pwn_add,h4,h2,one_mul,neg_mul,one_mul]
 have h6 : pwn xi 2=(((1 : Fp) + 1,(0 : Fp)) : F2) * ii:=by show 1 * xi * xi=_; rw [one_mul,xi_two]
 rw [hq]
 show pwn xi (2 * m) * xi=_
 rw [pwn_mul,h6,pwn_prod,pw_2,h5,F2.neg_def,F2.mul_def,F2.mul_def]
 obtain ⟨u,hu⟩ : ∃ u,u=pwn ((1 : Fp) + 1) m:=⟨_,rfl⟩
 rw [<- hu]
 refine F2.ext ?_ ?_
 ·show (u * -0 - 0 * -1) * 1 - (u * -1 + 0 * -0) * 1=u
  rw [neg_z,mul_zero,zero_mul,mul_zero,sub_z,add_zero,mul_one,mul_one,mul_comm,neg_mul,one_mul,Rg.sub_def,zero_add,neg_neg]
 ·show (u * -0 - 0 * -1) * 1 + (u * -1 + 0 * -0) * 1=-u
  rw [neg_z,mul_zero,zero_mul,mul_zero,sub_z,add_zero,mul_one,mul_one,mul_comm,neg_mul,one_mul,zero_add]
end Cr
namespace Cr
open Rg Fd Go.Eng
theorem pw_it {F : Type} [Rg F] (x : F) (p k : Nat) : pwn x (p ^ (k + 1))=pwn (pwn x (p ^ k)) p:=by rw [Nat.pow_succ,pwn_mul]
theorem pw_1 {F : Type} [Rg F] (x : F) : pwn x 1=x:=one_mul x
theorem pw_sumk {p : Nat} (hp : p=fpP) (x y : F12) : ∀ k,pwn (x + y) (p ^ k)=pwn x (p ^ k) + pwn y (p ^ k)
 | 0 => by rw [Nat.pow_zero,pw_1,pw_1,pw_1]
 | k + 1 => by rw [pw_it,pw_it,pw_it,pw_sumk hp x y k,pwn_sum (prm_q hp) (nc_p12 hp)]
theorem pw_2k {p : Nat} (hp : p=fpP) (c : F2) : pwn c (p ^ 2)=c:=by
 rw [pw_it c p 1,Nat.pow_one,pw_f2 hp,pw_f2 hp]
 exact F2.ext rfl (neg_neg c.2)
theorem pw_2n {p : Nat} (hp : p=fpP) (c : F2) : ∀ n,pwn c ((p ^ 2) ^ n)=c
 | 0 => by rw [Nat.pow_zero,pw_1]
 | n + 1 => by rw [pw_it,pw_2n hp c n,pw_2k hp]
theorem pw_x12 {p : Nat} (hp : p=fpP) (c : F2) : pwn c (p ^ 12)=c:=by
 rw [show p ^ 12=(p ^ 2) ^ 6 by rw [<- Nat.pow_mul]]; exact pw_2n hp c 6
theorem xi_ne : xi ≠ 0:=fun h => xi_sq (s:=0) (by rw [h,mul_zero])
theorem pw_xi {p n : Nat} (hp : p=fpP) (hn : p ^ 2=n + 1) : pwn xi n=1:=by
 have h1:=pw_2k hp xi
 rw [hn] at h1
 have h2 : pwn xi n * xi=xi:=h1
 have h3 : pwn xi n * (xi * inv xi)=xi * inv xi:=by rw [<- mul_assoc,h2]
 rwa [mul_inv _ xi_ne,mul_one] at h3
theorem pw_ww12 {p : Nat} (hp : p=fpP) : pwn ww (p ^ 12)=ww:=by
 obtain ⟨n,hn⟩ : ∃ n,n=fpP ^ 2 - 1:=⟨_,rfl⟩
 obtain ⟨s,hs⟩ : ∃ s,s=(fpP ^ 12 - 1) / 6 / (fpP ^ 2 - 1):=⟨_,rfl⟩
 have h1 : p ^ 2=n + 1:=by rw [hp,hn]; exact of_decide_eq_true (by kernel_rfl)
 have h2 : p ^ 12=6 * (n * s) + 1:=by rw [hp,hn,hs]; exact of_decide_eq_true (by kernel_rfl)
 rw [h2]
 show pwn ww (6 * (n * s)) * ww=ww
 rw [pwn_mul,ww_six',pwn_mul,e2_pw,pw_xi hp h1,e2_one,pwn_one,one_mul]
theorem pw_s12 {p : Nat} (hp : p=fpP) (a : F2) (Y : F12) : pwn (e2 a + ww * Y) (p ^ 12)=e2 a + ww * pwn Y (p ^ 12):=by
 rw [pw_sumk hp,pwn_prod,e2_pw,pw_x12 hp,pw_ww12 hp]
theorem pw_12 {p : Nat} (hp : p=fpP) (x : F12) : pwn x (p ^ 12)=x:=by
 obtain ⟨⟨a,c,e⟩,b,d,f⟩:=x
 have h1:=horner a b c d e f
 have h2:=congrArg (fun t : F12 => pwn t (p ^ 12)) h1
 refine h2.trans (Eq.trans ?_ h1.symm)
 show pwn (e2 a + ww * (e2 b + ww * (e2 c + ww * (e2 d + ww * (e2 e + ww * e2 f))))) (p ^ 12)=_
 rw [pw_s12 hp,pw_s12 hp,pw_s12 hp,pw_s12 hp,pw_s12 hp,e2_pw,pw_x12 hp]
theorem pw_one {n : Nat} (hn : fpP ^ 12=n + 1) {x : F12} (hx : x ≠ 0) : pwn x n=1:=by
 have h1:=pw_12 rfl x
 rw [hn] at h1
 have h2 : pwn x n * x=x:=h1
 have h3 : pwn x n * (x * inv x)=x * inv x:=by rw [<- mul_assoc,h2]
 rwa [mul_inv _ hx,mul_one] at h3
theorem npm_two {n : Nat} (hn : n < 2 ^ 384) (h : npm fpP 2 384 n=fpP - 1) : pwn (1 + 1 : Fp) n=-1:=by
 rw [<- zpow_pwn]
 refine Zm.ext ?_
 rw [zpow_two_v,<- npm_eq fpP 2 (of_decide_eq_true (by kernel_rfl)) 384 n hn,h]
 exact of_decide_eq_true (by kernel_rfl)
theorem pw_hf {p n : Nat} (hp : p=fpP) (hn : n=(fpP - 1) / 2) : pwn xi ((p + 1) * n)=-1:=by
 rw [pwn_mul]
 have h1 : pwn xi (p + 1)=(((1 + 1 : Fp),(0 : Fp)) : F2):=by
  show pwn xi p * xi=_
  rw [pw_f2 hp,F2.mul_def]
  refine F2.ext ?_ ?_
  ·show (1 : Fp) * 1 - -1 * 1=1 + 1
   rw [mul_one,mul_one,Rg.sub_def,neg_neg]
  ·show (1 : Fp) * 1 + -1 * 1=0
   rw [mul_one,mul_one,add_comm,Rg.neg_add]
 have h2 : n < 2 ^ 384:=by rw [hn]; exact of_decide_eq_true (by kernel_rfl)
 have h3 : npm fpP 2 384 n=fpP - 1:=by rw [hn]; exact two_sq
 rw [h1,pw_2,npm_two h2 h3,F2.neg_def]
 exact F2.ext rfl neg_z.symm
theorem pw_ww6 {p : Nat} (hp : p=fpP) : pwn ww (p ^ 6)=-ww:=by
 obtain ⟨n,hn⟩ : ∃ n,n=(fpP - 1) / 2:=⟨_,rfl⟩
 obtain ⟨s,hs⟩ : ∃ s,s=(fpP ^ 6 - 1) / 6 / ((fpP + 1) * ((fpP - 1) / 2)) / 2:=⟨_,rfl⟩
 have h2 : p ^ 6=6 * ((p + 1) * n * (2 * s + 1)) + 1:=by rw [hp,hn,hs]; exact of_decide_eq_true (by kernel_rfl)
 have h3 : pwn (-1 : F2) 2=1:=by show 1 * (-1 : F2) * -1=1; rw [one_mul,neg_mul,one_mul,neg_neg]
 have h4 : pwn (-1 : F2) (2 * s + 1)=-1:=by
  show pwn (-1 : F2) (2 * s) * -1=-1
  rw [pwn_mul,h3,pwn_one,one_mul]
 rw [h2]
 show pwn ww (6 * ((p + 1) * n * (2 * s + 1))) * ww=-ww
 rw [pwn_mul,ww_six',e2_pw,pwn_mul,pw_hf hp hn,h4]
 have h5 : e2 (-1)=-(1 : F12):=by
  rw [F12.neg_def]
  refine F12.ext ?_ ?_
  ·show e6 (-1)=-(1 : F6)
   rw [F6.neg_def]
   exact F6.ext rfl neg_z.symm neg_z.symm
  ·exact neg_z.symm
 rw [h5,neg_mul,one_mul]
theorem pw_2h {p : Nat} (hp : p=fpP) (c : F2) : pwn c (p ^ 6)=c:=by
 rw [show p ^ 6=(p ^ 2) ^ 3 by rw [<- Nat.pow_mul]]; exact pw_2n hp c 3
theorem pw_s6 {p : Nat} (hp : p=fpP) (a : F2) (Y : F12) : pwn (e2 a + ww * Y) (p ^ 6)=e2 a + ww * -pwn Y (p ^ 6):=by
 rw [pw_sumk hp,pwn_prod,e2_pw,pw_2h hp,pw_ww6 hp,neg_mul,mul_comm ww (-_),neg_mul,mul_comm ww]
theorem e2_neg (c : F2) : -e2 c=e2 (-c):=by
 rw [F12.neg_def]
 refine F12.ext ?_ ?_
 ·show -(e6 c)=e6 (-c)
  rw [F6.neg_def]
  exact F6.ext rfl neg_z neg_z
 ·exact neg_z
theorem hs_1 (b : F2) (Z : F12) : -(e2 b + ww * -Z)=e2 (-b) + ww * Z:=by
 have h1 : (e2 b + ww * -Z) + (e2 (-b) + ww * Z)=0:=by
  rw [<- e2_neg,mul_comm ww (-Z),neg_mul,mul_comm Z,add_assoc,<- add_assoc (-(ww * Z)),add_comm (-(ww * Z)),add_assoc,Rg.neg_add,add_zero,add_comm,Rg.neg_add]
 have h2 : -(e2 b + ww * -Z) + ((e2 b + ww * -Z) + (e2 (-b) + ww * Z))=-(e2 b + ww * -Z):=by rw [h1,add_zero]
 rw [<- add_assoc,Rg.neg_add,zero_add] at h2
 exact h2.symm
theorem pw_6 {p : Nat} (hp : p=fpP) (x : F12) : pwn x (p ^ 6)=(x.1,-x.2):=by
 obtain ⟨⟨a,c,e⟩,b,d,f⟩:=x
 have h1:=horner a b c d e f
 have h2:=congrArg (fun t : F12 => pwn t (p ^ 6)) h1
 refine h2.trans ?_
 show pwn (e2 a + ww * (e2 b + ww * (e2 c + ww * (e2 d + ww * (e2 e + ww * e2 f))))) (p ^ 6)=_
 rw [pw_s6 hp,pw_s6 hp,pw_s6 hp,pw_s6 hp,pw_s6 hp,e2_pw,pw_2h hp,hs_1,hs_1,e2_neg,<- horner]
 refine F12.ext rfl ?_
 show ((-b,-d,-f) : F6)=-((b,d,f) : F6)
 rw [F6.neg_def]
end Cr
namespace Cr
open Rg Fd
def addN2 (a b : Nat) : Nat:=(a + b) % pN
def subN2 (a b : Nat) : Nat:=(a + (pN - b % pN)) % pN
def mulN2 (a b : Nat) : Nat:=(a * b) % pN
theorem addN2_φ (a b : Nat) : (zm ((addN2 a b : Nat) : Int) : Fp)=zm (a : Int) + zm (b : Int):=evP1.add_φ a b
theorem subN2_φ (a b : Nat) : (zm ((subN2 a b : Nat) : Int) : Fp)=zm (a : Int) - zm (b : Int):=evP1.sub_φ a b
theorem mulN2_φ (a b : Nat) : (zm ((mulN2 a b : Nat) : Int) : Fp)=zm (a : Int) * zm (b : Int):=evP1.mul_φ a b
noncomputable def evP2 : Ev F2 where
 V:=Nat × Nat
 φ n:=(zm (n.1 : Int),zm (n.2 : Int))
 add a b:=(addN2 a.1 b.1,addN2 a.2 b.2)
 sub a b:=(subN2 a.1 b.1,subN2 a.2 b.2)
 mul a b:=(subN2 (a.1 * b.1) (a.2 * b.2),addN2 (a.1 * b.2) (a.2 * b.1))
 isz a:=Nat.beq (a.1 % pN) 0 && Nat.beq (a.2 % pN) 0
 zero:=(0,0)
 force a k:=fc a.1 fun x => fc a.2 fun y => k (x,y)
 add_φ a b:=by rw [F2.add_def,addN2_φ,addN2_φ]
 sub_φ a b:=by rw [F2.sub_def,subN2_φ,subN2_φ]
 mul_φ a b:=by
  rw [F2.mul_def,addN2_φ,subN2_φ]
  simp only [Int.natCast_mul,<- zm_mul]
 isz_φ a:=by
  rw [Bool.and_eq_true]
  have h1:=evP1.isz_φ a.1
  have h2:=evP1.isz_φ a.2
  constructor
  ·rintro ⟨e1,e2⟩
   exact F2.ext (h1.1 e1) (h2.1 e2)
  ·intro e
   exact ⟨h1.2 (congrArg Prod.fst e),h2.2 (congrArg Prod.snd e)⟩
 zero_φ:=rfl
 force_eq a k:=by rw [fc_eq,fc_eq]
def qxA : Nat:=0x024aa2b2f08f0a91260805272dc51051c6e47ad4fa403b02b4510b647ae3d1770bac0326a805bbefd48056c8c121bdb8
def qxB : Nat:=0x13e02b6052719f607dacd3a088274f65596bd0d09920b61ab5da61bbdc7f5049334cf11213945d57e5ac7d055d042b7e
def qyA : Nat:=0x0ce5d527727d6e118cc9cdc6da2e351aadfd9baa8cbdd3a76d429a695160d12c923ac9cc3baca289e193548608b82801
def qyB : Nat:=0x0606c4a02ea734cc32acd2b02bc28b99cb3e287e85a763af267492ab572e99ab3f370d275cec1da1aaa9075ff05f79be
theorem ord2_z : evP2.isz (evP2.mul2 ((qxA,qxB),(qyA,qyB),((1 : Nat),(0 : Nat))) 256 52435875175126190479447740508185965837690552500527637822603658699938581184513).2.2=true:=by kernel_rfl
end Cr
namespace Cr
open Rg Fd Go.Eng
abbrev V2:=Nat × Nat
abbrev V6:=V2 × V2 × V2
abbrev V12:=V6 × V6
noncomputable def q2 (a : V2) : F2:=evP2.φ a
noncomputable def q6 (a : V6) : F6:=(q2 a.1,q2 a.2.1,q2 a.2.2)
noncomputable def q12 (a : V12) : F12:=(q6 a.1,q6 a.2)
def fo2 {α : Type} (a : V2) (k : V2 -> α) : α:=fc a.1 fun x => fc a.2 fun y => k (x,y)
theorem fo2_eq {α : Type} (a : V2) (k : V2 -> α) : fo2 a k=k a:=by rw [fo2,fc_eq,fc_eq]
def fo6 {α : Type} (a : V6) (k : V6 -> α) : α:=fo2 a.1 fun x => fo2 a.2.1 fun y => fo2 a.2.2 fun z => k (x,y,z)
theorem fo6_eq {α : Type} (a : V6) (k : V6 -> α) : fo6 a k=k a:=by rw [fo6,fo2_eq,fo2_eq,fo2_eq]
def fo12 {α : Type} (a : V12) (k : V12 -> α) : α:=fo6 a.1 fun x => fo6 a.2 fun y => k (x,y)
theorem fo12_eq {α : Type} (a : V12) (k : V12 -> α) : fo12 a k=k a:=by rw [fo12,fo6_eq,fo6_eq]
def vadd (a b : V2) : V2:=(addN2 a.1 b.1,addN2 a.2 b.2)
def vsub (a b : V2) : V2:=(subN2 a.1 b.1,subN2 a.2 b.2)
def vmul (a b : V2) : V2:=(subN2 (a.1 * b.1) (a.2 * b.2),addN2 (a.1 * b.2) (a.2 * b.1))
def vxi (a : V2) : V2:=(subN2 a.1 a.2,addN2 a.1 a.2)
def vneg (a : V2) : V2:=vsub (0,0) a
def vcj (a : V2) : V2:=(a.1,subN2 0 a.2)
theorem q2_add (a b : V2) : q2 (vadd a b)=q2 a + q2 b:=evP2.add_φ a b
theorem q2_sub (a b : V2) : q2 (vsub a b)=q2 a - q2 b:=evP2.sub_φ a b
theorem q2_mul (a b : V2) : q2 (vmul a b)=q2 a * q2 b:=evP2.mul_φ a b
theorem q2_xi (a : V2) : q2 (vxi a)=xi * q2 a:=by
 rw [xi_mul]
 show (zm ((subN2 a.1 a.2 : Nat) : Int),zm ((addN2 a.1 a.2 : Nat) : Int))=_
 rw [addN2_φ,subN2_φ]; rfl
theorem q2_zero : q2 (0,0)=0:=rfl
theorem q2_neg (a : V2) : q2 (vneg a)=-q2 a:=by rw [vneg,q2_sub,q2_zero,zero_sub']
theorem q2_cj (a : V2) : q2 (vcj a)=((q2 a).1,-(q2 a).2):=by
 refine F2.ext rfl ?_
 show (zm ((subN2 0 a.2 : Nat) : Int) : Fp)=-zm (a.2 : Int)
 rw [subN2_φ]
 show (0 : Fp) - _=_
 rw [zero_sub']
def v6add (x y : V6) : V6:=(vadd x.1 y.1,vadd x.2.1 y.2.1,vadd x.2.2 y.2.2)
def v6sub (x y : V6) : V6:=(vsub x.1 y.1,vsub x.2.1 y.2.1,vsub x.2.2 y.2.2)
def v6vv (x : V6) : V6:=(vxi x.2.2,x.1,x.2.1)
def v6mul (x y : V6) : V6 :=
 fo2 (vmul x.1 y.1) fun a => fo2 (vmul x.2.1 y.2.1) fun b => fo2 (vmul x.2.2 y.2.2) fun c =>
 fo2 (vadd x.2.1 x.2.2) fun s1 => fo2 (vadd y.2.1 y.2.2) fun t1 => fo2 (vadd x.1 x.2.1) fun s2 => fo2 (vadd y.1 y.2.1) fun t2 => fo2 (vadd x.1 x.2.2) fun s3 => fo2 (vadd y.1 y.2.2) fun t3 =>
 fo2 (vsub (vsub (vmul s1 t1) b) c) fun d => fo2 (vsub (vsub (vmul s2 t2) a) b) fun e => fo2 (vsub (vsub (vmul s3 t3) a) c) fun f =>
 (vadd a (vxi d),vadd e (vxi c),vadd f b)
theorem q6_add (x y : V6) : q6 (v6add x y)=q6 x + q6 y:=by
 rw [F6.add_def]; simp only [q6,v6add,q2_add]
theorem q6_sub (x y : V6) : q6 (v6sub x y)=q6 x - q6 y:=by
 rw [F6.sub_def]; simp only [q6,v6sub,q2_sub]
theorem q6_vv (x : V6) : q6 (v6vv x)=vv * q6 x:=by
 rw [vv_mul]; simp only [q6,v6vv,q2_xi]
theorem q6_mul (x y : V6) : q6 (v6mul x y)=q6 x * q6 y:=by
 rw [<- tw_mul]
 simp only [v6mul,fo2_eq,q6,q2_add,q2_sub,q2_mul,q2_xi]
def v12mul (x y : V12) : V12 :=
 fo6 (v6mul x.1 y.1) fun a => fo6 (v6mul x.2 y.2) fun b => fo6 (v6add x.1 x.2) fun s => fo6 (v6add y.1 y.2) fun t =>
 fo6 (v6mul s t) fun m => fo6 (v6add a (v6vv b)) fun c => fo6 (v6sub (v6sub m a) b) fun d => (c,d)
def v12sq (x : V12) : V12 :=
 fo6 (v6mul x.1 x.2) fun a => fo6 (v6vv a) fun b => fo6 (v6add x.1 x.2) fun s => fo6 (v6add x.1 (v6vv x.2)) fun t =>
 fo6 (v6mul s t) fun m => fo6 (v6sub (v6sub m a) b) fun c => fo6 (v6add a a) fun d => (c,d)
theorem q12_mul (x y : V12) : q12 (v12mul x y)=q12 x * q12 y:=by
 rw [<- tw_emul]
 simp only [v12mul,fo6_eq,q12,q6_add,q6_sub,q6_mul,q6_vv]
theorem q12_sq (x : V12) : q12 (v12sq x)=q12 x * q12 x:=by
 rw [<- tw_esq]
 simp only [v12sq,fo6_eq,q12,q6_add,q6_sub,q6_mul,q6_vv]
def v6neg (x : V6) : V6:=v6sub ((0,0),(0,0),(0,0)) x
theorem q6_neg (x : V6) : q6 (v6neg x)=-q6 x:=by
 rw [v6neg,q6_sub]
 show (0 : F6) - _=_
 rw [zero_sub']
def v12cj (x : V12) : V12:=fo6 (v6neg x.2) fun y => (x.1,y)
theorem q12_cj (x : V12) : q12 (v12cj x)=conj12 (q12 x):=by
 simp only [v12cj,fo6_eq,q12,q6_neg]; rfl
def vone : V12:=(((1,0),(0,0),(0,0)),(0,0),(0,0),(0,0))
theorem q12_one : q12 vone=1:=rfl
def v12pw (x : V12) : Nat -> Nat -> V12
 | 0,_ => vone
 | f + 1,n => match Nat.beq n 0 with
  | true => vone
  | false => fo12 (v12pw x f (n / 2)) fun y => fo12 (v12sq y) fun z => match Nat.beq (n % 2) 1 with
   | true => v12mul z x
   | false => z
theorem q12_pw (x : V12) : ∀ f n,n < 2 ^ f -> q12 (v12pw x f n)=pwn (q12 x) n
 | 0,n,h => by
  have : n=0:=by simp at h; exact h
  subst this; exact q12_one
 | f + 1,n,h => by
  unfold v12pw
  split
  ·rename_i hn; have:=Nat.eq_of_beq_eq_true hn; subst this; exact q12_one
  ·have ih:=q12_pw x f (n / 2) (by rw [Nat.pow_succ] at h; omega)
   rw [fo12_eq,fo12_eq]
   split
   ·rename_i hn
    have h1:=Nat.eq_of_beq_eq_true hn
    have h2 : n=n / 2 + n / 2 + 1:=by omega
    rw [q12_mul,q12_sq,ih]
    conv => rhs; rw [h2]
    show _=pwn (q12 x) (n / 2 + n / 2) * q12 x
    rw [pwn_add]
   ·rename_i hn
    have h1 : n % 2 ≠ 1:=fun e => by rw [e] at hn; cases hn
    have h2 : n=n / 2 + n / 2:=by omega
    rw [q12_sq,ih]
    conv => rhs; rw [h2]
    rw [pwn_add]
def v12fr (r : V2) (x : V12) : V12 :=
 fo2 (vmul r r) fun r2 => fo2 (vmul r2 r2) fun r4 => fo2 (vmul r2 r) fun r3 => fo2 (vmul r4 r) fun r5 =>
 ((vcj x.1.1,vmul (vcj x.1.2.1) r2,vmul (vcj x.1.2.2) r4),(vmul (vcj x.2.1) r,vmul (vcj x.2.2.1) r3,vmul (vcj x.2.2.2) r5))
end Cr
namespace Cr
open Rg Fd
theorem i_lvt {F : Type} [Rg F] (x x1 y1 u l : F) : y1 + l * (x - x1)=- -(y1 + l * (u - x1)) + l * (x - u) :=
 rid [x,x1,y1,u,l] ((fun (x x1 y1 u l : PE) => (y1 + l * (x - x1))) (.v 0) (.v 1) (.v 2) (.v 3) (.v 4)) ((fun (x x1 y1 u l : PE) => (- -(y1 + l * (u - x1)) + l * (x - u))) (.v 0) (.v 1) (.v 2) (.v 3) (.v 4)) (by kernel_rfl)
theorem i_two {F : Type} [Rg F] (x y u v l m b : F) : (y - (-v + l * (x - u))) * (y - (v + m * (x - u))) - (x - u) * (x * x + (u + l * m) * x + (u * u - l * m * u + (l - m) * v) - (l + m) * y)=1 * (y * y - (x * x * x + b)) + (-1) * (v * v - (u * u * u + b)) :=
 rid [x,y,u,v,l,m,b] ((fun (x y u v l m b : PE) => ((y - (-v + l * (x - u))) * (y - (v + m * (x - u))) - (x - u) * (x * x + (u + l * m) * x + (u * u - l * m * u + (l - m) * v) - (l + m) * y))) (.v 0) (.v 1) (.v 2) (.v 3) (.v 4) (.v 5) (.v 6)) ((fun (x y u v l m b : PE) => (1 * (y * y - (x * x * x + b)) + (-1) * (v * v - (u * u * u + b)))) (.v 0) (.v 1) (.v 2) (.v 3) (.v 4) (.v 5) (.v 6)) (by kernel_rfl)
theorem i_nl {F : Type} [Rg F] (y a : F) : (y - a) * (y - -a)=y * y - a * a :=
 rid [y,a] ((fun (y a : PE) => ((y - a) * (y - -a))) (.v 0) (.v 1)) ((fun (y a : PE) => (y * y - a * a)) (.v 0) (.v 1)) (by kernel_rfl)
theorem i_nl2 {F : Type} [Rg F] (y1 l x x1 : F) : -y1 + -l * (x - x1)=-(y1 + l * (x - x1)) :=
 rid [y1,l,x,x1] ((fun (y1 l x x1 : PE) => (-y1 + -l * (x - x1))) (.v 0) (.v 1) (.v 2) (.v 3)) ((fun (y1 l x x1 : PE) => (-(y1 + l * (x - x1)))) (.v 0) (.v 1) (.v 2) (.v 3)) (by kernel_rfl)
theorem i_e2 {F : Type} [Rg F] (x1 y1 x2 y2 m : F) : (x1 * x2 + (x1 + x2) * (m * m - x1 - x2)) - -((y1 - m * x1) + (y1 - m * x1)) * m=1 * (m * (y1 + y2) - (x1 * x1 + x1 * x2 + x2 * x2)) + m * (m * (x2 - x1) - (y2 - y1)) :=
 rid [x1,y1,x2,y2,m] ((fun (x1 y1 x2 y2 m : PE) => ((x1 * x2 + (x1 + x2) * (m * m - x1 - x2)) - -((y1 - m * x1) + (y1 - m * x1)) * m)) (.v 0) (.v 1) (.v 2) (.v 3) (.v 4)) ((fun (x1 y1 x2 y2 m : PE) => (1 * (m * (y1 + y2) - (x1 * x1 + x1 * x2 + x2 * x2)) + m * (m * (x2 - x1) - (y2 - y1)))) (.v 0) (.v 1) (.v 2) (.v 3) (.v 4)) (by kernel_rfl)
theorem i_e3 {F : Type} [Rg F] (x1 y1 x2 y2 m b : F) : (x1 * x2 * (m * m - x1 - x2)) - ((y1 - m * x1) * (y1 - m * x1) - b)=(-1) * (y1 * y1 - (x1 * x1 * x1 + b)) + x1 * (m * (y1 + y2) - (x1 * x1 + x1 * x2 + x2 * x2)) + (m * x1) * (m * (x2 - x1) - (y2 - y1)) :=
 rid [x1,y1,x2,y2,m,b] ((fun (x1 y1 x2 y2 m b : PE) => ((x1 * x2 * (m * m - x1 - x2)) - ((y1 - m * x1) * (y1 - m * x1) - b))) (.v 0) (.v 1) (.v 2) (.v 3) (.v 4) (.v 5)) ((fun (x1 y1 x2 y2 m b : PE) => ((-1) * (y1 * y1 - (x1 * x1 * x1 + b)) + x1 * (m * (y1 + y2) - (x1 * x1 + x1 * x2 + x2 * x2)) + (m * x1) * (m * (x2 - x1) - (y2 - y1)))) (.v 0) (.v 1) (.v 2) (.v 3) (.v 4) (.v 5)) (by kernel_rfl)
theorem i_p3 {F : Type} [Rg F] (x1 x2 x3 d e : F) : (d * x1 + e) * (d * x2 + e) * (d * x3 + e)=d * d * d * (x1 * x2 * x3) + d * d * e * (x1 * x2 + (x1 + x2) * x3) + d * e * e * (x1 + x2 + x3) + e * e * e :=
 rid [x1,x2,x3,d,e] ((fun (x1 x2 x3 d e : PE) => ((d * x1 + e) * (d * x2 + e) * (d * x3 + e))) (.v 0) (.v 1) (.v 2) (.v 3) (.v 4)) ((fun (x1 x2 x3 d e : PE) => (d * d * d * (x1 * x2 * x3) + d * d * e * (x1 * x2 + (x1 + x2) * x3) + d * e * e * (x1 + x2 + x3) + e * e * e)) (.v 0) (.v 1) (.v 2) (.v 3) (.v 4)) (by kernel_rfl)
theorem i_e1 {F : Type} [Rg F] (x1 x2 m : F) : x1 + x2 + (m * m - x1 - x2)=m * m :=
 rid [x1,x2,m] ((fun (x1 x2 m : PE) => (x1 + x2 + (m * m - x1 - x2))) (.v 0) (.v 1) (.v 2)) ((fun (x1 x2 m : PE) => (m * m)) (.v 0) (.v 1) (.v 2)) (by kernel_rfl)
theorem i_rc {F : Type} [Rg F] (m l n k b : F) : (m - l) * (m - l) * (m - l) * (k * k - b) + (m - l) * (m - l) * (k - n) * (-(k + k) * m) + (m - l) * (k - n) * (k - n) * (m * m) + (k - n) * (k - n) * (k - n)=-((l - m) * (l - m) * (l - m) * (n * n - b) + (l - m) * (l - m) * (n - k) * (-(n + n) * l) + (l - m) * (n - k) * (n - k) * (l * l) + (n - k) * (n - k) * (n - k)) :=
 rid [m,l,n,k,b] ((fun (m l n k b : PE) => ((m - l) * (m - l) * (m - l) * (k * k - b) + (m - l) * (m - l) * (k - n) * (-(k + k) * m) + (m - l) * (k - n) * (k - n) * (m * m) + (k - n) * (k - n) * (k - n))) (.v 0) (.v 1) (.v 2) (.v 3) (.v 4)) ((fun (m l n k b : PE) => (-((l - m) * (l - m) * (l - m) * (n * n - b) + (l - m) * (l - m) * (n - k) * (-(n + n) * l) + (l - m) * (n - k) * (n - k) * (l * l) + (n - k) * (n - k) * (n - k)))) (.v 0) (.v 1) (.v 2) (.v 3) (.v 4)) (by kernel_rfl)
theorem i_lvd {F : Type} [Rg F] (x y a c xA yA xC yC l m : F) : (y - (yA + l * (x - xA))) - ((m - l) * x + ((yC - m * xC) - (yA - l * xA)))=(-1) * (m * (x - xC) - (y - yC)) :=
 rid [x,y,a,c,xA,yA,xC,yC,l,m] ((fun (x y a c xA yA xC yC l m : PE) => ((y - (yA + l * (x - xA))) - ((m - l) * x + ((yC - m * xC) - (yA - l * xA))))) (.v 0) (.v 1) (.v 2) (.v 3) (.v 4) (.v 5) (.v 6) (.v 7) (.v 8) (.v 9)) ((fun (x y a c xA yA xC yC l m : PE) => ((-1) * (m * (x - xC) - (y - yC)))) (.v 0) (.v 1) (.v 2) (.v 3) (.v 4) (.v 5) (.v 6) (.v 7) (.v 8) (.v 9)) (by kernel_rfl)
theorem i_sw {F : Type} [Rg F] (x1 y1 x2 y2 l x : F) : (y1 + l * (x - x1)) - (y2 + l * (x - x2))=1 * (l * (x2 - x1) - (y2 - y1)) :=
 rid [x1,y1,x2,y2,l,x] ((fun (x1 y1 x2 y2 l x : PE) => ((y1 + l * (x - x1)) - (y2 + l * (x - x2)))) (.v 0) (.v 1) (.v 2) (.v 3) (.v 4) (.v 5)) ((fun (x1 y1 x2 y2 l x : PE) => (1 * (l * (x2 - x1) - (y2 - y1)))) (.v 0) (.v 1) (.v 2) (.v 3) (.v 4) (.v 5)) (by kernel_rfl)
theorem i_nrm {F : Type} [Rg F] (x y x1 y1 x2 y2 l b : F) : (y * y - (y1 + l * (x - x1)) * (y1 + l * (x - x1))) - (x - x1) * (x - x2) * (x - (l * l - x1 - x2))=1 * (y * y - (x * x * x + b)) + (-1) * (y1 * y1 - (x1 * x1 * x1 + b)) + (-1) * (x - x1) * (l * (y1 + y2) - (x1 * x1 + x1 * x2 + x2 * x2)) + (-1) * (x - x1) * l * (l * (x2 - x1) - (y2 - y1)) :=
 rid [x,y,x1,y1,x2,y2,l,b] ((fun (x y x1 y1 x2 y2 l b : PE) => ((y * y - (y1 + l * (x - x1)) * (y1 + l * (x - x1))) - (x - x1) * (x - x2) * (x - (l * l - x1 - x2)))) (.v 0) (.v 1) (.v 2) (.v 3) (.v 4) (.v 5) (.v 6) (.v 7)) ((fun (x y x1 y1 x2 y2 l b : PE) => (1 * (y * y - (x * x * x + b)) + (-1) * (y1 * y1 - (x1 * x1 * x1 + b)) + (-1) * (x - x1) * (l * (y1 + y2) - (x1 * x1 + x1 * x2 + x2 * x2)) + (-1) * (x - x1) * l * (l * (x2 - x1) - (y2 - y1)))) (.v 0) (.v 1) (.v 2) (.v 3) (.v 4) (.v 5) (.v 6) (.v 7)) (by kernel_rfl)
theorem i_sw3 {F : Type} [Rg F] (a b c : F) : a * c * b=b * c * a :=
 rid [a,b,c] ((fun (a b c : PE) => (a * c * b)) (.v 0) (.v 1) (.v 2)) ((fun (a b c : PE) => (b * c * a)) (.v 0) (.v 1) (.v 2)) (by kernel_rfl)
theorem i_sw4 {F : Type} [Rg F] (a b c d : F) : a * b * c * d=a * b * d * c :=
 rid [a,b,c,d] ((fun (a b c d : PE) => (a * b * c * d)) (.v 0) (.v 1) (.v 2) (.v 3)) ((fun (a b c d : PE) => (a * b * d * c)) (.v 0) (.v 1) (.v 2) (.v 3)) (by kernel_rfl)
theorem i_sw5 {F : Type} [Rg F] (a b c : F) : a * b * c=a * c * b :=
 rid [a,b,c] ((fun (a b c : PE) => (a * b * c)) (.v 0) (.v 1) (.v 2)) ((fun (a b c : PE) => (a * c * b)) (.v 0) (.v 1) (.v 2)) (by kernel_rfl)
theorem i_sw6 {F : Type} [Rg F] (a b c : F) : a * b * c=b * c * a :=
 rid [a,b,c] ((fun (a b c : PE) => (a * b * c)) (.v 0) (.v 1) (.v 2)) ((fun (a b c : PE) => (b * c * a)) (.v 0) (.v 1) (.v 2)) (by kernel_rfl)
theorem i_mm {F : Type} [Rg F] (y a : F) : -y - a=-(y - -a) :=
 rid [y,a] ((fun (y a : PE) => (-y - a)) (.v 0) (.v 1)) ((fun (y a : PE) => (-(y - -a))) (.v 0) (.v 1)) (by kernel_rfl)
theorem i_ns {F : Type} [Rg F] (a c : F) : a - c=-(c - a) :=
 rid [a,c] ((fun (a c : PE) => (a - c)) (.v 0) (.v 1)) ((fun (a c : PE) => (-(c - a))) (.v 0) (.v 1)) (by kernel_rfl)
theorem i_sw7 {F : Type} [Rg F] (a b c : F) : a * b * c=c * b * a :=
 rid [a,b,c] ((fun (a b c : PE) => (a * b * c)) (.v 0) (.v 1) (.v 2)) ((fun (a b c : PE) => (c * b * a)) (.v 0) (.v 1) (.v 2)) (by kernel_rfl)
theorem i_sw8 {F : Type} [Rg F] (a b c : F) : a * b * c=c * a * b :=
 rid [a,b,c] ((fun (a b c : PE) => (a * b * c)) (.v 0) (.v 1) (.v 2)) ((fun (a b c : PE) => (c * a * b)) (.v 0) (.v 1) (.v 2)) (by kernel_rfl)
theorem i_z1 {F : Type} [Rg F] (m x y : F) : m * (x - x)=y - y :=
 rid [m,x,y] ((fun (m x y : PE) => (m * (x - x))) (.v 0) (.v 1) (.v 2)) ((fun (m x y : PE) => (y - y)) (.v 0) (.v 1) (.v 2)) (by kernel_rfl)
section
variable {F : Type} [Fd F] {b : F}
def lv (A : F × F) (l : F) (R : F × F) : F:=R.2 - (A.2 + l * (R.1 - A.1))
theorem lv_third (P : F × F) (l u : F) (R : F × F) : lv P l R=R.2 - (- -(P.2 + l * (u - P.1)) + l * (R.1 - u)):=by
 unfold lv; rw [i_lvt R.1 P.1 P.2 u l]
theorem lv_two {P Q D R : F × F} {l m : F} (hl : LnP P Q l) (hD : D=(sx P.1 Q.1 l,sy P.1 P.2 Q.1 l)) (oP : OnF b P) (oR : OnF b R) : lv P l R * lv D m R=(R.1 - D.1) * fn D.1 D.2 l m R.1 R.2:=by
 have oD : OnF b D:=by rw [hD]; exact hl.sum_on oP
 have e1 : lv P l R=R.2 - (-D.2 + l * (R.1 - D.1)):=by rw [lv_third P l D.1 R,hD]; rfl
 rw [e1]
 exact lc2 _ _ (i_two R.1 R.2 D.1 D.2 l m b) oR oD
theorem lv_d {A C : F × F} {l m x y : F} (h : m * (x - C.1)=y - C.2) : lv A l (x,y)=(m - l) * x + ((C.2 - m * C.1) - (A.2 - l * A.1)):=lc1 _ (i_lvd x y 0 0 A.1 A.2 C.1 C.2 l m) h
theorem lv_prod {A C D : F × F} {l m : F} (h : LnP C D m) (oC : OnF b C) : lv A l C * lv A l D * lv A l (sx C.1 D.1 m,-sy C.1 C.2 D.1 m) =
  (m - l) * (m - l) * (m - l) * ((C.2 - m * C.1) * (C.2 - m * C.1) - b) + (m - l) * (m - l) * ((C.2 - m * C.1) - (A.2 - l * A.1)) * (-((C.2 - m * C.1) + (C.2 - m * C.1)) * m) + (m - l) * ((C.2 - m * C.1) - (A.2 - l * A.1)) * ((C.2 - m * C.1) - (A.2 - l * A.1)) * (m * m) + ((C.2 - m * C.1) - (A.2 - l * A.1)) * ((C.2 - m * C.1) - (A.2 - l * A.1)) * ((C.2 - m * C.1) - (A.2 - l * A.1)):=by
 have h1 : lv A l C=_:=lv_d (A:=A) (C:=C) (l:=l) (m:=m) (x:=C.1) (y:=C.2) (i_z1 m C.1 C.2)
 have h2 : lv A l D=_:=lv_d (A:=A) (C:=C) (l:=l) (m:=m) (x:=D.1) (y:=D.2) h.1
 have h3:=lv_d (A:=A) (C:=C) (l:=l) (m:=m) (x:=sx C.1 D.1 m) (y:=-sy C.1 C.2 D.1 m) h.third.1
 rw [h1,h2,h3,i_p3]
 have g3 : C.1 * D.1 * sx C.1 D.1 m=(C.2 - m * C.1) * (C.2 - m * C.1) - b:=lc3 _ _ _ (i_e3 C.1 C.2 D.1 D.2 m b) oC h.2 h.1
 have g2 : C.1 * D.1 + (C.1 + D.1) * sx C.1 D.1 m=-((C.2 - m * C.1) + (C.2 - m * C.1)) * m:=lc2 _ _ (i_e2 C.1 C.2 D.1 D.2 m) h.2 h.1
 have g1 : C.1 + D.1 + sx C.1 D.1 m=m * m:=i_e1 C.1 D.1 m
 rw [g1,g2,g3]
theorem lv_rec {A B C D : F × F} {l m : F} (h : LnP A B l) (k : LnP C D m) (oA : OnF b A) (oC : OnF b C) :
  lv A l C * lv A l D * lv A l (sx C.1 D.1 m,-sy C.1 C.2 D.1 m)=-(lv C m A * lv C m B * lv C m (sx A.1 B.1 l,-sy A.1 A.2 B.1 l)):=by
 rw [lv_prod k oC,lv_prod h oA]
 exact i_rc m l (A.2 - l * A.1) (C.2 - m * C.1) b
variable (hb : b ≠ 0)
include hb
theorem fn_same {xP yP xQ yQ xR yR l m u v l' m' : F} (oP : On b xP yP) (oR : On b xR yR) (hl : Ln xP yP xQ yQ l) (hm : Ln (sx xP xQ l) (sy xP yP xQ l) xR yR m)
  (T2 : xP + xQ + (u + l' * m')=(l' + m') * l) (f2P : fn u v l' m' xP yP=0) (f2R : fn u v l' m' xR yR=0) (h1 : xR ≠ xP) (h2 : xR ≠ xQ) (x y : F) :
  fn (sx xP xQ l) (sy xP yP xQ l) l m x y=fn u v l' m' x y:=by
 have f1P : fn (sx xP xQ l) (sy xP yP xQ l) l m xP yP=0:=fn1 hl.third
 have f1R : fn (sx xP xQ l) (sy xP yP xQ l) l m xR yR=0:=fn2 hm
 have T1 : xP + xQ + (sx xP xQ l + l * m)=(l + m) * l:=i_T1 xP xQ l m
 have hne : yR ≠ yP + l * (xR - xP):=by
  intro hy
  rcases hl.which oP oR hy with e | e | e
  ·exact h1 e
  ·exact h2 e
  ·refine hm.not_neg hb (hl.sum_on oP) ⟨e.symm,?_⟩
   unfold sy
   rw [neg_neg,<- e]
   exact hy
 obtain ⟨e1,e2,e3⟩:=same f1P f1R f2P f2R T1 T2 hne
 unfold fn
 rw [e1,e2,e3]
end
section
variable {F : Type} [Fd F] {b : F}
noncomputable def Vt (A R : F × F) : F:=if A=O2 then 1 else R.1 - A.1
noncomputable def Lt (A B R : F × F) : F:=if A=O2 then Vt B R else if B=O2 then Vt A R else if A.1=B.1 /\ B.2=-A.2 then R.1 - A.1 else lv A (slope A.1 A.2 B.1 B.2) R
theorem Vt_O (R : F × F) : Vt (O2 : F × F) R=1:=by unfold Vt; rw [if_pos rfl]
theorem Vt_on {A : F × F} (o : OnF b A) (hb : b ≠ 0) (R : F × F) : Vt A R=R.1 - A.1:=by unfold Vt; rw [if_neg (on_ne hb o)]
theorem Vt_neg (A R : F × F) : Vt (pneg A) R=Vt A R:=by
 unfold Vt
 by_cases h : A=O2
 ·subst h; rw [pneg_O]
 ·rw [if_neg h,if_neg (fun e => h (by have:=congrArg pneg e; rwa [pneg_pneg,pneg_O] at this))]; rfl
theorem Lt_O (B R : F × F) : Lt O2 B R=Vt B R:=by unfold Lt; rw [if_pos rfl]
theorem Lt_O' (A R : F × F) : Lt A O2 R=Vt A R:=by
 unfold Lt
 split
 ·rename_i h; rw [h]
 ·rw [if_pos rfl]
variable (hb : b ≠ 0)
include hb
theorem Lt_ln {A B : F × F} {l : F} (oA : OnF b A) (oB : OnF b B) (h : LnP A B l) (R : F × F) : Lt A B R=lv A l R:=by
 have hn:=h.not_neg hb oA
 unfold Lt
 rw [if_neg (on_ne hb oA),if_neg (on_ne hb oB),if_neg hn]
 rw [Ln.unique hb (slope_ln oA oB hn) h oA]
omit hb in
theorem Lt_neg (A R : F × F) : Lt A (pneg A) R=Vt A R:=by
 by_cases h : A=O2
 ·subst h; rw [pneg_O,Lt_O]
 ·unfold Lt Vt
  rw [if_neg h,if_neg (fun e => h (by have:=congrArg pneg e; rwa [pneg_pneg,pneg_O] at this)),if_pos ⟨rfl,rfl⟩,if_neg h]
omit hb in
theorem lv_symm {A B : F × F} {l : F} (h : LnP A B l) (R : F × F) : lv A l R=lv B l R:=by
 have e : A.2 + l * (R.1 - A.1)=B.2 + l * (R.1 - B.1):=lc1 1 (i_sw A.1 A.2 B.1 B.2 l R.1) h.1
 unfold lv; rw [e]
theorem Lt_comm {A B : F × F} (oA : OnP b A) (oB : OnP b B) (R : F × F) : Lt A B R=Lt B A R:=by
 rcases oA with rfl | oA
 ·rw [Lt_O,Lt_O']
 rcases oB with rfl | oB
 ·rw [Lt_O,Lt_O']
 rcases ln_or oA oB with rfl | ⟨l,h⟩
 ·rw [Lt_neg]
  have:=Lt_neg (pneg A) R
  rw [pneg_pneg] at this
  rw [this,Vt_neg]
 ·rw [Lt_ln hb oA oB h,Lt_ln hb oB oA h.symm,lv_symm h]
theorem Lt_norm {A B R : F × F} (oA : OnP b A) (oB : OnP b B) (oR : OnF b R) : Lt A B R * Lt (pneg A) (padd A B) R=Vt A R * Vt B R * Vt (padd A B) R:=by
 rcases oA with rfl | oA
 ·rw [pneg_O,O_add,Lt_O,Vt_O,one_mul]
 rcases oB with rfl | oB
 ·rw [add_O,Lt_O',Vt_O,mul_one]
  have:=Lt_neg (pneg A) R
  rw [pneg_pneg] at this
  rw [this,Vt_neg]
 rcases ln_or oA oB with rfl | ⟨l,h⟩
 ·rw [add_neg_self,Lt_neg,Lt_O',Vt_O,Vt_neg,mul_one]
 ·have ht:=h.third
  have hn : LnP (pneg A) (sx A.1 B.1 l,sy A.1 A.2 B.1 l) (-l):=⟨lc1 _ (i_n1 A.1 A.2 _ _ l) ht.1,lc1 _ (i_n2 A.1 A.2 _ _ l) ht.2⟩
  have oS : OnF b (sx A.1 B.1 l,sy A.1 A.2 B.1 l):=h.sum_on oA
  rw [padd_ln hb oA oB h,Lt_ln hb oA oB h,Lt_ln hb (pneg_on oA) oS hn,Vt_on oA hb,Vt_on oB hb,Vt_on oS hb]
  have e1 : lv (pneg A) (-l) R=R.2 - -(A.2 + l * (R.1 - A.1)):=by
   show R.2 - (-A.2 + -l * (R.1 - A.1))=_
   rw [i_nl2]
  rw [e1]
  show (R.2 - (A.2 + l * (R.1 - A.1))) * _=_
  rw [i_nl]
  have:=i_on A.1 A.2 B.1 B.2 l R.1 b
  exact lc4 _ _ _ _ (i_nrm R.1 R.2 A.1 A.2 B.1 B.2 l b) oR oA h.2 h.1
theorem Lt_turn {A B R : F × F} (oA : OnP b A) (oB : OnP b B) : Lt A B R=Lt B (pneg (padd A B)) R:=by
 rcases oA with rfl | oA
 ·rw [O_add,Lt_O,Lt_neg]
 rcases oB with rfl | oB
 ·rw [add_O,Lt_O,Lt_O',Vt_neg]
 rcases ln_or oA oB with rfl | ⟨l,h⟩
 ·rw [add_neg_self,pneg_O,Lt_O',Lt_neg,Vt_neg]
 ·have oS : OnF b (sx A.1 B.1 l,sy A.1 A.2 B.1 l):=h.sum_on oA
  rw [padd_ln hb oA oB h,Lt_ln hb oA oB h,lv_symm h]
  exact (Lt_ln hb oB (pneg_on oS) h.third' R).symm
theorem cyc_two {P R T : F × F} (oP : OnF b P) (oR : OnF b R) (oT : OnF b T) (h1 : R.1 ≠ P.1) {l m l' m' : F} (hl : LnP P P l) (hm : LnP (sx P.1 P.1 l,sy P.1 P.2 P.1 l) R m) (hl' : LnP P R l') (hm' : LnP P (sx P.1 R.1 l',sy P.1 P.2 R.1 l') m') :
  Lt P P T * Lt (padd P P) R T * Vt (padd P R) T=Lt P R T * Lt P (padd P R) T * Vt (padd P P) T:=by
 have oU : OnF b (sx P.1 P.1 l,sy P.1 P.2 P.1 l):=hl.sum_on oP
 have oV : OnF b (sx P.1 R.1 l',sy P.1 P.2 R.1 l'):=hl'.sum_on oP
 rw [padd_ln hb oP oP hl,padd_ln hb oP oR hl',Lt_ln hb oP oP hl,Lt_ln hb oU oR hm,Lt_ln hb oP oR hl',Lt_ln hb oP oV hm',lv_symm hm',lv_two hl rfl oP oT,lv_two hl' rfl oP oT,Vt_on oV hb,Vt_on oU hb]
 have hV : sx P.1 R.1 l' ≠ P.1:=by
  intro e
  have hn:=hm'.not_neg hb oP
  have e2 : sy P.1 P.2 R.1 l'=P.2:=by
   have : (sy P.1 P.2 R.1 l' - P.2) * (sy P.1 P.2 R.1 l' + P.2)=0:=by
    have oV : sy P.1 P.2 R.1 l' * sy P.1 P.2 R.1 l'=_:=oV
    have oP : P.2 * P.2=P.1 * P.1 * P.1 + b:=oP
    rw [i_dsq,oV,oP]
    show sx P.1 R.1 l' * sx P.1 R.1 l' * sx P.1 R.1 l' + b - _=0
    rw [e,sub_self]
   rcases mul_eq_zero this with h | h
   ·exact eq_of_sub h
   ·exact absurd ⟨e.symm,(neg_eq (by rw [add_comm]; exact h)).symm⟩ hn
  have hc:=cancel hb (.inr oP) (.inr oR)
  rw [padd_ln hb oP oR hl',e,e2] at hc
  have : padd (pneg P) P=R:=hc
  rw [neg_add_self] at this
  exact on_ne hb oR this.symm
 have T2 : P.1 + P.1 + (sx P.1 R.1 l' + l' * m')=(l' + m') * l:=by
  have e:=lc4 _ _ _ _ (i_t3 P.1 P.2 (sx P.1 R.1 l') (sy P.1 P.2 R.1 l') l' m' l) hl'.third.1 hm'.1 hl'.third.2 hl.2
  exact eq_of_sub ((mul_eq_zero e).resolve_left (sub_ne hV))
 have e:=fn_same (u:=sx P.1 R.1 l') (v:=sy P.1 P.2 R.1 l') (l':=l') (m':=m') hb oP oR hl hm T2 (fn1 hl'.third) (fn1 hl'.third') h1 h1 T.1 T.2
 show _ * fn (sx P.1 P.1 l) (sy P.1 P.2 P.1 l) l m T.1 T.2 * _=_ * fn (sx P.1 R.1 l') (sy P.1 P.2 R.1 l') l' m' T.1 T.2 * _
 rw [e]
 exact i_sw3 _ _ _
theorem cyc_three {P Q R T : F × F} (oP : OnF b P) (oQ : OnF b Q) (oR : OnF b R) (oT : OnF b T) (h0 : Q.1 ≠ P.1) (h1 : R.1 ≠ P.1) (h2 : R.1 ≠ Q.1) {l m l' m' : F} (hl : LnP P Q l) (hm : LnP (sx P.1 Q.1 l,sy P.1 P.2 Q.1 l) R m) (hl' : LnP Q R l') (hm' : LnP P (sx Q.1 R.1 l',sy Q.1 Q.2 R.1 l') m') :
  Lt P Q T * Lt (padd P Q) R T * Vt (padd Q R) T=Lt Q R T * Lt P (padd Q R) T * Vt (padd P Q) T:=by
 have oU : OnF b (sx P.1 Q.1 l,sy P.1 P.2 Q.1 l):=hl.sum_on oP
 have oV : OnF b (sx Q.1 R.1 l',sy Q.1 Q.2 R.1 l'):=hl'.sum_on oQ
 rw [padd_ln hb oP oQ hl,padd_ln hb oQ oR hl',Lt_ln hb oP oQ hl,Lt_ln hb oU oR hm,Lt_ln hb oQ oR hl',Lt_ln hb oP oV hm',lv_symm hm',lv_two hl rfl oP oT,lv_two hl' rfl oQ oT,Vt_on oV hb,Vt_on oU hb]
 have f2P : fn (sx Q.1 R.1 l') (sy Q.1 Q.2 R.1 l') l' m' P.1 P.2=0:=fn2 hm'.symm
 have f2Q : fn (sx Q.1 R.1 l') (sy Q.1 Q.2 R.1 l') l' m' Q.1 Q.2=0:=fn1 hl'.third
 have T2 : P.1 + Q.1 + (sx Q.1 R.1 l' + l' * m')=(l' + m') * l:=by
  have e:=lc3 _ _ _ (i_t2 P.1 Q.1 (sx Q.1 R.1 l' + l' * m') (l' + m') l P.2 Q.2 _) f2Q f2P hl.1
  exact eq_of_sub ((mul_eq_zero e).resolve_left (sub_ne h0))
 have e:=fn_same (u:=sx Q.1 R.1 l') (v:=sy Q.1 Q.2 R.1 l') (l':=l') (m':=m') hb oP oR hl hm T2 f2P (fn1 hl'.third') h1 h2 T.1 T.2
 show _ * fn (sx P.1 Q.1 l) (sy P.1 P.2 Q.1 l) l m T.1 T.2 * _=_ * fn (sx Q.1 R.1 l') (sy Q.1 Q.2 R.1 l') l' m' T.1 T.2 * _
 rw [e]
 exact i_sw3 _ _ _
theorem cyc {P Q R T : F × F} (oP : OnP b P) (oQ : OnP b Q) (oR : OnP b R) (oT : OnF b T) : Lt P Q T * Lt (padd P Q) R T * Vt (padd Q R) T=Lt Q R T * Lt P (padd Q R) T * Vt (padd P Q) T:=by
 have oPQ:=padd_on hb oP oQ
 have oQR:=padd_on hb oQ oR
 by_cases c1 : Q=pneg P
 ·subst c1
  rw [Lt_neg,add_neg_self,Lt_O,Vt_O,mul_one]
  have n:=Lt_norm hb (pneg_onP oP) oR oT
  rw [pneg_pneg,Vt_neg] at n
  exact n.symm
 by_cases c2 : R=pneg Q
 ·subst c2
  rw [Lt_neg,add_neg_self,Lt_O',Vt_O,mul_one]
  have n:=Lt_norm hb oQ oP oT
  rw [Lt_comm hb oPQ (pneg_onP oQ),Lt_comm hb oP oQ,padd_comm hb oP oQ]
  exact n
 by_cases c3 : R=P
 ·subst c3
  rw [Lt_comm hb oPQ oR,padd_comm hb oR oQ,Lt_comm hb oR oQ]
 by_cases c4 : R=pneg P
 ·subst c4
  have n1:=Lt_norm hb oP oQ oT
  have n2:=Lt_norm hb (pneg_onP oP) oQ oT
  rw [pneg_pneg,Vt_neg] at n2
  rw [Lt_comm hb oPQ (pneg_onP oP),n1,padd_comm hb oQ (pneg_onP oP),Lt_comm hb oQ (pneg_onP oP),n2]
  exact i_sw4 _ _ _ _
 by_cases c5 : R=pneg (padd P Q)
 ·have k:=turn hb oP oQ c5
  rw [k,Vt_neg,Lt_neg,c5,Lt_neg,<- Lt_turn hb oP oQ]
  exact i_sw5 _ _ _
 by_cases c6 : padd Q R=pneg P
 ·exfalso
  refine c5 ?_
  have h1 : P=pneg (padd Q R):=by rw [c6,pneg_pneg]
  have h2 : padd R P=pneg Q:=turn hb oQ oR h1
  have h4 : Q=pneg (padd R P):=by rw [h2,pneg_pneg]
  have h5 : padd P Q=pneg R:=turn hb oR oP h4
  rw [h5,pneg_pneg]
 rcases oP with rfl | oP
 ·rw [O_add,Lt_O,Lt_O]
  exact i_sw6 _ _ _
 rcases oQ with rfl | oQ
 ·rw [O_add,add_O,Lt_O',Lt_O]
  exact i_sw7 _ _ _
 rcases oR with rfl | oR
 ·rw [add_O,Lt_O',Lt_O']
  exact i_sw8 _ _ _
 obtain ⟨l,hl⟩:=(ln_or oP oQ).resolve_left c1
 obtain ⟨l',hl'⟩:=(ln_or oQ oR).resolve_left c2
 have eU:=padd_ln hb oP oQ hl
 have eV:=padd_ln hb oQ oR hl'
 have oU : OnF b (padd P Q):=by rw [eU]; exact hl.sum_on oP
 have oV : OnF b (padd Q R):=by rw [eV]; exact hl'.sum_on oQ
 obtain ⟨m,hm⟩:=(ln_or oU oR).resolve_left c5
 obtain ⟨m',hm'⟩:=(ln_or oP oV).resolve_left c6
 rw [eU] at hm
 rw [eV] at hm'
 have n1 : R.1 ≠ P.1:=x_ne oP oR c3 c4
 by_cases c7 : Q=P
 ·subst c7
  exact cyc_two hb oP oR oT n1 hl hm hl' hm'
 by_cases c8 : R=Q
 ·subst c8
  have k:=hl.symm
  rw [Lt_comm hb oPQ (.inr oR),padd_comm hb (.inr oP) (.inr oR),Lt_comm hb (.inr oP) (.inr oR),Lt_comm hb (.inr oP) oQR]
  have n2 : P.1 ≠ R.1:=fun e => n1 e.symm
  refine (cyc_two hb oR oP oT n2 (m:=m') (m':=m) hl' hm'.symm k ?_).symm
  have hm:=hm.symm
  rw [sx_symm P.1,sy_symm hl] at hm
  exact hm
 exact cyc_three hb oP oQ oR oT (x_ne oP oQ c7 c1) n1 (x_ne oQ oR c8 c2) hl hm hl' hm'
end
end Cr
namespace Cr
open Rg Fd
section
variable {F : Type} [Fd F] {b : F}
instance mulAssoc : Std.Associative (α:=F) (fun x y => x * y):=⟨mul_assoc⟩
instance mulComm : Std.Commutative (α:=F) (fun x y => x * y):=⟨mul_comm⟩
theorem dbl_ne {A : F × F} (h : padd A A ≠ O2) : A ≠ O2:=by rintro rfl; exact h (O_add _)
structure Kill (F : Type) [Fd F] where
 χ : F -> F
 mul : ∀ x y,χ (x * y)=χ x * χ y
 one : χ 1=1
 neg : χ (-1)=1
theorem Kill.neg' (K : Kill F) (x : F) : K.χ (-x)=K.χ x:=by
 have e : -x=-1 * x:=by rw [neg_mul,one_mul]
 rw [e,K.mul,K.neg,one_mul]
noncomputable def mlS (Q R : F × F) (s : F × (F × F)) : Bool -> F × (F × F)
 | false => (s.1 * s.1 * Lt s.2 s.2 R,padd s.2 s.2)
 | true => (s.1 * s.1 * Lt s.2 s.2 R * Lt (padd s.2 s.2) Q R,padd (padd s.2 s.2) Q)
noncomputable def ml (Q R : F × F) (l : List Bool) : F × (F × F):=l.foldl (mlS Q R) (1,Q)
def mpwS (x c : F) : Bool -> F
 | false => c * c
 | true => c * c * x
def mpw (x : F) (l : List Bool) : F:=l.foldl (mpwS x) x
variable (K : Kill F)
structure Grp (b : F) (K : Kill F) (R : F × F) (S : F × F -> Prop) : Prop where
 on : ∀ A,S A -> OnP b A
 add : ∀ A B,S A -> S B -> S (padd A B)
 vt : ∀ A,S A -> K.χ (Vt A R)=1
variable {R : F × F} {S : F × F -> Prop} (hb : b ≠ 0) (oR : OnF b R) (g : Grp b K R S)
include hb
theorem padd_med {A B C D : F × F} (a : OnP b A) (c : OnP b B) (d : OnP b C) (e : OnP b D) : padd (padd A B) (padd C D)=padd (padd A C) (padd B D):=by
 rw [padd_assoc hb a c (padd_on hb d e),padd_assoc hb a d (padd_on hb c e),<- padd_assoc hb c d e,<- padd_assoc hb d c e,padd_comm hb c d]
include oR g
theorem la_cyc {P Q T : F × F} (sP : S P) (sQ : S Q) (sT : S T) : K.χ (Lt P Q R) * K.χ (Lt (padd P Q) T R)=K.χ (Lt Q T R) * K.χ (Lt P (padd Q T) R):=by
 have h:=congrArg K.χ (cyc hb (g.on _ sP) (g.on _ sQ) (g.on _ sT) oR)
 rw [K.mul,K.mul,K.mul,K.mul,g.vt _ (g.add _ _ sQ sT),g.vt _ (g.add _ _ sP sQ),mul_one,mul_one] at h
 exact h
omit oR in
theorem la_comm {P Q : F × F} (sP : S P) (sQ : S Q) : K.χ (Lt P Q R)=K.χ (Lt Q P R):=by
 show K.χ _=K.χ _
 rw [Lt_comm hb (g.on _ sP) (g.on _ sQ)]
theorem la_four1 {X Y A B : F × F} (sX : S X) (sY : S Y) (sA : S A) (sB : S B) : K.χ (Lt X Y R) * K.χ (Lt A B R) * K.χ (Lt (padd X Y) (padd A B) R)=K.χ (Lt Y A R) * K.χ (Lt X (padd Y A) R) * K.χ (Lt (padd X (padd Y A)) B R):=by
 have h1:=la_cyc K hb oR g sX sY (g.add _ _ sA sB)
 have h2:=la_cyc K hb oR g sY sA sB
 have h3:=la_cyc K hb oR g sX (g.add _ _ sY sA) sB
 rw [padd_assoc hb (g.on _ sY) (g.on _ sA) (g.on _ sB)] at h3
 have e1 : K.χ (Lt X Y R) * K.χ (Lt A B R) * K.χ (Lt (padd X Y) (padd A B) R)=K.χ (Lt X Y R) * K.χ (Lt (padd X Y) (padd A B) R) * K.χ (Lt A B R):=by ac_rfl
 rw [e1,h1]
 have e2 : K.χ (Lt Y (padd A B) R) * K.χ (Lt X (padd Y (padd A B)) R) * K.χ (Lt A B R)=K.χ (Lt A B R) * K.χ (Lt Y (padd A B) R) * K.χ (Lt X (padd Y (padd A B)) R):=by ac_rfl
 rw [e2,<- h2]
 have e3 : K.χ (Lt Y A R) * K.χ (Lt (padd Y A) B R) * K.χ (Lt X (padd Y (padd A B)) R)=K.χ (Lt Y A R) * (K.χ (Lt (padd Y A) B R) * K.χ (Lt X (padd Y (padd A B)) R)):=by ac_rfl
 rw [e3,<- h3]
 ac_rfl
theorem la_four {X Y A B : F × F} (sX : S X) (sY : S Y) (sA : S A) (sB : S B) : K.χ (Lt X Y R) * K.χ (Lt A B R) * K.χ (Lt (padd X Y) (padd A B) R)=K.χ (Lt X A R) * K.χ (Lt Y B R) * K.χ (Lt (padd X A) (padd Y B) R):=by
 rw [la_four1 K hb oR g sX sY sA sB,la_four1 K hb oR g sX sA sY sB,la_comm K hb g sY sA,padd_comm hb (g.on _ sY) (g.on _ sA)]
def InvQ (K : Kill F) (R : F × F) (S : F × F -> Prop) (sS sA sB : F × (F × F)) (c : F) : Prop :=
 S sA.2 /\ S sB.2 /\ sS.2=padd sA.2 sB.2 /\ K.χ sS.1 * c=K.χ sA.1 * K.χ sB.1 * K.χ (Lt sA.2 sB.2 R)
theorem invQ_dbl {sS sA sB : F × (F × F)} {c : F} (A B : F × F) (x : F) (h : InvQ K R S sS sA sB c) : InvQ K R S (mlS (padd A B) R sS false) (mlS A R sA false) (mlS B R sB false) (mpwS x c false):=by
 obtain ⟨h1,h2,h3,h4⟩:=h
 refine ⟨g.add _ _ h1 h1,g.add _ _ h2 h2,?_,?_⟩
 ·show padd sS.2 sS.2=padd (padd sA.2 sA.2) (padd sB.2 sB.2)
  rw [h3]; exact padd_med hb (g.on _ h1) (g.on _ h2) (g.on _ h1) (g.on _ h2)
 ·show K.χ (sS.1 * sS.1 * Lt sS.2 sS.2 R) * (c * c)=K.χ (sA.1 * sA.1 * Lt sA.2 sA.2 R) * K.χ (sB.1 * sB.1 * Lt sB.2 sB.2 R) * K.χ (Lt (padd sA.2 sA.2) (padd sB.2 sB.2) R)
  have f:=la_four K hb oR g h1 h2 h1 h2
  rw [K.mul,K.mul,K.mul,K.mul,K.mul,K.mul,h3]
  have e : K.χ sS.1 * K.χ sS.1 * K.χ (Lt (padd sA.2 sB.2) (padd sA.2 sB.2) R) * (c * c)=(K.χ sS.1 * c) * (K.χ sS.1 * c) * K.χ (Lt (padd sA.2 sB.2) (padd sA.2 sB.2) R):=by ac_rfl
  rw [e,h4]
  have e2 : K.χ sA.1 * K.χ sB.1 * K.χ (Lt sA.2 sB.2 R) * (K.χ sA.1 * K.χ sB.1 * K.χ (Lt sA.2 sB.2 R)) * K.χ (Lt (padd sA.2 sB.2) (padd sA.2 sB.2) R)=K.χ sA.1 * K.χ sB.1 * (K.χ sA.1 * K.χ sB.1) * (K.χ (Lt sA.2 sB.2 R) * K.χ (Lt sA.2 sB.2 R) * K.χ (Lt (padd sA.2 sB.2) (padd sA.2 sB.2) R)):=by ac_rfl
  rw [e2,f]
  ac_rfl
theorem invQ_add {A B : F × F} {sS sA sB : F × (F × F)} {c : F} (sa : S A) (sb : S B) (h : InvQ K R S sS sA sB c) :
  InvQ K R S (sS.1 * Lt sS.2 (padd A B) R,padd sS.2 (padd A B)) (sA.1 * Lt sA.2 A R,padd sA.2 A) (sB.1 * Lt sB.2 B R,padd sB.2 B) (c * K.χ (Lt A B R)):=by
 obtain ⟨h1,h2,h3,h4⟩:=h
 refine ⟨g.add _ _ h1 sa,g.add _ _ h2 sb,?_,?_⟩
 ·show padd sS.2 (padd A B)=padd (padd sA.2 A) (padd sB.2 B)
  rw [h3]; exact padd_med hb (g.on _ h1) (g.on _ h2) (g.on _ sa) (g.on _ sb)
 ·show K.χ (sS.1 * Lt sS.2 (padd A B) R) * (c * K.χ (Lt A B R))=K.χ (sA.1 * Lt sA.2 A R) * K.χ (sB.1 * Lt sB.2 B R) * K.χ (Lt (padd sA.2 A) (padd sB.2 B) R)
  have f:=la_four K hb oR g h1 h2 sa sb
  rw [K.mul,K.mul,K.mul,h3]
  have e : K.χ sS.1 * K.χ (Lt (padd sA.2 sB.2) (padd A B) R) * (c * K.χ (Lt A B R))=(K.χ sS.1 * c) * (K.χ (Lt A B R) * K.χ (Lt (padd sA.2 sB.2) (padd A B) R)):=by ac_rfl
  rw [e,h4]
  have e2 : K.χ sA.1 * K.χ sB.1 * K.χ (Lt sA.2 sB.2 R) * (K.χ (Lt A B R) * K.χ (Lt (padd sA.2 sB.2) (padd A B) R))=K.χ sA.1 * K.χ sB.1 * (K.χ (Lt sA.2 sB.2 R) * K.χ (Lt A B R) * K.χ (Lt (padd sA.2 sB.2) (padd A B) R)):=by ac_rfl
  rw [e2,f]
  ac_rfl
theorem invQ_step {A B : F × F} {sS sA sB : F × (F × F)} {c : F} (sa : S A) (sb : S B) (x : Bool) (h : InvQ K R S sS sA sB c) : InvQ K R S (mlS (padd A B) R sS x) (mlS A R sA x) (mlS B R sB x) (mpwS (K.χ (Lt A B R)) c x):=by
 cases x with
 | false => exact invQ_dbl K hb oR g A B _ h
 | true => exact invQ_add K hb oR g sa sb (invQ_dbl K hb oR g A B 1 h)
theorem ml_sumQ {A B : F × F} (sa : S A) (sb : S B) (l : List Bool) : InvQ K R S (ml (padd A B) R l) (ml A R l) (ml B R l) (mpw (K.χ (Lt A B R)) l):=by
 have key : ∀ (l : List Bool) (sS sA sB : F × (F × F)) (c : F),InvQ K R S sS sA sB c -> InvQ K R S (l.foldl (mlS (padd A B) R) sS) (l.foldl (mlS A R) sA) (l.foldl (mlS B R) sB) (l.foldl (mpwS (K.χ (Lt A B R))) c):=by
  intro l
  induction l with
  | nil => intro sS sA sB c h; exact h
  | cons x l ih => intro sS sA sB c h; exact ih _ _ _ _ (invQ_step K hb oR g sa sb x h)
 refine key l _ _ _ _ ⟨sa,sb,rfl,?_⟩
 show K.χ 1 * _=K.χ 1 * K.χ 1 * _
 rw [K.one,one_mul,one_mul,one_mul]
theorem la_neg {A B : F × F} (sa : S A) (sb : S B) : K.χ (Lt A B R) * K.χ (Lt (pneg A) (pneg B) R)=1:=by
 have oa:=g.on _ sa
 have ob:=g.on _ sb
 have n:=congrArg K.χ (Lt_norm hb ob oa oR)
 have t:=Lt_turn (R:=R) hb (pneg_onP oa) (pneg_onP ob)
 rw [<- pneg_add hb oa ob,pneg_pneg] at t
 rw [K.mul,K.mul,K.mul,g.vt _ sa,g.vt _ sb,g.vt _ (g.add _ _ sb sa),mul_one,mul_one,padd_comm hb ob oa,Lt_comm hb ob oa] at n
 show K.χ _ * K.χ _=1
 rw [t]; exact n
end
section
variable {F : Type} [Fd F] {b : F} (K : Kill F)
def okc (Q : F × F) : List Bool -> F × F -> Prop
 | [],_ => True
 | false :: l,T => padd T T ≠ O2 /\ okc Q l (padd T T)
 | true :: l,T => padd T T ≠ O2 /\ padd (padd T T) Q ≠ O2 /\ okc Q l (padd (padd T T) Q)
variable (hb : b ≠ 0)
include hb
omit hb in
theorem lv_mirror {A B R : F × F} {l : F} (h : LnP A B l) (oA : OnF b A) (oR : OnF b R) : lv A l R * lv A l (pneg R)=-((R.1 - A.1) * (R.1 - B.1) * (R.1 - sx A.1 B.1 l)):=by
 have e : lv A l (pneg R)=-(R.2 - -(A.2 + l * (R.1 - A.1))):=by
  show -R.2 - (A.2 + l * (R.1 - A.1))=_
  exact i_mm _ _
 rw [e,mul_neg]
 congr 1
 show (R.2 - (A.2 + l * (R.1 - A.1))) * _=_
 rw [i_nl]
 exact lc4 _ _ _ _ (i_nrm R.1 R.2 A.1 A.2 B.1 B.2 l b) oR oA h.2 h.1
structure Two (b : F) (K : Kill F) (S T : F × F -> Prop) : Prop where
 onS : ∀ A,S A -> OnP b A
 addS : ∀ A B,S A -> S B -> S (padd A B)
 onT : ∀ A,T A -> OnP b A
 addT : ∀ A B,T A -> T B -> T (padd A B)
 vt : ∀ A R,S A -> T R -> A ≠ O2 -> R ≠ O2 -> K.χ (R.1 - A.1)=1
variable {S T : F × F -> Prop} (g : Two b K S T)
include g
omit hb in
theorem Two.vt' {A R : F × F} (hA : S A) (hR : T R) (nA : A ≠ O2) (nR : R ≠ O2) : K.χ (A.1 - R.1)=1:=by
 have e : A.1 - R.1=-(R.1 - A.1):=i_ns _ _
 rw [e,K.neg',g.vt _ _ hA hR nA nR]
theorem la_mirror {A B R : F × F} (sA : S A) (sB : S B) (tR : T R) (nA : A ≠ O2) (nB : B ≠ O2) (nAB : padd A B ≠ O2) (nR : R ≠ O2) : K.χ (Lt A B R) * K.χ (Lt A B (pneg R))=1:=by
 have oA:=(g.onS _ sA).resolve_left nA
 have oB:=(g.onS _ sB).resolve_left nB
 have oR:=(g.onT _ tR).resolve_left nR
 rcases ln_or oA oB with rfl | ⟨l,h⟩
 ·exact absurd (add_neg_self A) nAB
 ·have eS:=padd_ln hb oA oB h
  rw [Lt_ln hb oA oB h,Lt_ln hb oA oB h,<- K.mul,lv_mirror h oA oR,K.neg',K.mul,K.mul,g.vt _ _ sA tR nA nR,g.vt _ _ sB tR nB nR]
  have:=g.vt _ _ (g.addS _ _ sA sB) tR nAB nR
  rw [eS] at this
  rw [this,mul_one,mul_one]
theorem la_rec {A B P Q : F × F} (sA : S A) (sB : S B) (tP : T P) (tQ : T Q) (nA : A ≠ O2) (nB : B ≠ O2) (nAB : padd A B ≠ O2) (nP : P ≠ O2) (nQ : Q ≠ O2) (nPQ : padd P Q ≠ O2) :
  K.χ (Lt A B P) * K.χ (Lt A B Q) * K.χ (Lt P Q (padd A B))=K.χ (Lt P Q A) * K.χ (Lt P Q B) * K.χ (Lt A B (padd P Q)):=by
 have oA:=(g.onS _ sA).resolve_left nA
 have oB:=(g.onS _ sB).resolve_left nB
 have oP:=(g.onT _ tP).resolve_left nP
 have oQ:=(g.onT _ tQ).resolve_left nQ
 have g' : Two b K T S:=⟨g.onT,g.addT,g.onS,g.addS,fun X Y hX hY nX nY => g.vt' K hY hX nY nX⟩
 have m1:=la_mirror K hb g sA sB (g.addT _ _ tP tQ) nA nB nAB nPQ
 have m2:=la_mirror K hb g' tP tQ (g.addS _ _ sA sB) nP nQ nPQ nAB
 rcases ln_or oA oB with rfl | ⟨l,h⟩
 ·exact absurd (add_neg_self A) nAB
 rcases ln_or oP oQ with rfl | ⟨m,k⟩
 ·exact absurd (add_neg_self P) nPQ
 have r:=congrArg K.χ (lv_rec h k oA oP)
 have e1 : (sx P.1 Q.1 m,-sy P.1 P.2 Q.1 m)=pneg (padd P Q):=by rw [padd_ln hb oP oQ k]; rfl
 have e2 : (sx A.1 B.1 l,-sy A.1 A.2 B.1 l)=pneg (padd A B):=by rw [padd_ln hb oA oB h]; rfl
 rw [e1,e2,K.neg',K.mul,K.mul,K.mul,K.mul] at r
 have f : ∀ R,Lt A B R=lv A l R:=Lt_ln hb oA oB h
 have f' : ∀ R,Lt P Q R=lv P m R:=Lt_ln hb oP oQ k
 rw [<- f,<- f,<- f,<- f',<- f',<- f'] at r
 generalize K.χ (Lt A B P)=a1 at *
 generalize K.χ (Lt A B Q)=a2 at *
 generalize K.χ (Lt A B (padd P Q))=a3 at *
 generalize K.χ (Lt A B (pneg (padd P Q)))=a4 at *
 generalize K.χ (Lt P Q A)=c1 at *
 generalize K.χ (Lt P Q B)=c2 at *
 generalize K.χ (Lt P Q (padd A B))=c3 at *
 generalize K.χ (Lt P Q (pneg (padd A B)))=c4 at *
 have h1 : a1 * a2 * c3=a1 * a2 * a4 * (a3 * c3):=by
  have : a1 * a2 * a4 * (a3 * c3)=a1 * a2 * c3 * (a3 * a4):=by ac_rfl
  rw [this,m1,mul_one]
 have h2 : c1 * c2 * c4 * (a3 * c3)=c1 * c2 * a3:=by
  have : c1 * c2 * c4 * (a3 * c3)=c1 * c2 * a3 * (c3 * c4):=by ac_rfl
  rw [this,m2,mul_one]
 rw [h1,r,h2]
def InvP (K : Kill F) (S : F × F -> Prop) (P Q : F × F) (s1 s2 s3 : F × (F × F)) (c : F) : Prop :=
 S s1.2 /\ s2.2=s1.2 /\ s3.2=s1.2 /\ K.χ s1.1 * K.χ s2.1 * K.χ (Lt P Q s1.2)=K.χ s3.1 * c
theorem invP_add {A P Q : F × F} {s1 s2 s3 : F × (F × F)} {c : F} (tP : T P) (tQ : T Q) (nP : P ≠ O2) (nQ : Q ≠ O2) (nPQ : padd P Q ≠ O2) (sA : S A) (nA : A ≠ O2) (n1 : s1.2 ≠ O2) (nS : padd s1.2 A ≠ O2) (h : InvP K S P Q s1 s2 s3 c) :
  InvP K S P Q (s1.1 * Lt s1.2 A P,padd s1.2 A) (s2.1 * Lt s2.2 A Q,padd s2.2 A) (s3.1 * Lt s3.2 A (padd P Q),padd s3.2 A) (c * K.χ (Lt P Q A)):=by
 obtain ⟨h1,h2,h3,h4⟩:=h
 have r:=la_rec K hb g h1 sA tP tQ n1 nA nS nP nQ nPQ
 refine ⟨g.addS _ _ h1 sA,by show padd _ _=padd _ _; rw [h2],by show padd _ _=padd _ _; rw [h3],?_⟩
 show K.χ (s1.1 * Lt s1.2 A P) * K.χ (s2.1 * Lt s2.2 A Q) * K.χ (Lt P Q (padd s1.2 A))=K.χ (s3.1 * Lt s3.2 A (padd P Q)) * (c * K.χ (Lt P Q A))
 rw [h2,h3,K.mul,K.mul,K.mul]
 have e : K.χ s1.1 * K.χ (Lt s1.2 A P) * (K.χ s2.1 * K.χ (Lt s1.2 A Q)) * K.χ (Lt P Q (padd s1.2 A))=K.χ s1.1 * K.χ s2.1 * (K.χ (Lt s1.2 A P) * K.χ (Lt s1.2 A Q) * K.χ (Lt P Q (padd s1.2 A))):=by ac_rfl
 rw [e,r]
 have e2 : K.χ s1.1 * K.χ s2.1 * (K.χ (Lt P Q s1.2) * K.χ (Lt P Q A) * K.χ (Lt s1.2 A (padd P Q)))=K.χ s1.1 * K.χ s2.1 * K.χ (Lt P Q s1.2) * (K.χ (Lt P Q A) * K.χ (Lt s1.2 A (padd P Q))):=by ac_rfl
 rw [e2,h4]
 ac_rfl
theorem invP_dbl {P Q : F × F} {s1 s2 s3 : F × (F × F)} {c : F} (tP : T P) (tQ : T Q) (nP : P ≠ O2) (nQ : Q ≠ O2) (nPQ : padd P Q ≠ O2) (n1 : s1.2 ≠ O2) (nS : padd s1.2 s1.2 ≠ O2) (h : InvP K S P Q s1 s2 s3 c) :
  InvP K S P Q (s1.1 * s1.1 * Lt s1.2 s1.2 P,padd s1.2 s1.2) (s2.1 * s2.1 * Lt s2.2 s2.2 Q,padd s2.2 s2.2) (s3.1 * s3.1 * Lt s3.2 s3.2 (padd P Q),padd s3.2 s3.2) (c * c):=by
 obtain ⟨h1,h2,h3,h4⟩:=h
 have r:=la_rec K hb g h1 h1 tP tQ n1 n1 nS nP nQ nPQ
 refine ⟨g.addS _ _ h1 h1,by show padd _ _=padd _ _; rw [h2],by show padd _ _=padd _ _; rw [h3],?_⟩
 show K.χ (s1.1 * s1.1 * Lt s1.2 s1.2 P) * K.χ (s2.1 * s2.1 * Lt s2.2 s2.2 Q) * K.χ (Lt P Q (padd s1.2 s1.2))=K.χ (s3.1 * s3.1 * Lt s3.2 s3.2 (padd P Q)) * (c * c)
 rw [h2,h3,K.mul,K.mul,K.mul,K.mul,K.mul,K.mul]
 have e : K.χ s1.1 * K.χ s1.1 * K.χ (Lt s1.2 s1.2 P) * (K.χ s2.1 * K.χ s2.1 * K.χ (Lt s1.2 s1.2 Q)) * K.χ (Lt P Q (padd s1.2 s1.2))=K.χ s1.1 * K.χ s2.1 * (K.χ s1.1 * K.χ s2.1) * (K.χ (Lt s1.2 s1.2 P) * K.χ (Lt s1.2 s1.2 Q) * K.χ (Lt P Q (padd s1.2 s1.2))):=by ac_rfl
 rw [e,r]
 have e2 : K.χ s1.1 * K.χ s2.1 * (K.χ s1.1 * K.χ s2.1) * (K.χ (Lt P Q s1.2) * K.χ (Lt P Q s1.2) * K.χ (Lt s1.2 s1.2 (padd P Q)))=(K.χ s1.1 * K.χ s2.1 * K.χ (Lt P Q s1.2)) * (K.χ s1.1 * K.χ s2.1 * K.χ (Lt P Q s1.2)) * K.χ (Lt s1.2 s1.2 (padd P Q)):=by ac_rfl
 rw [e2,h4]
 ac_rfl
theorem ml_sumP {A P Q : F × F} (sA : S A) (nA : A ≠ O2) (tP : T P) (tQ : T Q) (nP : P ≠ O2) (nQ : Q ≠ O2) (nPQ : padd P Q ≠ O2) (l : List Bool) (ok : okc A l A) :
  InvP K S P Q (ml A P l) (ml A Q l) (ml A (padd P Q) l) (mpw (K.χ (Lt P Q A)) l):=by
 have key : ∀ (l : List Bool) (s1 s2 s3 : F × (F × F)) (c : F),okc A l s1.2 -> InvP K S P Q s1 s2 s3 c -> InvP K S P Q (l.foldl (mlS A P) s1) (l.foldl (mlS A Q) s2) (l.foldl (mlS A (padd P Q)) s3) (l.foldl (mpwS (K.χ (Lt P Q A))) c):=by
  intro l
  induction l with
  | nil => intro s1 s2 s3 c _ h; exact h
  | cons x l ih =>
   intro s1 s2 s3 c ok h
   cases x with
   | false =>
    obtain ⟨o1,o2⟩:=ok
    exact ih _ _ _ _ o2 (invP_dbl K hb g tP tQ nP nQ nPQ (dbl_ne o1) o1 h)
   | true =>
    obtain ⟨o1,o2,o3⟩:=ok
    exact ih _ _ _ _ o3 (invP_add K hb g tP tQ nP nQ nPQ sA nA o1 o2 (invP_dbl K hb g tP tQ nP nQ nPQ (dbl_ne o1) o1 h))
 refine key l _ _ _ _ ok ⟨sA,rfl,rfl,?_⟩
 show K.χ 1 * K.χ 1 * _=K.χ 1 * _
 rw [K.one,one_mul]
theorem ml_negP {A P : F × F} (sA : S A) (nA : A ≠ O2) (tP : T P) (nP : P ≠ O2) (l : List Bool) (ok : okc A l A) : K.χ (ml A P l).1 * K.χ (ml A (pneg P) l).1=1:=by
 have key : ∀ (l : List Bool) (s1 s2 : F × (F × F)),okc A l s1.2 -> S s1.2 -> s2.2=s1.2 -> K.χ s1.1 * K.χ s2.1=1 -> K.χ (l.foldl (mlS A P) s1).1 * K.χ (l.foldl (mlS A (pneg P)) s2).1=1:=by
  intro l
  induction l with
  | nil => intro s1 s2 _ _ _ h; exact h
  | cons x l ih =>
   intro s1 s2 ok hs h2 h
   have d : padd s1.2 s1.2 ≠ O2 -> K.χ (s1.1 * s1.1 * Lt s1.2 s1.2 P) * K.χ (s2.1 * s2.1 * Lt s2.2 s2.2 (pneg P))=1:=by
    intro o1
    have m:=la_mirror K hb g hs hs tP (dbl_ne o1) (dbl_ne o1) o1 nP
    rw [h2,K.mul,K.mul,K.mul,K.mul]
    have e : K.χ s1.1 * K.χ s1.1 * K.χ (Lt s1.2 s1.2 P) * (K.χ s2.1 * K.χ s2.1 * K.χ (Lt s1.2 s1.2 (pneg P)))=(K.χ s1.1 * K.χ s2.1) * (K.χ s1.1 * K.χ s2.1) * (K.χ (Lt s1.2 s1.2 P) * K.χ (Lt s1.2 s1.2 (pneg P))):=by ac_rfl
    rw [e,h,m,one_mul,one_mul]
   cases x with
   | false =>
    obtain ⟨o1,o2⟩:=ok
    exact ih _ _ o2 (g.addS _ _ hs hs) (by show padd _ _=padd _ _; rw [h2]) (d o1)
   | true =>
    obtain ⟨o1,o2,o3⟩:=ok
    refine ih _ _ o3 (g.addS _ _ (g.addS _ _ hs hs) sA) (by show padd (padd _ _) _=padd (padd _ _) _; rw [h2]) ?_
    have m:=la_mirror K hb g (g.addS _ _ hs hs) sA tP o1 nA o2 nP
    have dd:=d o1
    show K.χ (s1.1 * s1.1 * Lt s1.2 s1.2 P * Lt (padd s1.2 s1.2) A P) * K.χ (s2.1 * s2.1 * Lt s2.2 s2.2 (pneg P) * Lt (padd s2.2 s2.2) A (pneg P))=1
    rw [K.mul (s1.1 * s1.1 * Lt s1.2 s1.2 P),K.mul (s2.1 * s2.1 * Lt s2.2 s2.2 (pneg P)),h2]
    rw [h2] at dd
    generalize K.χ (s1.1 * s1.1 * Lt s1.2 s1.2 P)=u at *
    generalize K.χ (s2.1 * s2.1 * Lt s1.2 s1.2 (pneg P))=v at *
    generalize K.χ (Lt (padd s1.2 s1.2) A P)=w at *
    generalize K.χ (Lt (padd s1.2 s1.2) A (pneg P))=z at *
    have e : u * w * (v * z)=(u * v) * (w * z):=by ac_rfl
    rw [e,dd,m,one_mul]
 refine key l _ _ ok sA rfl ?_
 show K.χ 1 * K.χ 1=1
 rw [K.one,one_mul]
end
end Cr
namespace Cr
open Rg Fd
theorem u_on {F : Type} [Rg F] (x y b u : F) : y * (u * u * u) * (y * (u * u * u)) - (x * (u * u) * (x * (u * u)) * (x * (u * u)) + b * (u * u * u * (u * u * u)))=(u * u * u * (u * u * u)) * (y * y - (x * x * x + b)) :=
 rid [x,y,b,u] ((fun (x y b u : PE) => (y * (u * u * u) * (y * (u * u * u)) - (x * (u * u) * (x * (u * u)) * (x * (u * u)) + b * (u * u * u * (u * u * u))))) (.v 0) (.v 1) (.v 2) (.v 3)) ((fun (x y b u : PE) => ((u * u * u * (u * u * u)) * (y * y - (x * x * x + b)))) (.v 0) (.v 1) (.v 2) (.v 3)) (by kernel_rfl)
theorem u_l1 {F : Type} [Rg F] (x1 y1 x2 y2 l u : F) : l * u * (x2 * (u * u) - x1 * (u * u)) - (y2 * (u * u * u) - y1 * (u * u * u))=(u * u * u) * (l * (x2 - x1) - (y2 - y1)) :=
 rid [x1,y1,x2,y2,l,u] ((fun (x1 y1 x2 y2 l u : PE) => (l * u * (x2 * (u * u) - x1 * (u * u)) - (y2 * (u * u * u) - y1 * (u * u * u)))) (.v 0) (.v 1) (.v 2) (.v 3) (.v 4) (.v 5)) ((fun (x1 y1 x2 y2 l u : PE) => ((u * u * u) * (l * (x2 - x1) - (y2 - y1)))) (.v 0) (.v 1) (.v 2) (.v 3) (.v 4) (.v 5)) (by kernel_rfl)
theorem u_l2 {F : Type} [Rg F] (x1 y1 x2 y2 l u : F) : l * u * (y1 * (u * u * u) + y2 * (u * u * u)) - (x1 * (u * u) * (x1 * (u * u)) + x1 * (u * u) * (x2 * (u * u)) + x2 * (u * u) * (x2 * (u * u)))=(u * u * u * u) * (l * (y1 + y2) - (x1 * x1 + x1 * x2 + x2 * x2)) :=
 rid [x1,y1,x2,y2,l,u] ((fun (x1 y1 x2 y2 l u : PE) => (l * u * (y1 * (u * u * u) + y2 * (u * u * u)) - (x1 * (u * u) * (x1 * (u * u)) + x1 * (u * u) * (x2 * (u * u)) + x2 * (u * u) * (x2 * (u * u))))) (.v 0) (.v 1) (.v 2) (.v 3) (.v 4) (.v 5)) ((fun (x1 y1 x2 y2 l u : PE) => ((u * u * u * u) * (l * (y1 + y2) - (x1 * x1 + x1 * x2 + x2 * x2)))) (.v 0) (.v 1) (.v 2) (.v 3) (.v 4) (.v 5)) (by kernel_rfl)
theorem u_sx {F : Type} [Rg F] (x1 x2 l u : F) : l * u * (l * u) - x1 * (u * u) - x2 * (u * u)=(l * l - x1 - x2) * (u * u) :=
 rid [x1,x2,l,u] ((fun (x1 x2 l u : PE) => (l * u * (l * u) - x1 * (u * u) - x2 * (u * u))) (.v 0) (.v 1) (.v 2) (.v 3)) ((fun (x1 x2 l u : PE) => ((l * l - x1 - x2) * (u * u))) (.v 0) (.v 1) (.v 2) (.v 3)) (by kernel_rfl)
theorem u_sy {F : Type} [Rg F] (x1 y1 s l u : F) : -(y1 * (u * u * u) + l * u * (s * (u * u) - x1 * (u * u)))=-(y1 + l * (s - x1)) * (u * u * u) :=
 rid [x1,y1,s,l,u] ((fun (x1 y1 s l u : PE) => (-(y1 * (u * u * u) + l * u * (s * (u * u) - x1 * (u * u))))) (.v 0) (.v 1) (.v 2) (.v 3) (.v 4)) ((fun (x1 y1 s l u : PE) => (-(y1 + l * (s - x1)) * (u * u * u))) (.v 0) (.v 1) (.v 2) (.v 3) (.v 4)) (by kernel_rfl)
theorem u_ng {F : Type} [Rg F] (y u : F) : -y * (u * u * u)=-(y * (u * u * u)) :=
 rid [y,u] ((fun (y u : PE) => (-y * (u * u * u))) (.v 0) (.v 1)) ((fun (y u : PE) => (-(y * (u * u * u)))) (.v 0) (.v 1)) (by kernel_rfl)
theorem u_11 {F : Type} [Rg F] (x : F) : x * (1 * 1)=x :=
 rid [x] ((fun (x : PE) => (x * (1 * 1))) (.v 0)) ((fun (x : PE) => (x)) (.v 0)) (by kernel_rfl)
theorem u_12 {F : Type} [Rg F] (x : F) : x * (1 * 1 * 1)=x :=
 rid [x] ((fun (x : PE) => (x * (1 * 1 * 1))) (.v 0)) ((fun (x : PE) => (x)) (.v 0)) (by kernel_rfl)
theorem u_13 {F : Type} [Rg F] (x : F) : x * 1=x :=
 rid [x] ((fun (x : PE) => (x * 1)) (.v 0)) ((fun (x : PE) => (x)) (.v 0)) (by kernel_rfl)
theorem u_b1 {F : Type} [Rg F] (b : F) : b * (1 * 1 * 1 * (1 * 1 * 1))=b :=
 rid [b] ((fun (b : PE) => (b * (1 * 1 * 1 * (1 * 1 * 1)))) (.v 0)) ((fun (b : PE) => (b)) (.v 0)) (by kernel_rfl)
section
variable {F G : Type} [Fd F] [Fd G]
structure Hm (f : F -> G) : Prop where
 add : ∀ x y,f (x + y)=f x + f y
 mul : ∀ x y,f (x * y)=f x * f y
 neg : ∀ x,f (-x)=-f x
 one : f 1=1
 inj : ∀ x,f x=0 -> x=0
variable {f : F -> G} (H : Hm f)
include H
theorem Hm.zero : f 0=0:=by
 have h:=H.add 0 0
 rw [add_zero] at h
 have h2 : f 0 + f 0=f 0 + 0:=by rw [add_zero]; exact h.symm
 exact add_left h2
theorem Hm.sub (x y : F) : f (x - y)=f x - f y:=by rw [Rg.sub_def,Rg.sub_def,H.add,H.neg]
theorem Hm.eq {x y : F} (h : f x=f y) : x=y:=eq_of_sub (H.inj _ (by rw [H.sub,h,sub_self]))
omit H in
def tws (f : F -> G) (u : G) (A : F × F) : G × G:=(f A.1 * (u * u),f A.2 * (u * u * u))
variable {u : G}
theorem tws_O : tws f u O2=O2:=by
 show (f 0 * (u * u),f 0 * (u * u * u))=_
 rw [H.zero,zero_mul,zero_mul]
theorem tws_neg (A : F × F) : tws f u (pneg A)=pneg (tws f u A):=by
 show (f A.1 * (u * u),f (-A.2) * (u * u * u))=(f A.1 * (u * u),-(f A.2 * (u * u * u)))
 rw [H.neg,u_ng]
theorem tws_ne (hu : u ≠ 0) {A : F × F} (h : A ≠ O2) : tws f u A ≠ O2:=by
 intro e
 have e1 : f A.1 * (u * u)=0:=congrArg Prod.fst e
 have e2 : f A.2 * (u * u * u)=0:=congrArg Prod.snd e
 have n1 : A.1=0:=H.inj _ ((mul_eq_zero e1).resolve_right (mul_ne hu hu))
 have n2 : A.2=0:=H.inj _ ((mul_eq_zero e2).resolve_right (mul_ne (mul_ne hu hu) hu))
 exact h (Prod.ext n1 n2)
variable {b : F} {b' : G} (eb : b'=f b * (u * u * u * (u * u * u)))
include eb
theorem tws_on {A : F × F} (h : OnF b A) : OnF b' (tws f u A):=by
 have h1 : A.2 * A.2=A.1 * A.1 * A.1 + b:=h
 have h2:=congrArg f h1
 rw [H.mul,H.add,H.mul,H.mul] at h2
 show f A.2 * (u * u * u) * (f A.2 * (u * u * u))=f A.1 * (u * u) * (f A.1 * (u * u)) * (f A.1 * (u * u)) + b'
 rw [eb]
 exact lc1 _ (u_on _ _ _ _) h2
theorem tws_onP {A : F × F} (h : OnP b A) : OnP b' (tws f u A):=by
 rcases h with rfl | h
 ·exact .inl (tws_O H)
 ·exact .inr (tws_on H eb h)
omit eb in
theorem tws_ln {A B : F × F} {l : F} (h : LnP A B l) : LnP (tws f u A) (tws f u B) (f l * u):=by
 have h1:=congrArg f h.1
 have h2:=congrArg f h.2
 rw [H.mul,H.sub,H.sub] at h1
 rw [H.mul,H.add,H.add,H.add,H.mul,H.mul,H.mul] at h2
 exact ⟨lc1 _ (u_l1 _ _ _ _ _ _) h1,lc1 _ (u_l2 _ _ _ _ _ _) h2⟩
variable (hb : b ≠ 0) (hb' : b' ≠ 0)
include hb hb'
theorem tws_add {A B : F × F} (oA : OnP b A) (oB : OnP b B) : tws f u (padd A B)=padd (tws f u A) (tws f u B):=by
 rcases oA with rfl | oA
 ·rw [tws_O H,O_add,O_add]
 rcases oB with rfl | oB
 ·rw [tws_O H,add_O,add_O]
 rcases ln_or oA oB with rfl | ⟨l,h⟩
 ·rw [tws_neg H,add_neg_self,add_neg_self,tws_O H]
 ·rw [padd_ln hb oA oB h,padd_ln hb' (tws_on H eb oA) (tws_on H eb oB) (tws_ln H h)]
  have e1 : f (sx A.1 B.1 l) * (u * u)=sx (f A.1 * (u * u)) (f B.1 * (u * u)) (f l * u):=by
   show f (l * l - A.1 - B.1) * (u * u)=f l * u * (f l * u) - f A.1 * (u * u) - f B.1 * (u * u)
   rw [H.sub,H.sub,H.mul]; exact (u_sx _ _ _ _).symm
  refine Prod.ext e1 ?_
  show f (-(A.2 + l * (sx A.1 B.1 l - A.1))) * (u * u * u)=-(f A.2 * (u * u * u) + f l * u * (sx (f A.1 * (u * u)) (f B.1 * (u * u)) (f l * u) - f A.1 * (u * u)))
  rw [<- e1,H.neg,H.add,H.mul,H.sub]; exact (u_sy _ _ _ _ _).symm
theorem tws_nmul {A : F × F} (oA : OnP b A) (n : Nat) : tws f u (nmul A n)=nmul (tws f u A) n:=by
 induction n with
 | zero => exact tws_O H
 | succ n ih =>
  show tws f u (padd (nmul A n) A)=padd (nmul (tws f u A) n) (tws f u A)
  rw [tws_add H eb hb hb' (nmul_on hb oA n) oA,ih]
end
section
variable {F G : Type} [Fd F] [Fd G] {f : F -> G} (H : Hm f) {b : F} {b' : G} (eb : b'=f b) (hb : b ≠ 0) (hb' : b' ≠ 0)
def hmp (f : F -> G) (A : F × F) : G × G:=(f A.1,f A.2)
omit [Fd F] in
theorem tws_1 (A : F × F) : tws f 1 A=hmp f A:=by
 show (f A.1 * (1 * 1),f A.2 * (1 * 1 * 1))=_
 rw [u_11,u_12]; rfl
theorem hmp_neg (H : Hm f) (A : F × F) : hmp f (pneg A)=pneg (hmp f A):=by rw [<- tws_1,<- tws_1,tws_neg H]
include H in
theorem hmp_O : hmp f O2=O2:=by rw [<- tws_1,tws_O H]
include H eb in
theorem hmp_on {A : F × F} (h : OnF b A) : OnF b' (hmp f A):=by
 rw [<- tws_1]; exact tws_on (u:=1) H (by rw [u_b1,eb]) h
include H eb in
theorem hmp_onP {A : F × F} (h : OnP b A) : OnP b' (hmp f A):=by
 rw [<- tws_1]; exact tws_onP (u:=1) H (by rw [u_b1,eb]) h
include H in
theorem hmp_ln {A B : F × F} {l : F} (h : LnP A B l) : LnP (hmp f A) (hmp f B) (f l):=by
 have:=tws_ln (u:=1) H h
 rwa [tws_1,tws_1,u_13] at this
include H in
theorem hmp_lv (A : F × F) (l : F) (R : F × F) : lv (hmp f A) (f l) (hmp f R)=f (lv A l R):=by
 show f R.2 - (f A.2 + f l * (f R.1 - f A.1))=f (R.2 - (A.2 + l * (R.1 - A.1)))
 rw [H.sub,H.add,H.mul,H.sub]
include H eb hb hb'
theorem hmp_Vt {A : F × F} (oA : OnP b A) (R : F × F) : Vt (hmp f A) (hmp f R)=f (Vt A R):=by
 rcases oA with rfl | oA
 ·rw [hmp_O H,Vt_O,Vt_O,H.one]
 ·rw [Vt_on (hmp_on H eb oA) hb',Vt_on oA hb,H.sub]; rfl
theorem hmp_add {A B : F × F} (oA : OnP b A) (oB : OnP b B) : hmp f (padd A B)=padd (hmp f A) (hmp f B):=by
 rw [<- tws_1,<- tws_1,<- tws_1]; exact tws_add (u:=1) H (by rw [u_b1,eb]) hb hb' oA oB
theorem hmp_nmul {A : F × F} (oA : OnP b A) (n : Nat) : hmp f (nmul A n)=nmul (hmp f A) n:=by
 rw [<- tws_1,<- tws_1]; exact tws_nmul (u:=1) H (by rw [u_b1,eb]) hb hb' oA n
theorem hmp_Lt {A B : F × F} (oA : OnP b A) (oB : OnP b B) (R : F × F) : Lt (hmp f A) (hmp f B) (hmp f R)=f (Lt A B R):=by
 rcases oA with rfl | oA
 ·rw [hmp_O H,Lt_O,Lt_O]; exact hmp_Vt H eb hb hb' oB R
 rcases oB with rfl | oB
 ·rw [hmp_O H,Lt_O',Lt_O']; exact hmp_Vt H eb hb hb' (.inr oA) R
 rcases ln_or oA oB with rfl | ⟨l,h⟩
 ·rw [hmp_neg H,Lt_neg,Lt_neg]; exact hmp_Vt H eb hb hb' (.inr oA) R
 ·rw [Lt_ln hb' (hmp_on H eb oA) (hmp_on H eb oB) (hmp_ln H h),Lt_ln hb oA oB h,hmp_lv H]
end
end Cr
namespace Cr
noncomputable section
open Rg Fd Go.Eng
def tb : F2:=(zm 4,zm 4)
theorem tb_ne : tb ≠ 0:=fun h => absurd (congrArg Prod.fst h) (by decide)
def kN : Nat:=179184598021607201395328336867808778623227034365729160298681049842686063338121018147455353735441364525843719707164066765927216767229676667218777623574602578604133367281659313250333219842201540931831568844813240003724377679117
def hN : Nat:=209869847837335686905080341498658477663839067235703451875306851526599783796572738804459333109033834234622528588876978987822447936461846631641690358257586228683615991308971558879306463436166481
def p1x : V2:=(2,0)
def p1y : V2:=(188995492400578496451910581292546059920654572609832469388872107051048741028892423057992033888655218419282460458611,434381874456081807472298918693162486998243066160460423017297172308631992219110538691921044767658182807847155297615)
def p2x : V2:=(3502097864753066570550148371418669739303915645354957993882158272604968504426138630742300340054213004101649122574995,3191109489096775307193507002606793236600709294888301722308519387708220704158284978609877783087598478210803037831895)
def p2y : V2:=(1120128434309428118703815378359973697067986923993178994101501066809893730950108659182691351312157851099523537033621,3284094733358660625011281814609151989521685951164705617572026484241640633985466418925372124277545495873312627274873)
def irv : V2:=(877076961050607968509681729531255177986764537961432449499635504522207616027455086505066378536590128544573588734230,877076961050607968509681729531255177986764537961432449499635504522207616027455086505066378536590128544573588734230)
abbrev J3:=V2 × V2 × V2
def jp (x y : V2) : J3:=(x,y,((1 : Nat),(0 : Nat)))
def j3 (t : J3) : F2 × F2 × F2:=evP2.φ3 t
def onc (x y : V2) : Bool:=Nat.beq (vsub (vmul y y) (vadd (vmul (vmul x x) x) (4,4))).1 0 && Nat.beq (vsub (vmul y y) (vadd (vmul (vmul x x) x) (4,4))).2 0
theorem onc_ok {x y : V2} (h : onc x y=true) : OnF tb (q2 x,q2 y):=by
 unfold onc at h
 rw [Bool.and_eq_true] at h
 have h1 : q2 (vsub (vmul y y) (vadd (vmul (vmul x x) x) (4,4)))=0:=by
  refine (evP2.isz_φ _).1 ?_
  show (Nat.beq (_ % pN) 0 && Nat.beq (_ % pN) 0)=true
  rw [Nat.eq_of_beq_eq_true h.1,Nat.eq_of_beq_eq_true h.2]; rfl
 rw [q2_sub,q2_add,q2_mul,q2_mul,q2_mul] at h1
 exact eq_of_sub h1
theorem jp_rep {x y : V2} (h : OnF tb (q2 x,q2 y)) : Rep tb (j3 (jp x y)) (q2 x,q2 y) :=
 .inr ⟨one_ne,by show q2 x=q2 x * (1 * 1); rw [mul_one,mul_one],by show q2 y=q2 y * (1 * (1 * 1)); rw [mul_one,mul_one,mul_one],h⟩
theorem rep_z {t : J3} {P : F2 × F2} (h : Rep tb (j3 t) P) : evP2.isz t.2.2=true ↔ P=O2:=by
 have hi:=evP2.isz_φ t.2.2
 rcases h with ⟨h1,h2⟩ | ⟨h1,_,_,h2⟩
 ·exact ⟨fun _ => h2,fun _ => hi.2 h1⟩
 ·exact ⟨fun e => absurd (hi.1 e) h1,fun e => absurd e (on_ne tb_ne h2)⟩
def T1 : F2 × F2:=(q2 p1x,q2 p1y)
def T2 : F2 × F2:=(q2 p2x,q2 p2y)
def o1 : J3:=jp p1x p1y
def o2 : J3:=jp p2x p2y
theorem T1_on : OnF tb T1:=onc_ok (by kernel_rfl)
theorem T2_on : OnF tb T2:=onc_ok (by kernel_rfl)
theorem T1_rep : Rep tb (j3 o1) T1:=jp_rep T1_on
theorem T2_rep : Rep tb (j3 o2) T2:=jp_rep T2_on
def mj (o : J3) (n : Nat) : J3:=evP2.mul2 o 760 n
theorem mj_rep {o : J3} {P : F2 × F2} (h : Rep tb (j3 o) P) {n : Nat} (hn : n < 2 ^ 760) : Rep tb (j3 (mj o n)) (nmul P n):=Ev.mul2_rep tb_ne h 760 n hn
theorem k_z1 : evP2.isz (mj o1 (kN * 299)).2.2=true:=by kernel_rfl
theorem k_z2 : evP2.isz (mj o2 299).2.2=true:=by kernel_rfl
theorem T1_k : nmul T1 (kN * 299)=O2:=(rep_z (mj_rep T1_rep (of_decide_eq_true (by kernel_rfl)))).1 k_z1
theorem T2_k : nmul T2 299=O2:=(rep_z (mj_rep T2_rep (of_decide_eq_true (by kernel_rfl)))).1 k_z2
theorem nz_of {o : J3} {P : F2 × F2} (h : Rep tb (j3 o) P) {n : Nat} (hn : n < 2 ^ 760) (hz : evP2.isz (mj o n).2.2=false) : nmul P n ≠ O2:=fun e => by
 have:=(rep_z (mj_rep h hn)).2 e
 rw [hz] at this; cases this
theorem z_0 : evP2.isz (mj o1 19747952380560469302323322050672622487410572530539262414045570918895367835642530197600129291152586801779311534258037583122830008625755003132478624935055720974064090238561052215941626514123944245712362360707393572102318070791).2.2=false:=by kernel_rfl
theorem z_1 : evP2.isz (mj o1 4482238334180586732803745731069591299953558376587720148021888555422331878030468035312402808240355391385198041700163637832530562486545078515721116828311400569115358221134119857931032605439493076099526402124919163483107916511).2.2=false:=by kernel_rfl
theorem z_2 : evP2.isz (mj o1 204435453290776677963449216517309658175308347325906608295165143160629959812485202088339905776329775720238838597629082276088502697387609078137492452174069313816727185654221348812143491724768136401549359461054755660202423507).2.2=false:=by kernel_rfl
theorem z_3 : evP2.isz (mj o1 133242285665808607076488378322626308017882680317454143660064485930450545651671235455237836767).2.2=false:=by kernel_rfl
theorem z_4 : evP2.isz (mj o1 1021746936224977739802674759843215733158749228274876731329980043418955197936360816142165308893846079758636364010172630974200012787218635773765140678191).2.2=false:=by kernel_rfl
theorem T1_dvd (a : Nat) (ha : nmul T1 a=O2) : kN ∣ a:=by
 have oT : OnP tb T1:=.inr T1_on
 have d0 : 2713 ∣ a:=ord_dvd tb_ne oT prm_2713 (n:=19747952380560469302323322050672622487410572530539262414045570918895367835642530197600129291152586801779311534258037583122830008625755003132478624935055720974064090238561052215941626514123944245712362360707393572102318070791) (by rw [show 19747952380560469302323322050672622487410572530539262414045570918895367835642530197600129291152586801779311534258037583122830008625755003132478624935055720974064090238561052215941626514123944245712362360707393572102318070791 * 2713=kN * 299 from of_decide_eq_true (by kernel_rfl)]; exact T1_k) (nz_of T1_rep (of_decide_eq_true (by kernel_rfl)) z_0) ha
 have d1 : 11953 ∣ a:=ord_dvd tb_ne oT prm_11953 (n:=4482238334180586732803745731069591299953558376587720148021888555422331878030468035312402808240355391385198041700163637832530562486545078515721116828311400569115358221134119857931032605439493076099526402124919163483107916511) (by rw [show 4482238334180586732803745731069591299953558376587720148021888555422331878030468035312402808240355391385198041700163637832530562486545078515721116828311400569115358221134119857931032605439493076099526402124919163483107916511 * 11953=kN * 299 from of_decide_eq_true (by kernel_rfl)]; exact T1_k) (nz_of T1_rep (of_decide_eq_true (by kernel_rfl)) z_1) ha
 have d2 : 262069 ∣ a:=ord_dvd tb_ne oT prm_262069 (n:=204435453290776677963449216517309658175308347325906608295165143160629959812485202088339905776329775720238838597629082276088502697387609078137492452174069313816727185654221348812143491724768136401549359461054755660202423507) (by rw [show 204435453290776677963449216517309658175308347325906608295165143160629959812485202088339905776329775720238838597629082276088502697387609078137492452174069313816727185654221348812143491724768136401549359461054755660202423507 * 262069=kN * 299 from of_decide_eq_true (by kernel_rfl)]; exact T1_k) (nz_of T1_rep (of_decide_eq_true (by kernel_rfl)) z_2) ha
 have d3 : 402096035359507321594726366720466575392706800671181159425656785868777272553337714697862511267018014931937703598282857976535744623203249 ∣ a:=ord_dvd tb_ne oT prm_m (n:=133242285665808607076488378322626308017882680317454143660064485930450545651671235455237836767) (by rw [show 133242285665808607076488378322626308017882680317454143660064485930450545651671235455237836767 * 402096035359507321594726366720466575392706800671181159425656785868777272553337714697862511267018014931937703598282857976535744623203249=kN * 299 from of_decide_eq_true (by kernel_rfl)]; exact T1_k) (nz_of T1_rep (of_decide_eq_true (by kernel_rfl)) z_3) ha
 have d4 : 52435875175126190479447740508185965837690552500527637822603658699938581184513 ∣ a:=ord_dvd tb_ne oT prm_r (n:=1021746936224977739802674759843215733158749228274876731329980043418955197936360816142165308893846079758636364010172630974200012787218635773765140678191) (by rw [show 1021746936224977739802674759843215733158749228274876731329980043418955197936360816142165308893846079758636364010172630974200012787218635773765140678191 * 52435875175126190479447740508185965837690552500527637822603658699938581184513=kN * 299 from of_decide_eq_true (by kernel_rfl)]; exact T1_k) (nz_of T1_rep (of_decide_eq_true (by kernel_rfl)) z_4) ha
 have c1 : 2713 * 11953 ∣ a:=Nat.Coprime.mul_dvd_of_dvd_of_dvd (show Nat.gcd 2713 11953=1 from of_decide_eq_true (by kernel_rfl)) d0 d1
 rw [show 2713 * 11953=32428489 from of_decide_eq_true (by kernel_rfl)] at c1
 have c2 : 32428489 * 262069 ∣ a:=Nat.Coprime.mul_dvd_of_dvd_of_dvd (show Nat.gcd 32428489 262069=1 from of_decide_eq_true (by kernel_rfl)) c1 d2
 rw [show 32428489 * 262069=8498501683741 from of_decide_eq_true (by kernel_rfl)] at c2
 have c3 : 8498501683741 * 402096035359507321594726366720466575392706800671181159425656785868777272553337714697862511267018014931937703598282857976535744623203249 ∣ a:=Nat.Coprime.mul_dvd_of_dvd_of_dvd (show Nat.gcd 8498501683741 402096035359507321594726366720466575392706800671181159425656785868777272553337714697862511267018014931937703598282857976535744623203249=1 from of_decide_eq_true (by kernel_rfl)) c2 d3
 rw [show 8498501683741 * 402096035359507321594726366720466575392706800671181159425656785868777272553337714697862511267018014931937703598282857976535744623203249=3417213833528353644824999196800052619260030863795574352274180747220585946275454234589181635096475183139252053545727862789966597950563999243361674509 from of_decide_eq_true (by kernel_rfl)] at c3
 have c4 : 3417213833528353644824999196800052619260030863795574352274180747220585946275454234589181635096475183139252053545727862789966597950563999243361674509 * 52435875175126190479447740508185965837690552500527637822603658699938581184513 ∣ a:=Nat.Coprime.mul_dvd_of_dvd_of_dvd (show Nat.gcd 3417213833528353644824999196800052619260030863795574352274180747220585946275454234589181635096475183139252053545727862789966597950563999243361674509 52435875175126190479447740508185965837690552500527637822603658699938581184513=1 from of_decide_eq_true (by kernel_rfl)) c3 d4
 rw [show 3417213833528353644824999196800052619260030863795574352274180747220585946275454234589181635096475183139252053545727862789966597950563999243361674509 * 52435875175126190479447740508185965837690552500527637822603658699938581184513=179184598021607201395328336867808778623227034365729160298681049842686063338121018147455353735441364525843719707164066765927216767229676667218777623574602578604133367281659313250333219842201540931831568844813240003724377679117 from of_decide_eq_true (by kernel_rfl)] at c4
 exact c4
def smz (a l l' : Nat) : Bool:=fo6 (mj o1 a) fun A => (List.range l).all fun j => !evP2.isz (evP2.jadd A (mj o2 (l' * j))).2.2
theorem smz_ok {a l l' : Nat} (ha : a < 2 ^ 760) (hl : l < 300) (hl' : l' < 300) (h : smz a l l'=true) (j : Nat) (hj : j < l) : padd (nmul T1 a) (nmul (nmul T2 l') j) ≠ O2:=by
 unfold smz at h
 rw [fo6_eq] at h
 have h1:=List.all_eq_true.1 h j (List.mem_range.2 hj)
 have hb : l' * j < 2 ^ 760:=by
  have h2 : l' * j <= 300 * 300:=Nat.mul_le_mul (by omega) (by omega)
  exact Nat.lt_of_le_of_lt h2 (of_decide_eq_true (by kernel_rfl))
 have r1:=mj_rep T1_rep ha
 have r2:=mj_rep T2_rep hb
 have r3:=rep_add tb_ne r1 r2
 have e : Cr.jadd (j3 (mj o1 a)) (j3 (mj o2 (l' * j)))=j3 (evP2.jadd (mj o1 a) (mj o2 (l' * j))):=(evP2.jadd_φ _ _).symm
 rw [e] at r3
 rw [nmul_mul tb_ne (.inr T2_on)]
 intro h0
 have h3:=(rep_z r3).2 h0
 rw [h3] at h1; cases h1
theorem sm_13 : smz (kN * 23) 13 23=true:=by kernel_rfl
theorem sm_23 : smz (kN * 13) 23 13=true:=by kernel_rfl
theorem v_23 : evP2.isz (mj o2 23).2.2=false:=by kernel_rfl
theorem v_13 : evP2.isz (mj o2 13).2.2=false:=by kernel_rfl
theorem T_ind (a c : Nat) (h : padd (nmul T1 a) (nmul T2 c)=O2) : kN * 299 ∣ a /\ 299 ∣ c :=
 ind_all tb_ne (.inr T1_on) (.inr T2_on) (k:=kN) (l:=13) (l':=23) prm_13 prm_23 (of_decide_eq_true (by kernel_rfl)) (of_decide_eq_true (by kernel_rfl)) T1_k T2_k T1_dvd
  (nz_of T2_rep (of_decide_eq_true (by kernel_rfl)) v_23) (fun j hj => smz_ok (of_decide_eq_true (by kernel_rfl)) (by decide) (by decide) sm_13 j hj)
  (nz_of T2_rep (of_decide_eq_true (by kernel_rfl)) v_13) (fun j hj => smz_ok (of_decide_eq_true (by kernel_rfl)) (by decide) (by decide) sm_23 j hj) a c h
theorem tb_nm : nm2 (-tb)=1 + 1 + (1 + 1) + (1 + 1 + (1 + 1)) + (1 + 1 + (1 + 1) + (1 + 1 + (1 + 1))) + (1 + 1 + (1 + 1) + (1 + 1 + (1 + 1)) + (1 + 1 + (1 + 1) + (1 + 1 + (1 + 1)))):=by
 rw [F2.neg_def]
 refine Zm.ext (of_decide_eq_true (by kernel_rfl))
theorem no_cube (x : F2) : x * x * x + tb ≠ 0:=fun h => by
 have h1 : x * x * x=-tb:=(neg_eq ((add_comm tb (x * x * x)).trans h)).symm
 have e:=congrArg nm2 h1
 rw [nm2_mul,nm2_mul] at e
 obtain ⟨s,hs⟩ : ∃ s,s=nm2 x:=⟨_,rfl⟩
 rw [<- hs] at e
 have hv : (nm2 (-tb)).v=32:=by rw [tb_nm]; exact of_decide_eq_true (by kernel_rfl)
 have s0 : s ≠ 0:=fun z => by
  rw [z,zero_mul,zero_mul] at e
  rw [<- e] at hv
  exact absurd hv (by decide)
 have hf:=fp_fermat s0
 have hq : fpP - 1=3 * 1334136518407222464472596608578634718852294273313002628444019378708010550163612621480895876376338554679298090853262:=of_decide_eq_true (by kernel_rfl)
 obtain ⟨q,hqq⟩ : ∃ q,q=1334136518407222464472596608578634718852294273313002628444019378708010550163612621480895876376338554679298090853262:=⟨_,rfl⟩
 rw [hq,<- hqq,zpow_mul'] at hf
 have h3 : zpow s 3=nm2 (-tb):=by
  rw [<- e]; show 1 * s * s * s=_; rw [one_mul]
 rw [h3] at hf
 have hw:=congrArg Zm.v hf
 rw [zpow_v,hv] at hw
 have h4 : ((32 : Int) ^ q % Mp)=1:=hw
 have h5 : (32 : Nat) ^ q % fpP=1:=by
  have h6 : (((32 : Nat) ^ q % fpP : Nat) : Int)=1:=by rw [Int.natCast_emod,Int.natCast_pow]; exact h4
  omega
 rw [<- npm_eq fpP 32 (of_decide_eq_true (by kernel_rfl)) 384 q (by rw [hqq]; exact of_decide_eq_true (by kernel_rfl)),hqq] at h5
 exact absurd h5 (of_decide_eq_true (by kernel_rfl))
def od (y : F2) : Bool:=if y.1=0 then decide (y.2.v % 2=1) else decide (y.1.v % 2=1)
theorem od_v {a : Fp} (h : a ≠ 0) : decide ((-a).v % 2=1)=!decide (a.v % 2=1):=by
 have h0 : a.v ≠ 0:=fun e => h (Zm.ext e)
 have hn:=a.nn
 have hl:=a.lt
 have e : (-a).v=Mp - a.v:=by
  rw [neg_v]
  have h1 : (-a.v + Mp * 1) % Mp=(-a.v) % Mp:=Int.add_mul_emod_self_left _ _ _
  rw [<- h1,Int.mul_one,Int.emod_eq_of_lt (by omega) (by omega)]; omega
 rw [e]
 have hp : Mp % 2=1:=of_decide_eq_true (by kernel_rfl)
 by_cases h2 : a.v % 2=1
 ·rw [decide_eq_true h2,decide_eq_false (by omega)]; rfl
 ·rw [decide_eq_false h2,decide_eq_true (by omega)]; rfl
theorem od_neg {y : F2} (h : y ≠ 0) : od (-y)=!od y:=by
 unfold od
 rw [F2.neg_def]
 by_cases h1 : y.1=0
 ·have h2 : y.2 ≠ 0:=fun e => h (F2.ext h1 e)
  rw [if_pos h1,if_pos (show -y.1=0 by rw [h1]; exact neg_zero),od_v h2]
 ·rw [if_neg h1,if_neg (show ¬ -y.1=0 from fun e => h1 (by rw [<- neg_neg y.1,e]; exact neg_zero)),od_v h1]
def cod (P : F2 × F2) : Nat:=if P=O2 then 0 else 1 + 2 * (P.1.1.v.toNat * pN + P.1.2.v.toNat) + (if od P.2=true then 1 else 0)
theorem v_lt (a : Fp) : a.v.toNat < pN:=by
 have h1:=a.nn
 have h2:=a.lt
 have h3 : Mp=(pN : Int):=rfl
 omega
theorem cod_lt (P : F2 × F2) : cod P < 2 * (pN * pN) + 1:=by
 have key : ∀ a c n : Nat,a < n -> c < n -> 2 * (a * n + c) + 2 < 2 * (n * n) + 1:=by
  intro a c n h1 h2
  have h4 : (a + 1) * n <= n * n:=Nat.mul_le_mul_right n h1
  rw [Nat.add_mul,Nat.one_mul] at h4
  omega
 have h:=key _ _ pN (v_lt P.1.1) (v_lt P.1.2)
 obtain ⟨X,hX⟩ : ∃ X,X=2 * (P.1.1.v.toNat * pN + P.1.2.v.toNat):=⟨_,rfl⟩
 obtain ⟨Y,hY⟩ : ∃ Y,Y=2 * (pN * pN):=⟨_,rfl⟩
 unfold cod
 rw [<- hX,<- hY] at h
 rw [<- hX,<- hY]
 split
 ·omega
 ·split <;> omega
theorem cod_key : ∀ (X Y : Nat) (s t : Bool),1 + 2 * X + (if s=true then 1 else 0)=1 + 2 * Y + (if t=true then 1 else 0) -> X=Y /\ s=t
 | X,Y,false,false,h => by
  have h : 1 + 2 * X + 0=1 + 2 * Y + 0:=h
  exact ⟨by omega,rfl⟩
 | X,Y,false,true,h => by
  have h : 1 + 2 * X + 0=1 + 2 * Y + 1:=h
  omega
 | X,Y,true,false,h => by
  have h : 1 + 2 * X + 1=1 + 2 * Y + 0:=h
  omega
 | X,Y,true,true,h => by
  have h : 1 + 2 * X + 1=1 + 2 * Y + 1:=h
  exact ⟨by omega,rfl⟩
theorem cod_inj {P Q : F2 × F2} (oP : OnP tb P) (oQ : OnP tb Q) (h : cod P=cod Q) : P=Q:=by
 by_cases hP : P=O2
 ·by_cases hQ : Q=O2
  ·rw [hP,hQ]
  ·exfalso
   unfold cod at h
   rw [if_pos hP,if_neg hQ] at h
   omega
 by_cases hQ : Q=O2
 ·exfalso
  unfold cod at h
  rw [if_neg hP,if_pos hQ] at h
  omega
 have hp : OnF tb P:=oP.resolve_left hP
 have hq : OnF tb Q:=oQ.resolve_left hQ
 unfold cod at h
 rw [if_neg hP,if_neg hQ] at h
 have hx : P.1.1.v.toNat * pN + P.1.2.v.toNat=Q.1.1.v.toNat * pN + Q.1.2.v.toNat /\ (od P.2=od Q.2):=by
  exact cod_key _ _ _ _ h
 obtain ⟨hx,ho⟩:=hx
 have v1:=v_lt P.1.1
 have v2:=v_lt P.1.2
 have v3:=v_lt Q.1.1
 have v4:=v_lt Q.1.2
 have d1 : P.1.1.v.toNat=Q.1.1.v.toNat:=by
  have e1 : (P.1.1.v.toNat * pN + P.1.2.v.toNat) / pN=(Q.1.1.v.toNat * pN + Q.1.2.v.toNat) / pN:=congrArg (· / pN) hx
  rw [Nat.mul_comm,Nat.mul_add_div (by decide),Nat.div_eq_of_lt v2,Nat.mul_comm Q.1.1.v.toNat,Nat.mul_add_div (by decide),Nat.div_eq_of_lt v4] at e1
  exact e1
 have d2 : P.1.2.v.toNat=Q.1.2.v.toNat:=by rw [d1] at hx; omega
 have x1 : P.1=Q.1:=by
  refine F2.ext (Zm.ext ?_) (Zm.ext ?_)
  ·have:=P.1.1.nn; have:=Q.1.1.nn; omega
  ·have:=P.1.2.nn; have:=Q.1.2.nn; omega
 have hy : P.2 * P.2=Q.2 * Q.2:=by
  have a1 : P.2 * P.2=P.1 * P.1 * P.1 + tb:=hp
  have a2 : Q.2 * Q.2=Q.1 * Q.1 * Q.1 + tb:=hq
  rw [a1,a2,x1]
 rcases sq_eq hy with e | e
 ·exact Prod.ext x1 e
 ·by_cases h0 : Q.2=0
  ·exact Prod.ext x1 (by rw [e,h0]; exact neg_zero)
  ·rw [e,od_neg h0] at ho
   cases hh : od Q.2 <;> rw [hh] at ho <;> cases ho
theorem all_tw {Q : F2 × F2} (oQ : OnP tb Q) : InH T1 T2 Q :=
 gen_all tb_ne (.inr T1_on) (.inr T2_on) T1_k T2_k (of_decide_eq_true (by kernel_rfl)) T_ind (no2_of tb_ne no_cube) cod (2 * (pN * pN) + 1) (fun P _ => cod_lt P) (fun _ _ hP hQ h => cod_inj hP hQ h) (of_decide_eq_true (by kernel_rfl)) oQ
end
end Cr
namespace Cr
noncomputable section
open Rg Fd Go.Eng
theorem sw_1 {F : Type} [Rg F] (x t d a b : F) : x * t * (x * t) * (x * t) + a * (x * t) + b - t * t * t * (x * x * x + a * x + b)=(t - t * t * t) * (a * x - -b * (1 + d)) + (b * (1 - t)) * (1 - d * (t * t + t)) :=
 rid [x,t,d,a,b] ((fun (x t d a b : PE) => (x * t * (x * t) * (x * t) + a * (x * t) + b - t * t * t * (x * x * x + a * x + b))) (.v 0) (.v 1) (.v 2) (.v 3) (.v 4)) ((fun (x t d a b : PE) => ((t - t * t * t) * (a * x - -b * (1 + d)) + (b * (1 - t)) * (1 - d * (t * t + t)))) (.v 0) (.v 1) (.v 2) (.v 3) (.v 4)) (by kernel_rfl)
theorem sw_2 {F : Type} [Rg F] (b i d a : F) : a * (-b * i * (1 + d))=-b * (1 + d) * (a * i) :=
 rid [b,i,d,a] ((fun (b i d a : PE) => (a * (-b * i * (1 + d)))) (.v 0) (.v 1) (.v 2) (.v 3)) ((fun (b i d a : PE) => (-b * (1 + d) * (a * i))) (.v 0) (.v 1) (.v 2) (.v 3)) (by kernel_rfl)
theorem sw_4 {F : Type} [Rg F] (z u g : F) : z * (u * u) * (z * (u * u)) * (z * (u * u)) * g=z * u * u * u * (z * u * u * u) * (z * g) :=
 rid [z,u,g] ((fun (z u g : PE) => (z * (u * u) * (z * (u * u)) * (z * (u * u)) * g)) (.v 0) (.v 1) (.v 2)) ((fun (z u g : PE) => (z * u * u * u * (z * u * u * u) * (z * g))) (.v 0) (.v 1) (.v 2)) (by kernel_rfl)
theorem sw_5 {F : Type} [Rg F] (a y : F) : a * a * (y * y)=a * y * (a * y) :=
 rid [a,y] ((fun (a y : PE) => (a * a * (y * y))) (.v 0) (.v 1)) ((fun (a y : PE) => (a * y * (a * y))) (.v 0) (.v 1)) (by kernel_rfl)
theorem hv_2 {F : Type} [Rg F] (s t x c d : F) : s * x + c + (t * x + d)=(s + t) * x + (c + d) :=
 rid [s,t,x,c,d] ((fun (s t x c d : PE) => (s * x + c + (t * x + d))) (.v 0) (.v 1) (.v 2) (.v 3) (.v 4)) ((fun (s t x c d : PE) => ((s + t) * x + (c + d))) (.v 0) (.v 1) (.v 2) (.v 3) (.v 4)) (by kernel_rfl)
theorem hv_3 {F : Type} [Rg F] (s x c k : F) : k * (s * x + c)=k * s * x + k * c :=
 rid [s,x,c,k] ((fun (s x c k : PE) => (k * (s * x + c))) (.v 0) (.v 1) (.v 2) (.v 3)) ((fun (s x c k : PE) => (k * s * x + k * c)) (.v 0) (.v 1) (.v 2) (.v 3)) (by kernel_rfl)
theorem hv_4 {F : Type} [Rg F] (s h x c g : F) : c * g + (s * g * x + 0)=(s * x + c) * g :=
 rid [s,h,x,c,g] ((fun (s h x c g : PE) => (c * g + (s * g * x + 0))) (.v 0) (.v 1) (.v 2) (.v 3) (.v 4)) ((fun (s h x c g : PE) => ((s * x + c) * g)) (.v 0) (.v 1) (.v 2) (.v 3) (.v 4)) (by kernel_rfl)
theorem is_1 {F : Type} [Rg F] (y h u i g : F) : y * h * u * i * (y * h * u * i)=y * y * (h * h) * (u * u) * (i * i) :=
 rid [y,h,u,i,g] ((fun (y h u i g : PE) => (y * h * u * i * (y * h * u * i))) (.v 0) (.v 1) (.v 2) (.v 3) (.v 4)) ((fun (y h u i g : PE) => (y * y * (h * h) * (u * u) * (i * i))) (.v 0) (.v 1) (.v 2) (.v 3) (.v 4)) (by kernel_rfl)
theorem is_2 {F : Type} [Rg F] (g h u b i : F) : g * (h * h) * (u * u) * (i * i) * (u * b * i)=g * (h * h) * (u * u * u) * (b * (i * i * i)) :=
 rid [g,h,u,b,i] ((fun (g h u b i : PE) => (g * (h * h) * (u * u) * (i * i) * (u * b * i))) (.v 0) (.v 1) (.v 2) (.v 3) (.v 4)) ((fun (g h u b i : PE) => (g * (h * h) * (u * u * u) * (b * (i * i * i)))) (.v 0) (.v 1) (.v 2) (.v 3) (.v 4)) (by kernel_rfl)
theorem is_3 {F : Type} [Rg F] (w u b i t : F) : b * b * (w * w * w + t * (u * u * u)) * (b * (i * i * i))=w * b * i * (w * b * i) * (w * b * i) + t * (u * b * i * (u * b * i) * (u * b * i)) :=
 rid [w,u,b,i,t] ((fun (w u b i t : PE) => (b * b * (w * w * w + t * (u * u * u)) * (b * (i * i * i)))) (.v 0) (.v 1) (.v 2) (.v 3) (.v 4)) ((fun (w u b i t : PE) => (w * b * i * (w * b * i) * (w * b * i) + t * (u * b * i * (u * b * i) * (u * b * i)))) (.v 0) (.v 1) (.v 2) (.v 3) (.v 4)) (by kernel_rfl)
theorem fs_1 {F : Type} [Rg F] (t i : F) : t * i * (t * i)=t * t * (i * i) :=
 rid [t,i] ((fun (t i : PE) => (t * i * (t * i))) (.v 0) (.v 1)) ((fun (t i : PE) => (t * t * (i * i))) (.v 0) (.v 1)) (by kernel_rfl)
def hv (x : F2) (l : List F2) : F2:=l.foldr (fun c s => s * x + c) 0
def hq (x : F2) (l : List V2) : F2:=hv x (l.map q2)
theorem hq_nil (x : F2) : hq x []=0:=rfl
theorem hq_cons (x : F2) (c : V2) (l : List V2) : hq x (c :: l)=hq x l * x + q2 c:=rfl
def pls : List V2 -> List V2 -> List V2
 | [],b => b
 | x :: a,[] => x :: a
 | x :: a,y :: b => vadd x y :: pls a b
theorem hq_pls (x : F2) : ∀ a b,hq x (pls a b)=hq x a + hq x b
 | [],b => by show hq x b=_; rw [hq_nil,zero_add]
 | c :: a,[] => by show hq x (c :: a)=_; rw [hq_nil,add_zero]
 | c :: a,d :: b => by
  show hq x (pls a b) * x + q2 (vadd c d)=(hq x a * x + q2 c) + (hq x b * x + q2 d)
  rw [hq_pls x a b,q2_add]; exact (hv_2 _ _ _ _ _).symm
theorem hq_scl (x : F2) (c : V2) : ∀ b : List V2,hq x (b.map (vmul c))=q2 c * hq x b
 | [] => by show (0 : F2)=_; rw [hq_nil,mul_zero]
 | d :: b => by
  show hq x (b.map (vmul c)) * x + q2 (vmul c d)=q2 c * (hq x b * x + q2 d)
  rw [hq_scl x c b,q2_mul]; exact (hv_3 _ _ _ _).symm
def pml : List V2 -> List V2 -> List V2
 | [],_ => []
 | c :: a,b => pls (b.map (vmul c)) ((0,0) :: pml a b)
theorem hq_pml (x : F2) : ∀ a b,hq x (pml a b)=hq x a * hq x b
 | [],b => by show (0 : F2)=_; rw [hq_nil,zero_mul]
 | c :: a,b => by
  show hq x (pls (b.map (vmul c)) ((0,0) :: pml a b))=(hq x a * x + q2 c) * hq x b
  rw [hq_pls,hq_scl,hq_cons,hq_pml x a b,q2_zero]; exact hv_4 _ 0 _ _ _
def fl2 {α : Type} : List V2 -> (List V2 -> α) -> α
 | [],k => k []
 | x :: l,k => fo2 x fun x => fl2 l fun l => k (x :: l)
theorem fl2_eq {α : Type} : ∀ (l : List V2) (k : List V2 -> α),fl2 l k=k l
 | [],k => rfl
 | x :: l,k => by rw [fl2,fo2_eq,fl2_eq l]
def alz (l : List V2) : Bool:=l.all fun c => evP2.isz c
theorem alz_ok (x : F2) : ∀ l : List V2,alz l=true -> hq x l=0
 | [],_ => rfl
 | c :: l,h => by
  have h : (evP2.isz c && alz l)=true:=h
  rw [Bool.and_eq_true] at h
  have h1 : q2 c=0:=(evP2.isz_φ c).1 h.1
  rw [hq_cons,alz_ok x l h.2,h1,zero_mul,add_zero]
def cU : List V2:=[(0,4002409555221667393417789825735904156556882819939007885332058136124031650490837864442687629129015664037894272559715),(12,4002409555221667393417789825735904156556882819939007885332058136124031650490837864442687629129015664037894272559775),(1,0)]
def cB : List V2:=[(4002409555221667393417789825735904156556882819939007885332058136124031650490837864442687629129015664037894272559355,4002409555221667393417789825735904156556882819939007885332058136124031650490837864442687629129015664037894272559355),(0,4002409555221667393417789825735904156556882819939007885332058136124031650490837864442687629129015664037894272559571),(18,4002409555221667393417789825735904156556882819939007885332058136124031650490837864442687629129015664037894272559769),(1,0)]
def cW : List V2:=[(889424345604814976315064405719089812568196182208668418962679585805340366775741747653930584250892369786198727235542,889424345604814976315064405719089812568196182208668418962679585805340366775741747653930584250892369786198727235542),(0,2668273036814444928945193217157269437704588546626005256888038757416021100327225242961791752752677109358596181706522),(2668273036814444928945193217157269437704588546626005256888038757416021100327225242961791752752677109358596181706526,1334136518407222464472596608578634718852294273313002628444019378708010550163612621480895876376338554679298090853261),(3557697382419259905260257622876359250272784728834673675850718343221361467102966990615722337003569479144794908942033,0)]
def cH : List V2:=[(3261222600550988246488569487636662646083386001431784202863158481286248011511053074731078808919938689216061999863558,3261222600550988246488569487636662646083386001431784202863158481286248011511053074731078808919938689216061999863558),(0,889424345604814976315064405719089812568196182208668418962679585805340366775741747653930584250892369786198727235518),(2668273036814444928945193217157269437704588546626005256888038757416021100327225242961791752752677109358596181706524,1334136518407222464472596608578634718852294273313002628444019378708010550163612621480895876376338554679298090853263),(2816510427748580758331037284777117739799287910327449993381818688383577828123182200904113516794492504322962636245776,0)]
def cG : List V2:=[(1012,1012),(0,240),(0,0),(1,0)]
def isc : Bool:=fl2 (pml cH cH) fun HH => fl2 (pml cU cU) fun UU => fl2 (pml UU cU) fun UUU => fl2 (pml cG HH) fun GHH => fl2 (pml GHH UUU) fun L =>
 fl2 (pml cB cB) fun BB => fl2 (pml cW cW) fun WW => fl2 (pml WW cW) fun WWW => fl2 (pls WWW (UUU.map (vmul (4,4)))) fun S => fl2 (pml BB S) fun R => alz (pls L (R.map (vmul (4002409555221667393417789825735904156556882819939007885332058136124031650490837864442687629129015664037894272559786,0))))
theorem isc_ok : isc=true:=by kernel_rfl
theorem q2_m1 : q2 (4002409555221667393417789825735904156556882819939007885332058136124031650490837864442687629129015664037894272559786,0)=-1:=by
 rw [F2.neg_def]; exact F2.ext (Zm.ext (of_decide_eq_true (by kernel_rfl))) (Zm.ext (of_decide_eq_true (by kernel_rfl)))
theorem iso (x : F2) : hq x cG * (hq x cH * hq x cH) * (hq x cU * hq x cU * hq x cU)=hq x cB * hq x cB * (hq x cW * hq x cW * hq x cW + tb * (hq x cU * hq x cU * hq x cU)):=by
 have h:=isc_ok
 unfold isc at h
 simp only [fl2_eq] at h
 have h1:=alz_ok x _ h
 simp only [hq_pls,hq_scl,hq_pml,q2_m1] at h1
 rw [neg_mul,one_mul,<- Rg.sub_def] at h1
 exact eq_of_sub h1
theorem iso_on {x y i : F2} (hy : y * y=hq x cG) (hi : hq x cU * hq x cB * i=1) : OnF tb (hq x cW * hq x cB * i,y * hq x cH * hq x cU * i):=by
 show y * hq x cH * hq x cU * i * (y * hq x cH * hq x cU * i)=hq x cW * hq x cB * i * (hq x cW * hq x cB * i) * (hq x cW * hq x cB * i) + tb
 have h:=iso x
 have e:=is_3 (hq x cW) (hq x cU) (hq x cB) i tb
 rw [hi,mul_one,mul_one,mul_one,<- h,<- is_2,hi,mul_one] at e
 rw [is_1 _ _ _ _ 0,hy]; exact e
def ca : F2:=q2 (0,240)
def cb : F2:=q2 (1012,1012)
def cz : F2:=q2 (4002409555221667393417789825735904156556882819939007885332058136124031650490837864442687629129015664037894272559785,4002409555221667393417789825735904156556882819939007885332058136124031650490837864442687629129015664037894272559786)
theorem hG (x : F2) : hq x cG=x * x * x + ca * x + cb:=by
 show (((0 * x + q2 (1,0)) * x + q2 (0,0)) * x + q2 (0,240)) * x + q2 (1012,1012)=_
 have h1 : q2 (1,0)=1:=rfl
 rw [h1,q2_zero,zero_mul,zero_add,one_mul,add_zero,add_mul]; rfl
theorem ca_ne : ca ≠ 0:=fun h => absurd (congrArg Prod.snd h) (by decide)
theorem sw_t {x t d : F2} (hd : d * (t * t + t)=1) (hx : x=-cb * inv ca * (1 + d)) : hq (x * t) cG=t * t * t * hq x cG:=by
 have h1 : ca * x=-cb * (1 + d):=by rw [hx,sw_2,mul_inv ca ca_ne,mul_one]
 rw [hG,hG]
 exact lc2 _ _ (sw_1 x t d ca cb) h1 hd.symm
theorem sqm (a : Fp) : ∃ s : Fp,s * s=a \/ s * s=-a:=by
 by_cases ha : a=0
 ·exact ⟨0,.inl (by rw [ha,mul_zero])⟩
 obtain ⟨m,hm⟩ : ∃ m,m=(fpP - 1) / 2:=⟨_,rfl⟩
 obtain ⟨k,hk⟩ : ∃ k,k=(fpP + 1) / 4:=⟨_,rfl⟩
 have h1 : fpP - 1=m + m:=by rw [hm]; exact of_decide_eq_true (by kernel_rfl)
 have h2 : k + k=m + 1:=by rw [hm,hk]; exact of_decide_eq_true (by kernel_rfl)
 have hf:=fp_fermat ha
 rw [h1,zpow_add'] at hf
 have hs : zpow a k * zpow a k=zpow a m * a:=by rw [<- zpow_add',h2]; rfl
 have h3 : zpow a m * zpow a m=1 * 1:=by rw [hf,one_mul]
 refine ⟨zpow a k,?_⟩
 rw [hs]
 rcases sq_eq h3 with e | e
 ·rw [e,one_mul]; exact .inl rfl
 ·rw [e,neg_mul,one_mul]; exact .inr rfl
theorem sq_nm {x : F2} {n : Fp} (h : nm2 x=n * n) : ∃ y : F2,y * y=x:=by
 by_cases hb : x.2=0
 ·obtain ⟨s,hs⟩:=sqm x.1
  rcases hs with hs | hs
  ·refine ⟨(s,0),?_⟩
   rw [F2.mul_def]
   refine F2.ext ?_ ?_
   ·show s * s - 0 * 0=x.1
    rw [hs,mul_zero,sub_z]
   ·show s * 0 + 0 * s=x.2
    rw [mul_zero,zero_mul,add_zero,hb]
  ·refine ⟨(0,s),?_⟩
   rw [F2.mul_def]
   refine F2.ext ?_ ?_
   ·show 0 * 0 - s * s=x.1
    rw [hs,mul_zero,Rg.sub_def,neg_neg,zero_add]
   ·show 0 * s + s * 0=x.2
    rw [mul_zero,zero_mul,add_zero,hb]
 ·have hn : n * n=x.1 * x.1 + x.2 * x.2:=h.symm
  have key : ∀ s t : Fp,(s=x.1 + n \/ s=x.1 - n) -> t * t=s + s -> ∃ y : F2,y * y=x:=fun s t hs ht => by
   have k:=fin_ok hb hn hs ht (i:=inv t) (fun h => mul_inv t h)
   refine ⟨(s * inv t,x.2 * inv t),?_⟩
   refine F2.ext ?_ ?_
   ·rw [F2.mul1]; exact k.1
   ·rw [F2.mul2]; exact k.2
  obtain ⟨s,hs⟩:=sqm (x.1 + n + (x.1 + n))
  rcases hs with hs | hs
  ·exact key _ s (.inl rfl) hs
  ·by_cases hs0 : s=0
   ·rw [hs0,mul_zero] at hs
    have e : x.1 + n + (x.1 + n)=0:=by rw [<- neg_neg (x.1 + n + (x.1 + n)),<- hs]; exact neg_zero
    exact key _ 0 (.inl rfl) (by rw [mul_zero,e])
   ·-- 2 (a + n) times 2 (a - n) is - (2 b)^2
    have e1 : (x.1 + n + (x.1 + n)) * (x.1 - n + (x.1 - n))=-((x.2 + x.2) * (x.2 + x.2)):=by
     have q:=q_4 x.1 n
     have e2 : (x.1 + n + (x.1 + n)) * (x.1 - n + (x.1 - n))=(x.1 + n) * (x.1 - n) + (x.1 + n) * (x.1 - n) + ((x.1 + n) * (x.1 - n) + (x.1 + n) * (x.1 - n)):=by
      rw [add_mul,mul_add]
     rw [e2,q,hn]
     have e3 : x.1 * x.1 - (x.1 * x.1 + x.2 * x.2)=-(x.2 * x.2):=by
      rw [Rg.sub_def,neg_add_rev,<- add_assoc,add_neg,zero_add]
     rw [e3,<- neg_add_rev,<- neg_add_rev,add_mul,mul_add]
    have e4 : x.1 + n + (x.1 + n)=-(s * s):=by rw [hs,neg_neg]
    rw [e4,neg_mul] at e1
    have e5 : s * s * (x.1 - n + (x.1 - n))=(x.2 + x.2) * (x.2 + x.2):=by
     rw [<- neg_neg (s * s * _),e1,neg_neg]
    refine key _ ((x.2 + x.2) * inv s) (.inr rfl) ?_
    rw [fs_1,<- e5]
    have e6 : s * s * (x.1 - n + (x.1 - n)) * (inv s * inv s)=(s * inv s) * (s * inv s) * (x.1 - n + (x.1 - n)):=by ac_rfl
    rw [e6,mul_inv s hs0,one_mul,one_mul]
def wN : Int:=3754115229487400743760384662840082984744650971178826659753975400945528899667118516813924993650507119217982417812692
theorem cz_nm : (zm wN : Fp) * zm wN=-nm2 cz:=by
 unfold nm2 cz
 exact Zm.ext (of_decide_eq_true (by kernel_rfl))
theorem sq_z {g : F2} (h : ∀ y : F2,y * y ≠ g) : ∃ y : F2,y * y=cz * g:=by
 obtain ⟨s,hs⟩:=sqm (nm2 g)
 rcases hs with hs | hs
 ·obtain ⟨y,hy⟩:=sq_nm (x:=g) (n:=s) hs.symm
  exact absurd hy (h y)
 ·refine sq_nm (n:=zm wN * s) ?_
  have e : (zm wN * s) * (zm wN * s)=(zm wN * zm wN) * (s * s):=by ac_rfl
  rw [nm2_mul,e,cz_nm,hs,neg_mul,mul_neg,neg_neg]
theorem sw_two {u t d x : F2} (ht : t=cz * (u * u)) (hd : d * (t * t + t)=1) (hx : x=-cb * inv ca * (1 + d)) (h : ∀ y : F2,y * y ≠ hq x cG) : ∃ y : F2,y * y=hq (x * t) cG:=by
 obtain ⟨y,hy⟩:=sq_z h
 refine ⟨cz * u * u * u * y,?_⟩
 rw [sw_t hd hx,ht,sw_4,<- hy]
 exact (sw_5 _ _).symm
def s0 : V2:=(391013756818087021228608844186469378708965029305944648629640836944759185027123020480318340657013194950516187264795,3578796461873081174841411974298466426866052387096285028890861355461367155938811896227938614244375769879856986283402)
theorem sw_c : evP2.isz (vsub (vmul (vmul s0 s0) (vmul (vmul (vmul (4002409555221667393417789825735904156556882819939007885332058136124031650490837864442687629129015664037894272559785,4002409555221667393417789825735904156556882819939007885332058136124031650490837864442687629129015664037894272559786) (0,240)) (vmul (4002409555221667393417789825735904156556882819939007885332058136124031650490837864442687629129015664037894272559785,4002409555221667393417789825735904156556882819939007885332058136124031650490837864442687629129015664037894272559786) (0,240))) (vmul (4002409555221667393417789825735904156556882819939007885332058136124031650490837864442687629129015664037894272559785,4002409555221667393417789825735904156556882819939007885332058136124031650490837864442687629129015664037894272559786) (0,240)))) (vadd (vadd (vmul (vmul (1012,1012) (1012,1012)) (1012,1012)) (vmul (vmul (0,240) (1012,1012)) (vmul (vmul (4002409555221667393417789825735904156556882819939007885332058136124031650490837864442687629129015664037894272559785,4002409555221667393417789825735904156556882819939007885332058136124031650490837864442687629129015664037894272559786) (0,240)) (vmul (4002409555221667393417789825735904156556882819939007885332058136124031650490837864442687629129015664037894272559785,4002409555221667393417789825735904156556882819939007885332058136124031650490837864442687629129015664037894272559786) (0,240))))) (vmul (1012,1012) (vmul (vmul (vmul (4002409555221667393417789825735904156556882819939007885332058136124031650490837864442687629129015664037894272559785,4002409555221667393417789825735904156556882819939007885332058136124031650490837864442687629129015664037894272559786) (0,240)) (vmul (4002409555221667393417789825735904156556882819939007885332058136124031650490837864442687629129015664037894272559785,4002409555221667393417789825735904156556882819939007885332058136124031650490837864442687629129015664037894272559786) (0,240))) (vmul (4002409555221667393417789825735904156556882819939007885332058136124031650490837864442687629129015664037894272559785,4002409555221667393417789825735904156556882819939007885332058136124031650490837864442687629129015664037894272559786) (0,240))))))=true:=by kernel_rfl
theorem cz_ne : cz ≠ 0:=fun h => absurd (congrArg Prod.snd h) (by decide)
theorem sw_0 : ∃ y : F2,y * y=hq (cb * inv (cz * ca)) cG:=by
 have h1:=(evP2.isz_φ _).1 sw_c
 have h2 : q2 (vsub (vmul (vmul s0 s0) (vmul (vmul (vmul (4002409555221667393417789825735904156556882819939007885332058136124031650490837864442687629129015664037894272559785,4002409555221667393417789825735904156556882819939007885332058136124031650490837864442687629129015664037894272559786) (0,240)) (vmul (4002409555221667393417789825735904156556882819939007885332058136124031650490837864442687629129015664037894272559785,4002409555221667393417789825735904156556882819939007885332058136124031650490837864442687629129015664037894272559786) (0,240))) (vmul (4002409555221667393417789825735904156556882819939007885332058136124031650490837864442687629129015664037894272559785,4002409555221667393417789825735904156556882819939007885332058136124031650490837864442687629129015664037894272559786) (0,240)))) (vadd (vadd (vmul (vmul (1012,1012) (1012,1012)) (1012,1012)) (vmul (vmul (0,240) (1012,1012)) (vmul (vmul (4002409555221667393417789825735904156556882819939007885332058136124031650490837864442687629129015664037894272559785,4002409555221667393417789825735904156556882819939007885332058136124031650490837864442687629129015664037894272559786) (0,240)) (vmul (4002409555221667393417789825735904156556882819939007885332058136124031650490837864442687629129015664037894272559785,4002409555221667393417789825735904156556882819939007885332058136124031650490837864442687629129015664037894272559786) (0,240))))) (vmul (1012,1012) (vmul (vmul (vmul (4002409555221667393417789825735904156556882819939007885332058136124031650490837864442687629129015664037894272559785,4002409555221667393417789825735904156556882819939007885332058136124031650490837864442687629129015664037894272559786) (0,240)) (vmul (4002409555221667393417789825735904156556882819939007885332058136124031650490837864442687629129015664037894272559785,4002409555221667393417789825735904156556882819939007885332058136124031650490837864442687629129015664037894272559786) (0,240))) (vmul (4002409555221667393417789825735904156556882819939007885332058136124031650490837864442687629129015664037894272559785,4002409555221667393417789825735904156556882819939007885332058136124031650490837864442687629129015664037894272559786) (0,240))))))=0:=h1
 simp only [q2_sub,q2_add,q2_mul] at h2
 have h3 : q2 s0 * q2 s0 * (cz * ca * (cz * ca) * (cz * ca))=cb * cb * cb + ca * cb * (cz * ca * (cz * ca)) + cb * (cz * ca * (cz * ca) * (cz * ca)):=eq_of_sub h2
 have hne : cz * ca ≠ 0:=mul_ne cz_ne ca_ne
 obtain ⟨D,hD⟩ : ∃ D,D=cz * ca:=⟨_,rfl⟩
 rw [<- hD] at h3 hne
 refine ⟨q2 s0,?_⟩
 rw [<- hD,hG]
 refine mul_left (mul_ne (mul_ne hne hne) hne) ?_
 have e : D * D * D * (cb * inv D * (cb * inv D) * (cb * inv D) + ca * (cb * inv D) + cb)=(D * inv D) * (D * inv D) * (D * inv D) * (cb * cb * cb) + (D * inv D) * (ca * cb * (D * D)) + cb * (D * D * D):=by
  rw [mul_add,mul_add]
  congr 1
  ·congr 1
   ·ac_rfl
   ·ac_rfl
  ·ac_rfl
 rw [e,mul_inv D hne,one_mul,one_mul,one_mul,one_mul,<- h3]
 ac_rfl
end
end Cr
namespace Go.Proofs.YtbfimfdhmggieaaGreatDoor.fp
open Go Go.Eng Go.RowKit Cr
theorem ent_wide : enters Tryz.prog 163 Tryz.f163:=ek
noncomputable def wideI (g : List Int × Fp) : St:=mkSt Tryz.f163.ntmps 40 [(0,.is (.one (.ro (.int .u8) g.1))),(2,.is (.one (.ptr 0 0))),(3,.is (.one (.ptr 8 0))),(4,.is (.one (.ptr 24 0)))] [(0,[.row .fp 1 [(0 : Fp)]]),(8,[.row .fp 1 [g.2]]),(24,[.row .fp 1 [(R2 : Fp)]])]
def wn (len : Int) : Int:=IntKind.i64.wrap ((IntKind.i64.wrap (len - 1)).tmod 48 + 1)
def wch (bs : List Int) : List Int:=List.take (wn bs.length - 0).toNat (List.drop (Int.toNat 0) bs)
def wideN (g : List Int × Fp) : List Int × Fp:=(List.take ((g.1.length : Int) - wn g.1.length).toNat (List.drop (wn g.1.length).toNat g.1),g.2 * R2 + dec (lim 6 (val (enc (R2 : Fp)) * val (lim 6 (num (wch g.1))) * rinv % M)))
def wp (len k : Nat) : Nat:=len - 48 * ((len + 47) / 48 - k)
def wideG (bs : List Int) (k : Nat) : List Int × Fp:=(bs.drop (wp bs.length k),zm (num (bs.take (wp bs.length k))))
theorem wn_eq {L : Nat} (h0 : 0 < L) (h1 : L < 4611686018427387904) : wn L=(((L - 1) % 48 + 1 : Nat) : Int):=by
 unfold wn
 rw [wrap_i64' (a:=(L : Int) - 1) (by omega) (by omega),Int.tmod_eq_emod_of_nonneg (by omega),wrap_i64' (by omega) (by omega)]
 omega
theorem wide_next {bs : List Int} (hb : Bs bs) (hl : bs.length < 4611686018427387904) {k : Nat} (hk : k < (bs.length + 47) / 48) :
  0 < bs.length - wp bs.length k /\ wideN (wideG bs k)=wideG bs (k + 1) /\ (wch (bs.drop (wp bs.length k))).length <= 48 /\ 1 <= (bs.length - wp bs.length k - 1) % 48 + 1 /\ (bs.length - wp bs.length k - 1) % 48 + 1 <= bs.length - wp bs.length k:=by
 have hL : 0 < bs.length - wp bs.length k:=by unfold wp; omega
 have hn : (bs.length - wp bs.length k - 1) % 48 + 1=wp bs.length (k + 1) - wp bs.length k:=by unfold wp; omega
 have hle : wp bs.length (k + 1) <= bs.length:=by unfold wp; omega
 have hlt : wp bs.length k < wp bs.length (k + 1):=by unfold wp; omega
 have hlen : (bs.drop (wp bs.length k)).length=bs.length - wp bs.length k:=List.length_drop
 have hwn : wn (bs.drop (wp bs.length k)).length=((wp bs.length (k + 1) - wp bs.length k : Nat) : Int):=by
  rw [wn_eq (by omega) (by omega),hlen,hn]
 have hch : wch (bs.drop (wp bs.length k))=(bs.drop (wp bs.length k)).take (wp bs.length (k + 1) - wp bs.length k):=by
  unfold wch
  rw [hwn]
  congr 1
 refine ⟨hL,?_,?_,by omega,by omega⟩
 ·unfold wideN wideG
  simp only
  rw [hwn,hch]
  have e1 : List.take (((bs.drop (wp bs.length k)).length : Int) - ((wp bs.length (k + 1) - wp bs.length k : Nat) : Int)).toNat (List.drop ((wp bs.length (k + 1) - wp bs.length k : Nat) : Int).toNat (bs.drop (wp bs.length k)))=bs.drop (wp bs.length (k + 1)):=by
   rw [Int.toNat_natCast,List.drop_drop,show wp bs.length k + (wp bs.length (k + 1) - wp bs.length k)=wp bs.length (k + 1) by omega]
   exact List.take_of_length_le (by simp; omega)
  rw [e1]
  congr 1
  have hcb : Bs ((bs.drop (wp bs.length k)).take (wp bs.length (k + 1) - wp bs.length k)):=Bs_take (Bs_drop hb _) _
  have hcl : ((bs.drop (wp bs.length k)).take (wp bs.length (k + 1) - wp bs.length k)).length=wp bs.length (k + 1) - wp bs.length k:=by simp; omega
  have hc48 : wp bs.length (k + 1) - wp bs.length k <= 48:=by omega
  have hnb:=num_bd hcb
  rw [hcl] at hnb
  have hpl : p256 (wp bs.length (k + 1) - wp bs.length k) <= pw 6:=by
   rw [<- p256_8,show 8 * 6=(wp bs.length (k + 1) - wp bs.length k) + (48 - (wp bs.length (k + 1) - wp bs.length k)) by omega,p256_add]
   have h1:=p256_pos (wp bs.length (k + 1) - wp bs.length k)
   have h2:=p256_pos (48 - (wp bs.length (k + 1) - wp bs.length k))
   have:=Int.mul_le_mul_of_nonneg_left (show 1 <= p256 (48 - (wp bs.length (k + 1) - wp bs.length k)) by omega) (Int.le_of_lt h1)
   omega
  rw [show lim 6 (val (enc (R2 : Fp)) * val (lim 6 (num ((bs.drop (wp bs.length k)).take (wp bs.length (k + 1) - wp bs.length k)))) * rinv % M)=enc (zm (val (lim 6 (num ((bs.drop (wp bs.length k)).take (wp bs.length (k + 1) - wp bs.length k))))) : Fp) from shift_enc (M:=Mp),val_lim_of hnb.1 (by omega),dec_enc]
  show zm _ * zm (pw 6) + zm _=zm _
  rw [zm_mul,zm_add]
  congr 1
  have hsplit : bs.take (wp bs.length (k + 1))=bs.take (wp bs.length k) ++ (bs.drop (wp bs.length k)).take (wp bs.length (k + 1) - wp bs.length k):=by
   rw [<- List.take_add,show wp bs.length k + (wp bs.length (k + 1) - wp bs.length k)=wp bs.length (k + 1) by omega]
  rw [hsplit,num_append,hcl]
  by_cases h0 : wp bs.length k=0
  ·rw [h0]; simp [num]
  ·rw [show wp bs.length (k + 1) - wp bs.length k=48 by unfold wp at h0 ⊢; omega,<- p256_8]
 ·rw [hch]; simp; omega
abbrev preWide : HL [.sl (.int .u8)] -> Prop:=fun (bs,_) => Bs bs /\ List.length bs < 4611686018427387904
abbrev outWide : HL [.sl (.int .u8)] -> HO [.val .fp]:=fun (bs,_) => ((zm (num bs) : Fp),())
theorem fn_wide : FnOk Tryz.prog 163 [.sl (.int .u8)] [.val .fp] noG preWide outWide:=by
 have hsp : SpecsOk Tryz.prog (sps [spWords,spMul,spAdd,spShift,spTimes]):=scn (fok fn_words) (scn (fok fn_mul) (scn (fok fn_add) (scn (fok fn_shift) (scn (fok fn_times) snl))))
 refine fn_of_tr (sp:=sps [spWords,spMul,spAdd,spShift,spTimes]) ent_wide (by decide) (by decide) (by kernel_rfl) ?_
 rintro w M0 ⟨bs,⟨⟩⟩ _ ⟨hb,hl⟩
 have hb : Bs bs:=hb
 have hl : bs.length < 4611686018427387904:=hl
 show Tr _ _ _ _ _ _ _
 refine tr_cut hsp mixed 3 (wideI (bs,0)) True ?_ (fun _ => ?_)
 ·refine vcx (X:=True /\ (wideI (bs,0)).triv True) (by kernel_rfl) ⟨trivial,tvi trivial⟩
 have e0 : (bs,(0 : Fp))=wideG bs 0:=by
  unfold wideG
  rw [show wp bs.length 0=0 by unfold wp; omega]
  rfl
 rw [e0]
 refine tr_count hsp mixed wideI (wideG bs) ((bs.length + 47) / 48) wideN wideI (c:=nthC (codeOf Tryz.f163) 3) (by kernel_rfl) (by kernel_rfl) (le_of_proj (by kernel_rfl) (by kernel_rfl) trivial)
  (fun k hk => (wide_next hb hl hk).2.1) ?_ ?_
 ·intro k hk
  have hlen : (wideG bs k).1.length=bs.length - wp bs.length k:=by unfold wideG; simp
  have hbs : Bs (wideG bs k).1:=Bs_drop hb _
  have hnx : k < (bs.length + 47) / 48 -> (wch (wideG bs k).1).length <= 48:=fun h => (wide_next hb hl h).2.2.1
  have hb1 : k < (bs.length + 47) / 48 -> 1 <= ((wideG bs k).1.length - 1) % 48 + 1 /\ ((wideG bs k).1.length - 1) % 48 + 1 <= (wideG bs k).1.length:=fun h => by rw [hlen]; exact (wide_next hb hl h).2.2.2
  have hiff : k < (bs.length + 47) / 48 ↔ 0 < (wideG bs k).1.length:=by rw [hlen]; unfold wp; omega
  have hll : (wideG bs k).1.length < 4611686018427387904:=by omega
  clear hlen
  generalize wideG bs k=g at *
  obtain ⟨cs,x⟩:=g
  simp only at hbs hnx hb1 hiff hll
  refine vcx (X:=((decide ((cs.length : Int) > 0)=true -> (48 : Int) ≠ 0 /\ True /\ (0 <= wn cs.length /\ wn cs.length <= (cs.length : Int)) /\ preWords (wch cs,()) /\ preTimes (enc (R2 : Fp),lim 6 (num (wch cs)),()) /\ Canon Mp (lim 6 (val (enc (R2 : Fp)) * val (lim 6 (num (wch cs))) * rinv % M)) /\ True /\ (0 <= wn cs.length /\ wn cs.length <= (cs.length : Int)) /\ (wideI (wideN (cs,x))).triv (k < (bs.length + 47) / 48)) /\
   (decide ((cs.length : Int) > 0)=false -> (wideI (cs,x)).triv (k=(bs.length + 47) / 48)))) (by kernel_rfl) ?_
  refine ⟨fun h => ?_,fun h => tvi ?_⟩
  ·have h0 : 0 < cs.length:=by have:=of_decide_eq_true h; omega
   have hk':=hiff.2 h0
   have h1:=hb1 hk'
   have hw:=wn_eq h0 hll
   have hch : Bs (wch cs):=by unfold wch; exact Bs_take (Bs_drop hbs _) _
   refine ⟨by decide,trivial,by rw [hw]; omega,⟨hch,hnx hk'⟩,⟨enc_ws _,lim_ws _ _,(enc_canon _).2.2⟩,?_,trivial,by rw [hw]; omega,tvi hk'⟩
   rw [show lim 6 (val (enc (R2 : Fp)) * val (lim 6 (num (wch cs))) * rinv % M)=enc (zm (val (lim 6 (num (wch cs)))) : Fp) from shift_enc (M:=Mp)]
   exact enc_canon _
  ·have:=of_decide_eq_false h
   omega
 refine tr_vc hsp mixed _ _ ?_
 refine vcx (X:=((wideG bs ((bs.length + 47) / 48)).2,())=outWide (bs,())) (by kernel_rfl) ?_
 unfold wideG
 rw [show wp bs.length ((bs.length + 47) / 48)=bs.length by unfold wp; omega,List.take_length]
noncomputable def spWide : Nat × Eng.Spec:=(163,fnSpec [.sl (.int .u8)] [.val .fp] preWide outWide)
end Go.Proofs.YtbfimfdhmggieaaGreatDoor.fp
namespace Go.Proofs.YtbfimfdhmggieaaGreatDoor.h2c
open Go Go.Eng Go.RowKit Cr fp2
abbrev iK : Kd:=.int .i64
abbrev pt2 : Kd:=.pair f2 f2
def smA (n : Int) : Prop:=-1000000 <= n /\ n <= 1000000
theorem ent_sm1 : enters Tryz.prog 201 Tryz.f201:=ek
theorem fn_sm1 : FnOk Tryz.prog 201 [iK] [.val .fp] noG (fun (n,_) => smA n) (fun (n,_) => ((zmp n : Fp),())):=by
 refine fn_of_vc (sp:=sps [fp.spOf,fp.spNeg]) (scn (fok fp.fn_of) (scn (fok fp.fn_neg) snl)) mixed ent_sm1 (by decide) (by decide) ?_
 rintro w M0 ⟨n,⟨⟩⟩
 revert n
 intro (n : Int) _ hp
 have hp : -1000000 <= n /\ n <= 1000000:=hp
 refine vcx (X:=((decide (n < (0 : Int))=true -> U64 (IntKind.u64.wrap (IntKind.i64.wrap ((0 : Int) - n))) /\ True /\ (-zmp (IntKind.u64.wrap (IntKind.i64.wrap ((0 : Int) - n))),())=(zmp n,())) /\ (decide (n < (0 : Int))=false -> U64 (IntKind.u64.wrap n) /\ (zmp (IntKind.u64.wrap n),())=(zmp n,())))) (by kernel_rfl) ?_
 refine ⟨fun h => ?_,fun h => ?_⟩
 ·have h : n < 0:=of_decide_eq_true h
  have e1 : IntKind.i64.wrap ((0 : Int) - n)=-n:=by rw [wrap_i64' (by omega) (by omega)]; omega
  have e2 : IntKind.u64.wrap (-n)=-n:=by rw [wrap_u64' (-n)]; omega
  rw [e1,e2]
  refine ⟨⟨by omega,by omega⟩,trivial,?_⟩
  rw [zm_neg,Int.neg_neg]
 ·have h : ¬ n < 0:=of_decide_eq_false h
  have e2 : IntKind.u64.wrap n=n:=by rw [wrap_u64' n]; omega
  rw [e2]
  exact ⟨⟨by omega,by omega⟩,rfl⟩
noncomputable def spSm1 : Nat × Eng.Spec:=(201,fnSpec [iK] [.val .fp] (fun (n,_) => smA n) (fun (n,_) => ((zmp n : Fp),())))
theorem ent_sm2 : enters Tryz.prog 202 Tryz.f202:=ek
abbrev f116 : Kd:=.fn 201
theorem fn_sm2 : FnOk Tryz.prog 202 [iK,iK,.ptr f116] [.val f2] noG (fun (m,n,_) => smA m /\ smA n) (fun (m,n,_) => (((zmp m,zmp n) : F2),())):=by
 refine fn_of_vc (sp:=sps [spSm1]) (scn (fok fn_sm1) snl) mixed ent_sm2 (by decide) (by decide) ?_
 rintro w M0 ⟨m,n,c,⟨⟩⟩
 revert m n
 intro (m : Int) (n : Int) _ hp
 have hp : smA m /\ smA n:=hp
 refine vcx (X:=((0 : Nat) < [c].length /\ smA m /\ (0 : Nat) < [c].length /\ smA n /\ ((zmp m,zmp n),())=((zmp m,zmp n),()))) (by kernel_rfl) ?_
 exact ⟨Nat.zero_lt_one,hp.1,Nat.zero_lt_one,hp.2,rfl⟩
noncomputable def spSm2 : Nat × Eng.Spec:=(202,fnSpec [iK,iK,.ptr f116] [.val f2] (fun (m,n,_) => smA m /\ smA n) (fun (m,n,_) => (((zmp m,zmp n) : F2),())))
abbrev cloSm : Kd:=.cap (.fn 202) f116
theorem ent_small : enters Tryz.prog 164 Tryz.f164:=ek
theorem fn_small : FnOk Tryz.prog 164 [] [.val cloSm] noG (fun _ => True) (fun _ => (((),()),())):=by
 refine fn_of_vc (sp:=sps []) snl mixed ent_small (by decide) (by decide) ?_
 rintro w M0 ⟨⟩ _ _
 refine vcx (X:=((((),()),())=(((),()),()))) (by kernel_rfl) ?_
 trivial
noncomputable def spSmall : Nat × Eng.Spec:=(164,fnSpec [] [.val cloSm] (fun _ => True) (fun _ => (((),()),())))
end Go.Proofs.YtbfimfdhmggieaaGreatDoor.h2c
namespace Go.Proofs.YtbfimfdhmggieaaGreatDoor.h2c
noncomputable section
open Go Go.Eng Go.RowKit Cr fp2
theorem ent_great : enters Tryz.prog 205 Tryz.f205:=ek
def grI (s : ByteArray) (g : Int × List Int) : St:=mkSt Tryz.f205.ntmps 40 [(0,.is (.one (.v (.string s)))),(2,.is (.one (.ptr 0 0))),(3,.is (.one (.ptr 8 0))),(8,.is (.one (.v (.string s)))),(9,sI .i64 s.size),(10,sI .i64 g.1)] [(8,[.ints .u8 48 g.2]),(0,[.row .fp 1 [(0 : Fp)]])]
def grD (s : ByteArray) (k : Nat) : Int:=if IntKind.u8.wrap ((sbytes s).getD k 0 - 48) > 9 then IntKind.u8.wrap (IntKind.u8.wrap ((sbytes s).getD k 0 - 97) + 10) else IntKind.u8.wrap ((sbytes s).getD k 0 - 48)
def grN (s : ByteArray) (k : Nat) (xs : List Int) : List Int:=xs.set (k / 2) (bitOp .or .u8 (IntKind.u8.wrap (xs.getD (k / 2) 0 * 2 ^ min (Int.toNat 4) IntKind.u8.bits)) (grD s k))
def grG (s : ByteArray) (k : Nat) : List Int:=it (fun k xs => grN s k xs) (List.replicate 48 0) k
def grOk (s : ByteArray) : Bool:=decide (s.size <= 96) && (List.take 48 (grG s s.size)).all fun x => decide (0 <= x) && decide (x < 256)
theorem grOk_1 {s : ByteArray} (h : grOk s=true) : s.size <= 96 /\ Bs (List.take 48 (grG s s.size)):=by
 unfold grOk at h
 rw [Bool.and_eq_true] at h
 refine ⟨of_decide_eq_true h.1,fun x hx => ?_⟩
 have h2:=List.all_eq_true.1 h.2 x hx
 rw [Bool.and_eq_true] at h2
 exact ⟨of_decide_eq_true h2.1,of_decide_eq_true h2.2⟩
def gro (s : ByteArray) : Fp:=opq (fp.rdFp (List.take 48 (grG s s.size))).1
theorem fn_great : FnOk Tryz.prog 205 [.str] [.val .fp] noG (fun (s,_) => grOk s=true) (fun (s,_) => (gro s,())):=by
 have hsp : SpecsOk Tryz.prog (sps [fp.spRead]):=scn (fok fp.fn_read) snl
 refine fn_of_tr (sp:=sps [fp.spRead]) ent_great (by decide) (by decide) (by kernel_rfl) ?_
 rintro w M0 ⟨s,⟨⟩⟩
 revert s
 intro (s : ByteArray) _ hl
 have hg : grOk s=true:=hl
 have hl:=(grOk_1 hg).1
 show Tr _ _ _ _ _ _ _
 refine tr_cut hsp mixed 3 (grI s (0,List.replicate 48 0)) True ?_ (fun _ => ?_)
 ·refine vcx (X:=((grI s ((0 : Int),List.replicate (48 : Nat) (0 : Int))).triv True)) (by kernel_rfl) ?_
  exact tvi trivial
 refine tr_while hsp mixed noSw (fun σ => (rdS (.int .i64) 10 σ,rdB (.arr 48 (.int .u8)) 8 σ)) (grI s) (fun g => ∃ k : Nat,k <= s.size /\ g.1=(k : Int) /\ g.2=grG s k) (fun g => s.size - g.1.toNat)
  (fun σ => (rdS (.int .i64) 10 σ,rdB (.arr 48 (.int .u8)) 8 σ)) (grI s) (fun g => g.2=grG s s.size) (0,List.replicate 48 0) (c:=nthC (codeOf Tryz.f205) 3) (by kernel_rfl) (by kernel_rfl) (le_of_proj (by kernel_rfl) (by kernel_rfl) ?_) ?_ ?_
 ·exact ⟨0,Nat.zero_le _,rfl,rfl⟩
 ·rintro ⟨i,xs⟩ hj
  revert i xs
  intro (i : Int) (xs : List Int) ⟨k,hk,ei,ex⟩
  have ei : i=(k : Int):=ei
  have ex : xs=grG s k:=ex
  subst ei
  have e2 : IntKind.i64.wrap ((k : Int).tdiv 2)=((k / 2 : Nat) : Int):=by
   rw [Int.tdiv_eq_ediv_of_nonneg (by omega),wrap_i64' (by omega) (by omega)]; rfl
  refine vcx (X:=((decide ((↑k : Int) < (↑s.size : Int))=true -> ((0 : Int) <= (↑k : Int) /\ (↑k : Int) < (↑s.size : Int)) /\ (decide (IntKind.u8.wrap ((sbytes s).getD (↑k : Int).toNat (0 : Int) - (48 : Int)) > (9 : Int))=true -> ((0 : Int) <= (↑k : Int) /\ (↑k : Int) < (↑s.size : Int)) /\ ((2 : Int)=(0 : Int) -> False) /\ ((2 : Int)=(0 : Int) -> False) /\ ((0 : Int) <= IntKind.i64.wrap ((↑k : Int).tdiv (2 : Int)) /\ IntKind.i64.wrap ((↑k : Int).tdiv (2 : Int)) < (↑(48 : Nat) : Int)) /\ (IntKind.i64.wrap ((↑k : Int).tdiv (2 : Int))).toNat < (48 : Nat) /\ (0 : Int) <= (4 : Int) /\ ((0 : Int) <= IntKind.i64.wrap ((↑k : Int).tdiv (2 : Int)) /\ IntKind.i64.wrap ((↑k : Int).tdiv (2 : Int)) < (↑(48 : Nat) : Int)) /\ (IntKind.i64.wrap ((↑k : Int).tdiv (2 : Int))).toNat < (48 : Nat) /\ (grI s (IntKind.i64.wrap ((↑k : Int) + (1 : Int)),xs.set (IntKind.i64.wrap ((↑k : Int).tdiv (2 : Int))).toNat (bitOp BinOp.or IntKind.u8 (IntKind.u8.wrap (xs.getD (IntKind.i64.wrap ((↑k : Int).tdiv (2 : Int))).toNat (0 : Int) * (2 : Int) ^ min (4 : Nat) IntKind.u8.bits)) (IntKind.u8.wrap (IntKind.u8.wrap ((sbytes s).getD (↑k : Int).toNat (0 : Int) - (97 : Int)) + (10 : Int)))))).triv ((∃ k_1,k_1 <= s.size /\ IntKind.i64.wrap ((↑k : Int) + (1 : Int))=(↑k_1 : Int) /\ xs.set (IntKind.i64.wrap ((↑k : Int).tdiv (2 : Int))).toNat (bitOp BinOp.or IntKind.u8 (IntKind.u8.wrap (xs.getD (IntKind.i64.wrap ((↑k : Int).tdiv (2 : Int))).toNat (0 : Int) * (2 : Int) ^ min (4 : Nat) IntKind.u8.bits)) (IntKind.u8.wrap (IntKind.u8.wrap ((sbytes s).getD (↑k : Int).toNat (0 : Int) - (97 : Int)) + (10 : Int))))=grG s k_1) /\ s.size - (IntKind.i64.wrap ((↑k : Int) + (1 : Int))).toNat < s.size - (↑k : Int).toNat)) /\ (decide (IntKind.u8.wrap ((sbytes s).getD (↑k : Int).toNat (0 : Int) - (48 : Int)) > (9 : Int))=false -> ((2 : Int)=(0 : Int) -> False) /\ ((2 : Int)=(0 : Int) -> False) /\ ((0 : Int) <= IntKind.i64.wrap ((↑k : Int).tdiv (2 : Int)) /\ IntKind.i64.wrap ((↑k : Int).tdiv (2 : Int)) < (↑(48 : Nat) : Int)) /\ (IntKind.i64.wrap ((↑k : Int).tdiv (2 : Int))).toNat < (48 : Nat) /\ (0 : Int) <= (4 : Int) /\ ((0 : Int) <= IntKind.i64.wrap ((↑k : Int).tdiv (2 : Int)) /\ IntKind.i64.wrap ((↑k : Int).tdiv (2 : Int)) < (↑(48 : Nat) : Int)) /\ (IntKind.i64.wrap ((↑k : Int).tdiv (2 : Int))).toNat < (48 : Nat) /\ (grI s (IntKind.i64.wrap ((↑k : Int) + (1 : Int)),xs.set (IntKind.i64.wrap ((↑k : Int).tdiv (2 : Int))).toNat (bitOp BinOp.or IntKind.u8 (IntKind.u8.wrap (xs.getD (IntKind.i64.wrap ((↑k : Int).tdiv (2 : Int))).toNat (0 : Int) * (2 : Int) ^ min (4 : Nat) IntKind.u8.bits)) (IntKind.u8.wrap ((sbytes s).getD (↑k : Int).toNat (0 : Int) - (48 : Int)))))).triv ((∃ k_1,k_1 <= s.size /\ IntKind.i64.wrap ((↑k : Int) + (1 : Int))=(↑k_1 : Int) /\ xs.set (IntKind.i64.wrap ((↑k : Int).tdiv (2 : Int))).toNat (bitOp BinOp.or IntKind.u8 (IntKind.u8.wrap (xs.getD (IntKind.i64.wrap ((↑k : Int).tdiv (2 : Int))).toNat (0 : Int) * (2 : Int) ^ min (4 : Nat) IntKind.u8.bits)) (IntKind.u8.wrap ((sbytes s).getD (↑k : Int).toNat (0 : Int) - (48 : Int))))=grG s k_1) /\ s.size - (IntKind.i64.wrap ((↑k : Int) + (1 : Int))).toNat < s.size - (↑k : Int).toNat))) /\ (decide ((↑k : Int) < (↑s.size : Int))=false -> (grI s ((↑k : Int),xs)).triv (xs=grG s s.size)))) (by kernel_rfl) ?_
  refine ⟨fun h => ?_,fun h => tvi ?_⟩
  ·have hlt : k < s.size:=by have:=of_decide_eq_true h; omega
   have b1 : (0 : Int) <= (k : Int) /\ (k : Int) < (s.size : Int):=⟨by omega,by omega⟩
   have z2 : (2 : Int)=0 -> False:=by decide
   have b2 : (0 : Int) <= ((k / 2 : Nat) : Int) /\ ((k / 2 : Nat) : Int) < ((48 : Nat) : Int):=⟨by omega,by omega⟩
   have b3 : k / 2 < 48:=by omega
   rw [e2]
   simp only [Int.toNat_natCast]
   refine ⟨b1,fun h2 => ⟨b1,z2,z2,b2,b3,by decide,b2,b3,tvi ⟨⟨k + 1,hlt,wrap_succ (by omega),?_⟩,?_⟩⟩,fun h2 => ⟨z2,z2,b2,b3,by decide,b2,b3,tvi ⟨⟨k + 1,hlt,wrap_succ (by omega),?_⟩,?_⟩⟩⟩
   ·show _=grN s k (grG s k)
    rw [grN,grD,if_pos (of_decide_eq_true h2),<- ex]; rfl
   ·rw [wrap_succ (by omega)]; omega
   ·show _=grN s k (grG s k)
    rw [grN,grD,if_neg (of_decide_eq_false h2),<- ex]; rfl
   ·rw [wrap_succ (by omega)]; omega
  ·have hk2 : k=s.size:=by have:=of_decide_eq_false h; omega
   rw [<- hk2]; exact ex
 rintro ⟨i,xs⟩ hx
 revert i xs
 intro (i : Int) (xs : List Int) (hx : xs=grG s s.size)
 refine tr_vc hsp mixed _ _ ?_
 refine vcx (X:=(0 + 48 <= 48 /\ fp.preRead (List.take 48 xs,()) /\ ((fp.rdFp (List.take 48 xs)).fst,())=(gro s,()))) (by kernel_rfl) ?_
 refine ⟨Nat.le_refl _,by rw [hx]; exact (grOk_1 hg).2,?_⟩
 rw [gro,opq_eq,hx]
def spGreat : Nat × Eng.Spec:=(205,fnSpec [.str] [.val .fp] (fun (s,_) => grOk s=true) (fun (s,_) => (gro s,())))
theorem ent_acr1 : enters Tryz.prog 204 Tryz.f204:=ek
theorem fn_acr1 : FnOk Tryz.prog 204 [.str,.str] [.val f2] noG (fun (a,b,_) => grOk a=true /\ grOk b=true) (fun (a,b,_) => (((gro a,gro b) : F2),())):=by
 refine fn_of_vc (sp:=sps [spGreat]) (scn (fok fn_great) snl) mixed ent_acr1 (by decide) (by decide) ?_
 rintro w M0 ⟨a,b,⟨⟩⟩
 revert a b
 intro (a : ByteArray) (b : ByteArray) _ hp
 have hp : grOk a=true /\ grOk b=true:=hp
 refine vcx (X:=(grOk a=true /\ grOk b=true /\ ((gro a,gro b),())=((gro a,gro b),()))) (by kernel_rfl) ?_
 exact ⟨hp.1,hp.2,rfl⟩
def spAcr1 : Nat × Eng.Spec:=(204,fnSpec [.str,.str] [.val f2] (fun (a,b,_) => grOk a=true /\ grOk b=true) (fun (a,b,_) => (((gro a,gro b) : F2),())))
theorem ent_value : enters Tryz.prog 165 Tryz.f165:=ek
def hvo (x : F2) (l : List F2) : F2:=opq (hv x l)
def vaI (x : F2) (l : List F2) (g : Int × F2) : St:=mkSt Tryz.f165.ntmps 48 [(1,.is (.one (.ro f2 l))),(2,.is (.one (.ptr 0 0))),(4,.is (.one (.ptr 8 0))),(5,.is (.one (.ptr 16 0))),(6,sI .i64 g.1)] [(16,cellsOf f2 g.2),(8,cellsOf f2 (0 : F2)),(0,cellsOf f2 x)]
theorem fn_value : FnOk Tryz.prog 165 [f2,.sl f2] [.val f2] noG (fun (_,l,_) => List.length l <= 1048576) (fun (x,l,_) => (hvo x l,())):=by
 have hsp : SpecsOk Tryz.prog (sps [fp2.spMul,fp2.spAdd]):=scn (fok fp2.fn_mul) (scn (fok fp2.fn_add) snl)
 refine fn_of_tr (sp:=sps [fp2.spMul,fp2.spAdd]) ent_value (by decide) (by decide) (by kernel_rfl) ?_
 rintro w M0 ⟨x,l,⟨⟩⟩
 revert x l
 intro (x : F2) (l : List F2) _ hl
 have hl : l.length <= 1048576:=hl
 show Tr _ _ _ _ _ _ _
 refine tr_cut hsp mixed 3 (vaI x l ((l.length : Int) - 1,0)) True ?_ (fun _ => ?_)
 ·have hw : IntKind.i64.wrap ((l.length : Int) - 1)=(l.length : Int) - 1:=wrap_i64' (by omega) (by omega)
  rw [<- hw]
  refine vcx (X:=((vaI x l (IntKind.i64.wrap ((↑l.length : Int) - (1 : Int)),(0 : F2))).triv True)) (by kernel_rfl) ?_
  exact tvi trivial
 refine tr_while hsp mixed noSw (fun σ => (rdS (.int .i64) 6 σ,rdB f2 16 σ)) (vaI x l) (fun g => ∃ k : Nat,k <= l.length /\ g.1=(k : Int) - 1 /\ g.2=hv x (l.drop k)) (fun g => (g.1 + 1).toNat)
  (fun σ => (rdS (.int .i64) 6 σ,rdB f2 16 σ)) (vaI x l) (fun g => g.2=hv x l) ((l.length : Int) - 1,0) (c:=nthC (codeOf Tryz.f165) 3) (by kernel_rfl) (by kernel_rfl) (le_of_proj (by kernel_rfl) (by kernel_rfl) ?_) ?_ ?_
 ·exact ⟨l.length,Nat.le_refl _,rfl,by rw [List.drop_length]; rfl⟩
 ·rintro ⟨i,s⟩ hj
  revert i s
  intro (i : Int) (s : F2) ⟨k,hk,ei,es⟩
  have ei : i=(k : Int) - 1:=ei
  have es : s=hv x (l.drop k):=es
  refine vcx (X:=((decide (i >= (0 : Int))=true -> True /\ ((0 : Int) <= i /\ i < (↑l.length : Int)) /\ i.toNat < l.length /\ True /\ (vaI x l (IntKind.i64.wrap (i - (1 : Int)),s * x + l.getD i.toNat ((0 : Fp),(0 : Fp)))).triv ((∃ k,k <= l.length /\ IntKind.i64.wrap (i - (1 : Int))=(↑k : Int) - (1 : Car (Kd.int IntKind.i64)) /\ s * x + l.getD i.toNat ((0 : Fp),(0 : Fp))=hv x (List.drop k l)) /\ Int.toNat (IntKind.i64.wrap (i - (1 : Int)) + (1 : Car (Kd.int IntKind.i64))) < Int.toNat (i + (1 : Car (Kd.int IntKind.i64))))) /\ (decide (i >= (0 : Int))=false -> (vaI x l (i,s)).triv (s=hv x l)))) (by kernel_rfl) ?_
  refine ⟨fun h => ?_,fun h => tvi ?_⟩
  ·have h0 : 0 <= i:=of_decide_eq_true h
   obtain ⟨j,hj⟩ : ∃ j,k=j + 1:=⟨k - 1,by omega⟩
   have e1 : i.toNat=j:=by omega
   have e2 : IntKind.i64.wrap (i - 1)=(j : Int) - 1:=by rw [wrap_i64' (by omega) (by omega)]; omega
   have hlt : j < l.length:=by omega
   have hd : l.drop j=l[j] :: l.drop (j + 1):=List.drop_eq_getElem_cons hlt
   have hg : l.getD j ((0 : Fp),(0 : Fp))=l[j]:=by simp [List.getD_eq_getElem?_getD,hlt]
   rw [e2,e1,hg]
   refine ⟨trivial,⟨h0,by omega⟩,hlt,trivial,tvi ⟨⟨j,by omega,rfl,?_⟩,by omega⟩⟩
   rw [hd,es,hj]; rfl
  ·have h0 : ¬ 0 <= i:=of_decide_eq_false h
   have hk0 : k=0:=by omega
   rw [es,hk0]; rfl
 rintro ⟨i,s⟩ hx
 revert i s
 intro (i : Int) (s : F2) (hx : s=hv x l)
 refine tr_vc hsp mixed _ _ ?_
 refine vcx (X:=((s,())=(hvo x l,()))) (by kernel_rfl) ?_
 rw [hvo,opq_eq,hx]
def spValue : Nat × Eng.Spec:=(165,fnSpec [f2,.sl f2] [.val f2] (fun (_,l,_) => List.length l <= 1048576) (fun (x,l,_) => (hvo x l,())))
end
end Go.Proofs.YtbfimfdhmggieaaGreatDoor.h2c
namespace Go.Proofs.YtbfimfdhmggieaaGreatDoor.h2c
open Go Go.Eng Go.RowKit Cr fp2
abbrev csH2c1:=(List.take 3 [(zmp (0 : Int),zmp (-72 : Int)),(zmp (12 : Int),zmp (-12 : Int)),(zmp (1 : Int),zmp (0 : Int))])
abbrev csH2c0:=(List.take 4 [(zmp (-432 : Int),zmp (-432 : Int)),(zmp (0 : Int),zmp (-216 : Int)),(zmp (18 : Int),zmp (-18 : Int)),(zmp (1 : Int),zmp (0 : Int))])
def balH2c1 : ByteArray:=(ByteArray.mk (([(48 : UInt8),(53 : UInt8),(99 : UInt8),(55 : UInt8),(53 : UInt8),(57 : UInt8),(53 : UInt8),(48 : UInt8),(55 : UInt8),(101 : UInt8),(56 : UInt8),(101 : UInt8),(51 : UInt8),(51 : UInt8),(51 : UInt8),(101 : UInt8),(98 : UInt8),(98 : UInt8),(53 : UInt8),(98 : UInt8),(55 : UInt8),(97 : UInt8),(57 : UInt8),(97 : UInt8),(52 : UInt8),(55 : UInt8),(100 : UInt8),(55 : UInt8),(101 : UInt8),(100 : UInt8),(56 : UInt8),(53 : UInt8),(51 : UInt8),(50 : UInt8),(99 : UInt8),(53 : UInt8),(50 : UInt8),(100 : UInt8),(51 : UInt8),(57 : UInt8),(102 : UInt8),(100 : UInt8),(51 : UInt8),(97 : UInt8),(48 : UInt8),(52 : UInt8),(50 : UInt8),(97 : UInt8)].append [(56 : UInt8),(56 : UInt8),(98 : UInt8),(53 : UInt8),(56 : UInt8),(52 : UInt8),(50 : UInt8),(51 : UInt8),(99 : UInt8),(53 : UInt8),(48 : UInt8),(97 : UInt8),(101 : UInt8),(49 : UInt8),(53 : UInt8),(100 : UInt8),(53 : UInt8),(99 : UInt8),(50 : UInt8),(54 : UInt8),(51 : UInt8),(56 : UInt8),(101 : UInt8),(51 : UInt8),(52 : UInt8),(51 : UInt8),(100 : UInt8),(57 : UInt8),(99 : UInt8),(55 : UInt8),(49 : UInt8),(99 : UInt8),(54 : UInt8),(50 : UInt8),(51 : UInt8),(56 : UInt8),(97 : UInt8),(97 : UInt8),(97 : UInt8),(97 : UInt8),(97 : UInt8),(97 : UInt8),(97 : UInt8),(97 : UInt8),(57 : UInt8),(55 : UInt8),(100 : UInt8),(54 : UInt8)]).toArray ))
def balH2c2 : ByteArray:=(ByteArray.mk (([(48 : UInt8),(53 : UInt8),(99 : UInt8),(55 : UInt8),(53 : UInt8),(57 : UInt8),(53 : UInt8),(48 : UInt8),(55 : UInt8),(101 : UInt8),(56 : UInt8),(101 : UInt8),(51 : UInt8),(51 : UInt8),(51 : UInt8),(101 : UInt8),(98 : UInt8),(98 : UInt8),(53 : UInt8),(98 : UInt8),(55 : UInt8),(97 : UInt8),(57 : UInt8),(97 : UInt8),(52 : UInt8),(55 : UInt8),(100 : UInt8),(55 : UInt8),(101 : UInt8),(100 : UInt8),(56 : UInt8),(53 : UInt8),(51 : UInt8),(50 : UInt8),(99 : UInt8),(53 : UInt8),(50 : UInt8),(100 : UInt8),(51 : UInt8),(57 : UInt8),(102 : UInt8),(100 : UInt8),(51 : UInt8),(97 : UInt8),(48 : UInt8),(52 : UInt8),(50 : UInt8),(97 : UInt8)].append [(56 : UInt8),(56 : UInt8),(98 : UInt8),(53 : UInt8),(56 : UInt8),(52 : UInt8),(50 : UInt8),(51 : UInt8),(99 : UInt8),(53 : UInt8),(48 : UInt8),(97 : UInt8),(101 : UInt8),(49 : UInt8),(53 : UInt8),(100 : UInt8),(53 : UInt8),(99 : UInt8),(50 : UInt8),(54 : UInt8),(51 : UInt8),(56 : UInt8),(101 : UInt8),(51 : UInt8),(52 : UInt8),(51 : UInt8),(100 : UInt8),(57 : UInt8),(99 : UInt8),(55 : UInt8),(49 : UInt8),(99 : UInt8),(54 : UInt8),(50 : UInt8),(51 : UInt8),(56 : UInt8),(97 : UInt8),(97 : UInt8),(97 : UInt8),(97 : UInt8),(97 : UInt8),(97 : UInt8),(97 : UInt8),(97 : UInt8),(57 : UInt8),(55 : UInt8),(98 : UInt8),(101 : UInt8)]).toArray ))
def balH2c3 : ByteArray:=(ByteArray.mk (([(48 : UInt8),(56 : UInt8),(97 : UInt8),(98 : UInt8),(48 : UInt8),(53 : UInt8),(102 : UInt8),(56 : UInt8),(98 : UInt8),(100 : UInt8),(100 : UInt8),(53 : UInt8),(52 : UInt8),(99 : UInt8),(100 : UInt8),(101 : UInt8),(49 : UInt8),(57 : UInt8),(48 : UInt8),(57 : UInt8),(51 : UInt8),(55 : UInt8),(101 : UInt8),(55 : UInt8),(54 : UInt8),(98 : UInt8),(99 : UInt8),(51 : UInt8),(101 : UInt8),(52 : UInt8),(52 : UInt8),(55 : UInt8),(99 : UInt8),(99 : UInt8),(50 : UInt8),(55 : UInt8),(99 : UInt8),(51 : UInt8),(100 : UInt8),(54 : UInt8),(102 : UInt8),(98 : UInt8),(100 : UInt8),(55 : UInt8),(48 : UInt8),(54 : UInt8),(51 : UInt8),(102 : UInt8)].append [(99 : UInt8),(100 : UInt8),(49 : UInt8),(48 : UInt8),(52 : UInt8),(54 : UInt8),(51 : UInt8),(53 : UInt8),(97 : UInt8),(55 : UInt8),(57 : UInt8),(48 : UInt8),(53 : UInt8),(50 : UInt8),(48 : UInt8),(99 : UInt8),(48 : UInt8),(97 : UInt8),(51 : UInt8),(57 : UInt8),(53 : UInt8),(53 : UInt8),(53 : UInt8),(52 : UInt8),(101 : UInt8),(53 : UInt8),(99 : UInt8),(54 : UInt8),(97 : UInt8),(97 : UInt8),(97 : UInt8),(97 : UInt8),(57 : UInt8),(51 : UInt8),(53 : UInt8),(52 : UInt8),(102 : UInt8),(102 : UInt8),(102 : UInt8),(102 : UInt8),(102 : UInt8),(102 : UInt8),(102 : UInt8),(102 : UInt8),(101 : UInt8),(51 : UInt8),(56 : UInt8),(100 : UInt8)]).toArray ))
def balH2c4 : ByteArray:=(ByteArray.mk (([(48 : UInt8),(56 : UInt8),(97 : UInt8),(98 : UInt8),(48 : UInt8),(53 : UInt8),(102 : UInt8),(56 : UInt8),(98 : UInt8),(100 : UInt8),(100 : UInt8),(53 : UInt8),(52 : UInt8),(99 : UInt8),(100 : UInt8),(101 : UInt8),(49 : UInt8),(57 : UInt8),(48 : UInt8),(57 : UInt8),(51 : UInt8),(55 : UInt8),(101 : UInt8),(55 : UInt8),(54 : UInt8),(98 : UInt8),(99 : UInt8),(51 : UInt8),(101 : UInt8),(52 : UInt8),(52 : UInt8),(55 : UInt8),(99 : UInt8),(99 : UInt8),(50 : UInt8),(55 : UInt8),(99 : UInt8),(51 : UInt8),(100 : UInt8),(54 : UInt8),(102 : UInt8),(98 : UInt8),(100 : UInt8),(55 : UInt8),(48 : UInt8),(54 : UInt8),(51 : UInt8),(102 : UInt8)].append [(99 : UInt8),(100 : UInt8),(49 : UInt8),(48 : UInt8),(52 : UInt8),(54 : UInt8),(51 : UInt8),(53 : UInt8),(97 : UInt8),(55 : UInt8),(57 : UInt8),(48 : UInt8),(53 : UInt8),(50 : UInt8),(48 : UInt8),(99 : UInt8),(48 : UInt8),(97 : UInt8),(51 : UInt8),(57 : UInt8),(53 : UInt8),(53 : UInt8),(53 : UInt8),(52 : UInt8),(101 : UInt8),(53 : UInt8),(99 : UInt8),(54 : UInt8),(97 : UInt8),(97 : UInt8),(97 : UInt8),(97 : UInt8),(57 : UInt8),(51 : UInt8),(53 : UInt8),(52 : UInt8),(102 : UInt8),(102 : UInt8),(102 : UInt8),(102 : UInt8),(102 : UInt8),(102 : UInt8),(102 : UInt8),(102 : UInt8),(101 : UInt8),(51 : UInt8),(56 : UInt8),(102 : UInt8)]).toArray ))
def balH2c5 : ByteArray:=(ByteArray.mk (([(49 : UInt8),(49 : UInt8),(53 : UInt8),(54 : UInt8),(48 : UInt8),(98 : UInt8),(102 : UInt8),(49 : UInt8),(55 : UInt8),(98 : UInt8),(97 : UInt8),(97 : UInt8),(57 : UInt8),(57 : UInt8),(98 : UInt8),(99 : UInt8),(51 : UInt8),(50 : UInt8),(49 : UInt8),(50 : UInt8),(54 : UInt8),(102 : UInt8),(99 : UInt8),(101 : UInt8),(100 : UInt8),(55 : UInt8),(56 : UInt8),(55 : UInt8),(99 : UInt8),(56 : UInt8),(56 : UInt8),(102 : UInt8),(57 : UInt8),(56 : UInt8),(52 : UInt8),(102 : UInt8),(56 : UInt8),(55 : UInt8),(97 : UInt8),(100 : UInt8),(102 : UInt8),(55 : UInt8),(97 : UInt8),(101 : UInt8),(48 : UInt8),(99 : UInt8),(55 : UInt8),(102 : UInt8)].append [(57 : UInt8),(97 : UInt8),(50 : UInt8),(48 : UInt8),(56 : UInt8),(99 : UInt8),(54 : UInt8),(98 : UInt8),(52 : UInt8),(102 : UInt8),(50 : UInt8),(48 : UInt8),(97 : UInt8),(52 : UInt8),(49 : UInt8),(56 : UInt8),(49 : UInt8),(52 : UInt8),(55 : UInt8),(50 : UInt8),(97 : UInt8),(97 : UInt8),(97 : UInt8),(57 : UInt8),(99 : UInt8),(98 : UInt8),(56 : UInt8),(100 : UInt8),(53 : UInt8),(53 : UInt8),(53 : UInt8),(53 : UInt8),(50 : UInt8),(54 : UInt8),(97 : UInt8),(57 : UInt8),(102 : UInt8),(102 : UInt8),(102 : UInt8),(102 : UInt8),(102 : UInt8),(102 : UInt8),(102 : UInt8),(102 : UInt8),(99 : UInt8),(55 : UInt8),(49 : UInt8),(101 : UInt8)]).toArray ))
def balH2c6 : ByteArray:=(ByteArray.mk (([(49 : UInt8),(49 : UInt8),(53 : UInt8),(54 : UInt8),(48 : UInt8),(98 : UInt8),(102 : UInt8),(49 : UInt8),(55 : UInt8),(98 : UInt8),(97 : UInt8),(97 : UInt8),(57 : UInt8),(57 : UInt8),(98 : UInt8),(99 : UInt8),(51 : UInt8),(50 : UInt8),(49 : UInt8),(50 : UInt8),(54 : UInt8),(102 : UInt8),(99 : UInt8),(101 : UInt8),(100 : UInt8),(55 : UInt8),(56 : UInt8),(55 : UInt8),(99 : UInt8),(56 : UInt8),(56 : UInt8),(102 : UInt8),(57 : UInt8),(56 : UInt8),(52 : UInt8),(102 : UInt8),(56 : UInt8),(55 : UInt8),(97 : UInt8),(100 : UInt8),(102 : UInt8),(55 : UInt8),(97 : UInt8),(101 : UInt8),(48 : UInt8),(99 : UInt8),(55 : UInt8),(102 : UInt8)].append [(57 : UInt8),(97 : UInt8),(50 : UInt8),(48 : UInt8),(56 : UInt8),(99 : UInt8),(54 : UInt8),(98 : UInt8),(52 : UInt8),(102 : UInt8),(50 : UInt8),(48 : UInt8),(97 : UInt8),(52 : UInt8),(49 : UInt8),(56 : UInt8),(49 : UInt8),(52 : UInt8),(55 : UInt8),(50 : UInt8),(97 : UInt8),(97 : UInt8),(97 : UInt8),(57 : UInt8),(99 : UInt8),(98 : UInt8),(56 : UInt8),(100 : UInt8),(53 : UInt8),(53 : UInt8),(53 : UInt8),(53 : UInt8),(50 : UInt8),(54 : UInt8),(97 : UInt8),(57 : UInt8),(102 : UInt8),(102 : UInt8),(102 : UInt8),(102 : UInt8),(102 : UInt8),(102 : UInt8),(102 : UInt8),(102 : UInt8),(99 : UInt8),(55 : UInt8),(49 : UInt8),(97 : UInt8)]).toArray ))
def balH2c7 : ByteArray:=(ByteArray.mk (([(49 : UInt8),(49 : UInt8),(53 : UInt8),(54 : UInt8),(48 : UInt8),(98 : UInt8),(102 : UInt8),(49 : UInt8),(55 : UInt8),(98 : UInt8),(97 : UInt8),(97 : UInt8),(57 : UInt8),(57 : UInt8),(98 : UInt8),(99 : UInt8),(51 : UInt8),(50 : UInt8),(49 : UInt8),(50 : UInt8),(54 : UInt8),(102 : UInt8),(99 : UInt8),(101 : UInt8),(100 : UInt8),(55 : UInt8),(56 : UInt8),(55 : UInt8),(99 : UInt8),(56 : UInt8),(56 : UInt8),(102 : UInt8),(57 : UInt8),(56 : UInt8),(52 : UInt8),(102 : UInt8),(56 : UInt8),(55 : UInt8),(97 : UInt8),(100 : UInt8),(102 : UInt8),(55 : UInt8),(97 : UInt8),(101 : UInt8),(48 : UInt8),(99 : UInt8),(55 : UInt8),(102 : UInt8)].append [(57 : UInt8),(97 : UInt8),(50 : UInt8),(48 : UInt8),(56 : UInt8),(99 : UInt8),(54 : UInt8),(98 : UInt8),(52 : UInt8),(102 : UInt8),(50 : UInt8),(48 : UInt8),(97 : UInt8),(52 : UInt8),(49 : UInt8),(56 : UInt8),(49 : UInt8),(52 : UInt8),(55 : UInt8),(50 : UInt8),(97 : UInt8),(97 : UInt8),(97 : UInt8),(57 : UInt8),(99 : UInt8),(98 : UInt8),(56 : UInt8),(100 : UInt8),(53 : UInt8),(53 : UInt8),(53 : UInt8),(53 : UInt8),(50 : UInt8),(54 : UInt8),(97 : UInt8),(57 : UInt8),(102 : UInt8),(102 : UInt8),(102 : UInt8),(102 : UInt8),(102 : UInt8),(102 : UInt8),(102 : UInt8),(102 : UInt8),(99 : UInt8),(55 : UInt8),(49 : UInt8),(99 : UInt8)]).toArray ))
def balH2c8 : ByteArray:=(ByteArray.mk (([(49 : UInt8),(50 : UInt8),(52 : UInt8),(99 : UInt8),(57 : UInt8),(97 : UInt8),(100 : UInt8),(52 : UInt8),(51 : UInt8),(98 : UInt8),(54 : UInt8),(99 : UInt8),(102 : UInt8),(55 : UInt8),(57 : UInt8),(98 : UInt8),(102 : UInt8),(98 : UInt8),(102 : UInt8),(55 : UInt8),(48 : UInt8),(52 : UInt8),(51 : UInt8),(100 : UInt8),(101 : UInt8),(51 : UInt8),(56 : UInt8),(49 : UInt8),(49 : UInt8),(97 : UInt8),(100 : UInt8),(48 : UInt8),(55 : UInt8),(54 : UInt8),(49 : UInt8),(98 : UInt8),(48 : UInt8),(102 : UInt8),(51 : UInt8),(55 : UInt8),(97 : UInt8),(49 : UInt8),(101 : UInt8),(50 : UInt8),(54 : UInt8),(50 : UInt8),(56 : UInt8),(54 : UInt8)].append [(98 : UInt8),(48 : UInt8),(101 : UInt8),(57 : UInt8),(55 : UInt8),(55 : UInt8),(99 : UInt8),(54 : UInt8),(57 : UInt8),(97 : UInt8),(97 : UInt8),(50 : UInt8),(55 : UInt8),(52 : UInt8),(53 : UInt8),(50 : UInt8),(52 : UInt8),(101 : UInt8),(55 : UInt8),(57 : UInt8),(48 : UInt8),(57 : UInt8),(55 : UInt8),(97 : UInt8),(53 : UInt8),(54 : UInt8),(100 : UInt8),(99 : UInt8),(52 : UInt8),(98 : UInt8),(100 : UInt8),(57 : UInt8),(101 : UInt8),(49 : UInt8),(98 : UInt8),(51 : UInt8),(55 : UInt8),(49 : UInt8),(99 : UInt8),(55 : UInt8),(49 : UInt8),(99 : UInt8),(55 : UInt8),(49 : UInt8),(56 : UInt8),(98 : UInt8),(49 : UInt8),(48 : UInt8)]).toArray ))
def balH2c9 : ByteArray:=(ByteArray.mk (([(49 : UInt8),(53 : UInt8),(51 : UInt8),(48 : UInt8),(52 : UInt8),(55 : UInt8),(55 : UInt8),(99 : UInt8),(55 : UInt8),(97 : UInt8),(98 : UInt8),(52 : UInt8),(49 : UInt8),(49 : UInt8),(51 : UInt8),(98 : UInt8),(53 : UInt8),(57 : UInt8),(97 : UInt8),(52 : UInt8),(99 : UInt8),(49 : UInt8),(56 : UInt8),(98 : UInt8),(48 : UInt8),(55 : UInt8),(54 : UInt8),(100 : UInt8),(49 : UInt8),(49 : UInt8),(57 : UInt8),(51 : UInt8),(48 : UInt8),(102 : UInt8),(55 : UInt8),(100 : UInt8),(97 : UInt8),(53 : UInt8),(100 : UInt8),(52 : UInt8),(97 : UInt8),(48 : UInt8),(55 : UInt8),(102 : UInt8),(54 : UInt8),(52 : UInt8),(57 : UInt8),(98 : UInt8)].append [(102 : UInt8),(53 : UInt8),(52 : UInt8),(52 : UInt8),(51 : UInt8),(57 : UInt8),(100 : UInt8),(56 : UInt8),(55 : UInt8),(100 : UInt8),(50 : UInt8),(55 : UInt8),(101 : UInt8),(53 : UInt8),(48 : UInt8),(48 : UInt8),(102 : UInt8),(99 : UInt8),(56 : UInt8),(99 : UInt8),(50 : UInt8),(53 : UInt8),(101 : UInt8),(98 : UInt8),(102 : UInt8),(56 : UInt8),(99 : UInt8),(57 : UInt8),(50 : UInt8),(102 : UInt8),(54 : UInt8),(56 : UInt8),(49 : UInt8),(50 : UInt8),(99 : UInt8),(102 : UInt8),(99 : UInt8),(55 : UInt8),(49 : UInt8),(99 : UInt8),(55 : UInt8),(49 : UInt8),(99 : UInt8),(54 : UInt8),(100 : UInt8),(55 : UInt8),(48 : UInt8),(54 : UInt8)]).toArray ))
def balH2c10 : ByteArray:=(ByteArray.mk (([(49 : UInt8),(55 : UInt8),(49 : UInt8),(100 : UInt8),(54 : UInt8),(53 : UInt8),(52 : UInt8),(49 : UInt8),(102 : UInt8),(97 : UInt8),(51 : UInt8),(56 : UInt8),(99 : UInt8),(99 : UInt8),(102 : UInt8),(97 : UInt8),(101 : UInt8),(100 : UInt8),(54 : UInt8),(100 : UInt8),(101 : UInt8),(97 : UInt8),(54 : UInt8),(57 : UInt8),(49 : UInt8),(102 : UInt8),(53 : UInt8),(102 : UInt8),(98 : UInt8),(54 : UInt8),(49 : UInt8),(52 : UInt8),(99 : UInt8),(98 : UInt8),(49 : UInt8),(52 : UInt8),(98 : UInt8),(52 : UInt8),(101 : UInt8),(55 : UInt8),(102 : UInt8),(52 : UInt8),(101 : UInt8),(56 : UInt8),(49 : UInt8),(48 : UInt8),(97 : UInt8),(97 : UInt8)].append [(50 : UInt8),(50 : UInt8),(100 : UInt8),(54 : UInt8),(49 : UInt8),(48 : UInt8),(56 : UInt8),(102 : UInt8),(49 : UInt8),(52 : UInt8),(50 : UInt8),(98 : UInt8),(56 : UInt8),(53 : UInt8),(55 : UInt8),(53 : UInt8),(55 : UInt8),(48 : UInt8),(57 : UInt8),(56 : UInt8),(101 : UInt8),(51 : UInt8),(56 : UInt8),(100 : UInt8),(48 : UInt8),(102 : UInt8),(54 : UInt8),(55 : UInt8),(49 : UInt8),(99 : UInt8),(55 : UInt8),(49 : UInt8),(56 : UInt8),(56 : UInt8),(101 : UInt8),(50 : UInt8),(97 : UInt8),(97 : UInt8),(97 : UInt8),(97 : UInt8),(97 : UInt8),(97 : UInt8),(97 : UInt8),(97 : UInt8),(53 : UInt8),(101 : UInt8),(100 : UInt8),(49 : UInt8)]).toArray ))
noncomputable def acro (x y : F2) : F2 × F2:=opq (if hq x cU * hq x cB=0 then O2 else (hq x cW * hq x cB * inv2 (hq x cU * hq x cB),y * hq x cH * hq x cU * inv2 (hq x cU * hq x cB)))
theorem lU : ([(zmp (0 : Int),zmp (-72 : Int)),(zmp (12 : Int),zmp (-12 : Int)),(zmp (1 : Int),zmp (0 : Int))] : List F2)=cU.map q2:=of_decide_eq_true (by kernel_rfl)
theorem lB : ([(zmp (-432 : Int),zmp (-432 : Int)),(zmp (0 : Int),zmp (-216 : Int)),(zmp (18 : Int),zmp (-18 : Int)),(zmp (1 : Int),zmp (0 : Int))] : List F2)=cB.map q2:=of_decide_eq_true (by kernel_rfl)
theorem hU (x : F2) : hvo x csH2c1=hq x cU:=by
 rw [hvo,opq_eq,hq,<- lU]; rfl
theorem hB (x : F2) : hvo x csH2c0=hq x cB:=by
 rw [hvo,opq_eq,hq,<- lB]; rfl
theorem hvo_4 {x a b c d : F2} {p q r s : V2} (ha : a=q2 p) (hb : b=q2 q) (hc : c=q2 r) (hd : d=q2 s) : hvo x (List.take 4 [a,b,c,d])=hq x [p,q,r,s]:=by
 rw [hvo,opq_eq,ha,hb,hc,hd]; rfl
def grv (s : ByteArray) (n : Nat) : Bool:=decide ((fp.rdFp (List.take 48 (grG s s.size))).1.v=(n : Int) % Mp)
theorem gq {s t : ByteArray} {m n : Nat} (h1 : grv s m=true) (h2 : grv t n=true) : ((gro s,gro t) : F2)=q2 (m,n):=by
 refine F2.ext (Zm.ext ?_) (Zm.ext ?_)
 ·show (gro s).v=_
  rw [gro,opq_eq]; exact of_decide_eq_true h1
 ·show (gro t).v=_
  rw [gro,opq_eq]; exact of_decide_eq_true h2
theorem across_0 {x y : F2} (h : decide (hvo x csH2c1 * hvo x csH2c0=(0 : Car Kd.fp × Car Kd.fp))=true) : ((((0 : Fp),(0 : Fp)),(0 : Fp),(0 : Fp)),())=(acro x y,()):=by
 have h : hvo x csH2c1 * hvo x csH2c0=0:=of_decide_eq_true h
 rw [hU,hB] at h
 rw [acro,opq_eq,if_pos h]; rfl
theorem across_1 {x y a0 a1 a2 a3 b0 b1 b2 b3 : F2} (h : decide (hvo x csH2c1 * hvo x csH2c0=(0 : Car Kd.fp × Car Kd.fp))=false) (e0 : a0=q2 (889424345604814976315064405719089812568196182208668418962679585805340366775741747653930584250892369786198727235542,889424345604814976315064405719089812568196182208668418962679585805340366775741747653930584250892369786198727235542)) (e1 : a1=q2 (0,2668273036814444928945193217157269437704588546626005256888038757416021100327225242961791752752677109358596181706522)) (e2 : a2=q2 (2668273036814444928945193217157269437704588546626005256888038757416021100327225242961791752752677109358596181706526,1334136518407222464472596608578634718852294273313002628444019378708010550163612621480895876376338554679298090853261)) (e3 : a3=q2 (3557697382419259905260257622876359250272784728834673675850718343221361467102966990615722337003569479144794908942033,0)) (f0 : b0=q2 (3261222600550988246488569487636662646083386001431784202863158481286248011511053074731078808919938689216061999863558,3261222600550988246488569487636662646083386001431784202863158481286248011511053074731078808919938689216061999863558)) (f1 : b1=q2 (0,889424345604814976315064405719089812568196182208668418962679585805340366775741747653930584250892369786198727235518)) (f2 : b2=q2 (2668273036814444928945193217157269437704588546626005256888038757416021100327225242961791752752677109358596181706524,1334136518407222464472596608578634718852294273313002628444019378708010550163612621480895876376338554679298090853263)) (f3 : b3=q2 (2816510427748580758331037284777117739799287910327449993381818688383577828123182200904113516794492504322962636245776,0)) :
  ((hvo x (List.take 4 [a0,a1,a2,a3]) * hvo x csH2c0 * inv2 (hvo x csH2c1 * hvo x csH2c0),y * hvo x (List.take 4 [b0,b1,b2,b3]) * hvo x csH2c1 * inv2 (hvo x csH2c1 * hvo x csH2c0)),())=(acro x y,()):=by
 have h : ¬ hvo x csH2c1 * hvo x csH2c0=0:=of_decide_eq_false h
 rw [hU,hB] at h
 rw [acro,opq_eq,if_neg h,hU,hB,hvo_4 e0 e1 e2 e3,hvo_4 f0 f1 f2 f3]; rfl
theorem ent_across : enters Tryz.prog 167 Tryz.f167:=ek
theorem fn_across : FnOk Tryz.prog 167 [f2,f2] [.val pt2] noG (fun _ => True) (fun (x,y,_) => (acro x y,())):=by
 refine fn_of_vc (sp:=sps [spSmall,spSm2,spValue,spAcr1,fp2.spMul,fp2.spZero,fp2.spInv]) (scn (fok fn_small) (scn (fok fn_sm2) (scn (fok fn_value) (scn (fok fn_acr1) (scn (fok fp2.fn_mul) (scn (fok fp2.fn_zero) (scn (fok fp2.fn_inv) snl))))))) mixed ent_across (by decide) (by decide) ?_
 rintro w M0 ⟨x,y,⟨⟩⟩
 revert x y
 intro (x : F2) (y : F2) _ _
 refine vcx (X:=(True /\ (smA (0 : Int) /\ smA (-72 : Int)) /\ (smA (12 : Int) /\ smA (-12 : Int)) /\ (smA (1 : Int) /\ smA (0 : Int)) /\ 0 + 3 <= 3 /\ csH2c1.length <= (1048576 : Nat) /\ (smA (-432 : Int) /\ smA (-432 : Int)) /\ (smA (0 : Int) /\ smA (-216 : Int)) /\ (smA (18 : Int) /\ smA (-18 : Int)) /\ (smA (1 : Int) /\ smA (0 : Int)) /\ 0 + 4 <= 4 /\ csH2c0.length <= (1048576 : Nat) /\ True /\ True /\ (decide (hvo x csH2c1 * hvo x csH2c0=(0 : Car Kd.fp × Car Kd.fp))=true -> ((((0 : Fp),(0 : Fp)),(0 : Fp),(0 : Fp)),())=(acro x y,())) /\ (decide (hvo x csH2c1 * hvo x csH2c0=(0 : Car Kd.fp × Car Kd.fp))=false -> (grOk balH2c1=true /\ grOk balH2c1=true) /\ (grOk (ByteArray.mk (#[] ))=true /\ grOk balH2c6=true) /\ (grOk balH2c5=true /\ grOk balH2c3=true) /\ (grOk balH2c10=true /\ grOk (ByteArray.mk (#[] ))=true) /\ 0 + 4 <= 4 /\ (List.take 4 [(gro balH2c1,gro balH2c1),(gro (ByteArray.mk (#[] )),gro balH2c6),(gro balH2c5,gro balH2c3),(gro balH2c10,gro (ByteArray.mk (#[] )))]).length <= (1048576 : Nat) /\ (grOk balH2c9=true /\ grOk balH2c9=true) /\ (grOk (ByteArray.mk (#[] ))=true /\ grOk balH2c2=true) /\ (grOk balH2c7=true /\ grOk balH2c4=true) /\ (grOk balH2c8=true /\ grOk (ByteArray.mk (#[] ))=true) /\ 0 + 4 <= 4 /\ (List.take 4 [(gro balH2c9,gro balH2c9),(gro (ByteArray.mk (#[] )),gro balH2c2),(gro balH2c7,gro balH2c4),(gro balH2c8,gro (ByteArray.mk (#[] )))]).length <= (1048576 : Nat) /\ True /\ True /\ True /\ True /\ True /\ True /\ ((hvo x (List.take 4 [(gro balH2c1,gro balH2c1),(gro (ByteArray.mk (#[] )),gro balH2c6),(gro balH2c5,gro balH2c3),(gro balH2c10,gro (ByteArray.mk (#[] )))]) * hvo x csH2c0 * inv2 (hvo x csH2c1 * hvo x csH2c0),y * hvo x (List.take 4 [(gro balH2c9,gro balH2c9),(gro (ByteArray.mk (#[] )),gro balH2c2),(gro balH2c7,gro balH2c4),(gro balH2c8,gro (ByteArray.mk (#[] )))]) * hvo x csH2c1 * inv2 (hvo x csH2c1 * hvo x csH2c0)),())=(acro x y,())))) (by kernel_rfl) ?_
 refine ⟨trivial,⟨⟨by decide,by decide⟩,⟨by decide,by decide⟩⟩,⟨⟨by decide,by decide⟩,⟨by decide,by decide⟩⟩,⟨⟨by decide,by decide⟩,⟨by decide,by decide⟩⟩,Nat.le_refl _,by decide,⟨⟨by decide,by decide⟩,⟨by decide,by decide⟩⟩,⟨⟨by decide,by decide⟩,⟨by decide,by decide⟩⟩,⟨⟨by decide,by decide⟩,⟨by decide,by decide⟩⟩,⟨⟨by decide,by decide⟩,⟨by decide,by decide⟩⟩,Nat.le_refl _,by decide,trivial,trivial,fun h => across_0 h,fun h => ⟨⟨by kernel_rfl,by kernel_rfl⟩,⟨by kernel_rfl,by kernel_rfl⟩,⟨by kernel_rfl,by kernel_rfl⟩,⟨by kernel_rfl,by kernel_rfl⟩,Nat.le_refl _,Nat.le_trans (List.length_take_le _ _) (by decide),⟨by kernel_rfl,by kernel_rfl⟩,⟨by kernel_rfl,by kernel_rfl⟩,⟨by kernel_rfl,by kernel_rfl⟩,⟨by kernel_rfl,by kernel_rfl⟩,Nat.le_refl _,Nat.le_trans (List.length_take_le _ _) (by decide),trivial,trivial,trivial,trivial,trivial,trivial,?_⟩⟩
 exact across_1 h (gq (by kernel_rfl) (by kernel_rfl)) (gq (by kernel_rfl) (by kernel_rfl)) (gq (by kernel_rfl) (by kernel_rfl)) (gq (by kernel_rfl) (by kernel_rfl)) (gq (by kernel_rfl) (by kernel_rfl)) (gq (by kernel_rfl) (by kernel_rfl)) (gq (by kernel_rfl) (by kernel_rfl)) (gq (by kernel_rfl) (by kernel_rfl))
noncomputable def spAcross : Nat × Eng.Spec:=(167,fnSpec [f2,f2] [.val pt2] (fun _ => True) (fun (x,y,_) => (acro x y,())))
end Go.Proofs.YtbfimfdhmggieaaGreatDoor.h2c
