/- xmd: numbers of a text; those of the document's text, by computation. -/
import Derived.Test.YtbfimfdhmggieaaDoorML12tPU
/- A finite group of points: it is all that two of its points make. No program here. -/
namespace Cr
open Rg Fd
theorem pigeon : ∀ (B A : Nat) (f : Nat → Nat), (∀ i, i < A → f i < B) → (∀ i j, i < A → j < A → f i = f j → i = j) → A ≤ B := by
  intro B
  induction B with
  | zero =>
    intro A f h _
    cases A with
    | zero => exact Nat.le_refl 0
    | succ A => exact absurd (h 0 (by omega)) (by omega)
  | succ B ih =>
    intro A f h inj
    cases A with
    | zero => omega
    | succ A =>
      have ne : ∀ i, i < A → f i ≠ f A := fun i hi e => by have := inj i A (by omega) (by omega) e; omega
      have := ih A (fun i => if f i > f A then f i - 1 else f i) (fun i hi => by
        have h1 := h i (by omega)
        have h2 := h A (by omega)
        have h3 := ne i hi
        show (if f i > f A then f i - 1 else f i) < B
        split <;> omega) (fun i j hi hj e => by
        have h3 := ne i hi
        have h4 := ne j hj
        have e : (if f i > f A then f i - 1 else f i) = (if f j > f A then f j - 1 else f j) := e
        refine inj i j (by omega) (by omega) ?_
        split at e <;> split at e <;> omega)
      omega
theorem bez (m n : Nat) : ∃ u v : Int, u * (m : Int) + v * (n : Int) = ((Nat.gcd m n : Nat) : Int) := by
  induction m, n using Nat.gcd.induction with
  | H0 n => exact ⟨0, 1, by simp⟩
  | H1 m n hm ih =>
    obtain ⟨u, v, h⟩ := ih
    refine ⟨v - u * ((n / m : Nat) : Int), u, ?_⟩
    rw [Nat.gcd_rec, ← h]
    have e : (n : Int) = (m : Int) * ((n / m : Nat) : Int) + ((n % m : Nat) : Int) := by
      have := Nat.div_add_mod n m
      rw [← Int.natCast_mul, ← Int.natCast_add, this]
    generalize ((n / m : Nat) : Int) = q at *
    generalize ((n % m : Nat) : Int) = t at *
    rw [e, Int.sub_mul, Int.mul_add]
    have : u * q * (m : Int) = u * ((m : Int) * q) := by rw [Int.mul_assoc, Int.mul_comm q]
    omega
theorem inv_mod {l a : Nat} (h : Nat.Coprime l a) (hl : 1 < l) : ∃ s : Nat, a * s % l = 1 := by
  obtain ⟨u, v, e⟩ := bez l a
  rw [h] at e
  refine ⟨(v % (l : Int)).toNat, ?_⟩
  have hv : (((v % (l : Int)).toNat : Nat) : Int) = v % (l : Int) := Int.toNat_of_nonneg (Int.emod_nonneg _ (by omega))
  have : (((a * (v % (l : Int)).toNat % l : Nat)) : Int) = 1 := by
    rw [Int.natCast_emod, Int.natCast_mul, hv, Int.mul_emod, Int.emod_emod_of_dvd _ (Int.dvd_refl _), ← Int.mul_emod]
    have e2 : (a : Int) * v = 1 + (l : Int) * (-u) := by
      rw [Int.mul_neg, Int.mul_comm (l : Int) u, Int.mul_comm (a : Int) v]
      omega
    rw [e2, Int.add_mul_emod_self_left]
    exact Int.emod_eq_of_lt (by omega) (by omega)
  omega

section
variable {F : Type} [Fd F] {b : F} (hb : b ≠ 0)
include hb
theorem nmul_gcd {S : F × F} (oS : OnP b S) (m n : Nat) : nmul S m = O2 → nmul S n = O2 → nmul S (Nat.gcd m n) = O2 := by
  induction m, n using Nat.gcd.induction with
  | H0 n => intro _ h; rw [Nat.gcd_zero_left]; exact h
  | H1 m n hm ih =>
    intro h1 h2
    rw [Nat.gcd_rec]
    refine ih ?_ h1
    have e := Nat.div_add_mod n m
    rw [← e, nmul_add hb oS, ← nmul_mul hb oS, h1, nmul_O, O_add] at h2
    exact h2
theorem nmul_red {S : F × F} (oS : OnP b S) {l : Nat} (h : nmul S l = O2) (n : Nat) : nmul S n = nmul S (n % l) := by
  conv => lhs; rw [← Nat.div_add_mod n l]
  rw [nmul_add hb oS, ← nmul_mul hb oS, h, nmul_O, O_add]
theorem ord_dvd {P : F × F} (oP : OnP b P) {l n a : Nat} (hl : Prm l) (hk : nmul P (n * l) = O2) (hne : nmul P n ≠ O2) (ha : nmul P a = O2) : l ∣ a := by
  refine Classical.byContradiction fun hd => hne ?_
  have hc : Nat.gcd l a = 1 := hl.coprime hd
  have oS := nmul_on hb oP n
  have h1 : nmul (nmul P n) l = O2 := by rw [nmul_mul hb oP]; exact hk
  have h2 : nmul (nmul P n) a = O2 := by rw [nmul_mul hb oP, Nat.mul_comm, ← nmul_mul hb oP, ha, nmul_O]
  have := nmul_gcd hb oS l a h1 h2
  rw [hc, nmul_one] at this
  exact this
theorem ind2 {U V : F × F} (oU : OnP b U) (oV : OnP b V) {l : Nat} (hl : Prm l) (hU : nmul U l = O2) (hV : nmul V l = O2) (hV0 : V ≠ O2) (hj : ∀ j, j < l → padd U (nmul V j) ≠ O2) {a c : Nat}
    (h : padd (nmul U a) (nmul V c) = O2) : l ∣ a ∧ l ∣ c := by
  by_cases hd : l ∣ a
  · refine ⟨hd, ?_⟩
    obtain ⟨t, rfl⟩ := hd
    rw [← nmul_mul hb oU, hU, nmul_O, O_add] at h
    refine Classical.byContradiction fun hc => hV0 ?_
    have := nmul_gcd hb oV l c hV h
    rw [show Nat.gcd l c = 1 from hl.coprime hc, nmul_one] at this
    exact this
  · obtain ⟨s, hs⟩ := inv_mod (hl.coprime hd) hl.1
    have h2 : nmul (padd (nmul U a) (nmul V c)) s = O2 := by rw [h, nmul_O]
    rw [nmul_padd hb (nmul_on hb oU _) (nmul_on hb oV _), nmul_mul hb oU, nmul_mul hb oV, nmul_red hb oU hU (a * s), hs, nmul_one, nmul_red hb oV hV (c * s)] at h2
    exact absurd h2 (hj _ (Nat.mod_lt _ (by have := hl.1; omega)))

/-- What two points make. -/
def InH (P1 P2 P : F × F) : Prop := ∃ a c : Nat, P = padd (nmul P1 a) (nmul P2 c)
variable {P1 P2 : F × F} (o1 : OnP b P1) (o2 : OnP b P2)
include o1 o2
theorem inH_on {P : F × F} (h : InH P1 P2 P) : OnP b P := by
  obtain ⟨a, c, rfl⟩ := h
  exact padd_on hb (nmul_on hb o1 _) (nmul_on hb o2 _)
theorem inH_add {P Q : F × F} (h : InH P1 P2 P) (k : InH P1 P2 Q) : InH P1 P2 (padd P Q) := by
  obtain ⟨a, c, rfl⟩ := h
  obtain ⟨a', c', rfl⟩ := k
  refine ⟨a + a', c + c', ?_⟩
  rw [nmul_add hb o1, nmul_add hb o2]
  exact add4 hb (nmul_on hb o1 _) (nmul_on hb o2 _) (nmul_on hb o1 _) (nmul_on hb o2 _)
theorem inH_mul {P : F × F} (h : InH P1 P2 P) (n : Nat) : InH P1 P2 (nmul P n) := by
  obtain ⟨a, c, rfl⟩ := h
  refine ⟨a * n, c * n, ?_⟩
  rw [nmul_padd hb (nmul_on hb o1 _) (nmul_on hb o2 _), nmul_mul hb o1, nmul_mul hb o2]
omit o1 o2 in
theorem neg_mul_of {P : F × F} (oP : OnP b P) {N : Nat} (h : nmul P N = O2) (hN : 0 < N) : pneg P = nmul P (N - 1) := by
  have e : N = 1 + (N - 1) := by omega
  rw [e, nmul_add hb oP, nmul_one] at h
  have := cancel hb oP (nmul_on hb oP (N - 1))
  rw [h, add_O] at this
  exact this
variable {n1 n2 : Nat} (k1 : nmul P1 n1 = O2) (k2 : nmul P2 n2 = O2)
include k1 k2
theorem inH_kill {P : F × F} (h : InH P1 P2 P) : nmul P (n1 * n2) = O2 := by
  obtain ⟨a, c, rfl⟩ := h
  rw [nmul_padd hb (nmul_on hb o1 _) (nmul_on hb o2 _), nmul_mul hb o1, nmul_mul hb o2]
  rw [show a * (n1 * n2) = n1 * (n2 * a) by rw [Nat.mul_comm a, Nat.mul_assoc], show c * (n1 * n2) = n2 * (n1 * c) by rw [Nat.mul_comm c, Nat.mul_comm n1, Nat.mul_assoc]]
  rw [← nmul_mul hb o1, ← nmul_mul hb o2, k1, k2, nmul_O, nmul_O, O_add]
theorem inH_neg (hN : 0 < n1 * n2) {P : F × F} (h : InH P1 P2 P) : InH P1 P2 (pneg P) := by
  rw [neg_mul_of hb (inH_on hb o1 o2 h) (inH_kill hb o1 o2 k1 k2 h) hN]
  exact inH_mul hb o1 o2 h _
theorem inH_half (hodd : n1 * n2 % 2 = 1) (no2 : ∀ P : F × F, OnP b P → padd P P = O2 → P = O2) {Q : F × F} (oQ : OnP b Q) (h : InH P1 P2 (padd Q Q)) : InH P1 P2 Q := by
  have hk := inH_kill hb o1 o2 k1 k2 h
  rw [nmul_padd hb oQ oQ] at hk
  have hz := no2 _ (nmul_on hb oQ _) hk
  have e : nmul Q (2 * ((n1 * n2 + 1) / 2)) = Q := by
    rw [show 2 * ((n1 * n2 + 1) / 2) = n1 * n2 + 1 by omega, nmul_add hb oQ, hz, O_add, nmul_one]
  rw [← nmul_mul hb oQ, nmul_two] at e
  rw [← e]
  exact inH_mul hb o1 o2 h _
/-- Two sums alike: the difference. -/
theorem inH_sub (hN : 0 < n1 * n2) {X Y U V : F × F} (oX : OnP b X) (oY : OnP b Y) (hU : InH P1 P2 U) (hV : InH P1 P2 V) (e : padd X U = padd Y V) : ∃ W, InH P1 P2 W ∧ X = padd Y W ∧ (W = O2 → U = V) := by
  have oU := inH_on hb o1 o2 hU
  have oV := inH_on hb o1 o2 hV
  have onU := pneg_onP oU
  refine ⟨padd V (pneg U), inH_add hb o1 o2 hV (inH_neg hb o1 o2 k1 k2 hN hU), ?_, ?_⟩
  · rw [← padd_assoc hb oY oV onU, ← e, padd_assoc hb oX oU onU, add_neg_self, add_O]
  · intro h
    have : padd (padd V (pneg U)) U = padd O2 U := by rw [h]
    rw [padd_assoc hb oV onU oU, neg_add_self, add_O, O_add] at this
    exact this.symm
theorem inH_inj (ind : ∀ a c, padd (nmul P1 a) (nmul P2 c) = O2 → n1 ∣ a ∧ n2 ∣ c) {a c a' c' : Nat} (ha : a < n1) (ha' : a' < n1) (hc : c < n2) (hc' : c' < n2)
    (e : padd (nmul P1 a) (nmul P2 c) = padd (nmul P1 a') (nmul P2 c')) : a = a' ∧ c = c' := by
  have h : padd (padd (nmul P1 a) (nmul P2 c)) (padd (nmul P1 (n1 - a)) (nmul P2 (n2 - c))) = O2 := by
    rw [add4 hb (nmul_on hb o1 _) (nmul_on hb o2 _) (nmul_on hb o1 _) (nmul_on hb o2 _), ← nmul_add hb o1, ← nmul_add hb o2, show a + (n1 - a) = n1 by omega, show c + (n2 - c) = n2 by omega, k1, k2, O_add]
  rw [e, add4 hb (nmul_on hb o1 _) (nmul_on hb o2 _) (nmul_on hb o1 _) (nmul_on hb o2 _), ← nmul_add hb o1, ← nmul_add hb o2] at h
  obtain ⟨⟨u, hu⟩, ⟨v, hv⟩⟩ := ind _ _ h
  refine ⟨?_, ?_⟩
  · match u with
    | 0 => omega
    | 1 => omega
    | u + 2 => have : n1 * (u + 2) = n1 * u + n1 + n1 := by rw [Nat.mul_add]; omega
               omega
  · match v with
    | 0 => omega
    | 1 => omega
    | v + 2 => have : n2 * (v + 2) = n2 * v + n2 + n2 := by rw [Nat.mul_add]; omega
               omega
def cQ (Q : F × F) (c : Nat) : F × F := if c = 0 then O2 else if c = 1 then Q else pneg Q
omit k1 k2 o1 o2 hb in
theorem cQ_on {Q : F × F} (oQ : OnP b Q) (c : Nat) : OnP b (cQ Q c) := by
  unfold cQ
  split
  · exact .inl rfl
  · split
    · exact oQ
    · exact pneg_onP oQ
theorem gen_all (hodd : n1 * n2 % 2 = 1) (ind : ∀ a c, padd (nmul P1 a) (nmul P2 c) = O2 → n1 ∣ a ∧ n2 ∣ c) (no2 : ∀ P : F × F, OnP b P → padd P P = O2 → P = O2)
    (code : F × F → Nat) (B : Nat) (hB : ∀ P, OnP b P → code P < B) (hinj : ∀ P Q, OnP b P → OnP b Q → code P = code Q → P = Q) (hsz : B < 3 * (n1 * n2)) {Q : F × F} (oQ : OnP b Q) : InH P1 P2 Q := by
  refine Classical.byContradiction fun hQ => ?_
  have hN : 0 < n1 * n2 := by omega
  have hn2 : 0 < n2 := Nat.pos_of_ne_zero fun e => by rw [e] at hN; simp at hN
  have hH : ∀ t, InH P1 P2 (padd (nmul P1 (t / n2)) (nmul P2 (t % n2))) := fun t => ⟨_, _, rfl⟩
  have hneg : ∀ P, OnP b P → InH P1 P2 (pneg P) → InH P1 P2 P := fun P _ h => by have := inH_neg hb o1 o2 k1 k2 hN h; rwa [pneg_pneg] at this
  have h2Q : ¬ InH P1 P2 (padd Q Q) := fun h => hQ (inH_half hb o1 o2 k1 k2 hodd no2 oQ h)
  have key : ∀ c c', c < 3 → c' < 3 → c ≠ c' → ∀ W, InH P1 P2 W → cQ Q c = padd (cQ Q c') W → False := by
    intro c c' hc hc' hne W hW e
    have oW := inH_on hb o1 o2 hW
    have oN := pneg_onP oQ
    have hc : c = 0 ∨ c = 1 ∨ c = 2 := by omega
    have hc' : c' = 0 ∨ c' = 1 ∨ c' = 2 := by omega
    have e0 : cQ Q 0 = O2 := rfl
    have e1 : cQ Q 1 = Q := rfl
    have e2 : cQ Q 2 = pneg Q := rfl
    rcases hc with rfl | rfl | rfl <;> rcases hc' with rfl | rfl | rfl
    · exact hne rfl
    · rw [e0, e1] at e
      have := cancel hb oQ oW
      rw [← e, add_O] at this
      exact hQ (hneg Q oQ (this ▸ hW))
    · rw [e0, e2] at e
      have := cancel hb oN oW
      rw [← e, add_O, pneg_pneg] at this
      exact hQ (this ▸ hW)
    · rw [e1, e0, O_add] at e
      exact hQ (e ▸ hW)
    · exact hne rfl
    · rw [e1, e2] at e
      have : padd Q Q = W := by
        have := cancel hb oN oW
        rw [← e, pneg_pneg] at this
        exact this
      exact h2Q (this ▸ hW)
    · rw [e2, e0, O_add] at e
      exact hQ (hneg Q oQ (e ▸ hW))
    · rw [e2, e1] at e
      have : pneg (padd Q Q) = W := by
        have := cancel hb oQ oW
        rw [← e] at this
        rw [← this]
        exact pneg_add hb oQ oQ
      exact h2Q (hneg _ (padd_on hb oQ oQ) (this ▸ hW))
    · exact hne rfl
  have := pigeon B (3 * (n1 * n2)) (fun i => code (padd (cQ Q (i / (n1 * n2))) (padd (nmul P1 (i % (n1 * n2) / n2)) (nmul P2 (i % (n1 * n2) % n2))))) (fun i _ => hB _ (padd_on hb (cQ_on oQ _) (inH_on hb o1 o2 (hH _)))) (fun i j hi hj e => by
    have e := hinj _ _ (padd_on hb (cQ_on oQ _) (inH_on hb o1 o2 (hH _))) (padd_on hb (cQ_on oQ _) (inH_on hb o1 o2 (hH _))) e
    obtain ⟨W, hW, eW, hz⟩ := inH_sub hb o1 o2 k1 k2 hN (cQ_on oQ _) (cQ_on oQ _) (hH _) (hH _) e
    have di : i / (n1 * n2) < 3 := Nat.div_lt_of_lt_mul (by rw [Nat.mul_comm]; exact hi)
    have dj : j / (n1 * n2) < 3 := Nat.div_lt_of_lt_mul (by rw [Nat.mul_comm]; exact hj)
    by_cases hc : i / (n1 * n2) = j / (n1 * n2)
    · rw [hc] at eW
      have oc := cQ_on oQ (j / (n1 * n2))
      have hW0 : W = O2 := by
        have := cancel hb oc (inH_on hb o1 o2 hW)
        rw [← eW, neg_add_self] at this
        exact this.symm
      have li : i % (n1 * n2) < n1 * n2 := Nat.mod_lt _ hN
      have lj : j % (n1 * n2) < n1 * n2 := Nat.mod_lt _ hN
      obtain ⟨ea, ec⟩ := inH_inj hb o1 o2 k1 k2 ind (Nat.div_lt_of_lt_mul (by rw [Nat.mul_comm n2]; exact li)) (Nat.div_lt_of_lt_mul (by rw [Nat.mul_comm n2]; exact lj)) (Nat.mod_lt _ hn2) (Nat.mod_lt _ hn2) (hz hW0)
      have f1 := Nat.div_add_mod (i % (n1 * n2)) n2
      have f2 := Nat.div_add_mod (j % (n1 * n2)) n2
      have f3 := Nat.div_add_mod i (n1 * n2)
      have f4 := Nat.div_add_mod j (n1 * n2)
      rw [ea, ec, f2] at f1
      rw [← f1, hc] at f3
      omega
    · exact (key _ _ di dj hc W hW eW).elim)
  omega
omit k1 k2 o1 o2 in
theorem no2_of (hx : ∀ x : F, x * x * x + b ≠ 0) (P : F × F) (oP : OnP b P) (h : padd P P = O2) : P = O2 := by
  rcases oP with rfl | oP
  · rfl
  · have := cancel hb (.inr oP) (.inr oP)
    rw [h, add_O] at this
    have e : -P.2 = P.2 := congrArg Prod.snd this
    have e0 := eq_neg_self e.symm
    have oP : P.2 * P.2 = P.1 * P.1 * P.1 + b := oP
    rw [e0, Rg.mul_zero] at oP
    exact absurd oP.symm (hx _)
omit k1 k2 in
/-- Independent points: by the primes of their orders. -/
theorem ind_all {k l l' : Nat} (hl : Prm l) (hl' : Prm l') (hll : Nat.Coprime l l') (hkl : Nat.Coprime k (l * l')) (k1 : nmul P1 (k * (l * l')) = O2) (k2 : nmul P2 (l * l') = O2)
    (hk : ∀ a, nmul P1 a = O2 → k ∣ a)
    (v1 : nmul P2 l' ≠ O2) (j1 : ∀ j, j < l → padd (nmul P1 (k * l')) (nmul (nmul P2 l') j) ≠ O2)
    (v2 : nmul P2 l ≠ O2) (j2 : ∀ j, j < l' → padd (nmul P1 (k * l)) (nmul (nmul P2 l) j) ≠ O2) (a c : Nat) (h : padd (nmul P1 a) (nmul P2 c) = O2) : k * (l * l') ∣ a ∧ l * l' ∣ c := by
  have h1 : nmul (padd (nmul P1 a) (nmul P2 c)) (l * l') = O2 := by rw [h, nmul_O]
  rw [nmul_padd hb (nmul_on hb o1 _) (nmul_on hb o2 _), nmul_mul hb o1, nmul_mul hb o2, Nat.mul_comm c, ← nmul_mul hb o2, k2, nmul_O, add_O] at h1
  obtain ⟨a', rfl⟩ : k ∣ a := hkl.dvd_of_dvd_mul_right (hk _ h1)
  have part : ∀ {l l' : Nat}, Prm l → nmul P1 (k * (l * l')) = O2 → nmul P2 (l * l') = O2 → nmul P2 l' ≠ O2 → (∀ j, j < l → padd (nmul P1 (k * l')) (nmul (nmul P2 l') j) ≠ O2) → l ∣ a' ∧ l ∣ c := by
    intro l l' hl k1 k2 v1 j1
    have e : nmul (padd (nmul P1 (k * a')) (nmul P2 c)) l' = O2 := by rw [h, nmul_O]
    rw [nmul_padd hb (nmul_on hb o1 _) (nmul_on hb o2 _), nmul_mul hb o1, nmul_mul hb o2, show k * a' * l' = k * l' * a' by rw [Nat.mul_assoc, Nat.mul_comm a', Nat.mul_assoc], Nat.mul_comm c, ← nmul_mul hb o1, ← nmul_mul hb o2] at e
    exact ind2 hb (nmul_on hb o1 _) (nmul_on hb o2 _) hl (by rw [nmul_mul hb o1, Nat.mul_assoc, Nat.mul_comm l']; exact k1) (by rw [nmul_mul hb o2, Nat.mul_comm]; exact k2) v1 j1 e
  obtain ⟨d1, d2⟩ := part hl k1 k2 v1 j1
  obtain ⟨d3, d4⟩ := part hl' (by rw [Nat.mul_comm l']; exact k1) (by rw [Nat.mul_comm l']; exact k2) v2 j2
  exact ⟨Nat.mul_dvd_mul (Nat.dvd_refl k) (hll.mul_dvd_of_dvd_of_dvd d1 d3), hll.mul_dvd_of_dvd_of_dvd d2 d4⟩
end
end Cr
/- The great prime in the order of the second group's curve: a certificate, printed by a program. No program under proof here. -/
namespace Cr
set_option maxRecDepth 100000
theorem prm_1367711 : Prm 1367711 := trial (f := 11) (by decide) (by decide) (by kernel_rfl)
theorem prm_541 : Prm 541 := trial (f := 5) (by decide) (by decide) (by kernel_rfl)
theorem prm_12192593745179 : Prm 12192593745179 := by
  refine Classical.byContradiction fun hp => ?_
  obtain ⟨d, hd, hdn, hdd⟩ := small_prime (n := 12192593745179) (by decide) hp
  have h0 : 1367711 ∣ d - 1 := pock (k := 8914598) (a := 2) (f := 44) prm_1367711 (by kernel_rfl) (of_decide_eq_true (by kernel_rfl)) (by kernel_rfl) (by kernel_rfl) hd hdn
  have h1 : 541 ∣ d - 1 := pock (k := 22537141858) (a := 2) (f := 44) prm_541 (by kernel_rfl) (of_decide_eq_true (by kernel_rfl)) (by kernel_rfl) (by kernel_rfl) hd hdn
  have g1 : 1367711 * 541 ∣ d - 1 := Nat.Coprime.mul_dvd_of_dvd_of_dvd (show Nat.gcd 1367711 541 = 1 by kernel_rfl) h0 h1
  rw [show 1367711 * 541 = 739931651 by kernel_rfl] at g1
  exact pock_fin hd.1 g1 hdd (of_decide_eq_true (by kernel_rfl))
theorem prm_512088937297519 : Prm 512088937297519 := by
  refine Classical.byContradiction fun hp => ?_
  obtain ⟨d, hd, hdn, hdd⟩ := small_prime (n := 512088937297519) (by decide) hp
  have h0 : 12192593745179 ∣ d - 1 := pock (k := 42) (a := 2) (f := 49) prm_12192593745179 (by kernel_rfl) (of_decide_eq_true (by kernel_rfl)) (by kernel_rfl) (by kernel_rfl) hd hdn
  exact pock_fin hd.1 h0 hdd (of_decide_eq_true (by kernel_rfl))
theorem prm_1857858664515398933 : Prm 1857858664515398933 := by
  refine Classical.byContradiction fun hp => ?_
  obtain ⟨d, hd, hdn, hdd⟩ := small_prime (n := 1857858664515398933) (by decide) hp
  have h0 : 512088937297519 ∣ d - 1 := pock (k := 3628) (a := 2) (f := 61) prm_512088937297519 (by kernel_rfl) (of_decide_eq_true (by kernel_rfl)) (by kernel_rfl) (by kernel_rfl) hd hdn
  exact pock_fin hd.1 h0 hdd (of_decide_eq_true (by kernel_rfl))
theorem prm_22294303974184787197 : Prm 22294303974184787197 := by
  refine Classical.byContradiction fun hp => ?_
  obtain ⟨d, hd, hdn, hdd⟩ := small_prime (n := 22294303974184787197) (by decide) hp
  have h0 : 1857858664515398933 ∣ d - 1 := pock (k := 12) (a := 2) (f := 65) prm_1857858664515398933 (by kernel_rfl) (of_decide_eq_true (by kernel_rfl)) (by kernel_rfl) (by kernel_rfl) hd hdn
  exact pock_fin hd.1 h0 hdd (of_decide_eq_true (by kernel_rfl))
theorem prm_19931107752921199754119 : Prm 19931107752921199754119 := by
  refine Classical.byContradiction fun hp => ?_
  obtain ⟨d, hd, hdn, hdd⟩ := small_prime (n := 19931107752921199754119) (by decide) hp
  have h0 : 22294303974184787197 ∣ d - 1 := pock (k := 894) (a := 2) (f := 75) prm_22294303974184787197 (by kernel_rfl) (of_decide_eq_true (by kernel_rfl)) (by kernel_rfl) (by kernel_rfl) hd hdn
  exact pock_fin hd.1 h0 hdd (of_decide_eq_true (by kernel_rfl))
theorem prm_81162125843606155545104998607900118769099783 : Prm 81162125843606155545104998607900118769099783 := by
  refine Classical.byContradiction fun hp => ?_
  obtain ⟨d, hd, hdn, hdd⟩ := small_prime (n := 81162125843606155545104998607900118769099783) (by decide) hp
  have h0 : 19931107752921199754119 ∣ d - 1 := pock (k := 4072133212551150901578) (a := 2) (f := 146) prm_19931107752921199754119 (by kernel_rfl) (of_decide_eq_true (by kernel_rfl)) (by kernel_rfl) (by kernel_rfl) hd hdn
  exact pock_fin hd.1 h0 hdd (of_decide_eq_true (by kernel_rfl))
theorem prm_26935696298915610574513298451669528361624243820491956655650666425177 : Prm 26935696298915610574513298451669528361624243820491956655650666425177 := by
  refine Classical.byContradiction fun hp => ?_
  obtain ⟨d, hd, hdn, hdd⟩ := small_prime (n := 26935696298915610574513298451669528361624243820491956655650666425177) (by decide) hp
  have h0 : 81162125843606155545104998607900118769099783 ∣ d - 1 := pock (k := 331875194481953911837672) (a := 2) (f := 224) prm_81162125843606155545104998607900118769099783 (by kernel_rfl) (of_decide_eq_true (by kernel_rfl)) (by kernel_rfl) (by kernel_rfl) hd hdn
  exact pock_fin hd.1 h0 hdd (of_decide_eq_true (by kernel_rfl))
theorem prm_4638704574076146691498289350639807119782054683906549022985642612861209609656189848749536921852444848596916990932297 : Prm 4638704574076146691498289350639807119782054683906549022985642612861209609656189848749536921852444848596916990932297 := by
  refine Classical.byContradiction fun hp => ?_
  obtain ⟨d, hd, hdn, hdd⟩ := small_prime (n := 4638704574076146691498289350639807119782054683906549022985642612861209609656189848749536921852444848596916990932297) (by decide) hp
  have h0 : 26935696298915610574513298451669528361624243820491956655650666425177 ∣ d - 1 := pock (k := 172214021222941014338396330402661971150362189448) (a := 2) (f := 381) prm_26935696298915610574513298451669528361624243820491956655650666425177 (by kernel_rfl) (of_decide_eq_true (by kernel_rfl)) (by kernel_rfl) (by kernel_rfl) hd hdn
  exact pock_fin hd.1 h0 hdd (of_decide_eq_true (by kernel_rfl))
theorem prm_m : Prm 402096035359507321594726366720466575392706800671181159425656785868777272553337714697862511267018014931937703598282857976535744623203249 := by
  refine Classical.byContradiction fun hp => ?_
  obtain ⟨d, hd, hdn, hdd⟩ := small_prime (n := 402096035359507321594726366720466575392706800671181159425656785868777272553337714697862511267018014931937703598282857976535744623203249) (by decide) hp
  have h0 : 4638704574076146691498289350639807119782054683906549022985642612861209609656189848749536921852444848596916990932297 ∣ d - 1 := pock (k := 86682828996409959984) (a := 2) (f := 448) prm_4638704574076146691498289350639807119782054683906549022985642612861209609656189848749536921852444848596916990932297 (by kernel_rfl) (of_decide_eq_true (by kernel_rfl)) (by kernel_rfl) (by kernel_rfl) hd hdn
  exact pock_fin hd.1 h0 hdd (of_decide_eq_true (by kernel_rfl))
theorem prm_13 : Prm 13 := trial (f := 1) (by decide) (by decide) (by kernel_rfl)
theorem prm_23 : Prm 23 := trial (f := 2) (by decide) (by decide) (by kernel_rfl)
theorem prm_2713 : Prm 2713 := trial (f := 6) (by decide) (by decide) (by kernel_rfl)
theorem prm_11953 : Prm 11953 := trial (f := 7) (by decide) (by decide) (by kernel_rfl)
theorem prm_262069 : Prm 262069 := trial (f := 9) (by decide) (by decide) (by kernel_rfl)
end Cr
/- Bulk points by computation: values forced one by one. No program here. -/
namespace Cr
open Rg Fd

/-- A way to compute in a field. -/
structure Ev (F : Type) [Fd F] where
  V : Type
  φ : V → F
  add : V → V → V
  sub : V → V → V
  mul : V → V → V
  isz : V → Bool
  zero : V
  force : {α : Type} → V → (V → α) → α
  add_φ : ∀ a b, φ (add a b) = φ a + φ b
  sub_φ : ∀ a b, φ (sub a b) = φ a - φ b
  mul_φ : ∀ a b, φ (mul a b) = φ a * φ b
  isz_φ : ∀ a, isz a = true ↔ φ a = 0
  zero_φ : φ zero = 0
  force_eq : ∀ {α : Type} (a : V) (k : V → α), force a k = k a

section
variable {F : Type} [Fd F] (E : Ev F)
abbrev Ev.J := E.V × E.V × E.V
def Ev.φ3 (a : E.J) : Jc F := (E.φ a.1, E.φ a.2.1, E.φ a.2.2)
def Ev.dbl (a : E.J) : E.J := match E.isz a.2.2 with
  | true => (E.zero, E.zero, E.zero)
  | false =>
    E.force (E.mul a.1 a.1) fun xx => E.force (E.mul a.2.1 a.2.1) fun yy => E.force (E.add (E.add xx xx) xx) fun sl =>
    E.force (E.mul a.1 yy) fun m1 => E.force (E.add m1 m1) fun m2 => E.force (E.add m2 m2) fun mid =>
    E.force (E.add yy yy) fun y2 => E.force (E.mul y2 y2) fun fall =>
    E.force (E.sub (E.sub (E.mul sl sl) mid) mid) fun x =>
    E.force (E.sub (E.sub (E.mul sl (E.sub mid x)) fall) fall) fun y =>
    E.force (E.mul a.2.1 a.2.2) fun z1 => E.force (E.add z1 z1) fun z => (x, y, z)
theorem Ev.dbl_φ (a : E.J) : E.φ3 (E.dbl a) = jdbl (E.φ3 a) := by
  unfold Ev.dbl jdbl
  cases h : E.isz a.2.2 with
  | true =>
    have : (E.φ3 a).2.2 = 0 := (E.isz_φ _).1 h
    rw [if_pos this]
    show (E.φ E.zero, E.φ E.zero, E.φ E.zero) = _
    rw [E.zero_φ]
  | false =>
    have : (E.φ3 a).2.2 ≠ 0 := fun e => by have := (E.isz_φ a.2.2).2 e; rw [h] at this; cases this
    rw [if_neg this]
    simp only [E.force_eq]
    simp only [Ev.φ3, jdbN, jdX, E.add_φ, E.sub_φ, E.mul_φ]
def Ev.jadd (a c : E.J) : E.J := match E.isz a.2.2 with
  | true => c
  | false => match E.isz c.2.2 with
    | true => a
    | false =>
      E.force (E.mul a.2.2 a.2.2) fun aa => E.force (E.mul c.2.2 c.2.2) fun bb =>
      E.force (E.mul a.1 bb) fun left => E.force (E.mul c.1 aa) fun right =>
      E.force (E.mul (E.mul a.2.1 bb) c.2.2) fun low => E.force (E.mul (E.mul c.2.1 aa) a.2.2) fun high =>
      E.force (E.sub right left) fun wide => E.force (E.sub high low) fun rise =>
      match E.isz wide with
      | true => match E.isz rise with
        | true => E.dbl a
        | false => (E.zero, E.zero, E.zero)
      | false =>
        E.force (E.mul wide wide) fun sq => E.force (E.mul sq wide) fun cube => E.force (E.mul left sq) fun l2 =>
        E.force (E.sub (E.sub (E.sub (E.mul rise rise) cube) l2) l2) fun x =>
        E.force (E.sub (E.mul rise (E.sub l2 x)) (E.mul low cube)) fun y =>
        E.force (E.mul (E.mul a.2.2 c.2.2) wide) fun z => (x, y, z)
theorem Ev.jadd_φ (a c : E.J) : E.φ3 (E.jadd a c) = Cr.jadd (E.φ3 a) (E.φ3 c) := by
  have nz : ∀ v : E.V, E.isz v = false → E.φ v ≠ 0 := fun v h e => by have := (E.isz_φ v).2 e; rw [h] at this; cases this
  unfold Ev.jadd Cr.jadd
  cases h : E.isz a.2.2 with
  | true => rw [if_pos (show (E.φ3 a).2.2 = 0 from (E.isz_φ _).1 h)]
  | false =>
    rw [if_neg (show (E.φ3 a).2.2 ≠ 0 from nz _ h)]
    cases h2 : E.isz c.2.2 with
    | true => rw [if_pos (show (E.φ3 c).2.2 = 0 from (E.isz_φ _).1 h2)]
    | false =>
      rw [if_neg (show (E.φ3 c).2.2 ≠ 0 from nz _ h2)]
      simp only [E.force_eq]
      have ew : E.φ (E.sub (E.mul c.1 (E.mul a.2.2 a.2.2)) (E.mul a.1 (E.mul c.2.2 c.2.2))) = (E.φ3 c).1 * ((E.φ3 a).2.2 * (E.φ3 a).2.2) - (E.φ3 a).1 * ((E.φ3 c).2.2 * (E.φ3 c).2.2) := by simp only [Ev.φ3, E.sub_φ, E.mul_φ]
      have er : E.φ (E.sub (E.mul (E.mul c.2.1 (E.mul a.2.2 a.2.2)) a.2.2) (E.mul (E.mul a.2.1 (E.mul c.2.2 c.2.2)) c.2.2)) = (E.φ3 c).2.1 * ((E.φ3 a).2.2 * (E.φ3 a).2.2) * (E.φ3 a).2.2 - (E.φ3 a).2.1 * ((E.φ3 c).2.2 * (E.φ3 c).2.2) * (E.φ3 c).2.2 := by simp only [Ev.φ3, E.sub_φ, E.mul_φ]
      cases h3 : E.isz (E.sub (E.mul c.1 (E.mul a.2.2 a.2.2)) (E.mul a.1 (E.mul c.2.2 c.2.2))) with
      | true =>
        have := (E.isz_φ _).1 h3
        rw [ew] at this
        rw [if_pos this]
        cases h4 : E.isz (E.sub (E.mul (E.mul c.2.1 (E.mul a.2.2 a.2.2)) a.2.2) (E.mul (E.mul a.2.1 (E.mul c.2.2 c.2.2)) c.2.2)) with
        | true =>
          have := (E.isz_φ _).1 h4
          rw [er] at this
          rw [if_pos this]
          exact E.dbl_φ a
        | false =>
          have := nz _ h4
          rw [er] at this
          rw [if_neg this]
          show (E.φ E.zero, E.φ E.zero, E.φ E.zero) = _
          rw [E.zero_φ]
      | false =>
        have := nz _ h3
        rw [ew] at this
        rw [if_neg this]
        simp only [Ev.φ3, jfin, jaX, E.sub_φ, E.mul_φ]
/-- So many times, by the digits of the number, from its lowest: 2 n, 2 n + 1. -/
def Ev.mul2 (o : E.J) : Nat → Nat → E.J
  | 0, _ => (E.zero, E.zero, E.zero)
  | f + 1, n => match Nat.beq n 0 with
    | true => (E.zero, E.zero, E.zero)
    | false => match Nat.beq (n % 2) 1 with
      | true => E.jadd (E.dbl (Ev.mul2 o f (n / 2))) o
      | false => E.dbl (Ev.mul2 o f (n / 2))
variable {E} in
theorem Ev.mul2_rep {b : F} (hb : b ≠ 0) {o : E.J} {P : F × F} (ho : Rep b (E.φ3 o) P) : ∀ f n, n < 2 ^ f → Rep b (E.φ3 (E.mul2 o f n)) (nmul P n) := by
  have h0 : Rep b (E.φ3 (E.zero, E.zero, E.zero)) (O2 : F × F) := .inl ⟨E.zero_φ, rfl⟩
  intro f
  induction f with
  | zero => intro n h; have : n = 0 := by simp at h; exact h
            subst this; exact h0
  | succ f ih =>
    intro n h
    unfold Ev.mul2
    split
    · rename_i hn; have := Nat.eq_of_beq_eq_true hn; subst this; exact h0
    · have hr := ih (n / 2) (by rw [Nat.pow_succ] at h; omega)
      have hd := rep_dbl hb hr
      rw [← E.dbl_φ, ← nmul_add hb ho.on] at hd
      split
      · rename_i h1
        have h1 := Nat.eq_of_beq_eq_true h1
        have ha := rep_add hb hd ho
        rw [← E.jadd_φ] at ha
        have e : n = n / 2 + n / 2 + 1 := by omega
        have : nmul P n = padd (nmul P (n / 2 + n / 2)) P := by
          conv => lhs; rw [e]
          rfl
        rw [this]
        exact ha
      · rename_i h1
        have h1 : n % 2 ≠ 1 := fun h2 => by rw [h2] at h1; exact absurd h1 (by decide)
        have e : n = n / 2 + n / 2 := by omega
        have : nmul P n = nmul P (n / 2 + n / 2) := by conv => lhs; rw [e]
        rw [this]
        exact hd
end
end Cr
/- The generator's order, by computation. No program here. -/
namespace Cr
open Rg Fd
def fc {α : Type} (n : Nat) (k : Nat → α) : α := Nat.rec (k 0) (fun m _ => k (m + 1)) n
theorem fc_eq {α : Type} (n : Nat) (k : Nat → α) : fc n k = k n := by cases n <;> rfl
def pN : Nat := 4002409555221667393417789825735904156556882819939007885332058136124031650490837864442687629129015664037894272559787
theorem zm_nat (n : Nat) : (zm ((n % pN : Nat) : Int) : Fp) = zm (n : Int) := zm_eq (by rw [Int.natCast_emod]; exact Int.emod_emod_of_dvd _ (Int.dvd_refl _))
noncomputable def evP1 : Ev Fp where
  V := Nat
  φ n := zm (n : Int)
  add a b := (a + b) % pN
  sub a b := (a + (pN - b % pN)) % pN
  mul a b := (a * b) % pN
  isz a := Nat.beq (a % pN) 0
  zero := 0
  force := fc
  add_φ a b := by rw [zm_nat, zm_add, Int.natCast_add]
  sub_φ a b := by
    rw [zm_nat, zm_sub]
    refine zm_eq ?_
    have h := Nat.mod_lt b (show 0 < pN by decide)
    have e : ((a + (pN - b % pN) : Nat) : Int) = (a : Int) - b + (pN : Int) * (1 + (b : Int) / pN) := by
      have h2 := Int.emod_add_mul_ediv (b : Int) (pN : Int)
      rw [Int.mul_add, Int.mul_one]
      omega
    rw [e]
    exact Int.add_mul_emod_self_left _ _ _
  mul_φ a b := by rw [zm_nat, zm_mul, Int.natCast_mul]
  isz_φ a := by
    constructor
    · intro h
      have h := Nat.eq_of_beq_eq_true h
      rw [← zm_nat, h]; rfl
    · intro h
      have h : (zm (a : Int) : Fp).v = 0 := by rw [h, zero_v]
      have h : (a : Int) % (pN : Int) = 0 := h
      have : a % pN = 0 := by omega
      rw [this]; rfl
  zero_φ := rfl
  force_eq := fc_eq
end Cr
/- The field of numbers a + b v + c v^2 over the field of p^2, v^3 = 1 + i. No program here. -/
namespace Cr
open Rg Fd Go.Eng
abbrev F6 := F2 × F2 × F2
/-- 1 + i. -/
def xi : F2 := ((1 : Fp), (1 : Fp))
theorem f6_c1 {F : Type} [Rg F] (a b c d e f x : F) : a * d + x * (b * f + c * e) = d * a + x * (e * c + f * b) :=
  rid [a, b, c, d, e, f, x] ((fun (a b c d e f x : PE) => (a * d + x * (b * f + c * e))) (.v 0) (.v 1) (.v 2) (.v 3) (.v 4) (.v 5) (.v 6)) ((fun (a b c d e f x : PE) => (d * a + x * (e * c + f * b))) (.v 0) (.v 1) (.v 2) (.v 3) (.v 4) (.v 5) (.v 6)) (by kernel_rfl)
theorem f6_c2 {F : Type} [Rg F] (a b c d e f x : F) : a * e + b * d + x * (c * f) = d * b + e * a + x * (f * c) :=
  rid [a, b, c, d, e, f, x] ((fun (a b c d e f x : PE) => (a * e + b * d + x * (c * f))) (.v 0) (.v 1) (.v 2) (.v 3) (.v 4) (.v 5) (.v 6)) ((fun (a b c d e f x : PE) => (d * b + e * a + x * (f * c))) (.v 0) (.v 1) (.v 2) (.v 3) (.v 4) (.v 5) (.v 6)) (by kernel_rfl)
theorem f6_c3 {F : Type} [Rg F] (a b c d e f x : F) : a * f + b * e + c * d = d * c + e * b + f * a :=
  rid [a, b, c, d, e, f, x] ((fun (a b c d e f x : PE) => (a * f + b * e + c * d)) (.v 0) (.v 1) (.v 2) (.v 3) (.v 4) (.v 5) (.v 6)) ((fun (a b c d e f x : PE) => (d * c + e * b + f * a)) (.v 0) (.v 1) (.v 2) (.v 3) (.v 4) (.v 5) (.v 6)) (by kernel_rfl)
theorem f6_s1 {F : Type} [Rg F] (a b c d e f g h k x : F) : (a * d + x * (b * f + c * e)) * g + x * ((a * e + b * d + x * (c * f)) * k + (a * f + b * e + c * d) * h) = a * (d * g + x * (e * k + f * h)) + x * (b * (d * k + e * h + f * g) + c * (d * h + e * g + x * (f * k))) :=
  rid [a, b, c, d, e, f, g, h, k, x] ((fun (a b c d e f g h k x : PE) => ((a * d + x * (b * f + c * e)) * g + x * ((a * e + b * d + x * (c * f)) * k + (a * f + b * e + c * d) * h))) (.v 0) (.v 1) (.v 2) (.v 3) (.v 4) (.v 5) (.v 6) (.v 7) (.v 8) (.v 9)) ((fun (a b c d e f g h k x : PE) => (a * (d * g + x * (e * k + f * h)) + x * (b * (d * k + e * h + f * g) + c * (d * h + e * g + x * (f * k))))) (.v 0) (.v 1) (.v 2) (.v 3) (.v 4) (.v 5) (.v 6) (.v 7) (.v 8) (.v 9)) (by kernel_rfl)
theorem f6_s2 {F : Type} [Rg F] (a b c d e f g h k x : F) : (a * d + x * (b * f + c * e)) * h + (a * e + b * d + x * (c * f)) * g + x * ((a * f + b * e + c * d) * k) = a * (d * h + e * g + x * (f * k)) + b * (d * g + x * (e * k + f * h)) + x * (c * (d * k + e * h + f * g)) :=
  rid [a, b, c, d, e, f, g, h, k, x] ((fun (a b c d e f g h k x : PE) => ((a * d + x * (b * f + c * e)) * h + (a * e + b * d + x * (c * f)) * g + x * ((a * f + b * e + c * d) * k))) (.v 0) (.v 1) (.v 2) (.v 3) (.v 4) (.v 5) (.v 6) (.v 7) (.v 8) (.v 9)) ((fun (a b c d e f g h k x : PE) => (a * (d * h + e * g + x * (f * k)) + b * (d * g + x * (e * k + f * h)) + x * (c * (d * k + e * h + f * g)))) (.v 0) (.v 1) (.v 2) (.v 3) (.v 4) (.v 5) (.v 6) (.v 7) (.v 8) (.v 9)) (by kernel_rfl)
theorem f6_s3 {F : Type} [Rg F] (a b c d e f g h k x : F) : (a * d + x * (b * f + c * e)) * k + (a * e + b * d + x * (c * f)) * h + (a * f + b * e + c * d) * g = a * (d * k + e * h + f * g) + b * (d * h + e * g + x * (f * k)) + c * (d * g + x * (e * k + f * h)) :=
  rid [a, b, c, d, e, f, g, h, k, x] ((fun (a b c d e f g h k x : PE) => ((a * d + x * (b * f + c * e)) * k + (a * e + b * d + x * (c * f)) * h + (a * f + b * e + c * d) * g)) (.v 0) (.v 1) (.v 2) (.v 3) (.v 4) (.v 5) (.v 6) (.v 7) (.v 8) (.v 9)) ((fun (a b c d e f g h k x : PE) => (a * (d * k + e * h + f * g) + b * (d * h + e * g + x * (f * k)) + c * (d * g + x * (e * k + f * h)))) (.v 0) (.v 1) (.v 2) (.v 3) (.v 4) (.v 5) (.v 6) (.v 7) (.v 8) (.v 9)) (by kernel_rfl)
theorem f6_o1 {F : Type} [Rg F] (a b c x : F) : 1 * a + x * (0 * c + 0 * b) = a :=
  rid [a, b, c, x] ((fun (a b c x : PE) => (1 * a + x * (0 * c + 0 * b))) (.v 0) (.v 1) (.v 2) (.v 3)) ((fun (a b c x : PE) => (a)) (.v 0) (.v 1) (.v 2) (.v 3)) (by kernel_rfl)
theorem f6_o2 {F : Type} [Rg F] (a b c x : F) : 1 * b + 0 * a + x * (0 * c) = b :=
  rid [a, b, c, x] ((fun (a b c x : PE) => (1 * b + 0 * a + x * (0 * c))) (.v 0) (.v 1) (.v 2) (.v 3)) ((fun (a b c x : PE) => (b)) (.v 0) (.v 1) (.v 2) (.v 3)) (by kernel_rfl)
theorem f6_o3 {F : Type} [Rg F] (a b c : F) : 1 * c + 0 * b + 0 * a = c :=
  rid [a, b, c] ((fun (a b c : PE) => (1 * c + 0 * b + 0 * a)) (.v 0) (.v 1) (.v 2)) ((fun (a b c : PE) => (c)) (.v 0) (.v 1) (.v 2)) (by kernel_rfl)
theorem f6_d1 {F : Type} [Rg F] (a b c d e f g h k x : F) : (a + d) * g + x * ((b + e) * k + (c + f) * h) = a * g + x * (b * k + c * h) + (d * g + x * (e * k + f * h)) :=
  rid [a, b, c, d, e, f, g, h, k, x] ((fun (a b c d e f g h k x : PE) => ((a + d) * g + x * ((b + e) * k + (c + f) * h))) (.v 0) (.v 1) (.v 2) (.v 3) (.v 4) (.v 5) (.v 6) (.v 7) (.v 8) (.v 9)) ((fun (a b c d e f g h k x : PE) => (a * g + x * (b * k + c * h) + (d * g + x * (e * k + f * h)))) (.v 0) (.v 1) (.v 2) (.v 3) (.v 4) (.v 5) (.v 6) (.v 7) (.v 8) (.v 9)) (by kernel_rfl)
theorem f6_d2 {F : Type} [Rg F] (a b c d e f g h k x : F) : (a + d) * h + (b + e) * g + x * ((c + f) * k) = a * h + b * g + x * (c * k) + (d * h + e * g + x * (f * k)) :=
  rid [a, b, c, d, e, f, g, h, k, x] ((fun (a b c d e f g h k x : PE) => ((a + d) * h + (b + e) * g + x * ((c + f) * k))) (.v 0) (.v 1) (.v 2) (.v 3) (.v 4) (.v 5) (.v 6) (.v 7) (.v 8) (.v 9)) ((fun (a b c d e f g h k x : PE) => (a * h + b * g + x * (c * k) + (d * h + e * g + x * (f * k)))) (.v 0) (.v 1) (.v 2) (.v 3) (.v 4) (.v 5) (.v 6) (.v 7) (.v 8) (.v 9)) (by kernel_rfl)
theorem f6_d3 {F : Type} [Rg F] (a b c d e f g h k : F) : (a + d) * k + (b + e) * h + (c + f) * g = a * k + b * h + c * g + (d * k + e * h + f * g) :=
  rid [a, b, c, d, e, f, g, h, k] ((fun (a b c d e f g h k : PE) => ((a + d) * k + (b + e) * h + (c + f) * g)) (.v 0) (.v 1) (.v 2) (.v 3) (.v 4) (.v 5) (.v 6) (.v 7) (.v 8)) ((fun (a b c d e f g h k : PE) => (a * k + b * h + c * g + (d * k + e * h + f * g))) (.v 0) (.v 1) (.v 2) (.v 3) (.v 4) (.v 5) (.v 6) (.v 7) (.v 8)) (by kernel_rfl)
section
variable {R : Type} [Rg R] (v : R)
noncomputable def cadd (x y : R × R × R) : R × R × R := opq (x.1 + y.1, x.2.1 + y.2.1, x.2.2 + y.2.2)
noncomputable def csub (x y : R × R × R) : R × R × R := opq (x.1 - y.1, x.2.1 - y.2.1, x.2.2 - y.2.2)
noncomputable def cneg (x : R × R × R) : R × R × R := opq (-x.1, -x.2.1, -x.2.2)
noncomputable def cmul (x y : R × R × R) : R × R × R := opq (x.1 * y.1 + v * (x.2.1 * y.2.2 + x.2.2 * y.2.1), x.1 * y.2.1 + x.2.1 * y.1 + v * (x.2.2 * y.2.2), x.1 * y.2.2 + x.2.1 * y.2.1 + x.2.2 * y.1)
theorem cadd_def (x y : R × R × R) : cadd x y = (x.1 + y.1, x.2.1 + y.2.1, x.2.2 + y.2.2) := opq_eq _
theorem csub_def (x y : R × R × R) : csub x y = (x.1 - y.1, x.2.1 - y.2.1, x.2.2 - y.2.2) := opq_eq _
theorem cneg_def (x : R × R × R) : cneg x = (-x.1, -x.2.1, -x.2.2) := opq_eq _
theorem cmul_def (x y : R × R × R) : cmul v x y = (x.1 * y.1 + v * (x.2.1 * y.2.2 + x.2.2 * y.2.1), x.1 * y.2.1 + x.2.1 * y.1 + v * (x.2.2 * y.2.2), x.1 * y.2.2 + x.2.1 * y.2.1 + x.2.2 * y.1) := opq_eq _
omit [Rg R] in
theorem cext {x y : R × R × R} (h1 : x.1 = y.1) (h2 : x.2.1 = y.2.1) (h3 : x.2.2 = y.2.2) : x = y := Prod.ext h1 (Prod.ext h2 h3)
theorem c_l1 (a b : R × R × R) : cadd a b = cadd b a := by rw [cadd_def, cadd_def, add_comm, add_comm a.2.1, add_comm a.2.2]
theorem c_l2 (a b c : R × R × R) : cadd (cadd a b) c = cadd a (cadd b c) := by rw [cadd_def, cadd_def, cadd_def, cadd_def, add_assoc, add_assoc, add_assoc]
theorem c_l3 (a : R × R × R) : cadd (0, 0, 0) a = a := by rw [cadd_def, zero_add, zero_add, zero_add]
theorem c_l4 (a : R × R × R) : cadd (cneg a) a = (0, 0, 0) := by rw [cadd_def, cneg_def, neg_add, neg_add, neg_add]
theorem c_l5 (a b : R × R × R) : csub a b = cadd a (cneg b) := by rw [cadd_def, cneg_def, csub_def, Rg.sub_def, Rg.sub_def, Rg.sub_def]
theorem c_l6 (a b : R × R × R) : cmul v a b = cmul v b a := by rw [cmul_def, cmul_def]; exact cext (f6_c1 _ _ _ _ _ _ _) (f6_c2 _ _ _ _ _ _ _) (f6_c3 _ _ _ _ _ _ (0 : R))
theorem c_l7 (a b c : R × R × R) : cmul v (cmul v a b) c = cmul v a (cmul v b c) := by rw [cmul_def, cmul_def, cmul_def, cmul_def]; exact cext (f6_s1 _ _ _ _ _ _ _ _ _ _) (f6_s2 _ _ _ _ _ _ _ _ _ _) (f6_s3 _ _ _ _ _ _ _ _ _ _)
theorem c_l8 (a : R × R × R) : cmul v (1, 0, 0) a = a := by rw [cmul_def]; exact cext (f6_o1 _ _ _ _) (f6_o2 _ _ _ _) (f6_o3 _ _ _)
theorem c_l9 (a b c : R × R × R) : cmul v (cadd a b) c = cadd (cmul v a c) (cmul v b c) := by rw [cadd_def, cmul_def, cmul_def, cmul_def, cadd_def]; exact cext (f6_d1 _ _ _ _ _ _ _ _ _ _) (f6_d2 _ _ _ _ _ _ _ _ _ _) (f6_d3 _ _ _ _ _ _ _ _ _)
end
noncomputable instance rgF6 : Rg F6 where
  zero := (0, 0, 0)
  one := (1, 0, 0)
  add := cadd
  sub := csub
  neg := cneg
  mul := cmul xi
  add_comm := c_l1
  add_assoc := c_l2
  zero_add := c_l3
  neg_add := c_l4
  sub_def := c_l5
  mul_comm := c_l6 xi
  mul_assoc := c_l7 xi
  one_mul := c_l8 xi
  add_mul := c_l9 xi
theorem F6.ext {x y : F6} (h1 : x.1 = y.1) (h2 : x.2.1 = y.2.1) (h3 : x.2.2 = y.2.2) : x = y := Prod.ext h1 (Prod.ext h2 h3)
theorem F6.add_def (x y : F6) : x + y = (x.1 + y.1, x.2.1 + y.2.1, x.2.2 + y.2.2) := cadd_def x y
theorem F6.sub_def (x y : F6) : x - y = (x.1 - y.1, x.2.1 - y.2.1, x.2.2 - y.2.2) := csub_def x y
theorem F6.neg_def (x : F6) : -x = (-x.1, -x.2.1, -x.2.2) := cneg_def x
theorem F6.mul_def (x y : F6) : x * y = (x.1 * y.1 + xi * (x.2.1 * y.2.2 + x.2.2 * y.2.1), x.1 * y.2.1 + x.2.1 * y.1 + xi * (x.2.2 * y.2.2), x.1 * y.2.2 + x.2.1 * y.2.1 + x.2.2 * y.1) := cmul_def xi x y
theorem f2_nn {F : Type} [Rg F] (a b c d : F) : (a * c - b * d) * (a * c - b * d) + (a * d + b * c) * (a * d + b * c) = (a * a + b * b) * (c * c + d * d) :=
  rid [a, b, c, d] ((fun (a b c d : PE) => ((a * c - b * d) * (a * c - b * d) + (a * d + b * c) * (a * d + b * c))) (.v 0) (.v 1) (.v 2) (.v 3)) ((fun (a b c d : PE) => ((a * a + b * b) * (c * c + d * d))) (.v 0) (.v 1) (.v 2) (.v 3)) (by kernel_rfl)
/-- The norm. -/
noncomputable def nm2 (x : F2) : Fp := x.1 * x.1 + x.2 * x.2
theorem nm2_mul (x y : F2) : nm2 (x * y) = nm2 x * nm2 y := by
  unfold nm2
  rw [F2.mul1, F2.mul2]
  exact f2_nn _ _ _ _
theorem nm2_xi : nm2 xi = 1 + 1 := by
  unfold nm2 xi
  show (1 : Fp) * 1 + 1 * 1 = 1 + 1
  rw [one_mul]
section
variable {M : Int} [Md M]
theorem zpow_add' (x : Zm M) (m n : Nat) : zpow x (m + n) = zpow x m * zpow x n := by
  induction n with
  | zero => show zpow x m = zpow x m * 1; rw [mul_one]
  | succ n ih => show zpow x (m + n) * x = zpow x m * (zpow x n * x); rw [ih, mul_assoc]
theorem zpow_mul' (x : Zm M) (m n : Nat) : zpow x (m * n) = zpow (zpow x m) n := by
  induction n with
  | zero => rfl
  | succ n ih => show zpow x (m * n + m) = zpow (zpow x m) n * zpow x m; rw [zpow_add', ih]
end
def fpP : Nat := 4002409555221667393417789825735904156556882819939007885332058136124031650490837864442687629129015664037894272559787
theorem fp_fermat {x : Fp} (hx : x ≠ 0) : zpow x (fpP - 1) = 1 := by
  have h1 := zm_fermat Mp_nat prm_p hx (n := fpP - 2) (of_decide_eq_true (by kernel_rfl))
  have h3 : zpow x (fpP - 1) = zpow x (fpP - 2 + 1) := congrArg (zpow x) (of_decide_eq_true (by kernel_rfl))
  have h4 : zpow x (fpP - 2 + 1) = zpow x (fpP - 2) * x := rfl
  rw [h3, h4, mul_comm, h1]
/-- A power by computation, bit by bit. -/
def npm (m x : Nat) : Nat → Nat → Nat
  | 0, _ => 1
  | f + 1, n => match n with
    | 0 => 1
    | n + 1 => fc (npm m x f ((n + 1) / 2)) fun h => match (n + 1) % 2 with
      | 0 => h * h % m
      | _ => h * h % m * x % m
theorem npm_eq (m x : Nat) (hm : 1 < m) : ∀ f n, n < 2 ^ f → npm m x f n = x ^ n % m
  | 0, n, h => by
    have : n = 0 := by simpa using h
    subst this
    show 1 = 1 % m
    rw [Nat.mod_eq_of_lt hm]
  | f + 1, 0, _ => by show 1 = 1 % m; rw [Nat.mod_eq_of_lt hm]
  | f + 1, n + 1, h => by
    have ih := npm_eq m x hm f ((n + 1) / 2) (by rw [Nat.pow_succ] at h; omega)
    rw [npm, fc_eq, ih]
    have e : n + 1 = (n + 1) / 2 + (n + 1) / 2 + (n + 1) % 2 := by omega
    have e2 : x ^ (n + 1) = x ^ ((n + 1) / 2) * x ^ ((n + 1) / 2) * x ^ ((n + 1) % 2) := by rw [← Nat.pow_add, ← Nat.pow_add, ← e]
    rw [e2]
    rcases Nat.mod_two_eq_zero_or_one (n + 1) with h0 | h0
    · rw [h0, Nat.pow_zero, Nat.mul_one, ← Nat.mul_mod]
      rfl
    · rw [h0, Nat.pow_one]
      show x ^ ((n + 1) / 2) % m * (x ^ ((n + 1) / 2) % m) % m * x % m = _
      rw [← Nat.mul_mod, Nat.mul_mod (_ % m) x, Nat.mod_mod, ← Nat.mul_mod]
theorem zpow_two_v (n : Nat) : (zpow (1 + 1 : Fp) n).v = ((2 ^ n % fpP : Nat) : Int) := by
  rw [zpow_v]
  have : (1 + 1 : Fp).v = 2 := by decide
  rw [this, Mp_nat, Int.natCast_emod, Int.natCast_pow]; rfl
theorem no_pow2 {s : Fp} {k : Nat} {q : Nat} (hq : q * k = fpP - 1) (h : zpow s k = 1 + 1) : (2 : Nat) ^ q % fpP = 1 := by
  have hs : zpow (1 + 1 : Fp) q = 1 := by
    rw [← h, ← zpow_mul', Nat.mul_comm, hq]
    refine fp_fermat ?_
    intro e
    subst e
    cases k with
    | zero => rw [Nat.mul_zero] at hq; exact absurd hq (by decide)
    | succ k =>
      have : zpow (0 : Fp) (k + 1) = zpow (0 : Fp) k * 0 := rfl
      rw [this, mul_zero] at h
      exact absurd h (by decide)
  have h2 := zpow_two_v q
  rw [hs] at h2
  have : (1 : Fp).v = 1 := by decide
  rw [this] at h2
  omega
theorem two_sq : npm fpP 2 384 2001204777610833696708894912867952078278441409969503942666029068062015825245418932221343814564507832018947136279893 = fpP - 1 := by kernel_rfl
theorem two_cube : Nat.beq (npm fpP 2 384 1334136518407222464472596608578634718852294273313002628444019378708010550163612621480895876376338554679298090853262) 1 = false := by kernel_rfl
theorem xi_sq {s : F2} (h : s * s = xi) : False := by
  have e := congrArg nm2 h
  rw [nm2_mul, nm2_xi] at e
  have k := no_pow2 (s := nm2 s) (k := 2) (q := 2001204777610833696708894912867952078278441409969503942666029068062015825245418932221343814564507832018947136279893) (of_decide_eq_true (by kernel_rfl)) (by
    show 1 * nm2 s * nm2 s = 1 + 1
    rw [one_mul]; exact e)
  have t := two_sq
  rw [npm_eq _ _ (by decide) 384 _ (of_decide_eq_true (by kernel_rfl)), k] at t
  exact absurd t (by decide)
theorem xi_cube {s : F2} (h : s * s * s = xi) : False := by
  have e := congrArg nm2 h
  rw [nm2_mul, nm2_mul, nm2_xi] at e
  have k := no_pow2 (s := nm2 s) (k := 3) (q := 1334136518407222464472596608578634718852294273313002628444019378708010550163612621480895876376338554679298090853262) (of_decide_eq_true (by kernel_rfl)) (by
    show 1 * nm2 s * nm2 s * nm2 s = 1 + 1
    rw [one_mul]; exact e)
  have t := two_cube
  rw [npm_eq _ _ (by decide) 384 _ (of_decide_eq_true (by kernel_rfl)), k] at t
  exact absurd t (by decide)
theorem n6_id {F : Type} [Rg F] (a b c x : F) : (a * (a * a - x * (b * c)) + x * (c * (x * (c * c) - a * b) + b * (b * b - a * c))) * (x * (c * c * c) - b * b * b) = (x * (c * c) - a * b) * (x * (c * c) - a * b) * (x * (c * c) - a * b) + x * ((c * a - b * b) * (c * a - b * b) * (c * a - b * b)) :=
  rid [a, b, c, x] ((fun (a b c x : PE) => ((a * (a * a - x * (b * c)) + x * (c * (x * (c * c) - a * b) + b * (b * b - a * c))) * (x * (c * c * c) - b * b * b))) (.v 0) (.v 1) (.v 2) (.v 3)) ((fun (a b c x : PE) => ((x * (c * c) - a * b) * (x * (c * c) - a * b) * (x * (c * c) - a * b) + x * ((c * a - b * b) * (c * a - b * b) * (c * a - b * b)))) (.v 0) (.v 1) (.v 2) (.v 3)) (by kernel_rfl)
theorem n6_c0 {F : Type} [Rg F] (a b x : F) : a * (a * a - x * (b * 0)) + x * (0 * (x * (0 * 0) - a * b) + b * (b * b - a * 0)) = a * a * a + x * (b * b * b) :=
  rid [a, b, x] ((fun (a b x : PE) => (a * (a * a - x * (b * 0)) + x * (0 * (x * (0 * 0) - a * b) + b * (b * b - a * 0)))) (.v 0) (.v 1) (.v 2)) ((fun (a b x : PE) => (a * a * a + x * (b * b * b))) (.v 0) (.v 1) (.v 2)) (by kernel_rfl)
theorem n6_t {F : Type} [Rg F] (a j : F) : (- a * j) * (- a * j) * (- a * j) = -(a * a * a * (j * j * j)) :=
  rid [a, j] ((fun (a j : PE) => ((- a * j) * (- a * j) * (- a * j))) (.v 0) (.v 1)) ((fun (a j : PE) => (-(a * a * a * (j * j * j)))) (.v 0) (.v 1)) (by kernel_rfl)
theorem n6_q {F : Type} [Rg F] (x c j : F) : x * (c * c * c) * (j * j * j) = x * ((c * j) * (c * j) * (c * j)) :=
  rid [x, c, j] ((fun (x c j : PE) => (x * (c * c * c) * (j * j * j))) (.v 0) (.v 1) (.v 2)) ((fun (x c j : PE) => (x * ((c * j) * (c * j) * (c * j)))) (.v 0) (.v 1) (.v 2)) (by kernel_rfl)
theorem n6_p1 {F : Type} [Rg F] (b c a x : F) : b * b * b - c * c * c * x = (-b) * (c * a - b * b) + (-c) * (x * (c * c) - a * b) :=
  rid [b, c, a, x] ((fun (b c a x : PE) => (b * b * b - c * c * c * x)) (.v 0) (.v 1) (.v 2) (.v 3)) ((fun (b c a x : PE) => ((-b) * (c * a - b * b) + (-c) * (x * (c * c) - a * b))) (.v 0) (.v 1) (.v 2) (.v 3)) (by kernel_rfl)
theorem n6_p2 {F : Type} [Rg F] (b c j x : F) : b * j * (b * j) * (b * j) - x * ((c * j) * (c * j) * (c * j)) = (j * j * j) * (b * b * b - c * c * c * x) :=
  rid [b, c, j, x] ((fun (b c j x : PE) => (b * j * (b * j) * (b * j) - x * ((c * j) * (c * j) * (c * j)))) (.v 0) (.v 1) (.v 2) (.v 3)) ((fun (b c j x : PE) => ((j * j * j) * (b * b * b - c * c * c * x))) (.v 0) (.v 1) (.v 2) (.v 3)) (by kernel_rfl)
theorem i6_1 {F : Type} [Rg F] (a b c x n : F) : a * ((a * a - x * (b * c)) * n) + x * (b * ((b * b - a * c) * n) + c * ((x * (c * c) - a * b) * n)) = (a * (a * a - x * (b * c)) + x * (c * (x * (c * c) - a * b) + b * (b * b - a * c))) * n :=
  rid [a, b, c, x, n] ((fun (a b c x n : PE) => (a * ((a * a - x * (b * c)) * n) + x * (b * ((b * b - a * c) * n) + c * ((x * (c * c) - a * b) * n)))) (.v 0) (.v 1) (.v 2) (.v 3) (.v 4)) ((fun (a b c x n : PE) => ((a * (a * a - x * (b * c)) + x * (c * (x * (c * c) - a * b) + b * (b * b - a * c))) * n)) (.v 0) (.v 1) (.v 2) (.v 3) (.v 4)) (by kernel_rfl)
theorem i6_2 {F : Type} [Rg F] (a b c x n : F) : a * ((x * (c * c) - a * b) * n) + b * ((a * a - x * (b * c)) * n) + x * (c * ((b * b - a * c) * n)) = 0 :=
  rid [a, b, c, x, n] ((fun (a b c x n : PE) => (a * ((x * (c * c) - a * b) * n) + b * ((a * a - x * (b * c)) * n) + x * (c * ((b * b - a * c) * n)))) (.v 0) (.v 1) (.v 2) (.v 3) (.v 4)) ((fun (a b c x n : PE) => (0)) (.v 0) (.v 1) (.v 2) (.v 3) (.v 4)) (by kernel_rfl)
theorem i6_3 {F : Type} [Rg F] (a b c x n : F) : a * ((b * b - a * c) * n) + b * ((x * (c * c) - a * b) * n) + c * ((a * a - x * (b * c)) * n) = 0 :=
  rid [a, b, c, x, n] ((fun (a b c x n : PE) => (a * ((b * b - a * c) * n) + b * ((x * (c * c) - a * b) * n) + c * ((a * a - x * (b * c)) * n))) (.v 0) (.v 1) (.v 2) (.v 3) (.v 4)) ((fun (a b c x n : PE) => (0)) (.v 0) (.v 1) (.v 2) (.v 3) (.v 4)) (by kernel_rfl)
theorem n6_sq {F : Type} [Rg F] (a b c x : F) : (a * a + x * (b * c + c * b)) * ((a * a + x * (b * c + c * b)) * (a * a + x * (b * c + c * b)) - x * ((a * b + b * a + x * (c * c)) * (a * c + b * b + c * a))) + x * ((a * c + b * b + c * a) * (x * ((a * c + b * b + c * a) * (a * c + b * b + c * a)) - (a * a + x * (b * c + c * b)) * (a * b + b * a + x * (c * c))) + (a * b + b * a + x * (c * c)) * ((a * b + b * a + x * (c * c)) * (a * b + b * a + x * (c * c)) - (a * a + x * (b * c + c * b)) * (a * c + b * b + c * a))) = (a * (a * a - x * (b * c)) + x * (c * (x * (c * c) - a * b) + b * (b * b - a * c))) * (a * (a * a - x * (b * c)) + x * (c * (x * (c * c) - a * b) + b * (b * b - a * c))) :=
  rid [a, b, c, x] ((fun (a b c x : PE) => ((a * a + x * (b * c + c * b)) * ((a * a + x * (b * c + c * b)) * (a * a + x * (b * c + c * b)) - x * ((a * b + b * a + x * (c * c)) * (a * c + b * b + c * a))) + x * ((a * c + b * b + c * a) * (x * ((a * c + b * b + c * a) * (a * c + b * b + c * a)) - (a * a + x * (b * c + c * b)) * (a * b + b * a + x * (c * c))) + (a * b + b * a + x * (c * c)) * ((a * b + b * a + x * (c * c)) * (a * b + b * a + x * (c * c)) - (a * a + x * (b * c + c * b)) * (a * c + b * b + c * a))))) (.v 0) (.v 1) (.v 2) (.v 3)) ((fun (a b c x : PE) => ((a * (a * a - x * (b * c)) + x * (c * (x * (c * c) - a * b) + b * (b * b - a * c))) * (a * (a * a - x * (b * c)) + x * (c * (x * (c * c) - a * b) + b * (b * b - a * c))))) (.v 0) (.v 1) (.v 2) (.v 3)) (by kernel_rfl)
theorem n6_vv {F : Type} [Rg F] (x : F) : 0 * (0 * 0 - x * (1 * 0)) + x * (0 * (x * (0 * 0) - 0 * 1) + 1 * (1 * 1 - 0 * 0)) = x :=
  rid [x] ((fun (x : PE) => (0 * (0 * 0 - x * (1 * 0)) + x * (0 * (x * (0 * 0) - 0 * 1) + 1 * (1 * 1 - 0 * 0)))) (.v 0)) ((fun (x : PE) => (x)) (.v 0)) (by kernel_rfl)
section
variable {R : Type} [Fd R] (x : R)
theorem c_lin (hx : ∀ s : R, s * s * s = x → False) {a c : R} (h : a * a * a + x * (c * c * c) = 0) : a = 0 ∧ c = 0 := by
  have hc : c = 0 := by
    refine Classical.byContradiction fun hc => ?_
    have hi := mul_inv c hc
    refine hx (-a * inv c) ?_
    have e : a * a * a = -(x * (c * c * c)) := by
      have := neg_eq h
      rw [← this, neg_neg]
    rw [n6_t, e, neg_mul, neg_neg]
    have : x * (c * c * c) * (inv c * inv c * inv c) = x * ((c * inv c) * (c * inv c) * (c * inv c)) := n6_q _ _ _
    rw [this, hi, one_mul, one_mul, mul_one]
  refine ⟨?_, hc⟩
  rw [hc, mul_zero, mul_zero, add_zero] at h
  rcases mul_eq_zero h with h | h
  · rcases mul_eq_zero h with h | h <;> exact h
  · exact h
/-- What t is multiplied with to come to its norm. -/
def cadj (t : R × R × R) : R × R × R := (t.1 * t.1 - x * (t.2.1 * t.2.2), x * (t.2.2 * t.2.2) - t.1 * t.2.1, t.2.1 * t.2.1 - t.1 * t.2.2)
def cnm (t : R × R × R) : R := t.1 * (t.1 * t.1 - x * (t.2.1 * t.2.2)) + x * (t.2.2 * (x * (t.2.2 * t.2.2) - t.1 * t.2.1) + t.2.1 * (t.2.1 * t.2.1 - t.1 * t.2.2))
theorem cnm_ne (hx : ∀ s : R, s * s * s = x → False) {t : R × R × R} (h : t ≠ (0, 0, 0)) : cnm x t ≠ 0 := by
  intro e
  unfold cnm at e
  by_cases hc : t.2.2 = 0
  · rw [hc, n6_c0] at e
    obtain ⟨h1, h2⟩ := c_lin x hx e
    exact h (cext h1 h2 hc)
  · have k := n6_id t.1 t.2.1 t.2.2 x
    rw [e, zero_mul] at k
    obtain ⟨h1, h2⟩ := c_lin x hx k.symm
    have hi := mul_inv _ hc
    refine hx (t.2.1 * inv t.2.2) (eq_of_sub ?_)
    have p := n6_p1 t.2.1 t.2.2 t.1 x
    rw [h1, h2, mul_zero, mul_zero, add_zero] at p
    have q := n6_p2 t.2.1 t.2.2 (inv t.2.2) x
    rw [p, mul_zero, hi, one_mul, one_mul, mul_one] at q
    exact q
/-- 1/t. -/
noncomputable def cinv (t : R × R × R) : R × R × R := opq ((cadj x t).1 * inv (cnm x t), (cadj x t).2.1 * inv (cnm x t), (cadj x t).2.2 * inv (cnm x t))
theorem cinv_def (t : R × R × R) : cinv x t = ((cadj x t).1 * inv (cnm x t), (cadj x t).2.1 * inv (cnm x t), (cadj x t).2.2 * inv (cnm x t)) := opq_eq _
theorem cinv_mul (hx : ∀ s : R, s * s * s = x → False) {t : R × R × R} (h : t ≠ (0, 0, 0)) : cmul x t (cinv x t) = (1, 0, 0) := by
  have hn := mul_inv _ (cnm_ne x hx h)
  rw [cmul_def, cinv_def]
  exact cext ((i6_1 _ _ _ _ _).trans hn) (i6_2 _ _ _ _ _) (i6_3 _ _ _ _ _)
theorem cnm_sq (t : R × R × R) : cnm x (cmul x t t) = cnm x t * cnm x t := by
  rw [cmul_def]
  exact n6_sq t.1 t.2.1 t.2.2 x
theorem cnm_v : cnm x ((0 : R), (1 : R), (0 : R)) = x := n6_vv x
end
noncomputable abbrev nm6 (t : F6) : F2 := cnm xi t
noncomputable abbrev inv6 (t : F6) : F6 := cinv xi t
noncomputable instance fdF6 : Fd F6 where
  deq := inferInstanceAs (DecidableEq (F2 × F2 × F2))
  inv := inv6
  mul_inv _ h := cinv_mul xi (fun _ e => xi_cube e) h
  one_ne := fun h => absurd (congrArg Prod.fst h) one_ne
  two_ne := fun h => absurd (congrArg Prod.fst h) (by rw [F6.add_def]; exact two_ne)
  three_ne := fun h => absurd (congrArg Prod.fst h) (by rw [F6.add_def, F6.add_def]; exact three_ne)
end Cr
/- Powers in a commutative ring; the power p where p is nought. No program here. -/
namespace Cr
open Rg
section
variable {F : Type} [Rg F]
def pwn (x : F) : Nat → F
  | 0 => 1
  | n + 1 => pwn x n * x
theorem pwn_add (x : F) (m n : Nat) : pwn x (m + n) = pwn x m * pwn x n := by
  induction n with
  | zero => show pwn x m = pwn x m * 1; rw [mul_one]
  | succ n ih => show pwn x (m + n) * x = pwn x m * (pwn x n * x); rw [ih, mul_assoc]
theorem pwn_mul (x : F) (m n : Nat) : pwn x (m * n) = pwn (pwn x m) n := by
  induction n with
  | zero => rfl
  | succ n ih => show pwn x (m * n + m) = pwn (pwn x m) n * pwn x m; rw [pwn_add, ih]
theorem pwn_prod (x y : F) (n : Nat) : pwn (x * y) n = pwn x n * pwn y n := by
  induction n with
  | zero => show (1 : F) = 1 * 1; rw [one_mul]
  | succ n ih =>
    show pwn (x * y) n * (x * y) = pwn x n * x * (pwn y n * y)
    rw [ih, mul_assoc, mul_assoc, ← mul_assoc (pwn y n), mul_comm (pwn y n), mul_assoc x]
theorem pwn_one (n : Nat) : pwn (1 : F) n = 1 := by
  induction n with
  | zero => rfl
  | succ n ih => show pwn (1 : F) n * 1 = 1; rw [ih, mul_one]
def sumN (f : Nat → F) : Nat → F
  | 0 => 0
  | n + 1 => sumN f n + f n
def bc : Nat → Nat → Nat
  | _, 0 => 1
  | 0, _ + 1 => 0
  | n + 1, k + 1 => bc n k + bc n (k + 1)
end
end Cr
/- The field of numbers a + b w, w^2 = v; powers, the power p. No program here. -/
namespace Cr
open Rg Fd Go.Eng
abbrev F12 := F6 × F6
/-- v. -/
def vv : F6 := ((0 : F2), (1 : F2), (0 : F2))
section
variable {R : Type} [Rg R] (v : R)
end
theorem q_co1 {F : Type} [Rg F] (a b c d v : F) : a * c + v * (b * d) = c * a + v * (d * b) :=
  rid [a, b, c, d, v] ((fun (a b c d v : PE) => (a * c + v * (b * d))) (.v 0) (.v 1) (.v 2) (.v 3) (.v 4)) ((fun (a b c d v : PE) => (c * a + v * (d * b))) (.v 0) (.v 1) (.v 2) (.v 3) (.v 4)) (by kernel_rfl)
theorem q_co2 {F : Type} [Rg F] (a b c d : F) : a * d + b * c = c * b + d * a :=
  rid [a, b, c, d] ((fun (a b c d : PE) => (a * d + b * c)) (.v 0) (.v 1) (.v 2) (.v 3)) ((fun (a b c d : PE) => (c * b + d * a)) (.v 0) (.v 1) (.v 2) (.v 3)) (by kernel_rfl)
theorem q_as1 {F : Type} [Rg F] (a b c d e f v : F) : (a * c + v * (b * d)) * e + v * ((a * d + b * c) * f) = a * (c * e + v * (d * f)) + v * (b * (c * f + d * e)) :=
  rid [a, b, c, d, e, f, v] ((fun (a b c d e f v : PE) => ((a * c + v * (b * d)) * e + v * ((a * d + b * c) * f))) (.v 0) (.v 1) (.v 2) (.v 3) (.v 4) (.v 5) (.v 6)) ((fun (a b c d e f v : PE) => (a * (c * e + v * (d * f)) + v * (b * (c * f + d * e)))) (.v 0) (.v 1) (.v 2) (.v 3) (.v 4) (.v 5) (.v 6)) (by kernel_rfl)
theorem q_as2 {F : Type} [Rg F] (a b c d e f v : F) : (a * c + v * (b * d)) * f + (a * d + b * c) * e = a * (c * f + d * e) + b * (c * e + v * (d * f)) :=
  rid [a, b, c, d, e, f, v] ((fun (a b c d e f v : PE) => ((a * c + v * (b * d)) * f + (a * d + b * c) * e)) (.v 0) (.v 1) (.v 2) (.v 3) (.v 4) (.v 5) (.v 6)) ((fun (a b c d e f v : PE) => (a * (c * f + d * e) + b * (c * e + v * (d * f)))) (.v 0) (.v 1) (.v 2) (.v 3) (.v 4) (.v 5) (.v 6)) (by kernel_rfl)
theorem q_o1 {F : Type} [Rg F] (a b v : F) : 1 * a + v * (0 * b) = a :=
  rid [a, b, v] ((fun (a b v : PE) => (1 * a + v * (0 * b))) (.v 0) (.v 1) (.v 2)) ((fun (a b v : PE) => (a)) (.v 0) (.v 1) (.v 2)) (by kernel_rfl)
theorem q_o2 {F : Type} [Rg F] (a b : F) : 1 * b + 0 * a = b :=
  rid [a, b] ((fun (a b : PE) => (1 * b + 0 * a)) (.v 0) (.v 1)) ((fun (a b : PE) => (b)) (.v 0) (.v 1)) (by kernel_rfl)
theorem q_d1 {F : Type} [Rg F] (a b c d e f v : F) : (a + c) * e + v * ((b + d) * f) = a * e + v * (b * f) + (c * e + v * (d * f)) :=
  rid [a, b, c, d, e, f, v] ((fun (a b c d e f v : PE) => ((a + c) * e + v * ((b + d) * f))) (.v 0) (.v 1) (.v 2) (.v 3) (.v 4) (.v 5) (.v 6)) ((fun (a b c d e f v : PE) => (a * e + v * (b * f) + (c * e + v * (d * f)))) (.v 0) (.v 1) (.v 2) (.v 3) (.v 4) (.v 5) (.v 6)) (by kernel_rfl)
theorem q_d2 {F : Type} [Rg F] (a b c d e f : F) : (a + c) * f + (b + d) * e = a * f + b * e + (c * f + d * e) :=
  rid [a, b, c, d, e, f] ((fun (a b c d e f : PE) => ((a + c) * f + (b + d) * e)) (.v 0) (.v 1) (.v 2) (.v 3) (.v 4) (.v 5)) ((fun (a b c d e f : PE) => (a * f + b * e + (c * f + d * e))) (.v 0) (.v 1) (.v 2) (.v 3) (.v 4) (.v 5)) (by kernel_rfl)
section
variable {R : Type} [Rg R] (v : R)
noncomputable def qadd (x y : R × R) : R × R := opq (x.1 + y.1, x.2 + y.2)
noncomputable def qsub (x y : R × R) : R × R := opq (x.1 - y.1, x.2 - y.2)
noncomputable def qneg (x : R × R) : R × R := opq (-x.1, -x.2)
noncomputable def qmul (x y : R × R) : R × R := opq (x.1 * y.1 + v * (x.2 * y.2), x.1 * y.2 + x.2 * y.1)
theorem qadd_def (x y : R × R) : qadd x y = (x.1 + y.1, x.2 + y.2) := opq_eq _
theorem qsub_def (x y : R × R) : qsub x y = (x.1 - y.1, x.2 - y.2) := opq_eq _
theorem qneg_def (x : R × R) : qneg x = (-x.1, -x.2) := opq_eq _
theorem qmul_def (x y : R × R) : qmul v x y = (x.1 * y.1 + v * (x.2 * y.2), x.1 * y.2 + x.2 * y.1) := opq_eq _
theorem q_l1 (a b : R × R) : qadd a b = qadd b a := by rw [qadd_def, qadd_def, add_comm, add_comm a.2]
theorem q_l2 (a b c : R × R) : qadd (qadd a b) c = qadd a (qadd b c) := by rw [qadd_def, qadd_def, qadd_def, qadd_def, add_assoc, add_assoc]
theorem q_l3 (a : R × R) : qadd (0, 0) a = a := by rw [qadd_def, zero_add, zero_add]
theorem q_l4 (a : R × R) : qadd (qneg a) a = (0, 0) := by rw [qadd_def, qneg_def, neg_add, neg_add]
theorem q_l5 (a b : R × R) : qsub a b = qadd a (qneg b) := by rw [qadd_def, qneg_def, qsub_def, Rg.sub_def, Rg.sub_def]
theorem q_l6 (a b : R × R) : qmul v a b = qmul v b a := by rw [qmul_def, qmul_def]; exact Prod.ext (q_co1 a.1 a.2 b.1 b.2 v) (q_co2 a.1 a.2 b.1 b.2)
theorem q_l7 (a b c : R × R) : qmul v (qmul v a b) c = qmul v a (qmul v b c) := by rw [qmul_def, qmul_def, qmul_def, qmul_def]; exact Prod.ext (q_as1 a.1 a.2 b.1 b.2 c.1 c.2 v) (q_as2 a.1 a.2 b.1 b.2 c.1 c.2 v)
theorem q_l8 (a : R × R) : qmul v (1, 0) a = a := by rw [qmul_def]; exact Prod.ext (q_o1 a.1 a.2 v) (q_o2 a.1 a.2)
theorem q_l9 (a b c : R × R) : qmul v (qadd a b) c = qadd (qmul v a c) (qmul v b c) := by rw [qadd_def, qmul_def, qmul_def, qmul_def, qadd_def]; exact Prod.ext (q_d1 a.1 a.2 b.1 b.2 c.1 c.2 v) (q_d2 a.1 a.2 b.1 b.2 c.1 c.2)
end
noncomputable instance rgF12 : Rg F12 where
  zero := (0, 0)
  one := (1, 0)
  add := qadd
  sub := qsub
  neg := qneg
  mul := qmul vv
  add_comm := q_l1
  add_assoc := q_l2
  zero_add := q_l3
  neg_add := q_l4
  sub_def := q_l5
  mul_comm := q_l6 vv
  mul_assoc := q_l7 vv
  one_mul := q_l8 vv
  add_mul := q_l9 vv
theorem F12.ext {x y : F12} (h1 : x.1 = y.1) (h2 : x.2 = y.2) : x = y := Prod.ext h1 h2
theorem F12.add_def (x y : F12) : x + y = (x.1 + y.1, x.2 + y.2) := qadd_def x y
theorem F12.sub_def (x y : F12) : x - y = (x.1 - y.1, x.2 - y.2) := qsub_def x y
theorem F12.neg_def (x : F12) : -x = (-x.1, -x.2) := qneg_def x
theorem F12.mul_def (x y : F12) : x * y = (x.1 * y.1 + vv * (x.2 * y.2), x.1 * y.2 + x.2 * y.1) := qmul_def vv x y
theorem F12.a1 (x y : F12) : (x + y).1 = x.1 + y.1 := by rw [F12.add_def]
theorem F12.a2 (x y : F12) : (x + y).2 = x.2 + y.2 := by rw [F12.add_def]
theorem F12.m1 (x y : F12) : (x * y).1 = x.1 * y.1 + vv * (x.2 * y.2) := by rw [F12.mul_def]
theorem F12.m2 (x y : F12) : (x * y).2 = x.1 * y.2 + x.2 * y.1 := by rw [F12.mul_def]
theorem nm6_sq (t : F6) : nm6 (t * t) = nm6 t * nm6 t := cnm_sq xi t
theorem nm6_vv : nm6 vv = xi := cnm_v xi
theorem vv_sq {t : F6} (h : t * t = vv) : False := by
  have e := congrArg nm6 h
  rw [nm6_sq, nm6_vv] at e
  exact xi_sq e
theorem q_nr {F : Type} [Rg F] (a b j v : F) : (a * j) * (a * j) - v = (j * j) * (a * a - v * (b * b)) + v * ((b * j) * (b * j) - 1) :=
  rid [a, b, j, v] ((fun (a b j v : PE) => ((a * j) * (a * j) - v)) (.v 0) (.v 1) (.v 2) (.v 3)) ((fun (a b j v : PE) => ((j * j) * (a * a - v * (b * b)) + v * ((b * j) * (b * j) - 1))) (.v 0) (.v 1) (.v 2) (.v 3)) (by kernel_rfl)
theorem q_i1 {F : Type} [Rg F] (a b n v : F) : a * (a * n) + v * (b * -(b * n)) = (a * a - v * (b * b)) * n :=
  rid [a, b, n, v] ((fun (a b n v : PE) => (a * (a * n) + v * (b * -(b * n)))) (.v 0) (.v 1) (.v 2) (.v 3)) ((fun (a b n v : PE) => ((a * a - v * (b * b)) * n)) (.v 0) (.v 1) (.v 2) (.v 3)) (by kernel_rfl)
theorem q_i2 {F : Type} [Rg F] (a b n : F) : a * -(b * n) + b * (a * n) = 0 :=
  rid [a, b, n] ((fun (a b n : PE) => (a * -(b * n) + b * (a * n))) (.v 0) (.v 1) (.v 2)) ((fun (a b n : PE) => (0)) (.v 0) (.v 1) (.v 2)) (by kernel_rfl)
section
variable {R : Type} [Fd R] (v : R)
theorem qnm_ne (hv : ∀ t : R, t * t = v → False) {x : R × R} (h : x ≠ (0, 0)) : x.1 * x.1 - v * (x.2 * x.2) ≠ 0 := by
  intro e
  by_cases hb : x.2 = 0
  · rw [hb, mul_zero, mul_zero, Rg.sub_def, neg_zero, add_zero] at e
    have ha : x.1 = 0 := by rcases mul_eq_zero e with e | e <;> exact e
    exact h (Prod.ext ha hb)
  · have hi := mul_inv x.2 hb
    refine hv (x.1 * inv x.2) (eq_of_sub ?_)
    have k := q_nr x.1 x.2 (inv x.2) v
    rw [e, hi, one_mul, sub_self, mul_zero, mul_zero, zero_add] at k
    exact k
noncomputable def qinv (x : R × R) : R × R := opq (x.1 * inv (x.1 * x.1 - v * (x.2 * x.2)), -(x.2 * inv (x.1 * x.1 - v * (x.2 * x.2))))
theorem qinv_def (x : R × R) : qinv v x = (x.1 * inv (x.1 * x.1 - v * (x.2 * x.2)), -(x.2 * inv (x.1 * x.1 - v * (x.2 * x.2)))) := opq_eq _
theorem qinv_mul (hv : ∀ t : R, t * t = v → False) {x : R × R} (h : x ≠ (0, 0)) : qmul v x (qinv v x) = (1, 0) := by
  have hn := mul_inv _ (qnm_ne v hv h)
  rw [qmul_def, qinv_def]
  exact Prod.ext ((q_i1 _ _ _ _).trans hn) (q_i2 _ _ _)
end
noncomputable abbrev inv12 (t : F12) : F12 := qinv vv t
noncomputable instance fdF12 : Fd F12 where
  deq := inferInstanceAs (DecidableEq (F6 × F6))
  inv := inv12
  mul_inv _ h := qinv_mul vv (fun _ e => vv_sq e) h
  one_ne := fun h => absurd (congrArg Prod.fst h) one_ne
  two_ne := fun h => absurd (congrArg Prod.fst h) (by rw [F12.add_def]; exact two_ne)
  three_ne := fun h => absurd (congrArg Prod.fst h) (by rw [F12.add_def, F12.add_def]; exact three_ne)
end Cr
/- What tower's functions compute, plainly. No program here. -/
namespace Cr
open Rg Fd
theorem zero_sub' {R : Type} [Rg R] (b : R) : 0 - b = -b := by rw [Rg.sub_def, zero_add]
end Cr
/- The power p in the fields of p^2 and of p^12. No program here. -/
namespace Cr
open Rg Fd Go.Eng
theorem neg_z {F : Type} [Rg F] : (-0 : F) = 0 := by have h := Rg.neg_add (0 : F); rwa [add_zero] at h
theorem sub_z {F : Type} [Rg F] (x : F) : x - 0 = x := by rw [Rg.sub_def, neg_z, add_zero]
theorem zpow_pwn {M : Int} [Md M] (x : Zm M) : ∀ n, zpow x n = pwn x n
  | 0 => rfl
  | n + 1 => by show zpow x n * x = pwn x n * x; rw [zpow_pwn x n]
theorem pw_2 (a : Fp) : ∀ n, pwn ((a, 0) : F2) n = (pwn a n, 0)
  | 0 => rfl
  | n + 1 => by
    show pwn ((a, 0) : F2) n * (a, 0) = (pwn a n * a, 0)
    rw [pw_2 a n, F2.mul_def]
    refine F2.ext ?_ ?_
    · show pwn a n * a - 0 * 0 = _
      rw [zero_mul, sub_z]
    · show pwn a n * 0 + 0 * a = 0
      rw [mul_zero, zero_mul, zero_add]
def ii : F2 := ((0 : Fp), (1 : Fp))
theorem ii_sq : ii * ii = (-1 : F2) := by
  rw [F2.mul_def, F2.neg_def]
  refine F2.ext ?_ ?_
  · show (0 : Fp) * 0 - 1 * 1 = -1
    rw [zero_mul, one_mul, Rg.sub_def, zero_add]
  · show (0 : Fp) * 1 + 1 * 0 = -0
    rw [zero_mul, mul_zero, zero_add]
    exact Zm.ext (of_decide_eq_true (by kernel_rfl))
end Cr
/- The power p in the field of p^12. No program here. -/
namespace Cr
open Rg Fd Go.Eng
/-- A number of the field of p^2 in that of p^12. -/
def e2 (c : F2) : F12 := ((c, (0 : F2), (0 : F2)), (0 : F2), (0 : F2), (0 : F2))
def e6 (c : F2) : F6 := (c, (0 : F2), (0 : F2))
def ww : F12 := (((0 : F2), (0 : F2), (0 : F2)), (1 : F2), (0 : F2), (0 : F2))
def cjg (x : F2) : F2 := (x.1, -x.2)
theorem xi_two : xi * xi = (((1 : Fp) + 1, (0 : Fp)) : F2) * ii := by
  rw [F2.mul_def, F2.mul_def]
  refine F2.ext ?_ ?_
  · show (1 : Fp) * 1 - 1 * 1 = (1 + 1) * 0 - 0 * 1
    rw [mul_zero, one_mul, zero_mul, sub_z, Rg.sub_def, add_comm, Rg.neg_add]
  · show (1 : Fp) * 1 + 1 * 1 = (1 + 1) * 1 + 0 * 0
    rw [mul_one, mul_one, mul_zero, add_zero]
theorem xi_pw {q m t : Nat} (hq : q = 2 * m + 1) (hm : m = 2 * (2 * t) + 2 + 1) : pwn xi q = (pwn ((1 : Fp) + 1) m, -pwn ((1 : Fp) + 1) m) := by
  have h2 : pwn ii 2 = (-1 : F2) := by show 1 * ii * ii = _; rw [one_mul, ii_sq]
  have h3 : pwn (-1 : F2) 2 = 1 := by show 1 * (-1 : F2) * -1 = 1; rw [one_mul, neg_mul, one_mul, neg_neg]
  have h4 : pwn ii (2 * (2 * t)) = 1 := by rw [pwn_mul, h2, pwn_mul, h3, pwn_one]
  have h5 : pwn ii m = -ii := by
    rw [hm]; show pwn ii (2 * (2 * t) + 2) * ii = _
    rw [pwn_add, h4, h2, one_mul, neg_mul, one_mul]
  have h6 : pwn xi 2 = (((1 : Fp) + 1, (0 : Fp)) : F2) * ii := by show 1 * xi * xi = _; rw [one_mul, xi_two]
  rw [hq]
  show pwn xi (2 * m) * xi = _
  rw [pwn_mul, h6, pwn_prod, pw_2, h5, F2.neg_def, F2.mul_def, F2.mul_def]
  obtain ⟨u, hu⟩ : ∃ u, u = pwn ((1 : Fp) + 1) m := ⟨_, rfl⟩
  rw [← hu]
  refine F2.ext ?_ ?_
  · show (u * -0 - 0 * -1) * 1 - (u * -1 + 0 * -0) * 1 = u
    rw [neg_z, mul_zero, zero_mul, mul_zero, sub_z, add_zero, mul_one, mul_one, mul_comm, neg_mul, one_mul, Rg.sub_def, zero_add, neg_neg]
  · show (u * -0 - 0 * -1) * 1 + (u * -1 + 0 * -0) * 1 = -u
    rw [neg_z, mul_zero, zero_mul, mul_zero, sub_z, add_zero, mul_one, mul_one, mul_comm, neg_mul, one_mul, zero_add]
end Cr
/- The power p^12 - 1 is one. No program here. -/
namespace Cr
open Rg Fd Go.Eng
end Cr
/- The second generator's order, by computation. No program here. -/
namespace Cr
open Rg Fd
def addN2 (a b : Nat) : Nat := (a + b) % pN
def subN2 (a b : Nat) : Nat := (a + (pN - b % pN)) % pN
theorem addN2_φ (a b : Nat) : (zm ((addN2 a b : Nat) : Int) : Fp) = zm (a : Int) + zm (b : Int) := evP1.add_φ a b
theorem subN2_φ (a b : Nat) : (zm ((subN2 a b : Nat) : Int) : Fp) = zm (a : Int) - zm (b : Int) := evP1.sub_φ a b
noncomputable def evP2 : Ev F2 where
  V := Nat × Nat
  φ n := (zm (n.1 : Int), zm (n.2 : Int))
  add a b := (addN2 a.1 b.1, addN2 a.2 b.2)
  sub a b := (subN2 a.1 b.1, subN2 a.2 b.2)
  mul a b := (subN2 (a.1 * b.1) (a.2 * b.2), addN2 (a.1 * b.2) (a.2 * b.1))
  isz a := Nat.beq (a.1 % pN) 0 && Nat.beq (a.2 % pN) 0
  zero := (0, 0)
  force a k := fc a.1 fun x => fc a.2 fun y => k (x, y)
  add_φ a b := by rw [F2.add_def, addN2_φ, addN2_φ]
  sub_φ a b := by rw [F2.sub_def, subN2_φ, subN2_φ]
  mul_φ a b := by
    rw [F2.mul_def, addN2_φ, subN2_φ]
    simp only [Int.natCast_mul, ← zm_mul]
  isz_φ a := by
    rw [Bool.and_eq_true]
    have h1 := evP1.isz_φ a.1
    have h2 := evP1.isz_φ a.2
    constructor
    · rintro ⟨e1, e2⟩
      exact F2.ext (h1.1 e1) (h2.1 e2)
    · intro e
      exact ⟨h1.2 (congrArg Prod.fst e), h2.2 (congrArg Prod.snd e)⟩
  zero_φ := rfl
  force_eq a k := by rw [fc_eq, fc_eq]
end Cr
/- The field of p^12 by natural numbers. No program here. -/
namespace Cr
open Rg Fd Go.Eng
abbrev V2 := Nat × Nat
abbrev V6 := V2 × V2 × V2
noncomputable def q2 (a : V2) : F2 := evP2.φ a
def fo2 {α : Type} (a : V2) (k : V2 → α) : α := fc a.1 fun x => fc a.2 fun y => k (x, y)
theorem fo2_eq {α : Type} (a : V2) (k : V2 → α) : fo2 a k = k a := by rw [fo2, fc_eq, fc_eq]
def fo6 {α : Type} (a : V6) (k : V6 → α) : α := fo2 a.1 fun x => fo2 a.2.1 fun y => fo2 a.2.2 fun z => k (x, y, z)
theorem fo6_eq {α : Type} (a : V6) (k : V6 → α) : fo6 a k = k a := by rw [fo6, fo2_eq, fo2_eq, fo2_eq]
def vadd (a b : V2) : V2 := (addN2 a.1 b.1, addN2 a.2 b.2)
def vsub (a b : V2) : V2 := (subN2 a.1 b.1, subN2 a.2 b.2)
def vmul (a b : V2) : V2 := (subN2 (a.1 * b.1) (a.2 * b.2), addN2 (a.1 * b.2) (a.2 * b.1))
def vneg (a : V2) : V2 := vsub (0, 0) a
def vcj (a : V2) : V2 := (a.1, subN2 0 a.2)
theorem q2_add (a b : V2) : q2 (vadd a b) = q2 a + q2 b := evP2.add_φ a b
theorem q2_sub (a b : V2) : q2 (vsub a b) = q2 a - q2 b := evP2.sub_φ a b
theorem q2_mul (a b : V2) : q2 (vmul a b) = q2 a * q2 b := evP2.mul_φ a b
theorem q2_zero : q2 (0, 0) = 0 := rfl
theorem q2_neg (a : V2) : q2 (vneg a) = -q2 a := by rw [vneg, q2_sub, q2_zero, zero_sub']
theorem q2_cj (a : V2) : q2 (vcj a) = ((q2 a).1, -(q2 a).2) := by
  refine F2.ext rfl ?_
  show (zm ((subN2 0 a.2 : Nat) : Int) : Fp) = -zm (a.2 : Int)
  rw [subN2_φ]
  show (0 : Fp) - _ = _
  rw [zero_sub']
end Cr
/- Lines laid over one another: a cocycle; the reciprocity of two lines. No program here. -/
namespace Cr
open Rg Fd

section
variable {F : Type} [Fd F] {b : F}
/-- A line's function at a point. -/
def lv (A : F × F) (l : F) (R : F × F) : F := R.2 - (A.2 + l * (R.1 - A.1))
variable (hb : b ≠ 0)
include hb
/-- The third sums make one function. -/
theorem fn_same {xP yP xQ yQ xR yR l m u v l' m' : F} (oP : On b xP yP) (oR : On b xR yR) (hl : Ln xP yP xQ yQ l) (hm : Ln (sx xP xQ l) (sy xP yP xQ l) xR yR m)
    (T2 : xP + xQ + (u + l' * m') = (l' + m') * l) (f2P : fn u v l' m' xP yP = 0) (f2R : fn u v l' m' xR yR = 0) (h1 : xR ≠ xP) (h2 : xR ≠ xQ) (x y : F) :
    fn (sx xP xQ l) (sy xP yP xQ l) l m x y = fn u v l' m' x y := by
  have f1P : fn (sx xP xQ l) (sy xP yP xQ l) l m xP yP = 0 := fn1 hl.third
  have f1R : fn (sx xP xQ l) (sy xP yP xQ l) l m xR yR = 0 := fn2 hm
  have T1 : xP + xQ + (sx xP xQ l + l * m) = (l + m) * l := i_T1 xP xQ l m
  have hne : yR ≠ yP + l * (xR - xP) := by
    intro hy
    rcases hl.which oP oR hy with e | e | e
    · exact h1 e
    · exact h2 e
    · refine hm.not_neg hb (hl.sum_on oP) ⟨e.symm, ?_⟩
      unfold sy
      rw [neg_neg, ← e]
      exact hy
  obtain ⟨e1, e2, e3⟩ := same f1P f1R f2P f2R T1 T2 hne
  unfold fn
  rw [e1, e2, e3]
end

section
variable {F : Type} [Fd F] {b : F}
/-- The vertical through a point. -/
noncomputable def Vt (A R : F × F) : F := if A = O2 then 1 else R.1 - A.1
/-- The line through two points. -/
noncomputable def Lt (A B R : F × F) : F := if A = O2 then Vt B R else if B = O2 then Vt A R else if A.1 = B.1 ∧ B.2 = -A.2 then R.1 - A.1 else lv A (slope A.1 A.2 B.1 B.2) R
variable (hb : b ≠ 0)
include hb
end
end Cr
/- The Miller loop: additive on either side, but for what a last power makes 1. No program here. -/
namespace Cr
open Rg Fd

section
variable {F : Type} [Fd F] {b : F}
instance mulAssoc : Std.Associative (α := F) (fun x y => x * y) := ⟨mul_assoc⟩
instance mulComm : Std.Commutative (α := F) (fun x y => x * y) := ⟨mul_comm⟩
/-- What a last power is. -/
structure Kill (F : Type) [Fd F] where
  χ : F → F
  mul : ∀ x y, χ (x * y) = χ x * χ y
  one : χ 1 = 1
  neg : χ (-1) = 1
noncomputable def mlS (Q R : F × F) (s : F × (F × F)) : Bool → F × (F × F)
  | false => (s.1 * s.1 * Lt s.2 s.2 R, padd s.2 s.2)
  | true => (s.1 * s.1 * Lt s.2 s.2 R * Lt (padd s.2 s.2) Q R, padd (padd s.2 s.2) Q)
/-- Lines laid over one another, bit by bit. -/
noncomputable def ml (Q R : F × F) (l : List Bool) : F × (F × F) := l.foldl (mlS Q R) (1, Q)
variable (K : Kill F)
/-- Points whose verticals are killed. -/
structure Grp (b : F) (K : Kill F) (R : F × F) (S : F × F → Prop) : Prop where
  on : ∀ A, S A → OnP b A
  add : ∀ A B, S A → S B → S (padd A B)
  vt : ∀ A, S A → K.χ (Vt A R) = 1
variable {R : F × F} {S : F × F → Prop} (hb : b ≠ 0) (oR : OnF b R) (g : Grp b K R S)
include hb
include oR g
end

section
variable {F : Type} [Fd F] {b : F} (K : Kill F)
variable (hb : b ≠ 0)
include hb
/-- Points of two kinds, which see each other by verticals that are killed. -/
structure Two (b : F) (K : Kill F) (S T : F × F → Prop) : Prop where
  onS : ∀ A, S A → OnP b A
  addS : ∀ A B, S A → S B → S (padd A B)
  onT : ∀ A, T A → OnP b A
  addT : ∀ A B, T A → T B → T (padd A B)
  vt : ∀ A R, S A → T R → A ≠ O2 → R ≠ O2 → K.χ (R.1 - A.1) = 1
variable {S T : F × F → Prop} (g : Two b K S T)
include g
end
end Cr
/- Points of a curve, carried by a map of fields and a scale. No program here. -/
namespace Cr
open Rg Fd

theorem u_on {F : Type} [Rg F] (x y b u : F) : y * (u * u * u) * (y * (u * u * u)) - (x * (u * u) * (x * (u * u)) * (x * (u * u)) + b * (u * u * u * (u * u * u))) = (u * u * u * (u * u * u)) * (y * y - (x * x * x + b)) :=
  rid [x, y, b, u] ((fun (x y b u : PE) => (y * (u * u * u) * (y * (u * u * u)) - (x * (u * u) * (x * (u * u)) * (x * (u * u)) + b * (u * u * u * (u * u * u))))) (.v 0) (.v 1) (.v 2) (.v 3)) ((fun (x y b u : PE) => ((u * u * u * (u * u * u)) * (y * y - (x * x * x + b)))) (.v 0) (.v 1) (.v 2) (.v 3)) (by kernel_rfl)
theorem u_l1 {F : Type} [Rg F] (x1 y1 x2 y2 l u : F) : l * u * (x2 * (u * u) - x1 * (u * u)) - (y2 * (u * u * u) - y1 * (u * u * u)) = (u * u * u) * (l * (x2 - x1) - (y2 - y1)) :=
  rid [x1, y1, x2, y2, l, u] ((fun (x1 y1 x2 y2 l u : PE) => (l * u * (x2 * (u * u) - x1 * (u * u)) - (y2 * (u * u * u) - y1 * (u * u * u)))) (.v 0) (.v 1) (.v 2) (.v 3) (.v 4) (.v 5)) ((fun (x1 y1 x2 y2 l u : PE) => ((u * u * u) * (l * (x2 - x1) - (y2 - y1)))) (.v 0) (.v 1) (.v 2) (.v 3) (.v 4) (.v 5)) (by kernel_rfl)
theorem u_l2 {F : Type} [Rg F] (x1 y1 x2 y2 l u : F) : l * u * (y1 * (u * u * u) + y2 * (u * u * u)) - (x1 * (u * u) * (x1 * (u * u)) + x1 * (u * u) * (x2 * (u * u)) + x2 * (u * u) * (x2 * (u * u))) = (u * u * u * u) * (l * (y1 + y2) - (x1 * x1 + x1 * x2 + x2 * x2)) :=
  rid [x1, y1, x2, y2, l, u] ((fun (x1 y1 x2 y2 l u : PE) => (l * u * (y1 * (u * u * u) + y2 * (u * u * u)) - (x1 * (u * u) * (x1 * (u * u)) + x1 * (u * u) * (x2 * (u * u)) + x2 * (u * u) * (x2 * (u * u))))) (.v 0) (.v 1) (.v 2) (.v 3) (.v 4) (.v 5)) ((fun (x1 y1 x2 y2 l u : PE) => ((u * u * u * u) * (l * (y1 + y2) - (x1 * x1 + x1 * x2 + x2 * x2)))) (.v 0) (.v 1) (.v 2) (.v 3) (.v 4) (.v 5)) (by kernel_rfl)
theorem u_sx {F : Type} [Rg F] (x1 x2 l u : F) : l * u * (l * u) - x1 * (u * u) - x2 * (u * u) = (l * l - x1 - x2) * (u * u) :=
  rid [x1, x2, l, u] ((fun (x1 x2 l u : PE) => (l * u * (l * u) - x1 * (u * u) - x2 * (u * u))) (.v 0) (.v 1) (.v 2) (.v 3)) ((fun (x1 x2 l u : PE) => ((l * l - x1 - x2) * (u * u))) (.v 0) (.v 1) (.v 2) (.v 3)) (by kernel_rfl)
theorem u_sy {F : Type} [Rg F] (x1 y1 s l u : F) : -(y1 * (u * u * u) + l * u * (s * (u * u) - x1 * (u * u))) = -(y1 + l * (s - x1)) * (u * u * u) :=
  rid [x1, y1, s, l, u] ((fun (x1 y1 s l u : PE) => (-(y1 * (u * u * u) + l * u * (s * (u * u) - x1 * (u * u))))) (.v 0) (.v 1) (.v 2) (.v 3) (.v 4)) ((fun (x1 y1 s l u : PE) => (-(y1 + l * (s - x1)) * (u * u * u))) (.v 0) (.v 1) (.v 2) (.v 3) (.v 4)) (by kernel_rfl)
theorem u_ng {F : Type} [Rg F] (y u : F) : -y * (u * u * u) = -(y * (u * u * u)) :=
  rid [y, u] ((fun (y u : PE) => (-y * (u * u * u))) (.v 0) (.v 1)) ((fun (y u : PE) => (-(y * (u * u * u)))) (.v 0) (.v 1)) (by kernel_rfl)
section
variable {F G : Type} [Fd F] [Fd G]
/-- A map of fields. -/
structure Hm (f : F → G) : Prop where
  add : ∀ x y, f (x + y) = f x + f y
  mul : ∀ x y, f (x * y) = f x * f y
  neg : ∀ x, f (-x) = -f x
  one : f 1 = 1
  inj : ∀ x, f x = 0 → x = 0
variable {f : F → G} (H : Hm f)
include H
theorem Hm.zero : f 0 = 0 := by
  have h := H.add 0 0
  rw [add_zero] at h
  have h2 : f 0 + f 0 = f 0 + 0 := by rw [add_zero]; exact h.symm
  exact add_left h2
theorem Hm.sub (x y : F) : f (x - y) = f x - f y := by rw [Rg.sub_def, Rg.sub_def, H.add, H.neg]
theorem Hm.eq {x y : F} (h : f x = f y) : x = y := eq_of_sub (H.inj _ (by rw [H.sub, h, sub_self]))
omit H in
def tws (f : F → G) (u : G) (A : F × F) : G × G := (f A.1 * (u * u), f A.2 * (u * u * u))
variable {u : G}
theorem tws_O : tws f u O2 = O2 := by
  show (f 0 * (u * u), f 0 * (u * u * u)) = _
  rw [H.zero, zero_mul, zero_mul]
theorem tws_neg (A : F × F) : tws f u (pneg A) = pneg (tws f u A) := by
  show (f A.1 * (u * u), f (-A.2) * (u * u * u)) = (f A.1 * (u * u), -(f A.2 * (u * u * u)))
  rw [H.neg, u_ng]
variable {b : F} {b' : G} (eb : b' = f b * (u * u * u * (u * u * u)))
include eb
theorem tws_on {A : F × F} (h : OnF b A) : OnF b' (tws f u A) := by
  have h1 : A.2 * A.2 = A.1 * A.1 * A.1 + b := h
  have h2 := congrArg f h1
  rw [H.mul, H.add, H.mul, H.mul] at h2
  show f A.2 * (u * u * u) * (f A.2 * (u * u * u)) = f A.1 * (u * u) * (f A.1 * (u * u)) * (f A.1 * (u * u)) + b'
  rw [eb]
  exact lc1 _ (u_on _ _ _ _) h2
theorem tws_onP {A : F × F} (h : OnP b A) : OnP b' (tws f u A) := by
  rcases h with rfl | h
  · exact .inl (tws_O H)
  · exact .inr (tws_on H eb h)
omit eb in
theorem tws_ln {A B : F × F} {l : F} (h : LnP A B l) : LnP (tws f u A) (tws f u B) (f l * u) := by
  have h1 := congrArg f h.1
  have h2 := congrArg f h.2
  rw [H.mul, H.sub, H.sub] at h1
  rw [H.mul, H.add, H.add, H.add, H.mul, H.mul, H.mul] at h2
  exact ⟨lc1 _ (u_l1 _ _ _ _ _ _) h1, lc1 _ (u_l2 _ _ _ _ _ _) h2⟩
variable (hb : b ≠ 0) (hb' : b' ≠ 0)
include hb hb'
theorem tws_add {A B : F × F} (oA : OnP b A) (oB : OnP b B) : tws f u (padd A B) = padd (tws f u A) (tws f u B) := by
  rcases oA with rfl | oA
  · rw [tws_O H, O_add, O_add]
  rcases oB with rfl | oB
  · rw [tws_O H, add_O, add_O]
  rcases ln_or oA oB with rfl | ⟨l, h⟩
  · rw [tws_neg H, add_neg_self, add_neg_self, tws_O H]
  · rw [padd_ln hb oA oB h, padd_ln hb' (tws_on H eb oA) (tws_on H eb oB) (tws_ln H h)]
    have e1 : f (sx A.1 B.1 l) * (u * u) = sx (f A.1 * (u * u)) (f B.1 * (u * u)) (f l * u) := by
      show f (l * l - A.1 - B.1) * (u * u) = f l * u * (f l * u) - f A.1 * (u * u) - f B.1 * (u * u)
      rw [H.sub, H.sub, H.mul]; exact (u_sx _ _ _ _).symm
    refine Prod.ext e1 ?_
    show f (-(A.2 + l * (sx A.1 B.1 l - A.1))) * (u * u * u) = -(f A.2 * (u * u * u) + f l * u * (sx (f A.1 * (u * u)) (f B.1 * (u * u)) (f l * u) - f A.1 * (u * u)))
    rw [← e1, H.neg, H.add, H.mul, H.sub]; exact (u_sy _ _ _ _ _).symm
end

section
variable {F G : Type} [Fd F] [Fd G] {f : F → G} (H : Hm f) {b : F} {b' : G} (eb : b' = f b) (hb : b ≠ 0) (hb' : b' ≠ 0)
def hmp (f : F → G) (A : F × F) : G × G := (f A.1, f A.2)
include H in
include H eb in
include H eb in
include H in
include H in
include H eb hb hb'
end
end Cr
/- The second group's curve: all its points, by two of them. No program here. -/
namespace Cr
set_option maxRecDepth 100000
open Rg Fd Go.Eng
def tb : F2 := (zm 4, zm 4)
theorem tb_ne : tb ≠ 0 := fun h => absurd (congrArg Prod.fst h) (by decide)
/-- A place's number, to the base 10. -/
def kN : Nat := 179184598021607201395328336867808778623227034365729160298681049842686063338121018147455353735441364525843719707164066765927216767229676667218777623574602578604133367281659313250333219842201540931831568844813240003724377679117
def hN : Nat := 209869847837335686905080341498658477663839067235703451875306851526599783796572738804459333109033834234622528588876978987822447936461846631641690358257586228683615991308971558879306463436166481
def p1x : V2 := (2, 0)
def p1y : V2 := (188995492400578496451910581292546059920654572609832469388872107051048741028892423057992033888655218419282460458611, 434381874456081807472298918693162486998243066160460423017297172308631992219110538691921044767658182807847155297615)
def p2x : V2 := (3502097864753066570550148371418669739303915645354957993882158272604968504426138630742300340054213004101649122574995, 3191109489096775307193507002606793236600709294888301722308519387708220704158284978609877783087598478210803037831895)
def p2y : V2 := (1120128434309428118703815378359973697067986923993178994101501066809893730950108659182691351312157851099523537033621, 3284094733358660625011281814609151989521685951164705617572026484241640633985466418925372124277545495873312627274873)
def irv : V2 := (877076961050607968509681729531255177986764537961432449499635504522207616027455086505066378536590128544573588734230, 877076961050607968509681729531255177986764537961432449499635504522207616027455086505066378536590128544573588734230)
abbrev J3 := V2 × V2 × V2
def jp (x y : V2) : J3 := (x, y, ((1 : Nat), (0 : Nat)))
noncomputable def j3 (t : J3) : F2 × F2 × F2 := evP2.φ3 t
def onc (x y : V2) : Bool := Nat.beq (vsub (vmul y y) (vadd (vmul (vmul x x) x) (4, 4))).1 0 && Nat.beq (vsub (vmul y y) (vadd (vmul (vmul x x) x) (4, 4))).2 0
theorem onc_ok {x y : V2} (h : onc x y = true) : OnF tb (q2 x, q2 y) := by
  unfold onc at h
  rw [Bool.and_eq_true] at h
  have h1 : q2 (vsub (vmul y y) (vadd (vmul (vmul x x) x) (4, 4))) = 0 := by
    refine (evP2.isz_φ _).1 ?_
    show (Nat.beq (_ % pN) 0 && Nat.beq (_ % pN) 0) = true
    rw [Nat.eq_of_beq_eq_true h.1, Nat.eq_of_beq_eq_true h.2]; rfl
  rw [q2_sub, q2_add, q2_mul, q2_mul, q2_mul] at h1
  exact eq_of_sub h1
theorem jp_rep {x y : V2} (h : OnF tb (q2 x, q2 y)) : Rep tb (j3 (jp x y)) (q2 x, q2 y) :=
  .inr ⟨one_ne, by show q2 x = q2 x * (1 * 1); rw [mul_one, mul_one], by show q2 y = q2 y * (1 * (1 * 1)); rw [mul_one, mul_one, mul_one], h⟩
theorem rep_z {t : J3} {P : F2 × F2} (h : Rep tb (j3 t) P) : evP2.isz t.2.2 = true ↔ P = O2 := by
  have hi := evP2.isz_φ t.2.2
  rcases h with ⟨h1, h2⟩ | ⟨h1, _, _, h2⟩
  · exact ⟨fun _ => h2, fun _ => hi.2 h1⟩
  · exact ⟨fun e => absurd (hi.1 e) h1, fun e => absurd e (on_ne tb_ne h2)⟩
noncomputable def T1 : F2 × F2 := (q2 p1x, q2 p1y)
noncomputable def T2 : F2 × F2 := (q2 p2x, q2 p2y)
def o1 : J3 := jp p1x p1y
def o2 : J3 := jp p2x p2y
theorem T1_on : OnF tb T1 := onc_ok (by kernel_rfl)
theorem T2_on : OnF tb T2 := onc_ok (by kernel_rfl)
theorem T1_rep : Rep tb (j3 o1) T1 := jp_rep T1_on
theorem T2_rep : Rep tb (j3 o2) T2 := jp_rep T2_on
noncomputable def mj (o : J3) (n : Nat) : J3 := evP2.mul2 o 760 n
theorem mj_rep {o : J3} {P : F2 × F2} (h : Rep tb (j3 o) P) {n : Nat} (hn : n < 2 ^ 760) : Rep tb (j3 (mj o n)) (nmul P n) := Ev.mul2_rep tb_ne h 760 n hn
theorem k_z1 : evP2.isz (mj o1 (kN * 299)).2.2 = true := by kernel_rfl
theorem k_z2 : evP2.isz (mj o2 299).2.2 = true := by kernel_rfl
theorem T1_k : nmul T1 (kN * 299) = O2 := (rep_z (mj_rep T1_rep (of_decide_eq_true (by kernel_rfl)))).1 k_z1
theorem T2_k : nmul T2 299 = O2 := (rep_z (mj_rep T2_rep (of_decide_eq_true (by kernel_rfl)))).1 k_z2
theorem nz_of {o : J3} {P : F2 × F2} (h : Rep tb (j3 o) P) {n : Nat} (hn : n < 2 ^ 760) (hz : evP2.isz (mj o n).2.2 = false) : nmul P n ≠ O2 := fun e => by
  have := (rep_z (mj_rep h hn)).2 e
  rw [hz] at this; cases this
theorem z_0 : evP2.isz (mj o1 19747952380560469302323322050672622487410572530539262414045570918895367835642530197600129291152586801779311534258037583122830008625755003132478624935055720974064090238561052215941626514123944245712362360707393572102318070791).2.2 = false := by kernel_rfl
theorem z_1 : evP2.isz (mj o1 4482238334180586732803745731069591299953558376587720148021888555422331878030468035312402808240355391385198041700163637832530562486545078515721116828311400569115358221134119857931032605439493076099526402124919163483107916511).2.2 = false := by kernel_rfl
theorem z_2 : evP2.isz (mj o1 204435453290776677963449216517309658175308347325906608295165143160629959812485202088339905776329775720238838597629082276088502697387609078137492452174069313816727185654221348812143491724768136401549359461054755660202423507).2.2 = false := by kernel_rfl
theorem z_3 : evP2.isz (mj o1 133242285665808607076488378322626308017882680317454143660064485930450545651671235455237836767).2.2 = false := by kernel_rfl
theorem z_4 : evP2.isz (mj o1 1021746936224977739802674759843215733158749228274876731329980043418955197936360816142165308893846079758636364010172630974200012787218635773765140678191).2.2 = false := by kernel_rfl
theorem T1_dvd (a : Nat) (ha : nmul T1 a = O2) : kN ∣ a := by
  have oT : OnP tb T1 := .inr T1_on
  have d0 : 2713 ∣ a := ord_dvd tb_ne oT prm_2713 (n := 19747952380560469302323322050672622487410572530539262414045570918895367835642530197600129291152586801779311534258037583122830008625755003132478624935055720974064090238561052215941626514123944245712362360707393572102318070791) (by rw [show 19747952380560469302323322050672622487410572530539262414045570918895367835642530197600129291152586801779311534258037583122830008625755003132478624935055720974064090238561052215941626514123944245712362360707393572102318070791 * 2713 = kN * 299 from of_decide_eq_true (by kernel_rfl)]; exact T1_k) (nz_of T1_rep (of_decide_eq_true (by kernel_rfl)) z_0) ha
  have d1 : 11953 ∣ a := ord_dvd tb_ne oT prm_11953 (n := 4482238334180586732803745731069591299953558376587720148021888555422331878030468035312402808240355391385198041700163637832530562486545078515721116828311400569115358221134119857931032605439493076099526402124919163483107916511) (by rw [show 4482238334180586732803745731069591299953558376587720148021888555422331878030468035312402808240355391385198041700163637832530562486545078515721116828311400569115358221134119857931032605439493076099526402124919163483107916511 * 11953 = kN * 299 from of_decide_eq_true (by kernel_rfl)]; exact T1_k) (nz_of T1_rep (of_decide_eq_true (by kernel_rfl)) z_1) ha
  have d2 : 262069 ∣ a := ord_dvd tb_ne oT prm_262069 (n := 204435453290776677963449216517309658175308347325906608295165143160629959812485202088339905776329775720238838597629082276088502697387609078137492452174069313816727185654221348812143491724768136401549359461054755660202423507) (by rw [show 204435453290776677963449216517309658175308347325906608295165143160629959812485202088339905776329775720238838597629082276088502697387609078137492452174069313816727185654221348812143491724768136401549359461054755660202423507 * 262069 = kN * 299 from of_decide_eq_true (by kernel_rfl)]; exact T1_k) (nz_of T1_rep (of_decide_eq_true (by kernel_rfl)) z_2) ha
  have d3 : 402096035359507321594726366720466575392706800671181159425656785868777272553337714697862511267018014931937703598282857976535744623203249 ∣ a := ord_dvd tb_ne oT prm_m (n := 133242285665808607076488378322626308017882680317454143660064485930450545651671235455237836767) (by rw [show 133242285665808607076488378322626308017882680317454143660064485930450545651671235455237836767 * 402096035359507321594726366720466575392706800671181159425656785868777272553337714697862511267018014931937703598282857976535744623203249 = kN * 299 from of_decide_eq_true (by kernel_rfl)]; exact T1_k) (nz_of T1_rep (of_decide_eq_true (by kernel_rfl)) z_3) ha
  have d4 : 52435875175126190479447740508185965837690552500527637822603658699938581184513 ∣ a := ord_dvd tb_ne oT prm_r (n := 1021746936224977739802674759843215733158749228274876731329980043418955197936360816142165308893846079758636364010172630974200012787218635773765140678191) (by rw [show 1021746936224977739802674759843215733158749228274876731329980043418955197936360816142165308893846079758636364010172630974200012787218635773765140678191 * 52435875175126190479447740508185965837690552500527637822603658699938581184513 = kN * 299 from of_decide_eq_true (by kernel_rfl)]; exact T1_k) (nz_of T1_rep (of_decide_eq_true (by kernel_rfl)) z_4) ha
  have c1 : 2713 * 11953 ∣ a := Nat.Coprime.mul_dvd_of_dvd_of_dvd (show Nat.gcd 2713 11953 = 1 from of_decide_eq_true (by kernel_rfl)) d0 d1
  rw [show 2713 * 11953 = 32428489 from of_decide_eq_true (by kernel_rfl)] at c1
  have c2 : 32428489 * 262069 ∣ a := Nat.Coprime.mul_dvd_of_dvd_of_dvd (show Nat.gcd 32428489 262069 = 1 from of_decide_eq_true (by kernel_rfl)) c1 d2
  rw [show 32428489 * 262069 = 8498501683741 from of_decide_eq_true (by kernel_rfl)] at c2
  have c3 : 8498501683741 * 402096035359507321594726366720466575392706800671181159425656785868777272553337714697862511267018014931937703598282857976535744623203249 ∣ a := Nat.Coprime.mul_dvd_of_dvd_of_dvd (show Nat.gcd 8498501683741 402096035359507321594726366720466575392706800671181159425656785868777272553337714697862511267018014931937703598282857976535744623203249 = 1 from of_decide_eq_true (by kernel_rfl)) c2 d3
  rw [show 8498501683741 * 402096035359507321594726366720466575392706800671181159425656785868777272553337714697862511267018014931937703598282857976535744623203249 = 3417213833528353644824999196800052619260030863795574352274180747220585946275454234589181635096475183139252053545727862789966597950563999243361674509 from of_decide_eq_true (by kernel_rfl)] at c3
  have c4 : 3417213833528353644824999196800052619260030863795574352274180747220585946275454234589181635096475183139252053545727862789966597950563999243361674509 * 52435875175126190479447740508185965837690552500527637822603658699938581184513 ∣ a := Nat.Coprime.mul_dvd_of_dvd_of_dvd (show Nat.gcd 3417213833528353644824999196800052619260030863795574352274180747220585946275454234589181635096475183139252053545727862789966597950563999243361674509 52435875175126190479447740508185965837690552500527637822603658699938581184513 = 1 from of_decide_eq_true (by kernel_rfl)) c3 d4
  rw [show 3417213833528353644824999196800052619260030863795574352274180747220585946275454234589181635096475183139252053545727862789966597950563999243361674509 * 52435875175126190479447740508185965837690552500527637822603658699938581184513 = 179184598021607201395328336867808778623227034365729160298681049842686063338121018147455353735441364525843719707164066765927216767229676667218777623574602578604133367281659313250333219842201540931831568844813240003724377679117 from of_decide_eq_true (by kernel_rfl)] at c4
  exact c4
/-- The small sums. -/
noncomputable def smz (a l l' : Nat) : Bool := fo6 (mj o1 a) fun A => (List.range l).all fun j => !evP2.isz (evP2.jadd A (mj o2 (l' * j))).2.2
theorem smz_ok {a l l' : Nat} (ha : a < 2 ^ 760) (hl : l < 300) (hl' : l' < 300) (h : smz a l l' = true) (j : Nat) (hj : j < l) : padd (nmul T1 a) (nmul (nmul T2 l') j) ≠ O2 := by
  unfold smz at h
  rw [fo6_eq] at h
  have h1 := List.all_eq_true.1 h j (List.mem_range.2 hj)
  have hb : l' * j < 2 ^ 760 := by
    have h2 : l' * j ≤ 300 * 300 := Nat.mul_le_mul (by omega) (by omega)
    exact Nat.lt_of_le_of_lt h2 (of_decide_eq_true (by kernel_rfl))
  have r1 := mj_rep T1_rep ha
  have r2 := mj_rep T2_rep hb
  have r3 := rep_add tb_ne r1 r2
  have e : Cr.jadd (j3 (mj o1 a)) (j3 (mj o2 (l' * j))) = j3 (evP2.jadd (mj o1 a) (mj o2 (l' * j))) := (evP2.jadd_φ _ _).symm
  rw [e] at r3
  rw [nmul_mul tb_ne (.inr T2_on)]
  intro h0
  have h3 := (rep_z r3).2 h0
  rw [h3] at h1; cases h1
theorem sm_13 : smz (kN * 23) 13 23 = true := by kernel_rfl
theorem sm_23 : smz (kN * 13) 23 13 = true := by kernel_rfl
theorem v_23 : evP2.isz (mj o2 23).2.2 = false := by kernel_rfl
theorem v_13 : evP2.isz (mj o2 13).2.2 = false := by kernel_rfl
theorem T_ind (a c : Nat) (h : padd (nmul T1 a) (nmul T2 c) = O2) : kN * 299 ∣ a ∧ 299 ∣ c :=
  ind_all tb_ne (.inr T1_on) (.inr T2_on) (k := kN) (l := 13) (l' := 23) prm_13 prm_23 (of_decide_eq_true (by kernel_rfl)) (of_decide_eq_true (by kernel_rfl)) T1_k T2_k T1_dvd
    (nz_of T2_rep (of_decide_eq_true (by kernel_rfl)) v_23) (fun j hj => smz_ok (of_decide_eq_true (by kernel_rfl)) (by decide) (by decide) sm_13 j hj)
    (nz_of T2_rep (of_decide_eq_true (by kernel_rfl)) v_13) (fun j hj => smz_ok (of_decide_eq_true (by kernel_rfl)) (by decide) (by decide) sm_23 j hj) a c h
theorem tb_nm : nm2 (-tb) = 1 + 1 + (1 + 1) + (1 + 1 + (1 + 1)) + (1 + 1 + (1 + 1) + (1 + 1 + (1 + 1))) + (1 + 1 + (1 + 1) + (1 + 1 + (1 + 1)) + (1 + 1 + (1 + 1) + (1 + 1 + (1 + 1)))) := by
  rw [F2.neg_def]
  refine Zm.ext (of_decide_eq_true (by kernel_rfl))
theorem no_cube (x : F2) : x * x * x + tb ≠ 0 := fun h => by
  have h1 : x * x * x = -tb := (neg_eq ((add_comm tb (x * x * x)).trans h)).symm
  have e := congrArg nm2 h1
  rw [nm2_mul, nm2_mul] at e
  obtain ⟨s, hs⟩ : ∃ s, s = nm2 x := ⟨_, rfl⟩
  rw [← hs] at e
  have hv : (nm2 (-tb)).v = 32 := by rw [tb_nm]; exact of_decide_eq_true (by kernel_rfl)
  have s0 : s ≠ 0 := fun z => by
    rw [z, zero_mul, zero_mul] at e
    rw [← e] at hv
    exact absurd hv (by decide)
  have hf := fp_fermat s0
  have hq : fpP - 1 = 3 * 1334136518407222464472596608578634718852294273313002628444019378708010550163612621480895876376338554679298090853262 := of_decide_eq_true (by kernel_rfl)
  obtain ⟨q, hqq⟩ : ∃ q, q = 1334136518407222464472596608578634718852294273313002628444019378708010550163612621480895876376338554679298090853262 := ⟨_, rfl⟩
  rw [hq, ← hqq, zpow_mul'] at hf
  have h3 : zpow s 3 = nm2 (-tb) := by
    rw [← e]; show 1 * s * s * s = _; rw [one_mul]
  rw [h3] at hf
  have hw := congrArg Zm.v hf
  rw [zpow_v, hv] at hw
  have h4 : ((32 : Int) ^ q % Mp) = 1 := hw
  have h5 : (32 : Nat) ^ q % fpP = 1 := by
    have h6 : (((32 : Nat) ^ q % fpP : Nat) : Int) = 1 := by rw [Int.natCast_emod, Int.natCast_pow]; exact h4
    omega
  rw [← npm_eq fpP 32 (of_decide_eq_true (by kernel_rfl)) 384 q (by rw [hqq]; exact of_decide_eq_true (by kernel_rfl)), hqq] at h5
  exact absurd h5 (of_decide_eq_true (by kernel_rfl))
def od (y : F2) : Bool := if y.1 = 0 then decide (y.2.v % 2 = 1) else decide (y.1.v % 2 = 1)
theorem od_v {a : Fp} (h : a ≠ 0) : decide ((-a).v % 2 = 1) = !decide (a.v % 2 = 1) := by
  have h0 : a.v ≠ 0 := fun e => h (Zm.ext e)
  have hn := a.nn
  have hl := a.lt
  have e : (-a).v = Mp - a.v := by
    rw [neg_v]
    have h1 : (-a.v + Mp * 1) % Mp = (-a.v) % Mp := Int.add_mul_emod_self_left _ _ _
    rw [← h1, Int.mul_one, Int.emod_eq_of_lt (by omega) (by omega)]; omega
  rw [e]
  have hp : Mp % 2 = 1 := of_decide_eq_true (by kernel_rfl)
  by_cases h2 : a.v % 2 = 1
  · rw [decide_eq_true h2, decide_eq_false (by omega)]; rfl
  · rw [decide_eq_false h2, decide_eq_true (by omega)]; rfl
theorem od_neg {y : F2} (h : y ≠ 0) : od (-y) = !od y := by
  unfold od
  rw [F2.neg_def]
  by_cases h1 : y.1 = 0
  · have h2 : y.2 ≠ 0 := fun e => h (F2.ext h1 e)
    rw [if_pos h1, if_pos (show -y.1 = 0 by rw [h1]; exact neg_zero), od_v h2]
  · rw [if_neg h1, if_neg (show ¬ -y.1 = 0 from fun e => h1 (by rw [← neg_neg y.1, e]; exact neg_zero)), od_v h1]
noncomputable def cod (P : F2 × F2) : Nat := if P = O2 then 0 else 1 + 2 * (P.1.1.v.toNat * pN + P.1.2.v.toNat) + (if od P.2 = true then 1 else 0)
theorem v_lt (a : Fp) : a.v.toNat < pN := by
  have h1 := a.nn
  have h2 := a.lt
  have h3 : Mp = (pN : Int) := rfl
  omega
theorem cod_lt (P : F2 × F2) : cod P < 2 * (pN * pN) + 1 := by
  have key : ∀ a c n : Nat, a < n → c < n → 2 * (a * n + c) + 2 < 2 * (n * n) + 1 := by
    intro a c n h1 h2
    have h4 : (a + 1) * n ≤ n * n := Nat.mul_le_mul_right n h1
    rw [Nat.add_mul, Nat.one_mul] at h4
    omega
  have h := key _ _ pN (v_lt P.1.1) (v_lt P.1.2)
  obtain ⟨X, hX⟩ : ∃ X, X = 2 * (P.1.1.v.toNat * pN + P.1.2.v.toNat) := ⟨_, rfl⟩
  obtain ⟨Y, hY⟩ : ∃ Y, Y = 2 * (pN * pN) := ⟨_, rfl⟩
  unfold cod
  rw [← hX, ← hY] at h
  rw [← hX, ← hY]
  split
  · omega
  · split <;> omega
theorem cod_key : ∀ (X Y : Nat) (s t : Bool), 1 + 2 * X + (if s = true then 1 else 0) = 1 + 2 * Y + (if t = true then 1 else 0) → X = Y ∧ s = t
  | X, Y, false, false, h => by
    have h : 1 + 2 * X + 0 = 1 + 2 * Y + 0 := h
    exact ⟨by omega, rfl⟩
  | X, Y, false, true, h => by
    have h : 1 + 2 * X + 0 = 1 + 2 * Y + 1 := h
    omega
  | X, Y, true, false, h => by
    have h : 1 + 2 * X + 1 = 1 + 2 * Y + 0 := h
    omega
  | X, Y, true, true, h => by
    have h : 1 + 2 * X + 1 = 1 + 2 * Y + 1 := h
    exact ⟨by omega, rfl⟩
theorem cod_inj {P Q : F2 × F2} (oP : OnP tb P) (oQ : OnP tb Q) (h : cod P = cod Q) : P = Q := by
  by_cases hP : P = O2
  · by_cases hQ : Q = O2
    · rw [hP, hQ]
    · exfalso
      unfold cod at h
      rw [if_pos hP, if_neg hQ] at h
      omega
  by_cases hQ : Q = O2
  · exfalso
    unfold cod at h
    rw [if_neg hP, if_pos hQ] at h
    omega
  have hp : OnF tb P := oP.resolve_left hP
  have hq : OnF tb Q := oQ.resolve_left hQ
  unfold cod at h
  rw [if_neg hP, if_neg hQ] at h
  have hx : P.1.1.v.toNat * pN + P.1.2.v.toNat = Q.1.1.v.toNat * pN + Q.1.2.v.toNat ∧ (od P.2 = od Q.2) := by
    exact cod_key _ _ _ _ h
  obtain ⟨hx, ho⟩ := hx
  have v1 := v_lt P.1.1
  have v2 := v_lt P.1.2
  have v3 := v_lt Q.1.1
  have v4 := v_lt Q.1.2
  have d1 : P.1.1.v.toNat = Q.1.1.v.toNat := by
    have e1 : (P.1.1.v.toNat * pN + P.1.2.v.toNat) / pN = (Q.1.1.v.toNat * pN + Q.1.2.v.toNat) / pN := congrArg (· / pN) hx
    rw [Nat.mul_comm, Nat.mul_add_div (by decide), Nat.div_eq_of_lt v2, Nat.mul_comm Q.1.1.v.toNat, Nat.mul_add_div (by decide), Nat.div_eq_of_lt v4] at e1
    exact e1
  have d2 : P.1.2.v.toNat = Q.1.2.v.toNat := by rw [d1] at hx; omega
  have x1 : P.1 = Q.1 := by
    refine F2.ext (Zm.ext ?_) (Zm.ext ?_)
    · have := P.1.1.nn; have := Q.1.1.nn; omega
    · have := P.1.2.nn; have := Q.1.2.nn; omega
  have hy : P.2 * P.2 = Q.2 * Q.2 := by
    have a1 : P.2 * P.2 = P.1 * P.1 * P.1 + tb := hp
    have a2 : Q.2 * Q.2 = Q.1 * Q.1 * Q.1 + tb := hq
    rw [a1, a2, x1]
  rcases sq_eq hy with e | e
  · exact Prod.ext x1 e
  · by_cases h0 : Q.2 = 0
    · exact Prod.ext x1 (by rw [e, h0]; exact neg_zero)
    · rw [e, od_neg h0] at ho
      cases hh : od Q.2 <;> rw [hh] at ho <;> cases ho
/-- ALL POINTS of the second group's curve. -/
theorem all_tw {Q : F2 × F2} (oQ : OnP tb Q) : InH T1 T2 Q :=
  gen_all tb_ne (.inr T1_on) (.inr T2_on) T1_k T2_k (of_decide_eq_true (by kernel_rfl)) T_ind (no2_of tb_ne no_cube) cod (2 * (pN * pN) + 1) (fun P _ => cod_lt P) (fun _ _ hP hQ h => cod_inj hP hQ h) (of_decide_eq_true (by kernel_rfl)) oQ
end Cr
/- A number made a point: the other curve's points, and the way across. No program here. -/
namespace Cr
set_option maxRecDepth 100000
open Rg Fd Go.Eng
theorem sw_1 {F : Type} [Rg F] (x t d a b : F) : x * t * (x * t) * (x * t) + a * (x * t) + b - t * t * t * (x * x * x + a * x + b) = (t - t * t * t) * (a * x - -b * (1 + d)) + (b * (1 - t)) * (1 - d * (t * t + t)) :=
  rid [x, t, d, a, b] ((fun (x t d a b : PE) => (x * t * (x * t) * (x * t) + a * (x * t) + b - t * t * t * (x * x * x + a * x + b))) (.v 0) (.v 1) (.v 2) (.v 3) (.v 4)) ((fun (x t d a b : PE) => ((t - t * t * t) * (a * x - -b * (1 + d)) + (b * (1 - t)) * (1 - d * (t * t + t)))) (.v 0) (.v 1) (.v 2) (.v 3) (.v 4)) (by kernel_rfl)
theorem sw_2 {F : Type} [Rg F] (b i d a : F) : a * (-b * i * (1 + d)) = -b * (1 + d) * (a * i) :=
  rid [b, i, d, a] ((fun (b i d a : PE) => (a * (-b * i * (1 + d)))) (.v 0) (.v 1) (.v 2) (.v 3)) ((fun (b i d a : PE) => (-b * (1 + d) * (a * i))) (.v 0) (.v 1) (.v 2) (.v 3)) (by kernel_rfl)
theorem sw_4 {F : Type} [Rg F] (z u g : F) : z * (u * u) * (z * (u * u)) * (z * (u * u)) * g = z * u * u * u * (z * u * u * u) * (z * g) :=
  rid [z, u, g] ((fun (z u g : PE) => (z * (u * u) * (z * (u * u)) * (z * (u * u)) * g)) (.v 0) (.v 1) (.v 2)) ((fun (z u g : PE) => (z * u * u * u * (z * u * u * u) * (z * g))) (.v 0) (.v 1) (.v 2)) (by kernel_rfl)
theorem sw_5 {F : Type} [Rg F] (a y : F) : a * a * (y * y) = a * y * (a * y) :=
  rid [a, y] ((fun (a y : PE) => (a * a * (y * y))) (.v 0) (.v 1)) ((fun (a y : PE) => (a * y * (a * y))) (.v 0) (.v 1)) (by kernel_rfl)
theorem hv_2 {F : Type} [Rg F] (s t x c d : F) : s * x + c + (t * x + d) = (s + t) * x + (c + d) :=
  rid [s, t, x, c, d] ((fun (s t x c d : PE) => (s * x + c + (t * x + d))) (.v 0) (.v 1) (.v 2) (.v 3) (.v 4)) ((fun (s t x c d : PE) => ((s + t) * x + (c + d))) (.v 0) (.v 1) (.v 2) (.v 3) (.v 4)) (by kernel_rfl)
theorem hv_3 {F : Type} [Rg F] (s x c k : F) : k * (s * x + c) = k * s * x + k * c :=
  rid [s, x, c, k] ((fun (s x c k : PE) => (k * (s * x + c))) (.v 0) (.v 1) (.v 2) (.v 3)) ((fun (s x c k : PE) => (k * s * x + k * c)) (.v 0) (.v 1) (.v 2) (.v 3)) (by kernel_rfl)
theorem hv_4 {F : Type} [Rg F] (s h x c g : F) : c * g + (s * g * x + 0) = (s * x + c) * g :=
  rid [s, h, x, c, g] ((fun (s h x c g : PE) => (c * g + (s * g * x + 0))) (.v 0) (.v 1) (.v 2) (.v 3) (.v 4)) ((fun (s h x c g : PE) => ((s * x + c) * g)) (.v 0) (.v 1) (.v 2) (.v 3) (.v 4)) (by kernel_rfl)
theorem is_1 {F : Type} [Rg F] (y h u i g : F) : y * h * u * i * (y * h * u * i) = y * y * (h * h) * (u * u) * (i * i) :=
  rid [y, h, u, i, g] ((fun (y h u i g : PE) => (y * h * u * i * (y * h * u * i))) (.v 0) (.v 1) (.v 2) (.v 3) (.v 4)) ((fun (y h u i g : PE) => (y * y * (h * h) * (u * u) * (i * i))) (.v 0) (.v 1) (.v 2) (.v 3) (.v 4)) (by kernel_rfl)
theorem is_2 {F : Type} [Rg F] (g h u b i : F) : g * (h * h) * (u * u) * (i * i) * (u * b * i) = g * (h * h) * (u * u * u) * (b * (i * i * i)) :=
  rid [g, h, u, b, i] ((fun (g h u b i : PE) => (g * (h * h) * (u * u) * (i * i) * (u * b * i))) (.v 0) (.v 1) (.v 2) (.v 3) (.v 4)) ((fun (g h u b i : PE) => (g * (h * h) * (u * u * u) * (b * (i * i * i)))) (.v 0) (.v 1) (.v 2) (.v 3) (.v 4)) (by kernel_rfl)
theorem is_3 {F : Type} [Rg F] (w u b i t : F) : b * b * (w * w * w + t * (u * u * u)) * (b * (i * i * i)) = w * b * i * (w * b * i) * (w * b * i) + t * (u * b * i * (u * b * i) * (u * b * i)) :=
  rid [w, u, b, i, t] ((fun (w u b i t : PE) => (b * b * (w * w * w + t * (u * u * u)) * (b * (i * i * i)))) (.v 0) (.v 1) (.v 2) (.v 3) (.v 4)) ((fun (w u b i t : PE) => (w * b * i * (w * b * i) * (w * b * i) + t * (u * b * i * (u * b * i) * (u * b * i)))) (.v 0) (.v 1) (.v 2) (.v 3) (.v 4)) (by kernel_rfl)
theorem fs_1 {F : Type} [Rg F] (t i : F) : t * i * (t * i) = t * t * (i * i) :=
  rid [t, i] ((fun (t i : PE) => (t * i * (t * i))) (.v 0) (.v 1)) ((fun (t i : PE) => (t * t * (i * i))) (.v 0) (.v 1)) (by kernel_rfl)
noncomputable def hv (x : F2) (l : List F2) : F2 := l.foldr (fun c s => s * x + c) 0
noncomputable def hq (x : F2) (l : List V2) : F2 := hv x (l.map q2)
theorem hq_nil (x : F2) : hq x [] = 0 := rfl
theorem hq_cons (x : F2) (c : V2) (l : List V2) : hq x (c :: l) = hq x l * x + q2 c := rfl
def pls : List V2 → List V2 → List V2
  | [], b => b
  | x :: a, [] => x :: a
  | x :: a, y :: b => vadd x y :: pls a b
theorem hq_pls (x : F2) : ∀ a b, hq x (pls a b) = hq x a + hq x b
  | [], b => by show hq x b = _; rw [hq_nil, zero_add]
  | c :: a, [] => by show hq x (c :: a) = _; rw [hq_nil, add_zero]
  | c :: a, d :: b => by
    show hq x (pls a b) * x + q2 (vadd c d) = (hq x a * x + q2 c) + (hq x b * x + q2 d)
    rw [hq_pls x a b, q2_add]; exact (hv_2 _ _ _ _ _).symm
theorem hq_scl (x : F2) (c : V2) : ∀ b : List V2, hq x (b.map (vmul c)) = q2 c * hq x b
  | [] => by show (0 : F2) = _; rw [hq_nil, mul_zero]
  | d :: b => by
    show hq x (b.map (vmul c)) * x + q2 (vmul c d) = q2 c * (hq x b * x + q2 d)
    rw [hq_scl x c b, q2_mul]; exact (hv_3 _ _ _ _).symm
def pml : List V2 → List V2 → List V2
  | [], _ => []
  | c :: a, b => pls (b.map (vmul c)) ((0, 0) :: pml a b)
theorem hq_pml (x : F2) : ∀ a b, hq x (pml a b) = hq x a * hq x b
  | [], b => by show (0 : F2) = _; rw [hq_nil, zero_mul]
  | c :: a, b => by
    show hq x (pls (b.map (vmul c)) ((0, 0) :: pml a b)) = (hq x a * x + q2 c) * hq x b
    rw [hq_pls, hq_scl, hq_cons, hq_pml x a b, q2_zero]; exact hv_4 _ 0 _ _ _
def fl2 {α : Type} : List V2 → (List V2 → α) → α
  | [], k => k []
  | x :: l, k => fo2 x fun x => fl2 l fun l => k (x :: l)
theorem fl2_eq {α : Type} : ∀ (l : List V2) (k : List V2 → α), fl2 l k = k l
  | [], k => rfl
  | x :: l, k => by rw [fl2, fo2_eq, fl2_eq l]
noncomputable def alz (l : List V2) : Bool := l.all fun c => evP2.isz c
theorem alz_ok (x : F2) : ∀ l : List V2, alz l = true → hq x l = 0
  | [], _ => rfl
  | c :: l, h => by
    have h : (evP2.isz c && alz l) = true := h
    rw [Bool.and_eq_true] at h
    have h1 : q2 c = 0 := (evP2.isz_φ c).1 h.1
    rw [hq_cons, alz_ok x l h.2, h1, zero_mul, add_zero]
def cU : List V2 := [(0, 4002409555221667393417789825735904156556882819939007885332058136124031650490837864442687629129015664037894272559715), (12, 4002409555221667393417789825735904156556882819939007885332058136124031650490837864442687629129015664037894272559775), (1, 0)]
def cB : List V2 := [(4002409555221667393417789825735904156556882819939007885332058136124031650490837864442687629129015664037894272559355, 4002409555221667393417789825735904156556882819939007885332058136124031650490837864442687629129015664037894272559355), (0, 4002409555221667393417789825735904156556882819939007885332058136124031650490837864442687629129015664037894272559571), (18, 4002409555221667393417789825735904156556882819939007885332058136124031650490837864442687629129015664037894272559769), (1, 0)]
def cW : List V2 := [(889424345604814976315064405719089812568196182208668418962679585805340366775741747653930584250892369786198727235542, 889424345604814976315064405719089812568196182208668418962679585805340366775741747653930584250892369786198727235542), (0, 2668273036814444928945193217157269437704588546626005256888038757416021100327225242961791752752677109358596181706522), (2668273036814444928945193217157269437704588546626005256888038757416021100327225242961791752752677109358596181706526, 1334136518407222464472596608578634718852294273313002628444019378708010550163612621480895876376338554679298090853261), (3557697382419259905260257622876359250272784728834673675850718343221361467102966990615722337003569479144794908942033, 0)]
def cH : List V2 := [(3261222600550988246488569487636662646083386001431784202863158481286248011511053074731078808919938689216061999863558, 3261222600550988246488569487636662646083386001431784202863158481286248011511053074731078808919938689216061999863558), (0, 889424345604814976315064405719089812568196182208668418962679585805340366775741747653930584250892369786198727235518), (2668273036814444928945193217157269437704588546626005256888038757416021100327225242961791752752677109358596181706524, 1334136518407222464472596608578634718852294273313002628444019378708010550163612621480895876376338554679298090853263), (2816510427748580758331037284777117739799287910327449993381818688383577828123182200904113516794492504322962636245776, 0)]
def cG : List V2 := [(1012, 1012), (0, 240), (0, 0), (1, 0)]
/-- The way across takes the one curve to the other: by comparing factors. -/
noncomputable def isc : Bool := fl2 (pml cH cH) fun HH => fl2 (pml cU cU) fun UU => fl2 (pml UU cU) fun UUU => fl2 (pml cG HH) fun GHH => fl2 (pml GHH UUU) fun L =>
  fl2 (pml cB cB) fun BB => fl2 (pml cW cW) fun WW => fl2 (pml WW cW) fun WWW => fl2 (pls WWW (UUU.map (vmul (4, 4)))) fun S => fl2 (pml BB S) fun R => alz (pls L (R.map (vmul (4002409555221667393417789825735904156556882819939007885332058136124031650490837864442687629129015664037894272559786, 0))))
theorem isc_ok : isc = true := by kernel_rfl
theorem q2_m1 : q2 (4002409555221667393417789825735904156556882819939007885332058136124031650490837864442687629129015664037894272559786, 0) = -1 := by
  rw [F2.neg_def]; exact F2.ext (Zm.ext (of_decide_eq_true (by kernel_rfl))) (Zm.ext (of_decide_eq_true (by kernel_rfl)))
theorem iso (x : F2) : hq x cG * (hq x cH * hq x cH) * (hq x cU * hq x cU * hq x cU) = hq x cB * hq x cB * (hq x cW * hq x cW * hq x cW + tb * (hq x cU * hq x cU * hq x cU)) := by
  have h := isc_ok
  unfold isc at h
  simp only [fl2_eq] at h
  have h1 := alz_ok x _ h
  simp only [hq_pls, hq_scl, hq_pml, q2_m1] at h1
  rw [neg_mul, one_mul, ← Rg.sub_def] at h1
  exact eq_of_sub h1
theorem iso_on {x y i : F2} (hy : y * y = hq x cG) (hi : hq x cU * hq x cB * i = 1) : OnF tb (hq x cW * hq x cB * i, y * hq x cH * hq x cU * i) := by
  show y * hq x cH * hq x cU * i * (y * hq x cH * hq x cU * i) = hq x cW * hq x cB * i * (hq x cW * hq x cB * i) * (hq x cW * hq x cB * i) + tb
  have h := iso x
  have e := is_3 (hq x cW) (hq x cU) (hq x cB) i tb
  rw [hi, mul_one, mul_one, mul_one, ← h, ← is_2, hi, mul_one] at e
  rw [is_1 _ _ _ _ 0, hy]; exact e
noncomputable def ca : F2 := q2 (0, 240)
noncomputable def cb : F2 := q2 (1012, 1012)
noncomputable def cz : F2 := q2 (4002409555221667393417789825735904156556882819939007885332058136124031650490837864442687629129015664037894272559785, 4002409555221667393417789825735904156556882819939007885332058136124031650490837864442687629129015664037894272559786)
theorem hG (x : F2) : hq x cG = x * x * x + ca * x + cb := by
  show (((0 * x + q2 (1, 0)) * x + q2 (0, 0)) * x + q2 (0, 240)) * x + q2 (1012, 1012) = _
  have h1 : q2 (1, 0) = 1 := rfl
  rw [h1, q2_zero, zero_mul, zero_add, one_mul, add_zero, add_mul]; rfl
theorem ca_ne : ca ≠ 0 := fun h => absurd (congrArg Prod.snd h) (by decide)
theorem sw_t {x t d : F2} (hd : d * (t * t + t) = 1) (hx : x = -cb * inv ca * (1 + d)) : hq (x * t) cG = t * t * t * hq x cG := by
  have h1 : ca * x = -cb * (1 + d) := by rw [hx, sw_2, mul_inv ca ca_ne, mul_one]
  rw [hG, hG]
  exact lc2 _ _ (sw_1 x t d ca cb) h1 hd.symm
theorem sqm (a : Fp) : ∃ s : Fp, s * s = a ∨ s * s = -a := by
  by_cases ha : a = 0
  · exact ⟨0, .inl (by rw [ha, mul_zero])⟩
  obtain ⟨m, hm⟩ : ∃ m, m = (fpP - 1) / 2 := ⟨_, rfl⟩
  obtain ⟨k, hk⟩ : ∃ k, k = (fpP + 1) / 4 := ⟨_, rfl⟩
  have h1 : fpP - 1 = m + m := by rw [hm]; exact of_decide_eq_true (by kernel_rfl)
  have h2 : k + k = m + 1 := by rw [hm, hk]; exact of_decide_eq_true (by kernel_rfl)
  have hf := fp_fermat ha
  rw [h1, zpow_add'] at hf
  have hs : zpow a k * zpow a k = zpow a m * a := by rw [← zpow_add', h2]; rfl
  have h3 : zpow a m * zpow a m = 1 * 1 := by rw [hf, one_mul]
  refine ⟨zpow a k, ?_⟩
  rw [hs]
  rcases sq_eq h3 with e | e
  · rw [e, one_mul]; exact .inl rfl
  · rw [e, neg_mul, one_mul]; exact .inr rfl
/-- A number whose norm is a square is a square. -/
theorem sq_nm {x : F2} {n : Fp} (h : nm2 x = n * n) : ∃ y : F2, y * y = x := by
  by_cases hb : x.2 = 0
  · obtain ⟨s, hs⟩ := sqm x.1
    rcases hs with hs | hs
    · refine ⟨(s, 0), ?_⟩
      rw [F2.mul_def]
      refine F2.ext ?_ ?_
      · show s * s - 0 * 0 = x.1
        rw [hs, mul_zero, sub_z]
      · show s * 0 + 0 * s = x.2
        rw [mul_zero, zero_mul, add_zero, hb]
    · refine ⟨(0, s), ?_⟩
      rw [F2.mul_def]
      refine F2.ext ?_ ?_
      · show 0 * 0 - s * s = x.1
        rw [hs, mul_zero, Rg.sub_def, neg_neg, zero_add]
      · show 0 * s + s * 0 = x.2
        rw [mul_zero, zero_mul, add_zero, hb]
  · have hn : n * n = x.1 * x.1 + x.2 * x.2 := h.symm
    have key : ∀ s t : Fp, (s = x.1 + n ∨ s = x.1 - n) → t * t = s + s → ∃ y : F2, y * y = x := fun s t hs ht => by
      have k := fin_ok hb hn hs ht (i := inv t) (fun h => mul_inv t h)
      refine ⟨(s * inv t, x.2 * inv t), ?_⟩
      refine F2.ext ?_ ?_
      · rw [F2.mul1]; exact k.1
      · rw [F2.mul2]; exact k.2
    obtain ⟨s, hs⟩ := sqm (x.1 + n + (x.1 + n))
    rcases hs with hs | hs
    · exact key _ s (.inl rfl) hs
    · by_cases hs0 : s = 0
      · rw [hs0, mul_zero] at hs
        have e : x.1 + n + (x.1 + n) = 0 := by rw [← neg_neg (x.1 + n + (x.1 + n)), ← hs]; exact neg_zero
        exact key _ 0 (.inl rfl) (by rw [mul_zero, e])
      · -- 2 (a + n) times 2 (a - n) is - (2 b)^2
        have e1 : (x.1 + n + (x.1 + n)) * (x.1 - n + (x.1 - n)) = -((x.2 + x.2) * (x.2 + x.2)) := by
          have q := q_4 x.1 n
          have e2 : (x.1 + n + (x.1 + n)) * (x.1 - n + (x.1 - n)) = (x.1 + n) * (x.1 - n) + (x.1 + n) * (x.1 - n) + ((x.1 + n) * (x.1 - n) + (x.1 + n) * (x.1 - n)) := by
            rw [add_mul, mul_add]
          rw [e2, q, hn]
          have e3 : x.1 * x.1 - (x.1 * x.1 + x.2 * x.2) = -(x.2 * x.2) := by
            rw [Rg.sub_def, neg_add_rev, ← add_assoc, add_neg, zero_add]
          rw [e3, ← neg_add_rev, ← neg_add_rev, add_mul, mul_add]
        have e4 : x.1 + n + (x.1 + n) = -(s * s) := by rw [hs, neg_neg]
        rw [e4, neg_mul] at e1
        have e5 : s * s * (x.1 - n + (x.1 - n)) = (x.2 + x.2) * (x.2 + x.2) := by
          rw [← neg_neg (s * s * _), e1, neg_neg]
        refine key _ ((x.2 + x.2) * inv s) (.inr rfl) ?_
        rw [fs_1, ← e5]
        have e6 : s * s * (x.1 - n + (x.1 - n)) * (inv s * inv s) = (s * inv s) * (s * inv s) * (x.1 - n + (x.1 - n)) := by ac_rfl
        rw [e6, mul_inv s hs0, one_mul, one_mul]
def wN : Int := 3754115229487400743760384662840082984744650971178826659753975400945528899667118516813924993650507119217982417812692
theorem cz_nm : (zm wN : Fp) * zm wN = -nm2 cz := by
  unfold nm2 cz
  exact Zm.ext (of_decide_eq_true (by kernel_rfl))
/-- Where a number is no square, z times it is one. -/
theorem sq_z {g : F2} (h : ∀ y : F2, y * y ≠ g) : ∃ y : F2, y * y = cz * g := by
  obtain ⟨s, hs⟩ := sqm (nm2 g)
  rcases hs with hs | hs
  · obtain ⟨y, hy⟩ := sq_nm (x := g) (n := s) hs.symm
    exact absurd hy (h y)
  · refine sq_nm (n := zm wN * s) ?_
    have e : (zm wN * s) * (zm wN * s) = (zm wN * zm wN) * (s * s) := by ac_rfl
    rw [nm2_mul, e, cz_nm, hs, neg_mul, mul_neg, neg_neg]
/-- One of the two is a square. -/
theorem sw_two {u t d x : F2} (ht : t = cz * (u * u)) (hd : d * (t * t + t) = 1) (hx : x = -cb * inv ca * (1 + d)) (h : ∀ y : F2, y * y ≠ hq x cG) : ∃ y : F2, y * y = hq (x * t) cG := by
  obtain ⟨y, hy⟩ := sq_z h
  refine ⟨cz * u * u * u * y, ?_⟩
  rw [sw_t hd hx, ht, sw_4, ← hy]
  exact (sw_5 _ _).symm
def s0 : V2 := (391013756818087021228608844186469378708965029305944648629640836944759185027123020480318340657013194950516187264795, 3578796461873081174841411974298466426866052387096285028890861355461367155938811896227938614244375769879856986283402)
theorem sw_c : evP2.isz (vsub (vmul (vmul s0 s0) (vmul (vmul (vmul (4002409555221667393417789825735904156556882819939007885332058136124031650490837864442687629129015664037894272559785, 4002409555221667393417789825735904156556882819939007885332058136124031650490837864442687629129015664037894272559786) (0, 240)) (vmul (4002409555221667393417789825735904156556882819939007885332058136124031650490837864442687629129015664037894272559785, 4002409555221667393417789825735904156556882819939007885332058136124031650490837864442687629129015664037894272559786) (0, 240))) (vmul (4002409555221667393417789825735904156556882819939007885332058136124031650490837864442687629129015664037894272559785, 4002409555221667393417789825735904156556882819939007885332058136124031650490837864442687629129015664037894272559786) (0, 240)))) (vadd (vadd (vmul (vmul (1012, 1012) (1012, 1012)) (1012, 1012)) (vmul (vmul (0, 240) (1012, 1012)) (vmul (vmul (4002409555221667393417789825735904156556882819939007885332058136124031650490837864442687629129015664037894272559785, 4002409555221667393417789825735904156556882819939007885332058136124031650490837864442687629129015664037894272559786) (0, 240)) (vmul (4002409555221667393417789825735904156556882819939007885332058136124031650490837864442687629129015664037894272559785, 4002409555221667393417789825735904156556882819939007885332058136124031650490837864442687629129015664037894272559786) (0, 240))))) (vmul (1012, 1012) (vmul (vmul (vmul (4002409555221667393417789825735904156556882819939007885332058136124031650490837864442687629129015664037894272559785, 4002409555221667393417789825735904156556882819939007885332058136124031650490837864442687629129015664037894272559786) (0, 240)) (vmul (4002409555221667393417789825735904156556882819939007885332058136124031650490837864442687629129015664037894272559785, 4002409555221667393417789825735904156556882819939007885332058136124031650490837864442687629129015664037894272559786) (0, 240))) (vmul (4002409555221667393417789825735904156556882819939007885332058136124031650490837864442687629129015664037894272559785, 4002409555221667393417789825735904156556882819939007885332058136124031650490837864442687629129015664037894272559786) (0, 240)))))) = true := by kernel_rfl
theorem cz_ne : cz ≠ 0 := fun h => absurd (congrArg Prod.snd h) (by decide)
/-- .. as is the one where the other formula would divide by nought. -/
theorem sw_0 : ∃ y : F2, y * y = hq (cb * inv (cz * ca)) cG := by
  have h1 := (evP2.isz_φ _).1 sw_c
  have h2 : q2 (vsub (vmul (vmul s0 s0) (vmul (vmul (vmul (4002409555221667393417789825735904156556882819939007885332058136124031650490837864442687629129015664037894272559785, 4002409555221667393417789825735904156556882819939007885332058136124031650490837864442687629129015664037894272559786) (0, 240)) (vmul (4002409555221667393417789825735904156556882819939007885332058136124031650490837864442687629129015664037894272559785, 4002409555221667393417789825735904156556882819939007885332058136124031650490837864442687629129015664037894272559786) (0, 240))) (vmul (4002409555221667393417789825735904156556882819939007885332058136124031650490837864442687629129015664037894272559785, 4002409555221667393417789825735904156556882819939007885332058136124031650490837864442687629129015664037894272559786) (0, 240)))) (vadd (vadd (vmul (vmul (1012, 1012) (1012, 1012)) (1012, 1012)) (vmul (vmul (0, 240) (1012, 1012)) (vmul (vmul (4002409555221667393417789825735904156556882819939007885332058136124031650490837864442687629129015664037894272559785, 4002409555221667393417789825735904156556882819939007885332058136124031650490837864442687629129015664037894272559786) (0, 240)) (vmul (4002409555221667393417789825735904156556882819939007885332058136124031650490837864442687629129015664037894272559785, 4002409555221667393417789825735904156556882819939007885332058136124031650490837864442687629129015664037894272559786) (0, 240))))) (vmul (1012, 1012) (vmul (vmul (vmul (4002409555221667393417789825735904156556882819939007885332058136124031650490837864442687629129015664037894272559785, 4002409555221667393417789825735904156556882819939007885332058136124031650490837864442687629129015664037894272559786) (0, 240)) (vmul (4002409555221667393417789825735904156556882819939007885332058136124031650490837864442687629129015664037894272559785, 4002409555221667393417789825735904156556882819939007885332058136124031650490837864442687629129015664037894272559786) (0, 240))) (vmul (4002409555221667393417789825735904156556882819939007885332058136124031650490837864442687629129015664037894272559785, 4002409555221667393417789825735904156556882819939007885332058136124031650490837864442687629129015664037894272559786) (0, 240)))))) = 0 := h1
  simp only [q2_sub, q2_add, q2_mul] at h2
  have h3 : q2 s0 * q2 s0 * (cz * ca * (cz * ca) * (cz * ca)) = cb * cb * cb + ca * cb * (cz * ca * (cz * ca)) + cb * (cz * ca * (cz * ca) * (cz * ca)) := eq_of_sub h2
  have hne : cz * ca ≠ 0 := mul_ne cz_ne ca_ne
  obtain ⟨D, hD⟩ : ∃ D, D = cz * ca := ⟨_, rfl⟩
  rw [← hD] at h3 hne
  refine ⟨q2 s0, ?_⟩
  rw [← hD, hG]
  refine mul_left (mul_ne (mul_ne hne hne) hne) ?_
  have e : D * D * D * (cb * inv D * (cb * inv D) * (cb * inv D) + ca * (cb * inv D) + cb) = (D * inv D) * (D * inv D) * (D * inv D) * (cb * cb * cb) + (D * inv D) * (ca * cb * (D * D)) + cb * (D * D * D) := by
    rw [mul_add, mul_add]
    congr 1
    · congr 1
      · ac_rfl
      · ac_rfl
    · ac_rfl
  rw [e, mul_inv D hne, one_mul, one_mul, one_mul, one_mul, ← h3]
  ac_rfl
end Cr
/- fp.Wide. -/
namespace Go.Proofs.YtbfimfdhmggieaaDoor.fp
set_option maxRecDepth 100000
open Go Go.Eng Go.RowKit Cr Go.Proofs.YtbfimfdhmggieaaDoor

theorem ent_wide : enters Tryd.prog 48 Tryd.f48 := enters_mk (by kernel_rfl) (by kernel_rfl) (by kernel_rfl)
noncomputable def wideI (g : List Int × Fp) : St := mkSt Tryd.f48.ntmps 40 [(0, .is (.one (.ro (.int .u8) g.1))), (2, .is (.one (.ptr 0 0))), (3, .is (.one (.ptr 8 0))), (4, .is (.one (.ptr 24 0)))] [(0, [.row .fp 1 [(0 : Fp)]]), (8, [.row .fp 1 [g.2]]), (24, [.row .fp 1 [(R2 : Fp)]])]
def wn (len : Int) : Int := IntKind.i64.wrap ((IntKind.i64.wrap (len - 1)).tmod 48 + 1)
def wch (bs : List Int) : List Int := List.take (wn bs.length - 0).toNat (List.drop (Int.toNat 0) bs)
def wideN (g : List Int × Fp) : List Int × Fp := (List.take ((g.1.length : Int) - wn g.1.length).toNat (List.drop (wn g.1.length).toNat g.1), g.2 * R2 + dec (lim 6 (val (enc (R2 : Fp)) * val (lim 6 (num (wch g.1))) * rinv % M)))
/-- How many bytes are taken behind k of m rounds. -/
def wp (len k : Nat) : Nat := len - 48 * ((len + 47) / 48 - k)
def wideG (bs : List Int) (k : Nat) : List Int × Fp := (bs.drop (wp bs.length k), zm (num (bs.take (wp bs.length k))))

theorem wn_eq {L : Nat} (h0 : 0 < L) (h1 : L < 4611686018427387904) : wn L = (((L - 1) % 48 + 1 : Nat) : Int) := by
  unfold wn
  rw [wrap_i64' (a := (L : Int) - 1) (by omega) (by omega), Int.tmod_eq_emod_of_nonneg (by omega), wrap_i64' (by omega) (by omega)]
  omega

theorem wide_next {bs : List Int} (hb : Bs bs) (hl : bs.length < 4611686018427387904) {k : Nat} (hk : k < (bs.length + 47) / 48) :
    0 < bs.length - wp bs.length k ∧ wideN (wideG bs k) = wideG bs (k + 1) ∧ (wch (bs.drop (wp bs.length k))).length ≤ 48 ∧ 1 ≤ (bs.length - wp bs.length k - 1) % 48 + 1 ∧ (bs.length - wp bs.length k - 1) % 48 + 1 ≤ bs.length - wp bs.length k := by
  have hL : 0 < bs.length - wp bs.length k := by unfold wp; omega
  have hn : (bs.length - wp bs.length k - 1) % 48 + 1 = wp bs.length (k + 1) - wp bs.length k := by unfold wp; omega
  have hle : wp bs.length (k + 1) ≤ bs.length := by unfold wp; omega
  have hlt : wp bs.length k < wp bs.length (k + 1) := by unfold wp; omega
  have hlen : (bs.drop (wp bs.length k)).length = bs.length - wp bs.length k := List.length_drop
  have hwn : wn (bs.drop (wp bs.length k)).length = ((wp bs.length (k + 1) - wp bs.length k : Nat) : Int) := by
    rw [wn_eq (by omega) (by omega), hlen, hn]
  have hch : wch (bs.drop (wp bs.length k)) = (bs.drop (wp bs.length k)).take (wp bs.length (k + 1) - wp bs.length k) := by
    unfold wch
    rw [hwn]
    congr 1
  refine ⟨hL, ?_, ?_, by omega, by omega⟩
  · unfold wideN wideG
    simp only
    rw [hwn, hch]
    have e1 : List.take (((bs.drop (wp bs.length k)).length : Int) - ((wp bs.length (k + 1) - wp bs.length k : Nat) : Int)).toNat (List.drop ((wp bs.length (k + 1) - wp bs.length k : Nat) : Int).toNat (bs.drop (wp bs.length k))) = bs.drop (wp bs.length (k + 1)) := by
      rw [Int.toNat_natCast, List.drop_drop, show wp bs.length k + (wp bs.length (k + 1) - wp bs.length k) = wp bs.length (k + 1) by omega]
      exact List.take_of_length_le (by simp; omega)
    rw [e1]
    congr 1
    have hcb : Bs ((bs.drop (wp bs.length k)).take (wp bs.length (k + 1) - wp bs.length k)) := Bs_take (Bs_drop hb _) _
    have hcl : ((bs.drop (wp bs.length k)).take (wp bs.length (k + 1) - wp bs.length k)).length = wp bs.length (k + 1) - wp bs.length k := by simp; omega
    have hc48 : wp bs.length (k + 1) - wp bs.length k ≤ 48 := by omega
    have hnb := num_bd hcb
    rw [hcl] at hnb
    have hpl : p256 (wp bs.length (k + 1) - wp bs.length k) ≤ pw 6 := by
      rw [← p256_8, show 8 * 6 = (wp bs.length (k + 1) - wp bs.length k) + (48 - (wp bs.length (k + 1) - wp bs.length k)) by omega, p256_add]
      have h1 := p256_pos (wp bs.length (k + 1) - wp bs.length k)
      have h2 := p256_pos (48 - (wp bs.length (k + 1) - wp bs.length k))
      have := Int.mul_le_mul_of_nonneg_left (show 1 ≤ p256 (48 - (wp bs.length (k + 1) - wp bs.length k)) by omega) (Int.le_of_lt h1)
      omega
    rw [show lim 6 (val (enc (R2 : Fp)) * val (lim 6 (num ((bs.drop (wp bs.length k)).take (wp bs.length (k + 1) - wp bs.length k)))) * rinv % M) = enc (zm (val (lim 6 (num ((bs.drop (wp bs.length k)).take (wp bs.length (k + 1) - wp bs.length k))))) : Fp) from shift_enc (M := Mp), val_lim_of hnb.1 (by omega), dec_enc]
    show zm _ * zm (pw 6) + zm _ = zm _
    rw [zm_mul, zm_add]
    congr 1
    have hsplit : bs.take (wp bs.length (k + 1)) = bs.take (wp bs.length k) ++ (bs.drop (wp bs.length k)).take (wp bs.length (k + 1) - wp bs.length k) := by
      rw [← List.take_add, show wp bs.length k + (wp bs.length (k + 1) - wp bs.length k) = wp bs.length (k + 1) by omega]
    rw [hsplit, num_append, hcl]
    by_cases h0 : wp bs.length k = 0
    · rw [h0]; simp [num]
    · rw [show wp bs.length (k + 1) - wp bs.length k = 48 by unfold wp at h0 ⊢; omega, ← p256_8]
  · rw [hch]; simp; omega

abbrev preWide : HL [.sl (.int .u8)] → Prop := fun (bs, _) => Bs bs ∧ List.length bs < 4611686018427387904
abbrev outWide : HL [.sl (.int .u8)] → HO [.val .fp] := fun (bs, _) => ((zm (num bs) : Fp), ())
theorem fn_wide : FnOk Tryd.prog 48 [.sl (.int .u8)] [.val .fp] noG preWide outWide := by
  have hsp : SpecsOk Tryd.prog (sps [spWords, spMul, spAdd, spShift, spTimes]) := sps_cons (fnSpec_ok fn_words) (sps_cons (fnSpec_ok fn_mul) (sps_cons (fnSpec_ok fn_add) (sps_cons (fnSpec_ok fn_shift) (sps_cons (fnSpec_ok fn_times) sps_nil))))
  refine fn_of_tr (sp := sps [spWords, spMul, spAdd, spShift, spTimes]) ent_wide (by decide) (by decide) (by kernel_rfl) ?_
  rintro w M0 ⟨bs, ⟨⟩⟩ _ ⟨hb, hl⟩
  have hb : Bs bs := hb
  have hl : bs.length < 4611686018427387904 := hl
  show Tr _ _ _ _ _ _ _
  refine tr_cut hsp mixed 3 (wideI (bs, 0)) True ?_ (fun _ => ?_)
  · refine vcx (X := True ∧ (wideI (bs, 0)).triv True) (by kernel_rfl) ⟨trivial, triv_intro trivial⟩
  have e0 : (bs, (0 : Fp)) = wideG bs 0 := by
    unfold wideG
    rw [show wp bs.length 0 = 0 by unfold wp; omega]
    rfl
  rw [e0]
  refine tr_count hsp mixed wideI (wideG bs) ((bs.length + 47) / 48) wideN wideI (c := nthC (codeOf Tryd.f48) 3) (by kernel_rfl) (by kernel_rfl) (le_of_proj (by kernel_rfl) (by kernel_rfl) trivial)
    (fun k hk => (wide_next hb hl hk).2.1) ?_ ?_
  · intro k hk
    have hlen : (wideG bs k).1.length = bs.length - wp bs.length k := by unfold wideG; simp
    have hbs : Bs (wideG bs k).1 := Bs_drop hb _
    have hnx : k < (bs.length + 47) / 48 → (wch (wideG bs k).1).length ≤ 48 := fun h => (wide_next hb hl h).2.2.1
    have hb1 : k < (bs.length + 47) / 48 → 1 ≤ ((wideG bs k).1.length - 1) % 48 + 1 ∧ ((wideG bs k).1.length - 1) % 48 + 1 ≤ (wideG bs k).1.length := fun h => by rw [hlen]; exact (wide_next hb hl h).2.2.2
    have hiff : k < (bs.length + 47) / 48 ↔ 0 < (wideG bs k).1.length := by rw [hlen]; unfold wp; omega
    have hll : (wideG bs k).1.length < 4611686018427387904 := by omega
    clear hlen
    generalize wideG bs k = g at *
    obtain ⟨cs, x⟩ := g
    simp only at hbs hnx hb1 hiff hll
    refine vcx (X := ((decide ((cs.length : Int) > 0) = true → (48 : Int) ≠ 0 ∧ True ∧ (0 ≤ wn cs.length ∧ wn cs.length ≤ (cs.length : Int)) ∧ preWords (wch cs, ()) ∧ preTimes (enc (R2 : Fp), lim 6 (num (wch cs)), ()) ∧ Canon Mp (lim 6 (val (enc (R2 : Fp)) * val (lim 6 (num (wch cs))) * rinv % M)) ∧ True ∧ (0 ≤ wn cs.length ∧ wn cs.length ≤ (cs.length : Int)) ∧ (wideI (wideN (cs, x))).triv (k < (bs.length + 47) / 48)) ∧
      (decide ((cs.length : Int) > 0) = false → (wideI (cs, x)).triv (k = (bs.length + 47) / 48)))) (by kernel_rfl) ?_
    refine ⟨fun h => ?_, fun h => triv_intro ?_⟩
    · have h0 : 0 < cs.length := by have := of_decide_eq_true h; omega
      have hk' := hiff.2 h0
      have h1 := hb1 hk'
      have hw := wn_eq h0 hll
      have hch : Bs (wch cs) := by unfold wch; exact Bs_take (Bs_drop hbs _) _
      refine ⟨by decide, trivial, by rw [hw]; omega, ⟨hch, hnx hk'⟩, ⟨enc_ws _, lim_ws _ _, (enc_canon _).2.2⟩, ?_, trivial, by rw [hw]; omega, triv_intro hk'⟩
      rw [show lim 6 (val (enc (R2 : Fp)) * val (lim 6 (num (wch cs))) * rinv % M) = enc (zm (val (lim 6 (num (wch cs)))) : Fp) from shift_enc (M := Mp)]
      exact enc_canon _
    · have := of_decide_eq_false h
      omega
  refine tr_vc hsp mixed _ _ ?_
  refine vcx (X := ((wideG bs ((bs.length + 47) / 48)).2, ()) = outWide (bs, ())) (by kernel_rfl) ?_
  unfold wideG
  rw [show wp bs.length ((bs.length + 47) / 48) = bs.length by unfold wp; omega, List.take_length]
noncomputable def spWide : Nat × Eng.Spec := (48, fnSpec [.sl (.int .u8)] [.val .fp] preWide outWide)
end Go.Proofs.YtbfimfdhmggieaaDoor.fp
/- h2c: small numbers, great numbers, polynomials. -/
namespace Go.Proofs.YtbfimfdhmggieaaDoor.h2c
set_option maxRecDepth 100000
open Go Go.Eng Go.RowKit Cr Go.Proofs.YtbfimfdhmggieaaDoor Go.Proofs.YtbfimfdhmggieaaDoor.fp2
abbrev iK : Kd := .int .i64
abbrev pt2 : Kd := .pair f2 f2
def smA (n : Int) : Prop := -1000000 ≤ n ∧ n ≤ 1000000
theorem ent_sm1 : enters Tryd.prog 105 Tryd.f105 := enters_mk (by kernel_rfl) (by kernel_rfl) (by kernel_rfl)
theorem fn_sm1 : FnOk Tryd.prog 105 [iK] [.val .fp] noG (fun (n, _) => smA n) (fun (n, _) => ((zmp n : Fp), ())) := by
  refine fn_of_vc (sp := sps [fp.spOf, fp.spNeg]) (sps_cons (fnSpec_ok fp.fn_of) (sps_cons (fnSpec_ok fp.fn_neg) sps_nil)) mixed ent_sm1 (by decide) (by decide) ?_
  rintro w M0 ⟨n, ⟨⟩⟩
  revert n
  intro (n : Int) _ hp
  have hp : -1000000 ≤ n ∧ n ≤ 1000000 := hp
  refine vcx (X := ((decide (n < (0 : Int)) = true → U64 (IntKind.u64.wrap (IntKind.i64.wrap ((0 : Int) - n))) ∧ True ∧ (-zmp (IntKind.u64.wrap (IntKind.i64.wrap ((0 : Int) - n))), ()) = (zmp n, ())) ∧ (decide (n < (0 : Int)) = false → U64 (IntKind.u64.wrap n) ∧ (zmp (IntKind.u64.wrap n), ()) = (zmp n, ())))) (by kernel_rfl) ?_
  refine ⟨fun h => ?_, fun h => ?_⟩
  · have h : n < 0 := of_decide_eq_true h
    have e1 : IntKind.i64.wrap ((0 : Int) - n) = -n := by rw [wrap_i64' (by omega) (by omega)]; omega
    have e2 : IntKind.u64.wrap (-n) = -n := by rw [wrap_u64' (-n)]; omega
    rw [e1, e2]
    refine ⟨⟨by omega, by omega⟩, trivial, ?_⟩
    rw [zm_neg, Int.neg_neg]
  · have h : ¬ n < 0 := of_decide_eq_false h
    have e2 : IntKind.u64.wrap n = n := by rw [wrap_u64' n]; omega
    rw [e2]
    exact ⟨⟨by omega, by omega⟩, rfl⟩
noncomputable def spSm1 : Nat × Eng.Spec := (105, fnSpec [iK] [.val .fp] (fun (n, _) => smA n) (fun (n, _) => ((zmp n : Fp), ())))
theorem ent_sm2 : enters Tryd.prog 106 Tryd.f106 := enters_mk (by kernel_rfl) (by kernel_rfl) (by kernel_rfl)
abbrev f116 : Kd := .fn 105
theorem fn_sm2 : FnOk Tryd.prog 106 [iK, iK, .ptr f116] [.val f2] noG (fun (m, n, _) => smA m ∧ smA n) (fun (m, n, _) => (((zmp m, zmp n) : F2), ())) := by
  refine fn_of_vc (sp := sps [spSm1]) (sps_cons (fnSpec_ok fn_sm1) sps_nil) mixed ent_sm2 (by decide) (by decide) ?_
  rintro w M0 ⟨m, n, c, ⟨⟩⟩
  revert m n
  intro (m : Int) (n : Int) _ hp
  have hp : smA m ∧ smA n := hp
  refine vcx (X := ((0 : Nat) < [c].length ∧ smA m ∧ (0 : Nat) < [c].length ∧ smA n ∧ ((zmp m, zmp n), ()) = ((zmp m, zmp n), ()))) (by kernel_rfl) ?_
  exact ⟨Nat.zero_lt_one, hp.1, Nat.zero_lt_one, hp.2, rfl⟩
noncomputable def spSm2 : Nat × Eng.Spec := (106, fnSpec [iK, iK, .ptr f116] [.val f2] (fun (m, n, _) => smA m ∧ smA n) (fun (m, n, _) => (((zmp m, zmp n) : F2), ())))
abbrev cloSm : Kd := .cap (.fn 106) f116
theorem ent_small : enters Tryd.prog 53 Tryd.f53 := enters_mk (by kernel_rfl) (by kernel_rfl) (by kernel_rfl)
theorem fn_small : FnOk Tryd.prog 53 [] [.val cloSm] noG (fun _ => True) (fun _ => (((), ()), ())) := by
  refine fn_of_vc (sp := sps []) sps_nil mixed ent_small (by decide) (by decide) ?_
  rintro w M0 ⟨⟩ _ _
  refine vcx (X := ((((), ()), ()) = (((), ()), ()))) (by kernel_rfl) ?_
  trivial
noncomputable def spSmall : Nat × Eng.Spec := (53, fnSpec [] [.val cloSm] (fun _ => True) (fun _ => (((), ()), ())))
end Go.Proofs.YtbfimfdhmggieaaDoor.h2c
/- h2c: great numbers. -/
namespace Go.Proofs.YtbfimfdhmggieaaDoor.h2c
set_option maxRecDepth 100000
open Go Go.Eng Go.RowKit Cr Go.Proofs.YtbfimfdhmggieaaDoor Go.Proofs.YtbfimfdhmggieaaDoor.fp2
theorem ent_great : enters Tryd.prog 114 Tryd.f114 := enters_mk (by kernel_rfl) (by kernel_rfl) (by kernel_rfl)
noncomputable def grI (s : ByteArray) (g : Int × List Int) : St := mkSt Tryd.f114.ntmps 40 [(0, .is (.one (.v (.string s)))), (2, .is (.one (.ptr 0 0))), (3, .is (.one (.ptr 8 0))), (8, .is (.one (.v (.string s)))), (9, sI .i64 s.size), (10, sI .i64 g.1)] [(8, [.ints .u8 48 g.2]), (0, [.row .fp 1 [(0 : Fp)]])]
/-- A digit's value. -/
def grD (s : ByteArray) (k : Nat) : Int := if IntKind.u8.wrap ((sbytes s).getD k 0 - 48) > 9 then IntKind.u8.wrap (IntKind.u8.wrap ((sbytes s).getD k 0 - 97) + 10) else IntKind.u8.wrap ((sbytes s).getD k 0 - 48)
def grN (s : ByteArray) (k : Nat) (xs : List Int) : List Int := xs.set (k / 2) (bitOp .or .u8 (IntKind.u8.wrap (xs.getD (k / 2) 0 * 2 ^ min (Int.toNat 4) IntKind.u8.bits)) (grD s k))
def grG (s : ByteArray) (k : Nat) : List Int := it (fun k xs => grN s k xs) (List.replicate 48 0) k
/-- Digits that make a number. -/
def grOk (s : ByteArray) : Bool := decide (s.size ≤ 96) && (List.take 48 (grG s s.size)).all fun x => decide (0 ≤ x) && decide (x < 256)
theorem grOk_1 {s : ByteArray} (h : grOk s = true) : s.size ≤ 96 ∧ Bs (List.take 48 (grG s s.size)) := by
  unfold grOk at h
  rw [Bool.and_eq_true] at h
  refine ⟨of_decide_eq_true h.1, fun x hx => ?_⟩
  have h2 := List.all_eq_true.1 h.2 x hx
  rw [Bool.and_eq_true] at h2
  exact ⟨of_decide_eq_true h2.1, of_decide_eq_true h2.2⟩
noncomputable def gro (s : ByteArray) : Fp := opq (fp.rdFp (List.take 48 (grG s s.size))).1
theorem fn_great : FnOk Tryd.prog 114 [.str] [.val .fp] noG (fun (s, _) => grOk s = true) (fun (s, _) => (gro s, ())) := by
  have hsp : SpecsOk Tryd.prog (sps [fp.spRead]) := sps_cons (fnSpec_ok fp.fn_read) sps_nil
  refine fn_of_tr (sp := sps [fp.spRead]) ent_great (by decide) (by decide) (by kernel_rfl) ?_
  rintro w M0 ⟨s, ⟨⟩⟩
  revert s
  intro (s : ByteArray) _ hl
  have hg : grOk s = true := hl
  have hl := (grOk_1 hg).1
  show Tr _ _ _ _ _ _ _
  refine tr_cut hsp mixed 3 (grI s (0, List.replicate 48 0)) True ?_ (fun _ => ?_)
  · refine vcx (X := ((grI s ((0 : Int), List.replicate (48 : Nat) (0 : Int))).triv True)) (by kernel_rfl) ?_
    exact triv_intro trivial
  refine tr_while hsp mixed noSw (fun σ => (rdS (.int .i64) 10 σ, rdB (.arr 48 (.int .u8)) 8 σ)) (grI s) (fun g => ∃ k : Nat, k ≤ s.size ∧ g.1 = (k : Int) ∧ g.2 = grG s k) (fun g => s.size - g.1.toNat)
    (fun σ => (rdS (.int .i64) 10 σ, rdB (.arr 48 (.int .u8)) 8 σ)) (grI s) (fun g => g.2 = grG s s.size) (0, List.replicate 48 0) (c := nthC (codeOf Tryd.f114) 3) (by kernel_rfl) (by kernel_rfl) (le_of_proj (by kernel_rfl) (by kernel_rfl) ?_) ?_ ?_
  · exact ⟨0, Nat.zero_le _, rfl, rfl⟩
  · rintro ⟨i, xs⟩ hj
    revert i xs
    intro (i : Int) (xs : List Int) ⟨k, hk, ei, ex⟩
    have ei : i = (k : Int) := ei
    have ex : xs = grG s k := ex
    subst ei
    have e2 : IntKind.i64.wrap ((k : Int).tdiv 2) = ((k / 2 : Nat) : Int) := by
      rw [Int.tdiv_eq_ediv_of_nonneg (by omega), wrap_i64' (by omega) (by omega)]; rfl
    refine vcx (X := ((decide ((↑k : Int) < (↑s.size : Int)) = true → ((0 : Int) ≤ (↑k : Int) ∧ (↑k : Int) < (↑s.size : Int)) ∧ (decide (IntKind.u8.wrap ((sbytes s).getD (↑k : Int).toNat (0 : Int) - (48 : Int)) > (9 : Int)) = true → ((0 : Int) ≤ (↑k : Int) ∧ (↑k : Int) < (↑s.size : Int)) ∧ ((2 : Int) = (0 : Int) → False) ∧ ((2 : Int) = (0 : Int) → False) ∧ ((0 : Int) ≤ IntKind.i64.wrap ((↑k : Int).tdiv (2 : Int)) ∧ IntKind.i64.wrap ((↑k : Int).tdiv (2 : Int)) < (↑(48 : Nat) : Int)) ∧ (IntKind.i64.wrap ((↑k : Int).tdiv (2 : Int))).toNat < (48 : Nat) ∧ (0 : Int) ≤ (4 : Int) ∧ ((0 : Int) ≤ IntKind.i64.wrap ((↑k : Int).tdiv (2 : Int)) ∧ IntKind.i64.wrap ((↑k : Int).tdiv (2 : Int)) < (↑(48 : Nat) : Int)) ∧ (IntKind.i64.wrap ((↑k : Int).tdiv (2 : Int))).toNat < (48 : Nat) ∧ (grI s (IntKind.i64.wrap ((↑k : Int) + (1 : Int)), xs.set (IntKind.i64.wrap ((↑k : Int).tdiv (2 : Int))).toNat (bitOp BinOp.or IntKind.u8 (IntKind.u8.wrap (xs.getD (IntKind.i64.wrap ((↑k : Int).tdiv (2 : Int))).toNat (0 : Int) * (2 : Int) ^ min (4 : Nat) IntKind.u8.bits)) (IntKind.u8.wrap (IntKind.u8.wrap ((sbytes s).getD (↑k : Int).toNat (0 : Int) - (97 : Int)) + (10 : Int)))))).triv ((∃ k_1, k_1 ≤ s.size ∧ IntKind.i64.wrap ((↑k : Int) + (1 : Int)) = (↑k_1 : Int) ∧ xs.set (IntKind.i64.wrap ((↑k : Int).tdiv (2 : Int))).toNat (bitOp BinOp.or IntKind.u8 (IntKind.u8.wrap (xs.getD (IntKind.i64.wrap ((↑k : Int).tdiv (2 : Int))).toNat (0 : Int) * (2 : Int) ^ min (4 : Nat) IntKind.u8.bits)) (IntKind.u8.wrap (IntKind.u8.wrap ((sbytes s).getD (↑k : Int).toNat (0 : Int) - (97 : Int)) + (10 : Int)))) = grG s k_1) ∧ s.size - (IntKind.i64.wrap ((↑k : Int) + (1 : Int))).toNat < s.size - (↑k : Int).toNat)) ∧ (decide (IntKind.u8.wrap ((sbytes s).getD (↑k : Int).toNat (0 : Int) - (48 : Int)) > (9 : Int)) = false → ((2 : Int) = (0 : Int) → False) ∧ ((2 : Int) = (0 : Int) → False) ∧ ((0 : Int) ≤ IntKind.i64.wrap ((↑k : Int).tdiv (2 : Int)) ∧ IntKind.i64.wrap ((↑k : Int).tdiv (2 : Int)) < (↑(48 : Nat) : Int)) ∧ (IntKind.i64.wrap ((↑k : Int).tdiv (2 : Int))).toNat < (48 : Nat) ∧ (0 : Int) ≤ (4 : Int) ∧ ((0 : Int) ≤ IntKind.i64.wrap ((↑k : Int).tdiv (2 : Int)) ∧ IntKind.i64.wrap ((↑k : Int).tdiv (2 : Int)) < (↑(48 : Nat) : Int)) ∧ (IntKind.i64.wrap ((↑k : Int).tdiv (2 : Int))).toNat < (48 : Nat) ∧ (grI s (IntKind.i64.wrap ((↑k : Int) + (1 : Int)), xs.set (IntKind.i64.wrap ((↑k : Int).tdiv (2 : Int))).toNat (bitOp BinOp.or IntKind.u8 (IntKind.u8.wrap (xs.getD (IntKind.i64.wrap ((↑k : Int).tdiv (2 : Int))).toNat (0 : Int) * (2 : Int) ^ min (4 : Nat) IntKind.u8.bits)) (IntKind.u8.wrap ((sbytes s).getD (↑k : Int).toNat (0 : Int) - (48 : Int)))))).triv ((∃ k_1, k_1 ≤ s.size ∧ IntKind.i64.wrap ((↑k : Int) + (1 : Int)) = (↑k_1 : Int) ∧ xs.set (IntKind.i64.wrap ((↑k : Int).tdiv (2 : Int))).toNat (bitOp BinOp.or IntKind.u8 (IntKind.u8.wrap (xs.getD (IntKind.i64.wrap ((↑k : Int).tdiv (2 : Int))).toNat (0 : Int) * (2 : Int) ^ min (4 : Nat) IntKind.u8.bits)) (IntKind.u8.wrap ((sbytes s).getD (↑k : Int).toNat (0 : Int) - (48 : Int)))) = grG s k_1) ∧ s.size - (IntKind.i64.wrap ((↑k : Int) + (1 : Int))).toNat < s.size - (↑k : Int).toNat))) ∧ (decide ((↑k : Int) < (↑s.size : Int)) = false → (grI s ((↑k : Int), xs)).triv (xs = grG s s.size)))) (by kernel_rfl) ?_
    refine ⟨fun h => ?_, fun h => triv_intro ?_⟩
    · have hlt : k < s.size := by have := of_decide_eq_true h; omega
      have b1 : (0 : Int) ≤ (k : Int) ∧ (k : Int) < (s.size : Int) := ⟨by omega, by omega⟩
      have z2 : (2 : Int) = 0 → False := by decide
      have b2 : (0 : Int) ≤ ((k / 2 : Nat) : Int) ∧ ((k / 2 : Nat) : Int) < ((48 : Nat) : Int) := ⟨by omega, by omega⟩
      have b3 : k / 2 < 48 := by omega
      rw [e2]
      simp only [Int.toNat_natCast]
      refine ⟨b1, fun h2 => ⟨b1, z2, z2, b2, b3, by decide, b2, b3, triv_intro ⟨⟨k + 1, hlt, wrap_succ (by omega), ?_⟩, ?_⟩⟩, fun h2 => ⟨z2, z2, b2, b3, by decide, b2, b3, triv_intro ⟨⟨k + 1, hlt, wrap_succ (by omega), ?_⟩, ?_⟩⟩⟩
      · show _ = grN s k (grG s k)
        rw [grN, grD, if_pos (of_decide_eq_true h2), ← ex]; rfl
      · rw [wrap_succ (by omega)]; omega
      · show _ = grN s k (grG s k)
        rw [grN, grD, if_neg (of_decide_eq_false h2), ← ex]; rfl
      · rw [wrap_succ (by omega)]; omega
    · have hk2 : k = s.size := by have := of_decide_eq_false h; omega
      rw [← hk2]; exact ex
  rintro ⟨i, xs⟩ hx
  revert i xs
  intro (i : Int) (xs : List Int) (hx : xs = grG s s.size)
  refine tr_vc hsp mixed _ _ ?_
  refine vcx (X := ((0 : Nat) + (48 : Nat) ≤ (48 : Nat) ∧ fp.preRead (List.take (48 : Nat) xs, ()) ∧ ((fp.rdFp (List.take (48 : Nat) xs)).fst, ()) = (gro s, ()))) (by kernel_rfl) ?_
  refine ⟨Nat.le_refl _, by rw [hx]; exact (grOk_1 hg).2, ?_⟩
  rw [gro, opq_eq, hx]
noncomputable def spGreat : Nat × Eng.Spec := (114, fnSpec [.str] [.val .fp] (fun (s, _) => grOk s = true) (fun (s, _) => (gro s, ())))
theorem ent_acr1 : enters Tryd.prog 113 Tryd.f113 := enters_mk (by kernel_rfl) (by kernel_rfl) (by kernel_rfl)
theorem fn_acr1 : FnOk Tryd.prog 113 [.str, .str] [.val f2] noG (fun (a, b, _) => grOk a = true ∧ grOk b = true) (fun (a, b, _) => (((gro a, gro b) : F2), ())) := by
  refine fn_of_vc (sp := sps [spGreat]) (sps_cons (fnSpec_ok fn_great) sps_nil) mixed ent_acr1 (by decide) (by decide) ?_
  rintro w M0 ⟨a, b, ⟨⟩⟩
  revert a b
  intro (a : ByteArray) (b : ByteArray) _ hp
  have hp : grOk a = true ∧ grOk b = true := hp
  refine vcx (X := (grOk a = true ∧ grOk b = true ∧ ((gro a, gro b), ()) = ((gro a, gro b), ()))) (by kernel_rfl) ?_
  exact ⟨hp.1, hp.2, rfl⟩
noncomputable def spAcr1 : Nat × Eng.Spec := (113, fnSpec [.str, .str] [.val f2] (fun (a, b, _) => grOk a = true ∧ grOk b = true) (fun (a, b, _) => (((gro a, gro b) : F2), ())))
theorem ent_value : enters Tryd.prog 58 Tryd.f58 := enters_mk (by kernel_rfl) (by kernel_rfl) (by kernel_rfl)
noncomputable def hvo (x : F2) (l : List F2) : F2 := opq (hv x l)
noncomputable def vaI (x : F2) (l : List F2) (g : Int × F2) : St := mkSt Tryd.f58.ntmps 48 [(1, .is (.one (.ro f2 l))), (2, .is (.one (.ptr 0 0))), (4, .is (.one (.ptr 8 0))), (5, .is (.one (.ptr 16 0))), (6, sI .i64 g.1)] [(16, cellsOf f2 g.2), (8, cellsOf f2 (0 : F2)), (0, cellsOf f2 x)]
theorem fn_value : FnOk Tryd.prog 58 [f2, .sl f2] [.val f2] noG (fun (_, l, _) => List.length l ≤ 1048576) (fun (x, l, _) => (hvo x l, ())) := by
  have hsp : SpecsOk Tryd.prog (sps [fp2.spMul, fp2.spAdd]) := sps_cons (fnSpec_ok fp2.fn_mul) (sps_cons (fnSpec_ok fp2.fn_add) sps_nil)
  refine fn_of_tr (sp := sps [fp2.spMul, fp2.spAdd]) ent_value (by decide) (by decide) (by kernel_rfl) ?_
  rintro w M0 ⟨x, l, ⟨⟩⟩
  revert x l
  intro (x : F2) (l : List F2) _ hl
  have hl : l.length ≤ 1048576 := hl
  show Tr _ _ _ _ _ _ _
  refine tr_cut hsp mixed 3 (vaI x l ((l.length : Int) - 1, 0)) True ?_ (fun _ => ?_)
  · have hw : IntKind.i64.wrap ((l.length : Int) - 1) = (l.length : Int) - 1 := wrap_i64' (by omega) (by omega)
    rw [← hw]
    refine vcx (X := ((vaI x l (IntKind.i64.wrap ((↑l.length : Int) - (1 : Int)), (0 : F2))).triv True)) (by kernel_rfl) ?_
    exact triv_intro trivial
  refine tr_while hsp mixed noSw (fun σ => (rdS (.int .i64) 6 σ, rdB f2 16 σ)) (vaI x l) (fun g => ∃ k : Nat, k ≤ l.length ∧ g.1 = (k : Int) - 1 ∧ g.2 = hv x (l.drop k)) (fun g => (g.1 + 1).toNat)
    (fun σ => (rdS (.int .i64) 6 σ, rdB f2 16 σ)) (vaI x l) (fun g => g.2 = hv x l) ((l.length : Int) - 1, 0) (c := nthC (codeOf Tryd.f58) 3) (by kernel_rfl) (by kernel_rfl) (le_of_proj (by kernel_rfl) (by kernel_rfl) ?_) ?_ ?_
  · exact ⟨l.length, Nat.le_refl _, rfl, by rw [List.drop_length]; rfl⟩
  · rintro ⟨i, s⟩ hj
    revert i s
    intro (i : Int) (s : F2) ⟨k, hk, ei, es⟩
    have ei : i = (k : Int) - 1 := ei
    have es : s = hv x (l.drop k) := es
    refine vcx (X := ((decide (i ≥ (0 : Int)) = true → True ∧ ((0 : Int) ≤ i ∧ i < (↑l.length : Int)) ∧ i.toNat < l.length ∧ True ∧ (vaI x l (IntKind.i64.wrap (i - (1 : Int)), s * x + l.getD i.toNat ((0 : Fp), (0 : Fp)))).triv ((∃ k, k ≤ l.length ∧ IntKind.i64.wrap (i - (1 : Int)) = (↑k : Int) - (1 : Car (Kd.int IntKind.i64)) ∧ s * x + l.getD i.toNat ((0 : Fp), (0 : Fp)) = hv x (List.drop k l)) ∧ Int.toNat (IntKind.i64.wrap (i - (1 : Int)) + (1 : Car (Kd.int IntKind.i64))) < Int.toNat (i + (1 : Car (Kd.int IntKind.i64))))) ∧ (decide (i ≥ (0 : Int)) = false → (vaI x l (i, s)).triv (s = hv x l)))) (by kernel_rfl) ?_
    refine ⟨fun h => ?_, fun h => triv_intro ?_⟩
    · have h0 : 0 ≤ i := of_decide_eq_true h
      obtain ⟨j, hj⟩ : ∃ j, k = j + 1 := ⟨k - 1, by omega⟩
      have e1 : i.toNat = j := by omega
      have e2 : IntKind.i64.wrap (i - 1) = (j : Int) - 1 := by rw [wrap_i64' (by omega) (by omega)]; omega
      have hlt : j < l.length := by omega
      have hd : l.drop j = l[j] :: l.drop (j + 1) := List.drop_eq_getElem_cons hlt
      have hg : l.getD j ((0 : Fp), (0 : Fp)) = l[j] := by simp [List.getD_eq_getElem?_getD, hlt]
      rw [e2, e1, hg]
      refine ⟨trivial, ⟨h0, by omega⟩, hlt, trivial, triv_intro ⟨⟨j, by omega, rfl, ?_⟩, by omega⟩⟩
      rw [hd, es, hj]; rfl
    · have h0 : ¬ 0 ≤ i := of_decide_eq_false h
      have hk0 : k = 0 := by omega
      rw [es, hk0]; rfl
  rintro ⟨i, s⟩ hx
  revert i s
  intro (i : Int) (s : F2) (hx : s = hv x l)
  refine tr_vc hsp mixed _ _ ?_
  refine vcx (X := ((s, ()) = (hvo x l, ()))) (by kernel_rfl) ?_
  rw [hvo, opq_eq, hx]
noncomputable def spValue : Nat × Eng.Spec := (58, fnSpec [f2, .sl f2] [.val f2] (fun (_, l, _) => List.length l ≤ 1048576) (fun (x, l, _) => (hvo x l, ())))
end Go.Proofs.YtbfimfdhmggieaaDoor.h2c
/- h2c: across, Map. -/
namespace Go.Proofs.YtbfimfdhmggieaaDoor.h2c
set_option maxRecDepth 100000
open Go Go.Eng Go.RowKit Cr Go.Proofs.YtbfimfdhmggieaaDoor Go.Proofs.YtbfimfdhmggieaaDoor.fp2
def balH2c1 : ByteArray := (ByteArray.mk (([(48 : UInt8), (53 : UInt8), (99 : UInt8), (55 : UInt8), (53 : UInt8), (57 : UInt8), (53 : UInt8), (48 : UInt8), (55 : UInt8), (101 : UInt8), (56 : UInt8), (101 : UInt8), (51 : UInt8), (51 : UInt8), (51 : UInt8), (101 : UInt8), (98 : UInt8), (98 : UInt8), (53 : UInt8), (98 : UInt8), (55 : UInt8), (97 : UInt8), (57 : UInt8), (97 : UInt8), (52 : UInt8), (55 : UInt8), (100 : UInt8), (55 : UInt8), (101 : UInt8), (100 : UInt8), (56 : UInt8), (53 : UInt8), (51 : UInt8), (50 : UInt8), (99 : UInt8), (53 : UInt8), (50 : UInt8), (100 : UInt8), (51 : UInt8), (57 : UInt8), (102 : UInt8), (100 : UInt8), (51 : UInt8), (97 : UInt8), (48 : UInt8), (52 : UInt8), (50 : UInt8), (97 : UInt8)].append [(56 : UInt8), (56 : UInt8), (98 : UInt8), (53 : UInt8), (56 : UInt8), (52 : UInt8), (50 : UInt8), (51 : UInt8), (99 : UInt8), (53 : UInt8), (48 : UInt8), (97 : UInt8), (101 : UInt8), (49 : UInt8), (53 : UInt8), (100 : UInt8), (53 : UInt8), (99 : UInt8), (50 : UInt8), (54 : UInt8), (51 : UInt8), (56 : UInt8), (101 : UInt8), (51 : UInt8), (52 : UInt8), (51 : UInt8), (100 : UInt8), (57 : UInt8), (99 : UInt8), (55 : UInt8), (49 : UInt8), (99 : UInt8), (54 : UInt8), (50 : UInt8), (51 : UInt8), (56 : UInt8), (97 : UInt8), (97 : UInt8), (97 : UInt8), (97 : UInt8), (97 : UInt8), (97 : UInt8), (97 : UInt8), (97 : UInt8), (57 : UInt8), (55 : UInt8), (100 : UInt8), (54 : UInt8)]).toArray ))
def balH2c2 : ByteArray := (ByteArray.mk (([(48 : UInt8), (53 : UInt8), (99 : UInt8), (55 : UInt8), (53 : UInt8), (57 : UInt8), (53 : UInt8), (48 : UInt8), (55 : UInt8), (101 : UInt8), (56 : UInt8), (101 : UInt8), (51 : UInt8), (51 : UInt8), (51 : UInt8), (101 : UInt8), (98 : UInt8), (98 : UInt8), (53 : UInt8), (98 : UInt8), (55 : UInt8), (97 : UInt8), (57 : UInt8), (97 : UInt8), (52 : UInt8), (55 : UInt8), (100 : UInt8), (55 : UInt8), (101 : UInt8), (100 : UInt8), (56 : UInt8), (53 : UInt8), (51 : UInt8), (50 : UInt8), (99 : UInt8), (53 : UInt8), (50 : UInt8), (100 : UInt8), (51 : UInt8), (57 : UInt8), (102 : UInt8), (100 : UInt8), (51 : UInt8), (97 : UInt8), (48 : UInt8), (52 : UInt8), (50 : UInt8), (97 : UInt8)].append [(56 : UInt8), (56 : UInt8), (98 : UInt8), (53 : UInt8), (56 : UInt8), (52 : UInt8), (50 : UInt8), (51 : UInt8), (99 : UInt8), (53 : UInt8), (48 : UInt8), (97 : UInt8), (101 : UInt8), (49 : UInt8), (53 : UInt8), (100 : UInt8), (53 : UInt8), (99 : UInt8), (50 : UInt8), (54 : UInt8), (51 : UInt8), (56 : UInt8), (101 : UInt8), (51 : UInt8), (52 : UInt8), (51 : UInt8), (100 : UInt8), (57 : UInt8), (99 : UInt8), (55 : UInt8), (49 : UInt8), (99 : UInt8), (54 : UInt8), (50 : UInt8), (51 : UInt8), (56 : UInt8), (97 : UInt8), (97 : UInt8), (97 : UInt8), (97 : UInt8), (97 : UInt8), (97 : UInt8), (97 : UInt8), (97 : UInt8), (57 : UInt8), (55 : UInt8), (98 : UInt8), (101 : UInt8)]).toArray ))
def balH2c3 : ByteArray := (ByteArray.mk (([(48 : UInt8), (56 : UInt8), (97 : UInt8), (98 : UInt8), (48 : UInt8), (53 : UInt8), (102 : UInt8), (56 : UInt8), (98 : UInt8), (100 : UInt8), (100 : UInt8), (53 : UInt8), (52 : UInt8), (99 : UInt8), (100 : UInt8), (101 : UInt8), (49 : UInt8), (57 : UInt8), (48 : UInt8), (57 : UInt8), (51 : UInt8), (55 : UInt8), (101 : UInt8), (55 : UInt8), (54 : UInt8), (98 : UInt8), (99 : UInt8), (51 : UInt8), (101 : UInt8), (52 : UInt8), (52 : UInt8), (55 : UInt8), (99 : UInt8), (99 : UInt8), (50 : UInt8), (55 : UInt8), (99 : UInt8), (51 : UInt8), (100 : UInt8), (54 : UInt8), (102 : UInt8), (98 : UInt8), (100 : UInt8), (55 : UInt8), (48 : UInt8), (54 : UInt8), (51 : UInt8), (102 : UInt8)].append [(99 : UInt8), (100 : UInt8), (49 : UInt8), (48 : UInt8), (52 : UInt8), (54 : UInt8), (51 : UInt8), (53 : UInt8), (97 : UInt8), (55 : UInt8), (57 : UInt8), (48 : UInt8), (53 : UInt8), (50 : UInt8), (48 : UInt8), (99 : UInt8), (48 : UInt8), (97 : UInt8), (51 : UInt8), (57 : UInt8), (53 : UInt8), (53 : UInt8), (53 : UInt8), (52 : UInt8), (101 : UInt8), (53 : UInt8), (99 : UInt8), (54 : UInt8), (97 : UInt8), (97 : UInt8), (97 : UInt8), (97 : UInt8), (57 : UInt8), (51 : UInt8), (53 : UInt8), (52 : UInt8), (102 : UInt8), (102 : UInt8), (102 : UInt8), (102 : UInt8), (102 : UInt8), (102 : UInt8), (102 : UInt8), (102 : UInt8), (101 : UInt8), (51 : UInt8), (56 : UInt8), (100 : UInt8)]).toArray ))
def balH2c4 : ByteArray := (ByteArray.mk (([(48 : UInt8), (56 : UInt8), (97 : UInt8), (98 : UInt8), (48 : UInt8), (53 : UInt8), (102 : UInt8), (56 : UInt8), (98 : UInt8), (100 : UInt8), (100 : UInt8), (53 : UInt8), (52 : UInt8), (99 : UInt8), (100 : UInt8), (101 : UInt8), (49 : UInt8), (57 : UInt8), (48 : UInt8), (57 : UInt8), (51 : UInt8), (55 : UInt8), (101 : UInt8), (55 : UInt8), (54 : UInt8), (98 : UInt8), (99 : UInt8), (51 : UInt8), (101 : UInt8), (52 : UInt8), (52 : UInt8), (55 : UInt8), (99 : UInt8), (99 : UInt8), (50 : UInt8), (55 : UInt8), (99 : UInt8), (51 : UInt8), (100 : UInt8), (54 : UInt8), (102 : UInt8), (98 : UInt8), (100 : UInt8), (55 : UInt8), (48 : UInt8), (54 : UInt8), (51 : UInt8), (102 : UInt8)].append [(99 : UInt8), (100 : UInt8), (49 : UInt8), (48 : UInt8), (52 : UInt8), (54 : UInt8), (51 : UInt8), (53 : UInt8), (97 : UInt8), (55 : UInt8), (57 : UInt8), (48 : UInt8), (53 : UInt8), (50 : UInt8), (48 : UInt8), (99 : UInt8), (48 : UInt8), (97 : UInt8), (51 : UInt8), (57 : UInt8), (53 : UInt8), (53 : UInt8), (53 : UInt8), (52 : UInt8), (101 : UInt8), (53 : UInt8), (99 : UInt8), (54 : UInt8), (97 : UInt8), (97 : UInt8), (97 : UInt8), (97 : UInt8), (57 : UInt8), (51 : UInt8), (53 : UInt8), (52 : UInt8), (102 : UInt8), (102 : UInt8), (102 : UInt8), (102 : UInt8), (102 : UInt8), (102 : UInt8), (102 : UInt8), (102 : UInt8), (101 : UInt8), (51 : UInt8), (56 : UInt8), (102 : UInt8)]).toArray ))
def balH2c5 : ByteArray := (ByteArray.mk (([(49 : UInt8), (49 : UInt8), (53 : UInt8), (54 : UInt8), (48 : UInt8), (98 : UInt8), (102 : UInt8), (49 : UInt8), (55 : UInt8), (98 : UInt8), (97 : UInt8), (97 : UInt8), (57 : UInt8), (57 : UInt8), (98 : UInt8), (99 : UInt8), (51 : UInt8), (50 : UInt8), (49 : UInt8), (50 : UInt8), (54 : UInt8), (102 : UInt8), (99 : UInt8), (101 : UInt8), (100 : UInt8), (55 : UInt8), (56 : UInt8), (55 : UInt8), (99 : UInt8), (56 : UInt8), (56 : UInt8), (102 : UInt8), (57 : UInt8), (56 : UInt8), (52 : UInt8), (102 : UInt8), (56 : UInt8), (55 : UInt8), (97 : UInt8), (100 : UInt8), (102 : UInt8), (55 : UInt8), (97 : UInt8), (101 : UInt8), (48 : UInt8), (99 : UInt8), (55 : UInt8), (102 : UInt8)].append [(57 : UInt8), (97 : UInt8), (50 : UInt8), (48 : UInt8), (56 : UInt8), (99 : UInt8), (54 : UInt8), (98 : UInt8), (52 : UInt8), (102 : UInt8), (50 : UInt8), (48 : UInt8), (97 : UInt8), (52 : UInt8), (49 : UInt8), (56 : UInt8), (49 : UInt8), (52 : UInt8), (55 : UInt8), (50 : UInt8), (97 : UInt8), (97 : UInt8), (97 : UInt8), (57 : UInt8), (99 : UInt8), (98 : UInt8), (56 : UInt8), (100 : UInt8), (53 : UInt8), (53 : UInt8), (53 : UInt8), (53 : UInt8), (50 : UInt8), (54 : UInt8), (97 : UInt8), (57 : UInt8), (102 : UInt8), (102 : UInt8), (102 : UInt8), (102 : UInt8), (102 : UInt8), (102 : UInt8), (102 : UInt8), (102 : UInt8), (99 : UInt8), (55 : UInt8), (49 : UInt8), (101 : UInt8)]).toArray ))
def balH2c6 : ByteArray := (ByteArray.mk (([(49 : UInt8), (49 : UInt8), (53 : UInt8), (54 : UInt8), (48 : UInt8), (98 : UInt8), (102 : UInt8), (49 : UInt8), (55 : UInt8), (98 : UInt8), (97 : UInt8), (97 : UInt8), (57 : UInt8), (57 : UInt8), (98 : UInt8), (99 : UInt8), (51 : UInt8), (50 : UInt8), (49 : UInt8), (50 : UInt8), (54 : UInt8), (102 : UInt8), (99 : UInt8), (101 : UInt8), (100 : UInt8), (55 : UInt8), (56 : UInt8), (55 : UInt8), (99 : UInt8), (56 : UInt8), (56 : UInt8), (102 : UInt8), (57 : UInt8), (56 : UInt8), (52 : UInt8), (102 : UInt8), (56 : UInt8), (55 : UInt8), (97 : UInt8), (100 : UInt8), (102 : UInt8), (55 : UInt8), (97 : UInt8), (101 : UInt8), (48 : UInt8), (99 : UInt8), (55 : UInt8), (102 : UInt8)].append [(57 : UInt8), (97 : UInt8), (50 : UInt8), (48 : UInt8), (56 : UInt8), (99 : UInt8), (54 : UInt8), (98 : UInt8), (52 : UInt8), (102 : UInt8), (50 : UInt8), (48 : UInt8), (97 : UInt8), (52 : UInt8), (49 : UInt8), (56 : UInt8), (49 : UInt8), (52 : UInt8), (55 : UInt8), (50 : UInt8), (97 : UInt8), (97 : UInt8), (97 : UInt8), (57 : UInt8), (99 : UInt8), (98 : UInt8), (56 : UInt8), (100 : UInt8), (53 : UInt8), (53 : UInt8), (53 : UInt8), (53 : UInt8), (50 : UInt8), (54 : UInt8), (97 : UInt8), (57 : UInt8), (102 : UInt8), (102 : UInt8), (102 : UInt8), (102 : UInt8), (102 : UInt8), (102 : UInt8), (102 : UInt8), (102 : UInt8), (99 : UInt8), (55 : UInt8), (49 : UInt8), (97 : UInt8)]).toArray ))
def balH2c7 : ByteArray := (ByteArray.mk (([(49 : UInt8), (49 : UInt8), (53 : UInt8), (54 : UInt8), (48 : UInt8), (98 : UInt8), (102 : UInt8), (49 : UInt8), (55 : UInt8), (98 : UInt8), (97 : UInt8), (97 : UInt8), (57 : UInt8), (57 : UInt8), (98 : UInt8), (99 : UInt8), (51 : UInt8), (50 : UInt8), (49 : UInt8), (50 : UInt8), (54 : UInt8), (102 : UInt8), (99 : UInt8), (101 : UInt8), (100 : UInt8), (55 : UInt8), (56 : UInt8), (55 : UInt8), (99 : UInt8), (56 : UInt8), (56 : UInt8), (102 : UInt8), (57 : UInt8), (56 : UInt8), (52 : UInt8), (102 : UInt8), (56 : UInt8), (55 : UInt8), (97 : UInt8), (100 : UInt8), (102 : UInt8), (55 : UInt8), (97 : UInt8), (101 : UInt8), (48 : UInt8), (99 : UInt8), (55 : UInt8), (102 : UInt8)].append [(57 : UInt8), (97 : UInt8), (50 : UInt8), (48 : UInt8), (56 : UInt8), (99 : UInt8), (54 : UInt8), (98 : UInt8), (52 : UInt8), (102 : UInt8), (50 : UInt8), (48 : UInt8), (97 : UInt8), (52 : UInt8), (49 : UInt8), (56 : UInt8), (49 : UInt8), (52 : UInt8), (55 : UInt8), (50 : UInt8), (97 : UInt8), (97 : UInt8), (97 : UInt8), (57 : UInt8), (99 : UInt8), (98 : UInt8), (56 : UInt8), (100 : UInt8), (53 : UInt8), (53 : UInt8), (53 : UInt8), (53 : UInt8), (50 : UInt8), (54 : UInt8), (97 : UInt8), (57 : UInt8), (102 : UInt8), (102 : UInt8), (102 : UInt8), (102 : UInt8), (102 : UInt8), (102 : UInt8), (102 : UInt8), (102 : UInt8), (99 : UInt8), (55 : UInt8), (49 : UInt8), (99 : UInt8)]).toArray ))
def balH2c8 : ByteArray := (ByteArray.mk (([(49 : UInt8), (50 : UInt8), (52 : UInt8), (99 : UInt8), (57 : UInt8), (97 : UInt8), (100 : UInt8), (52 : UInt8), (51 : UInt8), (98 : UInt8), (54 : UInt8), (99 : UInt8), (102 : UInt8), (55 : UInt8), (57 : UInt8), (98 : UInt8), (102 : UInt8), (98 : UInt8), (102 : UInt8), (55 : UInt8), (48 : UInt8), (52 : UInt8), (51 : UInt8), (100 : UInt8), (101 : UInt8), (51 : UInt8), (56 : UInt8), (49 : UInt8), (49 : UInt8), (97 : UInt8), (100 : UInt8), (48 : UInt8), (55 : UInt8), (54 : UInt8), (49 : UInt8), (98 : UInt8), (48 : UInt8), (102 : UInt8), (51 : UInt8), (55 : UInt8), (97 : UInt8), (49 : UInt8), (101 : UInt8), (50 : UInt8), (54 : UInt8), (50 : UInt8), (56 : UInt8), (54 : UInt8)].append [(98 : UInt8), (48 : UInt8), (101 : UInt8), (57 : UInt8), (55 : UInt8), (55 : UInt8), (99 : UInt8), (54 : UInt8), (57 : UInt8), (97 : UInt8), (97 : UInt8), (50 : UInt8), (55 : UInt8), (52 : UInt8), (53 : UInt8), (50 : UInt8), (52 : UInt8), (101 : UInt8), (55 : UInt8), (57 : UInt8), (48 : UInt8), (57 : UInt8), (55 : UInt8), (97 : UInt8), (53 : UInt8), (54 : UInt8), (100 : UInt8), (99 : UInt8), (52 : UInt8), (98 : UInt8), (100 : UInt8), (57 : UInt8), (101 : UInt8), (49 : UInt8), (98 : UInt8), (51 : UInt8), (55 : UInt8), (49 : UInt8), (99 : UInt8), (55 : UInt8), (49 : UInt8), (99 : UInt8), (55 : UInt8), (49 : UInt8), (56 : UInt8), (98 : UInt8), (49 : UInt8), (48 : UInt8)]).toArray ))
def balH2c9 : ByteArray := (ByteArray.mk (([(49 : UInt8), (53 : UInt8), (51 : UInt8), (48 : UInt8), (52 : UInt8), (55 : UInt8), (55 : UInt8), (99 : UInt8), (55 : UInt8), (97 : UInt8), (98 : UInt8), (52 : UInt8), (49 : UInt8), (49 : UInt8), (51 : UInt8), (98 : UInt8), (53 : UInt8), (57 : UInt8), (97 : UInt8), (52 : UInt8), (99 : UInt8), (49 : UInt8), (56 : UInt8), (98 : UInt8), (48 : UInt8), (55 : UInt8), (54 : UInt8), (100 : UInt8), (49 : UInt8), (49 : UInt8), (57 : UInt8), (51 : UInt8), (48 : UInt8), (102 : UInt8), (55 : UInt8), (100 : UInt8), (97 : UInt8), (53 : UInt8), (100 : UInt8), (52 : UInt8), (97 : UInt8), (48 : UInt8), (55 : UInt8), (102 : UInt8), (54 : UInt8), (52 : UInt8), (57 : UInt8), (98 : UInt8)].append [(102 : UInt8), (53 : UInt8), (52 : UInt8), (52 : UInt8), (51 : UInt8), (57 : UInt8), (100 : UInt8), (56 : UInt8), (55 : UInt8), (100 : UInt8), (50 : UInt8), (55 : UInt8), (101 : UInt8), (53 : UInt8), (48 : UInt8), (48 : UInt8), (102 : UInt8), (99 : UInt8), (56 : UInt8), (99 : UInt8), (50 : UInt8), (53 : UInt8), (101 : UInt8), (98 : UInt8), (102 : UInt8), (56 : UInt8), (99 : UInt8), (57 : UInt8), (50 : UInt8), (102 : UInt8), (54 : UInt8), (56 : UInt8), (49 : UInt8), (50 : UInt8), (99 : UInt8), (102 : UInt8), (99 : UInt8), (55 : UInt8), (49 : UInt8), (99 : UInt8), (55 : UInt8), (49 : UInt8), (99 : UInt8), (54 : UInt8), (100 : UInt8), (55 : UInt8), (48 : UInt8), (54 : UInt8)]).toArray ))
def balH2c10 : ByteArray := (ByteArray.mk (([(49 : UInt8), (55 : UInt8), (49 : UInt8), (100 : UInt8), (54 : UInt8), (53 : UInt8), (52 : UInt8), (49 : UInt8), (102 : UInt8), (97 : UInt8), (51 : UInt8), (56 : UInt8), (99 : UInt8), (99 : UInt8), (102 : UInt8), (97 : UInt8), (101 : UInt8), (100 : UInt8), (54 : UInt8), (100 : UInt8), (101 : UInt8), (97 : UInt8), (54 : UInt8), (57 : UInt8), (49 : UInt8), (102 : UInt8), (53 : UInt8), (102 : UInt8), (98 : UInt8), (54 : UInt8), (49 : UInt8), (52 : UInt8), (99 : UInt8), (98 : UInt8), (49 : UInt8), (52 : UInt8), (98 : UInt8), (52 : UInt8), (101 : UInt8), (55 : UInt8), (102 : UInt8), (52 : UInt8), (101 : UInt8), (56 : UInt8), (49 : UInt8), (48 : UInt8), (97 : UInt8), (97 : UInt8)].append [(50 : UInt8), (50 : UInt8), (100 : UInt8), (54 : UInt8), (49 : UInt8), (48 : UInt8), (56 : UInt8), (102 : UInt8), (49 : UInt8), (52 : UInt8), (50 : UInt8), (98 : UInt8), (56 : UInt8), (53 : UInt8), (55 : UInt8), (53 : UInt8), (55 : UInt8), (48 : UInt8), (57 : UInt8), (56 : UInt8), (101 : UInt8), (51 : UInt8), (56 : UInt8), (100 : UInt8), (48 : UInt8), (102 : UInt8), (54 : UInt8), (55 : UInt8), (49 : UInt8), (99 : UInt8), (55 : UInt8), (49 : UInt8), (56 : UInt8), (56 : UInt8), (101 : UInt8), (50 : UInt8), (97 : UInt8), (97 : UInt8), (97 : UInt8), (97 : UInt8), (97 : UInt8), (97 : UInt8), (97 : UInt8), (97 : UInt8), (53 : UInt8), (101 : UInt8), (100 : UInt8), (49 : UInt8)]).toArray ))
/-- The way across. -/
noncomputable def acro (x y : F2) : F2 × F2 := opq (if hq x cU * hq x cB = 0 then O2 else (hq x cW * hq x cB * inv2 (hq x cU * hq x cB), y * hq x cH * hq x cU * inv2 (hq x cU * hq x cB)))
theorem lU : ([(zmp (0 : Int), zmp (-72 : Int)), (zmp (12 : Int), zmp (-12 : Int)), (zmp (1 : Int), zmp (0 : Int))] : List F2) = cU.map q2 := of_decide_eq_true (by kernel_rfl)
theorem lB : ([(zmp (-432 : Int), zmp (-432 : Int)), (zmp (0 : Int), zmp (-216 : Int)), (zmp (18 : Int), zmp (-18 : Int)), (zmp (1 : Int), zmp (0 : Int))] : List F2) = cB.map q2 := of_decide_eq_true (by kernel_rfl)
theorem hU (x : F2) : hvo x (List.take (3 : Nat) [(zmp (0 : Int), zmp (-72 : Int)), (zmp (12 : Int), zmp (-12 : Int)), (zmp (1 : Int), zmp (0 : Int))]) = hq x cU := by
  rw [hvo, opq_eq, hq, ← lU]; rfl
theorem hB (x : F2) : hvo x (List.take (4 : Nat) [(zmp (-432 : Int), zmp (-432 : Int)), (zmp (0 : Int), zmp (-216 : Int)), (zmp (18 : Int), zmp (-18 : Int)), (zmp (1 : Int), zmp (0 : Int))]) = hq x cB := by
  rw [hvo, opq_eq, hq, ← lB]; rfl
theorem hvo_4 {x a b c d : F2} {p q r s : V2} (ha : a = q2 p) (hb : b = q2 q) (hc : c = q2 r) (hd : d = q2 s) : hvo x (List.take (4 : Nat) [a, b, c, d]) = hq x [p, q, r, s] := by
  rw [hvo, opq_eq, ha, hb, hc, hd]; rfl
def grv (s : ByteArray) (n : Nat) : Bool := decide ((fp.rdFp (List.take 48 (grG s s.size))).1.v = (n : Int) % Mp)
theorem gq {s t : ByteArray} {m n : Nat} (h1 : grv s m = true) (h2 : grv t n = true) : ((gro s, gro t) : F2) = q2 (m, n) := by
  refine F2.ext (Zm.ext ?_) (Zm.ext ?_)
  · show (gro s).v = _
    rw [gro, opq_eq]; exact of_decide_eq_true h1
  · show (gro t).v = _
    rw [gro, opq_eq]; exact of_decide_eq_true h2
theorem across_0 {x y : F2} (h : decide (hvo x (List.take (3 : Nat) [(zmp (0 : Int), zmp (-72 : Int)), (zmp (12 : Int), zmp (-12 : Int)), (zmp (1 : Int), zmp (0 : Int))]) * hvo x (List.take (4 : Nat) [(zmp (-432 : Int), zmp (-432 : Int)), (zmp (0 : Int), zmp (-216 : Int)), (zmp (18 : Int), zmp (-18 : Int)), (zmp (1 : Int), zmp (0 : Int))]) = (0 : Car Kd.fp × Car Kd.fp)) = true) : ((((0 : Fp), (0 : Fp)), (0 : Fp), (0 : Fp)), ()) = (acro x y, ()) := by
  have h : hvo x (List.take (3 : Nat) [(zmp (0 : Int), zmp (-72 : Int)), (zmp (12 : Int), zmp (-12 : Int)), (zmp (1 : Int), zmp (0 : Int))]) * hvo x (List.take (4 : Nat) [(zmp (-432 : Int), zmp (-432 : Int)), (zmp (0 : Int), zmp (-216 : Int)), (zmp (18 : Int), zmp (-18 : Int)), (zmp (1 : Int), zmp (0 : Int))]) = 0 := of_decide_eq_true h
  rw [hU, hB] at h
  rw [acro, opq_eq, if_pos h]; rfl
theorem across_1 {x y a0 a1 a2 a3 b0 b1 b2 b3 : F2} (h : decide (hvo x (List.take (3 : Nat) [(zmp (0 : Int), zmp (-72 : Int)), (zmp (12 : Int), zmp (-12 : Int)), (zmp (1 : Int), zmp (0 : Int))]) * hvo x (List.take (4 : Nat) [(zmp (-432 : Int), zmp (-432 : Int)), (zmp (0 : Int), zmp (-216 : Int)), (zmp (18 : Int), zmp (-18 : Int)), (zmp (1 : Int), zmp (0 : Int))]) = (0 : Car Kd.fp × Car Kd.fp)) = false) (e0 : a0 = q2 (889424345604814976315064405719089812568196182208668418962679585805340366775741747653930584250892369786198727235542, 889424345604814976315064405719089812568196182208668418962679585805340366775741747653930584250892369786198727235542)) (e1 : a1 = q2 (0, 2668273036814444928945193217157269437704588546626005256888038757416021100327225242961791752752677109358596181706522)) (e2 : a2 = q2 (2668273036814444928945193217157269437704588546626005256888038757416021100327225242961791752752677109358596181706526, 1334136518407222464472596608578634718852294273313002628444019378708010550163612621480895876376338554679298090853261)) (e3 : a3 = q2 (3557697382419259905260257622876359250272784728834673675850718343221361467102966990615722337003569479144794908942033, 0)) (f0 : b0 = q2 (3261222600550988246488569487636662646083386001431784202863158481286248011511053074731078808919938689216061999863558, 3261222600550988246488569487636662646083386001431784202863158481286248011511053074731078808919938689216061999863558)) (f1 : b1 = q2 (0, 889424345604814976315064405719089812568196182208668418962679585805340366775741747653930584250892369786198727235518)) (f2 : b2 = q2 (2668273036814444928945193217157269437704588546626005256888038757416021100327225242961791752752677109358596181706524, 1334136518407222464472596608578634718852294273313002628444019378708010550163612621480895876376338554679298090853263)) (f3 : b3 = q2 (2816510427748580758331037284777117739799287910327449993381818688383577828123182200904113516794492504322962636245776, 0)) :
    ((hvo x (List.take (4 : Nat) [a0, a1, a2, a3]) * hvo x (List.take (4 : Nat) [(zmp (-432 : Int), zmp (-432 : Int)), (zmp (0 : Int), zmp (-216 : Int)), (zmp (18 : Int), zmp (-18 : Int)), (zmp (1 : Int), zmp (0 : Int))]) * inv2 (hvo x (List.take (3 : Nat) [(zmp (0 : Int), zmp (-72 : Int)), (zmp (12 : Int), zmp (-12 : Int)), (zmp (1 : Int), zmp (0 : Int))]) * hvo x (List.take (4 : Nat) [(zmp (-432 : Int), zmp (-432 : Int)), (zmp (0 : Int), zmp (-216 : Int)), (zmp (18 : Int), zmp (-18 : Int)), (zmp (1 : Int), zmp (0 : Int))])), y * hvo x (List.take (4 : Nat) [b0, b1, b2, b3]) * hvo x (List.take (3 : Nat) [(zmp (0 : Int), zmp (-72 : Int)), (zmp (12 : Int), zmp (-12 : Int)), (zmp (1 : Int), zmp (0 : Int))]) * inv2 (hvo x (List.take (3 : Nat) [(zmp (0 : Int), zmp (-72 : Int)), (zmp (12 : Int), zmp (-12 : Int)), (zmp (1 : Int), zmp (0 : Int))]) * hvo x (List.take (4 : Nat) [(zmp (-432 : Int), zmp (-432 : Int)), (zmp (0 : Int), zmp (-216 : Int)), (zmp (18 : Int), zmp (-18 : Int)), (zmp (1 : Int), zmp (0 : Int))]))), ()) = (acro x y, ()) := by
  have h : ¬ hvo x (List.take (3 : Nat) [(zmp (0 : Int), zmp (-72 : Int)), (zmp (12 : Int), zmp (-12 : Int)), (zmp (1 : Int), zmp (0 : Int))]) * hvo x (List.take (4 : Nat) [(zmp (-432 : Int), zmp (-432 : Int)), (zmp (0 : Int), zmp (-216 : Int)), (zmp (18 : Int), zmp (-18 : Int)), (zmp (1 : Int), zmp (0 : Int))]) = 0 := of_decide_eq_false h
  rw [hU, hB] at h
  rw [acro, opq_eq, if_neg h, hU, hB, hvo_4 e0 e1 e2 e3, hvo_4 f0 f1 f2 f3]; rfl
theorem ent_across : enters Tryd.prog 61 Tryd.f61 := enters_mk (by kernel_rfl) (by kernel_rfl) (by kernel_rfl)
theorem fn_across : FnOk Tryd.prog 61 [f2, f2] [.val pt2] noG (fun _ => True) (fun (x, y, _) => (acro x y, ())) := by
  refine fn_of_vc (sp := sps [spSmall, spSm2, spValue, spAcr1, fp2.spMul, fp2.spZero, fp2.spInv]) (sps_cons (fnSpec_ok fn_small) (sps_cons (fnSpec_ok fn_sm2) (sps_cons (fnSpec_ok fn_value) (sps_cons (fnSpec_ok fn_acr1) (sps_cons (fnSpec_ok fp2.fn_mul) (sps_cons (fnSpec_ok fp2.fn_zero) (sps_cons (fnSpec_ok fp2.fn_inv) sps_nil))))))) mixed ent_across (by decide) (by decide) ?_
  rintro w M0 ⟨x, y, ⟨⟩⟩
  revert x y
  intro (x : F2) (y : F2) _ _
  refine vcx (X := (True ∧ (smA (0 : Int) ∧ smA (-72 : Int)) ∧ (smA (12 : Int) ∧ smA (-12 : Int)) ∧ (smA (1 : Int) ∧ smA (0 : Int)) ∧ (0 : Nat) + (3 : Nat) ≤ (3 : Nat) ∧ (List.take (3 : Nat) [(zmp (0 : Int), zmp (-72 : Int)), (zmp (12 : Int), zmp (-12 : Int)), (zmp (1 : Int), zmp (0 : Int))]).length ≤ (1048576 : Nat) ∧ (smA (-432 : Int) ∧ smA (-432 : Int)) ∧ (smA (0 : Int) ∧ smA (-216 : Int)) ∧ (smA (18 : Int) ∧ smA (-18 : Int)) ∧ (smA (1 : Int) ∧ smA (0 : Int)) ∧ (0 : Nat) + (4 : Nat) ≤ (4 : Nat) ∧ (List.take (4 : Nat) [(zmp (-432 : Int), zmp (-432 : Int)), (zmp (0 : Int), zmp (-216 : Int)), (zmp (18 : Int), zmp (-18 : Int)), (zmp (1 : Int), zmp (0 : Int))]).length ≤ (1048576 : Nat) ∧ True ∧ True ∧ (decide (hvo x (List.take (3 : Nat) [(zmp (0 : Int), zmp (-72 : Int)), (zmp (12 : Int), zmp (-12 : Int)), (zmp (1 : Int), zmp (0 : Int))]) * hvo x (List.take (4 : Nat) [(zmp (-432 : Int), zmp (-432 : Int)), (zmp (0 : Int), zmp (-216 : Int)), (zmp (18 : Int), zmp (-18 : Int)), (zmp (1 : Int), zmp (0 : Int))]) = (0 : Car Kd.fp × Car Kd.fp)) = true → ((((0 : Fp), (0 : Fp)), (0 : Fp), (0 : Fp)), ()) = (acro x y, ())) ∧ (decide (hvo x (List.take (3 : Nat) [(zmp (0 : Int), zmp (-72 : Int)), (zmp (12 : Int), zmp (-12 : Int)), (zmp (1 : Int), zmp (0 : Int))]) * hvo x (List.take (4 : Nat) [(zmp (-432 : Int), zmp (-432 : Int)), (zmp (0 : Int), zmp (-216 : Int)), (zmp (18 : Int), zmp (-18 : Int)), (zmp (1 : Int), zmp (0 : Int))]) = (0 : Car Kd.fp × Car Kd.fp)) = false → (grOk balH2c1 = true ∧ grOk balH2c1 = true) ∧ (grOk (ByteArray.mk (#[] )) = true ∧ grOk balH2c6 = true) ∧ (grOk balH2c5 = true ∧ grOk balH2c3 = true) ∧ (grOk balH2c10 = true ∧ grOk (ByteArray.mk (#[] )) = true) ∧ (0 : Nat) + (4 : Nat) ≤ (4 : Nat) ∧ (List.take (4 : Nat) [(gro balH2c1, gro balH2c1), (gro (ByteArray.mk (#[] )), gro balH2c6), (gro balH2c5, gro balH2c3), (gro balH2c10, gro (ByteArray.mk (#[] )))]).length ≤ (1048576 : Nat) ∧ (grOk balH2c9 = true ∧ grOk balH2c9 = true) ∧ (grOk (ByteArray.mk (#[] )) = true ∧ grOk balH2c2 = true) ∧ (grOk balH2c7 = true ∧ grOk balH2c4 = true) ∧ (grOk balH2c8 = true ∧ grOk (ByteArray.mk (#[] )) = true) ∧ (0 : Nat) + (4 : Nat) ≤ (4 : Nat) ∧ (List.take (4 : Nat) [(gro balH2c9, gro balH2c9), (gro (ByteArray.mk (#[] )), gro balH2c2), (gro balH2c7, gro balH2c4), (gro balH2c8, gro (ByteArray.mk (#[] )))]).length ≤ (1048576 : Nat) ∧ True ∧ True ∧ True ∧ True ∧ True ∧ True ∧ ((hvo x (List.take (4 : Nat) [(gro balH2c1, gro balH2c1), (gro (ByteArray.mk (#[] )), gro balH2c6), (gro balH2c5, gro balH2c3), (gro balH2c10, gro (ByteArray.mk (#[] )))]) * hvo x (List.take (4 : Nat) [(zmp (-432 : Int), zmp (-432 : Int)), (zmp (0 : Int), zmp (-216 : Int)), (zmp (18 : Int), zmp (-18 : Int)), (zmp (1 : Int), zmp (0 : Int))]) * inv2 (hvo x (List.take (3 : Nat) [(zmp (0 : Int), zmp (-72 : Int)), (zmp (12 : Int), zmp (-12 : Int)), (zmp (1 : Int), zmp (0 : Int))]) * hvo x (List.take (4 : Nat) [(zmp (-432 : Int), zmp (-432 : Int)), (zmp (0 : Int), zmp (-216 : Int)), (zmp (18 : Int), zmp (-18 : Int)), (zmp (1 : Int), zmp (0 : Int))])), y * hvo x (List.take (4 : Nat) [(gro balH2c9, gro balH2c9), (gro (ByteArray.mk (#[] )), gro balH2c2), (gro balH2c7, gro balH2c4), (gro balH2c8, gro (ByteArray.mk (#[] )))]) * hvo x (List.take (3 : Nat) [(zmp (0 : Int), zmp (-72 : Int)), (zmp (12 : Int), zmp (-12 : Int)), (zmp (1 : Int), zmp (0 : Int))]) * inv2 (hvo x (List.take (3 : Nat) [(zmp (0 : Int), zmp (-72 : Int)), (zmp (12 : Int), zmp (-12 : Int)), (zmp (1 : Int), zmp (0 : Int))]) * hvo x (List.take (4 : Nat) [(zmp (-432 : Int), zmp (-432 : Int)), (zmp (0 : Int), zmp (-216 : Int)), (zmp (18 : Int), zmp (-18 : Int)), (zmp (1 : Int), zmp (0 : Int))]))), ()) = (acro x y, ())))) (by kernel_rfl) ?_
  refine ⟨trivial, ⟨⟨by decide, by decide⟩, ⟨by decide, by decide⟩⟩, ⟨⟨by decide, by decide⟩, ⟨by decide, by decide⟩⟩, ⟨⟨by decide, by decide⟩, ⟨by decide, by decide⟩⟩, Nat.le_refl _, by decide, ⟨⟨by decide, by decide⟩, ⟨by decide, by decide⟩⟩, ⟨⟨by decide, by decide⟩, ⟨by decide, by decide⟩⟩, ⟨⟨by decide, by decide⟩, ⟨by decide, by decide⟩⟩, ⟨⟨by decide, by decide⟩, ⟨by decide, by decide⟩⟩, Nat.le_refl _, by decide, trivial, trivial, fun h => across_0 h, fun h => ⟨⟨by kernel_rfl, by kernel_rfl⟩, ⟨by kernel_rfl, by kernel_rfl⟩, ⟨by kernel_rfl, by kernel_rfl⟩, ⟨by kernel_rfl, by kernel_rfl⟩, Nat.le_refl _, Nat.le_trans (List.length_take_le _ _) (by decide), ⟨by kernel_rfl, by kernel_rfl⟩, ⟨by kernel_rfl, by kernel_rfl⟩, ⟨by kernel_rfl, by kernel_rfl⟩, ⟨by kernel_rfl, by kernel_rfl⟩, Nat.le_refl _, Nat.le_trans (List.length_take_le _ _) (by decide), trivial, trivial, trivial, trivial, trivial, trivial, ?_⟩⟩
  exact across_1 h (gq (by kernel_rfl) (by kernel_rfl)) (gq (by kernel_rfl) (by kernel_rfl)) (gq (by kernel_rfl) (by kernel_rfl)) (gq (by kernel_rfl) (by kernel_rfl)) (gq (by kernel_rfl) (by kernel_rfl)) (gq (by kernel_rfl) (by kernel_rfl)) (gq (by kernel_rfl) (by kernel_rfl)) (gq (by kernel_rfl) (by kernel_rfl))
noncomputable def spAcross : Nat × Eng.Spec := (61, fnSpec [f2, f2] [.val pt2] (fun _ => True) (fun (x, y, _) => (acro x y, ())))
end Go.Proofs.YtbfimfdhmggieaaDoor.h2c
/- h2c: Map. -/
namespace Go.Proofs.YtbfimfdhmggieaaDoor.h2c
set_option maxRecDepth 100000
open Go Go.Eng Go.RowKit Cr Go.Proofs.YtbfimfdhmggieaaDoor Go.Proofs.YtbfimfdhmggieaaDoor.fp2
noncomputable def odo (y : F2) : Bool := opq (od y)
theorem fo_odd : FnOk Tryd.prog 60 [f2] [.val .bool] noG (fun _ => True) (fun (y, _) => (odo y, ())) := fp2.fn_odd.out fun (y, _) => by show (odo y, ()) = (_, ()); rw [odo, opq_eq]; rfl
noncomputable def soOdd : Nat × Eng.Spec := (60, fnSpec [f2] [.val .bool] (fun _ => True) (fun (y, _) => (odo y, ())))
noncomputable def gsq (x : F2) : F2 × Bool := sqrt2 (hq x cG)
/-- The root whose mark is the number's. -/
noncomputable def fixy (u y : F2) : F2 := if odo y = odo u then y else -y
noncomputable def swm (u t x : F2) : F2 × F2 := if (gsq x).2 = true then acro x (fixy u (gsq x).1) else acro (x * t) (fixy u (gsq (x * t)).1)
noncomputable def swx (u : F2) : F2 := if inv2 (cz * (u * u) * (cz * (u * u)) + cz * (u * u)) = 0 then cb * inv2 (cz * ca) else -cb * inv2 ca * (1 + inv2 (cz * (u * u) * (cz * (u * u)) + cz * (u * u)))
noncomputable def mapo (u : F2) : F2 × F2 := opq (swm u (cz * (u * u)) (swx u))
theorem k_a : ((zmp (0 : Int), zmp (240 : Int)) : F2) = ca := rfl
theorem k_b : ((zmp (1012 : Int), zmp (1012 : Int)) : F2) = cb := rfl
theorem k_z : ((zmp (-2 : Int), zmp (-1 : Int)) : F2) = cz := F2.ext (Zm.ext (of_decide_eq_true (by kernel_rfl))) (Zm.ext (of_decide_eq_true (by kernel_rfl)))
theorem k_1 : ((zmp (1 : Int), zmp (0 : Int)) : F2) = 1 := F2.ext (Zm.ext (of_decide_eq_true (by kernel_rfl))) (Zm.ext (of_decide_eq_true (by kernel_rfl)))
theorem hG4 (x : F2) : hvo x (List.take (4 : Nat) [(zmp (1012 : Int), zmp (1012 : Int)), (zmp (0 : Int), zmp (240 : Int)), ((0 : Fp), (0 : Fp)), (zmp (1 : Int), zmp (0 : Int))]) = hq x cG := hvo_4 (p := (1012, 1012)) (q := (0, 240)) (r := (0, 0)) (s := (1, 0)) k_b k_a rfl (k_1.trans rfl)
theorem map_o {u y : F2} {x : F2} {R : F2 × F2} (hR : R = acro x (fixy u y)) : ((!odo y == odo u) = true → True ∧ True ∧ (acro x (-y), ()) = (R, ())) ∧ ((!odo y == odo u) = false → True ∧ (acro x y, ()) = (R, ())) := by
  refine ⟨fun h => ⟨trivial, trivial, ?_⟩, fun h => ⟨trivial, ?_⟩⟩
  · have h1 : ¬ odo y = odo u := by simpa using h
    rw [hR, fixy, if_neg h1]
  · have h1 : odo y = odo u := by simpa using h
    rw [hR, fixy, if_pos h1]
theorem map_t {u T x : F2} {R : F2 × F2} (hR : R = swm u T x) : ((!(sqrt2 (hvo x (List.take (4 : Nat) [(zmp (1012 : Int), zmp (1012 : Int)), (zmp (0 : Int), zmp (240 : Int)), ((0 : Fp), (0 : Fp)), (zmp (1 : Int), zmp (0 : Int))]))).snd) = true → True ∧ (0 : Nat) + (4 : Nat) ≤ (4 : Nat) ∧ (List.take (4 : Nat) [(zmp (1012 : Int), zmp (1012 : Int)), (zmp (0 : Int), zmp (240 : Int)), ((0 : Fp), (0 : Fp)), (zmp (1 : Int), zmp (0 : Int))]).length ≤ (1048576 : Nat) ∧ True ∧ True ∧ True ∧ ((!odo (sqrt2 (hvo (x * T) (List.take (4 : Nat) [(zmp (1012 : Int), zmp (1012 : Int)), (zmp (0 : Int), zmp (240 : Int)), ((0 : Fp), (0 : Fp)), (zmp (1 : Int), zmp (0 : Int))]))).fst == odo u) = true → True ∧ True ∧ (acro (x * T) (-(sqrt2 (hvo (x * T) (List.take (4 : Nat) [(zmp (1012 : Int), zmp (1012 : Int)), (zmp (0 : Int), zmp (240 : Int)), ((0 : Fp), (0 : Fp)), (zmp (1 : Int), zmp (0 : Int))]))).fst), ()) = (R, ())) ∧ ((!odo (sqrt2 (hvo (x * T) (List.take (4 : Nat) [(zmp (1012 : Int), zmp (1012 : Int)), (zmp (0 : Int), zmp (240 : Int)), ((0 : Fp), (0 : Fp)), (zmp (1 : Int), zmp (0 : Int))]))).fst == odo u) = false → True ∧ (acro (x * T) (sqrt2 (hvo (x * T) (List.take (4 : Nat) [(zmp (1012 : Int), zmp (1012 : Int)), (zmp (0 : Int), zmp (240 : Int)), ((0 : Fp), (0 : Fp)), (zmp (1 : Int), zmp (0 : Int))]))).fst, ()) = (R, ()))) ∧ ((!(sqrt2 (hvo x (List.take (4 : Nat) [(zmp (1012 : Int), zmp (1012 : Int)), (zmp (0 : Int), zmp (240 : Int)), ((0 : Fp), (0 : Fp)), (zmp (1 : Int), zmp (0 : Int))]))).snd) = false → True ∧ True ∧ ((!odo (sqrt2 (hvo x (List.take (4 : Nat) [(zmp (1012 : Int), zmp (1012 : Int)), (zmp (0 : Int), zmp (240 : Int)), ((0 : Fp), (0 : Fp)), (zmp (1 : Int), zmp (0 : Int))]))).fst == odo u) = true → True ∧ True ∧ (acro x (-(sqrt2 (hvo x (List.take (4 : Nat) [(zmp (1012 : Int), zmp (1012 : Int)), (zmp (0 : Int), zmp (240 : Int)), ((0 : Fp), (0 : Fp)), (zmp (1 : Int), zmp (0 : Int))]))).fst), ()) = (R, ())) ∧ ((!odo (sqrt2 (hvo x (List.take (4 : Nat) [(zmp (1012 : Int), zmp (1012 : Int)), (zmp (0 : Int), zmp (240 : Int)), ((0 : Fp), (0 : Fp)), (zmp (1 : Int), zmp (0 : Int))]))).fst == odo u) = false → True ∧ (acro x (sqrt2 (hvo x (List.take (4 : Nat) [(zmp (1012 : Int), zmp (1012 : Int)), (zmp (0 : Int), zmp (240 : Int)), ((0 : Fp), (0 : Fp)), (zmp (1 : Int), zmp (0 : Int))]))).fst, ()) = (R, ()))) := by
  rw [hG4, hG4]
  refine ⟨fun h => ⟨trivial, Nat.le_refl _, by decide, trivial, trivial, trivial, map_o ?_⟩, fun h => ⟨trivial, trivial, map_o ?_⟩⟩
  · have h1 : ¬ (gsq x).2 = true := by
      have h : (!(gsq x).2) = true := h
      simpa using h
    rw [hR, swm, if_neg h1]; rfl
  · have h1 : (gsq x).2 = true := by
      have h : (!(gsq x).2) = false := h
      simpa using h
    rw [hR, swm, if_pos h1]; rfl
theorem ent_map : enters Tryd.prog 23 Tryd.f23 := enters_mk (by kernel_rfl) (by kernel_rfl) (by kernel_rfl)
theorem fn_map : FnOk Tryd.prog 23 [f2] [.val pt2] noG (fun _ => True) (fun (u, _) => (mapo u, ())) := by
  refine fn_of_vc (sp := sps [spSmall, spSm2, fp2.spSquare, fp2.spMul, fp2.spAdd, fp2.spInv, fp2.spZero, fp2.spNeg, spValue, fp2.spSqrt, soOdd, spAcross]) (sps_cons (fnSpec_ok fn_small) (sps_cons (fnSpec_ok fn_sm2) (sps_cons (fnSpec_ok fp2.fn_square) (sps_cons (fnSpec_ok fp2.fn_mul) (sps_cons (fnSpec_ok fp2.fn_add) (sps_cons (fnSpec_ok fp2.fn_inv) (sps_cons (fnSpec_ok fp2.fn_zero) (sps_cons (fnSpec_ok fp2.fn_neg) (sps_cons (fnSpec_ok fn_value) (sps_cons (fnSpec_ok fp2.fn_sqrt) (sps_cons (fnSpec_ok fo_odd) (sps_cons (fnSpec_ok fn_across) sps_nil)))))))))))) mixed ent_map (by decide) (by decide) ?_
  rintro w M0 ⟨u, ⟨⟩⟩
  revert u
  intro (u : F2) _ _
  refine vcx (X := (True ∧ (smA (0 : Int) ∧ smA (240 : Int)) ∧ (smA (1012 : Int) ∧ smA (1012 : Int)) ∧ (smA (-2 : Int) ∧ smA (-1 : Int)) ∧ (smA (1 : Int) ∧ smA (0 : Int)) ∧ True ∧ True ∧ True ∧ True ∧ True ∧ True ∧ (decide (inv2 ((zmp (-2 : Int), zmp (-1 : Int)) * (u * u) * ((zmp (-2 : Int), zmp (-1 : Int)) * (u * u)) + (zmp (-2 : Int), zmp (-1 : Int)) * (u * u)) = (0 : Car Kd.fp × Car Kd.fp)) = true → True ∧ True ∧ True ∧ (0 : Nat) + (4 : Nat) ≤ (4 : Nat) ∧ (List.take (4 : Nat) [(zmp (1012 : Int), zmp (1012 : Int)), (zmp (0 : Int), zmp (240 : Int)), ((0 : Fp), (0 : Fp)), (zmp (1 : Int), zmp (0 : Int))]).length ≤ (1048576 : Nat) ∧ True ∧ ((!(sqrt2 (hvo ((zmp (1012 : Int), zmp (1012 : Int)) * inv2 ((zmp (-2 : Int), zmp (-1 : Int)) * (zmp (0 : Int), zmp (240 : Int)))) (List.take (4 : Nat) [(zmp (1012 : Int), zmp (1012 : Int)), (zmp (0 : Int), zmp (240 : Int)), ((0 : Fp), (0 : Fp)), (zmp (1 : Int), zmp (0 : Int))]))).snd) = true → True ∧ (0 : Nat) + (4 : Nat) ≤ (4 : Nat) ∧ (List.take (4 : Nat) [(zmp (1012 : Int), zmp (1012 : Int)), (zmp (0 : Int), zmp (240 : Int)), ((0 : Fp), (0 : Fp)), (zmp (1 : Int), zmp (0 : Int))]).length ≤ (1048576 : Nat) ∧ True ∧ True ∧ True ∧ ((!odo (sqrt2 (hvo ((zmp (1012 : Int), zmp (1012 : Int)) * inv2 ((zmp (-2 : Int), zmp (-1 : Int)) * (zmp (0 : Int), zmp (240 : Int))) * ((zmp (-2 : Int), zmp (-1 : Int)) * (u * u))) (List.take (4 : Nat) [(zmp (1012 : Int), zmp (1012 : Int)), (zmp (0 : Int), zmp (240 : Int)), ((0 : Fp), (0 : Fp)), (zmp (1 : Int), zmp (0 : Int))]))).fst == odo u) = true → True ∧ True ∧ (acro ((zmp (1012 : Int), zmp (1012 : Int)) * inv2 ((zmp (-2 : Int), zmp (-1 : Int)) * (zmp (0 : Int), zmp (240 : Int))) * ((zmp (-2 : Int), zmp (-1 : Int)) * (u * u))) (-(sqrt2 (hvo ((zmp (1012 : Int), zmp (1012 : Int)) * inv2 ((zmp (-2 : Int), zmp (-1 : Int)) * (zmp (0 : Int), zmp (240 : Int))) * ((zmp (-2 : Int), zmp (-1 : Int)) * (u * u))) (List.take (4 : Nat) [(zmp (1012 : Int), zmp (1012 : Int)), (zmp (0 : Int), zmp (240 : Int)), ((0 : Fp), (0 : Fp)), (zmp (1 : Int), zmp (0 : Int))]))).fst), ()) = (mapo u, ())) ∧ ((!odo (sqrt2 (hvo ((zmp (1012 : Int), zmp (1012 : Int)) * inv2 ((zmp (-2 : Int), zmp (-1 : Int)) * (zmp (0 : Int), zmp (240 : Int))) * ((zmp (-2 : Int), zmp (-1 : Int)) * (u * u))) (List.take (4 : Nat) [(zmp (1012 : Int), zmp (1012 : Int)), (zmp (0 : Int), zmp (240 : Int)), ((0 : Fp), (0 : Fp)), (zmp (1 : Int), zmp (0 : Int))]))).fst == odo u) = false → True ∧ (acro ((zmp (1012 : Int), zmp (1012 : Int)) * inv2 ((zmp (-2 : Int), zmp (-1 : Int)) * (zmp (0 : Int), zmp (240 : Int))) * ((zmp (-2 : Int), zmp (-1 : Int)) * (u * u))) (sqrt2 (hvo ((zmp (1012 : Int), zmp (1012 : Int)) * inv2 ((zmp (-2 : Int), zmp (-1 : Int)) * (zmp (0 : Int), zmp (240 : Int))) * ((zmp (-2 : Int), zmp (-1 : Int)) * (u * u))) (List.take (4 : Nat) [(zmp (1012 : Int), zmp (1012 : Int)), (zmp (0 : Int), zmp (240 : Int)), ((0 : Fp), (0 : Fp)), (zmp (1 : Int), zmp (0 : Int))]))).fst, ()) = (mapo u, ()))) ∧ ((!(sqrt2 (hvo ((zmp (1012 : Int), zmp (1012 : Int)) * inv2 ((zmp (-2 : Int), zmp (-1 : Int)) * (zmp (0 : Int), zmp (240 : Int)))) (List.take (4 : Nat) [(zmp (1012 : Int), zmp (1012 : Int)), (zmp (0 : Int), zmp (240 : Int)), ((0 : Fp), (0 : Fp)), (zmp (1 : Int), zmp (0 : Int))]))).snd) = false → True ∧ True ∧ ((!odo (sqrt2 (hvo ((zmp (1012 : Int), zmp (1012 : Int)) * inv2 ((zmp (-2 : Int), zmp (-1 : Int)) * (zmp (0 : Int), zmp (240 : Int)))) (List.take (4 : Nat) [(zmp (1012 : Int), zmp (1012 : Int)), (zmp (0 : Int), zmp (240 : Int)), ((0 : Fp), (0 : Fp)), (zmp (1 : Int), zmp (0 : Int))]))).fst == odo u) = true → True ∧ True ∧ (acro ((zmp (1012 : Int), zmp (1012 : Int)) * inv2 ((zmp (-2 : Int), zmp (-1 : Int)) * (zmp (0 : Int), zmp (240 : Int)))) (-(sqrt2 (hvo ((zmp (1012 : Int), zmp (1012 : Int)) * inv2 ((zmp (-2 : Int), zmp (-1 : Int)) * (zmp (0 : Int), zmp (240 : Int)))) (List.take (4 : Nat) [(zmp (1012 : Int), zmp (1012 : Int)), (zmp (0 : Int), zmp (240 : Int)), ((0 : Fp), (0 : Fp)), (zmp (1 : Int), zmp (0 : Int))]))).fst), ()) = (mapo u, ())) ∧ ((!odo (sqrt2 (hvo ((zmp (1012 : Int), zmp (1012 : Int)) * inv2 ((zmp (-2 : Int), zmp (-1 : Int)) * (zmp (0 : Int), zmp (240 : Int)))) (List.take (4 : Nat) [(zmp (1012 : Int), zmp (1012 : Int)), (zmp (0 : Int), zmp (240 : Int)), ((0 : Fp), (0 : Fp)), (zmp (1 : Int), zmp (0 : Int))]))).fst == odo u) = false → True ∧ (acro ((zmp (1012 : Int), zmp (1012 : Int)) * inv2 ((zmp (-2 : Int), zmp (-1 : Int)) * (zmp (0 : Int), zmp (240 : Int)))) (sqrt2 (hvo ((zmp (1012 : Int), zmp (1012 : Int)) * inv2 ((zmp (-2 : Int), zmp (-1 : Int)) * (zmp (0 : Int), zmp (240 : Int)))) (List.take (4 : Nat) [(zmp (1012 : Int), zmp (1012 : Int)), (zmp (0 : Int), zmp (240 : Int)), ((0 : Fp), (0 : Fp)), (zmp (1 : Int), zmp (0 : Int))]))).fst, ()) = (mapo u, ())))) ∧ (decide (inv2 ((zmp (-2 : Int), zmp (-1 : Int)) * (u * u) * ((zmp (-2 : Int), zmp (-1 : Int)) * (u * u)) + (zmp (-2 : Int), zmp (-1 : Int)) * (u * u)) = (0 : Car Kd.fp × Car Kd.fp)) = false → True ∧ True ∧ True ∧ True ∧ True ∧ (0 : Nat) + (4 : Nat) ≤ (4 : Nat) ∧ (List.take (4 : Nat) [(zmp (1012 : Int), zmp (1012 : Int)), (zmp (0 : Int), zmp (240 : Int)), ((0 : Fp), (0 : Fp)), (zmp (1 : Int), zmp (0 : Int))]).length ≤ (1048576 : Nat) ∧ True ∧ ((!(sqrt2 (hvo (-(zmp (1012 : Int), zmp (1012 : Int)) * inv2 (zmp (0 : Int), zmp (240 : Int)) * ((zmp (1 : Int), zmp (0 : Int)) + inv2 ((zmp (-2 : Int), zmp (-1 : Int)) * (u * u) * ((zmp (-2 : Int), zmp (-1 : Int)) * (u * u)) + (zmp (-2 : Int), zmp (-1 : Int)) * (u * u)))) (List.take (4 : Nat) [(zmp (1012 : Int), zmp (1012 : Int)), (zmp (0 : Int), zmp (240 : Int)), ((0 : Fp), (0 : Fp)), (zmp (1 : Int), zmp (0 : Int))]))).snd) = true → True ∧ (0 : Nat) + (4 : Nat) ≤ (4 : Nat) ∧ (List.take (4 : Nat) [(zmp (1012 : Int), zmp (1012 : Int)), (zmp (0 : Int), zmp (240 : Int)), ((0 : Fp), (0 : Fp)), (zmp (1 : Int), zmp (0 : Int))]).length ≤ (1048576 : Nat) ∧ True ∧ True ∧ True ∧ ((!odo (sqrt2 (hvo (-(zmp (1012 : Int), zmp (1012 : Int)) * inv2 (zmp (0 : Int), zmp (240 : Int)) * ((zmp (1 : Int), zmp (0 : Int)) + inv2 ((zmp (-2 : Int), zmp (-1 : Int)) * (u * u) * ((zmp (-2 : Int), zmp (-1 : Int)) * (u * u)) + (zmp (-2 : Int), zmp (-1 : Int)) * (u * u))) * ((zmp (-2 : Int), zmp (-1 : Int)) * (u * u))) (List.take (4 : Nat) [(zmp (1012 : Int), zmp (1012 : Int)), (zmp (0 : Int), zmp (240 : Int)), ((0 : Fp), (0 : Fp)), (zmp (1 : Int), zmp (0 : Int))]))).fst == odo u) = true → True ∧ True ∧ (acro (-(zmp (1012 : Int), zmp (1012 : Int)) * inv2 (zmp (0 : Int), zmp (240 : Int)) * ((zmp (1 : Int), zmp (0 : Int)) + inv2 ((zmp (-2 : Int), zmp (-1 : Int)) * (u * u) * ((zmp (-2 : Int), zmp (-1 : Int)) * (u * u)) + (zmp (-2 : Int), zmp (-1 : Int)) * (u * u))) * ((zmp (-2 : Int), zmp (-1 : Int)) * (u * u))) (-(sqrt2 (hvo (-(zmp (1012 : Int), zmp (1012 : Int)) * inv2 (zmp (0 : Int), zmp (240 : Int)) * ((zmp (1 : Int), zmp (0 : Int)) + inv2 ((zmp (-2 : Int), zmp (-1 : Int)) * (u * u) * ((zmp (-2 : Int), zmp (-1 : Int)) * (u * u)) + (zmp (-2 : Int), zmp (-1 : Int)) * (u * u))) * ((zmp (-2 : Int), zmp (-1 : Int)) * (u * u))) (List.take (4 : Nat) [(zmp (1012 : Int), zmp (1012 : Int)), (zmp (0 : Int), zmp (240 : Int)), ((0 : Fp), (0 : Fp)), (zmp (1 : Int), zmp (0 : Int))]))).fst), ()) = (mapo u, ())) ∧ ((!odo (sqrt2 (hvo (-(zmp (1012 : Int), zmp (1012 : Int)) * inv2 (zmp (0 : Int), zmp (240 : Int)) * ((zmp (1 : Int), zmp (0 : Int)) + inv2 ((zmp (-2 : Int), zmp (-1 : Int)) * (u * u) * ((zmp (-2 : Int), zmp (-1 : Int)) * (u * u)) + (zmp (-2 : Int), zmp (-1 : Int)) * (u * u))) * ((zmp (-2 : Int), zmp (-1 : Int)) * (u * u))) (List.take (4 : Nat) [(zmp (1012 : Int), zmp (1012 : Int)), (zmp (0 : Int), zmp (240 : Int)), ((0 : Fp), (0 : Fp)), (zmp (1 : Int), zmp (0 : Int))]))).fst == odo u) = false → True ∧ (acro (-(zmp (1012 : Int), zmp (1012 : Int)) * inv2 (zmp (0 : Int), zmp (240 : Int)) * ((zmp (1 : Int), zmp (0 : Int)) + inv2 ((zmp (-2 : Int), zmp (-1 : Int)) * (u * u) * ((zmp (-2 : Int), zmp (-1 : Int)) * (u * u)) + (zmp (-2 : Int), zmp (-1 : Int)) * (u * u))) * ((zmp (-2 : Int), zmp (-1 : Int)) * (u * u))) (sqrt2 (hvo (-(zmp (1012 : Int), zmp (1012 : Int)) * inv2 (zmp (0 : Int), zmp (240 : Int)) * ((zmp (1 : Int), zmp (0 : Int)) + inv2 ((zmp (-2 : Int), zmp (-1 : Int)) * (u * u) * ((zmp (-2 : Int), zmp (-1 : Int)) * (u * u)) + (zmp (-2 : Int), zmp (-1 : Int)) * (u * u))) * ((zmp (-2 : Int), zmp (-1 : Int)) * (u * u))) (List.take (4 : Nat) [(zmp (1012 : Int), zmp (1012 : Int)), (zmp (0 : Int), zmp (240 : Int)), ((0 : Fp), (0 : Fp)), (zmp (1 : Int), zmp (0 : Int))]))).fst, ()) = (mapo u, ()))) ∧ ((!(sqrt2 (hvo (-(zmp (1012 : Int), zmp (1012 : Int)) * inv2 (zmp (0 : Int), zmp (240 : Int)) * ((zmp (1 : Int), zmp (0 : Int)) + inv2 ((zmp (-2 : Int), zmp (-1 : Int)) * (u * u) * ((zmp (-2 : Int), zmp (-1 : Int)) * (u * u)) + (zmp (-2 : Int), zmp (-1 : Int)) * (u * u)))) (List.take (4 : Nat) [(zmp (1012 : Int), zmp (1012 : Int)), (zmp (0 : Int), zmp (240 : Int)), ((0 : Fp), (0 : Fp)), (zmp (1 : Int), zmp (0 : Int))]))).snd) = false → True ∧ True ∧ ((!odo (sqrt2 (hvo (-(zmp (1012 : Int), zmp (1012 : Int)) * inv2 (zmp (0 : Int), zmp (240 : Int)) * ((zmp (1 : Int), zmp (0 : Int)) + inv2 ((zmp (-2 : Int), zmp (-1 : Int)) * (u * u) * ((zmp (-2 : Int), zmp (-1 : Int)) * (u * u)) + (zmp (-2 : Int), zmp (-1 : Int)) * (u * u)))) (List.take (4 : Nat) [(zmp (1012 : Int), zmp (1012 : Int)), (zmp (0 : Int), zmp (240 : Int)), ((0 : Fp), (0 : Fp)), (zmp (1 : Int), zmp (0 : Int))]))).fst == odo u) = true → True ∧ True ∧ (acro (-(zmp (1012 : Int), zmp (1012 : Int)) * inv2 (zmp (0 : Int), zmp (240 : Int)) * ((zmp (1 : Int), zmp (0 : Int)) + inv2 ((zmp (-2 : Int), zmp (-1 : Int)) * (u * u) * ((zmp (-2 : Int), zmp (-1 : Int)) * (u * u)) + (zmp (-2 : Int), zmp (-1 : Int)) * (u * u)))) (-(sqrt2 (hvo (-(zmp (1012 : Int), zmp (1012 : Int)) * inv2 (zmp (0 : Int), zmp (240 : Int)) * ((zmp (1 : Int), zmp (0 : Int)) + inv2 ((zmp (-2 : Int), zmp (-1 : Int)) * (u * u) * ((zmp (-2 : Int), zmp (-1 : Int)) * (u * u)) + (zmp (-2 : Int), zmp (-1 : Int)) * (u * u)))) (List.take (4 : Nat) [(zmp (1012 : Int), zmp (1012 : Int)), (zmp (0 : Int), zmp (240 : Int)), ((0 : Fp), (0 : Fp)), (zmp (1 : Int), zmp (0 : Int))]))).fst), ()) = (mapo u, ())) ∧ ((!odo (sqrt2 (hvo (-(zmp (1012 : Int), zmp (1012 : Int)) * inv2 (zmp (0 : Int), zmp (240 : Int)) * ((zmp (1 : Int), zmp (0 : Int)) + inv2 ((zmp (-2 : Int), zmp (-1 : Int)) * (u * u) * ((zmp (-2 : Int), zmp (-1 : Int)) * (u * u)) + (zmp (-2 : Int), zmp (-1 : Int)) * (u * u)))) (List.take (4 : Nat) [(zmp (1012 : Int), zmp (1012 : Int)), (zmp (0 : Int), zmp (240 : Int)), ((0 : Fp), (0 : Fp)), (zmp (1 : Int), zmp (0 : Int))]))).fst == odo u) = false → True ∧ (acro (-(zmp (1012 : Int), zmp (1012 : Int)) * inv2 (zmp (0 : Int), zmp (240 : Int)) * ((zmp (1 : Int), zmp (0 : Int)) + inv2 ((zmp (-2 : Int), zmp (-1 : Int)) * (u * u) * ((zmp (-2 : Int), zmp (-1 : Int)) * (u * u)) + (zmp (-2 : Int), zmp (-1 : Int)) * (u * u)))) (sqrt2 (hvo (-(zmp (1012 : Int), zmp (1012 : Int)) * inv2 (zmp (0 : Int), zmp (240 : Int)) * ((zmp (1 : Int), zmp (0 : Int)) + inv2 ((zmp (-2 : Int), zmp (-1 : Int)) * (u * u) * ((zmp (-2 : Int), zmp (-1 : Int)) * (u * u)) + (zmp (-2 : Int), zmp (-1 : Int)) * (u * u)))) (List.take (4 : Nat) [(zmp (1012 : Int), zmp (1012 : Int)), (zmp (0 : Int), zmp (240 : Int)), ((0 : Fp), (0 : Fp)), (zmp (1 : Int), zmp (0 : Int))]))).fst, ()) = (mapo u, ())))))) (by kernel_rfl) ?_
  refine ⟨trivial, ⟨⟨by decide, by decide⟩, ⟨by decide, by decide⟩⟩, ⟨⟨by decide, by decide⟩, ⟨by decide, by decide⟩⟩, ⟨⟨by decide, by decide⟩, ⟨by decide, by decide⟩⟩, ⟨⟨by decide, by decide⟩, ⟨by decide, by decide⟩⟩, trivial, trivial, trivial, trivial, trivial, trivial, fun h => ⟨trivial, trivial, trivial, Nat.le_refl _, by decide, trivial, map_t ?_⟩, fun h => ⟨trivial, trivial, trivial, trivial, trivial, Nat.le_refl _, by decide, trivial, map_t ?_⟩⟩
  · rw [k_z] at h
    rw [mapo, opq_eq, swx, if_pos (of_decide_eq_true h), k_z, k_a, k_b]
  · rw [k_z] at h
    rw [mapo, opq_eq, swx, if_neg (of_decide_eq_false h), k_z, k_a, k_b, k_1]
noncomputable def spMap : Nat × Eng.Spec := (23, fnSpec [f2] [.val pt2] (fun _ => True) (fun (u, _) => (mapo u, ())))
end Go.Proofs.YtbfimfdhmggieaaDoor.h2c
/- A line's three numbers by the powers of w. No program here. -/
namespace Cr
open Rg Fd Go.Eng
end Cr
/- The two groups in the field of p^12; what the last power makes 1. No program here. -/
namespace Cr
open Rg Fd Go.Eng

def e0 (x : Fp) : F2 := (x, (0 : Fp))
theorem Hm.comp {F G E : Type} [Fd F] [Fd G] [Fd E] {f : F → G} {g : G → E} (H : Hm f) (K : Hm g) : Hm (fun x => g (f x)) :=
  ⟨fun x y => by rw [H.add, K.add], fun x y => by rw [H.mul, K.mul], fun x => by rw [H.neg, K.neg], by rw [H.one, K.one], fun x h => H.inj _ (K.inj _ h)⟩
def e1 (x : Fp) : F12 := e2 (e0 x)
noncomputable def fro (p : Nat) (x : F12) : F12 := pwn x p
noncomputable def wi : F12 := inv ww
noncomputable def k2 : F12 := (((0 : F2), (0 : F2), inv xi), (0 : F2), (0 : F2), (0 : F2))
structure LastP (N p u r : Nat) : Prop where
  pp : p = fpP
  six : ∀ x : F12, x ≠ 0 → x.2 = 0 → pwn x N = 1
  odd : ∀ x : F12, x ≠ 0 → x.1 = 0 → pwn x N = 1
  ord : ∀ x : F12, x ≠ 0 → pwn (pwn x N) r = 1
  np : ∃ s, u + p = r * s
  pos : 0 < N
section
variable {N p u r : Nat} (L : LastP N p u r)
include L
theorem LastP.up {x : F12} (hx : x ≠ 0) : pwn (pwn x N) u * pwn (pwn x N) p = 1 := by
  obtain ⟨s, hs⟩ := L.np
  rw [← pwn_add, hs, pwn_mul, L.ord x hx, pwn_one]
theorem LastP.neg : pwn (-1 : F12) N = 1 := by
  refine L.six _ ?_ ?_
  · intro h
    have h1 : (1 : F12) = 0 := by rw [← neg_neg (1 : F12), h, neg_z]
    exact one_ne h1
  · rw [F12.neg_def]; exact neg_z (F := F6)
noncomputable def kil : Kill F12 := ⟨fun x => pwn x N, fun x y => pwn_prod x y N, pwn_one N, L.neg⟩
variable {b1 : Fp} {b2 : F2} (hb1 : b1 ≠ 0) (hb2 : b2 ≠ 0) (hns : ∀ y : F2, y * y = b2 → False) (he : b2 = e0 b1 * xi)
include hb1 hb2 hns he
end
end Cr
/- The second group's curve: points taken into the group. No program here. -/
namespace Cr
set_option maxRecDepth 100000
open Rg Fd Go.Eng
theorem tc_x {F : Type} [Rg F] (x r z : F) : x * (z * z) * (r * r) = x * (r * r) * (z * z) :=
  rid [x, r, z] ((fun (x r z : PE) => (x * (z * z) * (r * r))) (.v 0) (.v 1) (.v 2)) ((fun (x r z : PE) => (x * (r * r) * (z * z))) (.v 0) (.v 1) (.v 2)) (by kernel_rfl)
theorem tc_y {F : Type} [Rg F] (y r z : F) : y * (z * (z * z)) * (r * r * r) = y * (r * r * r) * (z * (z * z)) :=
  rid [y, r, z] ((fun (y r z : PE) => (y * (z * (z * z)) * (r * r * r))) (.v 0) (.v 1) (.v 2)) ((fun (y r z : PE) => (y * (r * r * r) * (z * (z * z)))) (.v 0) (.v 1) (.v 2)) (by kernel_rfl)
theorem tc_n {F : Type} [Rg F] (y z : F) : -(y * z) = -y * z :=
  rid [y, z] ((fun (y z : PE) => (-(y * z))) (.v 0) (.v 1)) ((fun (y z : PE) => (-y * z)) (.v 0) (.v 1)) (by kernel_rfl)
theorem hm_cj : Hm cjg := by
  refine ⟨fun x y => ?_, fun x y => ?_, fun x => ?_, F2.ext rfl neg_z, fun x h => ?_⟩
  · show (_, _) = (_ : F2)
    rw [F2.add_def, F2.add_def]
    exact F2.ext rfl (neg_add_rev _ _)
  · show (_, _) = (_ : F2)
    rw [F2.mul_def, F2.mul_def]
    refine F2.ext ?_ ?_
    · show x.1 * y.1 - x.2 * y.2 = x.1 * y.1 - -x.2 * -y.2
      rw [neg_mul, mul_neg, neg_neg]
    · show -(x.1 * y.2 + x.2 * y.1) = x.1 * -y.2 + -x.2 * y.1
      rw [neg_add_rev, mul_neg, neg_mul]
  · show (_, _) = (_ : F2)
    rw [F2.neg_def, F2.neg_def]; rfl
  · have h1 : x.1 = 0 := congrArg Prod.fst h
    have h2 : -x.2 = 0 := congrArg Prod.snd h
    exact F2.ext h1 (by rw [← neg_neg x.2, h2]; exact neg_z)
noncomputable def ir : F2 := q2 irv
/-- The power p of the coordinates, seen from the curve. -/
noncomputable def tau (P : F2 × F2) : F2 × F2 := tws cjg ir P
theorem tbc : evP2.isz (vsub (vmul (vcj (4, 4)) (vmul (vmul (vmul irv irv) irv) (vmul (vmul irv irv) irv))) (4, 4)) = true := by kernel_rfl
theorem tb_tau : tb = cjg tb * (ir * ir * ir * (ir * ir * ir)) := by
  have h1 : q2 (vsub (vmul (vcj (4, 4)) (vmul (vmul (vmul irv irv) irv) (vmul (vmul irv irv) irv))) (4, 4)) = 0 := (evP2.isz_φ _).1 tbc
  simp only [q2_sub, q2_mul, q2_cj] at h1
  exact (eq_of_sub h1).symm
/-- Additive maps of the curve's points. -/
structure Ad (f : F2 × F2 → F2 × F2) : Prop where
  on : ∀ P, OnP tb P → OnP tb (f P)
  add : ∀ P Q, OnP tb P → OnP tb Q → f (padd P Q) = padd (f P) (f Q)
theorem ad_id : Ad fun P => P := ⟨fun _ h => h, fun _ _ _ _ => rfl⟩
theorem ad_mul (n : Nat) : Ad fun P => nmul P n := ⟨fun _ h => nmul_on tb_ne h n, fun _ _ h k => nmul_padd tb_ne h k n⟩
theorem ad_neg : Ad pneg := ⟨fun _ h => pneg_onP h, fun _ _ h k => pneg_add tb_ne h k⟩
theorem ad_tau : Ad tau := ⟨fun _ h => tws_onP hm_cj tb_tau h, fun _ _ h k => tws_add hm_cj tb_tau tb_ne tb_ne h k⟩
theorem Ad.comp {f g : F2 × F2 → F2 × F2} (hf : Ad f) (hg : Ad g) : Ad fun P => f (g P) := ⟨fun P h => hf.on _ (hg.on P h), fun P Q h k => by rw [hg.add P Q h k, hf.add _ _ (hg.on P h) (hg.on Q k)]⟩
theorem Ad.sum {f g : F2 × F2 → F2 × F2} (hf : Ad f) (hg : Ad g) : Ad fun P => padd (f P) (g P) := ⟨fun P h => padd_on tb_ne (hf.on P h) (hg.on P h), fun P Q h k => by
  show padd (f (padd P Q)) (g (padd P Q)) = _
  rw [hf.add P Q h k, hg.add P Q h k]
  exact add4 tb_ne (hf.on P h) (hf.on Q k) (hg.on P h) (hg.on Q k)⟩
theorem Ad.zero {f : F2 × F2 → F2 × F2} (hf : Ad f) : f O2 = O2 := by
  have oO : OnP tb (O2 : F2 × F2) := .inl rfl
  have h := hf.add O2 O2 oO oO
  rw [O_add] at h
  have c := cancel tb_ne (hf.on _ oO) (hf.on _ oO)
  rw [← h, neg_add_self] at c
  exact c.symm
theorem Ad.nmul {f : F2 × F2 → F2 × F2} (hf : Ad f) {P : F2 × F2} (oP : OnP tb P) : ∀ n, f (nmul P n) = nmul (f P) n
  | 0 => hf.zero
  | n + 1 => by
    show f (padd (Cr.nmul P n) P) = padd (Cr.nmul (f P) n) (f P)
    rw [hf.add _ _ (nmul_on tb_ne oP n) oP, hf.nmul oP n]
theorem Ad.eq {f g : F2 × F2 → F2 × F2} (hf : Ad f) (hg : Ad g) (h1 : f T1 = g T1) (h2 : f T2 = g T2) {P : F2 × F2} (oP : OnP tb P) : f P = g P := by
  have oa : OnP tb T1 := .inr T1_on
  have ob : OnP tb T2 := .inr T2_on
  obtain ⟨a, c, rfl⟩ := all_tw oP
  rw [hf.add _ _ (nmul_on tb_ne oa a) (nmul_on tb_ne ob c), hg.add _ _ (nmul_on tb_ne oa a) (nmul_on tb_ne ob c), hf.nmul oa, hf.nmul ob, hg.nmul oa, hg.nmul ob, h1, h2]
def uN : Nat := 15132376222941642752
/-- What is cleared: as the program sums. -/
noncomputable def clr (P : F2 × F2) : F2 × F2 := psum [nmul (nmul P uN) uN, nmul P uN, pneg P, pneg (tau (padd (nmul P uN) P)), tau (tau (padd P P))]
noncomputable def clr' (P : F2 × F2) : F2 × F2 := padd (nmul (nmul P uN) uN) (padd (nmul P uN) (padd (pneg P) (padd (pneg (tau (padd (nmul P uN) P))) (tau (tau (padd P P))))))
theorem clr_eq (P : F2 × F2) : clr P = clr' P := by
  simp only [clr, clr', psum, add_O]
theorem ad_clr : Ad clr' := ((ad_mul uN).comp (ad_mul uN)).sum ((ad_mul uN).sum (ad_neg.sum ((ad_neg.comp (ad_tau.comp ((ad_mul uN).sum ad_id))).sum (ad_tau.comp (ad_tau.comp (ad_id.sum ad_id))))))
noncomputable def tauJ (a : J3) : J3 := fo2 (vmul irv irv) fun r2 => fo2 (vmul r2 irv) fun r3 => fo2 (vmul (vcj a.1) r2) fun x => fo2 (vmul (vcj a.2.1) r3) fun y => fo2 (vcj a.2.2) fun z => (x, y, z)
theorem tauJ_rep {a : J3} {P : F2 × F2} (h : Rep tb (j3 a) P) : Rep tb (j3 (tauJ a)) (tau P) := by
  have e : j3 (tauJ a) = (cjg (q2 a.1) * (ir * ir), cjg (q2 a.2.1) * (ir * ir * ir), cjg (q2 a.2.2)) := by
    have e1 : j3 (tauJ a) = (q2 (tauJ a).1, q2 (tauJ a).2.1, q2 (tauJ a).2.2) := rfl
    rw [e1]
    simp only [tauJ, fo2_eq, q2_mul, q2_cj]; rfl
  rw [e]
  rcases h with ⟨h1, rfl⟩ | ⟨h1, h2, h3, h4⟩
  · refine .inl ⟨?_, tws_O hm_cj⟩
    show cjg (q2 a.2.2) = 0
    have h1 : q2 a.2.2 = 0 := h1
    rw [h1, hm_cj.zero]
  · have h1 : q2 a.2.2 ≠ 0 := h1
    have h2 : q2 a.1 = P.1 * (q2 a.2.2 * q2 a.2.2) := h2
    have h3 : q2 a.2.1 = P.2 * (q2 a.2.2 * (q2 a.2.2 * q2 a.2.2)) := h3
    refine .inr ⟨fun z => h1 (hm_cj.inj _ z), ?_, ?_, tws_on hm_cj tb_tau h4⟩
    · show cjg (q2 a.1) * (ir * ir) = cjg P.1 * (ir * ir) * (cjg (q2 a.2.2) * cjg (q2 a.2.2))
      rw [h2, hm_cj.mul, hm_cj.mul]; exact tc_x _ _ _
    · show cjg (q2 a.2.1) * (ir * ir * ir) = cjg P.2 * (ir * ir * ir) * (cjg (q2 a.2.2) * (cjg (q2 a.2.2) * cjg (q2 a.2.2)))
      rw [h3, hm_cj.mul, hm_cj.mul, hm_cj.mul]; exact tc_y _ _ _
noncomputable def negJ (a : J3) : J3 := fo2 (vneg a.2.1) fun y => (a.1, y, a.2.2)
theorem negJ_rep {a : J3} {P : F2 × F2} (h : Rep tb (j3 a) P) : Rep tb (j3 (negJ a)) (pneg P) := by
  have e : j3 (negJ a) = (q2 a.1, -q2 a.2.1, q2 a.2.2) := by
    have e1 : j3 (negJ a) = (q2 (negJ a).1, q2 (negJ a).2.1, q2 (negJ a).2.2) := rfl
    rw [e1]
    simp only [negJ, fo2_eq, q2_neg]
  rw [e]
  rcases h with ⟨h1, rfl⟩ | ⟨h1, h2, h3, h4⟩
  · exact .inl ⟨h1, pneg_O⟩
  · have h3 : q2 a.2.1 = P.2 * (q2 a.2.2 * (q2 a.2.2 * q2 a.2.2)) := h3
    refine .inr ⟨h1, h2, ?_, pneg_on h4⟩
    show -q2 a.2.1 = -P.2 * (q2 a.2.2 * (q2 a.2.2 * q2 a.2.2))
    rw [h3]; exact tc_n _ _
noncomputable def addJ (a c : J3) : J3 := evP2.jadd a c
theorem addJ_rep {a c : J3} {P Q : F2 × F2} (h : Rep tb (j3 a) P) (k : Rep tb (j3 c) Q) : Rep tb (j3 (addJ a c)) (padd P Q) := by
  have e : j3 (addJ a c) = Cr.jadd (j3 a) (j3 c) := evP2.jadd_φ a c
  rw [e]; exact rep_add tb_ne h k
theorem uN_lt : uN < 2 ^ 760 := of_decide_eq_true (by kernel_rfl)
theorem hN_lt : hN < 2 ^ 760 := of_decide_eq_true (by kernel_rfl)
/-- What is cleared, less h times the point. -/
noncomputable def clJ (o : J3) : J3 := fo6 (mj o uN) fun A => fo6 (mj A uN) fun B => fo6 (negJ (tauJ (addJ A o))) fun D => fo6 (tauJ (tauJ (addJ o o))) fun E => fo6 (negJ o) fun C =>
  fo6 (addJ D E) fun X => fo6 (addJ C X) fun Y => fo6 (addJ A Y) fun Z => fo6 (addJ B Z) fun W => fo6 (mj o hN) fun H => addJ W (negJ H)
theorem clJ_rep {o : J3} {P : F2 × F2} (h : Rep tb (j3 o) P) : Rep tb (j3 (clJ o)) (padd (clr' P) (pneg (nmul P hN))) := by
  have hA := mj_rep h uN_lt
  have e : clJ o = addJ (addJ (mj (mj o uN) uN) (addJ (mj o uN) (addJ (negJ o) (addJ (negJ (tauJ (addJ (mj o uN) o))) (tauJ (tauJ (addJ o o))))))) (negJ (mj o hN)) := by
    unfold clJ; simp only [fo6_eq]
  rw [e]
  exact addJ_rep (addJ_rep (mj_rep hA uN_lt) (addJ_rep hA (addJ_rep (negJ_rep h) (addJ_rep (negJ_rep (tauJ_rep (addJ_rep hA h))) (tauJ_rep (tauJ_rep (addJ_rep h h))))))) (negJ_rep (mj_rep h hN_lt))
theorem cl_1 : evP2.isz (clJ o1).2.2 = true := by kernel_rfl
theorem cl_2 : evP2.isz (clJ o2).2.2 = true := by kernel_rfl
theorem eq_of_dif {P Q : F2 × F2} (oP : OnP tb P) (oQ : OnP tb Q) (h : padd P (pneg Q) = O2) : P = Q := by
  have c := cancel' tb_ne oP (pneg_onP oQ)
  rw [h, O_add, pneg_pneg] at c
  exact c.symm
/-- CLEARED IS h TIMES. -/
theorem clr_h {P : F2 × F2} (oP : OnP tb P) : clr P = nmul P hN := by
  rw [clr_eq]
  have oa : OnP tb T1 := .inr T1_on
  have ob : OnP tb T2 := .inr T2_on
  refine ad_clr.eq (ad_mul hN) ?_ ?_ oP
  · exact eq_of_dif (ad_clr.on _ oa) (nmul_on tb_ne oa hN) ((rep_z (clJ_rep T1_rep)).1 cl_1)
  · exact eq_of_dif (ad_clr.on _ ob) (nmul_on tb_ne ob hN) ((rep_z (clJ_rep T2_rep)).1 cl_2)
def rQ : Nat := 52435875175126190479447740508185965837690552500527637822603658699938581184513
theorem nmul_dvd {P : F2 × F2} (oP : OnP tb P) {m n : Nat} (h : nmul P m = O2) (hd : n % m = 0) : nmul P n = O2 := by
  obtain ⟨s, rfl⟩ := Nat.dvd_of_mod_eq_zero hd
  rw [← nmul_mul tb_ne oP, h, nmul_O]
/-- .. which r times is nought. -/
theorem h_r {P : F2 × F2} (oP : OnP tb P) : nmul (nmul P hN) rQ = O2 := by
  have oa : OnP tb T1 := .inr T1_on
  have ob : OnP tb T2 := .inr T2_on
  have z : Ad fun _ => (O2 : F2 × F2) := ⟨fun _ _ => .inl rfl, fun _ _ _ _ => (O_add _).symm⟩
  refine ((ad_mul rQ).comp (ad_mul hN)).eq z ?_ ?_ oP
  · show nmul (nmul T1 hN) rQ = O2
    rw [nmul_mul tb_ne oa]; exact nmul_dvd oa T1_k (of_decide_eq_true (by kernel_rfl))
  · show nmul (nmul T2 hN) rQ = O2
    rw [nmul_mul tb_ne ob]; exact nmul_dvd ob T2_k (of_decide_eq_true (by kernel_rfl))
end Cr
/- h2c: what Map makes. -/
namespace Go.Proofs.YtbfimfdhmggieaaDoor.h2c
set_option maxRecDepth 100000
open Go Go.Eng Go.RowKit Cr Go.Proofs.YtbfimfdhmggieaaDoor Go.Proofs.YtbfimfdhmggieaaDoor.fp2 Rg Fd
theorem fpsqrt_sq (y : Fp) : (fp.fpSqrt (y * y)).2 = true := by
  by_cases hy : y = 0
  · rw [hy, mul_zero]; exact fp2.fpsqrt_zero
  · unfold fp.fpSqrt
    have e : zpw (y * y) fp.p14 * zpw (y * y) fp.p14 = y * y := by
      have hf := zpw_inv hy
      rw [zpw_eq] at hf ⊢
      rw [← zpow_sq, ← zpow_add]
      have en : 2 * fp.p14.toNat + 2 * fp.p14.toNat = (4002409555221667393417789825735904156556882819939007885332058136124031650490837864442687629129015664037894272559785 : Int).toNat + 1 + 1 + 1 := of_decide_eq_true (by kernel_rfl)
      rw [en]
      generalize (4002409555221667393417789825735904156556882819939007885332058136124031650490837864442687629129015664037894272559785 : Int).toNat = m at *
      show zpow y m * y * y * y = y * y
      rw [mul_comm (zpow y m) y, hf, one_mul]
    rw [if_pos e]
theorem sqrt2_sq (z : F2) : (fp2.sqrt2 (z * z)).2 = true := by
  obtain ⟨c, d⟩ := z
  have e1 : (((c, d) : F2) * (c, d)).1 = c * c - d * d := F2.mul1 _ _
  have e2 : (((c, d) : F2) * (c, d)).2 = c * d + d * c := F2.mul2 _ _
  by_cases hb : (((c, d) : F2) * (c, d)).2 = 0
  · rw [fp2.sqrt2, if_pos hb]
    by_cases h1 : (fp.fpSqrt (((c, d) : F2) * (c, d)).1).2 = true
    · rw [if_pos h1]
    · rw [if_neg h1]
      show (fp.fpSqrt (-(((c, d) : F2) * (c, d)).1)).2 = true
      rw [e1] at h1 ⊢
      rw [e2, mul_comm d c] at hb
      rcases mul_eq_zero (double_eq_zero hb) with h | h
      · rw [h, q_8, neg_neg]; exact fpsqrt_sq d
      · rw [h, mul_zero, sub_def, neg_zero, add_zero] at h1
        exact absurd (fpsqrt_sq c) h1
  · rw [fp2.sqrt2, if_neg hb, e1, e2, q_5, if_pos (fpsqrt_sq _)]
    have hn := fp2.fpsqrt_ok (fpsqrt_sq (c * c + d * d))
    generalize (fp.fpSqrt ((c * c + d * d) * (c * c + d * d))).1 = n at *
    rcases sq_eq hn with h | h
    · rw [h, q_6, if_pos (fpsqrt_sq _)]
    · by_cases h2 : (fp.fpSqrt (c * c - d * d + n + (c * c - d * d + n))).2 = true
      · rw [if_pos h2]
      · rw [if_neg h2]
        show (fp.fpSqrt (c * c - d * d - n + (c * c - d * d - n))).2 = true
        rw [h, q_7]
        exact fpsqrt_sq _
theorem gsq_of {x y : F2} (h : y * y = hq x cG) : (gsq x).2 = true := by rw [gsq, ← h]; exact sqrt2_sq y
theorem gsq_sq {x : F2} (h : (gsq x).2 = true) : (gsq x).1 * (gsq x).1 = hq x cG := sqrt2_ok h
theorem inv2_0 : inv2 0 = 0 := by
  rw [inv2_def]
  refine F2.ext ?_ ?_
  · show (0 : Fp) * _ = 0
    rw [zero_mul]
  · show -(0 : Fp) * _ = 0
    rw [neg_zero, zero_mul]
theorem inv2_m {x : F2} (h : x ≠ 0) : x * inv2 x = 1 := mul_inv (F := F2) x h
theorem inv2_u {x y : F2} (h : y * x = 1) : inv2 x = y := by
  have hx : x ≠ 0 := fun e => by
    rw [e, mul_zero] at h
    exact absurd (congrArg Prod.fst h) (by decide)
  refine mul_left hx ?_
  rw [inv2_m hx, mul_comm x y, h]
theorem map_sq (u : F2) : (gsq (swx u)).2 = true ∨ (gsq (swx u * (cz * (u * u)))).2 = true := by
  by_cases h : ∃ y : F2, y * y = hq (swx u) cG
  · obtain ⟨y, hy⟩ := h
    exact .inl (gsq_of hy)
  · right
    have hn : ∀ y : F2, y * y ≠ hq (swx u) cG := fun y e => h ⟨y, e⟩
    by_cases hd : inv2 (cz * (u * u) * (cz * (u * u)) + cz * (u * u)) = 0
    · exfalso
      obtain ⟨y, hy⟩ := sw_0
      refine hn y ?_
      rw [swx, if_pos hd]; exact hy
    · have ht : cz * (u * u) * (cz * (u * u)) + cz * (u * u) ≠ 0 := fun e => hd (by rw [e]; exact inv2_0)
      obtain ⟨y, hy⟩ := sw_two (u := u) (t := cz * (u * u)) (d := inv2 (cz * (u * u) * (cz * (u * u)) + cz * (u * u))) (x := swx u) rfl (by rw [mul_comm]; exact inv2_m ht) (by rw [swx, if_neg hd]; rfl) hn
      exact gsq_of hy
theorem fixy_sq (u y : F2) : fixy u y * fixy u y = y * y := by
  rw [fixy]
  by_cases h : odo y = odo u
  · rw [if_pos h]
  · rw [if_neg h, neg_mul, mul_neg, neg_neg]
theorem acro_on {x y : F2} (h : y * y = hq x cG) : OnP tb (acro x y) := by
  rw [acro, opq_eq]
  by_cases hz : hq x cU * hq x cB = 0
  · rw [if_pos hz]; exact .inl rfl
  · rw [if_neg hz]; exact .inr (iso_on h (inv2_m hz))
theorem mapo_form (u : F2) : ∃ x y : F2, y * y = hq x cG ∧ mapo u = acro x (fixy u y) ∧ mapo (-u) = acro x (fixy (-u) y) := by
  have e1 : -u * -u = u * u := by rw [neg_mul, mul_neg, neg_neg]
  have e2 : swx (-u) = swx u := by rw [swx, swx, e1]
  by_cases h : (gsq (swx u)).2 = true
  · refine ⟨swx u, (gsq (swx u)).1, gsq_sq h, ?_, ?_⟩
    · rw [mapo, opq_eq, swm, if_pos h]
    · rw [mapo, opq_eq, e2, swm, if_pos h]
  · have h2 := (map_sq u).resolve_left h
    refine ⟨swx u * (cz * (u * u)), (gsq (swx u * (cz * (u * u)))).1, gsq_sq h2, ?_, ?_⟩
    · rw [mapo, opq_eq, swm, if_neg h]
    · rw [mapo, opq_eq, e2, e1, swm, if_neg h]
/-- Every number makes a point of the curve. -/
theorem mapo_on (u : F2) : OnP tb (mapo u) := by
  obtain ⟨x, y, h, e, _⟩ := mapo_form u
  rw [e]
  exact acro_on (by rw [fixy_sq, h])
theorem fixy_at {u y y' : F2} (h : y' * y' = y * y) (ho : od y = od u) : fixy u y' = y := by
  rw [fixy, odo, odo, opq_eq, opq_eq]
  rcases sq_eq h with e | e
  · rw [e, if_pos ho]
  · by_cases h0 : y = 0
    · rw [e, h0, neg_z]
      rw [neg_z]
      simp
    · rw [e, od_neg h0, ho, if_neg (by cases od u <;> decide), neg_neg]
theorem mapo_at {u d x y i : F2} (hd : d * (cz * (u * u) * (cz * (u * u)) + cz * (u * u)) = 1) (hx : ca * x = -cb * (1 + d)) (hy : y * y = hq x cG) (ho : od y = od u) (hi : i * (hq x cU * hq x cB) = 1) :
    mapo u = (hq x cW * hq x cB * i, y * hq x cH * hq x cU * i) := by
  have ed := inv2_u hd
  have hd0 : d ≠ 0 := fun e => by
    rw [e, zero_mul] at hd
    exact absurd (congrArg Prod.fst hd) (by decide)
  have ex : swx u = x := by
    rw [swx, ed, if_neg hd0]
    refine mul_left ca_ne ?_
    rw [hx]
    have h1 := inv2_m ca_ne
    generalize inv2 ca = j at *
    have e : ca * (-cb * j * (1 + d)) = (ca * j) * (-cb * (1 + d)) := by ac_rfl
    rw [e, h1, one_mul]
  have hg : (gsq x).2 = true := gsq_of hy
  have ei := inv2_u hi
  have hn : ¬ hq x cU * hq x cB = 0 := fun e => by
    rw [e, mul_zero] at hi
    exact absurd (congrArg Prod.fst hi) (by decide)
  rw [mapo, opq_eq, ex, swm, if_pos hg, fixy_at (y := y) ((gsq_sq hg).trans hy.symm) ho, acro, opq_eq, if_neg hn, ei]
def hqN (x : V2) (l : List V2) : V2 := l.foldr (fun c s => fo2 s fun s => vadd (vmul s x) c) (0, 0)
theorem hqN_eq (x : V2) : ∀ l, q2 (hqN x l) = hq (q2 x) l
  | [] => rfl
  | c :: l => by
    show q2 (fo2 (hqN x l) fun s => vadd (vmul s x) c) = hq (q2 x) l * q2 x + q2 c
    rw [fo2_eq, q2_add, q2_mul, hqN_eq x l]
def zV : V2 := (4002409555221667393417789825735904156556882819939007885332058136124031650490837864442687629129015664037894272559785, 4002409555221667393417789825735904156556882819939007885332058136124031650490837864442687629129015664037894272559786)
noncomputable def eqv (a b : V2) : Bool := evP2.isz (vsub a b)
theorem eqv_ok {a b : V2} (h : eqv a b = true) : q2 a = q2 b := by
  have h1 : q2 (vsub a b) = 0 := (evP2.isz_φ _).1 h
  rw [q2_sub] at h1
  exact eq_of_sub h1
theorem q2_one : q2 (1, 0) = 1 := rfl
noncomputable def mck (u d x y i X Y : V2) : Bool :=
  (fo2 (vmul zV (vmul u u)) fun t => eqv (vmul d (vadd (vmul t t) t)) (1, 0)) &&
  eqv (vmul (0, 240) x) (vmul (vneg (1012, 1012)) (vadd (1, 0) d)) &&
  eqv (vmul y y) (hqN x cG) &&
  (od (q2 y) == od (q2 u)) &&
  (fo2 (hqN x cU) fun U => fo2 (hqN x cB) fun B => eqv (vmul i (vmul U B)) (1, 0) && eqv (vmul (vmul (hqN x cW) B) i) X && eqv (vmul (vmul (vmul y (hqN x cH)) U) i) Y)
theorem mck_ok {u d x y i X Y : V2} (h : mck u d x y i X Y = true) : mapo (q2 u) = (q2 X, q2 Y) := by
  unfold mck at h
  simp only [Bool.and_eq_true, fo2_eq, beq_iff_eq] at h
  obtain ⟨⟨⟨⟨h1, h2⟩, h3⟩, h4⟩, ⟨h5, h6⟩, h7⟩ := h
  have h1 := eqv_ok h1
  have h2 := eqv_ok h2
  have h3 := eqv_ok h3
  have h5 := eqv_ok h5
  have h6 := eqv_ok h6
  have h7 := eqv_ok h7
  simp only [q2_mul, q2_add, q2_neg, hqN_eq, q2_one] at h1 h2 h3 h5 h6 h7
  rw [mapo_at (u := q2 u) (d := q2 d) (x := q2 x) (y := q2 y) (i := q2 i) h1 h2 h3 h4 h5, h6, h7]
def hu0 : V2 := (593868448310005448561172252387029516360409945786457439875974315031640021389835649561235021338510064922970633805048, 867375309489067512797459860887365951877054038763818448057326190302701649888849997836339069389536967202878289851290)
def hd0 : V2 := (1516481514946737989817691402502930166608728453590917569809237108048006962059989903273067253177416255699306394247410, 1883201769330466065671958181559058082716285314217293419436581379803024778698693945944863852649598770086728047395995)
def hx0 : V2 := (3942339120143403995959884458065911863622623490130179671696530864527894030375709350085997343451924840375271949093332, 3523381697296058645143708860912139218718520142948191822158638626523448297128525915027995335789050238781038107799201)
def hy0 : V2 := (1842813153358560687634500333570189006426514559071004676715031705637331861897467026112259097700599015948196491964104, 1919560373509329990190398196596248904228486898136222165059580822353869402983639316101175960854421770934878934628156)
def hi0 : V2 := (2454567654962684433529200433411278197692559676238490619416670460433141543914263196284380402029910341794404062652095, 2469042902584607311002421584728987765691350006403795933686936770579748216862851481181808083345152729306251949154084)
def hX0 : V2 := (247000889425909073323253760662594248478519539052718751429094202182751397921429811614953873291195197910072700650892, 3557179370195599083109501581838000826052321867195478666908439992121263526125384222649169667449608345548902519938077)
def hY0 : V2 := (1789866621042807238102907475382506332034840965291028464945081245097279248221497616806901995510849528127582528143091, 2261920060396917200558995605865363952988463533408187402812091326590595155556733986360256617149524560595567798206730)
def hu1 : V2 := (457889704519948843474026022562641969443315715595459159112874498082953431971323809145630315884223143822925947137684, 3132697209754082586339430915081913810572071485832539443682634025529375380328136128542015469873094481703191673087029)
def hd1 : V2 := (1221644787499537759389707874314907733265958153886478669368798400684096060258956443229136157537698125499892319689601, 3745939490412463010995062332805027016761066959291460031786134864261167340089249978301062770010696175075576528609227)
def hx1 : V2 := (1133312341110595205232359498620679734391514329429885310878552117098380600406185141389821276199340445849156426628096, 2363721723854250884338572300341685530072160368677437549136086854319785634144151986552110912074825799079021304874889)
def hy1 : V2 := (2118805429048073078443247863779680561222250856781612015223057344889147526018767378659529981548751757045068950554072, 1078123135037974527736698374119090217049035685701368399503148425326441759310804083797413869614596539324259578903443)
def hi1 : V2 := (1653521226226606539238622212149338904841251379436092275785307872052369282295753674026873335922746312574405142031088, 1450249029647743005075847438497611364360331081100495511459224611447411126789024356187898526310641575945036211539392)
def hX1 : V2 := (2653316741049867356846339142779301820246227038474367602164293991028731662252487887055483099994673757855056102033598, 3004540012464469496149443751502035824386563338581531881619960946487251912156763500062348703680303970725657264924210)
def hY1 : V2 := (2436093761503339277710533452184041720241350573820092656898129088132931367043020801076222585008031239228777997258186, 836535538336124528574557550904612322806859485510882466665227695209180661987073534533776044142505491651567017359628)
def hCx : V2 := (193548053368451749411421515628510806626565736652086807419354395577367693778571452628423727082668900187036482254730, 891930009643099423308102777951250899694559203647724988361022851024990473423938537113948850338098230396747396259901)
def hCy : V2 := (771717272055834152378281705972671257005357145478800908373659404991537354153455452961747174765859335819766715637138, 2810310118582126634041133454180705304393079139103252956502404531123692847658283858246402311867775854528543237781718)
theorem map_0 : mapo (q2 hu0) = (q2 hX0, q2 hY0) := mck_ok (d := hd0) (x := hx0) (y := hy0) (i := hi0) (by kernel_rfl)
theorem map_1 : mapo (q2 hu1) = (q2 hX1, q2 hY1) := mck_ok (d := hd1) (x := hx1) (y := hy1) (i := hi1) (by kernel_rfl)
theorem p0_rep : Rep tb (j3 (jp hX0 hY0)) (mapo (q2 hu0)) := by rw [map_0]; exact jp_rep (onc_ok (by kernel_rfl))
theorem p1_rep : Rep tb (j3 (jp hX1 hY1)) (mapo (q2 hu1)) := by rw [map_1]; exact jp_rep (onc_ok (by kernel_rfl))
noncomputable def hJ : J3 := fo6 (addJ (jp hX0 hY0) (jp hX1 hY1)) fun s => mj s hN
theorem hJ_rep : Rep tb (j3 hJ) (nmul (padd (mapo (q2 hu0)) (mapo (q2 hu1))) hN) := by
  unfold hJ
  rw [fo6_eq]
  exact mj_rep (addJ_rep p0_rep p1_rep) hN_lt
noncomputable def hJc : Bool := fo6 hJ fun j => !evP2.isz j.2.2 && eqv j.1 (vmul hCx (vmul j.2.2 j.2.2)) && eqv j.2.1 (vmul hCy (vmul j.2.2 (vmul j.2.2 j.2.2)))
theorem hJc_ok : hJc = true := by kernel_rfl
theorem head_pt : nmul (padd (mapo (q2 hu0)) (mapo (q2 hu1))) hN = (q2 hCx, q2 hCy) := by
  have h := hJc_ok
  unfold hJc at h
  rw [fo6_eq] at h
  simp only [Bool.and_eq_true, Bool.not_eq_true'] at h
  obtain ⟨⟨h1, h2⟩, h3⟩ := h
  have h2 := eqv_ok h2
  have h3 := eqv_ok h3
  simp only [q2_mul] at h2 h3
  have hr := hJ_rep
  generalize nmul (padd (mapo (q2 hu0)) (mapo (q2 hu1))) hN = P at *
  rcases hr with ⟨hz, _⟩ | ⟨hz, hX, hY, _⟩
  · exact absurd ((evP2.isz_φ _).2 hz) (by rw [h1]; decide)
  · have hz : q2 hJ.2.2 ≠ 0 := hz
    have hX : q2 hJ.1 = P.1 * (q2 hJ.2.2 * q2 hJ.2.2) := hX
    have hY : q2 hJ.2.1 = P.2 * (q2 hJ.2.2 * (q2 hJ.2.2 * q2 hJ.2.2)) := hY
    rw [hX] at h2
    rw [hY] at h3
    have hz2 := mul_ne hz hz
    refine Prod.ext (mul_left hz2 ?_) (mul_left (mul_ne hz hz2) ?_)
    · rw [mul_comm, h2, mul_comm]
    · rw [mul_comm, h3, mul_comm]
end Go.Proofs.YtbfimfdhmggieaaDoor.h2c
namespace Go.Proofs.YtbfimfdhmggieaaDoor.xmd
set_option maxRecDepth 100000
open Go Go.Eng Go.RowKit Cr Go.Proofs.YtbfimfdhmggieaaDoor Go.Proofs.YtbfimfdhmggieaaDoor.sha
/-- The numbers. -/
noncomputable def nmb (E : List Int) (i : Nat) : F2 := (zm (num ((E.drop (128 * i)).take 64)), zm (num ((E.drop (128 * i + 64)).take 64)))
noncomputable def nums (m t : List Int) (n : Nat) : List F2 := opq ((List.range n).map (nmb (expo m t (128 * (n : Int)))))
theorem nums_len (m t : List Int) (n : Nat) : (nums m t n).length = n := by rw [nums, opq_eq, List.length_map, List.length_range]
theorem nums_two (m t : List Int) : nums m t 2 = [nmb (expo m t 256) 0, nmb (expo m t 256) 1] := by rw [nums, opq_eq]; rfl
noncomputable def splC (d : List Int) : List Int := itC (fun i w => itC (fun j w => sB d i j w) w 4) (List.replicate 8 0) 8
noncomputable def bytC (o : List Int) : List Int := itC (fun i d => itC (fun j d => bB o i j d) d 4) (List.replicate 32 0) 8
theorem splC_eq (d : List Int) : splC d = spl d := by
  have hs : it (fun i w => itC (fun j w => sB d i j w) w 4) (List.replicate 8 0) 8 = sAk d 8 := it_congr _ 8 (fun i _ w => by rw [itC_eq]; rfl)
  rw [splC, itC_eq, hs, spl, opq_eq]
theorem bytC_eq (o : List Int) : bytC o = byt o := by
  have hb : it (fun i d => itC (fun j d => bB o i j d) d 4) (List.replicate 32 0) 8 = bAk o 8 := it_congr _ 8 (fun i _ w => by rw [itC_eq]; rfl)
  rw [bytC, itC_eq, hb, byt, opq_eq]
noncomputable def nxC (f t : List Int) (i : Nat) (last : List Int) : List Int :=
  fl (itC (oA last) f 8) fun o => fl (bytC o) fun y => fl (digC (List.flatten [y, [IntKind.u8.wrap ((i : Int) + 1)], t, endF t])) fun z => z
theorem nxC_eq (f t : List Int) (i : Nat) (last : List Int) : nxC f t i last = nxD f t i last := by
  rw [nxC]
  simp only [fl_eq]
  rw [itC_eq, bytC_eq, digC_eq, nxD, ovr, opq_eq]; rfl
noncomputable def expC8 (msg tag : List Int) : List Int :=
  fl (digC (List.flatten [List.replicate 64 0, msg, [IntKind.u8.wrap ((256 : Int).fdiv (2 ^ min (8 : Nat) IntKind.i64.bits)), IntKind.u8.wrap 256, 0], tag, endF tag])) fun d =>
  fl (splC d) fun f =>
  fl (nxC f tag 0 (List.replicate 8 0)) fun a0 => fl (splC a0) fun w0 => fl (nxC f tag 1 w0) fun a1 => fl (splC a1) fun w1 => fl (nxC f tag 2 w1) fun a2 => fl (splC a2) fun w2 => fl (nxC f tag 3 w2) fun a3 => fl (splC a3) fun w3 =>
  fl (nxC f tag 4 w3) fun a4 => fl (splC a4) fun w4 => fl (nxC f tag 5 w4) fun a5 => fl (splC a5) fun w5 => fl (nxC f tag 6 w5) fun a6 => fl (splC a6) fun w6 => fl (nxC f tag 7 w6) fun a7 =>
  [] ++ a0 ++ a1 ++ a2 ++ a3 ++ a4 ++ a5 ++ a6 ++ a7
theorem expC8_eq {msg tag : List Int} (ht : tag.length ≤ 255) : expC8 msg tag = expo msg tag 256 := by
  rw [expo, opq_eq, expF, tagF, decide_eq_false (by omega)]
  show _ = (exK (fstF msg tag 256) tag 8).1.take 256
  rw [List.take_of_length_le (by rw [exK_len]; omega)]
  rw [expC8]
  simp only [fl_eq, nxC_eq, splC_eq, digC_eq]
  rfl
def quux2 : List Int := [81, 85, 85, 88, 45, 86, 48, 49, 45, 67, 83, 48, 50, 45, 119, 105, 116, 104, 45, 66, 76, 83, 49, 50, 51, 56, 49, 71, 50, 95, 88, 77, 68, 58, 83, 72, 65, 45, 50, 53, 54, 95, 83, 83, 87, 85, 95, 82, 79, 95]
def nck (l : List Int) (a : Nat) : Bool := decide (num l % Mp = (a : Int) % Mp)
theorem head_num : (fl (expC8 [] quux2) fun l => nck (l.take 64) h2c.hu0.1 && nck ((l.drop 64).take 64) h2c.hu0.2 && nck ((l.drop 128).take 64) h2c.hu1.1 && nck ((l.drop 192).take 64) h2c.hu1.2) = true := by kernel_rfl
theorem nums_q : nums [] quux2 2 = [q2 h2c.hu0, q2 h2c.hu1] := by
  have h := head_num
  rw [fl_eq, expC8_eq (by decide)] at h
  simp only [Bool.and_eq_true] at h
  obtain ⟨⟨⟨h1, h2⟩, h3⟩, h4⟩ := h
  rw [nums_two]
  have e0 : nmb (expo [] quux2 256) 0 = q2 h2c.hu0 := F2.ext (Zm.ext (of_decide_eq_true h1)) (Zm.ext (of_decide_eq_true h2))
  have e1 : nmb (expo [] quux2 256) 1 = q2 h2c.hu1 := F2.ext (Zm.ext (of_decide_eq_true h3)) (Zm.ext (of_decide_eq_true h4))
  rw [e0, e1]
end Go.Proofs.YtbfimfdhmggieaaDoor.xmd
