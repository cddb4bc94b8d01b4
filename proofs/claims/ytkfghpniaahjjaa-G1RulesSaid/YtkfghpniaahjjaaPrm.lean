/- Primes: Fermat, Pocklington. No program here. -/
import Derived.KernelRfl
namespace Cr

def Prm (p : Nat) : Prop := 1 < p ∧ ∀ d, d ∣ p → d = 1 ∨ d = p

theorem Prm.coprime {p k : Nat} (h : Prm p) (hk : ¬ p ∣ k) : Nat.Coprime p k := by
  rcases h.2 (Nat.gcd p k) (Nat.gcd_dvd_left p k) with e | e
  · exact e
  · exact absurd (e ▸ Nat.gcd_dvd_right p k) hk
theorem Prm.dvd_mul {p a b : Nat} (h : Prm p) (hd : p ∣ a * b) : p ∣ a ∨ p ∣ b := by
  by_cases ha : p ∣ a
  · exact .inl ha
  · exact .inr ((h.coprime ha).dvd_of_dvd_mul_left hd)

/-- Binomial coefficients. -/
def ch : Nat → Nat → Nat
  | _, 0 => 1
  | 0, _ + 1 => 0
  | n + 1, k + 1 => ch n k + ch n (k + 1)
theorem ch_zero (n : Nat) : ch n 0 = 1 := by cases n <;> rfl
theorem ch_mul : ∀ n k : Nat, (k + 1) * ch (n + 1) (k + 1) = (n + 1) * ch n k := by
  intro n
  induction n with
  | zero =>
    intro k
    cases k with
    | zero => rfl
    | succ k => simp [ch]
  | succ n ih =>
    intro k
    cases k with
    | zero =>
      have h : (0 + 1) * ch (n + 1) 1 = (n + 1) * ch n 0 := ih 0
      rw [ch_zero] at h
      show 1 * (ch (n + 1) 0 + ch (n + 1) 1) = (n + 1 + 1) * ch (n + 1) 0
      rw [ch_zero]
      omega
    | succ j =>
      have h1 := ih j
      have h2 := ih (j + 1)
      have e1 : ch (n + 1 + 1) (j + 1 + 1) = ch (n + 1) (j + 1) + ch (n + 1) (j + 1 + 1) := rfl
      have e2 : ch (n + 1) (j + 1) = ch n j + ch n (j + 1) := rfl
      rw [e1, Nat.mul_add, h2, Nat.add_mul (j + 1) 1, h1, Nat.one_mul]
      rw [e2, Nat.mul_add, Nat.add_mul (n + 1) 1, Nat.add_mul (n + 1) 1]
      omega
theorem ch_self : ∀ n : Nat, ch n n = 1 ∧ ∀ k, n < k → ch n k = 0 := by
  intro n
  induction n with
  | zero => exact ⟨rfl, fun k hk => by cases k with | zero => omega | succ k => rfl⟩
  | succ n ih =>
    refine ⟨?_, fun k hk => ?_⟩
    · show ch n n + ch n (n + 1) = 1
      rw [ih.1, ih.2 (n + 1) (by omega)]
    · cases k with
      | zero => omega
      | succ k => show ch n k + ch n (k + 1) = 0; rw [ih.2 k (by omega), ih.2 (k + 1) (by omega)]

def chS (n a : Nat) : Nat → Nat
  | 0 => 0
  | m + 1 => chS n a m + ch n m * a ^ m
theorem chS_succ (n a : Nat) : ∀ m, chS (n + 1) a (m + 1) = a * chS n a m + chS n a (m + 1) := by
  intro m
  induction m with
  | zero => simp [chS, ch_zero]
  | succ m ih =>
    show chS (n + 1) a (m + 1) + ch (n + 1) (m + 1) * a ^ (m + 1) = a * (chS n a m + ch n m * a ^ m) + (chS n a (m + 1) + ch n (m + 1) * a ^ (m + 1))
    rw [ih]
    have e : ch (n + 1) (m + 1) = ch n m + ch n (m + 1) := rfl
    rw [e, Nat.add_mul, Nat.mul_add, Nat.pow_succ, Nat.mul_comm (a ^ m) a, Nat.mul_left_comm a (ch n m)]
    omega
theorem binom (a : Nat) : ∀ n m, n < m → (a + 1) ^ n = chS n a m := by
  intro n
  induction n with
  | zero =>
    intro m hm
    cases m with
    | zero => omega
    | succ m =>
      clear hm
      induction m with
      | zero => simp [chS, ch_zero]
      | succ m ih => show _ = chS 0 a (m + 1) + ch 0 (m + 1) * a ^ (m + 1); rw [← ih, show ch 0 (m + 1) = 0 from rfl, Nat.zero_mul]; rfl
  | succ n ih =>
    intro m hm
    cases m with
    | zero => omega
    | succ m =>
      rw [chS_succ, ← ih m (by omega), ← ih (m + 1) (by omega), Nat.pow_succ, Nat.mul_add, Nat.mul_one, Nat.mul_comm a]
theorem Prm.ch_dvd {p k : Nat} (h : Prm p) (h0 : 0 < k) (h1 : k < p) : p ∣ ch p k := by
  obtain ⟨j, rfl⟩ : ∃ j, k = j + 1 := ⟨k - 1, by omega⟩
  obtain ⟨q, rfl⟩ : ∃ q, p = q + 1 := ⟨p - 1, by omega⟩
  have e := ch_mul q j
  have : q + 1 ∣ (j + 1) * ch (q + 1) (j + 1) := ⟨ch q j, e⟩
  rcases h.dvd_mul this with h2 | h2
  · exact absurd (Nat.le_of_dvd (by omega) h2) (by omega)
  · exact h2
theorem Prm.chS_mod {p : Nat} (h : Prm p) (a : Nat) : ∀ m, m < p → chS p a (m + 1) % p = 1 := by
  intro m
  have hp := h.1
  induction m with
  | zero => intro _; show (0 + ch p 0 * a ^ 0) % p = 1; rw [ch_zero, Nat.pow_zero, Nat.zero_add, Nat.mul_one]; exact Nat.mod_eq_of_lt hp
  | succ m ih =>
    intro hm
    show (chS p a (m + 1) + ch p (m + 1) * a ^ (m + 1)) % p = 1
    obtain ⟨c, hc⟩ := h.ch_dvd (k := m + 1) (by omega) hm
    rw [hc, Nat.mul_assoc, Nat.add_mul_mod_self_left, ih (by omega)]
theorem Prm.step {p : Nat} (h : Prm p) (a : Nat) : (a + 1) ^ p % p = (a ^ p + 1) % p := by
  rw [binom a p (p + 1) (by omega)]
  show (chS p a p + ch p p * a ^ p) % p = _
  obtain ⟨q, hq⟩ : ∃ q, p = q + 1 := ⟨p - 1, by have := h.1; omega⟩
  have := h.chS_mod a q (by omega)
  rw [← hq] at this
  rw [(ch_self p).1, Nat.one_mul, Nat.add_mod, this, Nat.add_comm, ← Nat.add_mod_mod (a ^ p % p), Nat.mod_add_mod]
  have : 1 % p = 1 := Nat.mod_eq_of_lt h.1
  rw [Nat.add_mod (a ^ p) 1, this, Nat.add_mod (a ^ p) 1, this]
theorem Prm.fermat {p : Nat} (h : Prm p) (a : Nat) : a ^ p % p = a % p := by
  induction a with
  | zero => rw [Nat.zero_pow (by have := h.1; omega)]
  | succ a ih => rw [h.step, Nat.add_mod, ih, ← Nat.add_mod]
theorem Prm.fermat' {p a : Nat} (h : Prm p) (ha : ¬ p ∣ a) : a ^ (p - 1) % p = 1 := by
  have hp := h.1
  have e : a ^ p = a ^ (p - 1) * a := by rw [← Nat.pow_succ]; congr 1; omega
  have f := h.fermat a
  rw [e] at f
  have h1 : 1 ≤ a ^ (p - 1) := Nat.pos_of_ne_zero (fun z => by
    have : a = 0 := by
      rcases Nat.eq_zero_or_pos a with h | h
      · exact h
      · exact absurd z (Nat.ne_of_gt (Nat.pow_pos h))
    exact ha (this ▸ Nat.dvd_zero p))
  have hd : p ∣ (a ^ (p - 1) - 1) * a := by
    rw [Nat.sub_mul, Nat.one_mul]
    exact Nat.dvd_of_mod_eq_zero (Nat.sub_mod_eq_zero_of_mod_eq f)
  rcases h.dvd_mul hd with h2 | h2
  · obtain ⟨c, hc⟩ := h2
    have : a ^ (p - 1) = 1 + p * c := by omega
    rw [this, Nat.add_mul_mod_self_left, Nat.mod_eq_of_lt hp]
  · exact absurd h2 ha

/-- Powers that are 1. -/
theorem pow_gcd {d e : Nat} : ∀ m n, e ^ m % d = 1 → e ^ n % d = 1 → e ^ (Nat.gcd m n) % d = 1 := by
  intro m n
  induction m, n using Nat.gcd.induction with
  | H0 n => intro _ h; rwa [Nat.gcd_zero_left]
  | H1 m n hm ih =>
    intro h1 h2
    rw [Nat.gcd_rec]
    refine ih ?_ h1
    have e1 : e ^ n = (e ^ m) ^ (n / m) * e ^ (n % m) := by rw [← Nat.pow_mul, ← Nat.pow_add, Nat.div_add_mod]
    rw [e1, Nat.mul_mod, Nat.pow_mod, h1, Nat.one_pow] at h2
    have hd : d ≠ 1 := by intro hd; subst hd; rw [Nat.mod_one] at h1; cases h1
    have h1d : 1 % d = 1 := by
      rcases Nat.eq_zero_or_pos d with h | h
      · subst h; rfl
      · exact Nat.mod_eq_of_lt (by omega)
    rw [h1d, Nat.one_mul, Nat.mod_mod] at h2
    exact h2

theorem exists_prime : ∀ n : Nat, 1 < n → ∃ d, Prm d ∧ d ∣ n := by
  intro n
  induction n using Nat.strongRecOn with
  | _ n ih =>
    intro hn
    by_cases hp : Prm n
    · exact ⟨n, hp, Nat.dvd_refl n⟩
    · have : ∃ d, d ∣ n ∧ d ≠ 1 ∧ d ≠ n := by
        refine Classical.byContradiction fun hc => hp ⟨hn, fun d hd => ?_⟩
        by_cases h1 : d = 1
        · exact .inl h1
        · by_cases h2 : d = n
          · exact .inr h2
          · exact absurd ⟨d, hd, h1, h2⟩ hc
      obtain ⟨d, hd, h1, h2⟩ := this
      have hdn := Nat.le_of_dvd (by omega) hd
      have hd0 : d ≠ 0 := by rintro rfl; have := Nat.eq_zero_of_zero_dvd hd; omega
      obtain ⟨q, hq, hqd⟩ := ih d (by omega) (by omega)
      exact ⟨q, hq, Nat.dvd_trans hqd hd⟩

/-- A prime factor, not above the root. -/
theorem small_prime {n : Nat} (hn : 1 < n) (hp : ¬ Prm n) : ∃ d, Prm d ∧ d ∣ n ∧ d * d ≤ n := by
  have : ∃ d, d ∣ n ∧ d ≠ 1 ∧ d ≠ n := by
    refine Classical.byContradiction fun hc => hp ⟨hn, fun d hd => ?_⟩
    by_cases h1 : d = 1
    · exact .inl h1
    · by_cases h2 : d = n
      · exact .inr h2
      · exact absurd ⟨d, hd, h1, h2⟩ hc
  obtain ⟨d, ⟨c, hc⟩, h1, h2⟩ := this
  have hd0 : d ≠ 0 := by rintro rfl; omega
  have hc0 : c ≠ 0 := by rintro rfl; omega
  have hc1 : c ≠ 1 := by rintro rfl; omega
  by_cases hle : d ≤ c
  · obtain ⟨q, hq, hqd⟩ := exists_prime d (by omega)
    have := Nat.le_of_dvd (by omega) hqd
    refine ⟨q, hq, Nat.dvd_trans hqd ⟨c, hc⟩, ?_⟩
    rw [hc]; exact Nat.mul_le_mul this (by omega)
  · obtain ⟨q, hq, hqc⟩ := exists_prime c (by omega)
    have := Nat.le_of_dvd (by omega) hqc
    refine ⟨q, hq, Nat.dvd_trans hqc ⟨d, by rw [hc, Nat.mul_comm]⟩, ?_⟩
    rw [hc]; exact Nat.mul_le_mul (by omega) this

/-- Powers modulo, by squaring. -/
def pm : Nat → Nat → Nat → Nat → Nat
  | 0, _, _, n => 1 % n
  | f + 1, a, e, n => match Nat.beq e 0 with
    | true => 1 % n
    | false => match Nat.beq (e % 2) 1 with
      | true => a * pm f (a * a % n) (e / 2) n % n
      | false => pm f (a * a % n) (e / 2) n
theorem pm_eq : ∀ f a e n, e < 2 ^ f → pm f a e n = a ^ e % n := by
  intro f
  induction f with
  | zero => intro a e n h; have : e = 0 := by simp at h; exact h
            subst this; rfl
  | succ f ih =>
    intro a e n h
    unfold pm
    split
    · rename_i h0; have := Nat.eq_of_beq_eq_true h0; subst this; rfl
    · have hr := ih (a * a % n) (e / 2) n (by rw [Nat.pow_succ] at h; omega)
      have hsq : (a * a % n) ^ (e / 2) % n = a ^ (2 * (e / 2)) % n := by rw [← Nat.pow_mod, Nat.pow_mul, Nat.pow_two]
      split
      · rename_i h1
        have h1 := Nat.eq_of_beq_eq_true h1
        rw [hr, hsq, Nat.mul_mod_mod, ← Nat.pow_succ']
        congr 2; omega
      · rename_i h1
        have h1 : e % 2 ≠ 1 := fun h2 => by rw [h2] at h1; exact absurd h1 (by decide)
        rw [hr, hsq]
        congr 2; omega

theorem dvd_pow_self' {a q : Nat} (h : 0 < q) : a ∣ a ^ q := by
  obtain ⟨j, rfl⟩ : ∃ j, q = j + 1 := ⟨q - 1, by omega⟩
  exact ⟨a ^ j, by rw [Nat.pow_succ, Nat.mul_comm]⟩
/-- Pocklington: what divides one less than a prime factor. -/
theorem pock {N q k a f : Nat} (hq : Prm q) (hN : N = q * k + 1) (hf : N < 2 ^ f) (h1 : pm f a (q * k) N = 1) (h2 : Nat.gcd (pm f a k N + (N - 1)) N = 1) {d : Nat} (hd : Prm d) (hdN : d ∣ N) : q ∣ d - 1 := by
  have hk : k < 2 ^ f := by
    have : k ≤ q * k := Nat.le_mul_of_pos_left k (by have := hq.1; omega)
    omega
  have hd1 := hd.1
  rw [pm_eq f a _ N (by omega)] at h1
  rw [pm_eq f a k N hk] at h2
  have e1 : (a ^ k) ^ q % d = 1 := by
    rw [← Nat.pow_mul, Nat.mul_comm k q, ← Nat.mod_mod_of_dvd _ hdN, h1, Nat.mod_eq_of_lt hd1]
  have hne : a ^ k % d ≠ 1 := by
    intro he
    have hdv : d ∣ a ^ k % N + (N - 1) := by
      have h3 : (a ^ k % N) % d = 1 := by rw [Nat.mod_mod_of_dvd _ hdN]; exact he
      refine Nat.dvd_of_mod_eq_zero ?_
      obtain ⟨c, hc⟩ := hdN
      have : a ^ k % N + (N - 1) + 1 = a ^ k % N + d * c := by omega
      have h5 : (a ^ k % N + (N - 1) + 1) % d = 1 := by rw [this, Nat.add_mul_mod_self_left, h3]
      have h6 := Nat.add_mod (a ^ k % N + (N - 1)) 1 d
      rw [h5, Nat.mod_eq_of_lt hd1] at h6
      have h7 := Nat.mod_lt (a ^ k % N + (N - 1)) (show 0 < d by omega)
      generalize (a ^ k % N + (N - 1)) % d = r at *
      by_cases hr : r + 1 = d
      · rw [hr, Nat.mod_self] at h6; cases h6
      · rw [Nat.mod_eq_of_lt (by omega)] at h6; omega
    have := Nat.dvd_gcd hdv hdN
    rw [h2] at this
    have := Nat.le_of_dvd (by omega) this
    omega
  have hda : ¬ d ∣ a ^ k := by
    intro h
    have : (a ^ k) ^ q % d = 0 := Nat.mod_eq_zero_of_dvd (Nat.dvd_trans h (dvd_pow_self' (by have := hq.1; omega)))
    rw [this] at e1; cases e1
  have e2 := hd.fermat' hda
  refine Classical.byContradiction fun hnd => ?_
  have hg := hq.coprime hnd
  have := pow_gcd q (d - 1) e1 e2
  rw [hg, Nat.pow_one] at this
  exact hne this

/-- By trial: no divisor between. -/
def noDiv (n : Nat) : Nat → Nat → Bool
  | 0, lo => !(Nat.beq (n % lo) 0)
  | f + 1, lo => noDiv n f lo && noDiv n f (lo + 2 ^ f)
theorem noDiv_spec {n : Nat} : ∀ f lo, noDiv n f lo = true → ∀ d, lo ≤ d → d < lo + 2 ^ f → ¬ d ∣ n := by
  intro f
  induction f with
  | zero =>
    intro lo h d h1 h2 hd
    have : d = lo := by simp at h2; omega
    subst this
    unfold noDiv at h
    rw [Nat.mod_eq_zero_of_dvd hd] at h
    simp at h
  | succ f ih =>
    intro lo h d h1 h2
    unfold noDiv at h
    simp only [Bool.and_eq_true] at h
    rw [Nat.pow_succ] at h2
    by_cases hm : d < lo + 2 ^ f
    · exact ih lo h.1 d h1 hm
    · exact ih (lo + 2 ^ f) h.2 d (by omega) (by omega)
theorem trial {n f : Nat} (hn : 1 < n) (hf : n < (2 + 2 ^ f) * (2 + 2 ^ f)) (h : noDiv n f 2 = true) : Prm n := by
  refine Classical.byContradiction fun hp => ?_
  obtain ⟨d, hd, hdn, hdd⟩ := small_prime hn hp
  refine noDiv_spec f 2 h d hd.1 ?_ hdn
  refine Classical.byContradiction fun hc => ?_
  have : (2 + 2 ^ f) * (2 + 2 ^ f) ≤ d * d := Nat.mul_le_mul (by omega) (by omega)
  omega
end Cr
