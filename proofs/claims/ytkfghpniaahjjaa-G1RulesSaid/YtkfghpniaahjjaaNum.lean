/- Plain numbers in words of 64 bits. No program here. -/
namespace Cr
/-- A word. -/
def U64 (a : Int) : Prop := 0 ≤ a ∧ a < 18446744073709551616
def Ws (xs : List Int) : Prop := ∀ x ∈ xs, U64 x

/-- The number that words are, the lowest first. -/
def val : List Int → Int
  | [] => 0
  | x :: xs => x + 18446744073709551616 * val xs

/-- The words of a number. -/
def lim : Nat → Int → List Int
  | 0, _ => []
  | n + 1, N => N % 18446744073709551616 :: lim n (N / 18446744073709551616)

/-- 2^(64 n). -/
def pw : Nat → Int
  | 0 => 1
  | n + 1 => 18446744073709551616 * pw n

theorem pw_pos (n : Nat) : 0 < pw n := by
  induction n with
  | zero => decide
  | succ n ih => simp only [pw]; omega

theorem lim_length (n : Nat) (N : Int) : (lim n N).length = n := by
  induction n generalizing N with
  | zero => rfl
  | succ n ih => simp [lim, ih]

theorem lim_ws (n : Nat) (N : Int) : Ws (lim n N) := by
  induction n generalizing N with
  | zero => intro x h; cases h
  | succ n ih =>
    intro x h
    simp only [lim, List.mem_cons] at h
    rcases h with rfl | h
    · exact ⟨by omega, by omega⟩
    · exact ih _ x h

theorem val_nonneg {xs : List Int} (h : Ws xs) : 0 ≤ val xs := by
  induction xs with
  | nil => decide
  | cons x xs ih =>
    have h1 := h x (by simp)
    have h2 := ih (fun y hy => h y (by simp [hy]))
    simp only [val]; have := h1.1; omega

theorem val_lt {xs : List Int} (h : Ws xs) : val xs < pw xs.length := by
  induction xs with
  | nil => decide
  | cons x xs ih =>
    have h1 := h x (by simp)
    have h2 := ih (fun y hy => h y (by simp [hy]))
    simp only [val, pw, List.length_cons]; have := h1.2; omega

theorem val_lim (n : Nat) (N : Int) : val (lim n N) = N % pw n := by
  induction n generalizing N with
  | zero => simp [lim, val, pw, Int.emod_one]
  | succ n ih =>
    simp only [lim, val, pw, ih]
    have hp := pw_pos n
    rw [← Int.emod_add_mul_ediv N 18446744073709551616]
    generalize hq : N / 18446744073709551616 = q
    generalize hr : N % 18446744073709551616 = r
    have hr0 : 0 ≤ r ∧ r < 18446744073709551616 := by omega
    have e1 : (r + 18446744073709551616 * q) % 18446744073709551616 = r := by omega
    have e2 : (r + 18446744073709551616 * q) / 18446744073709551616 = q := by omega
    rw [e1, e2]
    have e3 : q = q % pw n + pw n * (q / pw n) := (Int.emod_add_mul_ediv q (pw n)).symm
    have hb := Int.emod_nonneg q (by omega : pw n ≠ 0)
    have hb2 := Int.emod_lt_of_pos q hp
    generalize hs : q % pw n = s at *
    generalize q / pw n = t at *
    subst e3
    rw [show r + 18446744073709551616 * (s + pw n * t) = (r + 18446744073709551616 * s) + 18446744073709551616 * pw n * t from by rw [Int.mul_add, Int.mul_assoc]; omega]
    rw [Int.add_mul_emod_self_left]
    exact (Int.emod_eq_of_lt (by omega) (by omega)).symm

theorem lim_val {xs : List Int} (h : Ws xs) : lim xs.length (val xs) = xs := by
  induction xs with
  | nil => rfl
  | cons x xs ih =>
    have h1 := h x (by simp)
    have h2 := ih (fun y hy => h y (by simp [hy]))
    simp only [val, lim, List.length_cons]
    obtain ⟨a, b⟩ := h1
    rw [show (x + 18446744073709551616 * val xs) % 18446744073709551616 = x from by omega, show (x + 18446744073709551616 * val xs) / 18446744073709551616 = val xs from by omega, h2]

theorem val_inj {xs ys : List Int} (hx : Ws xs) (hy : Ws ys) (hl : xs.length = ys.length) (h : val xs = val ys) : xs = ys := by
  rw [← lim_val hx, ← lim_val hy, hl, h]

/-- Words less words, with a borrow. -/
def subL : List Int → List Int → Int → List Int × Int
  | a :: us, b :: vs, k => ((a - b - k) % 18446744073709551616 :: (subL us vs (if a < b + k then 1 else 0)).1, (subL us vs (if a < b + k then 1 else 0)).2)
  | _, _, k => ([], k)

def addL : List Int → List Int → Int → List Int × Int
  | a :: us, b :: vs, k => ((a + b + k) % 18446744073709551616 :: (addL us vs ((a + b + k) / 18446744073709551616)).1, (addL us vs ((a + b + k) / 18446744073709551616)).2)
  | _, _, k => ([], k)

theorem subL_spec : ∀ (us vs : List Int) (k : Int), us.length = vs.length → Ws us → Ws vs → (k = 0 ∨ k = 1) →
    (subL us vs k).1.length = us.length ∧ Ws (subL us vs k).1 ∧ ((subL us vs k).2 = 0 ∨ (subL us vs k).2 = 1) ∧ val (subL us vs k).1 = val us - val vs - k + pw us.length * (subL us vs k).2 := by
  intro us
  induction us with
  | nil =>
    intro vs k h _ _ hk
    cases vs with
    | nil => refine ⟨rfl, fun x h => (nomatch h), hk, ?_⟩; simp [subL, val, pw]; omega
    | cons b vs => simp at h
  | cons a us ih =>
    intro vs k h ha hb hk
    cases vs with
    | nil => simp at h
    | cons b vs =>
      obtain ⟨a0, a1⟩ := ha a (by simp)
      obtain ⟨b0, b1⟩ := hb b (by simp)
      obtain ⟨g1, g2, g3, g4⟩ := ih vs (if a < b + k then 1 else 0) (by simpa using h) (fun y hy => ha y (by simp [hy])) (fun y hy => hb y (by simp [hy])) (by split <;> simp)
      refine ⟨by simp [subL, g1], ?_, g3, ?_⟩
      · intro x hx
        simp only [subL, List.mem_cons] at hx
        rcases hx with rfl | hx
        · exact ⟨by omega, by omega⟩
        · exact g2 x hx
      · simp only [subL, val, List.length_cons, pw, g4]
        generalize (subL us vs (if a < b + k then 1 else 0)).2 = c at *
        rw [Int.mul_assoc]
        generalize pw us.length * c = pc at *
        split <;> omega

theorem addL_spec : ∀ (us vs : List Int) (k : Int), us.length = vs.length → Ws us → Ws vs → (k = 0 ∨ k = 1) →
    (addL us vs k).1.length = us.length ∧ Ws (addL us vs k).1 ∧ ((addL us vs k).2 = 0 ∨ (addL us vs k).2 = 1) ∧ val (addL us vs k).1 = val us + val vs + k - pw us.length * (addL us vs k).2 := by
  intro us
  induction us with
  | nil =>
    intro vs k h _ _ hk
    cases vs with
    | nil => refine ⟨rfl, fun x h => (nomatch h), hk, ?_⟩; simp [addL, val, pw]
    | cons b vs => simp at h
  | cons a us ih =>
    intro vs k h ha hb hk
    cases vs with
    | nil => simp at h
    | cons b vs =>
      obtain ⟨a0, a1⟩ := ha a (by simp)
      obtain ⟨b0, b1⟩ := hb b (by simp)
      obtain ⟨g1, g2, g3, g4⟩ := ih vs ((a + b + k) / 18446744073709551616) (by simpa using h) (fun y hy => ha y (by simp [hy])) (fun y hy => hb y (by simp [hy])) (by omega)
      refine ⟨by simp [addL, g1], ?_, g3, ?_⟩
      · intro x hx
        simp only [addL, List.mem_cons] at hx
        rcases hx with rfl | hx
        · exact ⟨by omega, by omega⟩
        · exact g2 x hx
      · simp only [addL, val, List.length_cons, pw, g4]
        generalize (addL us vs ((a + b + k) / 18446744073709551616)).2 = c at *
        rw [Int.mul_assoc]
        generalize pw us.length * c = pc at *
        omega

/-- a - b modulo 2^(64 n), and whether a is below b. -/
theorem subL_eq {us vs : List Int} (hl : us.length = vs.length) (ha : Ws us) (hb : Ws vs) : (subL us vs 0).1 = lim us.length (val us - val vs) ∧ (subL us vs 0).2 = if val us < val vs then 1 else 0 := by
  obtain ⟨h1, h2, h3, h4⟩ := subL_spec us vs 0 hl ha hb (.inl rfl)
  have hp := pw_pos us.length
  have p1 := val_nonneg h2
  have p2 := val_lt h2
  rw [h1] at p2
  have q1 := val_nonneg ha
  have q2 := val_lt ha
  have r1 := val_nonneg hb
  have r2 := val_lt hb
  rw [← hl] at r2
  constructor
  · refine val_inj h2 (lim_ws _ _) (by rw [h1, lim_length]) ?_
    rw [val_lim, h4]
    rcases h3 with h3 | h3
    · rw [h3] at h4 ⊢
      rw [Int.emod_eq_of_lt (by omega) (by omega)]; omega
    · rw [h3] at h4 ⊢
      rw [show val us - val vs - 0 + pw us.length * 1 = val us - val vs + pw us.length from by omega]
      rw [← Int.add_emod_right, Int.emod_eq_of_lt (by omega) (by omega)]
  · rcases h3 with h3 | h3
    · rw [h3] at h4 ⊢; rw [if_neg (by omega)]
    · rw [h3] at h4 ⊢; rw [if_pos (by omega)]

theorem addL_eq {us vs : List Int} (hl : us.length = vs.length) (ha : Ws us) (hb : Ws vs) : (addL us vs 0).1 = lim us.length (val us + val vs) := by
  obtain ⟨h1, h2, h3, h4⟩ := addL_spec us vs 0 hl ha hb (.inl rfl)
  have hp := pw_pos us.length
  have p1 := val_nonneg h2
  have p2 := val_lt h2
  rw [h1] at p2
  refine val_inj h2 (lim_ws _ _) (by rw [h1, lim_length]) ?_
  rw [val_lim, h4]
  rcases h3 with h3 | h3
  · rw [h3] at h4 ⊢
    rw [Int.emod_eq_of_lt (by omega) (by omega)]; omega
  · rw [h3] at h4 ⊢
    rw [show val us + val vs + 0 - pw us.length * 1 = val us + val vs - pw us.length from by omega]
    rw [← Int.sub_emod_right, Int.emod_eq_of_lt (by omega) (by omega)]
end Cr
