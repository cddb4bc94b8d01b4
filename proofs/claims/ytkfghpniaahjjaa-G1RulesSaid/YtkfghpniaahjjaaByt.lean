/- Bytes and words, numbers. No program here. -/
import Derived.Test.YtkfghpniaahjjaaFldE
namespace Cr

/-- Bytes. -/
def Bs (l : List Int) : Prop := ∀ x ∈ l, 0 ≤ x ∧ x < 256

/-- The number that bytes are, the highest first. -/
def num (l : List Int) : Int := l.foldl (fun a b => a * 256 + b) 0

def p256 : Nat → Int
  | 0 => 1
  | n + 1 => 256 * p256 n

theorem p256_pos (n : Nat) : 0 < p256 n := by
  induction n with
  | zero => decide
  | succ n ih => simp only [p256]; omega

theorem p256_add (m n : Nat) : p256 (m + n) = p256 m * p256 n := by
  induction m with
  | zero => simp [p256]
  | succ m ih => rw [Nat.succ_add]; simp only [p256, ih, Int.mul_assoc]

theorem p256_8 (n : Nat) : p256 (8 * n) = pw n := by
  induction n with
  | zero => rfl
  | succ n ih =>
    rw [Nat.mul_succ, Nat.add_comm, p256_add, ih]
    rfl

theorem num_snoc (l : List Int) (b : Int) : num (l ++ [b]) = num l * 256 + b := by simp [num]

theorem foldl_num (l : List Int) : ∀ a : Int, l.foldl (fun a b => a * 256 + b) a = a * p256 l.length + num l := by
  induction l with
  | nil => intro a; simp [num, p256]
  | cons b l ih =>
    intro a
    simp only [List.foldl_cons, List.length_cons, p256, num]
    rw [ih, ih (0 * 256 + b)]
    simp only [Int.add_mul, Int.zero_mul, Int.zero_add]
    rw [show a * 256 * p256 l.length = a * (256 * p256 l.length) from Int.mul_assoc _ _ _]
    omega

theorem num_append (l m : List Int) : num (l ++ m) = num l * p256 m.length + num m := by
  show (l ++ m).foldl _ 0 = _
  rw [List.foldl_append, foldl_num]
  rfl

theorem num_bd {l : List Int} (h : Bs l) : 0 ≤ num l ∧ num l < p256 l.length := by
  induction l with
  | nil => simp [num, p256]
  | cons b l ih =>
    have hb := h b (by simp)
    have hi := ih (fun x hx => h x (by simp [hx]))
    have e : num (b :: l) = b * p256 l.length + num l := num_append [b] l ▸ by simp [num]
    rw [e, List.length_cons]
    simp only [p256]
    have hp := p256_pos l.length
    have h1 := Int.mul_nonneg hb.1 (Int.le_of_lt hp)
    have h2 : b * p256 l.length ≤ 255 * p256 l.length := Int.mul_le_mul_of_nonneg_right (by omega) (Int.le_of_lt hp)
    omega

theorem Bs_take {l : List Int} (h : Bs l) (n : Nat) : Bs (l.take n) := fun x hx => h x (List.mem_of_mem_take hx)
theorem Bs_drop {l : List Int} (h : Bs l) (n : Nat) : Bs (l.drop n) := fun x hx => h x (List.mem_of_mem_drop hx)

theorem num_take_succ {l : List Int} {k : Nat} (h : k < l.length) : num (l.take (k + 1)) = num (l.take k) * 256 + l.getD k 0 := by
  rw [List.take_succ_eq_append_getElem h, num_snoc]
  congr 1
  simp [h]

/-- One word more. -/
theorem lim_set : ∀ (n j : Nat) (A d : Int), j < n → 0 ≤ d → (lim n A).getD j 0 + d < 18446744073709551616 →
    (lim n A).set j ((lim n A).getD j 0 + d) = lim n (A + d * pw j) := by
  intro n
  induction n with
  | zero => intro j A d h; omega
  | succ n ih =>
    intro j A d hj hd hlt
    cases j with
    | zero =>
      simp only [lim, List.getD_cons_zero, List.set_cons_zero, pw, Int.mul_one] at hlt ⊢
      have h1 : (A + d) % 18446744073709551616 = A % 18446744073709551616 + d := by omega
      have h2 : (A + d) / 18446744073709551616 = A / 18446744073709551616 := by omega
      rw [h1, h2]
    | succ j =>
      simp only [lim, List.getD_cons_succ, List.set_cons_succ, pw] at hlt ⊢
      rw [ih j _ d (by omega) hd hlt]
      have e : d * (18446744073709551616 * pw j) = 18446744073709551616 * (d * pw j) := by rw [Int.mul_left_comm]
      have h1 : (A + 18446744073709551616 * (d * pw j)) % 18446744073709551616 = A % 18446744073709551616 := by omega
      have h2 : (A + 18446744073709551616 * (d * pw j)) / 18446744073709551616 = A / 18446744073709551616 + d * pw j := by omega
      rw [e, h1, h2]

theorem lim_get : ∀ (n j : Nat) (A : Int), j < n → (lim n A).getD j 0 = A / pw j % 18446744073709551616 := by
  intro n
  induction n with
  | zero => intro j A h; omega
  | succ n ih =>
    intro j A hj
    cases j with
    | zero => simp [lim, pw]
    | succ j =>
      simp only [lim, List.getD_cons_succ, pw]
      rw [ih j _ (by omega), Int.ediv_ediv_of_nonneg (by decide)]

theorem p256_pow (n : Nat) : p256 n = ((2 ^ (8 * n) : Nat) : Int) := by
  induction n with
  | zero => rfl
  | succ n ih => rw [p256, ih, Nat.mul_succ, Nat.pow_add]; simp; omega

/-- The word into which a byte goes, ahead of it. -/
theorem word_at (N : Int) (q : Nat) : (N * p256 (q + 1)) / pw (q / 8) % 18446744073709551616 = N * p256 (q % 8 + 1) % 18446744073709551616 := by
  have e : N * p256 (q + 1) = N * p256 (q % 8 + 1) * pw (q / 8) := by
    rw [← p256_8, Int.mul_assoc, ← p256_add]
    congr 2; omega
  rw [e, Int.mul_ediv_cancel _ (by have := pw_pos (q / 8); omega)]

theorem p256_dvd {m : Nat} (h : m ≤ 8) : ∃ c : Int, (18446744073709551616 : Int) = c * p256 m ∧ 0 < c := by
  refine ⟨p256 (8 - m), ?_, p256_pos _⟩
  rw [← p256_add, Nat.sub_add_cancel h]; rfl

/-- What 'or' lays into a word. -/
theorem or_word {N v : Int} {q : Nat} (hv0 : 0 ≤ v) (hv : v < 256) (hq : q < 8) :
    ∃ c : Nat, N * p256 (q + 1) % 18446744073709551616 = ((c * 2 ^ (8 * (q + 1)) : Nat) : Int) ∧ v * p256 q < p256 (q + 1) ∧ 0 ≤ v * p256 q ∧ N * p256 (q + 1) % 18446744073709551616 + v * p256 q < 18446744073709551616 := by
  obtain ⟨c, hc, hc0⟩ := p256_dvd (m := q + 1) (by omega)
  have hp := p256_pos (q + 1)
  have e : N * p256 (q + 1) % 18446744073709551616 = (N % c) * p256 (q + 1) := by
    rw [hc, Int.mul_comm N, Int.mul_comm c, Int.mul_emod_mul_of_pos _ _ hp, Int.mul_comm]
  have hn0 := Int.emod_nonneg N (show c ≠ 0 by omega)
  have hn1 := Int.emod_lt_of_pos N hc0
  have hvb : v * p256 q < p256 (q + 1) := by
    show _ < 256 * p256 q
    exact Int.mul_lt_mul_of_pos_right hv (p256_pos q)
  have hvn : 0 ≤ v * p256 q := Int.mul_nonneg hv0 (Int.le_of_lt (p256_pos q))
  refine ⟨(N % c).toNat, ?_, hvb, hvn, ?_⟩
  · rw [e, p256_pow]
    rw [Int.natCast_mul, Int.toNat_of_nonneg hn0]
  · rw [e, hc]
    have : (N % c) * p256 (q + 1) + p256 (q + 1) ≤ c * p256 (q + 1) := by
      have := Int.mul_le_mul_of_nonneg_right (show N % c + 1 ≤ c by omega) (Int.le_of_lt hp)
      rw [Int.add_mul, Int.one_mul] at this
      exact this
    omega

/-- Bytes of a number, the highest first. -/
def bytesN (n : Nat) (N : Int) : List Int := (List.range n).map fun i => N / p256 (n - 1 - i) % 256

theorem bytesN_length (n : Nat) (N : Int) : (bytesN n N).length = n := by simp [bytesN]
theorem bytesN_Bs (n : Nat) (N : Int) : Bs (bytesN n N) := by
  intro x hx
  simp [bytesN] at hx
  obtain ⟨i, _, rfl⟩ := hx
  omega

theorem num_bytesN (n : Nat) : ∀ N : Int, 0 ≤ N → N < p256 n → num (bytesN n N) = N := by
  induction n with
  | zero => intro N h0 h1; simp [p256] at h1; simp [bytesN, num]; omega
  | succ n ih =>
    intro N h0 h1
    have e : bytesN (n + 1) N = bytesN n (N / 256) ++ [N % 256] := by
      unfold bytesN
      rw [List.range_succ, List.map_append]
      congr 1
      · apply List.map_congr_left
        intro i hi
        have hi := List.mem_range.1 hi
        rw [show n + 1 - 1 - i = (n - 1 - i) + 1 by omega]
        rw [show p256 (n - 1 - i + 1) = 256 * p256 (n - 1 - i) from rfl, ← Int.ediv_ediv_of_nonneg (by decide)]
      · simp [p256]
    rw [e, num_snoc, ih (N / 256) (by omega) (by simp only [p256] at h1; omega)]
    omega

/-- A byte of a word of a number. -/
theorem byte_at {n : Nat} {N : Int} {i : Nat} (hi : i < 8 * n) : ((lim n N).getD (n - 1 - i / 8) 0) / p256 (7 - i % 8) % 256 = N / p256 (8 * n - 1 - i) % 256 := by
  rw [lim_get _ _ _ (by omega)]
  obtain ⟨c, hc, hc0⟩ := p256_dvd (m := 7 - i % 8 + 1) (by omega)
  have e1 : p256 (8 * n - 1 - i) = pw (n - 1 - i / 8) * p256 (7 - i % 8) := by
    rw [← p256_8, ← p256_add]; congr 1; omega
  rw [e1, ← Int.ediv_ediv_of_nonneg (Int.le_of_lt (pw_pos _))]
  generalize N / pw (n - 1 - i / 8) = A
  have hp := p256_pos (7 - i % 8)
  rw [hc, show p256 (7 - i % 8 + 1) = 256 * p256 (7 - i % 8) from rfl]
  generalize p256 (7 - i % 8) = P at *
  have h1 : A % (c * (256 * P)) = A % (P * (256 * c)) := by congr 1; rw [Int.mul_comm c, Int.mul_comm 256 P, Int.mul_assoc]
  rw [h1]
  have h2 : A % (P * (256 * c)) / P = (A / P) % (256 * c) := by
    rw [Int.emod_def, Int.emod_def, Int.mul_assoc, ← Int.sub_mul_ediv_left _ _ (show P ≠ 0 by omega), ← Int.ediv_ediv_of_nonneg (Int.le_of_lt hp)]
  rw [h2, Int.emod_emod_of_dvd _ ⟨c, rfl⟩]

end Cr
