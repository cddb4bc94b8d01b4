/- Powers, and the digits of an exponent. No program here. -/
import Derived.Test.YtkfghpniaahjjaaByt
namespace Cr
section
variable {M : Int} [Md M]

theorem one_mul' (a : Zm M) : 1 * a = a := by rw [mul_comm', mul_one']

def zpow (x : Zm M) : Nat → Zm M
  | 0 => 1
  | n + 1 => zpow x n * x

theorem zpow_add (x : Zm M) (m n : Nat) : zpow x (m + n) = zpow x m * zpow x n := by
  induction n with
  | zero => rw [zpow, mul_one']; rfl
  | succ n ih => rw [← Nat.add_assoc, zpow, ih, zpow, mul_assoc']

theorem zpow_two (x : Zm M) (m : Nat) : zpow x m * zpow x m = zpow x (2 * m) := by rw [← zpow_add, Nat.two_mul]

/-- Squared so often. -/
def sqn (x : Zm M) : Nat → Zm M
  | 0 => x
  | k + 1 => sqn x k * sqn x k

theorem sqn_zpow (x : Zm M) (m : Nat) : ∀ k, sqn (zpow x m) k = zpow x (2 ^ k * m) := by
  intro k
  induction k with
  | zero => simp [sqn]
  | succ k ih => rw [sqn, ih, zpow_two, Nat.pow_succ]; congr 1; rw [Nat.mul_comm (2 ^ k) 2, Nat.mul_assoc]

/-- The same; nothing unfolds it. -/
noncomputable def zpw (x : Zm M) (E : Int) : Zm M := Classical.choose (⟨zpow x E.toNat, rfl⟩ : ∃ y, y = zpow x E.toNat)
theorem zpw_eq (x : Zm M) (E : Int) : zpw x E = zpow x E.toNat := Classical.choose_spec (⟨zpow x E.toNat, rfl⟩ : ∃ y, y = zpow x E.toNat)

end

def p16 : Nat → Int
  | 0 => 1
  | n + 1 => 16 * p16 n

theorem p16_pos (n : Nat) : 0 < p16 n := by
  induction n with
  | zero => decide
  | succ n ih => simp only [p16]; omega

theorem p16_add (m n : Nat) : p16 (m + n) = p16 m * p16 n := by
  induction m with
  | zero => simp [p16]
  | succ m ih => rw [Nat.succ_add]; simp only [p16, ih, Int.mul_assoc]

theorem p16_16 (n : Nat) : p16 (16 * n) = pw n := by
  induction n with
  | zero => rfl
  | succ n ih => rw [Nat.mul_succ, Nat.add_comm, p16_add, ih]; rfl

theorem p16_dvd {m : Nat} (h : m ≤ 16) : ∃ c : Int, (18446744073709551616 : Int) = c * p16 m ∧ 0 < c := by
  refine ⟨p16 (16 - m), ?_, p16_pos _⟩
  rw [← p16_add, Nat.sub_add_cancel h]; rfl

theorem p16_pow (n : Nat) : p16 n = (2 : Int) ^ (4 * n) := by
  induction n with
  | zero => rfl
  | succ n ih => rw [p16, ih, Nat.mul_succ, Int.pow_add]; rw [Int.mul_comm]; rfl

/-- A digit of a word of a number. -/
theorem digit_at {n : Nat} {N : Int} {i : Nat} (hi : i < 16 * n) : ((lim n N).getD (n - 1 - i / 16) 0) / p16 (15 - i % 16) % 16 = N / p16 (16 * n - 1 - i) % 16 := by
  rw [lim_get _ _ _ (by omega)]
  obtain ⟨c, hc, hc0⟩ := p16_dvd (m := 15 - i % 16 + 1) (by omega)
  have e1 : p16 (16 * n - 1 - i) = pw (n - 1 - i / 16) * p16 (15 - i % 16) := by
    rw [← p16_16, ← p16_add]; congr 1; omega
  rw [e1, ← Int.ediv_ediv_of_nonneg (Int.le_of_lt (pw_pos _))]
  generalize N / pw (n - 1 - i / 16) = A
  have hp := p16_pos (15 - i % 16)
  rw [hc, show p16 (15 - i % 16 + 1) = 16 * p16 (15 - i % 16) from rfl]
  generalize p16 (15 - i % 16) = P at *
  have h1 : A % (c * (16 * P)) = A % (P * (16 * c)) := by congr 1; rw [Int.mul_comm c, Int.mul_comm 16 P, Int.mul_assoc]
  rw [h1]
  have h2 : A % (P * (16 * c)) / P = (A / P) % (16 * c) := by
    rw [Int.emod_def, Int.emod_def, Int.mul_assoc, ← Int.sub_mul_ediv_left _ _ (show P ≠ 0 by omega), ← Int.ediv_ediv_of_nonneg (Int.le_of_lt hp)]
  rw [h2, Int.emod_emod_of_dvd _ ⟨c, rfl⟩]

/-- The exponent's digits, one by one. -/
theorem digit_step {N : Int} (h : 0 ≤ N) (k : Nat) : (N / p16 k).toNat = 16 * (N / p16 (k + 1)).toNat + (N / p16 k % 16).toNat := by
  have e : N / p16 (k + 1) = N / p16 k / 16 := by
    rw [show p16 (k + 1) = p16 k * 16 from by rw [p16, Int.mul_comm], Int.ediv_ediv_of_nonneg (Int.le_of_lt (p16_pos k))]
  have h0 : 0 ≤ N / p16 k := Int.ediv_nonneg h (Int.le_of_lt (p16_pos k))
  rw [e]
  omega

end Cr
