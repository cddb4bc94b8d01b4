/- What the loops of 'power' compute, as the executor spells it. -/
import Derived.Test.YtkfghpniaahjjaaRaw
import Derived.Test.YtkfghpniaahjjaaPow
namespace Go.Eng
open Go Cr

def pj (n i : Int) : Int := IntKind.i64.wrap (n - IntKind.i64.wrap (i.tdiv 16))
def psh (i : Int) : Int := IntKind.i64.wrap (60 - IntKind.i64.wrap (4 * i.tmod 16))
def pdig (n : Int) (ws : List Int) (i : Int) : Int := bitOp .and .u64 (Int.fdiv (ws.getD (pj n i).toNat 0) (2 ^ min (psh i).toNat IntKind.u64.bits)) 15

theorem and_u64n (n m : Nat) (hn : n < 18446744073709551616) (hm : m < 18446744073709551616) : bitOp .and .u64 n m = ((n &&& m : Nat) : Int) := by
  show IntKind.u64.wrap ((BitVec.ofInt 64 n &&& BitVec.ofInt 64 m : BitVec 64).toNat : Int) = _
  have h1 : (BitVec.ofInt 64 (n : Int)).toNat = n := by rw [show BitVec.ofInt 64 (n : Int) = BitVec.ofNat 64 n from BitVec.ofInt_natCast .., BitVec.toNat_ofNat, Nat.mod_eq_of_lt (by omega)]
  have h2 : (BitVec.ofInt 64 (m : Int)).toNat = m := by rw [show BitVec.ofInt 64 (m : Int) = BitVec.ofNat 64 m from BitVec.ofInt_natCast .., BitVec.toNat_ofNat, Nat.mod_eq_of_lt (by omega)]
  rw [BitVec.toNat_and, h1, h2, wrap_u64']
  have := Nat.and_le_left (n := n) (m := m)
  omega

theorem and_15 {a : Int} (h0 : 0 ≤ a) (h1 : a < 18446744073709551616) : bitOp .and .u64 a 15 = a % 16 := by
  obtain ⟨n, rfl⟩ := Int.eq_ofNat_of_zero_le h0
  have := and_u64n n 15 (by omega) (by omega)
  rw [show ((15 : Nat) : Int) = 15 from rfl] at this
  rw [this]
  have h := Nat.and_two_pow_sub_one_eq_mod n 4
  rw [show 2 ^ 4 - 1 = 15 from rfl] at h
  rw [h]
  omega

theorem pj_eq {n k : Nat} (h : k < 16 * (n + 1)) (hn : n < 1000) : pj n k = ((n - k / 16 : Nat) : Int) := by
  unfold pj
  rw [Int.tdiv_eq_ediv_of_nonneg (by omega), wrap_i64' (a := (k : Int) / 16) (by omega) (by omega), wrap_i64' (by omega) (by omega)]
  omega

theorem psh_eq {k : Nat} : psh k = ((4 * (15 - k % 16) : Nat) : Int) := by
  unfold psh
  rw [Int.tmod_eq_emod_of_nonneg (by omega), wrap_i64' (a := 4 * ((k : Int) % 16)) (by omega) (by omega), wrap_i64' (by omega) (by omega)]
  omega

theorem pdig_ok {n k : Nat} {N : Int} (h : k < 16 * (n + 1)) (hn : n < 1000) : pdig n (lim (n + 1) N) k = N / p16 (16 * (n + 1) - 1 - k) % 16 := by
  unfold pdig
  rw [pj_eq h hn, psh_eq]
  simp only [Int.toNat_natCast]
  rw [show IntKind.u64.bits = 64 from rfl, Nat.min_eq_left (by omega), ← p16_pow, Int.fdiv_eq_ediv_of_nonneg _ (Int.le_of_lt (p16_pos _))]
  have hw : 0 ≤ (lim (n + 1) N).getD (n - k / 16) 0 ∧ (lim (n + 1) N).getD (n - k / 16) 0 < 18446744073709551616 := by
    rw [lim_get _ _ _ (by omega)]; omega
  have hp := p16_pos (15 - k % 16)
  have h1 := Int.ediv_nonneg hw.1 (Int.le_of_lt hp)
  have h2 := Int.ediv_le_self (p16 (15 - k % 16)) hw.1
  rw [and_15 h1 (by omega)]
  have := digit_at (n := n + 1) (N := N) (i := k) h
  rw [show n + 1 - 1 - k / 16 = n - k / 16 by omega] at this
  exact this

theorem pdig_bd {n k : Nat} (h : k < 16 * (n + 1)) (hn : n < 1000) : (0 ≤ pj n k ∧ pj n k < ((n + 1 : Nat) : Int)) ∧ (pj n k).toNat < n + 1 ∧ 0 ≤ psh k := by
  rw [pj_eq h hn, psh_eq]
  exact ⟨⟨by omega, by omega⟩, by omega, by omega⟩

/-- The table behind k rounds. -/
def tabAt {α : Type} (f : Nat → α) (z : α) (k : Nat) : List α := (List.range 16).map fun j => if j ≤ k then f j else z

theorem tabAt_len {α : Type} (f : Nat → α) (z : α) (k : Nat) : (tabAt f z k).length = 16 := by simp [tabAt]
theorem tabAt_get {α : Type} (f : Nat → α) (z d : α) {k j : Nat} (h : j ≤ k) (hj : j < 16) : (tabAt f z k).getD j d = f j := by
  simp [tabAt, hj, h]
theorem tabAt_set {α : Type} (f : Nat → α) (z : α) {k : Nat} : (tabAt f z k).set (k + 1) (f (k + 1)) = tabAt f z (k + 1) := by
  apply List.ext_getElem
  · simp [tabAt]
  · intro i h1 h2
    rw [List.getElem_set]
    split
    · rename_i e; subst e; simp [tabAt]
    · rename_i e
      simp only [tabAt, List.getElem_map, List.getElem_range]
      by_cases h : i ≤ k
      · rw [if_pos h, if_pos (by omega)]
      · rw [if_neg h, if_neg (by omega)]

end Go.Eng
