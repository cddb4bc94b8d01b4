/- What the code's loops over bytes and words compute, as the executor spells it. -/
import Derived.Test.YtkfghpniaahjjaaEngH
import Derived.Test.YtkfghpniaahjjaaByt
namespace Go.Eng
open Go Cr

theorem wrap_u8 (a : Int) : IntKind.u8.wrap a = a % 256 := by simp [IntKind.wrap, IntKind.signed, IntKind.bits]
theorem wrap_u64' (a : Int) : IntKind.u64.wrap a = a % 18446744073709551616 := by simp [IntKind.wrap, IntKind.signed, IntKind.bits]

def wk (n i : Int) : Int := IntKind.i64.wrap (IntKind.i64.wrap (n - 1) - i)
def wj (n i : Int) : Int := IntKind.i64.wrap ((wk n i).tdiv 8)
def wsh (n i : Int) : Int := IntKind.i64.wrap (8 * (wk n i).tmod 8)
def wput (ws : List Int) (n i v : Int) : List Int :=
  ws.set (wj n i).toNat (bitOp .or .u64 (ws.getD (wj n i).toNat 0) (IntKind.u64.wrap (IntKind.u64.wrap v * 2 ^ (min (wsh n i).toNat IntKind.u64.bits))))

theorem wk_eq {len k : Nat} (h : k < len) (hl : len < 1000000) : wk len k = ((len - 1 - k : Nat) : Int) := by
  unfold wk
  rw [wrap_i64' (a := (len : Int) - 1) (by omega) (by omega), wrap_i64' (by omega) (by omega)]
  omega

theorem wj_eq {len k : Nat} (h : k < len) (hl : len < 1000000) : wj len k = (((len - 1 - k) / 8 : Nat) : Int) := by
  unfold wj
  rw [wk_eq h hl, Int.tdiv_eq_ediv_of_nonneg (by omega), wrap_i64' (by omega) (by omega)]
  omega

theorem wsh_eq {len k : Nat} (h : k < len) (hl : len < 1000000) : wsh len k = ((8 * ((len - 1 - k) % 8) : Nat) : Int) := by
  unfold wsh
  rw [wk_eq h hl, Int.tmod_eq_emod_of_nonneg (by omega), wrap_i64' (by omega) (by omega)]
  omega

theorem or_u64 (c t y : Nat) (h : y < 2 ^ t) (hlt : c * 2 ^ t + y < 18446744073709551616) : bitOp .or .u64 ((c * 2 ^ t : Nat) : Int) (y : Int) = ((c * 2 ^ t + y : Nat) : Int) := by
  show IntKind.u64.wrap ((BitVec.ofInt 64 ((c * 2 ^ t : Nat) : Int) ||| BitVec.ofInt 64 (y : Int) : BitVec 64).toNat : Int) = _
  have h1 : (BitVec.ofInt 64 ((c * 2 ^ t : Nat) : Int)).toNat = c * 2 ^ t := by
    rw [show BitVec.ofInt 64 ((c * 2 ^ t : Nat) : Int) = BitVec.ofNat 64 (c * 2 ^ t) from BitVec.ofInt_natCast .., BitVec.toNat_ofNat, Nat.mod_eq_of_lt (by omega)]
  have h2 : (BitVec.ofInt 64 (y : Int)).toNat = y := by
    rw [show BitVec.ofInt 64 (y : Int) = BitVec.ofNat 64 y from BitVec.ofInt_natCast .., BitVec.toNat_ofNat, Nat.mod_eq_of_lt (by omega)]
  rw [BitVec.toNat_or, h1, h2]
  have h3 := Nat.shiftLeft_add_eq_or_of_lt h c
  rw [Nat.shiftLeft_eq] at h3
  rw [← h3, wrap_u64']
  omega

theorem wput_ok {n : Nat} {bs : List Int} (hb : Bs bs) (hl : bs.length ≤ 8 * n) (hs : bs.length < 1000000) {k : Nat} (hk : k < bs.length) :
    wput (lim n (num (bs.take k) * p256 (bs.length - k))) bs.length k (bs.getD k 0) = lim n (num (bs.take (k + 1)) * p256 (bs.length - (k + 1))) := by
  unfold wput
  rw [wj_eq hk hs, wsh_eq hk hs]
  simp only [Int.toNat_natCast]
  have hv : 0 ≤ bs.getD k 0 ∧ bs.getD k 0 < 256 := by
    have := hb (bs.getD k 0) (by simp [hk])
    exact this
  rw [num_take_succ hk]
  generalize hq : bs.length - 1 - k = q at *
  generalize bs.getD k 0 = v at *
  have hN := (num_bd (Bs_take hb k)).1
  have e1 : bs.length - k = q + 1 := by omega
  have e2 : bs.length - (k + 1) = q := by omega
  rw [e1, e2]
  generalize num (bs.take k) = N at *
  have hj : q / 8 < n := by omega
  rw [lim_get _ _ _ hj, word_at]
  obtain ⟨c, h1, h2, h3, h4⟩ := or_word (N := N) (v := v) (q := q % 8) hv.1 hv.2 (by omega)
  have hsh : IntKind.u64.wrap (IntKind.u64.wrap v * 2 ^ min (8 * (q % 8)) IntKind.u64.bits) = v * p256 (q % 8) := by
    rw [show IntKind.u64.bits = 64 from rfl, Nat.min_eq_left (by omega), wrap_u64' v, Int.emod_eq_of_lt hv.1 (by omega), p256_pow, wrap_u64']
    have e : ((2 ^ (8 * (q % 8)) : Nat) : Int) = (2 : Int) ^ (8 * (q % 8)) := by simp
    rw [← e, ← p256_pow]
    exact Int.emod_eq_of_lt h3 (by have := Int.emod_nonneg (N * p256 (q % 8 + 1)) (show (18446744073709551616 : Int) ≠ 0 by decide); omega)
  rw [hsh]
  have hor : bitOp .or .u64 (N * p256 (q % 8 + 1) % 18446744073709551616) (v * p256 (q % 8)) = N * p256 (q % 8 + 1) % 18446744073709551616 + v * p256 (q % 8) := by
    obtain ⟨y, hy⟩ := Int.eq_ofNat_of_zero_le h3
    rw [h1, hy] at h4 ⊢
    rw [hy, p256_pow] at h2
    have := or_u64 c (8 * (q % 8 + 1)) y (by omega) (by omega)
    rw [this]
    omega
  rw [hor]
  have hset := lim_set n (q / 8) (N * p256 (q + 1)) (v * p256 (q % 8)) hj h3 (by rw [lim_get _ _ _ hj, word_at]; exact h4)
  rw [lim_get _ _ _ hj, word_at] at hset
  rw [hset]
  congr 1
  rw [Int.add_mul, Int.mul_assoc, Int.mul_assoc, ← p256_8, ← p256_add]
  rw [show q % 8 + 8 * (q / 8) = q by omega]
  rfl

theorem wput_bd {n : Nat} {bs : List Int} (hl : bs.length ≤ 8 * n) (hs : bs.length < 1000000) {k : Nat} (hk : k < bs.length) :
    (0 ≤ wj bs.length k ∧ wj bs.length k < (n : Int)) ∧ (wj bs.length k).toNat < n ∧ 0 ≤ wsh bs.length k := by
  rw [wj_eq hk hs, wsh_eq hk hs]
  exact ⟨⟨by omega, by omega⟩, by omega, by omega⟩

theorem words_zero (n : Nat) (bs : List Int) : lim n (num (bs.take 0) * p256 (bs.length - 0)) = List.replicate n 0 := by
  rw [show num (bs.take 0) = 0 from rfl, Int.zero_mul, lim_zero]

/-! Bytes. -/

def bj (n i : Int) : Int := IntKind.i64.wrap (n - IntKind.i64.wrap (i.tdiv 8))
def bsh (i : Int) : Int := IntKind.i64.wrap (56 - IntKind.i64.wrap (8 * i.tmod 8))
def bget (n : Int) (ws : List Int) (i : Int) : Int := IntKind.u8.wrap (Int.fdiv (ws.getD (bj n i).toNat 0) (2 ^ min (bsh i).toNat IntKind.u64.bits))

theorem bj_eq {n k : Nat} (h : k < 8 * (n + 1)) (hn : n < 1000) : bj n k = ((n - k / 8 : Nat) : Int) := by
  unfold bj
  rw [Int.tdiv_eq_ediv_of_nonneg (by omega), wrap_i64' (a := (k : Int) / 8) (by omega) (by omega), wrap_i64' (by omega) (by omega)]
  omega

theorem bsh_eq {k : Nat} : bsh k = ((8 * (7 - k % 8) : Nat) : Int) := by
  unfold bsh
  rw [Int.tmod_eq_emod_of_nonneg (by omega), wrap_i64' (a := 8 * ((k : Int) % 8)) (by omega) (by omega), wrap_i64' (by omega) (by omega)]
  omega

theorem bget_ok {n k : Nat} {N : Int} (h : k < 8 * (n + 1)) (hn : n < 1000) : bget n (lim (n + 1) N) k = N / p256 (8 * (n + 1) - 1 - k) % 256 := by
  unfold bget
  rw [bj_eq h hn, bsh_eq, wrap_u8]
  simp only [Int.toNat_natCast]
  rw [show IntKind.u64.bits = 64 from rfl, Nat.min_eq_left (by omega)]
  have e : (2 : Int) ^ (8 * (7 - k % 8)) = p256 (7 - k % 8) := by rw [p256_pow]; simp
  rw [e, Int.fdiv_eq_ediv_of_nonneg _ (Int.le_of_lt (p256_pos _))]
  have := byte_at (n := n + 1) (N := N) (i := k) h
  rw [show n + 1 - 1 - k / 8 = n - k / 8 by omega] at this
  exact this

theorem bget_bd {n k : Nat} (h : k < 8 * (n + 1)) (hn : n < 1000) : (0 ≤ bj n k ∧ bj n k < ((n + 1 : Nat) : Int)) ∧ (bj n k).toNat < n + 1 ∧ 0 ≤ bsh k := by
  rw [bj_eq h hn, bsh_eq]
  exact ⟨⟨by omega, by omega⟩, by omega, by omega⟩

/-- Behind k rounds. -/
def bytesAt (m : Nat) (N : Int) (k : Nat) : List Int := (bytesN m N).take k ++ List.replicate (m - k) 0

theorem bytesAt_zero (m : Nat) (N : Int) : bytesAt m N 0 = List.replicate m 0 := by simp [bytesAt]
theorem bytesAt_all (m : Nat) (N : Int) : bytesAt m N m = bytesN m N := by simp [bytesAt, List.take_of_length_le, bytesN_length]

theorem bytesAt_succ {m : Nat} {N : Int} {k : Nat} (h : k < m) : (bytesAt m N k).set k (N / p256 (m - 1 - k) % 256) = bytesAt m N (k + 1) := by
  unfold bytesAt
  have hl : ((bytesN m N).take k).length = k := by simp [bytesN_length]; omega
  rw [List.set_append_right _ _ (by omega), hl, Nat.sub_self]
  rw [show m - k = (m - (k + 1)) + 1 by omega, List.replicate_succ, List.set_cons_zero]
  rw [List.take_succ_eq_append_getElem (by rw [bytesN_length]; exact h)]
  simp [bytesN]

end Go.Eng
