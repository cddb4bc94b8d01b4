/- Multiples and sums of points. No program here. -/
import Derived.Test.YtkfghpniaahjjaaEngI
import Derived.Test.YtkfghpniaahjjaaRawP
import Derived.Test.YtkfghpniaahjjaaJac
namespace Cr
open Rg Fd Go Go.Eng

def dh (b : Int) : Int := Int.fdiv b (2 ^ min (Int.toNat 4) IntKind.u8.bits)
def dl (b : Int) : Int := bitOp .and .u8 b 15
theorem dh_ok {b : Int} (h0 : 0 ≤ b) (h1 : b < 256) : dh b = b / 16 ∧ 0 ≤ dh b ∧ dh b < 16 := by
  have e : dh b = b / 16 := by
    show Int.fdiv b (2 ^ 4) = b / 16
    rw [Int.fdiv_eq_ediv_of_nonneg b (by decide)]; rfl
  rw [e]; omega
theorem dl_ok {b : Int} (h0 : 0 ≤ b) (h1 : b < 256) : dl b = b % 16 ∧ 0 ≤ dl b ∧ dl b < 16 := by
  obtain ⟨n, rfl⟩ := Int.eq_ofNat_of_zero_le h0
  have hn : n < 256 := by omega
  have e : dl (n : Int) = (n : Int) % 16 := by
    show IntKind.u8.wrap ((BitVec.ofInt 8 (n : Int) &&& BitVec.ofInt 8 15 : BitVec 8).toNat : Int) = _
    have h1 : (BitVec.ofInt 8 (n : Int)).toNat = n := by rw [show BitVec.ofInt 8 (n : Int) = BitVec.ofNat 8 n from BitVec.ofInt_natCast .., BitVec.toNat_ofNat, Nat.mod_eq_of_lt (by omega)]
    rw [BitVec.toNat_and, h1, show (BitVec.ofInt 8 15).toNat = 15 from rfl]
    have h := Nat.and_two_pow_sub_one_eq_mod n 4
    rw [show 2 ^ 4 - 1 = 15 from rfl] at h
    rw [h]
    have : IntKind.u8.wrap ((n % 2 ^ 4 : Nat) : Int) = ((n % 2 ^ 4 : Nat) : Int) := by
      simp [IntKind.wrap, IntKind.signed, IntKind.bits]; omega
    rw [this]; omega
  rw [e]; omega

section
variable {F : Type} [Fd F]
def jsm (ps : List (F × F)) : Nat → Jc F
  | 0 => (0, 0, 0)
  | k + 1 => jadd (jsm ps k) (jlift (ps.getD k (0, 0)))
def jt (o : Jc F) : Nat → Jc F
  | 0 => (0, 0, 0)
  | k + 1 => jadd (jt o k) o
def jdn (s : Jc F) : Nat → Jc F
  | 0 => s
  | k + 1 => jdbl (jdn s k)
def jst (tb : List (Jc F)) (s : Jc F) (d : Int) : Jc F := jadd (jdn s 4) (tb.getD d.toNat (0, 0, 0))
def jsd (tb : List (Jc F)) (ds : List Int) (s : Jc F) : Nat → Jc F
  | 0 => s
  | j + 1 => jst tb (jsd tb ds s j) (ds.getD j 0)
def jby (tb : List (Jc F)) (s : Jc F) (b : Int) : Jc F := jsd tb [dh b, dl b] s 2
def jtm (tb : List (Jc F)) (k : List Int) : Nat → Jc F
  | 0 => (0, 0, 0)
  | i + 1 => jby tb (jtm tb k i) (k.getD i 0)

def nmul (P : F × F) : Nat → F × F
  | 0 => O2
  | n + 1 => padd (nmul P n) P
def psum : List (F × F) → F × F
  | [] => O2
  | P :: ps => padd P (psum ps)

variable {b : F} (hb : b ≠ 0)
include hb
theorem nmul_on {P : F × F} (oP : OnP b P) (n : Nat) : OnP b (nmul P n) := by
  induction n with
  | zero => exact .inl rfl
  | succ n ih => exact padd_on hb ih oP
theorem nmul_add {P : F × F} (oP : OnP b P) (m n : Nat) : nmul P (m + n) = padd (nmul P m) (nmul P n) := by
  induction n with
  | zero => exact (add_O _).symm
  | succ n ih => show padd (nmul P (m + n)) P = padd (nmul P m) (padd (nmul P n) P); rw [ih, padd_assoc hb (nmul_on hb oP m) (nmul_on hb oP n) oP]
theorem nmul_mul {P : F × F} (oP : OnP b P) (m n : Nat) : nmul (nmul P m) n = nmul P (m * n) := by
  induction n with
  | zero => rfl
  | succ n ih => show padd (nmul (nmul P m) n) (nmul P m) = _; rw [ih, ← nmul_add hb oP]; rfl
theorem add4 {P Q R S : F × F} (oP : OnP b P) (oQ : OnP b Q) (oR : OnP b R) (oS : OnP b S) : padd (padd P Q) (padd R S) = padd (padd P R) (padd Q S) := by
  rw [padd_assoc hb oP oQ (padd_on hb oR oS), ← padd_assoc hb oQ oR oS, padd_comm hb oQ oR, padd_assoc hb oR oQ oS, ← padd_assoc hb oP oR (padd_on hb oQ oS)]
theorem nmul_padd {P Q : F × F} (oP : OnP b P) (oQ : OnP b Q) (n : Nat) : nmul (padd P Q) n = padd (nmul P n) (nmul Q n) := by
  induction n with
  | zero => exact (O_add _).symm
  | succ n ih => show padd (nmul (padd P Q) n) (padd P Q) = padd (padd (nmul P n) P) (padd (nmul Q n) Q); rw [ih, add4 hb (nmul_on hb oP n) (nmul_on hb oQ n) oP oQ]
theorem nmul_neg {P : F × F} (oP : OnP b P) (n : Nat) : nmul (pneg P) n = pneg (nmul P n) := by
  induction n with
  | zero => exact pneg_O.symm
  | succ n ih => show padd (nmul (pneg P) n) (pneg P) = _; rw [ih, ← pneg_add hb (nmul_on hb oP n) oP]; rfl
omit hb in
theorem nmul_O (n : Nat) : nmul (O2 : F × F) n = O2 := by
  induction n with
  | zero => rfl
  | succ n ih => show padd (nmul O2 n) O2 = O2; rw [ih, O_add]
omit hb in
theorem nmul_two {P : F × F} : nmul P 2 = padd P P := by
  show padd (padd O2 P) P = _; rw [O_add]
omit hb in
theorem nmul_one {P : F × F} : nmul P 1 = P := O_add P

theorem rep_jt {o : Jc F} {P : F × F} (h : Rep b o P) (k : Nat) : Rep b (jt o k) (nmul P k) := by
  induction k with
  | zero => exact .inl ⟨rfl, rfl⟩
  | succ k ih => exact rep_add hb ih h
theorem rep_jdn {s : Jc F} {P : F × F} {n : Nat} (oP : OnP b P) (h : Rep b s (nmul P n)) (k : Nat) : Rep b (jdn s k) (nmul P (2 ^ k * n)) := by
  induction k with
  | zero => rw [Nat.pow_zero, Nat.one_mul]; exact h
  | succ k ih =>
    have := rep_dbl hb ih
    rw [← nmul_add hb oP] at this
    rw [Nat.pow_succ, Nat.mul_comm (2 ^ k) 2, Nat.mul_assoc, Nat.two_mul]
    exact this
theorem rep_jst {s o : Jc F} {P : F × F} {n : Nat} (ho : Rep b o P) (h : Rep b s (nmul P n)) {d : Int} (h0 : 0 ≤ d) (h1 : d < 16) : Rep b (jst (tabAt (jt o) (0, 0, 0) 15) s d) (nmul P (16 * n + d.toNat)) := by
  unfold jst
  rw [tabAt_get _ _ _ (by omega) (by omega), nmul_add hb ho.on]
  exact rep_add hb (rep_jdn hb ho.on h 4) (rep_jt hb ho _)
theorem rep_jby {s o : Jc F} {P : F × F} {n : Nat} (ho : Rep b o P) (h : Rep b s (nmul P n)) {c : Int} (h0 : 0 ≤ c) (h1 : c < 256) : Rep b (jby (tabAt (jt o) (0, 0, 0) 15) s c) (nmul P (256 * n + c.toNat)) := by
  obtain ⟨e1, d1, d2⟩ := dh_ok h0 h1
  obtain ⟨e2, d3, d4⟩ := dl_ok h0 h1
  have := rep_jst hb ho (rep_jst hb ho h d1 d2) d3 d4
  have e : 16 * (16 * n + (dh c).toNat) + (dl c).toNat = 256 * n + c.toNat := by rw [e1, e2]; omega
  rw [e] at this
  exact this
omit hb in
theorem num_take {k : List Int} {i : Nat} (h : i < k.length) : num (k.take (i + 1)) = num (k.take i) * 256 + k.getD i 0 := by
  unfold num
  rw [List.take_succ_eq_append_getElem h, List.foldl_append]
  simp [h]
theorem rep_jtm {o : Jc F} {P : F × F} (ho : Rep b o P) {k : List Int} (hk : Bs k) (i : Nat) (hi : i ≤ k.length) : 0 ≤ num (k.take i) ∧ Rep b (jtm (tabAt (jt o) (0, 0, 0) 15) k i) (nmul P (num (k.take i)).toNat) := by
  induction i with
  | zero => exact ⟨by simp [num], .inl ⟨rfl, by simp [num, nmul]⟩⟩
  | succ i ih =>
    obtain ⟨h1, h2⟩ := ih (by omega)
    have hc : 0 ≤ k.getD i 0 ∧ k.getD i 0 < 256 := by
      have : k.getD i 0 ∈ k := by rw [List.getD_eq_getElem?_getD, List.getElem?_eq_getElem (by omega)]; exact List.getElem_mem (by omega)
      exact hk _ this
    have := rep_jby hb ho h2 hc.1 hc.2
    rw [num_take (by omega)]
    refine ⟨by omega, ?_⟩
    have e : (num (k.take i) * 256 + k.getD i 0).toNat = 256 * (num (k.take i)).toNat + (k.getD i 0).toNat := by omega
    rw [e]
    exact this
/-- What Times computes. -/
theorem times_eq {P : F × F} (oP : OnP b P) {k : List Int} (hk : Bs k) : jpoint (jtm (tabAt (jt (jlift P)) (0, 0, 0) 15) k k.length) = nmul P (num k).toNat := by
  have := (rep_jtm hb (rep_lift oP) hk k.length (Nat.le_refl _)).2
  rw [List.take_length] at this
  exact rep_point this

theorem psum_on {ps : List (F × F)} (h : ∀ P ∈ ps, OnP b P) : OnP b (psum ps) := by
  induction ps with
  | nil => exact .inl rfl
  | cons P ps ih => exact padd_on hb (h P (by simp)) (ih (fun Q hQ => h Q (by simp [hQ])))
theorem psum_snoc {ps : List (F × F)} (h : ∀ P ∈ ps, OnP b P) {Q : F × F} (oQ : OnP b Q) : psum (ps ++ [Q]) = padd (psum ps) Q := by
  induction ps with
  | nil => show padd Q O2 = padd O2 Q; rw [add_O, O_add]
  | cons P ps ih =>
    show padd P (psum (ps ++ [Q])) = padd (padd P (psum ps)) Q
    rw [ih (fun R hR => h R (by simp [hR])), padd_assoc hb (h P (by simp)) (psum_on hb (fun R hR => h R (by simp [hR]))) oQ]
theorem rep_jsm {ps : List (F × F)} (h : ∀ P ∈ ps, OnP b P) (i : Nat) (hi : i ≤ ps.length) : Rep b (jsm ps i) (psum (ps.take i)) := by
  induction i with
  | zero => exact .inl ⟨rfl, by simp [psum]⟩
  | succ i ih =>
    have hm : ps.getD i (0, 0) = ps[i] := by simp [show i < ps.length by omega]
    have ho : OnP b (ps[i]) := h _ (List.getElem_mem _)
    rw [List.take_succ_eq_append_getElem (by omega), psum_snoc hb (fun P hP => h P (List.mem_of_mem_take hP)) ho]
    show Rep b (jadd (jsm ps i) (jlift (ps.getD i (0, 0)))) _
    rw [hm]
    exact rep_add hb (ih (by omega)) (rep_lift ho)
/-- What Sum computes. -/
theorem sum_eq {ps : List (F × F)} (h : ∀ P ∈ ps, OnP b P) : jpoint (jsm ps ps.length) = psum ps := by
  have := rep_jsm hb h ps.length (Nat.le_refl _)
  rw [List.take_length] at this
  exact rep_point this
theorem add_eq {P Q : F × F} (oP : OnP b P) (oQ : OnP b Q) : jpoint (jsm [P, Q] 2) = padd P Q := by
  have := sum_eq hb (ps := [P, Q]) (by intro R hR; simp at hR; rcases hR with rfl | rfl <;> assumption)
  rw [show psum [P, Q] = padd P Q by show padd P (padd Q O2) = _; rw [add_O]] at this
  exact this
end
end Cr
