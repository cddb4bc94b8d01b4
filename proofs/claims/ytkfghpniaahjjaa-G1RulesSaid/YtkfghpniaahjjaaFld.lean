/- Numbers modulo m, and their words times 2^(64 n). No program here. -/
import Derived.Test.YtkfghpniaahjjaaNum
namespace Cr

/-- A modulus, the number of its words, and 1/2^(64 n) modulo it. -/
class Md (M : Int) where
  n : Nat
  rinv : Int
  gt : 1 < M
  big : 2 * M ≤ pw n
  inv : (pw n * rinv) % M = 1

/-- A number modulo M. -/
structure Zm (M : Int) where
  v : Int
  nn : 0 ≤ v
  lt : v < M

theorem Zm.ext {M : Int} {a b : Zm M} (h : a.v = b.v) : a = b := by
  cases a; cases b; simp at h; subst h; rfl

instance {M : Int} : DecidableEq (Zm M) := fun a b =>
  if h : a.v = b.v then isTrue (Zm.ext h) else isFalse (fun e => h (by rw [e]))

section
variable {M : Int} [Md M]

theorem Mpos : 0 < M := by have := Md.gt (M := M); omega

/-- The number of an integer. -/
def zm (a : Int) : Zm M := ⟨a % M, Int.emod_nonneg _ (by have := Mpos (M := M); omega), Int.emod_lt_of_pos _ Mpos⟩

instance : Add (Zm M) := ⟨fun a b => zm (a.v + b.v)⟩
instance : Mul (Zm M) := ⟨fun a b => zm (a.v * b.v)⟩
instance : Neg (Zm M) := ⟨fun a => zm (-a.v)⟩
instance : Sub (Zm M) := ⟨fun a b => zm (a.v - b.v)⟩
instance : Zero (Zm M) := ⟨zm 0⟩
instance : One (Zm M) := ⟨zm 1⟩

theorem zm_v (a : Int) : (zm a : Zm M).v = a % M := rfl
theorem add_v (a b : Zm M) : (a + b).v = (a.v + b.v) % M := rfl
theorem mul_v (a b : Zm M) : (a * b).v = (a.v * b.v) % M := rfl
theorem neg_v (a : Zm M) : (-a).v = (-a.v) % M := rfl
theorem sub_v (a b : Zm M) : (a - b).v = (a.v - b.v) % M := rfl
theorem zero_v : (0 : Zm M).v = 0 := by show (0 : Int) % M = 0; simp
theorem one_v : (1 : Zm M).v = 1 := by show (1 : Int) % M = 1; exact Int.emod_eq_of_lt (by omega) Md.gt
omit [Md M] in
theorem v_mod (a : Zm M) : a.v % M = a.v := Int.emod_eq_of_lt a.nn a.lt
theorem zm_self (a : Zm M) : zm a.v = a := Zm.ext (v_mod a)

theorem zm_add (a b : Int) : (zm a + zm b : Zm M) = zm (a + b) := Zm.ext (by simp [add_v, zm_v])
theorem zm_mul (a b : Int) : (zm a * zm b : Zm M) = zm (a * b) := Zm.ext (by simp [mul_v, zm_v, ← Int.mul_emod])
theorem zm_sub (a b : Int) : (zm a - zm b : Zm M) = zm (a - b) := Zm.ext (by simp [sub_v, zm_v])
theorem zm_neg (a : Int) : (-zm a : Zm M) = zm (-a) := Zm.ext (by
  rw [neg_v, zm_v, zm_v]
  have h := Int.emod_def a M
  rw [show -(a % M) = -a + M * (a / M) by omega, Int.add_mul_emod_self_left])
theorem zm_eq {a b : Int} (h : a % M = b % M) : (zm a : Zm M) = zm b := Zm.ext h
theorem zm_iff {a b : Int} : (zm a : Zm M) = zm b ↔ a % M = b % M := ⟨fun h => congrArg Zm.v h, zm_eq⟩
theorem zm_zero : (zm 0 : Zm M) = 0 := rfl
theorem zm_one : (zm 1 : Zm M) = 1 := rfl

/-- 2^(64 n) as a number. -/
def R2 : Zm M := zm (pw (Md.n M))
def R2i : Zm M := zm (Md.rinv M)

theorem R2_R2i : (R2 : Zm M) * R2i = 1 := by
  unfold R2 R2i
  rw [zm_mul]
  exact Zm.ext (by rw [zm_v, one_v]; exact Md.inv)

/-- The words of a number: it times 2^(64 n). -/
def enc (x : Zm M) : List Int := lim (Md.n M) (x * R2).v
/-- The number of words. -/
def dec (xs : List Int) : Zm M := zm (val xs) * R2i

/-- Words that are the form of a number. -/
def Canon (M : Int) [Md M] (xs : List Int) : Prop := xs.length = Md.n M ∧ Ws xs ∧ val xs < M

theorem mul_assoc' (a b c : Zm M) : a * b * c = a * (b * c) := Zm.ext (by
  simp only [mul_v]
  rw [Int.mul_emod, Int.emod_emod, ← Int.mul_emod, Int.mul_emod a.v, Int.emod_emod, ← Int.mul_emod, Int.mul_assoc])
theorem mul_comm' (a b : Zm M) : a * b = b * a := Zm.ext (by simp only [mul_v, Int.mul_comm])
theorem mul_one' (a : Zm M) : a * 1 = a := Zm.ext (by rw [mul_v, one_v, Int.mul_one, v_mod])

theorem M_lt_pw : M < pw (Md.n M) := by have := Md.big (M := M); have := Mpos (M := M); omega

theorem enc_length (x : Zm M) : (enc x).length = Md.n M := lim_length _ _
theorem enc_ws (x : Zm M) : Ws (enc x) := lim_ws _ _
theorem val_enc (x : Zm M) : val (enc x) = (x * R2).v := by
  unfold enc
  rw [val_lim, Int.emod_eq_of_lt (x * R2).nn (by have := (x * R2).lt; have := M_lt_pw (M := M); omega)]
theorem enc_canon (x : Zm M) : Canon M (enc x) := ⟨enc_length x, enc_ws x, by rw [val_enc]; exact (x * R2).lt⟩
theorem dec_enc (x : Zm M) : dec (enc x) = x := by
  unfold dec
  rw [val_enc, zm_self, mul_assoc', R2_R2i, mul_one']
theorem dec_R2 (xs : List Int) : dec xs * R2 = (zm (val xs) : Zm M) := by
  unfold dec
  rw [mul_assoc', mul_comm' R2i, R2_R2i, mul_one']
theorem enc_dec {xs : List Int} (h : Canon M xs) : enc (dec xs : Zm M) = xs := by
  obtain ⟨h1, h2, h3⟩ := h
  unfold enc
  rw [dec_R2, zm_v, Int.emod_eq_of_lt (val_nonneg h2) h3, ← h1]
  exact lim_val h2
theorem enc_inj {x y : Zm M} (h : enc x = enc y) : x = y := by rw [← dec_enc x, ← dec_enc y, h]

/-- Words of a number modulo M are the form of a number, if it is so times 2^(64 n). -/
theorem enc_of {x : Zm M} {N : Int} (h : x * R2 = zm N) : enc x = lim (Md.n M) (N % M) := by
  unfold enc; rw [h, zm_v]

theorem add_mul' (a b c : Zm M) : (a + b) * c = a * c + b * c := by
  rw [← zm_self a, ← zm_self b, ← zm_self c]; simp only [zm_add, zm_mul, Int.add_mul]
theorem sub_mul' (a b c : Zm M) : (a - b) * c = a * c - b * c := by
  rw [← zm_self a, ← zm_self b, ← zm_self c]; simp only [zm_sub, zm_mul, Int.sub_mul]

theorem canon_nn {xs : List Int} (h : Canon M xs) : 0 ≤ val xs := val_nonneg h.2.1

/-- The forms of results. -/
theorem enc_add {xs ys : List Int} : enc (dec xs + dec ys : Zm M) = lim (Md.n M) ((val xs + val ys) % M) :=
  enc_of (by rw [add_mul', dec_R2, dec_R2, zm_add])
theorem enc_sub {xs ys : List Int} : enc (dec xs - dec ys : Zm M) = lim (Md.n M) ((val xs - val ys) % M) :=
  enc_of (by rw [sub_mul', dec_R2, dec_R2, zm_sub])
theorem enc_mul {xs ys : List Int} : enc (dec xs * dec ys : Zm M) = lim (Md.n M) (val xs * val ys * Md.rinv M % M) :=
  enc_of (by
    rw [mul_assoc', dec_R2, mul_comm' (dec xs)]
    show zm (val ys) * (zm (val xs) * zm (Md.rinv M)) = _
    rw [zm_mul, zm_mul, ← Int.mul_assoc, Int.mul_comm (val ys)])
theorem lim_zero (n : Nat) : lim n 0 = List.replicate n 0 := by
  induction n with
  | zero => rfl
  | succ n ih => simp [lim, ih, List.replicate_succ]
theorem enc_zero : enc (0 : Zm M) = List.replicate (Md.n M) 0 := by
  unfold enc
  rw [show (0 : Zm M) * R2 = 0 from Zm.ext (by rw [mul_v, zero_v]; simp), zero_v, lim_zero]

/-- Words of at most 2^(64 n) to a number: times against 2^(128 n). -/
theorem enc_zm {N : Int} : enc (zm N : Zm M) = lim (Md.n M) (N * pw (Md.n M) % M) :=
  enc_of (by unfold R2; rw [zm_mul])

end
end Cr
