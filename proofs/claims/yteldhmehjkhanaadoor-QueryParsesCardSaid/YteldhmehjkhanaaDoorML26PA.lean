/- The two moduli. No program here. -/
import Derived.Shelf.Strings.OnBuilder
import Derived.Shelf.Strconv.Itoa3
import Derived.Shelf.Strings.Search3
import Derived.Shelf.Strings.Count
import Derived.Test.YteldhmehjkhanaaDoorProg
/- What the library's contracts ask of this program (written by the kit's lay-shelf and lay-plain; cut). -/
namespace Go.Proofs
open Go.Shelf
def Tryd.lays156_ren : Go.Shelf.Ren := ⟨fun | 156 => 31 | 165 => 42 | 166 => 43 | 169 => 41 | 240 => 50 | 241 => 51 | 276 => 62 | 277 => 63 | n => n, fun | 31 => 29 | 9 => 9 | 3 => 3 | 4 => 4 | 0 => 0 | 20 => 20 | 72 => 95 | 76 => 101 | 70 => 93 | 37 => 28 | 75 => 97 | 127 => 110 | 164 => 119 | 5 => 5 | 80 => 99 | n => n, fun | n => n⟩
theorem Tryd.lays156 : Go.Proofs.Lays.n156 Tryd.prog Tryd.lays156_ren := {
  mixed := by kernel_rfl
  f156 := Tryd.func31.trans (congrArg some (by kernel_rfl))
  f165 := Tryd.func42.trans (congrArg some (by kernel_rfl))
  f166 := Tryd.func43.trans (congrArg some (by kernel_rfl))
  f169 := Tryd.func41.trans (congrArg some (by kernel_rfl))
  f240 := Tryd.func50.trans (congrArg some (by kernel_rfl))
  f241 := Tryd.func51.trans (congrArg some (by kernel_rfl))
  f276 := Tryd.func62.trans (congrArg some (by kernel_rfl))
  f277 := Tryd.func63.trans (congrArg some (by kernel_rfl))
  t0 := Tryd.underlying0
  a0 := Tryd.isAgg0
  z0 := Tryd.sizeOf0
  v0 := Tryd.zeroValue0
  t3 := Tryd.underlying3
  a3 := Tryd.isAgg3
  z3 := Tryd.sizeOf3
  v3 := Tryd.zeroValue3
  t4 := Tryd.underlying4
  a4 := Tryd.isAgg4
  z4 := Tryd.sizeOf4
  v4 := Tryd.zeroValue4
  t9 := Tryd.underlying9
  a9 := Tryd.isAgg9
  z9 := Tryd.sizeOf9
  v9 := Tryd.zeroValue9
  t20 := Tryd.underlying20
  a20 := Tryd.isAgg20
  z20 := Tryd.sizeOf20
  v20 := Tryd.zeroValue20
  t31 := Tryd.underlying29
  a31 := Tryd.isAgg29
  z31 := Tryd.sizeOf29
  v31 := Tryd.zeroValue29
  t37 := Tryd.underlying28
  a37 := Tryd.isAgg28
  z37 := Tryd.sizeOf28
  v37 := Tryd.zeroValue28
  t70 := Tryd.underlying93
  a70 := Tryd.isAgg93
  z70 := Tryd.sizeOf93
  v70 := Tryd.zeroValue93
  t72 := Tryd.underlying95
  a72 := Tryd.isAgg95
  z72 := Tryd.sizeOf95
  v72 := Tryd.zeroValue95
  t75 := Tryd.underlying97
  a75 := Tryd.isAgg97
  z75 := Tryd.sizeOf97
  v75 := Tryd.zeroValue97
  t76 := Tryd.underlying101
  a76 := Tryd.isAgg101
  z76 := Tryd.sizeOf101
  v76 := Tryd.zeroValue101
  t127 := Tryd.underlying110
  a127 := Tryd.isAgg110
  z127 := Tryd.sizeOf110
  v127 := Tryd.zeroValue110
  t164 := Tryd.underlying119
  a164 := Tryd.isAgg119
  z164 := Tryd.sizeOf119
  v164 := Tryd.zeroValue119 }
theorem Tryd.Builder_Extra_156 : Builder.Extra Tryd.prog Tryd.lays156_ren := {
  sizeBuilder := by kernel_rfl
  liesBuilder := by kernel_rfl
  t5 := Tryd.underlying5
  a5 := Tryd.isAgg5
  z5 := Tryd.sizeOf5
  v5 := Tryd.zeroValue5
  infoByte := by kernel_rfl
  cellsByte := by kernel_rfl
  sizeByte := by kernel_rfl
  neB5 := by decide }
def Tryd.lays171_ren : Go.Shelf.Ren := ⟨fun | 171 => 29 | 243 => 39 | 246 => 49 | 283 => 58 | 284 => 59 | 285 => 60 | 286 => 61 | 129 => 67 | 317 => 66 | 318 => 68 | 319 => 69 | 320 => 70 | 337 => 71 | 338 => 72 | n => n, fun | 3 => 3 | 9 => 9 | 2 => 2 | 4 => 4 | 171 => 114 | 0 => 0 | 53 => 74 | 37 => 28 | 5 => 5 | 173 => 117 | 212 => 129 | 51 => 83 | 20 => 20 | 213 => 130 | 46 => 75 | 232 => 40 | 233 => 85 | n => n, fun | 17 => 5 | 18 => 6 | 19 => 7 | n => n⟩
theorem Tryd.lays171 : Go.Proofs.Lays.n171 Tryd.prog Tryd.lays171_ren := {
  mixed := by kernel_rfl
  f129 := Tryd.func67.trans (congrArg some (by kernel_rfl))
  f171 := Tryd.func29.trans (congrArg some (by kernel_rfl))
  f243 := Tryd.func39.trans (congrArg some (by kernel_rfl))
  f246 := Tryd.func49.trans (congrArg some (by kernel_rfl))
  f283 := Tryd.func58.trans (congrArg some (by kernel_rfl))
  f284 := Tryd.func59.trans (congrArg some (by kernel_rfl))
  f285 := Tryd.func60.trans (congrArg some (by kernel_rfl))
  f286 := Tryd.func61.trans (congrArg some (by kernel_rfl))
  f317 := Tryd.func66.trans (congrArg some (by kernel_rfl))
  f318 := Tryd.func68.trans (congrArg some (by kernel_rfl))
  f319 := Tryd.func69.trans (congrArg some (by kernel_rfl))
  f320 := Tryd.func70.trans (congrArg some (by kernel_rfl))
  f337 := Tryd.func71.trans (congrArg some (by kernel_rfl))
  f338 := Tryd.func72.trans (congrArg some (by kernel_rfl))
  t0 := Tryd.underlying0
  a0 := Tryd.isAgg0
  z0 := Tryd.sizeOf0
  v0 := Tryd.zeroValue0
  t2 := Tryd.underlying2
  a2 := Tryd.isAgg2
  z2 := Tryd.sizeOf2
  v2 := Tryd.zeroValue2
  t3 := Tryd.underlying3
  a3 := Tryd.isAgg3
  z3 := Tryd.sizeOf3
  v3 := Tryd.zeroValue3
  t4 := Tryd.underlying4
  a4 := Tryd.isAgg4
  z4 := Tryd.sizeOf4
  v4 := Tryd.zeroValue4
  t5 := Tryd.underlying5
  a5 := Tryd.isAgg5
  z5 := Tryd.sizeOf5
  v5 := Tryd.zeroValue5
  t9 := Tryd.underlying9
  a9 := Tryd.isAgg9
  z9 := Tryd.sizeOf9
  v9 := Tryd.zeroValue9
  t20 := Tryd.underlying20
  a20 := Tryd.isAgg20
  z20 := Tryd.sizeOf20
  v20 := Tryd.zeroValue20
  t37 := Tryd.underlying28
  a37 := Tryd.isAgg28
  z37 := Tryd.sizeOf28
  v37 := Tryd.zeroValue28
  t46 := Tryd.underlying75
  a46 := Tryd.isAgg75
  z46 := Tryd.sizeOf75
  v46 := Tryd.zeroValue75
  t51 := Tryd.underlying83
  a51 := Tryd.isAgg83
  z51 := Tryd.sizeOf83
  v51 := Tryd.zeroValue83
  t53 := Tryd.underlying74
  a53 := Tryd.isAgg74
  z53 := Tryd.sizeOf74
  v53 := Tryd.zeroValue74
  t171 := Tryd.underlying114
  a171 := Tryd.isAgg114
  z171 := Tryd.sizeOf114
  v171 := Tryd.zeroValue114
  t173 := Tryd.underlying117
  a173 := Tryd.isAgg117
  z173 := Tryd.sizeOf117
  v173 := Tryd.zeroValue117
  t212 := Tryd.underlying129
  a212 := Tryd.isAgg129
  z212 := Tryd.sizeOf129
  v212 := Tryd.zeroValue129
  t213 := Tryd.underlying130
  a213 := Tryd.isAgg130
  z213 := Tryd.sizeOf130
  t232 := Tryd.underlying40
  a232 := Tryd.isAgg40
  z232 := Tryd.sizeOf40
  v232 := Tryd.zeroValue40
  t233 := Tryd.underlying85
  a233 := Tryd.isAgg85
  z233 := Tryd.sizeOf85
  v233 := Tryd.zeroValue85
  g17 := by kernel_rfl
  g18 := by kernel_rfl
  g19 := by kernel_rfl }
def Tryd.lays143_ren : Go.Shelf.Ren := ⟨fun | 143 => 37 | 219 => 48 | 217 => 54 | 225 => 55 | 224 => 56 | 267 => 57 | 266 => 64 | 314 => 65 | n => n, fun | 9 => 9 | 3 => 3 | 4 => 4 | 5 => 5 | 46 => 75 | 146 => 126 | 51 => 83 | n => n, fun | 1 => 2 | n => n⟩
theorem Tryd.lays143 : Go.Proofs.Lays.n143 Tryd.prog Tryd.lays143_ren := {
  mixed := by kernel_rfl
  f143 := Tryd.func37.trans (congrArg some (by kernel_rfl))
  f217 := Tryd.func54.trans (congrArg some (by kernel_rfl))
  f219 := Tryd.func48.trans (congrArg some (by kernel_rfl))
  f224 := Tryd.func56.trans (congrArg some (by kernel_rfl))
  f225 := Tryd.func55.trans (congrArg some (by kernel_rfl))
  f266 := Tryd.func64.trans (congrArg some (by kernel_rfl))
  f267 := Tryd.func57.trans (congrArg some (by kernel_rfl))
  f314 := Tryd.func65.trans (congrArg some (by kernel_rfl))
  t3 := Tryd.underlying3
  a3 := Tryd.isAgg3
  z3 := Tryd.sizeOf3
  v3 := Tryd.zeroValue3
  t4 := Tryd.underlying4
  a4 := Tryd.isAgg4
  z4 := Tryd.sizeOf4
  v4 := Tryd.zeroValue4
  t5 := Tryd.underlying5
  a5 := Tryd.isAgg5
  z5 := Tryd.sizeOf5
  v5 := Tryd.zeroValue5
  t9 := Tryd.underlying9
  a9 := Tryd.isAgg9
  z9 := Tryd.sizeOf9
  v9 := Tryd.zeroValue9
  t46 := Tryd.underlying75
  a46 := Tryd.isAgg75
  z46 := Tryd.sizeOf75
  v46 := Tryd.zeroValue75
  t51 := Tryd.underlying83
  a51 := Tryd.isAgg83
  z51 := Tryd.sizeOf83
  v51 := Tryd.zeroValue83
  t146 := Tryd.underlying126
  a146 := Tryd.isAgg126
  z146 := Tryd.sizeOf126
  v146 := Tryd.zeroValue126
  g1 := by kernel_rfl }
def Tryd.lays138_ren : Go.Shelf.Ren := ⟨fun | 138 => 36 | 195 => 45 | 218 => 47 | 143 => 37 | 219 => 48 | 217 => 54 | 225 => 55 | 224 => 56 | 267 => 57 | 266 => 64 | 314 => 65 | n => n, fun | 9 => 9 | 3 => 3 | 4 => 4 | 5 => 5 | 0 => 0 | 46 => 75 | 146 => 126 | 51 => 83 | n => n, fun | 1 => 2 | n => n⟩
theorem Tryd.lays138 : Go.Proofs.Lays.n138 Tryd.prog Tryd.lays138_ren := {
  mixed := by kernel_rfl
  f138 := Tryd.func36.trans (congrArg some (by kernel_rfl))
  f143 := Tryd.func37.trans (congrArg some (by kernel_rfl))
  f195 := Tryd.func45.trans (congrArg some (by kernel_rfl))
  f217 := Tryd.func54.trans (congrArg some (by kernel_rfl))
  f218 := Tryd.func47.trans (congrArg some (by kernel_rfl))
  f219 := Tryd.func48.trans (congrArg some (by kernel_rfl))
  f224 := Tryd.func56.trans (congrArg some (by kernel_rfl))
  f225 := Tryd.func55.trans (congrArg some (by kernel_rfl))
  f266 := Tryd.func64.trans (congrArg some (by kernel_rfl))
  f267 := Tryd.func57.trans (congrArg some (by kernel_rfl))
  f314 := Tryd.func65.trans (congrArg some (by kernel_rfl))
  t0 := Tryd.underlying0
  a0 := Tryd.isAgg0
  z0 := Tryd.sizeOf0
  v0 := Tryd.zeroValue0
  t3 := Tryd.underlying3
  a3 := Tryd.isAgg3
  z3 := Tryd.sizeOf3
  v3 := Tryd.zeroValue3
  t4 := Tryd.underlying4
  a4 := Tryd.isAgg4
  z4 := Tryd.sizeOf4
  v4 := Tryd.zeroValue4
  t5 := Tryd.underlying5
  a5 := Tryd.isAgg5
  z5 := Tryd.sizeOf5
  v5 := Tryd.zeroValue5
  t9 := Tryd.underlying9
  a9 := Tryd.isAgg9
  z9 := Tryd.sizeOf9
  v9 := Tryd.zeroValue9
  t46 := Tryd.underlying75
  a46 := Tryd.isAgg75
  z46 := Tryd.sizeOf75
  v46 := Tryd.zeroValue75
  t51 := Tryd.underlying83
  a51 := Tryd.isAgg83
  z51 := Tryd.sizeOf83
  v51 := Tryd.zeroValue83
  t146 := Tryd.underlying126
  a146 := Tryd.isAgg126
  z146 := Tryd.sizeOf126
  v146 := Tryd.zeroValue126
  g1 := by kernel_rfl }
end Go.Proofs
/- Plain numbers in words of 64 bits. No program here. -/
namespace Cr
/-- A word. -/
def U64 (a : Int) : Prop := 0 ≤ a ∧ a < 18446744073709551616
def Ws (xs : List Int) : Prop := ∀ x ∈ xs, U64 x

/-- The number that words are, the lowest first. -/
def val : List Int → Int
  | [] => 0
  | x :: xs => x + 18446744073709551616 * val xs

/-- The words of a number. -/
def lim : Nat → Int → List Int
  | 0, _ => []
  | n + 1, N => N % 18446744073709551616 :: lim n (N / 18446744073709551616)

/-- 2^(64 n). -/
def pw : Nat → Int
  | 0 => 1
  | n + 1 => 18446744073709551616 * pw n

theorem pw_pos (n : Nat) : 0 < pw n := by
  induction n with
  | zero => decide
  | succ n ih => simp only [pw]; omega

theorem lim_length (n : Nat) (N : Int) : (lim n N).length = n := by
  induction n generalizing N with
  | zero => rfl
  | succ n ih => simp [lim, ih]

theorem val_nonneg {xs : List Int} (h : Ws xs) : 0 ≤ val xs := by
  induction xs with
  | nil => decide
  | cons x xs ih =>
    have h1 := h x (by simp)
    have h2 := ih (fun y hy => h y (by simp [hy]))
    simp only [val]; have := h1.1; omega

theorem val_lim (n : Nat) (N : Int) : val (lim n N) = N % pw n := by
  induction n generalizing N with
  | zero => simp [lim, val, pw, Int.emod_one]
  | succ n ih =>
    simp only [lim, val, pw, ih]
    have hp := pw_pos n
    rw [← Int.emod_add_mul_ediv N 18446744073709551616]
    generalize hq : N / 18446744073709551616 = q
    generalize hr : N % 18446744073709551616 = r
    have hr0 : 0 ≤ r ∧ r < 18446744073709551616 := by omega
    have e1 : (r + 18446744073709551616 * q) % 18446744073709551616 = r := by omega
    have e2 : (r + 18446744073709551616 * q) / 18446744073709551616 = q := by omega
    rw [e1, e2]
    have e3 : q = q % pw n + pw n * (q / pw n) := (Int.emod_add_mul_ediv q (pw n)).symm
    have hb := Int.emod_nonneg q (by omega : pw n ≠ 0)
    have hb2 := Int.emod_lt_of_pos q hp
    generalize hs : q % pw n = s at *
    generalize q / pw n = t at *
    subst e3
    rw [show r + 18446744073709551616 * (s + pw n * t) = (r + 18446744073709551616 * s) + 18446744073709551616 * pw n * t from by rw [Int.mul_add, Int.mul_assoc]; omega]
    rw [Int.add_mul_emod_self_left]
    exact (Int.emod_eq_of_lt (by omega) (by omega)).symm

theorem lim_val {xs : List Int} (h : Ws xs) : lim xs.length (val xs) = xs := by
  induction xs with
  | nil => rfl
  | cons x xs ih =>
    have h1 := h x (by simp)
    have h2 := ih (fun y hy => h y (by simp [hy]))
    simp only [val, lim, List.length_cons]
    obtain ⟨a, b⟩ := h1
    rw [show (x + 18446744073709551616 * val xs) % 18446744073709551616 = x from by omega, show (x + 18446744073709551616 * val xs) / 18446744073709551616 = val xs from by omega, h2]

end Cr
/- Numbers modulo m, and their words times 2^(64 n). No program here. -/
namespace Cr

/-- A modulus, the number of its words, and 1/2^(64 n) modulo it. -/
class Md (M : Int) where
  n : Nat
  rinv : Int
  gt : 1 < M
  big : 2 * M ≤ pw n
  inv : (pw n * rinv) % M = 1

/-- A number modulo M. -/
structure Zm (M : Int) where
  v : Int
  nn : 0 ≤ v
  lt : v < M

theorem Zm.ext {M : Int} {a b : Zm M} (h : a.v = b.v) : a = b := by
  cases a; cases b; simp at h; subst h; rfl

instance {M : Int} : DecidableEq (Zm M) := fun a b =>
  if h : a.v = b.v then isTrue (Zm.ext h) else isFalse (fun e => h (by rw [e]))

section
variable {M : Int} [Md M]

theorem Mpos : 0 < M := by have := Md.gt (M := M); omega

/-- The number of an integer. -/
def zm (a : Int) : Zm M := ⟨a % M, Int.emod_nonneg _ (by have := Mpos (M := M); omega), Int.emod_lt_of_pos _ Mpos⟩

instance : Add (Zm M) := ⟨fun a b => zm (a.v + b.v)⟩
instance : Mul (Zm M) := ⟨fun a b => zm (a.v * b.v)⟩
instance : Neg (Zm M) := ⟨fun a => zm (-a.v)⟩
instance : Sub (Zm M) := ⟨fun a b => zm (a.v - b.v)⟩
instance : Zero (Zm M) := ⟨zm 0⟩
instance : One (Zm M) := ⟨zm 1⟩

theorem zm_v (a : Int) : (zm a : Zm M).v = a % M := rfl
theorem mul_v (a b : Zm M) : (a * b).v = (a.v * b.v) % M := rfl
theorem zero_v : (0 : Zm M).v = 0 := by show (0 : Int) % M = 0; simp
theorem one_v : (1 : Zm M).v = 1 := by show (1 : Int) % M = 1; exact Int.emod_eq_of_lt (by omega) Md.gt
omit [Md M] in
theorem v_mod (a : Zm M) : a.v % M = a.v := Int.emod_eq_of_lt a.nn a.lt
theorem zm_self (a : Zm M) : zm a.v = a := Zm.ext (v_mod a)

theorem zm_mul (a b : Int) : (zm a * zm b : Zm M) = zm (a * b) := Zm.ext (by simp [mul_v, zm_v, ← Int.mul_emod])
/-- 2^(64 n) as a number. -/
def R2 : Zm M := zm (pw (Md.n M))
def R2i : Zm M := zm (Md.rinv M)

theorem R2_R2i : (R2 : Zm M) * R2i = 1 := by
  unfold R2 R2i
  rw [zm_mul]
  exact Zm.ext (by rw [zm_v, one_v]; exact Md.inv)

/-- The words of a number: it times 2^(64 n). -/
def enc (x : Zm M) : List Int := lim (Md.n M) (x * R2).v
/-- The number of words. -/
def dec (xs : List Int) : Zm M := zm (val xs) * R2i

/-- Words that are the form of a number. -/
def Canon (M : Int) [Md M] (xs : List Int) : Prop := xs.length = Md.n M ∧ Ws xs ∧ val xs < M

theorem mul_assoc' (a b c : Zm M) : a * b * c = a * (b * c) := Zm.ext (by
  simp only [mul_v]
  rw [Int.mul_emod, Int.emod_emod, ← Int.mul_emod, Int.mul_emod a.v, Int.emod_emod, ← Int.mul_emod, Int.mul_assoc])
theorem mul_comm' (a b : Zm M) : a * b = b * a := Zm.ext (by simp only [mul_v, Int.mul_comm])
theorem mul_one' (a : Zm M) : a * 1 = a := Zm.ext (by rw [mul_v, one_v, Int.mul_one, v_mod])

theorem M_lt_pw : M < pw (Md.n M) := by have := Md.big (M := M); have := Mpos (M := M); omega

theorem enc_length (x : Zm M) : (enc x).length = Md.n M := lim_length _ _
theorem val_enc (x : Zm M) : val (enc x) = (x * R2).v := by
  unfold enc
  rw [val_lim, Int.emod_eq_of_lt (x * R2).nn (by have := (x * R2).lt; have := M_lt_pw (M := M); omega)]
theorem dec_enc (x : Zm M) : dec (enc x) = x := by
  unfold dec
  rw [val_enc, zm_self, mul_assoc', R2_R2i, mul_one']
theorem dec_R2 (xs : List Int) : dec xs * R2 = (zm (val xs) : Zm M) := by
  unfold dec
  rw [mul_assoc', mul_comm' R2i, R2_R2i, mul_one']
theorem enc_dec {xs : List Int} (h : Canon M xs) : enc (dec xs : Zm M) = xs := by
  obtain ⟨h1, h2, h3⟩ := h
  unfold enc
  rw [dec_R2, zm_v, Int.emod_eq_of_lt (val_nonneg h2) h3, ← h1]
  exact lim_val h2
theorem enc_inj {x y : Zm M} (h : enc x = enc y) : x = y := by rw [← dec_enc x, ← dec_enc y, h]

theorem lim_zero (n : Nat) : lim n 0 = List.replicate n 0 := by
  induction n with
  | zero => rfl
  | succ n ih => simp [lim, ih, List.replicate_succ]
theorem enc_zero : enc (0 : Zm M) = List.replicate (Md.n M) 0 := by
  unfold enc
  rw [show (0 : Zm M) * R2 = 0 from Zm.ext (by rw [mul_v, zero_v]; simp), zero_v, lim_zero]

end
end Cr
namespace Cr

def Mp : Int := 4002409555221667393417789825735904156556882819939007885332058136124031650490837864442687629129015664037894272559787
def Mr : Int := 52435875175126190479447740508185965837690552500527637822603658699938581184513

instance : Md Mp where
  n := 6
  rinv := 3231460744492646417066832100176244795738767926513225105051837195607029917124509527734802654356338138714468589979680
  gt := by decide
  big := by decide
  inv := by decide

instance : Md Mr where
  n := 4
  rinv := 12549076656233958353659347336803947287922716146853412054870763148006372261952
  gt := by decide
  big := by decide
  inv := by decide

abbrev Fp := Zm Mp
abbrev Fr := Zm Mr
end Cr
