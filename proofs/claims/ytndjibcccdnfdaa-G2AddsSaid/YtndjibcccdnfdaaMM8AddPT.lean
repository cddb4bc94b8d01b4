/- G2Adds, for every input: true; the input reads as it did. No condition. -/
import Derived.Test.YtndjibcccdnfdaaMM8AddPS
/- What rows ask of their arguments. -/
namespace Go.Proofs.Ytndjibcccdnfdaa
open Go Go.Eng Cr
abbrev bsl : Kd := .sl (.int .u8)
/-- Bytes of an input. -/
abbrev preB (b : List Int) : Prop := Bs b ∧ List.length b ≤ 281474976710656
abbrev preBB (bs : List (List Int)) : Prop := (∀ b ∈ bs, preB b) ∧ List.length bs ≤ 281474976710656
abbrev preW (x : Int) : Prop := 0 ≤ x ∧ x < 65536
abbrev preY (x : Int) : Prop := 0 ≤ x ∧ x < 256
abbrev preI (x : Int) : Prop := -9223372036854775808 ≤ x ∧ x < 9223372036854775808
abbrev preL (_ : Bool) : Prop := True
abbrev preIS (xs : List Int) : Prop := (∀ x ∈ xs, preI x) ∧ List.length xs ≤ 281474976710656
end Go.Proofs.Ytndjibcccdnfdaa
/- Helpers of laws. -/
namespace Go.Proofs.Ytndjibcccdnfdaa
open Go Go.Eng Cr
abbrev eq2 (p q : Fp × Fp) : Bool := decide (p.1 = q.1) && decide (p.2 = q.2)
theorem eq2_eq (p q : Fp × Fp) : eq2 p q = decide (p = q) := dec_pair p q
theorem eq2_of {p q : Fp × Fp} (h : p = q) : eq2 p q = true := by rw [eq2_eq]; exact decide_eq_true h
theorem ne2_of {p q : Fp × Fp} (h : p ≠ q) : (!eq2 p q) = true := by rw [eq2_eq]; simp [h]
/-- A test that must hold: else the answer is false. -/
def Ck (c : Bool) (T : Prop) : Prop := (c = true → T) ∧ (c = false → ((false, ()) : Bool × Unit) = (true, ()))
theorem ck {c : Bool} {T : Prop} (h : c = true) (t : T) : Ck c T := ⟨fun _ => t, fun e => by rw [h] at e; cases e⟩
/-- A test that must fail: else the answer is false. -/
def Cn (c : Bool) (T : Prop) : Prop := (c = true → ((false, ()) : Bool × Unit) = (true, ())) ∧ (c = false → T)
theorem cn {c : Bool} {T : Prop} (h : c = false) (t : T) : Cn c T := ⟨fun e => absurd e (by rw [h]; decide), fun _ => t⟩
theorem eqP (a b : Fp × Fp) : eqC (.pair .fp .fp) a b = decide (a = b) := by
  have h := eqC_iff (e := .pair .fp .fp) a b
  rw [Bool.eq_iff_iff, h, decide_eq_true_iff]
theorem eqF (a b : Fp) : eqC .fp a b = decide (a = b) := rfl
theorem eqR (a b : Fr) : eqC .fr a b = decide (a = b) := rfl
abbrev ok (b : Bool) : Prop := ((b, ()) : Bool × Unit) = (true, ())
end Go.Proofs.Ytndjibcccdnfdaa
/- law08: head, scalar, long. -/
namespace Go.Proofs.Ytndjibcccdnfdaa.law08
set_option maxRecDepth 100000
open Go Go.Eng Go.RowKit Cr Go.Proofs.Ytndjibcccdnfdaa Go.Proofs.Ytndjibcccdnfdaa.fp2 Go.Proofs.Ytndjibcccdnfdaa.g2

theorem ent_scalar : enters Try.prog 17 Try.f17 := enters_mk (by kernel_rfl) (by kernel_rfl) (by kernel_rfl)
noncomputable def sca (b : List Int) : Fr := opq (zm (num b))
abbrev preSca : HL [.sl (.int .u8)] → Prop := fun (b, _) => Bs b ∧ List.length b ≤ 281474976710656
noncomputable abbrev outSca : HL [.sl (.int .u8)] → HO [.val .fr] := fun (b, _) => (sca b, ())
theorem fn_scalar : FnOk Try.prog 17 [.sl (.int .u8)] [.val .fr] noG preSca outSca := by
  refine fn_of_vc (sp := sps [ref01.spCopy, fr.spWide]) (sps_cons (fnSpec_ok ref01.fn_copy) (sps_cons (fnSpec_ok fr.fn_wide) sps_nil)) mixed ent_scalar (by decide) (by decide) ?_
  rintro w M0 ⟨b, ⟨⟩⟩
  revert b
  intro (b : List Int) _ hp
  obtain ⟨h1, h2⟩ := hp
  have h2 : b.length ≤ 281474976710656 := h2
  refine vcx (X := (ref01.preCopy (b, ()) ∧ 0 + b.length ≤ b.length ∧ fr.preWide (b.take b.length, ()) ∧ ((zm (num (b.take b.length)) : Fr), ()) = outSca (b, ()))) (by kernel_rfl) ?_
  rw [List.take_length]
  refine ⟨h2, by omega, ⟨h1, by show b.length < _; omega⟩, ?_⟩
  show _ = (sca b, ())
  rw [sca, opq_eq]
noncomputable def spScalar : Nat × Eng.Spec := (17, fnSpec [.sl (.int .u8)] [.val .fr] preSca outSca)

theorem ent_long : enters Try.prog 16 Try.f16 := enters_mk (by kernel_rfl) (by kernel_rfl) (by kernel_rfl)
def lng (a b c : List Int) : Bool := decide ((a.length : Int) > 100) || (decide ((b.length : Int) > 100) || decide ((c.length : Int) > 100))
abbrev outLong : HL [.sl (.int .u8), .sl (.int .u8), .sl (.int .u8)] → HO [.val .bool] := fun (a, b, c, _) => (lng a b c, ())
theorem fn_long : FnOk Try.prog 16 [.sl (.int .u8), .sl (.int .u8), .sl (.int .u8)] [.val .bool] noG (fun _ => True) outLong := by
  refine fn_of_vc (sp := sps []) sps_nil mixed ent_long (by decide) (by decide) ?_
  rintro w M0 ⟨a, b, c, ⟨⟩⟩
  revert a b c
  intro (a : List Int) (b : List Int) (c : List Int) _ _
  refine vcx (X := ((decide ((a.length : Int) > 100) = true → (true, ()) = outLong (a, b, c, ())) ∧ (decide ((a.length : Int) > 100) = false → (decide ((b.length : Int) > 100) = true → (true, ()) = outLong (a, b, c, ())) ∧ (decide ((b.length : Int) > 100) = false → (decide ((c.length : Int) > 100), ()) = outLong (a, b, c, ()))))) (by kernel_rfl) ?_
  refine ⟨fun h => ?_, fun h => ⟨fun h2 => ?_, fun h2 => ?_⟩⟩
  all_goals show _ = (lng a b c, ())
  · simp only [lng, h, Bool.true_or]
  · simp only [lng, h, h2, Bool.true_or, Bool.or_true]
  · simp only [lng, h, h2, Bool.false_or]
noncomputable def spLong : Nat × Eng.Spec := (16, fnSpec [.sl (.int .u8), .sl (.int .u8), .sl (.int .u8)] [.val .bool] (fun _ => True) outLong)

theorem ent_head : enters Try.prog 15 Try.f15 := enters_mk (by kernel_rfl) (by kernel_rfl) (by kernel_rfl)
theorem fn_head : FnOk Try.prog 15 [] [.val .bool] noG (fun _ => True) (fun _ => (true, ())) := by
  refine fn_of_vc (sp := sps [soGen, soAdd, soOn, soTimes, soNeg, fp2.spOdd]) (sps_cons (fnSpec_ok fo_gen) (sps_cons (fnSpec_ok fo_add) (sps_cons (fnSpec_ok fo_on) (sps_cons (fnSpec_ok fo_times) (sps_cons (fnSpec_ok fo_neg) (sps_cons (fnSpec_ok fp2.fn_odd) sps_nil)))))) mixed ent_head (by decide) (by decide) ?_
  rintro w M0 ⟨⟩ _ _
  refine vcx (X := (True ∧ True ∧ True ∧ (gon gG = true → True ∧ (gon (gadd gG gG) = true → ((!eqC ((Kd.fp.pair Kd.fp).pair (Kd.fp.pair Kd.fp)) (gadd gG gG) gG) = true → ((!eqC ((Kd.fp.pair Kd.fp).pair (Kd.fp.pair Kd.fp)) (gadd gG gG) (((0 : Fp), (0 : Fp)), (0 : Fp), (0 : Fp))) = true → (0 : Nat) + (1 : Nat) ≤ (1 : Nat) ∧ preTimes (gG, List.take (1 : Nat) [(2 : Int)], ()) ∧ (eqC ((Kd.fp.pair Kd.fp).pair (Kd.fp.pair Kd.fp)) (gtms gG (List.take (1 : Nat) [(2 : Int)])) (gadd gG gG) = true → True ∧ True ∧ (eqC ((Kd.fp.pair Kd.fp).pair (Kd.fp.pair Kd.fp)) (gadd gG (gneg gG)) (((0 : Fp), (0 : Fp)), (0 : Fp), (0 : Fp)) = true → True ∧ (!if gG.fst.fst = (0 : Zm Mp) then decide (gG.fst.snd.v % (2 : Int) = (1 : Int)) else decide (gG.fst.fst.v % (2 : Int) = (1 : Int)), ()) = (true, ())) ∧ (eqC ((Kd.fp.pair Kd.fp).pair (Kd.fp.pair Kd.fp)) (gadd gG (gneg gG)) (((0 : Fp), (0 : Fp)), (0 : Fp), (0 : Fp)) = false → (false, ()) = (true, ()))) ∧ (eqC ((Kd.fp.pair Kd.fp).pair (Kd.fp.pair Kd.fp)) (gtms gG (List.take (1 : Nat) [(2 : Int)])) (gadd gG gG) = false → (false, ()) = (true, ()))) ∧ ((!eqC ((Kd.fp.pair Kd.fp).pair (Kd.fp.pair Kd.fp)) (gadd gG gG) (((0 : Fp), (0 : Fp)), (0 : Fp), (0 : Fp))) = false → (false, ()) = (true, ()))) ∧ ((!eqC ((Kd.fp.pair Kd.fp).pair (Kd.fp.pair Kd.fp)) (gadd gG gG) gG) = false → (false, ()) = (true, ()))) ∧ (gon (gadd gG gG) = false → (false, ()) = (true, ()))) ∧ (gon gG = false → (false, ()) = (true, ())))) (by kernel_rfl) ?_
  have hG := gG_on
  have e1 : gadd gG gG = padd gG gG := gadd_eq hG hG
  have oD : Onb (padd gG gG) := padd_on b4_ne hG hG
  have hb2 : Bs [2] := by intro x hx; simp at hx; subst hx; exact ⟨by decide, by decide⟩
  have n1 : padd gG gG ≠ gG := by
    intro e
    have := cancel b4_ne hG hG
    rw [e, neg_add_self] at this
    exact gG_ne this.symm
  have n2 : padd gG gG ≠ ((0, 0), 0, 0) := by
    intro e
    have := cancel b4_ne hG hG
    have e : padd gG gG = O2 := e
    rw [e, add_O] at this
    have h2 : (pneg gG).2 = gG.2 := congrArg Prod.snd this
    rw [gG_eq] at h2
    have h3 : (-gy).1 = gy.1 := congrArg Prod.fst h2
    rw [F2.neg1] at h3
    exact absurd h3 (by decide)
  have e2 : gtms gG [2] = padd gG gG := by rw [gtms_eq hG hb2]; exact nmul_two
  have e3 : gadd gG (gneg gG) = ((0, 0), 0, 0) := by rw [gneg_eq, gadd_eq hG (pneg_onP hG)]; exact add_neg_self _
  have ho : ∀ c : Bool, (if gG.1.1 = 0 then c else (fp.outOdd (gG.1.1, ())).1) = false := by
    intro c
    rw [gG_eq, if_neg (show ¬ (gx.1 = 0) by decide)]
    show (fp.outOdd (gx.1, ())).1 = false
    decide
  simp only [eqP2, e1, e3, (gon_iff _).2 hG, (gon_iff _).2 oD, n1, n2]
  have pt : preTimes (gG, [2], ()) := ⟨hb2, by show 1 < _; decide⟩
  simp [ho]
  exact ⟨pt, e2⟩
noncomputable def spHead : Nat × Eng.Spec := (15, fnSpec [] [.val .bool] (fun _ => True) (fun _ => (true, ())))
end Go.Proofs.Ytndjibcccdnfdaa.law08
/- Roots of a + b i. No program here. -/
namespace Cr
open Rg Fd
theorem q_a {F : Type} [Rg F] (a b n : F) : (a + n) * (a + n) - b * b - a * (a + n + (a + n)) = n * n - (a * a + b * b) :=
  rid [a, b, n] ((fun (a b n : PE) => ((a + n) * (a + n) - b * b - a * (a + n + (a + n)))) (.v 0) (.v 1) (.v 2)) ((fun (a b n : PE) => (n * n - (a * a + b * b))) (.v 0) (.v 1) (.v 2)) (by kernel_rfl)
theorem q_s {F : Type} [Rg F] (a b n : F) : (a - n) * (a - n) - b * b - a * (a - n + (a - n)) = n * n - (a * a + b * b) :=
  rid [a, b, n] ((fun (a b n : PE) => ((a - n) * (a - n) - b * b - a * (a - n + (a - n)))) (.v 0) (.v 1) (.v 2)) ((fun (a b n : PE) => (n * n - (a * a + b * b))) (.v 0) (.v 1) (.v 2)) (by kernel_rfl)
theorem q_1 {F : Type} [Rg F] (s b i : F) : s * i * (s * i) - b * i * (b * i) = (s * s - b * b) * (i * i) :=
  rid [s, b, i] ((fun (s b i : PE) => (s * i * (s * i) - b * i * (b * i))) (.v 0) (.v 1) (.v 2)) ((fun (s b i : PE) => ((s * s - b * b) * (i * i))) (.v 0) (.v 1) (.v 2)) (by kernel_rfl)
theorem q_2 {F : Type} [Rg F] (a t i : F) : a * (t * t) * (i * i) = a * (t * i * (t * i)) :=
  rid [a, t, i] ((fun (a t i : PE) => (a * (t * t) * (i * i))) (.v 0) (.v 1) (.v 2)) ((fun (a t i : PE) => (a * (t * i * (t * i)))) (.v 0) (.v 1) (.v 2)) (by kernel_rfl)
theorem q_3 {F : Type} [Rg F] (s b i : F) : s * i * (b * i) + b * i * (s * i) = b * (s + s) * (i * i) :=
  rid [s, b, i] ((fun (s b i : PE) => (s * i * (b * i) + b * i * (s * i))) (.v 0) (.v 1) (.v 2)) ((fun (s b i : PE) => (b * (s + s) * (i * i))) (.v 0) (.v 1) (.v 2)) (by kernel_rfl)
theorem q_4 {F : Type} [Rg F] (a n : F) : (a + n) * (a - n) = a * a - n * n :=
  rid [a, n] ((fun (a n : PE) => ((a + n) * (a - n))) (.v 0) (.v 1)) ((fun (a n : PE) => (a * a - n * n)) (.v 0) (.v 1)) (by kernel_rfl)
theorem q_5 {F : Type} [Rg F] (c d : F) : (c * c - d * d) * (c * c - d * d) + (c * d + d * c) * (c * d + d * c) = (c * c + d * d) * (c * c + d * d) :=
  rid [c, d] ((fun (c d : PE) => ((c * c - d * d) * (c * c - d * d) + (c * d + d * c) * (c * d + d * c))) (.v 0) (.v 1)) ((fun (c d : PE) => ((c * c + d * d) * (c * c + d * d))) (.v 0) (.v 1)) (by kernel_rfl)
theorem q_6 {F : Type} [Rg F] (c d : F) : c * c - d * d + (c * c + d * d) + (c * c - d * d + (c * c + d * d)) = (c + c) * (c + c) :=
  rid [c, d] ((fun (c d : PE) => (c * c - d * d + (c * c + d * d) + (c * c - d * d + (c * c + d * d)))) (.v 0) (.v 1)) ((fun (c d : PE) => ((c + c) * (c + c))) (.v 0) (.v 1)) (by kernel_rfl)
theorem q_7 {F : Type} [Rg F] (c d : F) : c * c - d * d - -(c * c + d * d) + (c * c - d * d - -(c * c + d * d)) = (c + c) * (c + c) :=
  rid [c, d] ((fun (c d : PE) => (c * c - d * d - -(c * c + d * d) + (c * c - d * d - -(c * c + d * d)))) (.v 0) (.v 1)) ((fun (c d : PE) => ((c + c) * (c + c))) (.v 0) (.v 1)) (by kernel_rfl)
theorem q_8 {F : Type} [Rg F] (d : F) : 0 * 0 - d * d = -(d * d) :=
  rid [d] ((fun (d : PE) => (0 * 0 - d * d)) (.v 0)) ((fun (d : PE) => (-(d * d))) (.v 0)) (by kernel_rfl)
theorem fin_ok {F : Type} [Fd F] {a b n s t i : F} (hb : b ≠ 0) (hn : n * n = a * a + b * b) (hs : s = a + n ∨ s = a - n) (ht : t * t = s + s) (hi : t ≠ 0 → t * i = 1) : s * i * (s * i) - b * i * (b * i) = a ∧ s * i * (b * i) + b * i * (s * i) = b := by
  have e1 : s * s - b * b = a * (s + s) := by
    refine eq_of_sub ?_
    rcases hs with rfl | rfl
    · rw [q_a, hn, sub_self]
    · rw [q_s, hn, sub_self]
  have hs0 : s ≠ 0 := by
    intro e
    rw [e, zero_mul] at e1
    have : b * b = 0 := by
      have h0 : (0 : F) - b * b = 0 := by rw [e1, add_zero, mul_zero]
      exact (eq_of_sub h0).symm
    rcases mul_eq_zero this with h | h <;> exact hb h
  have ht0 : t ≠ 0 := by
    intro e
    rw [e, zero_mul] at ht
    exact hs0 (double_eq_zero ht.symm)
  have hti := hi ht0
  constructor
  · rw [q_1, e1, ← ht, q_2, hti, mul_one, mul_one]
  · rw [q_3, ← ht, q_2, hti, mul_one, mul_one]
theorem sq_eq {F : Type} [Fd F] {a b : F} (h : a * a = b * b) : a = b ∨ a = -b := by
  have : (a + b) * (a - b) = 0 := by rw [q_4, h, sub_self]
  rcases mul_eq_zero this with h | h
  · right
    rw [← neg_neg a, neg_eq h]
  · exact .inl (eq_of_sub h)
end Cr
/- Sqrt of package fp2. -/
namespace Go.Proofs.Ytndjibcccdnfdaa.fp2
set_option maxRecDepth 100000
open Go Go.Eng Go.RowKit Cr Go.Proofs.Ytndjibcccdnfdaa Rg Fd
/-- The last step of a root: t is twice the first half, s the half of its square. -/
noncomputable def fin2 (s b t : Fp) : F2 := (s * fp.zinv t, b * fp.zinv t)
/-- What Sqrt answers. -/
noncomputable def sqrt2 (x : F2) : F2 × Bool :=
  if x.2 = 0 then (if (fp.fpSqrt x.1).2 = true then (((fp.fpSqrt x.1).1, 0), true) else ((0, (fp.fpSqrt (-x.1)).1), (fp.fpSqrt (-x.1)).2))
  else if (fp.fpSqrt (x.1 * x.1 + x.2 * x.2)).2 = true then
    (if (fp.fpSqrt (x.1 + (fp.fpSqrt (x.1 * x.1 + x.2 * x.2)).1 + (x.1 + (fp.fpSqrt (x.1 * x.1 + x.2 * x.2)).1))).2 = true then
      (fin2 (x.1 + (fp.fpSqrt (x.1 * x.1 + x.2 * x.2)).1) x.2 (fp.fpSqrt (x.1 + (fp.fpSqrt (x.1 * x.1 + x.2 * x.2)).1 + (x.1 + (fp.fpSqrt (x.1 * x.1 + x.2 * x.2)).1))).1, true)
     else (fin2 (x.1 - (fp.fpSqrt (x.1 * x.1 + x.2 * x.2)).1) x.2 (fp.fpSqrt (x.1 - (fp.fpSqrt (x.1 * x.1 + x.2 * x.2)).1 + (x.1 - (fp.fpSqrt (x.1 * x.1 + x.2 * x.2)).1))).1, (fp.fpSqrt (x.1 - (fp.fpSqrt (x.1 * x.1 + x.2 * x.2)).1 + (x.1 - (fp.fpSqrt (x.1 * x.1 + x.2 * x.2)).1))).2))
  else ((0, 0), false)
theorem ent_sqrt : enters Try.prog 78 Try.f78 := enters_mk (by kernel_rfl) (by kernel_rfl) (by kernel_rfl)
noncomputable abbrev outSqrt : HL [f2] → HO [.val f2, .val .bool] := fun (x, _) => ((sqrt2 x).1, (sqrt2 x).2, ())
theorem fn_sqrt : FnOk Try.prog 78 [f2] [.val f2, .val .bool] noG (fun _ => True) outSqrt := by
  refine fn_of_vc (sp := sps [fp.spZero, fp.spSqrt, fp.spNeg, fp.spAdd, fp.spSub, spNorm, fp.spInv, spScale]) (sps_cons (fnSpec_ok fp.fn_zero) (sps_cons (fnSpec_ok fp.fn_sqrt) (sps_cons (fnSpec_ok fp.fn_neg) (sps_cons (fnSpec_ok fp.fn_add) (sps_cons (fnSpec_ok fp.fn_sub) (sps_cons (fnSpec_ok fn_norm) (sps_cons (fnSpec_ok fp.fn_inv) (sps_cons (fnSpec_ok fn_scale) sps_nil)))))))) mixed ent_sqrt (by decide) (by decide) ?_
  rintro w M0 ⟨x, ⟨⟩⟩
  revert x
  intro (x : F2) _ _
  refine vcx (X := (True ∧ (decide (x.snd = (0 : Zm Mp)) = true → True ∧ ((fp.fpSqrt x.fst).snd = true → (((fp.fpSqrt x.fst).fst, (0 : Fp)), true, ()) = outSqrt (x, ())) ∧ ((fp.fpSqrt x.fst).snd = false → True ∧ True ∧ (((0 : Fp), (fp.fpSqrt (-x.fst)).fst), (fp.fpSqrt (-x.fst)).snd, ()) = outSqrt (x, ()))) ∧ (decide (x.snd = (0 : Zm Mp)) = false → True ∧ True ∧ ((!(fp.fpSqrt (x.fst * x.fst + x.snd * x.snd)).snd) = true → (((0 : Fp), (0 : Fp)), false, ()) = outSqrt (x, ())) ∧ ((!(fp.fpSqrt (x.fst * x.fst + x.snd * x.snd)).snd) = false → True ∧ True ∧ True ∧ ((!(fp.fpSqrt (x.fst + (fp.fpSqrt (x.fst * x.fst + x.snd * x.snd)).fst + (x.fst + (fp.fpSqrt (x.fst * x.fst + x.snd * x.snd)).fst))).snd) = true → True ∧ True ∧ True ∧ True ∧ True ∧ (((x.fst - (fp.fpSqrt (x.fst * x.fst + x.snd * x.snd)).fst) * fp.zinv (fp.fpSqrt (x.fst - (fp.fpSqrt (x.fst * x.fst + x.snd * x.snd)).fst + (x.fst - (fp.fpSqrt (x.fst * x.fst + x.snd * x.snd)).fst))).fst, x.snd * fp.zinv (fp.fpSqrt (x.fst - (fp.fpSqrt (x.fst * x.fst + x.snd * x.snd)).fst + (x.fst - (fp.fpSqrt (x.fst * x.fst + x.snd * x.snd)).fst))).fst), (fp.fpSqrt (x.fst - (fp.fpSqrt (x.fst * x.fst + x.snd * x.snd)).fst + (x.fst - (fp.fpSqrt (x.fst * x.fst + x.snd * x.snd)).fst))).snd, ()) = outSqrt (x, ())) ∧ ((!(fp.fpSqrt (x.fst + (fp.fpSqrt (x.fst * x.fst + x.snd * x.snd)).fst + (x.fst + (fp.fpSqrt (x.fst * x.fst + x.snd * x.snd)).fst))).snd) = false → True ∧ True ∧ (((x.fst + (fp.fpSqrt (x.fst * x.fst + x.snd * x.snd)).fst) * fp.zinv (fp.fpSqrt (x.fst + (fp.fpSqrt (x.fst * x.fst + x.snd * x.snd)).fst + (x.fst + (fp.fpSqrt (x.fst * x.fst + x.snd * x.snd)).fst))).fst, x.snd * fp.zinv (fp.fpSqrt (x.fst + (fp.fpSqrt (x.fst * x.fst + x.snd * x.snd)).fst + (x.fst + (fp.fpSqrt (x.fst * x.fst + x.snd * x.snd)).fst))).fst), (fp.fpSqrt (x.fst + (fp.fpSqrt (x.fst * x.fst + x.snd * x.snd)).fst + (x.fst + (fp.fpSqrt (x.fst * x.fst + x.snd * x.snd)).fst))).snd, ()) = outSqrt (x, ())))))) (by kernel_rfl) ?_
  refine ⟨trivial, fun h => ⟨trivial, fun h2 => ?_, fun h2 => ⟨trivial, trivial, ?_⟩⟩, fun h => ⟨trivial, trivial, fun h2 => ?_, fun h2 => ⟨trivial, trivial, trivial, fun h3 => ⟨trivial, trivial, trivial, trivial, trivial, ?_⟩, fun h3 => ⟨trivial, trivial, ?_⟩⟩⟩⟩
  all_goals show _ = ((sqrt2 x).1, (sqrt2 x).2, ())
  · rw [sqrt2, if_pos (of_decide_eq_true h), if_pos h2]
  · rw [sqrt2, if_pos (of_decide_eq_true h), if_neg (by rw [h2]; decide)]
  · have h2 : (fp.fpSqrt (x.1 * x.1 + x.2 * x.2)).2 = false := by simpa using h2
    rw [sqrt2, if_neg (of_decide_eq_false h), if_neg (by rw [h2]; decide)]
  · have h2 : (fp.fpSqrt (x.1 * x.1 + x.2 * x.2)).2 = true := by simpa using h2
    have h3 := (Bool.not_eq_true' _).mp h3
    rw [sqrt2, if_neg (of_decide_eq_false h), if_pos h2, if_neg (by rw [h3]; decide)]
    rfl
  · have h2 : (fp.fpSqrt (x.1 * x.1 + x.2 * x.2)).2 = true := by simpa using h2
    have h3 := (Bool.not_eq_false' _).mp h3
    rw [sqrt2, if_neg (of_decide_eq_false h), if_pos h2, if_pos h3]
    show (_, _, ()) = (fin2 _ _ _, true, ())
    rw [h3]; rfl
noncomputable def spSqrt : Nat × Eng.Spec := (78, fnSpec [f2] [.val f2, .val .bool] (fun _ => True) outSqrt)
theorem fpsqrt_ok {x : Fp} (h : (fp.fpSqrt x).2 = true) : (fp.fpSqrt x).1 * (fp.fpSqrt x).1 = x := by
  unfold fp.fpSqrt at h ⊢
  split at h
  · rename_i e; rw [if_pos e]; exact e
  · cases h
theorem zinv_mul {x : Fp} (h : x ≠ 0) : x * fp.zinv x = 1 := mul_inv (F := Fp) x h
theorem fin2_ok {a b n s t : Fp} (hb : b ≠ 0) (hn : n * n = a * a + b * b) (hs : s = a + n ∨ s = a - n) (ht : t * t = s + s) : fin2 s b t * fin2 s b t = (a, b) := by
  have h := fin_ok hb hn hs ht (i := fp.zinv t) (fun h => zinv_mul h)
  refine F2.ext ?_ ?_
  · rw [F2.mul1]; exact h.1
  · rw [F2.mul2]; exact h.2
theorem sqrt2_ok {x : F2} (h : (sqrt2 x).2 = true) : (sqrt2 x).1 * (sqrt2 x).1 = x := by
  by_cases hb : x.2 = 0
  · by_cases h1 : (fp.fpSqrt x.1).2 = true
    · rw [sqrt2, if_pos hb, if_pos h1]
      refine F2.ext ?_ ?_
      · rw [F2.mul1]
        show _ * _ - 0 * 0 = x.1
        rw [fpsqrt_ok h1, mul_zero, sub_def, neg_zero, add_zero]
      · rw [F2.mul2]
        show _ * 0 + 0 * _ = x.2
        rw [mul_zero, zero_mul, add_zero, hb]
    · rw [sqrt2, if_pos hb, if_neg h1] at h ⊢
      have h : (fp.fpSqrt (-x.1)).2 = true := h
      refine F2.ext ?_ ?_
      · rw [F2.mul1]
        show 0 * 0 - _ * _ = x.1
        rw [fpsqrt_ok h, mul_zero, sub_def, neg_neg, zero_add]
      · rw [F2.mul2]
        show 0 * _ + _ * 0 = x.2
        rw [mul_zero, zero_mul, add_zero, hb]
  · by_cases h1 : (fp.fpSqrt (x.1 * x.1 + x.2 * x.2)).2 = true
    · have hn := fpsqrt_ok h1
      rw [sqrt2, if_neg hb, if_pos h1] at h ⊢
      generalize (fp.fpSqrt (x.1 * x.1 + x.2 * x.2)).1 = n at *
      by_cases h2 : (fp.fpSqrt (x.1 + n + (x.1 + n))).2 = true
      · rw [if_pos h2]
        exact fin2_ok hb hn (.inl rfl) (fpsqrt_ok h2)
      · rw [if_neg h2] at h ⊢
        exact fin2_ok hb hn (.inr rfl) (fpsqrt_ok h)
    · rw [sqrt2, if_neg hb, if_neg h1] at h
      cases h
/-- Where there is no root, nought is told. -/
theorem fpsqrt_no {x : Fp} (h : (fp.fpSqrt x).2 = false) : (fp.fpSqrt x).1 = 0 := by
  unfold fp.fpSqrt at h ⊢
  split at h
  · cases h
  · rename_i e; rw [if_neg e]
theorem fpsqrt_zero : (fp.fpSqrt 0).2 = true := by
  unfold fp.fpSqrt
  have e : zpw (0 : Fp) fp.p14 * zpw 0 fp.p14 = 0 := by
    rw [zpw_eq]
    have : ∀ n : Nat, n ≠ 0 → zpow (0 : Fp) n = 0 := by
      intro n hn
      cases n with
      | zero => exact absurd rfl hn
      | succ n => show zpow (0 : Fp) n * 0 = 0; rw [mul_zero]
    rw [this _ (by decide), mul_zero]
  rw [if_pos e]
theorem sqrt2_no {x : F2} (h : (sqrt2 x).2 = false) : (sqrt2 x).1 = 0 ∧ x ≠ 0 := by
  by_cases hb : x.2 = 0
  · by_cases h1 : (fp.fpSqrt x.1).2 = true
    · rw [sqrt2, if_pos hb, if_pos h1] at h
      cases h
    · rw [sqrt2, if_pos hb, if_neg h1] at h ⊢
      have h : (fp.fpSqrt (-x.1)).2 = false := h
      refine ⟨?_, fun e => ?_⟩
      · rw [fpsqrt_no h]; rfl
      · have : x.1 = 0 := congrArg Prod.fst e
        rw [this] at h1
        exact h1 fpsqrt_zero
  · refine ⟨?_, fun e => hb (congrArg Prod.snd e)⟩
    by_cases h1 : (fp.fpSqrt (x.1 * x.1 + x.2 * x.2)).2 = true
    · rw [sqrt2, if_neg hb, if_pos h1] at h ⊢
      generalize (fp.fpSqrt (x.1 * x.1 + x.2 * x.2)).1 = n at *
      by_cases h2 : (fp.fpSqrt (x.1 + n + (x.1 + n))).2 = true
      · rw [if_pos h2] at h; cases h
      · rw [if_neg h2] at h ⊢
        show fin2 _ _ _ = 0
        have e : (fp.fpSqrt (x.1 - n + (x.1 - n))).1 = 0 := fpsqrt_no h
        rw [e, fin2]
        have hz : fp.zinv 0 = 0 := by
          have := mul_zero (fp.zinv (0 : Fp))
          unfold fp.zinv
          rw [zpw_eq]
          have : ∀ n : Nat, n ≠ 0 → zpow (0 : Fp) n = 0 := by
            intro n hn
            cases n with
            | zero => exact absurd rfl hn
            | succ n => show zpow (0 : Fp) n * 0 = 0; rw [mul_zero]
          exact this _ (by decide)
        rw [hz, mul_zero, mul_zero]; rfl
    · rw [sqrt2, if_neg hb, if_neg h1]; rfl
end Go.Proofs.Ytndjibcccdnfdaa.fp2
/- Three points of the curve that come to nought lie on a line. No program here. -/
namespace Cr
open Rg Fd
theorem s_tan {F : Type} [Rg F] (x y u v l : F) : (y + y) * (v - y) - (x * x + x * x + x * x) * (u - x) = (-(y + y)) * (l * (u - x) - (v - y)) + (u - x) * (l * (y + y) - (x * x + x * x + x * x)) :=
  rid [x, y, u, v, l] ((fun (x y u v l : PE) => ((y + y) * (v - y) - (x * x + x * x + x * x) * (u - x))) (.v 0) (.v 1) (.v 2) (.v 3) (.v 4)) ((fun (x y u v l : PE) => ((-(y + y)) * (l * (u - x) - (v - y)) + (u - x) * (l * (y + y) - (x * x + x * x + x * x)))) (.v 0) (.v 1) (.v 2) (.v 3) (.v 4)) (by kernel_rfl)
theorem s_y {F : Type} [Rg F] (x y u v l : F) : v - y = (-1) * (l * (u - x) - (v - y)) + l * (u - x) :=
  rid [x, y, u, v, l] ((fun (x y u v l : PE) => (v - y)) (.v 0) (.v 1) (.v 2) (.v 3) (.v 4)) ((fun (x y u v l : PE) => ((-1) * (l * (u - x) - (v - y)) + l * (u - x))) (.v 0) (.v 1) (.v 2) (.v 3) (.v 4)) (by kernel_rfl)
theorem s_three {F : Type} [Rg F] (x y l : F) : (x * x * (x * x) + x * x * (x * x) + x * x * (x * x) + (x * x * (x * x) + x * x * (x * x) + x * x * (x * x)) + (x * x * (x * x) + x * x * (x * x) + x * x * (x * x))) - (x * (y * y) + x * (y * y) + x * (y * y) + (x * (y * y) + x * (y * y) + x * (y * y)) + (x * (y * y) + x * (y * y) + x * (y * y) + (x * (y * y) + x * (y * y) + x * (y * y)))) = (-(l * (y + y) + (x * x + x * x + x * x))) * (l * (y + y) - (x * x + x * x + x * x)) + (y + y) * (y + y) * ((l * l - x - x) - x) :=
  rid [x, y, l] ((fun (x y l : PE) => ((x * x * (x * x) + x * x * (x * x) + x * x * (x * x) + (x * x * (x * x) + x * x * (x * x) + x * x * (x * x)) + (x * x * (x * x) + x * x * (x * x) + x * x * (x * x))) - (x * (y * y) + x * (y * y) + x * (y * y) + (x * (y * y) + x * (y * y) + x * (y * y)) + (x * (y * y) + x * (y * y) + x * (y * y) + (x * (y * y) + x * (y * y) + x * (y * y)))))) (.v 0) (.v 1) (.v 2)) ((fun (x y l : PE) => ((-(l * (y + y) + (x * x + x * x + x * x))) * (l * (y + y) - (x * x + x * x + x * x)) + (y + y) * (y + y) * ((l * l - x - x) - x))) (.v 0) (.v 1) (.v 2)) (by kernel_rfl)
theorem s_chord {F : Type} [Rg F] (a b c d u v l : F) : (c - a) * (v - b) - (u - a) * (d - b) = (-(c - a)) * (l * (u - a) - (v - b)) + (u - a) * (l * (c - a) - (d - b)) :=
  rid [a, b, c, d, u, v, l] ((fun (a b c d u v l : PE) => ((c - a) * (v - b) - (u - a) * (d - b))) (.v 0) (.v 1) (.v 2) (.v 3) (.v 4) (.v 5) (.v 6)) ((fun (a b c d u v l : PE) => ((-(c - a)) * (l * (u - a) - (v - b)) + (u - a) * (l * (c - a) - (d - b)))) (.v 0) (.v 1) (.v 2) (.v 3) (.v 4) (.v 5) (.v 6)) (by kernel_rfl)
theorem s_lam {F : Type} [Rg F] (a b c d l : F) : (a + c + (l * l - a - c)) * ((c - a) * (c - a)) - (d - b) * (d - b) = (l * (c - a) + (d - b)) * (l * (c - a) - (d - b)) :=
  rid [a, b, c, d, l] ((fun (a b c d l : PE) => ((a + c + (l * l - a - c)) * ((c - a) * (c - a)) - (d - b) * (d - b))) (.v 0) (.v 1) (.v 2) (.v 3) (.v 4)) ((fun (a b c d l : PE) => ((l * (c - a) + (d - b)) * (l * (c - a) - (d - b)))) (.v 0) (.v 1) (.v 2) (.v 3) (.v 4)) (by kernel_rfl)
theorem dbl3 {F : Type} [Rg F] (y : F) : (1 + 1 + 1) * (y * y) = (y + y) * (y + y) - y * y :=
  rid [y] ((fun (y : PE) => ((1 + 1 + 1) * (y * y))) (.v 0)) ((fun (y : PE) => ((y + y) * (y + y) - y * y)) (.v 0)) (by kernel_rfl)
def nine {F : Type} [Rg F] (s : F) : F := s + s + s + (s + s + s) + (s + s + s)
def twelve {F : Type} [Rg F] (t : F) : F := t + t + t + (t + t + t) + (t + t + t + (t + t + t))
variable {F : Type} [Fd F] {b : F}
theorem sides3 (hb : b ≠ 0) {P Q R : F × F} (oP : OnP b P) (oQ : OnP b Q) (hP : P ≠ O2) (hQ : Q ≠ O2) (eR : R = pneg (padd P Q)) (hR : R ≠ O2) :
    (P = Q → (R.1 ≠ P.1 → (P.2 + P.2) * (R.2 - P.2) = (P.1 * P.1 + P.1 * P.1 + P.1 * P.1) * (R.1 - P.1)) ∧ (R.1 = P.1 → R = P ∧ nine (P.1 * P.1 * (P.1 * P.1)) = twelve (P.1 * (P.2 * P.2)))) ∧
    (P ≠ Q → P.1 ≠ Q.1 ∧ (Q.1 - P.1) * (R.2 - P.2) = (R.1 - P.1) * (Q.2 - P.2) ∧ (P.1 + Q.1 + R.1) * ((Q.1 - P.1) * (Q.1 - P.1)) = (Q.2 - P.2) * (Q.2 - P.2)) := by
  have oP' : OnF b P := oP.resolve_left hP
  have oQ' : OnF b Q := oQ.resolve_left hQ
  have hn : Q ≠ pneg P := by
    intro e
    rw [eR, e, add_neg_self, pneg_O] at hR
    exact hR rfl
  obtain ⟨l, h⟩ := (ln_or oP' oQ').resolve_left hn
  have eS := padd_ln hb oP' oQ' h
  have h3 := h.third
  have e1 : R.1 = sx P.1 Q.1 l := by rw [eR, eS]; rfl
  have e2 : R.2 = -sy P.1 P.2 Q.1 l := by rw [eR, eS]; rfl
  rw [← e1, ← e2] at h3
  refine ⟨fun e => ⟨fun _ => ?_, fun ex => ?_⟩, fun e => ⟨?_, ?_, ?_⟩⟩
  · subst e
    exact lc2 _ _ (s_tan P.1 P.2 R.1 R.2 l) h3.1 h.2
  · subst e
    have ey : R.2 = P.2 := lc2 _ _ (s_y P.1 P.2 R.1 R.2 l) h3.1 ex
    refine ⟨Prod.ext ex ey, ?_⟩
    rw [e1] at ex
    exact lc2 _ _ (s_three P.1 P.2 l) h.2 ex
  · exact fun e' => x_ne oP' oQ' (fun e'' => e e''.symm) hn e'.symm
  · exact lc2 _ _ (s_chord P.1 P.2 Q.1 Q.2 R.1 R.2 l) h3.1 h.1
  · rw [e1]
    exact lc1 _ (s_lam P.1 P.2 Q.1 Q.2 l) h.1
/-- A point that is in line with two others is the third one, if one of them is nought. -/
theorem sides0 (hb : b ≠ 0) {P Q R : F × F} (oP : OnP b P) (oQ : OnP b Q) (eR : R = pneg (padd P Q)) :
    (P = O2 → Q = pneg R) ∧ (Q = O2 → P = pneg R) ∧ (R = O2 → P = pneg Q) := by
  refine ⟨fun e => ?_, fun e => ?_, fun e => ?_⟩
  · rw [eR, e, O_add, pneg_pneg]
  · rw [eR, e, add_O, pneg_pneg]
  · have h : padd P Q = O2 := by
      have := congrArg pneg (eR.symm.trans e)
      rwa [pneg_pneg, pneg_O] at this
    have := cancel' hb oP oQ
    rw [h, O_add] at this
    exact this.symm
end Cr
/- law08: wild, sides, threefold, lambda. -/
namespace Go.Proofs.Ytndjibcccdnfdaa.law08
set_option maxRecDepth 100000
open Go Go.Eng Go.RowKit Cr Go.Proofs.Ytndjibcccdnfdaa Go.Proofs.Ytndjibcccdnfdaa.fp2 Go.Proofs.Ytndjibcccdnfdaa.g2

theorem ent_wild : enters Try.prog 28 Try.f28 := enters_mk (by kernel_rfl) (by kernel_rfl) (by kernel_rfl)
abbrev preWild : HL [.int .u16] → Prop := fun (n, _) => preW n
/-- The X of a try, and its right side. -/
def x8 (k : Int) : F2 := (zm k, zm 1)
noncomputable def w8 (k : Int) : F2 := x8 k * x8 k * x8 k + b4
noncomputable def wildF : Nat → Int → F2 × F2
  | 0, _ => (0, 0)
  | m + 1, k => if (sqrt2 (w8 k)).2 = true ∧ ¬ (sqrt2 (w8 k)).1 = 0 then (x8 k, (sqrt2 (w8 k)).1) else wildF m (k + 1)
theorem wildF_succ (m : Nat) (k : Int) : wildF (m + 1) k = if (sqrt2 (w8 k)).2 = true ∧ ¬ (sqrt2 (w8 k)).1 = 0 then (x8 k, (sqrt2 (w8 k)).1) else wildF m (k + 1) := rfl
noncomputable abbrev outWild : HL [.int .u16] → HO [.val pt2] := fun (n, _) => (wildF 200 n, ())
noncomputable def wldI (n k : Int) : St := mkSt Try.f28.ntmps 32 [(0, sI .u16 n), (2, .is (.one (.ptr 0 0))), (3, sI .u64 k)] [(0, pc (0, 0))]
theorem fn_wild : FnOk Try.prog 28 [.int .u16] [.val pt2] noG preWild outWild := by
  have hsp : SpecsOk Try.prog (sps [fp2.spSmall, fp2.spSquare, fp2.spMul, fp2.spAdd, fp2.spSqrt, fp2.spZero]) := sps_cons (fnSpec_ok fp2.fn_small) (sps_cons (fnSpec_ok fp2.fn_square) (sps_cons (fnSpec_ok fp2.fn_mul) (sps_cons (fnSpec_ok fp2.fn_add) (sps_cons (fnSpec_ok fp2.fn_sqrt) (sps_cons (fnSpec_ok fp2.fn_zero) sps_nil)))))
  refine fn_of_tr (sp := sps [fp2.spSmall, fp2.spSquare, fp2.spMul, fp2.spAdd, fp2.spSqrt, fp2.spZero]) ent_wild (by decide) (by decide) (by kernel_rfl) ?_
  rintro w M0 ⟨n, ⟨⟩⟩
  revert n
  intro (n : Int) _ hn
  have hn : 0 ≤ n ∧ n < 65536 := hn
  show Tr _ _ _ _ _ _ _
  refine tr_cut hsp mixed 2 (wldI n (IntKind.u64.wrap n)) True ?_ (fun _ => ?_)
  · refine vcx (X := ((wldI n (IntKind.u64.wrap n)).triv True)) (by kernel_rfl) ?_
    exact triv_intro trivial
  rw [show IntKind.u64.wrap n = n + ((0 : Nat) : Int) by rw [wrap_u64 (by omega) (by omega)]; omega]
  refine tr_countJ hsp mixed [] (wldI n) (fun k => n + (k : Int)) (fun k => wildF 200 n = wildF (200 - k) (n + k)) 200 (fun g => IntKind.u64.wrap (g + 1)) (wldI n) (c := nthC (codeOf Try.f28) 2) (by kernel_rfl) (by kernel_rfl) (le_of_proj (by kernel_rfl) (by kernel_rfl) trivial) (by simp)
    (fun k hk _ _ => by show IntKind.u64.wrap _ = _; rw [wrap_u64 (by omega) (by omega)]; omega) ?_ ?_
  · intro k hk hj
    refine vcx (X := ((decide (n + (↑k : Int) < IntKind.u64.wrap (IntKind.u64.wrap n + (200 : Int))) = true → (U64 (n + (↑k : Int)) ∧ U64 (1 : Int)) ∧ True ∧ True ∧ (U64 (4 : Int) ∧ U64 (4 : Int)) ∧ True ∧ True ∧ ((sqrt2 ((zmp (n + (↑k : Int)), zmp (1 : Int)) * (zmp (n + (↑k : Int)), zmp (1 : Int)) * (zmp (n + (↑k : Int)), zmp (1 : Int)) + (zmp (4 : Int), zmp (4 : Int)))).snd = true → True ∧ ((!decide ((sqrt2 ((zmp (n + (↑k : Int)), zmp (1 : Int)) * (zmp (n + (↑k : Int)), zmp (1 : Int)) * (zmp (n + (↑k : Int)), zmp (1 : Int)) + (zmp (4 : Int), zmp (4 : Int)))).fst = (0 : Car Kd.fp × Car Kd.fp))) = true → (((zmp (n + (↑k : Int)), zmp (1 : Int)), (sqrt2 ((zmp (n + (↑k : Int)), zmp (1 : Int)) * (zmp (n + (↑k : Int)), zmp (1 : Int)) * (zmp (n + (↑k : Int)), zmp (1 : Int)) + (zmp (4 : Int), zmp (4 : Int)))).fst), ()) = outWild (n, ())) ∧ ((!decide ((sqrt2 ((zmp (n + (↑k : Int)), zmp (1 : Int)) * (zmp (n + (↑k : Int)), zmp (1 : Int)) * (zmp (n + (↑k : Int)), zmp (1 : Int)) + (zmp (4 : Int), zmp (4 : Int)))).fst = (0 : Car Kd.fp × Car Kd.fp))) = false → (wldI n (IntKind.u64.wrap (n + (↑k : Int) + (1 : Int)))).triv (k < (200 : Nat) ∧ wildF (200 : Nat) n = wildF ((200 : Nat) - (k + (1 : Nat))) (n + (↑(k + (1 : Nat)) : Int))))) ∧ ((sqrt2 ((zmp (n + (↑k : Int)), zmp (1 : Int)) * (zmp (n + (↑k : Int)), zmp (1 : Int)) * (zmp (n + (↑k : Int)), zmp (1 : Int)) + (zmp (4 : Int), zmp (4 : Int)))).snd = false → (wldI n (IntKind.u64.wrap (n + (↑k : Int) + (1 : Int)))).triv (k < (200 : Nat) ∧ wildF (200 : Nat) n = wildF ((200 : Nat) - (k + (1 : Nat))) (n + (↑(k + (1 : Nat)) : Int))))) ∧ (decide (n + (↑k : Int) < IntKind.u64.wrap (IntKind.u64.wrap n + (200 : Int))) = false → (wldI n (n + (↑k : Int))).triv (k = (200 : Nat))))) (by kernel_rfl) ?_
    have hw : IntKind.u64.wrap (IntKind.u64.wrap n + 200) = n + 200 := by rw [wrap_u64 (a := n) (by omega) (by omega), wrap_u64 (by omega) (by omega)]
    rw [hw]
    refine ⟨fun h => ?_, fun h => triv_intro (by have := dec_ge h; omega)⟩
    have hlt : k < 200 := by have := dec_lt h; omega
    have hs := wildF_succ (200 - (k + 1)) (n + k)
    rw [show 200 - (k + 1) + 1 = 200 - k by omega] at hs
    rw [hs] at hj
    have en : (n + (k : Int) + 1) = n + ((k + 1 : Nat) : Int) := by omega
    rw [en] at hj
    rw [show ((zmp (n + (k : Int)), zmp 1) * (zmp (n + (k : Int)), zmp 1) * (zmp (n + (k : Int)), zmp 1) + (zmp 4, zmp 4) : F2) = w8 (n + k) from rfl]
    refine ⟨⟨⟨by omega, by omega⟩, ⟨by decide, by decide⟩⟩, trivial, trivial, ⟨⟨by decide, by decide⟩, ⟨by decide, by decide⟩⟩, trivial, trivial, fun h1 => ⟨trivial, fun h2 => ?_, fun h2 => triv_intro ⟨hlt, ?_⟩⟩, fun h1 => triv_intro ⟨hlt, ?_⟩⟩
    · rw [if_pos ⟨h1, by simpa using h2⟩] at hj
      show _ = (wildF 200 n, ())
      rw [hj]
      rfl
    · rw [if_neg (by simp at h2; simp [h2])] at hj
      exact hj
    · rw [if_neg (by simp [h1])] at hj
      exact hj
  · intro hj
    refine tr_vc hsp mixed _ _ ?_
    refine vcx (X := (((((0 : Fp), (0 : Fp)), (0 : Fp), (0 : Fp)), ()) = outWild (n, ()))) (by kernel_rfl) ?_
    show _ = (wildF 200 n, ())
    rw [hj]; rfl
noncomputable def spWild : Nat × Eng.Spec := (28, fnSpec [.int .u16] [.val pt2] preWild outWild)
theorem wild_ok : ∀ m k, Onb (wildF m k) ∧ (wildF m k = O2 ∨ (wildF m k).2 ≠ 0) := by
  intro m
  induction m with
  | zero => intro k; exact ⟨.inl rfl, .inl rfl⟩
  | succ m ih =>
    intro k
    rw [wildF]
    split
    · rename_i h
      exact ⟨.inr (sqrt2_ok h.1), .inr h.2⟩
    · exact ih _

theorem ent_threefold : enters Try.prog 91 Try.f91 := enters_mk (by kernel_rfl) (by kernel_rfl) (by kernel_rfl)
noncomputable def threeF (p : F2 × F2) : Bool := decide (nine (p.1 * p.1 * (p.1 * p.1)) = twelve (p.1 * (p.2 * p.2)))
theorem fn_threefold : FnOk Try.prog 91 [pt2] [.val .bool] noG (fun _ => True) (fun (p, _) => (threeF p, ())) := by
  refine fn_of_vc (sp := sps [fp2.spSquare, fp2.spMul, fp2.spAdd]) (sps_cons (fnSpec_ok fp2.fn_square) (sps_cons (fnSpec_ok fp2.fn_mul) (sps_cons (fnSpec_ok fp2.fn_add) sps_nil))) mixed ent_threefold (by decide) (by decide) ?_
  rintro w M0 ⟨p, ⟨⟩⟩
  revert p
  intro (p : F2 × F2) _ _
  refine vcx (X := (True ∧ True ∧ True ∧ True ∧ True ∧ True ∧ True ∧ True ∧ True ∧ True ∧ True ∧ True ∧ (eqC (Kd.fp.pair Kd.fp) (p.fst * p.fst * (p.fst * p.fst) + p.fst * p.fst * (p.fst * p.fst) + p.fst * p.fst * (p.fst * p.fst) + (p.fst * p.fst * (p.fst * p.fst) + p.fst * p.fst * (p.fst * p.fst) + p.fst * p.fst * (p.fst * p.fst)) + (p.fst * p.fst * (p.fst * p.fst) + p.fst * p.fst * (p.fst * p.fst) + p.fst * p.fst * (p.fst * p.fst))) (p.fst * (p.snd * p.snd) + p.fst * (p.snd * p.snd) + p.fst * (p.snd * p.snd) + (p.fst * (p.snd * p.snd) + p.fst * (p.snd * p.snd) + p.fst * (p.snd * p.snd)) + (p.fst * (p.snd * p.snd) + p.fst * (p.snd * p.snd) + p.fst * (p.snd * p.snd) + (p.fst * (p.snd * p.snd) + p.fst * (p.snd * p.snd) + p.fst * (p.snd * p.snd)))), ()) = (threeF p, ()))) (by kernel_rfl) ?_
  simp only [eqF2, true_and]
  rfl
noncomputable def spThreefold : Nat × Eng.Spec := (91, fnSpec [pt2] [.val .bool] (fun _ => True) (fun (p, _) => (threeF p, ())))

theorem ent_lambda : enters Try.prog 92 Try.f92 := enters_mk (by kernel_rfl) (by kernel_rfl) (by kernel_rfl)
noncomputable def lamF (p q r : F2 × F2) : Bool := decide ((p.1 + q.1 + r.1) * ((q.1 - p.1) * (q.1 - p.1)) = (q.2 - p.2) * (q.2 - p.2))
theorem fn_lambda : FnOk Try.prog 92 [pt2, pt2, pt2] [.val .bool] noG (fun _ => True) (fun (p, q, r, _) => (lamF p q r, ())) := by
  refine fn_of_vc (sp := sps [fp2.spSquare, fp2.spMul, fp2.spAdd, fp2.spSub]) (sps_cons (fnSpec_ok fp2.fn_square) (sps_cons (fnSpec_ok fp2.fn_mul) (sps_cons (fnSpec_ok fp2.fn_add) (sps_cons (fnSpec_ok fp2.fn_sub) sps_nil)))) mixed ent_lambda (by decide) (by decide) ?_
  rintro w M0 ⟨p, q, r, ⟨⟩⟩
  revert p q r
  intro (p : F2 × F2) (q : F2 × F2) (r : F2 × F2) _ _
  refine vcx (X := (True ∧ True ∧ True ∧ True ∧ True ∧ True ∧ True ∧ (eqC (Kd.fp.pair Kd.fp) ((p.fst + q.fst + r.fst) * ((q.fst - p.fst) * (q.fst - p.fst))) ((q.snd - p.snd) * (q.snd - p.snd)), ()) = (lamF p q r, ()))) (by kernel_rfl) ?_
  simp only [eqF2, true_and]
  rfl
noncomputable def spLambda : Nat × Eng.Spec := (92, fnSpec [pt2, pt2, pt2] [.val .bool] (fun _ => True) (fun (p, q, r, _) => (lamF p q r, ())))

theorem ent_sides : enters Try.prog 29 Try.f29 := enters_mk (by kernel_rfl) (by kernel_rfl) (by kernel_rfl)
theorem fn_sides : FnOk Try.prog 29 [pt2, pt2, pt2] [.val .bool] noG (fun (p, q, r, _) => Onb p ∧ Onb q ∧ r = pneg (padd p q)) (fun _ => (true, ())) := by
  refine fn_of_vc (sp := sps [fp2.spSquare, fp2.spMul, fp2.spAdd, fp2.spSub, soNeg, spThreefold, spLambda]) (sps_cons (fnSpec_ok fp2.fn_square) (sps_cons (fnSpec_ok fp2.fn_mul) (sps_cons (fnSpec_ok fp2.fn_add) (sps_cons (fnSpec_ok fp2.fn_sub) (sps_cons (fnSpec_ok fo_neg) (sps_cons (fnSpec_ok fn_threefold) (sps_cons (fnSpec_ok fn_lambda) sps_nil))))))) mixed ent_sides (by decide) (by decide) ?_
  rintro w M0 ⟨p, q, r, ⟨⟩⟩
  revert p q r
  intro (p : F2 × F2) (q : F2 × F2) (r : F2 × F2) _ hp
  obtain ⟨hP, hQ, hR⟩ := hp
  refine vcx (X := ((eqC ((Kd.fp.pair Kd.fp).pair (Kd.fp.pair Kd.fp)) p (((0 : Fp), (0 : Fp)), (0 : Fp), (0 : Fp)) = true → (eqC ((Kd.fp.pair Kd.fp).pair (Kd.fp.pair Kd.fp)) p (((0 : Fp), (0 : Fp)), (0 : Fp), (0 : Fp)) = true → True ∧ (eqC ((Kd.fp.pair Kd.fp).pair (Kd.fp.pair Kd.fp)) q (gneg r) = true → (true, ()) = (true, ())) ∧ (eqC ((Kd.fp.pair Kd.fp).pair (Kd.fp.pair Kd.fp)) q (gneg r) = false → (eqC ((Kd.fp.pair Kd.fp).pair (Kd.fp.pair Kd.fp)) q (((0 : Fp), (0 : Fp)), (0 : Fp), (0 : Fp)) = true → True ∧ (eqC ((Kd.fp.pair Kd.fp).pair (Kd.fp.pair Kd.fp)) p (gneg r) = true → (true, ()) = (true, ())) ∧ (eqC ((Kd.fp.pair Kd.fp).pair (Kd.fp.pair Kd.fp)) p (gneg r) = false → (eqC ((Kd.fp.pair Kd.fp).pair (Kd.fp.pair Kd.fp)) r (((0 : Fp), (0 : Fp)), (0 : Fp), (0 : Fp)) = true → True ∧ (eqC ((Kd.fp.pair Kd.fp).pair (Kd.fp.pair Kd.fp)) p (gneg q), ()) = (true, ())) ∧ (eqC ((Kd.fp.pair Kd.fp).pair (Kd.fp.pair Kd.fp)) r (((0 : Fp), (0 : Fp)), (0 : Fp), (0 : Fp)) = false → (false, ()) = (true, ())))) ∧ (eqC ((Kd.fp.pair Kd.fp).pair (Kd.fp.pair Kd.fp)) q (((0 : Fp), (0 : Fp)), (0 : Fp), (0 : Fp)) = false → (eqC ((Kd.fp.pair Kd.fp).pair (Kd.fp.pair Kd.fp)) r (((0 : Fp), (0 : Fp)), (0 : Fp), (0 : Fp)) = true → True ∧ (eqC ((Kd.fp.pair Kd.fp).pair (Kd.fp.pair Kd.fp)) p (gneg q), ()) = (true, ())) ∧ (eqC ((Kd.fp.pair Kd.fp).pair (Kd.fp.pair Kd.fp)) r (((0 : Fp), (0 : Fp)), (0 : Fp), (0 : Fp)) = false → (false, ()) = (true, ()))))) ∧ (eqC ((Kd.fp.pair Kd.fp).pair (Kd.fp.pair Kd.fp)) p (((0 : Fp), (0 : Fp)), (0 : Fp), (0 : Fp)) = false → (eqC ((Kd.fp.pair Kd.fp).pair (Kd.fp.pair Kd.fp)) q (((0 : Fp), (0 : Fp)), (0 : Fp), (0 : Fp)) = true → True ∧ (eqC ((Kd.fp.pair Kd.fp).pair (Kd.fp.pair Kd.fp)) p (gneg r) = true → (true, ()) = (true, ())) ∧ (eqC ((Kd.fp.pair Kd.fp).pair (Kd.fp.pair Kd.fp)) p (gneg r) = false → (eqC ((Kd.fp.pair Kd.fp).pair (Kd.fp.pair Kd.fp)) r (((0 : Fp), (0 : Fp)), (0 : Fp), (0 : Fp)) = true → True ∧ (eqC ((Kd.fp.pair Kd.fp).pair (Kd.fp.pair Kd.fp)) p (gneg q), ()) = (true, ())) ∧ (eqC ((Kd.fp.pair Kd.fp).pair (Kd.fp.pair Kd.fp)) r (((0 : Fp), (0 : Fp)), (0 : Fp), (0 : Fp)) = false → (false, ()) = (true, ())))) ∧ (eqC ((Kd.fp.pair Kd.fp).pair (Kd.fp.pair Kd.fp)) q (((0 : Fp), (0 : Fp)), (0 : Fp), (0 : Fp)) = false → (eqC ((Kd.fp.pair Kd.fp).pair (Kd.fp.pair Kd.fp)) r (((0 : Fp), (0 : Fp)), (0 : Fp), (0 : Fp)) = true → True ∧ (eqC ((Kd.fp.pair Kd.fp).pair (Kd.fp.pair Kd.fp)) p (gneg q), ()) = (true, ())) ∧ (eqC ((Kd.fp.pair Kd.fp).pair (Kd.fp.pair Kd.fp)) r (((0 : Fp), (0 : Fp)), (0 : Fp), (0 : Fp)) = false → (false, ()) = (true, ()))))) ∧ (eqC ((Kd.fp.pair Kd.fp).pair (Kd.fp.pair Kd.fp)) p (((0 : Fp), (0 : Fp)), (0 : Fp), (0 : Fp)) = false → (eqC ((Kd.fp.pair Kd.fp).pair (Kd.fp.pair Kd.fp)) q (((0 : Fp), (0 : Fp)), (0 : Fp), (0 : Fp)) = true → (eqC ((Kd.fp.pair Kd.fp).pair (Kd.fp.pair Kd.fp)) p (((0 : Fp), (0 : Fp)), (0 : Fp), (0 : Fp)) = true → True ∧ (eqC ((Kd.fp.pair Kd.fp).pair (Kd.fp.pair Kd.fp)) q (gneg r) = true → (true, ()) = (true, ())) ∧ (eqC ((Kd.fp.pair Kd.fp).pair (Kd.fp.pair Kd.fp)) q (gneg r) = false → (eqC ((Kd.fp.pair Kd.fp).pair (Kd.fp.pair Kd.fp)) q (((0 : Fp), (0 : Fp)), (0 : Fp), (0 : Fp)) = true → True ∧ (eqC ((Kd.fp.pair Kd.fp).pair (Kd.fp.pair Kd.fp)) p (gneg r) = true → (true, ()) = (true, ())) ∧ (eqC ((Kd.fp.pair Kd.fp).pair (Kd.fp.pair Kd.fp)) p (gneg r) = false → (eqC ((Kd.fp.pair Kd.fp).pair (Kd.fp.pair Kd.fp)) r (((0 : Fp), (0 : Fp)), (0 : Fp), (0 : Fp)) = true → True ∧ (eqC ((Kd.fp.pair Kd.fp).pair (Kd.fp.pair Kd.fp)) p (gneg q), ()) = (true, ())) ∧ (eqC ((Kd.fp.pair Kd.fp).pair (Kd.fp.pair Kd.fp)) r (((0 : Fp), (0 : Fp)), (0 : Fp), (0 : Fp)) = false → (false, ()) = (true, ())))) ∧ (eqC ((Kd.fp.pair Kd.fp).pair (Kd.fp.pair Kd.fp)) q (((0 : Fp), (0 : Fp)), (0 : Fp), (0 : Fp)) = false → (eqC ((Kd.fp.pair Kd.fp).pair (Kd.fp.pair Kd.fp)) r (((0 : Fp), (0 : Fp)), (0 : Fp), (0 : Fp)) = true → True ∧ (eqC ((Kd.fp.pair Kd.fp).pair (Kd.fp.pair Kd.fp)) p (gneg q), ()) = (true, ())) ∧ (eqC ((Kd.fp.pair Kd.fp).pair (Kd.fp.pair Kd.fp)) r (((0 : Fp), (0 : Fp)), (0 : Fp), (0 : Fp)) = false → (false, ()) = (true, ()))))) ∧ (eqC ((Kd.fp.pair Kd.fp).pair (Kd.fp.pair Kd.fp)) p (((0 : Fp), (0 : Fp)), (0 : Fp), (0 : Fp)) = false → (eqC ((Kd.fp.pair Kd.fp).pair (Kd.fp.pair Kd.fp)) q (((0 : Fp), (0 : Fp)), (0 : Fp), (0 : Fp)) = true → True ∧ (eqC ((Kd.fp.pair Kd.fp).pair (Kd.fp.pair Kd.fp)) p (gneg r) = true → (true, ()) = (true, ())) ∧ (eqC ((Kd.fp.pair Kd.fp).pair (Kd.fp.pair Kd.fp)) p (gneg r) = false → (eqC ((Kd.fp.pair Kd.fp).pair (Kd.fp.pair Kd.fp)) r (((0 : Fp), (0 : Fp)), (0 : Fp), (0 : Fp)) = true → True ∧ (eqC ((Kd.fp.pair Kd.fp).pair (Kd.fp.pair Kd.fp)) p (gneg q), ()) = (true, ())) ∧ (eqC ((Kd.fp.pair Kd.fp).pair (Kd.fp.pair Kd.fp)) r (((0 : Fp), (0 : Fp)), (0 : Fp), (0 : Fp)) = false → (false, ()) = (true, ())))) ∧ (eqC ((Kd.fp.pair Kd.fp).pair (Kd.fp.pair Kd.fp)) q (((0 : Fp), (0 : Fp)), (0 : Fp), (0 : Fp)) = false → (eqC ((Kd.fp.pair Kd.fp).pair (Kd.fp.pair Kd.fp)) r (((0 : Fp), (0 : Fp)), (0 : Fp), (0 : Fp)) = true → True ∧ (eqC ((Kd.fp.pair Kd.fp).pair (Kd.fp.pair Kd.fp)) p (gneg q), ()) = (true, ())) ∧ (eqC ((Kd.fp.pair Kd.fp).pair (Kd.fp.pair Kd.fp)) r (((0 : Fp), (0 : Fp)), (0 : Fp), (0 : Fp)) = false → (false, ()) = (true, ()))))) ∧ (eqC ((Kd.fp.pair Kd.fp).pair (Kd.fp.pair Kd.fp)) q (((0 : Fp), (0 : Fp)), (0 : Fp), (0 : Fp)) = false → (eqC ((Kd.fp.pair Kd.fp).pair (Kd.fp.pair Kd.fp)) r (((0 : Fp), (0 : Fp)), (0 : Fp), (0 : Fp)) = true → (eqC ((Kd.fp.pair Kd.fp).pair (Kd.fp.pair Kd.fp)) p (((0 : Fp), (0 : Fp)), (0 : Fp), (0 : Fp)) = true → True ∧ (eqC ((Kd.fp.pair Kd.fp).pair (Kd.fp.pair Kd.fp)) q (gneg r) = true → (true, ()) = (true, ())) ∧ (eqC ((Kd.fp.pair Kd.fp).pair (Kd.fp.pair Kd.fp)) q (gneg r) = false → (eqC ((Kd.fp.pair Kd.fp).pair (Kd.fp.pair Kd.fp)) q (((0 : Fp), (0 : Fp)), (0 : Fp), (0 : Fp)) = true → True ∧ (eqC ((Kd.fp.pair Kd.fp).pair (Kd.fp.pair Kd.fp)) p (gneg r) = true → (true, ()) = (true, ())) ∧ (eqC ((Kd.fp.pair Kd.fp).pair (Kd.fp.pair Kd.fp)) p (gneg r) = false → (eqC ((Kd.fp.pair Kd.fp).pair (Kd.fp.pair Kd.fp)) r (((0 : Fp), (0 : Fp)), (0 : Fp), (0 : Fp)) = true → True ∧ (eqC ((Kd.fp.pair Kd.fp).pair (Kd.fp.pair Kd.fp)) p (gneg q), ()) = (true, ())) ∧ (eqC ((Kd.fp.pair Kd.fp).pair (Kd.fp.pair Kd.fp)) r (((0 : Fp), (0 : Fp)), (0 : Fp), (0 : Fp)) = false → (false, ()) = (true, ())))) ∧ (eqC ((Kd.fp.pair Kd.fp).pair (Kd.fp.pair Kd.fp)) q (((0 : Fp), (0 : Fp)), (0 : Fp), (0 : Fp)) = false → (eqC ((Kd.fp.pair Kd.fp).pair (Kd.fp.pair Kd.fp)) r (((0 : Fp), (0 : Fp)), (0 : Fp), (0 : Fp)) = true → True ∧ (eqC ((Kd.fp.pair Kd.fp).pair (Kd.fp.pair Kd.fp)) p (gneg q), ()) = (true, ())) ∧ (eqC ((Kd.fp.pair Kd.fp).pair (Kd.fp.pair Kd.fp)) r (((0 : Fp), (0 : Fp)), (0 : Fp), (0 : Fp)) = false → (false, ()) = (true, ()))))) ∧ (eqC ((Kd.fp.pair Kd.fp).pair (Kd.fp.pair Kd.fp)) p (((0 : Fp), (0 : Fp)), (0 : Fp), (0 : Fp)) = false → (eqC ((Kd.fp.pair Kd.fp).pair (Kd.fp.pair Kd.fp)) q (((0 : Fp), (0 : Fp)), (0 : Fp), (0 : Fp)) = true → True ∧ (eqC ((Kd.fp.pair Kd.fp).pair (Kd.fp.pair Kd.fp)) p (gneg r) = true → (true, ()) = (true, ())) ∧ (eqC ((Kd.fp.pair Kd.fp).pair (Kd.fp.pair Kd.fp)) p (gneg r) = false → (eqC ((Kd.fp.pair Kd.fp).pair (Kd.fp.pair Kd.fp)) r (((0 : Fp), (0 : Fp)), (0 : Fp), (0 : Fp)) = true → True ∧ (eqC ((Kd.fp.pair Kd.fp).pair (Kd.fp.pair Kd.fp)) p (gneg q), ()) = (true, ())) ∧ (eqC ((Kd.fp.pair Kd.fp).pair (Kd.fp.pair Kd.fp)) r (((0 : Fp), (0 : Fp)), (0 : Fp), (0 : Fp)) = false → (false, ()) = (true, ())))) ∧ (eqC ((Kd.fp.pair Kd.fp).pair (Kd.fp.pair Kd.fp)) q (((0 : Fp), (0 : Fp)), (0 : Fp), (0 : Fp)) = false → (eqC ((Kd.fp.pair Kd.fp).pair (Kd.fp.pair Kd.fp)) r (((0 : Fp), (0 : Fp)), (0 : Fp), (0 : Fp)) = true → True ∧ (eqC ((Kd.fp.pair Kd.fp).pair (Kd.fp.pair Kd.fp)) p (gneg q), ()) = (true, ())) ∧ (eqC ((Kd.fp.pair Kd.fp).pair (Kd.fp.pair Kd.fp)) r (((0 : Fp), (0 : Fp)), (0 : Fp), (0 : Fp)) = false → (false, ()) = (true, ()))))) ∧ (eqC ((Kd.fp.pair Kd.fp).pair (Kd.fp.pair Kd.fp)) r (((0 : Fp), (0 : Fp)), (0 : Fp), (0 : Fp)) = false → (eqC ((Kd.fp.pair Kd.fp).pair (Kd.fp.pair Kd.fp)) p q = true → True ∧ ((!eqC (Kd.fp.pair Kd.fp) r.fst p.fst) = true → True ∧ True ∧ True ∧ True ∧ True ∧ True ∧ True ∧ (eqC (Kd.fp.pair Kd.fp) ((p.snd + p.snd) * (r.snd - p.snd)) ((p.fst * p.fst + p.fst * p.fst + p.fst * p.fst) * (r.fst - p.fst)) = true → (true, ()) = (true, ())) ∧ (eqC (Kd.fp.pair Kd.fp) ((p.snd + p.snd) * (r.snd - p.snd)) ((p.fst * p.fst + p.fst * p.fst + p.fst * p.fst) * (r.fst - p.fst)) = false → (eqC (Kd.fp.pair Kd.fp) r.fst p.fst = true → (eqC ((Kd.fp.pair Kd.fp).pair (Kd.fp.pair Kd.fp)) r p = true → True ∧ (threeF p, ()) = (true, ())) ∧ (eqC ((Kd.fp.pair Kd.fp).pair (Kd.fp.pair Kd.fp)) r p = false → (false, ()) = (true, ()))) ∧ (eqC (Kd.fp.pair Kd.fp) r.fst p.fst = false → (false, ()) = (true, ())))) ∧ ((!eqC (Kd.fp.pair Kd.fp) r.fst p.fst) = false → (eqC (Kd.fp.pair Kd.fp) r.fst p.fst = true → (eqC ((Kd.fp.pair Kd.fp).pair (Kd.fp.pair Kd.fp)) r p = true → True ∧ (threeF p, ()) = (true, ())) ∧ (eqC ((Kd.fp.pair Kd.fp).pair (Kd.fp.pair Kd.fp)) r p = false → (false, ()) = (true, ()))) ∧ (eqC (Kd.fp.pair Kd.fp) r.fst p.fst = false → (false, ()) = (true, ())))) ∧ (eqC ((Kd.fp.pair Kd.fp).pair (Kd.fp.pair Kd.fp)) p q = false → (eqC (Kd.fp.pair Kd.fp) p.fst q.fst = true → (false, ()) = (true, ())) ∧ (eqC (Kd.fp.pair Kd.fp) p.fst q.fst = false → True ∧ True ∧ True ∧ True ∧ True ∧ True ∧ (eqC (Kd.fp.pair Kd.fp) ((q.fst - p.fst) * (r.snd - p.snd)) ((r.fst - p.fst) * (q.snd - p.snd)) = true → True ∧ (lamF p q r, ()) = (true, ())) ∧ (eqC (Kd.fp.pair Kd.fp) ((q.fst - p.fst) * (r.snd - p.snd)) ((r.fst - p.fst) * (q.snd - p.snd)) = false → (false, ()) = (true, ()))))))))) (by kernel_rfl) ?_
  have h0 := sides0 b4_ne hP hQ hR
  have h3 := fun a b => sides3 b4_ne hP hQ a b hR
  simp only [eqP2, eqF2, gneg_eq]
  by_cases h1 : p = ((0, 0), 0, 0)
  · have e := h0.1 h1
    simp [h1, ← e]
  by_cases h2 : q = ((0, 0), 0, 0)
  · have e := h0.2.1 h2
    simp [h1, h2, ← e]
  by_cases h4 : r = ((0, 0), 0, 0)
  · have e := h0.2.2 h4
    simp [h1, h2, h4, ← e]
  have h3 := h3 h1 h2 h4
  by_cases h5 : p = q
  · obtain ⟨g1, g2⟩ := h3.1 h5
    subst h5
    by_cases h6 : r.1 = p.1
    · obtain ⟨g3, g4⟩ := g2 h6
      simp [h1, g3, g4, threeF]
    · have g1 := g1 h6
      simp [h1, h4, h6, g1]
  · obtain ⟨g1, g2, g3⟩ := h3.2 h5
    simp [h1, h2, h4, h5, g1, g2, g3, lamF]
noncomputable def spSides : Nat × Eng.Spec := (29, fnSpec [pt2, pt2, pt2] [.val .bool] (fun (p, q, r, _) => Onb p ∧ Onb q ∧ r = pneg (padd p q)) (fun _ => (true, ())))
end Go.Proofs.Ytndjibcccdnfdaa.law08
/- G2Adds: the walk. -/
namespace Go.Proofs.Ytndjibcccdnfdaa.law08
set_option maxRecDepth 100000
open Go Go.Eng Go.RowKit Cr Go.Proofs.Ytndjibcccdnfdaa Go.Proofs.Ytndjibcccdnfdaa.fp2 Go.Proofs.Ytndjibcccdnfdaa.g2
theorem ent_adds : enters Try.prog 4 Try.f4 := enters_mk (by kernel_rfl) (by kernel_rfl) (by kernel_rfl)
abbrev preAdds : HL [bsl, bsl, .int .u16, .int .u16, .int .i64] → Prop := fun (a, b, n, m, how, _) => preB a ∧ preB b ∧ preW n ∧ preW m ∧ preI how
noncomputable def addsC (g : (F2 × F2) × (F2 × F2)) : St := mkSt Try.f4.ntmps 160 [(11, .is (.one (.ptr 80 0))), (12, .is (.one (.ptr 128 0)))] [(80, pc g.1), (128, pc g.2)]
theorem fn_adds : FnOk Try.prog 4 [bsl, bsl, .int .u16, .int .u16, .int .i64] [.val .bool] noG preAdds (fun _ => (true, ())) := by
  have hsp : SpecsOk Try.prog (sps [spHead, spLong, soGen, spScalar, soMul, soAdd, soNeg, soOn, soSum, spWild, spSides]) := sps_cons (fnSpec_ok fn_head) (sps_cons (fnSpec_ok fn_long) (sps_cons (fnSpec_ok fo_gen) (sps_cons (fnSpec_ok fn_scalar) (sps_cons (fnSpec_ok fo_mul) (sps_cons (fnSpec_ok fo_add) (sps_cons (fnSpec_ok fo_neg) (sps_cons (fnSpec_ok fo_on) (sps_cons (fnSpec_ok fo_sum) (sps_cons (fnSpec_ok fn_wild) (sps_cons (fnSpec_ok fn_sides) sps_nil))))))))))
  refine fn_of_tr (sp := sps [spHead, spLong, soGen, spScalar, soMul, soAdd, soNeg, soOn, soSum, spWild, spSides]) ent_adds (by decide) (by decide) (by kernel_rfl) ?_
  rintro w M0 ⟨a, b, n, m, how, ⟨⟩⟩
  revert a b n m how
  intro (a : List Int) (b : List Int) (n : Int) (m : Int) (how : Int) _ hp
  obtain ⟨h1, h2, h3, h4, h5⟩ := hp
  show Tr _ _ _ _ _ _ _
  refine tr_cutF hsp mixed 9 (fun σ => (rdB pt2 80 σ, rdB pt2 128 σ)) addsC (fun g => Onb g.1 ∧ Onb g.2) ?_ ?_
  · refine vcx (X := (True ∧ ((!true) = true → (false, ()) = (true, ())) ∧ ((!true) = false → True ∧ (lng a b [] = true → (true, ()) = (true, ())) ∧ (lng a b [] = false → True ∧ preSca (a, ()) ∧ True ∧ True ∧ preSca (b, ()) ∧ True ∧ ((bitOp BinOp.and IntKind.i64 how (7 : Int) == (1 : Int)) = true → (addsC (gmul gG (sca a), gmul gG (sca a))).triv (Onb (gmul gG (sca a), gmul gG (sca a)).fst ∧ Onb (gmul gG (sca a), gmul gG (sca a)).snd)) ∧ ((bitOp BinOp.and IntKind.i64 how (7 : Int) == (1 : Int)) = false → ((bitOp BinOp.and IntKind.i64 how (7 : Int) == (2 : Int)) = true → True ∧ (addsC (gmul gG (sca a), gneg (gmul gG (sca a)))).triv (Onb (gmul gG (sca a), gneg (gmul gG (sca a))).fst ∧ Onb (gmul gG (sca a), gneg (gmul gG (sca a))).snd)) ∧ ((bitOp BinOp.and IntKind.i64 how (7 : Int) == (2 : Int)) = false → ((bitOp BinOp.and IntKind.i64 how (7 : Int) == (3 : Int)) = true → preWild (n, ()) ∧ (addsC (wildF (200 : Nat) n, gmul gG (sca b))).triv (Onb (wildF (200 : Nat) n, gmul gG (sca b)).fst ∧ Onb (wildF (200 : Nat) n, gmul gG (sca b)).snd)) ∧ ((bitOp BinOp.and IntKind.i64 how (7 : Int) == (3 : Int)) = false → ((bitOp BinOp.and IntKind.i64 how (7 : Int) == (4 : Int)) = true → preWild (n, ()) ∧ preWild (m, ()) ∧ (addsC (wildF (200 : Nat) n, wildF (200 : Nat) m)).triv (Onb (wildF (200 : Nat) n, wildF (200 : Nat) m).fst ∧ Onb (wildF (200 : Nat) n, wildF (200 : Nat) m).snd)) ∧ ((bitOp BinOp.and IntKind.i64 how (7 : Int) == (4 : Int)) = false → ((bitOp BinOp.and IntKind.i64 how (7 : Int) == (5 : Int)) = true → (addsC ((((0 : Fp), (0 : Fp)), (0 : Fp), (0 : Fp)), gmul gG (sca b))).triv (Onb ((((0 : Fp), (0 : Fp)), (0 : Fp), (0 : Fp)), gmul gG (sca b)).fst ∧ Onb ((((0 : Fp), (0 : Fp)), (0 : Fp), (0 : Fp)), gmul gG (sca b)).snd)) ∧ ((bitOp BinOp.and IntKind.i64 how (7 : Int) == (5 : Int)) = false → (addsC (gmul gG (sca a), gmul gG (sca b))).triv (Onb (gmul gG (sca a), gmul gG (sca b)).fst ∧ Onb (gmul gG (sca a), gmul gG (sca b)).snd)))))))))) (by kernel_rfl) ?_
    have oa := gmul_on gG_on (sca a)
    have ob := gmul_on gG_on (sca b)
    refine ⟨trivial, fun h => absurd h (by decide), fun _ => ⟨trivial, fun _ => rfl, fun _ => ⟨trivial, h1, trivial, trivial, h2, trivial, ?_⟩⟩⟩
    refine ⟨fun _ => triv_intro ⟨oa, oa⟩, fun _ => ⟨fun _ => ⟨trivial, triv_intro ⟨oa, ?_⟩⟩, fun _ => ⟨fun _ => ⟨h3, triv_intro ⟨(wild_ok _ _).1, ob⟩⟩, fun _ => ⟨fun _ => ⟨h3, h4, triv_intro ⟨(wild_ok _ _).1, (wild_ok _ _).1⟩⟩, fun _ => ⟨fun _ => triv_intro ⟨.inl rfl, ob⟩, fun _ => triv_intro ⟨oa, ob⟩⟩⟩⟩⟩⟩
    show Onb (gneg _)
    rw [gneg_eq]; exact pneg_onP oa
  rintro ⟨p, q⟩ ⟨hp, hq⟩
  have hp : Onb p := hp
  have hq : Onb q := hq
  refine tr_vc hsp mixed _ _ ?_
  refine vcx (X := (True ∧ True ∧ (gon p = true → True ∧ (gon q = true → True ∧ (gon (gadd p q) = true → True ∧ True ∧ (gon (gneg (gadd p q)) = true → True ∧ (Onb p ∧ Onb q ∧ gneg (gadd p q) = pneg (padd p q)) ∧ (true = true → True ∧ (eqC ((Kd.fp.pair Kd.fp).pair (Kd.fp.pair Kd.fp)) (gadd p q) (gadd q p) = true → (0 : Nat) + (2 : Nat) ≤ (2 : Nat) ∧ preSum (List.take (2 : Nat) [p, q], ()) ∧ (eqC ((Kd.fp.pair Kd.fp).pair (Kd.fp.pair Kd.fp)) (gsum (List.take (2 : Nat) [p, q])) (gadd p q), ()) = (true, ())) ∧ (eqC ((Kd.fp.pair Kd.fp).pair (Kd.fp.pair Kd.fp)) (gadd p q) (gadd q p) = false → (false, ()) = (true, ()))) ∧ (true = false → (false, ()) = (true, ()))) ∧ (gon (gneg (gadd p q)) = false → (false, ()) = (true, ()))) ∧ (gon (gadd p q) = false → (false, ()) = (true, ()))) ∧ (gon q = false → (false, ()) = (true, ()))) ∧ (gon p = false → (false, ()) = (true, ())))) (by kernel_rfl) ?_
  have e1 := gadd_eq hp hq
  have e2 := gadd_eq hq hp
  have o1 := padd_on b4_ne hp hq
  have e3 : gsum [p, q] = padd p q := by
    rw [gsum_eq (by intro x hx; simp at hx; rcases hx with rfl | rfl <;> assumption)]
    show padd p (padd q O2) = _
    rw [add_O]
  have g1 := (gon_iff p).2 hp
  have g2 := (gon_iff q).2 hq
  have g3 := (gon_iff _).2 o1
  have g4 := (gon_iff _).2 (pneg_onP o1)
  show _ ∧ _ ∧ _ ∧ _
  simp only [eqP2, e1, e2, gneg_eq, g1, g2, g3, g4, padd_comm b4_ne hq hp]
  rw [show List.take 2 [p, q] = [p, q] from rfl, e3]
  simp [preSum, hp, hq]
end Go.Proofs.Ytndjibcccdnfdaa.law08
namespace Go.Proofs.Ytndjibcccdnfdaa
set_option maxRecDepth 100000
open Go Go.Eng Go.RowKit Cr Go.ChangeShapes Go.WideShapes Go.ChangeAt

namespace g2Adds
theorem own : ownKnob Try.prog.godebug = none := by kernel_rfl
theorem laidOut : laidOutB Try.prog = true := by kernel_rfl
abbrev wtB : Car bsl → Prop := fun ys => List.length ys * Try.prog.bytesOf 5 ≤ reachBytes ∧ ∀ y ∈ ys, (Lit.int .u8 y).wf = true
theorem oB : OpnV Try.prog 22 bsl wtB := opnV_slice (e := 5) (by kernel_rfl) (by kernel_rfl) (by decide) (opnC_int (by kernel_rfl))
theorem bytes5 : Try.prog.bytesOf 5 = 1 := by kernel_rfl
theorem pB {xs : List Int} (h : wtB xs) : preB xs := by
  obtain ⟨h1, h2⟩ := h
  rw [bytes5] at h1
  refine ⟨fun x hx => ?_, ?_⟩
  · have := h2 x hx
    simp [Lit.wf, IntKind.min, IntKind.max, IntKind.signed, IntKind.bits] at this
    omega
  · show List.length xs ≤ _
    simp only [reachBytes] at h1
    omega
abbrev wtW : Car (.int .u16) → Prop := fun x => (Lit.int .u16 x).wf = true
theorem oW : OpnV Try.prog 43 (.int .u16) wtW := opnV_int (by kernel_rfl)
theorem pW {x : Int} (h : wtW x) : preW x := by
  have : (Lit.int .u16 x).wf = true := h
  simp [Lit.wf, IntKind.min, IntKind.max, IntKind.signed, IntKind.bits] at this
  exact ⟨by omega, by omega⟩
abbrev wtI : Car (.int .i64) → Prop := fun x => (Lit.int .i64 x).wf = true
theorem oI : OpnV Try.prog 3 (.int .i64) wtI := opnV_int (by kernel_rfl)
theorem pI {x : Int} (h : wtI x) : preI x := by
  have : (Lit.int .i64 x).wf = true := h
  simp [Lit.wf, IntKind.min, IntKind.max, IntKind.signed, IntKind.bits] at this
  exact ⟨by omega, by omega⟩
theorem opened : OpnL Try.prog [22, 22, 43, 43, 3] [bsl, bsl, .int .u16, .int .u16, .int .i64] (fun x => wtB x.1 ∧ wtB x.2.1 ∧ wtW x.2.2.1 ∧ wtW x.2.2.2.1 ∧ wtI x.2.2.2.2.1 ∧ True) :=
  .cons oB (by kernel_rfl) (of_decide_eq_true (by kernel_rfl)) (.cons oB (by kernel_rfl) (of_decide_eq_true (by kernel_rfl)) (.cons oW (by kernel_rfl) (of_decide_eq_true (by kernel_rfl)) (.cons oW (by kernel_rfl) (of_decide_eq_true (by kernel_rfl)) (.cons oI (by kernel_rfl) (of_decide_eq_true (by kernel_rfl)) .nil))))
theorem lifted (os : Os) (started : os.Started) (H : Type) (enc : TypeId × Value → H) :
    ReturnsInHanded {} Try.checked os 4 .any (Rows.g2AddsSpec.pre6 enc Try.prog Try.f4 Rows.g2AddsRow.domain false) (Rows.g2AddsSpec.post enc Try.prog Try.f4 false true false false) := by
  refine returnsInHanded_of_change_sized (C := Try.checked) own started (by kernel_rfl) Try.func4
    (ChangeSpec.witness6 (enc := enc) (C := Try.checked) false ⟨#[], #[.slice none 0 0, .slice none 0 0, .int .u16 0, .int .u16 0, .int .i64 0], []⟩ 8 (by kernel_rfl) (by kernel_rfl) (by kernel_rfl) (by kernel_rfl)) ?_
  intro W base args ds gs before hval hW _ hsz _
  refine law_row (C := Try.checked) (bt := 4) (ts := [22, 22, 43, 43, 3]) law08.ent_adds law08.fn_adds laidOut (by kernel_rfl) (by kernel_rfl) (by kernel_rfl) opened ?_ rfl ?_ W base args ds gs before hval hW hsz
  · rintro ⟨x0, x1, x2, x3, x4, ⟨⟩⟩ ⟨h0, h1, h2, h3, h4, _⟩
    exact ⟨pB h0, pB h1, pW h2, pW h3, pI h4⟩
  · intro ds hl
    match ds, hl with
    | [d0, d1, d2, d3, d4], _ => rfl

theorem proved : Rows.G2AddsSaid :=
  OpenClaim.holds_of_wide 4 Try.f4 rfl rfl rfl rfl rfl rfl rfl ⟨rfl, rfl, rfl, rfl, rfl⟩ rfl rfl rfl rfl rfl (by kernel_rfl) Try.func4 (by kernel_rfl)
    (of_decide_eq_true (by kernel_rfl)) (by unfold Func.isWrapper; first | (rw [if_pos (by decide +kernel)]; kernel_rfl) | (rw [if_neg (by decide +kernel)]; exact ⟨rfl, rfl⟩))
    (fun os started H enc _ => lifted os started H enc)
#print axioms proved
end g2Adds
end Go.Proofs.Ytndjibcccdnfdaa
