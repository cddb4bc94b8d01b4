/- g1: In. -/
import Derived.Test.YtlhgcbmanifpiaaML09oPQ
/- Contracts of package fp2. -/
namespace Go.Proofs.Ytlhgcbmanifpiaa.fp2
set_option maxRecDepth 100000
open Go Go.Eng Go.RowKit Cr Go.Proofs.Ytlhgcbmanifpiaa
abbrev f2 : Kd := .pair .fp .fp
theorem eqF2 (a b : F2) : eqC (.pair .fp .fp) a b = decide (a = b) := by
  have h := eqC_iff (e := .pair .fp .fp) a b
  rw [Bool.eq_iff_iff, h, decide_eq_true_iff]

theorem ent_small : enters Try.prog 41 Try.f41 := enters_mk (by kernel_rfl) (by kernel_rfl) (by kernel_rfl)
noncomputable abbrev outSmall : HL [.int .u64, .int .u64] → HO [.val f2] := fun (a, b, _) => ((zm a, zm b), ())
theorem fn_small : FnOk Try.prog 41 [.int .u64, .int .u64] [.val f2] noG (fun (a, b, _) => U64 a ∧ U64 b) outSmall := by
  refine fn_of_vc (sp := sps [fp.spOf]) (sps_cons (fnSpec_ok fp.fn_of) sps_nil) mixed ent_small (by decide) (by decide) ?_
  rintro w M0 ⟨a, b, ⟨⟩⟩
  revert a b
  intro (a : Int) (b : Int) _ hp
  refine vcx (X := (U64 a ∧ U64 b ∧ ((zmp a, zmp b), ()) = outSmall (a, b, ()))) (by kernel_rfl) ?_
  exact ⟨hp.1, hp.2, rfl⟩
noncomputable def spSmall : Nat × Eng.Spec := (41, fnSpec [.int .u64, .int .u64] [.val f2] (fun (a, b, _) => U64 a ∧ U64 b) outSmall)

theorem ent_zero : enters Try.prog 164 Try.f164 := enters_mk (by kernel_rfl) (by kernel_rfl) (by kernel_rfl)
noncomputable abbrev outZero : HL [f2] → HO [.val .bool] := fun (x, _) => (decide ((x : F2) = 0), ())
theorem fn_zero : FnOk Try.prog 164 [f2] [.val .bool] noG (fun _ => True) outZero := by
  refine fn_of_vc (sp := sps []) sps_nil mixed ent_zero (by decide) (by decide) ?_
  rintro w M0 ⟨x, ⟨⟩⟩
  revert x
  intro (x : F2) _ _
  refine vcx (X := ((eqC (Kd.fp.pair Kd.fp) x ((0 : Fp), (0 : Fp)), ()) = outZero (x, ()))) (by kernel_rfl) ?_
  rw [eqF2]; rfl
noncomputable def spZero : Nat × Eng.Spec := (164, fnSpec [f2] [.val .bool] (fun _ => True) outZero)

theorem ent_add : enters Try.prog 40 Try.f40 := enters_mk (by kernel_rfl) (by kernel_rfl) (by kernel_rfl)
noncomputable abbrev outAdd : HL [f2, f2] → HO [.val f2] := fun (x, y, _) => ((x : F2) + y, ())
theorem fn_add : FnOk Try.prog 40 [f2, f2] [.val f2] noG (fun _ => True) outAdd := by
  refine fn_of_vc (sp := sps [fp.spAdd]) (sps_cons (fnSpec_ok fp.fn_add) sps_nil) mixed ent_add (by decide) (by decide) ?_
  rintro w M0 ⟨x, y, ⟨⟩⟩
  revert x y
  intro (x : F2) (y : F2) _ _
  refine vcx (X := (True ∧ True ∧ ((x.fst + y.fst, x.snd + y.snd), ()) = outAdd (x, y, ()))) (by kernel_rfl) ?_
  exact ⟨trivial, trivial, by show _ = ((x : F2) + y, ()); rw [F2.add_def]⟩
noncomputable def spAdd : Nat × Eng.Spec := (40, fnSpec [f2, f2] [.val f2] (fun _ => True) outAdd)

theorem ent_sub : enters Try.prog 165 Try.f165 := enters_mk (by kernel_rfl) (by kernel_rfl) (by kernel_rfl)
noncomputable abbrev outSub : HL [f2, f2] → HO [.val f2] := fun (x, y, _) => ((x : F2) - y, ())
theorem fn_sub : FnOk Try.prog 165 [f2, f2] [.val f2] noG (fun _ => True) outSub := by
  refine fn_of_vc (sp := sps [fp.spSub]) (sps_cons (fnSpec_ok fp.fn_sub) sps_nil) mixed ent_sub (by decide) (by decide) ?_
  rintro w M0 ⟨x, y, ⟨⟩⟩
  revert x y
  intro (x : F2) (y : F2) _ _
  refine vcx (X := (True ∧ True ∧ ((x.fst - y.fst, x.snd - y.snd), ()) = outSub (x, y, ()))) (by kernel_rfl) ?_
  exact ⟨trivial, trivial, by show _ = ((x : F2) - y, ()); rw [F2.sub_def]⟩
noncomputable def spSub : Nat × Eng.Spec := (165, fnSpec [f2, f2] [.val f2] (fun _ => True) outSub)

theorem ent_neg : enters Try.prog 45 Try.f45 := enters_mk (by kernel_rfl) (by kernel_rfl) (by kernel_rfl)
noncomputable abbrev outNeg : HL [f2] → HO [.val f2] := fun (x, _) => (-(x : F2), ())
theorem fn_neg : FnOk Try.prog 45 [f2] [.val f2] noG (fun _ => True) outNeg := by
  refine fn_of_vc (sp := sps [fp.spNeg]) (sps_cons (fnSpec_ok fp.fn_neg) sps_nil) mixed ent_neg (by decide) (by decide) ?_
  rintro w M0 ⟨x, ⟨⟩⟩
  revert x
  intro (x : F2) _ _
  refine vcx (X := (True ∧ True ∧ ((-x.fst, -x.snd), ()) = outNeg (x, ()))) (by kernel_rfl) ?_
  exact ⟨trivial, trivial, by show _ = (-(x : F2), ()); rw [F2.neg_def]⟩
noncomputable def spNeg : Nat × Eng.Spec := (45, fnSpec [f2] [.val f2] (fun _ => True) outNeg)

theorem ent_mul : enters Try.prog 39 Try.f39 := enters_mk (by kernel_rfl) (by kernel_rfl) (by kernel_rfl)
noncomputable abbrev outMul : HL [f2, f2] → HO [.val f2] := fun (x, y, _) => ((x : F2) * y, ())
theorem fn_mul : FnOk Try.prog 39 [f2, f2] [.val f2] noG (fun _ => True) outMul := by
  refine fn_of_vc (sp := sps [fp.spAdd, fp.spSub, fp.spMul]) (sps_cons (fnSpec_ok fp.fn_add) (sps_cons (fnSpec_ok fp.fn_sub) (sps_cons (fnSpec_ok fp.fn_mul) sps_nil))) mixed ent_mul (by decide) (by decide) ?_
  rintro w M0 ⟨x, y, ⟨⟩⟩
  revert x y
  intro (x : F2) (y : F2) _ _
  refine vcx (X := (True ∧ True ∧ True ∧ True ∧ True ∧ True ∧ True ∧ True ∧ ((x.fst * y.fst - x.snd * y.snd, (x.fst + x.snd) * (y.fst + y.snd) - x.fst * y.fst - x.snd * y.snd), ()) = outMul (x, y, ()))) (by kernel_rfl) ?_
  refine ⟨trivial, trivial, trivial, trivial, trivial, trivial, trivial, trivial, ?_⟩
  show _ = ((x : F2) * y, ())
  rw [F2.mul_def, f2_kar]
noncomputable def spMul : Nat × Eng.Spec := (39, fnSpec [f2, f2] [.val f2] (fun _ => True) outMul)

theorem ent_square : enters Try.prog 38 Try.f38 := enters_mk (by kernel_rfl) (by kernel_rfl) (by kernel_rfl)
noncomputable abbrev outSquare : HL [f2] → HO [.val f2] := fun (x, _) => ((x : F2) * x, ())
theorem fn_square : FnOk Try.prog 38 [f2] [.val f2] noG (fun _ => True) outSquare := by
  refine fn_of_vc (sp := sps [fp.spAdd, fp.spSub, fp.spMul]) (sps_cons (fnSpec_ok fp.fn_add) (sps_cons (fnSpec_ok fp.fn_sub) (sps_cons (fnSpec_ok fp.fn_mul) sps_nil))) mixed ent_square (by decide) (by decide) ?_
  rintro w M0 ⟨x, ⟨⟩⟩
  revert x
  intro (x : F2) _ _
  refine vcx (X := (True ∧ True ∧ True ∧ True ∧ True ∧ (((x.fst + x.snd) * (x.fst - x.snd), x.fst * x.snd + x.fst * x.snd), ()) = outSquare (x, ()))) (by kernel_rfl) ?_
  refine ⟨trivial, trivial, trivial, trivial, trivial, ?_⟩
  show _ = ((x : F2) * x, ())
  rw [F2.mul_def, f2_sq1, f2_sq2]
noncomputable def spSquare : Nat × Eng.Spec := (38, fnSpec [f2] [.val f2] (fun _ => True) outSquare)

theorem ent_conj : enters Try.prog 167 Try.f167 := enters_mk (by kernel_rfl) (by kernel_rfl) (by kernel_rfl)
noncomputable abbrev outConj : HL [f2] → HO [.val f2] := fun (x, _) => ((Prod.fst (x : F2), -Prod.snd (x : F2)), ())
theorem fn_conj : FnOk Try.prog 167 [f2] [.val f2] noG (fun _ => True) outConj := by
  refine fn_of_vc (sp := sps [fp.spNeg]) (sps_cons (fnSpec_ok fp.fn_neg) sps_nil) mixed ent_conj (by decide) (by decide) ?_
  rintro w M0 ⟨x, ⟨⟩⟩
  revert x
  intro (x : F2) _ _
  refine vcx (X := (True ∧ ((x.fst, -x.snd), ()) = outConj (x, ()))) (by kernel_rfl) ?_
  exact ⟨trivial, rfl⟩
noncomputable def spConj : Nat × Eng.Spec := (167, fnSpec [f2] [.val f2] (fun _ => True) outConj)

theorem ent_scale : enters Try.prog 102 Try.f102 := enters_mk (by kernel_rfl) (by kernel_rfl) (by kernel_rfl)
noncomputable abbrev outScale : HL [f2, .fp] → HO [.val f2] := fun (x, k, _) => ((Prod.fst (x : F2) * k, Prod.snd (x : F2) * k), ())
theorem fn_scale : FnOk Try.prog 102 [f2, .fp] [.val f2] noG (fun _ => True) outScale := by
  refine fn_of_vc (sp := sps [fp.spMul]) (sps_cons (fnSpec_ok fp.fn_mul) sps_nil) mixed ent_scale (by decide) (by decide) ?_
  rintro w M0 ⟨x, k, ⟨⟩⟩
  revert x k
  intro (x : F2) (k : Fp) _ _
  refine vcx (X := (True ∧ True ∧ ((x.fst * k, x.snd * k), ()) = outScale (x, k, ()))) (by kernel_rfl) ?_
  exact ⟨trivial, trivial, rfl⟩
noncomputable def spScale : Nat × Eng.Spec := (102, fnSpec [f2, .fp] [.val f2] (fun _ => True) outScale)

theorem ent_norm : enters Try.prog 101 Try.f101 := enters_mk (by kernel_rfl) (by kernel_rfl) (by kernel_rfl)
noncomputable abbrev outNorm : HL [f2] → HO [.val .fp] := fun (x, _) => (Prod.fst (x : F2) * Prod.fst (x : F2) + Prod.snd (x : F2) * Prod.snd (x : F2), ())
theorem fn_norm : FnOk Try.prog 101 [f2] [.val .fp] noG (fun _ => True) outNorm := by
  refine fn_of_vc (sp := sps [fp.spAdd, fp.spSquare]) (sps_cons (fnSpec_ok fp.fn_add) (sps_cons (fnSpec_ok fp.fn_square) sps_nil)) mixed ent_norm (by decide) (by decide) ?_
  rintro w M0 ⟨x, ⟨⟩⟩
  revert x
  intro (x : F2) _ _
  refine vcx (X := (True ∧ True ∧ True ∧ (x.fst * x.fst + x.snd * x.snd, ()) = outNorm (x, ()))) (by kernel_rfl) ?_
  exact ⟨trivial, trivial, trivial, rfl⟩
noncomputable def spNorm : Nat × Eng.Spec := (101, fnSpec [f2] [.val .fp] (fun _ => True) outNorm)

theorem ent_inv : enters Try.prog 166 Try.f166 := enters_mk (by kernel_rfl) (by kernel_rfl) (by kernel_rfl)
noncomputable abbrev outInv : HL [f2] → HO [.val f2] := fun (x, _) => (inv2 x, ())
theorem fn_inv : FnOk Try.prog 166 [f2] [.val f2] noG (fun _ => True) outInv := by
  refine fn_of_vc (sp := sps [fp.spInv, spConj, spNorm, spScale]) (sps_cons (fnSpec_ok fp.fn_inv) (sps_cons (fnSpec_ok fn_conj) (sps_cons (fnSpec_ok fn_norm) (sps_cons (fnSpec_ok fn_scale) sps_nil)))) mixed ent_inv (by decide) (by decide) ?_
  rintro w M0 ⟨x, ⟨⟩⟩
  revert x
  intro (x : F2) _ _
  refine vcx (X := (True ∧ True ∧ True ∧ True ∧ ((x.fst * fp.zinv (x.fst * x.fst + x.snd * x.snd), -x.snd * fp.zinv (x.fst * x.fst + x.snd * x.snd)), ()) = outInv (x, ()))) (by kernel_rfl) ?_
  refine ⟨trivial, trivial, trivial, trivial, ?_⟩
  show _ = (inv2 x, ())
  rw [inv2_def]; rfl
noncomputable def spInv : Nat × Eng.Spec := (166, fnSpec [f2] [.val f2] (fun _ => True) outInv)

noncomputable abbrev outOdd : HL [f2] → HO [.val .bool] := fun (x, _) => (if Prod.fst (x : F2) = 0 then (fp.outOdd (Prod.snd (x : F2), ())).1 else (fp.outOdd (Prod.fst (x : F2), ())).1, ())
end Go.Proofs.Ytlhgcbmanifpiaa.fp2
/- Roots of a + b i. No program here. -/
namespace Cr
open Rg Fd
theorem q_a {F : Type} [Rg F] (a b n : F) : (a + n) * (a + n) - b * b - a * (a + n + (a + n)) = n * n - (a * a + b * b) :=
  rid [a, b, n] ((fun (a b n : PE) => ((a + n) * (a + n) - b * b - a * (a + n + (a + n)))) (.v 0) (.v 1) (.v 2)) ((fun (a b n : PE) => (n * n - (a * a + b * b))) (.v 0) (.v 1) (.v 2)) (by kernel_rfl)
theorem q_s {F : Type} [Rg F] (a b n : F) : (a - n) * (a - n) - b * b - a * (a - n + (a - n)) = n * n - (a * a + b * b) :=
  rid [a, b, n] ((fun (a b n : PE) => ((a - n) * (a - n) - b * b - a * (a - n + (a - n)))) (.v 0) (.v 1) (.v 2)) ((fun (a b n : PE) => (n * n - (a * a + b * b))) (.v 0) (.v 1) (.v 2)) (by kernel_rfl)
theorem q_1 {F : Type} [Rg F] (s b i : F) : s * i * (s * i) - b * i * (b * i) = (s * s - b * b) * (i * i) :=
  rid [s, b, i] ((fun (s b i : PE) => (s * i * (s * i) - b * i * (b * i))) (.v 0) (.v 1) (.v 2)) ((fun (s b i : PE) => ((s * s - b * b) * (i * i))) (.v 0) (.v 1) (.v 2)) (by kernel_rfl)
theorem q_2 {F : Type} [Rg F] (a t i : F) : a * (t * t) * (i * i) = a * (t * i * (t * i)) :=
  rid [a, t, i] ((fun (a t i : PE) => (a * (t * t) * (i * i))) (.v 0) (.v 1) (.v 2)) ((fun (a t i : PE) => (a * (t * i * (t * i)))) (.v 0) (.v 1) (.v 2)) (by kernel_rfl)
theorem q_3 {F : Type} [Rg F] (s b i : F) : s * i * (b * i) + b * i * (s * i) = b * (s + s) * (i * i) :=
  rid [s, b, i] ((fun (s b i : PE) => (s * i * (b * i) + b * i * (s * i))) (.v 0) (.v 1) (.v 2)) ((fun (s b i : PE) => (b * (s + s) * (i * i))) (.v 0) (.v 1) (.v 2)) (by kernel_rfl)
theorem q_4 {F : Type} [Rg F] (a n : F) : (a + n) * (a - n) = a * a - n * n :=
  rid [a, n] ((fun (a n : PE) => ((a + n) * (a - n))) (.v 0) (.v 1)) ((fun (a n : PE) => (a * a - n * n)) (.v 0) (.v 1)) (by kernel_rfl)
theorem q_5 {F : Type} [Rg F] (c d : F) : (c * c - d * d) * (c * c - d * d) + (c * d + d * c) * (c * d + d * c) = (c * c + d * d) * (c * c + d * d) :=
  rid [c, d] ((fun (c d : PE) => ((c * c - d * d) * (c * c - d * d) + (c * d + d * c) * (c * d + d * c))) (.v 0) (.v 1)) ((fun (c d : PE) => ((c * c + d * d) * (c * c + d * d))) (.v 0) (.v 1)) (by kernel_rfl)
theorem q_6 {F : Type} [Rg F] (c d : F) : c * c - d * d + (c * c + d * d) + (c * c - d * d + (c * c + d * d)) = (c + c) * (c + c) :=
  rid [c, d] ((fun (c d : PE) => (c * c - d * d + (c * c + d * d) + (c * c - d * d + (c * c + d * d)))) (.v 0) (.v 1)) ((fun (c d : PE) => ((c + c) * (c + c))) (.v 0) (.v 1)) (by kernel_rfl)
theorem q_7 {F : Type} [Rg F] (c d : F) : c * c - d * d - -(c * c + d * d) + (c * c - d * d - -(c * c + d * d)) = (c + c) * (c + c) :=
  rid [c, d] ((fun (c d : PE) => (c * c - d * d - -(c * c + d * d) + (c * c - d * d - -(c * c + d * d)))) (.v 0) (.v 1)) ((fun (c d : PE) => ((c + c) * (c + c))) (.v 0) (.v 1)) (by kernel_rfl)
theorem q_8 {F : Type} [Rg F] (d : F) : 0 * 0 - d * d = -(d * d) :=
  rid [d] ((fun (d : PE) => (0 * 0 - d * d)) (.v 0)) ((fun (d : PE) => (-(d * d))) (.v 0)) (by kernel_rfl)
theorem fin_ok {F : Type} [Fd F] {a b n s t i : F} (hb : b ≠ 0) (hn : n * n = a * a + b * b) (hs : s = a + n ∨ s = a - n) (ht : t * t = s + s) (hi : t ≠ 0 → t * i = 1) : s * i * (s * i) - b * i * (b * i) = a ∧ s * i * (b * i) + b * i * (s * i) = b := by
  have e1 : s * s - b * b = a * (s + s) := by
    refine eq_of_sub ?_
    rcases hs with rfl | rfl
    · rw [q_a, hn, sub_self]
    · rw [q_s, hn, sub_self]
  have hs0 : s ≠ 0 := by
    intro e
    rw [e, zero_mul] at e1
    have : b * b = 0 := by
      have h0 : (0 : F) - b * b = 0 := by rw [e1, add_zero, mul_zero]
      exact (eq_of_sub h0).symm
    rcases mul_eq_zero this with h | h <;> exact hb h
  have ht0 : t ≠ 0 := by
    intro e
    rw [e, zero_mul] at ht
    exact hs0 (double_eq_zero ht.symm)
  have hti := hi ht0
  constructor
  · rw [q_1, e1, ← ht, q_2, hti, mul_one, mul_one]
  · rw [q_3, ← ht, q_2, hti, mul_one, mul_one]
theorem sq_eq {F : Type} [Fd F] {a b : F} (h : a * a = b * b) : a = b ∨ a = -b := by
  have : (a + b) * (a - b) = 0 := by rw [q_4, h, sub_self]
  rcases mul_eq_zero this with h | h
  · right
    rw [← neg_neg a, neg_eq h]
  · exact .inl (eq_of_sub h)
end Cr
/- Sqrt of package fp2. -/
namespace Go.Proofs.Ytlhgcbmanifpiaa.fp2
set_option maxRecDepth 100000
open Go Go.Eng Go.RowKit Cr Go.Proofs.Ytlhgcbmanifpiaa Rg Fd
/-- The last step of a root: t is twice the first half, s the half of its square. -/
noncomputable def fin2 (s b t : Fp) : F2 := (s * fp.zinv t, b * fp.zinv t)
/-- What Sqrt answers. -/
noncomputable def sqrt2 (x : F2) : F2 × Bool :=
  if x.2 = 0 then (if (fp.fpSqrt x.1).2 = true then (((fp.fpSqrt x.1).1, 0), true) else ((0, (fp.fpSqrt (-x.1)).1), (fp.fpSqrt (-x.1)).2))
  else if (fp.fpSqrt (x.1 * x.1 + x.2 * x.2)).2 = true then
    (if (fp.fpSqrt (x.1 + (fp.fpSqrt (x.1 * x.1 + x.2 * x.2)).1 + (x.1 + (fp.fpSqrt (x.1 * x.1 + x.2 * x.2)).1))).2 = true then
      (fin2 (x.1 + (fp.fpSqrt (x.1 * x.1 + x.2 * x.2)).1) x.2 (fp.fpSqrt (x.1 + (fp.fpSqrt (x.1 * x.1 + x.2 * x.2)).1 + (x.1 + (fp.fpSqrt (x.1 * x.1 + x.2 * x.2)).1))).1, true)
     else (fin2 (x.1 - (fp.fpSqrt (x.1 * x.1 + x.2 * x.2)).1) x.2 (fp.fpSqrt (x.1 - (fp.fpSqrt (x.1 * x.1 + x.2 * x.2)).1 + (x.1 - (fp.fpSqrt (x.1 * x.1 + x.2 * x.2)).1))).1, (fp.fpSqrt (x.1 - (fp.fpSqrt (x.1 * x.1 + x.2 * x.2)).1 + (x.1 - (fp.fpSqrt (x.1 * x.1 + x.2 * x.2)).1))).2))
  else ((0, 0), false)
theorem ent_sqrt : enters Try.prog 43 Try.f43 := enters_mk (by kernel_rfl) (by kernel_rfl) (by kernel_rfl)
noncomputable abbrev outSqrt : HL [f2] → HO [.val f2, .val .bool] := fun (x, _) => ((sqrt2 x).1, (sqrt2 x).2, ())
theorem fn_sqrt : FnOk Try.prog 43 [f2] [.val f2, .val .bool] noG (fun _ => True) outSqrt := by
  refine fn_of_vc (sp := sps [fp.spZero, fp.spSqrt, fp.spNeg, fp.spAdd, fp.spSub, spNorm, fp.spInv, spScale]) (sps_cons (fnSpec_ok fp.fn_zero) (sps_cons (fnSpec_ok fp.fn_sqrt) (sps_cons (fnSpec_ok fp.fn_neg) (sps_cons (fnSpec_ok fp.fn_add) (sps_cons (fnSpec_ok fp.fn_sub) (sps_cons (fnSpec_ok fn_norm) (sps_cons (fnSpec_ok fp.fn_inv) (sps_cons (fnSpec_ok fn_scale) sps_nil)))))))) mixed ent_sqrt (by decide) (by decide) ?_
  rintro w M0 ⟨x, ⟨⟩⟩
  revert x
  intro (x : F2) _ _
  refine vcx (X := (True ∧ (decide (x.snd = (0 : Zm Mp)) = true → True ∧ ((fp.fpSqrt x.fst).snd = true → (((fp.fpSqrt x.fst).fst, (0 : Fp)), true, ()) = outSqrt (x, ())) ∧ ((fp.fpSqrt x.fst).snd = false → True ∧ True ∧ (((0 : Fp), (fp.fpSqrt (-x.fst)).fst), (fp.fpSqrt (-x.fst)).snd, ()) = outSqrt (x, ()))) ∧ (decide (x.snd = (0 : Zm Mp)) = false → True ∧ True ∧ ((!(fp.fpSqrt (x.fst * x.fst + x.snd * x.snd)).snd) = true → (((0 : Fp), (0 : Fp)), false, ()) = outSqrt (x, ())) ∧ ((!(fp.fpSqrt (x.fst * x.fst + x.snd * x.snd)).snd) = false → True ∧ True ∧ True ∧ ((!(fp.fpSqrt (x.fst + (fp.fpSqrt (x.fst * x.fst + x.snd * x.snd)).fst + (x.fst + (fp.fpSqrt (x.fst * x.fst + x.snd * x.snd)).fst))).snd) = true → True ∧ True ∧ True ∧ True ∧ True ∧ (((x.fst - (fp.fpSqrt (x.fst * x.fst + x.snd * x.snd)).fst) * fp.zinv (fp.fpSqrt (x.fst - (fp.fpSqrt (x.fst * x.fst + x.snd * x.snd)).fst + (x.fst - (fp.fpSqrt (x.fst * x.fst + x.snd * x.snd)).fst))).fst, x.snd * fp.zinv (fp.fpSqrt (x.fst - (fp.fpSqrt (x.fst * x.fst + x.snd * x.snd)).fst + (x.fst - (fp.fpSqrt (x.fst * x.fst + x.snd * x.snd)).fst))).fst), (fp.fpSqrt (x.fst - (fp.fpSqrt (x.fst * x.fst + x.snd * x.snd)).fst + (x.fst - (fp.fpSqrt (x.fst * x.fst + x.snd * x.snd)).fst))).snd, ()) = outSqrt (x, ())) ∧ ((!(fp.fpSqrt (x.fst + (fp.fpSqrt (x.fst * x.fst + x.snd * x.snd)).fst + (x.fst + (fp.fpSqrt (x.fst * x.fst + x.snd * x.snd)).fst))).snd) = false → True ∧ True ∧ (((x.fst + (fp.fpSqrt (x.fst * x.fst + x.snd * x.snd)).fst) * fp.zinv (fp.fpSqrt (x.fst + (fp.fpSqrt (x.fst * x.fst + x.snd * x.snd)).fst + (x.fst + (fp.fpSqrt (x.fst * x.fst + x.snd * x.snd)).fst))).fst, x.snd * fp.zinv (fp.fpSqrt (x.fst + (fp.fpSqrt (x.fst * x.fst + x.snd * x.snd)).fst + (x.fst + (fp.fpSqrt (x.fst * x.fst + x.snd * x.snd)).fst))).fst), (fp.fpSqrt (x.fst + (fp.fpSqrt (x.fst * x.fst + x.snd * x.snd)).fst + (x.fst + (fp.fpSqrt (x.fst * x.fst + x.snd * x.snd)).fst))).snd, ()) = outSqrt (x, ())))))) (by kernel_rfl) ?_
  refine ⟨trivial, fun h => ⟨trivial, fun h2 => ?_, fun h2 => ⟨trivial, trivial, ?_⟩⟩, fun h => ⟨trivial, trivial, fun h2 => ?_, fun h2 => ⟨trivial, trivial, trivial, fun h3 => ⟨trivial, trivial, trivial, trivial, trivial, ?_⟩, fun h3 => ⟨trivial, trivial, ?_⟩⟩⟩⟩
  all_goals show _ = ((sqrt2 x).1, (sqrt2 x).2, ())
  · rw [sqrt2, if_pos (of_decide_eq_true h), if_pos h2]
  · rw [sqrt2, if_pos (of_decide_eq_true h), if_neg (by rw [h2]; decide)]
  · have h2 : (fp.fpSqrt (x.1 * x.1 + x.2 * x.2)).2 = false := by simpa using h2
    rw [sqrt2, if_neg (of_decide_eq_false h), if_neg (by rw [h2]; decide)]
  · have h2 : (fp.fpSqrt (x.1 * x.1 + x.2 * x.2)).2 = true := by simpa using h2
    have h3 := (Bool.not_eq_true' _).mp h3
    rw [sqrt2, if_neg (of_decide_eq_false h), if_pos h2, if_neg (by rw [h3]; decide)]
    rfl
  · have h2 : (fp.fpSqrt (x.1 * x.1 + x.2 * x.2)).2 = true := by simpa using h2
    have h3 := (Bool.not_eq_false' _).mp h3
    rw [sqrt2, if_neg (of_decide_eq_false h), if_pos h2, if_pos h3]
    show (_, _, ()) = (fin2 _ _ _, true, ())
    rw [h3]; rfl
noncomputable def spSqrt : Nat × Eng.Spec := (43, fnSpec [f2] [.val f2, .val .bool] (fun _ => True) outSqrt)
theorem fpsqrt_ok {x : Fp} (h : (fp.fpSqrt x).2 = true) : (fp.fpSqrt x).1 * (fp.fpSqrt x).1 = x := by
  unfold fp.fpSqrt at h ⊢
  split at h
  · rename_i e; rw [if_pos e]; exact e
  · cases h
theorem zinv_mul {x : Fp} (h : x ≠ 0) : x * fp.zinv x = 1 := mul_inv (F := Fp) x h
theorem fin2_ok {a b n s t : Fp} (hb : b ≠ 0) (hn : n * n = a * a + b * b) (hs : s = a + n ∨ s = a - n) (ht : t * t = s + s) : fin2 s b t * fin2 s b t = (a, b) := by
  have h := fin_ok hb hn hs ht (i := fp.zinv t) (fun h => zinv_mul h)
  refine F2.ext ?_ ?_
  · rw [F2.mul1]; exact h.1
  · rw [F2.mul2]; exact h.2
theorem sqrt2_ok {x : F2} (h : (sqrt2 x).2 = true) : (sqrt2 x).1 * (sqrt2 x).1 = x := by
  by_cases hb : x.2 = 0
  · by_cases h1 : (fp.fpSqrt x.1).2 = true
    · rw [sqrt2, if_pos hb, if_pos h1]
      refine F2.ext ?_ ?_
      · rw [F2.mul1]
        show _ * _ - 0 * 0 = x.1
        rw [fpsqrt_ok h1, mul_zero, sub_def, neg_zero, add_zero]
      · rw [F2.mul2]
        show _ * 0 + 0 * _ = x.2
        rw [mul_zero, zero_mul, add_zero, hb]
    · rw [sqrt2, if_pos hb, if_neg h1] at h ⊢
      have h : (fp.fpSqrt (-x.1)).2 = true := h
      refine F2.ext ?_ ?_
      · rw [F2.mul1]
        show 0 * 0 - _ * _ = x.1
        rw [fpsqrt_ok h, mul_zero, sub_def, neg_neg, zero_add]
      · rw [F2.mul2]
        show 0 * _ + _ * 0 = x.2
        rw [mul_zero, zero_mul, add_zero, hb]
  · by_cases h1 : (fp.fpSqrt (x.1 * x.1 + x.2 * x.2)).2 = true
    · have hn := fpsqrt_ok h1
      rw [sqrt2, if_neg hb, if_pos h1] at h ⊢
      generalize (fp.fpSqrt (x.1 * x.1 + x.2 * x.2)).1 = n at *
      by_cases h2 : (fp.fpSqrt (x.1 + n + (x.1 + n))).2 = true
      · rw [if_pos h2]
        exact fin2_ok hb hn (.inl rfl) (fpsqrt_ok h2)
      · rw [if_neg h2] at h ⊢
        exact fin2_ok hb hn (.inr rfl) (fpsqrt_ok h)
    · rw [sqrt2, if_neg hb, if_neg h1] at h
      cases h
/-- Where there is no root, nought is told. -/
theorem fpsqrt_no {x : Fp} (h : (fp.fpSqrt x).2 = false) : (fp.fpSqrt x).1 = 0 := by
  unfold fp.fpSqrt at h ⊢
  split at h
  · cases h
  · rename_i e; rw [if_neg e]
theorem fpsqrt_zero : (fp.fpSqrt 0).2 = true := by
  unfold fp.fpSqrt
  have e : zpw (0 : Fp) fp.p14 * zpw 0 fp.p14 = 0 := by
    rw [zpw_eq]
    have : ∀ n : Nat, n ≠ 0 → zpow (0 : Fp) n = 0 := by
      intro n hn
      cases n with
      | zero => exact absurd rfl hn
      | succ n => show zpow (0 : Fp) n * 0 = 0; rw [mul_zero]
    rw [this _ (by decide), mul_zero]
  rw [if_pos e]
theorem sqrt2_no {x : F2} (h : (sqrt2 x).2 = false) : (sqrt2 x).1 = 0 ∧ x ≠ 0 := by
  by_cases hb : x.2 = 0
  · by_cases h1 : (fp.fpSqrt x.1).2 = true
    · rw [sqrt2, if_pos hb, if_pos h1] at h
      cases h
    · rw [sqrt2, if_pos hb, if_neg h1] at h ⊢
      have h : (fp.fpSqrt (-x.1)).2 = false := h
      refine ⟨?_, fun e => ?_⟩
      · rw [fpsqrt_no h]; rfl
      · have : x.1 = 0 := congrArg Prod.fst e
        rw [this] at h1
        exact h1 fpsqrt_zero
  · refine ⟨?_, fun e => hb (congrArg Prod.snd e)⟩
    by_cases h1 : (fp.fpSqrt (x.1 * x.1 + x.2 * x.2)).2 = true
    · rw [sqrt2, if_neg hb, if_pos h1] at h ⊢
      generalize (fp.fpSqrt (x.1 * x.1 + x.2 * x.2)).1 = n at *
      by_cases h2 : (fp.fpSqrt (x.1 + n + (x.1 + n))).2 = true
      · rw [if_pos h2] at h; cases h
      · rw [if_neg h2] at h ⊢
        show fin2 _ _ _ = 0
        have e : (fp.fpSqrt (x.1 - n + (x.1 - n))).1 = 0 := fpsqrt_no h
        rw [e, fin2]
        have hz : fp.zinv 0 = 0 := by
          have := mul_zero (fp.zinv (0 : Fp))
          unfold fp.zinv
          rw [zpw_eq]
          have : ∀ n : Nat, n ≠ 0 → zpow (0 : Fp) n = 0 := by
            intro n hn
            cases n with
            | zero => exact absurd rfl hn
            | succ n => show zpow (0 : Fp) n * 0 = 0; rw [mul_zero]
          exact this _ (by decide)
        rw [hz, mul_zero, mul_zero]; rfl
    · rw [sqrt2, if_neg hb, if_neg h1]; rfl
end Go.Proofs.Ytlhgcbmanifpiaa.fp2
/- g1: Times. -/
namespace Go.Proofs.Ytlhgcbmanifpiaa.g1
set_option maxRecDepth 100000
open Go Go.Eng Go.RowKit Cr Go.Proofs.Ytlhgcbmanifpiaa

abbrev Jp := Fp × Fp × Fp
noncomputable def tmI (k : List Int) (o : Jp) (g : Int × List Jp) : St := mkSt Try.f116.ntmps 64 [(1, .is (.one (.ro (.int .u8) k))), (4, .is (.one (.ptr 8 0))), (5, .is (.one (.ptr 16 0))), (6, .is (.one (.ptr 40 0))), (15, sI .i64 g.1)] [(40, bc o), (16, [.row bk 16 g.2]), (8, pc (0, 0))]
noncomputable def tmS (k : List Int) (tb : List Jp) (s : Jp) (nx : Nat) (xs : List (Nat × SV)) : St := mkSt Try.f116.ntmps nx ([(4, .is (.one (.ptr 8 0))), (5, .is (.one (.ptr 16 0))), (8, .is (.one (.ptr 64 0))), (27, .is (.one (.ro (.int .u8) k))), (28, sI .i64 k.length)] ++ xs) [(64, bc s), (16, [.row bk 16 tb]), (8, pc (0, 0))]
noncomputable abbrev tmJ (k : List Int) (tb : List Jp) (g : Int × Jp) : St := tmS k tb g.2 96 [(29, sI .i64 g.1)]
noncomputable abbrev tmK (k : List Int) (tb : List Jp) (i : Int) (ds : List Int) (g : Int × Jp) : St := tmS k tb g.2 168 [(29, sI .i64 i), (37, .is (.agg [.ints .u8 2 ds])), (38, sI .i64 g.1)]
noncomputable abbrev tmL (k : List Int) (tb : List Jp) (i : Int) (ds : List Int) (j d : Int) (g : Int × Jp) : St := tmS k tb g.2 184 [(29, sI .i64 i), (37, .is (.agg [.ints .u8 2 ds])), (38, sI .i64 j), (12, sI .u8 d), (41, sI .i64 g.1)]

theorem ent_times : enters Try.prog 116 Try.f116 := enters_mk (by kernel_rfl) (by kernel_rfl) (by kernel_rfl)
abbrev preTimes : HL [pt1, .sl (.int .u8)] → Prop := fun (_, k, _) => Bs k ∧ List.length k < 4611686018427387904
noncomputable abbrev outTimes : HL [pt1, .sl (.int .u8)] → HO [.val pt1] := fun (p, k, _) => (jpoint (F := Fp) (jtm (tabAt (jt (jlift (F := Fp) p)) (0, 0, 0) 15) k (List.length k)), ())
theorem fn_times : FnOk Try.prog 116 [pt1, .sl (.int .u8)] [.val pt1] noG preTimes outTimes := by
  have hsp : SpecsOk Try.prog (sps [spLift, spAdd, spPoint, spDouble]) := sps_cons (fnSpec_ok fn_lift) (sps_cons (fnSpec_ok fn_add) (sps_cons (fnSpec_ok fn_point) (sps_cons (fnSpec_ok fn_double) sps_nil)))
  refine fn_of_tr (sp := sps [spLift, spAdd, spPoint, spDouble]) ent_times (by decide) (by decide) (by kernel_rfl) ?_
  rintro w M0 ⟨p, k, ⟨⟩⟩
  revert p k
  intro (p : Fp × Fp) (k : List Int) _ hp
  obtain ⟨hk, hl⟩ := hp
  have hk : Bs k := hk
  have hl : k.length < 4611686018427387904 := hl
  show Tr _ _ _ _ _ _ _
  refine tr_cut hsp mixed 4 (tmI k (jlift (F := Fp) p) (0, tabAt (jt (jlift (F := Fp) p)) (0, 0, 0) 0)) True ?_ (fun _ => ?_)
  · exact vcx (X := (True ∧ (tmI k (jlift (F := Fp) p) (0, tabAt (jt (jlift (F := Fp) p)) (0, 0, 0) 0)).triv True)) (by kernel_rfl) ⟨trivial, triv_intro trivial⟩
  generalize ho : jlift (F := Fp) p = o
  refine tr_count hsp mixed (tmI k o) (fun n => ((n : Int), tabAt (jt o) (0, 0, 0) n)) 15 (fun g => (IntKind.i64.wrap (g.1 + 1), g.2.set (IntKind.i64.wrap (g.1 + 1)).toNat (jadd (F := Fp) (g.2.getD g.1.toNat (0, 0, 0)) o))) (tmI k o) (c := nthC (codeOf Try.f116) 4) (by kernel_rfl) (by kernel_rfl) (le_of_proj (by kernel_rfl) (by kernel_rfl) trivial)
    (fun n hn => by
      show (_, _) = (_, _)
      rw [wrap_succ (by omega), Int.toNat_natCast, Int.toNat_natCast, tabAt_get _ _ _ (Nat.le_refl n) (by omega), show jadd (F := Fp) (jt o n) o = jt o (n + 1) from rfl, tabAt_set]) ?_ ?_
  · intro n hn
    generalize tabAt (jt o) (0, 0, 0) n = tb
    refine vcx (X := ((decide ((n : Int) < 15) = true → (0 ≤ (n : Int) ∧ (n : Int) < ((16 : Nat) : Int)) ∧ (n : Int).toNat < 16 ∧ True ∧ (0 ≤ IntKind.i64.wrap ((n : Int) + 1) ∧ IntKind.i64.wrap ((n : Int) + 1) < ((16 : Nat) : Int)) ∧ (IntKind.i64.wrap ((n : Int) + 1)).toNat < 16 ∧
        (tmI k o (IntKind.i64.wrap ((n : Int) + 1), tb.set (IntKind.i64.wrap ((n : Int) + 1)).toNat (jadd (F := Fp) (tb.getD (n : Int).toNat (0, 0, 0)) o))).triv (n < 15)) ∧
      (decide ((n : Int) < 15) = false → (tmI k o ((n : Int), tb)).triv (n = 15)))) (by kernel_rfl) ?_
    refine ⟨fun h => ?_, fun h => triv_intro (by have := dec_ge h; omega)⟩
    have hlt : n < 15 := by have := dec_lt h; omega
    rw [wrap_succ (by omega)]
    exact ⟨⟨by omega, by omega⟩, by omega, trivial, ⟨by omega, by omega⟩, by omega, triv_intro hlt⟩
  subst ho
  show Tr _ _ _ _ _ _ _
  generalize htb : tabAt (jt (jlift (F := Fp) p)) (0, 0, 0) 15 = tb
  refine tr_cut hsp mixed 2 (tmJ k tb (0, jtm tb k 0)) True ?_ (fun _ => ?_)
  · exact vcx (X := (tmJ k tb (0, jtm tb k 0)).triv True) (by kernel_rfl) (triv_intro trivial)
  refine tr_countT (tmJ k tb) (fun i => ((i : Int), jtm tb k i)) k.length (fun g => (IntKind.i64.wrap (g.1 + 1), jby tb g.2 (k.getD g.1.toNat 0))) (tmJ k tb) (c := nthC (codeOf Try.f116) 7) (by kernel_rfl) (by kernel_rfl) (le_of_proj (by kernel_rfl) (by kernel_rfl) trivial)
    (fun i hi => by show (_, _) = (_, _); rw [wrap_succ (by omega), Int.toNat_natCast]; rfl) ?_ ?_
  · intro i hi
    generalize jtm tb k i = s
    refine tr_cut hsp mixed 2 (tmJ k tb ((i : Int), s)) (i < k.length) ?_ (fun hlt => ?_)
    · refine vcx (X := ((decide ((i : Int) < (k.length : Int)) = true → (tmJ k tb ((i : Int), s)).triv (i < k.length)) ∧ (decide ((i : Int) < (k.length : Int)) = false → (tmJ k tb ((i : Int), s)).triv (i = k.length)))) (by kernel_rfl) ?_
      exact ⟨fun h => triv_intro (by have := dec_lt h; omega), fun h => triv_intro (by have := dec_ge h; omega)⟩
    have hb : 0 ≤ k.getD i 0 ∧ k.getD i 0 < 256 := by
      have : k.getD i 0 ∈ k := by rw [List.getD_eq_getElem?_getD, List.getElem?_eq_getElem hlt]; exact List.getElem_mem hlt
      exact hk _ this
    have hbi : k.getD (i : Int).toNat 0 = k.getD i 0 := by rw [Int.toNat_natCast]
    generalize hbb : k.getD i 0 = b at hb hbi
    obtain ⟨_, d1, d2⟩ := dh_ok hb.1 hb.2
    obtain ⟨_, d3, d4⟩ := dl_ok hb.1 hb.2
    refine tr_block (c := nthC (loopOf (nthC (codeOf Try.f116) 7)) 2) (by kernel_rfl) (by kernel_rfl) ?_
    refine tr_cut hsp mixed 2 (tmK k tb (i : Int) [dh (k.getD (i : Int).toNat 0), dl (k.getD (i : Int).toNat 0)] (0, jsd tb [dh b, dl b] s 0)) True ?_ (fun _ => ?_)
    · refine vcx (X := ((0 ≤ (i : Int) ∧ (i : Int) < (k.length : Int)) ∧ (i : Int).toNat < k.length ∧ (0 : Int) ≤ 4 ∧ (tmK k tb (i : Int) [dh (k.getD (i : Int).toNat 0), dl (k.getD (i : Int).toNat 0)] (0, jsd tb [dh b, dl b] s 0)).triv True)) (by kernel_rfl) ?_
      exact ⟨⟨by omega, by omega⟩, by omega, by decide, triv_intro trivial⟩
    rw [hbi]
    generalize hds : [dh b, dl b] = ds
    have hdd : ∀ j, j < 2 → 0 ≤ ds.getD j 0 ∧ ds.getD j 0 < 16 := by
      intro j hj
      subst hds
      match j, hj with
      | 0, _ => exact ⟨d1, d2⟩
      | 1, _ => exact ⟨d3, d4⟩
    refine tr_countT (tmK k tb (i : Int) ds) (fun j => ((j : Int), jsd tb ds s j)) 2 (fun g => (IntKind.i64.wrap (g.1 + 1), jst tb g.2 (ds.getD g.1.toNat 0))) (tmK k tb (i : Int) ds) (c := nthC (bodyOf (nthC (loopOf (nthC (codeOf Try.f116) 7)) 2)) 2) (by kernel_rfl) (by kernel_rfl) (le_of_proj (by kernel_rfl) (by kernel_rfl) trivial)
      (fun j hj => by show (_, _) = (_, _); rw [wrap_succ (by omega), Int.toNat_natCast]; rfl) ?_ ?_
    · intro j hj
      generalize jsd tb ds s j = y
      refine tr_cut hsp mixed 2 (tmK k tb (i : Int) ds ((j : Int), y)) (j < 2) ?_ (fun hj2 => ?_)
      · refine vcx (X := ((decide ((j : Int) < 2) = true → (tmK k tb (i : Int) ds ((j : Int), y)).triv (j < 2)) ∧ (decide ((j : Int) < 2) = false → (tmK k tb (i : Int) ds ((j : Int), y)).triv (j = 2)))) (by kernel_rfl) ?_
        exact ⟨fun h => triv_intro (by have := dec_lt h; omega), fun h => triv_intro (by have := dec_ge h; omega)⟩
      have hd := hdd j hj2
      have hdj : ds.getD (j : Int).toNat 0 = ds.getD j 0 := by rw [Int.toNat_natCast]
      generalize ds.getD j 0 = d at hd hdj
      refine tr_block (c := nthC (loopOf (nthC (bodyOf (nthC (loopOf (nthC (codeOf Try.f116) 7)) 2)) 2)) 2) (by kernel_rfl) (by kernel_rfl) ?_
      refine tr_cut hsp mixed 2 (tmL k tb (i : Int) ds (j : Int) (ds.getD (j : Int).toNat 0) (0, jdn y 0)) True ?_ (fun _ => ?_)
      · refine vcx (X := ((0 ≤ (j : Int) ∧ (j : Int) < ((2 : Nat) : Int)) ∧ (tmL k tb (i : Int) ds (j : Int) (ds.getD (j : Int).toNat 0) (0, jdn y 0)).triv True)) (by kernel_rfl) ?_
        exact ⟨⟨by omega, by omega⟩, triv_intro trivial⟩
      rw [hdj]
      refine tr_count hsp mixed (tmL k tb (i : Int) ds (j : Int) d) (fun n => ((n : Int), jdn y n)) 4 (fun g => (IntKind.i64.wrap (g.1 + 1), jdbl (F := Fp) g.2)) (tmL k tb (i : Int) ds (j : Int) d) (c := nthC (bodyOf (nthC (loopOf (nthC (bodyOf (nthC (loopOf (nthC (codeOf Try.f116) 7)) 2)) 2)) 2)) 2) (by kernel_rfl) (by kernel_rfl) (le_of_proj (by kernel_rfl) (by kernel_rfl) trivial)
        (fun n hn => by show (_, _) = (_, _); rw [wrap_succ (by omega)]; rfl) ?_ ?_
      · intro n hn
        generalize jdn y n = z
        refine vcx (X := ((decide ((n : Int) < 4) = true → True ∧ (tmL k tb (i : Int) ds (j : Int) d (IntKind.i64.wrap ((n : Int) + 1), jdbl (F := Fp) z)).triv (n < 4)) ∧ (decide ((n : Int) < 4) = false → (tmL k tb (i : Int) ds (j : Int) d ((n : Int), z)).triv (n = 4)))) (by kernel_rfl) ?_
        exact ⟨fun h => ⟨trivial, triv_intro (by have := dec_lt h; omega)⟩, fun h => triv_intro (by have := dec_ge h; omega)⟩
      refine tr_cut hsp mixed 1 (tmK k tb (i : Int) ds ((j : Int), jst tb y d)) True ?_ (fun _ => ?_)
      · refine vcx (X := ((0 ≤ d ∧ d < ((16 : Nat) : Int)) ∧ d.toNat < 16 ∧ True ∧ (tmK k tb (i : Int) ds ((j : Int), jst tb y d)).triv True)) (by kernel_rfl) ?_
        exact ⟨⟨hd.1, by omega⟩, by omega, trivial, triv_intro trivial⟩
      refine tr_nil ?_
      refine tr_vc hsp mixed _ _ ?_
      exact vcx (X := (tmK k tb (i : Int) ds (IntKind.i64.wrap ((j : Int) + 1), jst tb y d)).triv (j < 2)) (by kernel_rfl) (triv_intro hj2)
    refine tr_nil ?_
    refine tr_vc hsp mixed _ _ ?_
    have ey : jby tb s b = jsd tb ds s 2 := by unfold jby; rw [hds]
    show VC _ _ _ (fun σ' => σ'.le _ (tmJ k tb (IntKind.i64.wrap ((i : Int) + 1), jby tb s b)) (i < k.length)) _ _
    rw [ey]
    generalize jsd tb ds s 2 = z
    exact vcx (X := (tmJ k tb (IntKind.i64.wrap ((i : Int) + 1), z)).triv (i < k.length)) (by kernel_rfl) (triv_intro hlt)
  · refine tr_vc hsp mixed _ _ ?_
    refine vcx (X := (True ∧ (jpoint (F := Fp) (jtm tb k k.length), ()) = outTimes (p, k, ()))) (by kernel_rfl) ⟨trivial, ?_⟩
    show _ = (jpoint (F := Fp) (jtm (tabAt (jt (jlift (F := Fp) p)) (0, 0, 0) 15) k k.length), ())
    rw [htb]
noncomputable def spTimes : Nat × Eng.Spec := (116, fnSpec [pt1, .sl (.int .u8)] [.val pt1] preTimes outTimes)
end Go.Proofs.Ytlhgcbmanifpiaa.g1
/- g1: Mul. -/
namespace Go.Proofs.Ytlhgcbmanifpiaa.g1
set_option maxRecDepth 100000
open Go Go.Eng Go.RowKit Cr Go.Proofs.Ytlhgcbmanifpiaa
noncomputable def tms (p : Fp × Fp) (k : List Int) : Fp × Fp := jpoint (F := Fp) (jtm (tabAt (jt (jlift (F := Fp) p)) (0, 0, 0) 15) k (List.length k))
noncomputable def pml (p : Fp × Fp) (k : Fr) : Fp × Fp := tms p (bytesN 32 k.v)
theorem ent_pmul : enters Try.prog 58 Try.f58 := enters_mk (by kernel_rfl) (by kernel_rfl) (by kernel_rfl)
noncomputable abbrev outPMul : HL [pt1, .fr] → HO [.val pt1] := fun (p, k, _) => (pml p k, ())
theorem fn_pmul : FnOk Try.prog 58 [pt1, .fr] [.val pt1] noG (fun _ => True) outPMul := by
  refine fn_of_vc (sp := sps [fr.spBytes, spTimes]) (sps_cons (fnSpec_ok fr.fn_bytes) (sps_cons (fnSpec_ok fn_times) sps_nil)) mixed ent_pmul (by decide) (by decide) ?_
  rintro w M0 ⟨p, k, ⟨⟩⟩
  revert p k
  intro (p : Fp × Fp) (k : Fr) _ _
  refine vcx (X := (True ∧ (0 : Nat) + 32 ≤ 32 ∧ preTimes (p, (bytesN 32 k.v).take 32, ()) ∧ (tms p ((bytesN 32 k.v).take 32), ()) = outPMul (p, k, ()))) (by kernel_rfl) ?_
  rw [List.take_of_length_le (by rw [bytesN_length]; exact Nat.le_refl _)]
  exact ⟨trivial, by decide, ⟨bytesN_Bs _ _, by show (bytesN 32 k.v).length < _; rw [bytesN_length]; decide⟩, rfl⟩
noncomputable def spPMul : Nat × Eng.Spec := (58, fnSpec [pt1, .fr] [.val pt1] (fun _ => True) outPMul)

end Go.Proofs.Ytlhgcbmanifpiaa.g1
/- The references' Copy; law07: scalar, long. -/
namespace Go.Proofs.Ytlhgcbmanifpiaa.ref01
set_option maxRecDepth 100000
open Go Go.Eng Go.RowKit Cr Go.Proofs.Ytlhgcbmanifpiaa

theorem ent_copy : enters Try.prog 34 Try.f34 := enters_mk (by kernel_rfl) (by kernel_rfl) (by kernel_rfl)
noncomputable def cpI (b : List Int) (g : Int × List Int) : St := mkSt Try.f34.ntmps 64 [(0, .is (.one (.ro (.int .u8) b))), (3, .is (.one (.sl 24 0 0 (b.length : Int).toNat 1))), (9, sI .i64 b.length), (10, sI .i64 g.1)] [(24, [.ints .u8 (b.length : Int).toNat g.2])]
def cpL (b : List Int) (k : Nat) : List Int := b.take k ++ List.replicate (b.length - k) 0
theorem cpL_step {b : List Int} {k : Nat} (h : k < b.length) : (cpL b k).set k (b.getD k 0) = cpL b (k + 1) := by
  unfold cpL
  rw [List.set_append_right _ _ (by simp; omega), List.take_succ_eq_append_getElem h]
  have e : b.length - k = (b.length - (k + 1)) + 1 := by omega
  have e2 : k - (b.take k).length = 0 := by simp; omega
  rw [e2, e, List.replicate_succ, List.set_cons_zero, List.append_assoc]
  simp [h]
abbrev preCopy : HL [.sl (.int .u8)] → Prop := fun (b, _) => List.length b ≤ 281474976710656
abbrev outCopy : HL [.sl (.int .u8)] → HO [.own (.int .u8)] := fun (b, _) => (b, ())
theorem fn_copy : FnOk Try.prog 34 [.sl (.int .u8)] [.own (.int .u8)] noG preCopy outCopy := by
  have hsp : SpecsOk Try.prog (sps []) := sps_nil
  refine fn_of_tr (sp := sps []) ent_copy (by decide) (by decide) (by kernel_rfl) ?_
  rintro w M0 ⟨b, ⟨⟩⟩
  revert b
  intro (b : List Int) _ hl
  have hl : b.length ≤ 281474976710656 := hl
  show Tr _ _ _ _ _ _ _
  refine tr_cut hsp mixed 3 (cpI b (0, List.replicate (b.length : Int).toNat 0)) True ?_ (fun _ => ?_)
  · refine vcx (X := ((0 ≤ (b.length : Int) ∧ (b.length : Int) ≤ (b.length : Int) ∧ ((1 : Nat) : Int) * (b.length : Int) ≤ 281474976710656 ∧ (b.length : Int) ≤ 9223372036854775807) ∧ (cpI b (0, List.replicate (b.length : Int).toNat 0)).triv True)) (by kernel_rfl) ?_
    exact ⟨⟨by omega, by omega, by omega, by omega⟩, triv_intro trivial⟩
  rw [show List.replicate (b.length : Int).toNat (0 : Int) = cpL b 0 by simp [cpL]]
  refine tr_count hsp mixed (cpI b) (fun k => ((k : Int), cpL b k)) b.length (fun g => (IntKind.i64.wrap (g.1 + 1), g.2.set g.1.toNat (b.getD g.1.toNat 0))) (cpI b) (c := nthC (codeOf Try.f34) 3) (by kernel_rfl) (by kernel_rfl) (le_of_proj (by kernel_rfl) (by kernel_rfl) trivial)
    (fun k hk => by show (_, _) = (_, _); rw [wrap_succ (by omega), Int.toNat_natCast, cpL_step hk]) ?_ ?_
  · intro k hk
    generalize cpL b k = xs
    refine vcx (X := ((decide ((k : Int) < (b.length : Int)) = true → (0 ≤ (k : Int) ∧ (k : Int) < (b.length : Int)) ∧ (k : Int).toNat < b.length ∧ (0 ≤ (k : Int) ∧ (k : Int) < ((b.length : Int).toNat : Int)) ∧ (k : Int).toNat < (b.length : Int).toNat ∧ (cpI b (IntKind.i64.wrap ((k : Int) + 1), xs.set (k : Int).toNat (b.getD (k : Int).toNat 0))).triv (k < b.length)) ∧
      (decide ((k : Int) < (b.length : Int)) = false → (cpI b ((k : Int), xs)).triv (k = b.length)))) (by kernel_rfl) ?_
    refine ⟨fun h => ?_, fun h => triv_intro (by have := dec_ge h; omega)⟩
    have hlt : k < b.length := by have := dec_lt h; omega
    exact ⟨⟨by omega, by omega⟩, by omega, ⟨by omega, by omega⟩, by omega, triv_intro hlt⟩
  · refine tr_vc hsp mixed _ _ ?_
    refine vcx (X := (0 + (b.length : Int).toNat ≤ (b.length : Int).toNat ∧ (((cpL b b.length).take (b.length : Int).toNat, ()) : List Int × Unit) = outCopy (b, ()))) (by kernel_rfl) ⟨by omega, ?_⟩
    simp [cpL, outCopy]
noncomputable def spCopy : Nat × Eng.Spec := (34, fnSpec [.sl (.int .u8)] [.own (.int .u8)] preCopy outCopy)
end Go.Proofs.Ytlhgcbmanifpiaa.ref01
/- g1: the same contracts, for laws: what is computed is not unfolded; what it is on points of the curve. -/
namespace Go.Proofs.Ytlhgcbmanifpiaa.g1
set_option maxRecDepth 100000
open Go Go.Eng Go.RowKit Cr Go.Proofs.Ytlhgcbmanifpiaa
theorem b4_ne : b4 ≠ 0 := by decide
noncomputable def gG : Fp × Fp := opq (gx, gy)
noncomputable def gadd (p q : Fp × Fp) : Fp × Fp := opq (jpoint (F := Fp) (jsm [p, q] 2))
noncomputable def gsum (ps : List (Fp × Fp)) : Fp × Fp := opq (jpoint (F := Fp) (jsm ps ps.length))
noncomputable def gneg (p : Fp × Fp) : Fp × Fp := opq (pneg (F := Fp) p)
noncomputable def gtms (p : Fp × Fp) (k : List Int) : Fp × Fp := opq (tms p k)
noncomputable def gmul (p : Fp × Fp) (k : Fr) : Fp × Fp := opq (pml p k)
noncomputable def gon (p : Fp × Fp) : Bool := opq (isOn p)

theorem fo_gen : FnOk Try.prog 57 [] [.val pt1] noG (fun _ => True) (fun _ => (gG, ())) := fn_gen.out fun _ => by show (gG, ()) = ((gx, gy), ()); rw [gG, opq_eq]
theorem fo_add : FnOk Try.prog 107 [pt1, pt1] [.val pt1] noG (fun _ => True) (fun (p, q, _) => (gadd p q, ())) := fn_padd.out fun (p, q, _) => by show (gadd p q, ()) = (_, ()); rw [gadd, opq_eq]
theorem fo_sum : FnOk Try.prog 149 [.sl pt1] [.val pt1] noG preSum (fun (ps, _) => (gsum ps, ())) := fn_sum.out fun (ps, _) => by show (gsum ps, ()) = (_, ()); rw [gsum, opq_eq]
theorem fo_neg : FnOk Try.prog 75 [pt1] [.val pt1] noG (fun _ => True) (fun (p, _) => (gneg p, ())) := fn_pneg.out fun (p, _) => by show (gneg p, ()) = (_, ()); rw [gneg, opq_eq]
theorem fo_times : FnOk Try.prog 116 [pt1, .sl (.int .u8)] [.val pt1] noG preTimes (fun (p, k, _) => (gtms p k, ())) := fn_times.out fun (p, k, _) => by show (gtms p k, ()) = (_, ()); rw [gtms, opq_eq]; rfl
theorem fo_mul : FnOk Try.prog 58 [pt1, .fr] [.val pt1] noG (fun _ => True) (fun (p, k, _) => (gmul p k, ())) := fn_pmul.out fun (p, k, _) => by show (gmul p k, ()) = (_, ()); rw [gmul, opq_eq]
theorem fo_on : FnOk Try.prog 68 [pt1] [.val .bool] noG (fun _ => True) (fun (p, _) => (gon p, ())) := fn_on.out fun (p, _) => by show (gon p, ()) = (_, ()); rw [gon, opq_eq]
noncomputable def soGen : Nat × Eng.Spec := (57, fnSpec [] [.val pt1] (fun _ => True) (fun _ => (gG, ())))
noncomputable def soAdd : Nat × Eng.Spec := (107, fnSpec [pt1, pt1] [.val pt1] (fun _ => True) (fun (p, q, _) => (gadd p q, ())))
noncomputable def soSum : Nat × Eng.Spec := (149, fnSpec [.sl pt1] [.val pt1] preSum (fun (ps, _) => (gsum ps, ())))
noncomputable def soNeg : Nat × Eng.Spec := (75, fnSpec [pt1] [.val pt1] (fun _ => True) (fun (p, _) => (gneg p, ())))
noncomputable def soTimes : Nat × Eng.Spec := (116, fnSpec [pt1, .sl (.int .u8)] [.val pt1] preTimes (fun (p, k, _) => (gtms p k, ())))
noncomputable def soMul : Nat × Eng.Spec := (58, fnSpec [pt1, .fr] [.val pt1] (fun _ => True) (fun (p, k, _) => (gmul p k, ())))
noncomputable def soOn : Nat × Eng.Spec := (68, fnSpec [pt1] [.val .bool] (fun _ => True) (fun (p, _) => (gon p, ())))

/-! On points of the curve. -/
abbrev Onb (p : Fp × Fp) : Prop := OnP b4 p
theorem gG_eq : gG = (gx, gy) := opq_eq _
theorem gG_on : Onb gG := by rw [gG_eq]; exact (isOn_iff _).1 (by decide +kernel)
theorem gadd_eq {p q : Fp × Fp} (hp : Onb p) (hq : Onb q) : gadd p q = padd p q := by rw [gadd, opq_eq]; exact add_eq b4_ne hp hq
theorem gsum_eq {ps : List (Fp × Fp)} (h : ∀ p ∈ ps, Onb p) : gsum ps = psum ps := by rw [gsum, opq_eq]; exact sum_eq b4_ne h
theorem gneg_eq (p : Fp × Fp) : gneg p = pneg p := opq_eq _
theorem gtms_eq {p : Fp × Fp} (hp : Onb p) {k : List Int} (hk : Bs k) : gtms p k = nmul p (num k).toNat := by rw [gtms, opq_eq]; exact times_eq b4_ne hp hk
theorem gmul_eq {p : Fp × Fp} (hp : Onb p) (k : Fr) : gmul p k = nmul p k.v.toNat := by
  rw [gmul, opq_eq, pml, tms, times_eq b4_ne hp (bytesN_Bs _ _), num_bytesN 32 _ k.nn (Int.lt_trans k.lt (by decide))]
theorem gon_iff (p : Fp × Fp) : gon p = true ↔ Onb p := by rw [gon, opq_eq]; exact isOn_iff p
end Go.Proofs.Ytlhgcbmanifpiaa.g1
/- Bulk points by computation: values forced one by one. No program here. -/
namespace Cr
open Rg Fd

/-- A way to compute in a field. -/
structure Ev (F : Type) [Fd F] where
  V : Type
  φ : V → F
  add : V → V → V
  sub : V → V → V
  mul : V → V → V
  isz : V → Bool
  zero : V
  force : {α : Type} → V → (V → α) → α
  add_φ : ∀ a b, φ (add a b) = φ a + φ b
  sub_φ : ∀ a b, φ (sub a b) = φ a - φ b
  mul_φ : ∀ a b, φ (mul a b) = φ a * φ b
  isz_φ : ∀ a, isz a = true ↔ φ a = 0
  zero_φ : φ zero = 0
  force_eq : ∀ {α : Type} (a : V) (k : V → α), force a k = k a

section
variable {F : Type} [Fd F] (E : Ev F)
abbrev Ev.J := E.V × E.V × E.V
def Ev.φ3 (a : E.J) : Jc F := (E.φ a.1, E.φ a.2.1, E.φ a.2.2)
def Ev.dbl (a : E.J) : E.J := match E.isz a.2.2 with
  | true => (E.zero, E.zero, E.zero)
  | false =>
    E.force (E.mul a.1 a.1) fun xx => E.force (E.mul a.2.1 a.2.1) fun yy => E.force (E.add (E.add xx xx) xx) fun sl =>
    E.force (E.mul a.1 yy) fun m1 => E.force (E.add m1 m1) fun m2 => E.force (E.add m2 m2) fun mid =>
    E.force (E.add yy yy) fun y2 => E.force (E.mul y2 y2) fun fall =>
    E.force (E.sub (E.sub (E.mul sl sl) mid) mid) fun x =>
    E.force (E.sub (E.sub (E.mul sl (E.sub mid x)) fall) fall) fun y =>
    E.force (E.mul a.2.1 a.2.2) fun z1 => E.force (E.add z1 z1) fun z => (x, y, z)
theorem Ev.dbl_φ (a : E.J) : E.φ3 (E.dbl a) = jdbl (E.φ3 a) := by
  unfold Ev.dbl jdbl
  cases h : E.isz a.2.2 with
  | true =>
    have : (E.φ3 a).2.2 = 0 := (E.isz_φ _).1 h
    rw [if_pos this]
    show (E.φ E.zero, E.φ E.zero, E.φ E.zero) = _
    rw [E.zero_φ]
  | false =>
    have : (E.φ3 a).2.2 ≠ 0 := fun e => by have := (E.isz_φ a.2.2).2 e; rw [h] at this; cases this
    rw [if_neg this]
    simp only [E.force_eq]
    simp only [Ev.φ3, jdbN, jdX, E.add_φ, E.sub_φ, E.mul_φ]
def Ev.jadd (a c : E.J) : E.J := match E.isz a.2.2 with
  | true => c
  | false => match E.isz c.2.2 with
    | true => a
    | false =>
      E.force (E.mul a.2.2 a.2.2) fun aa => E.force (E.mul c.2.2 c.2.2) fun bb =>
      E.force (E.mul a.1 bb) fun left => E.force (E.mul c.1 aa) fun right =>
      E.force (E.mul (E.mul a.2.1 bb) c.2.2) fun low => E.force (E.mul (E.mul c.2.1 aa) a.2.2) fun high =>
      E.force (E.sub right left) fun wide => E.force (E.sub high low) fun rise =>
      match E.isz wide with
      | true => match E.isz rise with
        | true => E.dbl a
        | false => (E.zero, E.zero, E.zero)
      | false =>
        E.force (E.mul wide wide) fun sq => E.force (E.mul sq wide) fun cube => E.force (E.mul left sq) fun l2 =>
        E.force (E.sub (E.sub (E.sub (E.mul rise rise) cube) l2) l2) fun x =>
        E.force (E.sub (E.mul rise (E.sub l2 x)) (E.mul low cube)) fun y =>
        E.force (E.mul (E.mul a.2.2 c.2.2) wide) fun z => (x, y, z)
theorem Ev.jadd_φ (a c : E.J) : E.φ3 (E.jadd a c) = Cr.jadd (E.φ3 a) (E.φ3 c) := by
  have nz : ∀ v : E.V, E.isz v = false → E.φ v ≠ 0 := fun v h e => by have := (E.isz_φ v).2 e; rw [h] at this; cases this
  unfold Ev.jadd Cr.jadd
  cases h : E.isz a.2.2 with
  | true => rw [if_pos (show (E.φ3 a).2.2 = 0 from (E.isz_φ _).1 h)]
  | false =>
    rw [if_neg (show (E.φ3 a).2.2 ≠ 0 from nz _ h)]
    cases h2 : E.isz c.2.2 with
    | true => rw [if_pos (show (E.φ3 c).2.2 = 0 from (E.isz_φ _).1 h2)]
    | false =>
      rw [if_neg (show (E.φ3 c).2.2 ≠ 0 from nz _ h2)]
      simp only [E.force_eq]
      have ew : E.φ (E.sub (E.mul c.1 (E.mul a.2.2 a.2.2)) (E.mul a.1 (E.mul c.2.2 c.2.2))) = (E.φ3 c).1 * ((E.φ3 a).2.2 * (E.φ3 a).2.2) - (E.φ3 a).1 * ((E.φ3 c).2.2 * (E.φ3 c).2.2) := by simp only [Ev.φ3, E.sub_φ, E.mul_φ]
      have er : E.φ (E.sub (E.mul (E.mul c.2.1 (E.mul a.2.2 a.2.2)) a.2.2) (E.mul (E.mul a.2.1 (E.mul c.2.2 c.2.2)) c.2.2)) = (E.φ3 c).2.1 * ((E.φ3 a).2.2 * (E.φ3 a).2.2) * (E.φ3 a).2.2 - (E.φ3 a).2.1 * ((E.φ3 c).2.2 * (E.φ3 c).2.2) * (E.φ3 c).2.2 := by simp only [Ev.φ3, E.sub_φ, E.mul_φ]
      cases h3 : E.isz (E.sub (E.mul c.1 (E.mul a.2.2 a.2.2)) (E.mul a.1 (E.mul c.2.2 c.2.2))) with
      | true =>
        have := (E.isz_φ _).1 h3
        rw [ew] at this
        rw [if_pos this]
        cases h4 : E.isz (E.sub (E.mul (E.mul c.2.1 (E.mul a.2.2 a.2.2)) a.2.2) (E.mul (E.mul a.2.1 (E.mul c.2.2 c.2.2)) c.2.2)) with
        | true =>
          have := (E.isz_φ _).1 h4
          rw [er] at this
          rw [if_pos this]
          exact E.dbl_φ a
        | false =>
          have := nz _ h4
          rw [er] at this
          rw [if_neg this]
          show (E.φ E.zero, E.φ E.zero, E.φ E.zero) = _
          rw [E.zero_φ]
      | false =>
        have := nz _ h3
        rw [ew] at this
        rw [if_neg this]
        simp only [Ev.φ3, jfin, jaX, E.sub_φ, E.mul_φ]
/-- So many times, by the digits of the number, from its lowest: 2 n, 2 n + 1. -/
def Ev.mul2 (o : E.J) : Nat → Nat → E.J
  | 0, _ => (E.zero, E.zero, E.zero)
  | f + 1, n => match Nat.beq n 0 with
    | true => (E.zero, E.zero, E.zero)
    | false => match Nat.beq (n % 2) 1 with
      | true => E.jadd (E.dbl (Ev.mul2 o f (n / 2))) o
      | false => E.dbl (Ev.mul2 o f (n / 2))
variable {E} in
theorem Ev.mul2_rep {b : F} (hb : b ≠ 0) {o : E.J} {P : F × F} (ho : Rep b (E.φ3 o) P) : ∀ f n, n < 2 ^ f → Rep b (E.φ3 (E.mul2 o f n)) (nmul P n) := by
  have h0 : Rep b (E.φ3 (E.zero, E.zero, E.zero)) (O2 : F × F) := .inl ⟨E.zero_φ, rfl⟩
  intro f
  induction f with
  | zero => intro n h; have : n = 0 := by simp at h; exact h
            subst this; exact h0
  | succ f ih =>
    intro n h
    unfold Ev.mul2
    split
    · rename_i hn; have := Nat.eq_of_beq_eq_true hn; subst this; exact h0
    · have hr := ih (n / 2) (by rw [Nat.pow_succ] at h; omega)
      have hd := rep_dbl hb hr
      rw [← E.dbl_φ, ← nmul_add hb ho.on] at hd
      split
      · rename_i h1
        have h1 := Nat.eq_of_beq_eq_true h1
        have ha := rep_add hb hd ho
        rw [← E.jadd_φ] at ha
        have e : n = n / 2 + n / 2 + 1 := by omega
        have : nmul P n = padd (nmul P (n / 2 + n / 2)) P := by
          conv => lhs; rw [e]
          rfl
        rw [this]
        exact ha
      · rename_i h1
        have h1 : n % 2 ≠ 1 := fun h2 => by rw [h2] at h1; exact absurd h1 (by decide)
        have e : n = n / 2 + n / 2 := by omega
        have : nmul P n = nmul P (n / 2 + n / 2) := by conv => lhs; rw [e]
        rw [this]
        exact hd
end
end Cr
/- The generator's order, by computation. No program here. -/
namespace Cr
open Rg Fd
def fc {α : Type} (n : Nat) (k : Nat → α) : α := Nat.rec (k 0) (fun m _ => k (m + 1)) n
theorem fc_eq {α : Type} (n : Nat) (k : Nat → α) : fc n k = k n := by cases n <;> rfl
def pN : Nat := 4002409555221667393417789825735904156556882819939007885332058136124031650490837864442687629129015664037894272559787
theorem zm_nat (n : Nat) : (zm ((n % pN : Nat) : Int) : Fp) = zm (n : Int) := zm_eq (by rw [Int.natCast_emod]; exact Int.emod_emod_of_dvd _ (Int.dvd_refl _))
noncomputable def evP1 : Ev Fp where
  V := Nat
  φ n := zm (n : Int)
  add a b := (a + b) % pN
  sub a b := (a + (pN - b % pN)) % pN
  mul a b := (a * b) % pN
  isz a := Nat.beq (a % pN) 0
  zero := 0
  force := fc
  add_φ a b := by rw [zm_nat, zm_add, Int.natCast_add]
  sub_φ a b := by
    rw [zm_nat, zm_sub]
    refine zm_eq ?_
    have h := Nat.mod_lt b (show 0 < pN by decide)
    have e : ((a + (pN - b % pN) : Nat) : Int) = (a : Int) - b + (pN : Int) * (1 + (b : Int) / pN) := by
      have h2 := Int.emod_add_mul_ediv (b : Int) (pN : Int)
      rw [Int.mul_add, Int.mul_one]
      omega
    rw [e]
    exact Int.add_mul_emod_self_left _ _ _
  mul_φ a b := by rw [zm_nat, zm_mul, Int.natCast_mul]
  isz_φ a := by
    constructor
    · intro h
      have h := Nat.eq_of_beq_eq_true h
      rw [← zm_nat, h]; rfl
    · intro h
      have h : (zm (a : Int) : Fp).v = 0 := by rw [h, zero_v]
      have h : (a : Int) % (pN : Int) = 0 := h
      have : a % pN = 0 := by omega
      rw [this]; rfl
  zero_φ := rfl
  force_eq := fc_eq
def gxN : Nat := 0x17f1d3a73197d7942695638c4fa9ac0fc3688c4f9774b905a14e3a3f171bac586c55e83ff97a1aeffb3af00adb22c6bb
def gyN : Nat := 0x08b3f481e3aaa0f1a09e30ed741d8ae4fcf5e095d5d00af600db18cb2c04b3edd03cc744a2888ae40caa232946c5e7e1
theorem ord_z : evP1.isz (evP1.mul2 (gxN, gyN, (1 : Nat)) 256 52435875175126190479447740508185965837690552500527637822603658699938581184513).2.2 = true := by kernel_rfl
end Cr
/- g1: the group; scalars. -/
namespace Go.Proofs.Ytlhgcbmanifpiaa.g1
set_option maxRecDepth 100000
open Go Go.Eng Go.RowKit Cr Go.Proofs.Ytlhgcbmanifpiaa

theorem gG_ne : gG ≠ O2 := by rw [gG_eq]; decide
theorem gmul_on {p : Fp × Fp} (hp : Onb p) (k : Fr) : Onb (gmul p k) := by rw [gmul_eq hp]; exact nmul_on b4_ne hp _
def rN : Nat := 52435875175126190479447740508185965837690552500527637822603658699938581184513
theorem gG_ord : nmul gG rN = O2 := by
  have h1 : Rep b4 (evP1.φ3 (gxN, gyN, (1 : Nat))) gG := by
    have h := rep_lift gG_on
    unfold jlift at h
    rw [if_neg gG_ne, gG_eq] at h
    rw [gG_eq]
    exact h
  have h2 := Ev.mul2_rep b4_ne h1 256 rN (by decide)
  have h3 := (evP1.isz_φ _).1 ord_z
  rcases h2 with ⟨_, h⟩ | ⟨h, _⟩
  · exact h
  · exact absurd h3 h
/-- Points that come to nought r times. -/
def Sub (p : Fp × Fp) : Prop := Onb p ∧ nmul p rN = O2
theorem sub_G : Sub gG := ⟨gG_on, gG_ord⟩
theorem sub_nmul {p : Fp × Fp} (h : Sub p) (n : Nat) : Sub (nmul p n) := by
  refine ⟨nmul_on b4_ne h.1 n, ?_⟩
  rw [nmul_mul b4_ne h.1, Nat.mul_comm, ← nmul_mul b4_ne h.1, h.2, nmul_O]
theorem sub_gmul {p : Fp × Fp} (h : Sub p) (k : Fr) : Sub (gmul p k) := by rw [gmul_eq h.1]; exact sub_nmul h _
theorem nmul_mod {p : Fp × Fp} (h : Sub p) (m : Nat) : nmul p m = nmul p (m % rN) := by
  conv => lhs; rw [← Nat.div_add_mod m rN]
  rw [nmul_add b4_ne h.1, ← nmul_mul b4_ne h.1, h.2, nmul_O, O_add]
theorem frv (x : Fr) : ∃ n : Nat, x.v = (n : Int) ∧ n < rN := by
  obtain ⟨n, hn⟩ := Int.eq_ofNat_of_zero_le x.nn
  exact ⟨n, hn, by have := x.lt; have e : Mr = (rN : Int) := rfl; omega⟩
theorem mul_of {p : Fp × Fp} (h : Sub p) {x : Fr} {m : Nat} (hx : x.v = (m : Int) % (rN : Int)) : gmul p x = nmul p m := by
  rw [gmul_eq h.1, hx, nmul_mod h m, ← Int.natCast_emod, Int.toNat_natCast]
theorem mul_add {p : Fp × Fp} (h : Sub p) (x y : Fr) : gmul p (x + y) = padd (gmul p x) (gmul p y) := by
  obtain ⟨m, hm, _⟩ := frv x
  obtain ⟨n, hn, _⟩ := frv y
  rw [mul_of h (x := x + y) (m := m + n) (by rw [add_v, hm, hn, Int.natCast_add]; rfl), gmul_eq h.1, gmul_eq h.1, hm, hn, Int.toNat_natCast, Int.toNat_natCast, nmul_add b4_ne h.1]
theorem mul_mul {p : Fp × Fp} (h : Sub p) (x y : Fr) : gmul p (x * y) = gmul (gmul p x) y := by
  obtain ⟨m, hm, _⟩ := frv x
  obtain ⟨n, hn, _⟩ := frv y
  rw [mul_of h (x := x * y) (m := m * n) (by rw [mul_v, hm, hn, Int.natCast_mul]; rfl), gmul_eq (sub_gmul h x).1, gmul_eq h.1, hm, hn, Int.toNat_natCast, Int.toNat_natCast, nmul_mul b4_ne h.1]
theorem mul_zero {p : Fp × Fp} (h : Sub p) : gmul p 0 = O2 := by
  rw [gmul_eq h.1, zero_v]; rfl
theorem mul_one {p : Fp × Fp} (h : Sub p) : gmul p 1 = p := by
  rw [gmul_eq h.1, one_v]; exact nmul_one
theorem mul_neg {p : Fp × Fp} (h : Sub p) (x : Fr) : gmul p (-x) = pneg (gmul p x) := by
  have e : padd (gmul p x) (gmul p (-x)) = O2 := by rw [← mul_add h, Rg.add_neg, mul_zero h]
  have hx := (sub_gmul h x).1
  have hn := (sub_gmul h (-x)).1
  have := cancel b4_ne hx hn
  rw [e, add_O] at this
  exact this.symm
end Go.Proofs.Ytlhgcbmanifpiaa.g1
namespace Go.Proofs.Ytlhgcbmanifpiaa.g1
set_option maxRecDepth 100000
open Go Go.Eng Go.RowKit Cr Go.Proofs.Ytlhgcbmanifpiaa
theorem ent_in : enters Try.prog 67 Try.f67 := enters_mk (by kernel_rfl) (by kernel_rfl) (by kernel_rfl)
noncomputable def isIn (p : Fp × Fp) : Bool := isOn p && decide (pml p (-1) = pneg (F := Fp) p)
noncomputable abbrev outIn : HL [pt1] → HO [.val .bool] := fun (p, _) => (isIn p, ())
theorem fn_in : FnOk Try.prog 67 [pt1] [.val .bool] noG (fun _ => True) outIn := by
  refine fn_of_vc (sp := sps [spOn, fr.spOf, fr.spNeg, spPMul, spPNeg]) (sps_cons (fnSpec_ok fn_on) (sps_cons (fnSpec_ok fr.fn_of) (sps_cons (fnSpec_ok fr.fn_neg) (sps_cons (fnSpec_ok fn_pmul) (sps_cons (fnSpec_ok fn_pneg) sps_nil))))) mixed ent_in (by decide) (by decide) ?_
  rintro w M0 ⟨p, ⟨⟩⟩
  revert p
  intro (p : Fp × Fp) _ _
  refine vcx (X := (True ∧ (isOn p = true → U64 1 ∧ Trs 3 ((decide ((pml p (-1)).1 = (pneg (F := Fp) p).1) && decide ((pml p (-1)).2 = (pneg (F := Fp) p).2), ()) = outIn (p, ()))) ∧ (isOn p = false → (false, ()) = outIn (p, ())))) (by kernel_rfl) ?_
  rw [dec_pair]
  refine ⟨trivial, fun h => ⟨by constructor <;> decide, trs ?_ _⟩, fun h => ?_⟩
  · simp only [outIn, isIn, h, Bool.true_and]
  · simp only [outIn, isIn, h, Bool.false_and]
noncomputable def spIn : Nat × Eng.Spec := (67, fnSpec [pt1] [.val .bool] (fun _ => True) outIn)
noncomputable def gin (p : Fp × Fp) : Bool := opq (isIn p)
theorem fo_in : FnOk Try.prog 67 [pt1] [.val .bool] noG (fun _ => True) (fun (p, _) => (gin p, ())) := fn_in.out fun (p, _) => by show (gin p, ()) = (_, ()); rw [gin, opq_eq]
noncomputable def soIn : Nat × Eng.Spec := (67, fnSpec [pt1] [.val .bool] (fun _ => True) (fun (p, _) => (gin p, ())))
theorem sub_in {p : Fp × Fp} (h : Sub p) : gin p = true := by
  rw [gin, opq_eq, isIn]
  have h1 : isOn p = true := (isOn_iff p).2 h.1
  have h2 : pml p (-1) = pneg p := by
    have := mul_neg h 1
    rw [mul_one h, gmul, opq_eq] at this
    exact this
  rw [h1, h2]; simp
theorem gin_of {p : Fp × Fp} (h : Onb p) : gin p = decide (nmul p rN = (0, 0)) := by
  rw [Bool.eq_iff_iff, decide_eq_true_iff]
  constructor
  · intro hi
    rw [gin, opq_eq, isIn, Bool.and_eq_true, decide_eq_true_iff] at hi
    have e : pml p (-1) = nmul p (rN - 1) := by
      have := gmul_eq h (-1)
      rw [gmul, opq_eq] at this
      rw [this]; rfl
    rw [e] at hi
    have : nmul p (rN - 1 + 1) = padd (nmul p (rN - 1)) p := rfl
    rw [hi.2, neg_add_self] at this
    exact this
  · intro hi; exact sub_in ⟨h, hi⟩
end Go.Proofs.Ytlhgcbmanifpiaa.g1
