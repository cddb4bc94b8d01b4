/- g1: points without a division. -/
import Derived.Test.YtkfghpniaahjjaaG1a
import Derived.Test.YtkfghpniaahjjaaFpP
import Derived.Test.YtkfghpniaahjjaaFdP
namespace Go.Proofs.Ytkfghpniaahjjaa
open Go Go.Eng Cr
/-- So many calls that ask for nothing. -/
def Trs : Nat → Prop → Prop
  | 0, P => P
  | n + 1, P => True ∧ Trs n P
theorem trs {P : Prop} (h : P) : ∀ n, Trs n P := by
  intro n
  induction n with
  | zero => exact h
  | succ n ih => exact ⟨trivial, ih⟩
theorem dec_pair {α β : Type} [DecidableEq α] [DecidableEq β] (p q : α × β) : (decide (p.1 = q.1) && decide (p.2 = q.2)) = decide (p = q) := by
  rw [Bool.eq_iff_iff]
  simp [Prod.ext_iff]
end Go.Proofs.Ytkfghpniaahjjaa
namespace Go.Proofs.Ytkfghpniaahjjaa.g1
set_option maxRecDepth 100000
open Go Go.Eng Go.RowKit Cr Go.Proofs.Ytkfghpniaahjjaa
abbrev bk : Kd := .pair .fp (.pair .fp .fp)

theorem ent_lift : enters Try.prog 53 Try.f53 := enters_mk (by kernel_rfl) (by kernel_rfl) (by kernel_rfl)
noncomputable abbrev outLift : HL [pt1] → HO [.val bk] := fun (p, _) => (jlift (F := Fp) p, ())
theorem fn_lift : FnOk Try.prog 53 [pt1] [.val bk] noG (fun _ => True) outLift := by
  refine fn_of_vc (sp := sps [fp.spOf]) (sps_cons (fnSpec_ok fp.fn_of) sps_nil) mixed ent_lift (by decide) (by decide) ?_
  rintro w M0 ⟨p, ⟨⟩⟩
  revert p
  intro (p : Fp × Fp) _ _
  refine vcx (X := (((decide (p.1 = 0) && decide (p.2 = 0)) = true → (((0 : Fp), (0 : Fp), (0 : Fp)), ()) = outLift (p, ())) ∧ ((decide (p.1 = 0) && decide (p.2 = 0)) = false → U64 1 ∧ ((p.1, p.2, (1 : Fp)), ()) = outLift (p, ())))) (by kernel_rfl) ?_
  rw [dec_pair p ((0 : Fp), (0 : Fp))]
  refine ⟨fun h => ?_, fun h => ⟨by constructor <;> decide, ?_⟩⟩
  · show _ = (jlift p, ())
    unfold jlift
    rw [if_pos (of_decide_eq_true h)]
  · show _ = (jlift p, ())
    unfold jlift
    rw [if_neg (of_decide_eq_false h)]
noncomputable def spLift : Nat × Eng.Spec := (53, fnSpec [pt1] [.val bk] (fun _ => True) outLift)

theorem ent_point : enters Try.prog 54 Try.f54 := enters_mk (by kernel_rfl) (by kernel_rfl) (by kernel_rfl)
noncomputable abbrev outPoint : HL [bk] → HO [.val pt1] := fun (a, _) => (jpoint (F := Fp) a, ())
theorem fn_point : FnOk Try.prog 54 [bk] [.val pt1] noG (fun _ => True) outPoint := by
  refine fn_of_vc (sp := sps [fp.spZero, fp.spInv, fp.spSquare, fp.spMul]) (sps_cons (fnSpec_ok fp.fn_zero) (sps_cons (fnSpec_ok fp.fn_inv) (sps_cons (fnSpec_ok fp.fn_square) (sps_cons (fnSpec_ok fp.fn_mul) sps_nil)))) mixed ent_point (by decide) (by decide) ?_
  rintro w M0 ⟨a, ⟨⟩⟩
  revert a
  intro (a : Fp × Fp × Fp) _ _
  refine vcx (X := (True ∧ (decide (a.2.2 = 0) = true → (((0 : Fp), (0 : Fp)), ()) = outPoint (a, ())) ∧ (decide (a.2.2 = 0) = false → Trs 5 (((a.1 * (fp.zinv a.2.2 * fp.zinv a.2.2), a.2.1 * (fp.zinv a.2.2 * fp.zinv a.2.2) * fp.zinv a.2.2), ()) = outPoint (a, ()))))) (by kernel_rfl) ?_
  refine ⟨trivial, fun h => ?_, fun h => trs ?_ _⟩
  · show _ = (jpoint a, ())
    unfold jpoint
    rw [if_pos (of_decide_eq_true h)]
  · show _ = (jpoint a, ())
    unfold jpoint
    rw [if_neg (of_decide_eq_false h)]
    rfl
noncomputable def spPoint : Nat × Eng.Spec := (54, fnSpec [bk] [.val pt1] (fun _ => True) outPoint)

theorem ent_double : enters Try.prog 69 Try.f69 := enters_mk (by kernel_rfl) (by kernel_rfl) (by kernel_rfl)
noncomputable abbrev outDouble : HL [bk] → HO [.val bk] := fun (a, _) => (jdbl (F := Fp) a, ())
theorem fn_double : FnOk Try.prog 69 [bk] [.val bk] noG (fun _ => True) outDouble := by
  refine fn_of_vc (sp := sps [fp.spZero, fp.spAdd, fp.spSub, fp.spSquare, fp.spMul]) (sps_cons (fnSpec_ok fp.fn_zero) (sps_cons (fnSpec_ok fp.fn_add) (sps_cons (fnSpec_ok fp.fn_sub) (sps_cons (fnSpec_ok fp.fn_square) (sps_cons (fnSpec_ok fp.fn_mul) sps_nil))))) mixed ent_double (by decide) (by decide) ?_
  rintro w M0 ⟨a, ⟨⟩⟩
  revert a
  intro (a : Fp × Fp × Fp) _ _
  refine vcx (X := (True ∧ (decide (a.2.2 = 0) = true → (((0 : Fp), (0 : Fp), (0 : Fp)), ()) = outDouble (a, ())) ∧ (decide (a.2.2 = 0) = false → Trs 18 ((jdbN a, ()) = outDouble (a, ()))))) (by kernel_rfl) ?_
  refine ⟨trivial, fun h => ?_, fun h => trs ?_ _⟩
  · show _ = (jdbl a, ())
    unfold jdbl
    rw [if_pos (of_decide_eq_true h)]
  · show _ = (jdbl a, ())
    unfold jdbl
    rw [if_neg (of_decide_eq_false h)]
noncomputable def spDouble : Nat × Eng.Spec := (69, fnSpec [bk] [.val bk] (fun _ => True) outDouble)

theorem ent_add : enters Try.prog 52 Try.f52 := enters_mk (by kernel_rfl) (by kernel_rfl) (by kernel_rfl)
noncomputable abbrev outAdd : HL [bk, bk] → HO [.val bk] := fun (a, b, _) => (jadd (F := Fp) a b, ())
abbrev wd (a b : Fp × Fp × Fp) : Fp := b.1 * (a.2.2 * a.2.2) - a.1 * (b.2.2 * b.2.2)
abbrev rs (a b : Fp × Fp × Fp) : Fp := b.2.1 * (a.2.2 * a.2.2) * a.2.2 - a.2.1 * (b.2.2 * b.2.2) * b.2.2
theorem fn_add : FnOk Try.prog 52 [bk, bk] [.val bk] noG (fun _ => True) outAdd := by
  refine fn_of_vc (sp := sps [fp.spZero, fp.spSub, fp.spSquare, fp.spMul, spDouble]) (sps_cons (fnSpec_ok fp.fn_zero) (sps_cons (fnSpec_ok fp.fn_sub) (sps_cons (fnSpec_ok fp.fn_square) (sps_cons (fnSpec_ok fp.fn_mul) (sps_cons (fnSpec_ok fn_double) sps_nil))))) mixed ent_add (by decide) (by decide) ?_
  rintro w M0 ⟨a, b, ⟨⟩⟩
  revert a b
  intro (a : Fp × Fp × Fp) (b : Fp × Fp × Fp) _ _
  refine vcx (X := (True ∧ (decide (a.2.2 = 0) = true → (b, ()) = outAdd (a, b, ())) ∧ (decide (a.2.2 = 0) = false → True ∧ (decide (b.2.2 = 0) = true → (a, ()) = outAdd (a, b, ())) ∧ (decide (b.2.2 = 0) = false →
    Trs 11 ((decide (wd a b = 0) = true → True ∧ (decide (rs a b = 0) = true → True ∧ (jdbl (F := Fp) a, ()) = outAdd (a, b, ())) ∧ (decide (rs a b = 0) = false → (((0 : Fp), (0 : Fp), (0 : Fp)), ()) = outAdd (a, b, ()))) ∧
      (decide (wd a b = 0) = false → Trs 13 ((jfin (F := Fp) (wd a b) (rs a b) (a.1 * (b.2.2 * b.2.2)) (a.2.1 * (b.2.2 * b.2.2) * b.2.2) a.2.2 b.2.2, ()) = outAdd (a, b, ())))))))) (by kernel_rfl) ?_
  refine ⟨trivial, fun h => ?_, fun h => ⟨trivial, fun h2 => ?_, fun h2 => trs ⟨fun h3 => ⟨trivial, fun h4 => ⟨trivial, ?_⟩, fun h4 => ?_⟩, fun h3 => trs ?_ _⟩ _⟩⟩
  all_goals show _ = (jadd a b, ())
  all_goals unfold jadd
  · rw [if_pos (of_decide_eq_true h)]
  · rw [if_neg (of_decide_eq_false h), if_pos (of_decide_eq_true h2)]
  · rw [if_neg (of_decide_eq_false h), if_neg (of_decide_eq_false h2), if_pos (of_decide_eq_true h3), if_pos (of_decide_eq_true h4)]
  · rw [if_neg (of_decide_eq_false h), if_neg (of_decide_eq_false h2), if_pos (of_decide_eq_true h3), if_neg (of_decide_eq_false h4)]
  · rw [if_neg (of_decide_eq_false h), if_neg (of_decide_eq_false h2), if_neg (of_decide_eq_false h3)]
noncomputable def spAdd : Nat × Eng.Spec := (52, fnSpec [bk, bk] [.val bk] (fun _ => True) outAdd)
end Go.Proofs.Ytkfghpniaahjjaa.g1
