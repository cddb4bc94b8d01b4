/- deal: slices.Clone, taken. -/
import Derived.Test.YtbfimfdhmggieaaDoorML24aPW
namespace Go.Proofs.YtbfimfdhmggieaaDoor.deal
set_option maxRecDepth 100000
open Go Go.Eng Go.RowKit Cr Go.Proofs.YtbfimfdhmggieaaDoor Go.Proofs.YtbfimfdhmggieaaDoor.poly
theorem ent_clone : enters Tryd.prog 115 Tryd.f115 := enters_mk (by kernel_rfl) (by kernel_rfl) (by kernel_rfl)
abbrev preClone : HL [.sl pt1] → Prop := fun (c, _) => List.length c < 1048576
theorem fn_clone : FnOk Tryd.prog 115 [.sl pt1] [.own pt1] noG preClone (fun (c, _) => (c, ())) := by
  have hsp : SpecsOk Tryd.prog (sps []) := sps_nil
  refine fn_of_trN (sp := sps []) ent_clone (by decide) (by decide) (by kernel_rfl) ?_ ?_
  · rintro w M0 ⟨⟩ _ hp
    show Tr _ _ _ _ _ _ _
    refine tr_vc hsp mixed _ _ ?_
    refine vcx (X := ((([] : List (Fp × Fp)), ()) = (([] : List (Fp × Fp)), ()))) (by kernel_rfl) rfl
  · rintro w M0 c ⟨⟩ _ _ hp
    revert c
    intro (c : List (Fp × Fp)) _ hp
    have hp : c.length < 1048576 := hp
    show Tr _ _ _ _ _ _ _
    refine tr_vc hsp mixed _ _ ?_
    refine vcx (X := ((0 : Nat) ≤ (0 : Nat) ∧ ((0 : Nat) + c.length) * (96 : Nat) ≤ (140737488355328 : Nat) ∧ (0 : Nat) + c.length ≤ (4611686018427387904 : Nat) ∧ (0 : Nat) + ((0 : Nat) + c.length) ≤ (0 : Nat) + c.length ∧ (List.take ((0 : Nat) + c.length) (List.take (0 : Nat) [] ++ c), ()) = (c, ()))) (by kernel_rfl) ?_
    rw [List.take_zero, List.nil_append, Nat.zero_add, List.take_length]
    exact ⟨Nat.le_refl _, by omega, by omega, by omega, rfl⟩
noncomputable def spClone : Nat × Eng.Spec := (115, fnSpec [.sl pt1] [.own pt1] preClone (fun (c, _) => (c, ())))
end Go.Proofs.YtbfimfdhmggieaaDoor.deal
