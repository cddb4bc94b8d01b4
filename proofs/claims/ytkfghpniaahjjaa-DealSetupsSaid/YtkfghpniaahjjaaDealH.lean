/- The head of the laws of layer 22. -/
import Derived.Test.YtkfghpniaahjjaaDealB
namespace Go.Proofs.Ytkfghpniaahjjaa.law22
set_option maxRecDepth 100000
open Go Go.Eng Go.RowKit Cr Go.Proofs.Ytkfghpniaahjjaa Go.Proofs.Ytkfghpniaahjjaa.deal

theorem ent_head : enters Try.prog 12 Try.f12 := enters_mk (by kernel_rfl) (by kernel_rfl) (by kernel_rfl)
theorem fn_head : FnOk Try.prog 12 [] [.val .bool] noG (fun _ => True) (fun _ => (true, ())) := by
  refine fn_of_vc (sp := sps [spCheck, spLeast, g1.spGen, spWrite]) (sps_cons (fnSpec_ok fn_check) (sps_cons (fnSpec_ok fn_least) (sps_cons (fnSpec_ok g1.fn_gen) (sps_cons (fnSpec_ok fn_write) sps_nil)))) mixed ent_head (by decide) (by decide) ?_
  rintro w M0 ⟨⟩ _ _
  refine vcx (X := ((0 + 3 : Nat) ≤ 3 ∧ (0 + 3 : Nat) ≤ 3 ∧ preSet (([1, 2, 3], [1, 2, 3], (2 : Int), []), ()) ∧
    ((chk [1, 2, 3] [1, 2, 3] 2 [] == 0) = true → (0 + 3 : Nat) ≤ 3 ∧ (0 + 3 : Nat) ≤ 3 ∧ True ∧
      ((lst [1, 2, 3] [] == 3) = true → (0 + 4 : Nat) ≤ 4 ∧ (0 + 4 : Nat) ≤ 4 ∧ True ∧
        ((lst [1, 2, 3, 4] [] == 3) = true → preSet (([], [], (0 : Int), []), ()) ∧
          ((chk [] [] 0 [] == 1) = true → True ∧ (0 + 1 : Nat) ≤ 1 ∧ preWrite ([(g1.gx, g1.gy)], ()) ∧ (((wrF [(g1.gx, g1.gy)]).length : Int) == 48, ()) = (true, ())) ∧
          ((chk [] [] 0 [] == 1) = false → (false, ()) = (true, ()))) ∧
        ((lst [1, 2, 3, 4] [] == 3) = false → (false, ()) = (true, ()))) ∧
      ((lst [1, 2, 3] [] == 3) = false → (false, ()) = (true, ()))) ∧
    ((chk [1, 2, 3] [1, 2, 3] 2 [] == 0) = false → (false, ()) = (true, ())))) (by kernel_rfl) ?_
  refine ⟨by decide, by decide, ⟨by decide, by decide⟩, fun _ => ⟨by decide, by decide, trivial, fun _ => ⟨by decide, by decide, trivial, fun _ => ⟨⟨by decide, by decide⟩, fun _ => ⟨trivial, by decide, by decide, ?_⟩, fun h => absurd h (by decide)⟩, fun h => absurd h (by decide)⟩, fun h => absurd h (by decide)⟩, fun h => absurd h (by decide)⟩
  rw [wrF_len]
  rfl
noncomputable def spHead : Nat × Eng.Spec := (12, fnSpec [] [.val .bool] (fun _ => True) (fun _ => (true, ())))
end Go.Proofs.Ytkfghpniaahjjaa.law22
