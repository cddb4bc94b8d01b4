/- g1: Mul, In. -/
import Derived.Test.YtkfghpniaahjjaaG1t
import Derived.Test.YtkfghpniaahjjaaBts
namespace Go.Proofs.Ytkfghpniaahjjaa.g1
set_option maxRecDepth 100000
open Go Go.Eng Go.RowKit Cr Go.Proofs.Ytkfghpniaahjjaa
noncomputable def tms (p : Fp × Fp) (k : List Int) : Fp × Fp := jpoint (F := Fp) (jtm (tabAt (jt (jlift (F := Fp) p)) (0, 0, 0) 15) k (List.length k))
noncomputable def pml (p : Fp × Fp) (k : Fr) : Fp × Fp := tms p (bytesN 32 k.v)
theorem ent_pmul : enters Try.prog 19 Try.f19 := enters_mk (by kernel_rfl) (by kernel_rfl) (by kernel_rfl)
noncomputable abbrev outPMul : HL [pt1, .fr] → HO [.val pt1] := fun (p, k, _) => (pml p k, ())
theorem fn_pmul : FnOk Try.prog 19 [pt1, .fr] [.val pt1] noG (fun _ => True) outPMul := by
  refine fn_of_vc (sp := sps [fr.spBytes, spTimes]) (sps_cons (fnSpec_ok fr.fn_bytes) (sps_cons (fnSpec_ok fn_times) sps_nil)) mixed ent_pmul (by decide) (by decide) ?_
  rintro w M0 ⟨p, k, ⟨⟩⟩
  revert p k
  intro (p : Fp × Fp) (k : Fr) _ _
  refine vcx (X := (True ∧ (0 : Nat) + 32 ≤ 32 ∧ preTimes (p, (bytesN 32 k.v).take 32, ()) ∧ (tms p ((bytesN 32 k.v).take 32), ()) = outPMul (p, k, ()))) (by kernel_rfl) ?_
  rw [List.take_of_length_le (by rw [bytesN_length]; exact Nat.le_refl _)]
  exact ⟨trivial, by decide, ⟨bytesN_Bs _ _, by show (bytesN 32 k.v).length < _; rw [bytesN_length]; decide⟩, rfl⟩
noncomputable def spPMul : Nat × Eng.Spec := (19, fnSpec [pt1, .fr] [.val pt1] (fun _ => True) outPMul)

theorem ent_in : enters Try.prog 29 Try.f29 := enters_mk (by kernel_rfl) (by kernel_rfl) (by kernel_rfl)
noncomputable def isIn (p : Fp × Fp) : Bool := isOn p && decide (pml p (-1) = pneg (F := Fp) p)
noncomputable abbrev outIn : HL [pt1] → HO [.val .bool] := fun (p, _) => (isIn p, ())
theorem fn_in : FnOk Try.prog 29 [pt1] [.val .bool] noG (fun _ => True) outIn := by
  refine fn_of_vc (sp := sps [spOn, fr.spOf, fr.spNeg, spPMul, spPNeg]) (sps_cons (fnSpec_ok fn_on) (sps_cons (fnSpec_ok fr.fn_of) (sps_cons (fnSpec_ok fr.fn_neg) (sps_cons (fnSpec_ok fn_pmul) (sps_cons (fnSpec_ok fn_pneg) sps_nil))))) mixed ent_in (by decide) (by decide) ?_
  rintro w M0 ⟨p, ⟨⟩⟩
  revert p
  intro (p : Fp × Fp) _ _
  refine vcx (X := (True ∧ (isOn p = true → U64 1 ∧ Trs 3 ((decide ((pml p (-1)).1 = (pneg (F := Fp) p).1) && decide ((pml p (-1)).2 = (pneg (F := Fp) p).2), ()) = outIn (p, ()))) ∧ (isOn p = false → (false, ()) = outIn (p, ())))) (by kernel_rfl) ?_
  rw [dec_pair]
  refine ⟨trivial, fun h => ⟨by constructor <;> decide, trs ?_ _⟩, fun h => ?_⟩
  · simp only [outIn, isIn, h, Bool.true_and]
  · simp only [outIn, isIn, h, Bool.false_and]
noncomputable def spIn : Nat × Eng.Spec := (29, fnSpec [pt1] [.val .bool] (fun _ => True) outIn)
end Go.Proofs.Ytkfghpniaahjjaa.g1
