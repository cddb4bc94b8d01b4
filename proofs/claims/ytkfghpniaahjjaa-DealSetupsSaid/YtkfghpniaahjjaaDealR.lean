/- DealSetups, for every input: true; the input reads as it did. No condition. -/
import Derived.Test.YtkfghpniaahjjaaRow
import Derived.Test.YtkfghpniaahjjaaDealS
namespace Go.Proofs.Ytkfghpniaahjjaa
set_option maxRecDepth 100000
open Go Go.Eng Go.RowKit Cr Go.ChangeShapes Go.WideShapes Go.ChangeAt

theorem own : ownKnob Try.prog.godebug = none := by kernel_rfl
theorem laidOut : laidOutB Try.prog = true := by kernel_rfl

namespace dealSetups
abbrev wtS : Car (.sl (.int .i64)) → Prop := fun ys => List.length ys * Try.prog.bytesOf 3 ≤ reachBytes ∧ ∀ y ∈ ys, (Lit.int .i64 y).wf = true
abbrev wtI : Car (.int .i64) → Prop := fun x => (Lit.int .i64 x).wf = true
theorem oS : OpnV Try.prog 22 (.sl (.int .i64)) wtS := opnV_slice (e := 3) (by kernel_rfl) (by kernel_rfl) (by decide) (opnC_int (by kernel_rfl))
theorem oI : OpnV Try.prog 3 (.int .i64) wtI := opnV_int (by kernel_rfl)
theorem opened : OpnL Try.prog [22, 22, 3, 3] [.sl (.int .i64), .sl (.int .i64), .int .i64, .int .i64] (fun x => wtS x.1 ∧ wtS x.2.1 ∧ wtI x.2.2.1 ∧ wtI x.2.2.2.1 ∧ True) :=
  .cons oS (by kernel_rfl) (of_decide_eq_true (by kernel_rfl)) (.cons oS (by kernel_rfl) (of_decide_eq_true (by kernel_rfl)) (.cons oI (by kernel_rfl) (of_decide_eq_true (by kernel_rfl)) (.cons oI (by kernel_rfl) (of_decide_eq_true (by kernel_rfl)) .nil)))
theorem bytes3 : Try.prog.bytesOf 3 = 8 := by kernel_rfl
theorem lifted (os : Os) (started : os.Started) (H : Type) (enc : TypeId × Value → H) :
    ReturnsInHanded {} Try.checked os 3 .any (Rows.dealSetupsSpec.pre6 enc Try.prog Try.f3 Rows.dealSetupsRow.domain false) (Rows.dealSetupsSpec.post enc Try.prog Try.f3 false true false false) := by
  refine returnsInHanded_of_change_sized (C := Try.checked) own started (by kernel_rfl) Try.func3
    (ChangeSpec.witness6 (enc := enc) (C := Try.checked) false ⟨#[], #[.slice none 0 0, .slice none 0 0, .int .i64 0, .int .i64 0], []⟩ 8 (by kernel_rfl) (by kernel_rfl) (by kernel_rfl) (by kernel_rfl)) ?_
  intro W base args ds gs before hval hW _ hsz _
  refine law_row (C := Try.checked) (bt := 4) (ts := [22, 22, 3, 3]) law22.ent_sets law22.fn_sets laidOut (by kernel_rfl) (by kernel_rfl) (by kernel_rfl) opened ?_ rfl ?_ W base args ds gs before hval hW hsz
  · rintro ⟨d, t, n, o, ⟨⟩⟩ ⟨⟨h1, _⟩, ⟨h2, _⟩, _⟩
    rw [bytes3] at h1 h2
    exact ⟨Nat.le_trans h1 (by decide), Nat.le_trans h2 (by decide)⟩
  · intro ds hl
    match ds, hl with
    | [d1, d2, d3, d4], _ => rfl

theorem proved : Rows.DealSetupsSaid :=
  OpenClaim.holds_of_wide 3 Try.f3 rfl rfl rfl rfl rfl rfl rfl ⟨rfl, rfl, rfl, rfl, rfl⟩ rfl rfl rfl rfl rfl (by kernel_rfl) Try.func3 (by kernel_rfl)
    (of_decide_eq_true (by kernel_rfl)) (by unfold Func.isWrapper; first | (rw [if_pos (by decide +kernel)]; kernel_rfl) | (rw [if_neg (by decide +kernel)]; exact ⟨rfl, rfl⟩))
    (fun os started H enc _ => lifted os started H enc)
#print axioms proved
end dealSetups
end Go.Proofs.Ytkfghpniaahjjaa
