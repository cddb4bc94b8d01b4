/- G1Rules, for every input: true; the input reads as it did. No condition. -/
import Derived.Test.YtkfghpniaahjjaaLRul
namespace Go.Proofs.Ytkfghpniaahjjaa
set_option maxRecDepth 100000
open Go Go.Eng Go.RowKit Cr Go.ChangeShapes Go.WideShapes Go.ChangeAt Go.Proofs.Ytkfghpniaahjjaa.law07

namespace g1Rules
theorem own : ownKnob Try.prog.godebug = none := by kernel_rfl
theorem laidOut : laidOutB Try.prog = true := by kernel_rfl
abbrev wtB : Car bsl → Prop := fun ys => List.length ys * Try.prog.bytesOf 5 ≤ reachBytes ∧ ∀ y ∈ ys, (Lit.int .u8 y).wf = true
theorem oB : OpnV Try.prog 33 bsl wtB := opnV_slice (e := 5) (by kernel_rfl) (by kernel_rfl) (by decide) (opnC_int (by kernel_rfl))
theorem bytes5 : Try.prog.bytesOf 5 = 1 := by kernel_rfl
theorem wt_sca {xs : List Int} (h : wtB xs) : preSca (xs, ()) := by
  obtain ⟨h1, h2⟩ := h
  rw [bytes5] at h1
  refine ⟨fun x hx => ?_, ?_⟩
  · have := h2 x hx
    simp [Lit.wf, IntKind.min, IntKind.max, IntKind.signed, IntKind.bits] at this
    omega
  · show List.length xs ≤ _
    simp only [reachBytes] at h1
    omega
theorem opened : OpnL Try.prog [33, 33, 33] [bsl, bsl, bsl] (fun x => wtB x.1 ∧ wtB x.2.1 ∧ wtB x.2.2.1 ∧ True) :=
  .cons oB (by kernel_rfl) (of_decide_eq_true (by kernel_rfl)) (.cons oB (by kernel_rfl) (of_decide_eq_true (by kernel_rfl)) (.cons oB (by kernel_rfl) (of_decide_eq_true (by kernel_rfl)) .nil))
theorem lifted (os : Os) (started : os.Started) (H : Type) (enc : TypeId × Value → H) :
    ReturnsInHanded {} Try.checked os 4 .any (Rows.g1RulesSpec.pre6 enc Try.prog Try.f4 Rows.g1RulesRow.domain false) (Rows.g1RulesSpec.post enc Try.prog Try.f4 false true false false) := by
  refine returnsInHanded_of_change_sized (C := Try.checked) own started (by kernel_rfl) Try.func4
    (ChangeSpec.witness6 (enc := enc) (C := Try.checked) false ⟨#[], #[.slice none 0 0, .slice none 0 0, .slice none 0 0], []⟩ 8 (by kernel_rfl) (by kernel_rfl) (by kernel_rfl) (by kernel_rfl)) ?_
  intro W base args ds gs before hval hW _ hsz _
  refine law_row (C := Try.checked) (bt := 4) (ts := [33, 33, 33]) law07.ent_rules law07.fn_rules laidOut (by kernel_rfl) (by kernel_rfl) (by kernel_rfl) opened ?_ rfl ?_ W base args ds gs before hval hW hsz
  · rintro ⟨a, b, c, ⟨⟩⟩ ⟨h1, h2, h3, _⟩
    exact ⟨wt_sca h1, wt_sca h2, wt_sca h3⟩
  · intro ds hl
    match ds, hl with
    | [d1, d2, d3], _ => rfl

theorem proved : Rows.G1RulesSaid :=
  OpenClaim.holds_of_wide 4 Try.f4 rfl rfl rfl rfl rfl rfl rfl ⟨rfl, rfl, rfl, rfl, rfl⟩ rfl rfl rfl rfl rfl (by kernel_rfl) Try.func4 (by kernel_rfl)
    (of_decide_eq_true (by kernel_rfl)) (by unfold Func.isWrapper; first | (rw [if_pos (by decide +kernel)]; kernel_rfl) | (rw [if_neg (by decide +kernel)]; exact ⟨rfl, rfl⟩))
    (fun os started H enc _ => lifted os started H enc)
#print axioms proved
end g1Rules
end Go.Proofs.Ytkfghpniaahjjaa
