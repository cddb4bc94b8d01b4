/- law07: head, scalar, long. -/
import Derived.Test.YtkfghpniaahjjaaG1o
namespace Go.Proofs.Ytkfghpniaahjjaa
open Go Go.Eng Cr
abbrev eq2 (p q : Fp × Fp) : Bool := decide (p.1 = q.1) && decide (p.2 = q.2)
theorem eq2_eq (p q : Fp × Fp) : eq2 p q = decide (p = q) := dec_pair p q
theorem eq2_of {p q : Fp × Fp} (h : p = q) : eq2 p q = true := by rw [eq2_eq]; exact decide_eq_true h
theorem ne2_of {p q : Fp × Fp} (h : p ≠ q) : (!eq2 p q) = true := by rw [eq2_eq]; simp [h]
/-- A test that must hold: else the answer is false. -/
def Ck (c : Bool) (T : Prop) : Prop := (c = true → T) ∧ (c = false → ((false, ()) : Bool × Unit) = (true, ()))
theorem ck {c : Bool} {T : Prop} (h : c = true) (t : T) : Ck c T := ⟨fun _ => t, fun e => by rw [h] at e; cases e⟩
/-- A test that must fail: else the answer is false. -/
def Cn (c : Bool) (T : Prop) : Prop := (c = true → ((false, ()) : Bool × Unit) = (true, ())) ∧ (c = false → T)
theorem cn {c : Bool} {T : Prop} (h : c = false) (t : T) : Cn c T := ⟨fun e => absurd e (by rw [h]; decide), fun _ => t⟩
end Go.Proofs.Ytkfghpniaahjjaa
namespace Go.Proofs.Ytkfghpniaahjjaa.law07
set_option maxRecDepth 100000
open Go Go.Eng Go.RowKit Cr Go.Proofs.Ytkfghpniaahjjaa Go.Proofs.Ytkfghpniaahjjaa.g1

theorem ent_scalar : enters Try.prog 20 Try.f20 := enters_mk (by kernel_rfl) (by kernel_rfl) (by kernel_rfl)
noncomputable def sca (b : List Int) : Fr := opq (zm (num b))
abbrev preSca : HL [.sl (.int .u8)] → Prop := fun (b, _) => Bs b ∧ List.length b ≤ 281474976710656
noncomputable abbrev outSca : HL [.sl (.int .u8)] → HO [.val .fr] := fun (b, _) => (sca b, ())
theorem fn_scalar : FnOk Try.prog 20 [.sl (.int .u8)] [.val .fr] noG preSca outSca := by
  refine fn_of_vc (sp := sps [ref01.spCopy, fr.spWide]) (sps_cons (fnSpec_ok ref01.fn_copy) (sps_cons (fnSpec_ok fr.fn_wide) sps_nil)) mixed ent_scalar (by decide) (by decide) ?_
  rintro w M0 ⟨b, ⟨⟩⟩
  revert b
  intro (b : List Int) _ hp
  obtain ⟨h1, h2⟩ := hp
  have h2 : b.length ≤ 281474976710656 := h2
  refine vcx (X := (ref01.preCopy (b, ()) ∧ 0 + b.length ≤ b.length ∧ fr.preWide (b.take b.length, ()) ∧ ((zm (num (b.take b.length)) : Fr), ()) = outSca (b, ()))) (by kernel_rfl) ?_
  rw [List.take_length]
  refine ⟨h2, by omega, ⟨h1, by show b.length < _; omega⟩, ?_⟩
  show _ = (sca b, ())
  rw [sca, opq_eq]
noncomputable def spScalar : Nat × Eng.Spec := (20, fnSpec [.sl (.int .u8)] [.val .fr] preSca outSca)

theorem ent_long : enters Try.prog 17 Try.f17 := enters_mk (by kernel_rfl) (by kernel_rfl) (by kernel_rfl)
def lng (a b c : List Int) : Bool := decide ((a.length : Int) > 100) || (decide ((b.length : Int) > 100) || decide ((c.length : Int) > 100))
abbrev outLong : HL [.sl (.int .u8), .sl (.int .u8), .sl (.int .u8)] → HO [.val .bool] := fun (a, b, c, _) => (lng a b c, ())
theorem fn_long : FnOk Try.prog 17 [.sl (.int .u8), .sl (.int .u8), .sl (.int .u8)] [.val .bool] noG (fun _ => True) outLong := by
  refine fn_of_vc (sp := sps []) sps_nil mixed ent_long (by decide) (by decide) ?_
  rintro w M0 ⟨a, b, c, ⟨⟩⟩
  revert a b c
  intro (a : List Int) (b : List Int) (c : List Int) _ _
  refine vcx (X := ((decide ((a.length : Int) > 100) = true → (true, ()) = outLong (a, b, c, ())) ∧ (decide ((a.length : Int) > 100) = false → (decide ((b.length : Int) > 100) = true → (true, ()) = outLong (a, b, c, ())) ∧ (decide ((b.length : Int) > 100) = false → (decide ((c.length : Int) > 100), ()) = outLong (a, b, c, ()))))) (by kernel_rfl) ?_
  refine ⟨fun h => ?_, fun h => ⟨fun h2 => ?_, fun h2 => ?_⟩⟩
  all_goals show _ = (lng a b c, ())
  · simp only [lng, h, Bool.true_or]
  · simp only [lng, h, h2, Bool.true_or, Bool.or_true]
  · simp only [lng, h, h2, Bool.false_or]
noncomputable def spLong : Nat × Eng.Spec := (17, fnSpec [.sl (.int .u8), .sl (.int .u8), .sl (.int .u8)] [.val .bool] (fun _ => True) outLong)

theorem ent_head : enters Try.prog 16 Try.f16 := enters_mk (by kernel_rfl) (by kernel_rfl) (by kernel_rfl)
theorem gG_ne : gG ≠ O2 := by rw [gG_eq]; decide
theorem fn_head : FnOk Try.prog 16 [] [.val .bool] noG (fun _ => True) (fun _ => (true, ())) := by
  refine fn_of_vc (sp := sps [soGen, soAdd, soOn, soTimes, soNeg, fp.spOdd]) (sps_cons (fnSpec_ok fo_gen) (sps_cons (fnSpec_ok fo_add) (sps_cons (fnSpec_ok fo_on) (sps_cons (fnSpec_ok fo_times) (sps_cons (fnSpec_ok fo_neg) (sps_cons (fnSpec_ok fp.fn_odd) sps_nil)))))) mixed ent_head (by decide) (by decide) ?_
  rintro w M0 ⟨⟩ _ _
  refine vcx (X := (True ∧ True ∧ True ∧ Ck (gon gG) (True ∧ Ck (gon (gadd gG gG)) (Ck (!eq2 (gadd gG gG) gG) (Ck (!eq2 (gadd gG gG) (0, 0)) ((0 + 1 : Nat) ≤ 1 ∧ preTimes (gG, [2], ()) ∧ Ck (eq2 (gtms gG [2]) (gadd gG gG)) (True ∧ True ∧ Ck (eq2 (gadd gG (gneg gG)) (0, 0)) (True ∧ fp.outOdd (gG.1, ()) = (true, ()))))))))) (by kernel_rfl) ?_
  have hG := gG_on
  have e1 : gadd gG gG = padd gG gG := gadd_eq hG hG
  have oD : Onb (padd gG gG) := padd_on b4_ne hG hG
  have hb2 : Bs [2] := by intro x hx; simp at hx; subst hx; exact ⟨by decide, by decide⟩
  refine ⟨trivial, trivial, trivial, ck ((gon_iff _).2 hG) ⟨trivial, ck ((gon_iff _).2 (e1 ▸ oD)) (ck (ne2_of ?_) (ck (ne2_of ?_) ⟨by decide, ⟨hb2, by show 1 < _; decide⟩, ck (eq2_of ?_) ⟨trivial, trivial, ck (eq2_of ?_) ⟨trivial, ?_⟩⟩⟩))⟩⟩
  · rw [e1]
    intro e
    have := cancel b4_ne hG hG
    rw [e, neg_add_self] at this
    exact gG_ne this.symm
  · rw [e1]
    intro e
    have := cancel b4_ne hG hG
    have e : padd gG gG = O2 := e
    rw [e, add_O] at this
    have h2 : (pneg gG).2 = gG.2 := congrArg Prod.snd this
    rw [gG_eq] at h2
    exact absurd h2 (by decide)
  · rw [e1, gtms_eq hG hb2]
    exact nmul_two
  · rw [gneg_eq, gadd_eq hG (pneg_onP hG)]
    exact add_neg_self _
  · rw [gG_eq]; decide
noncomputable def spHead : Nat × Eng.Spec := (16, fnSpec [] [.val .bool] (fun _ => True) (fun _ => (true, ())))
end Go.Proofs.Ytkfghpniaahjjaa.law07
