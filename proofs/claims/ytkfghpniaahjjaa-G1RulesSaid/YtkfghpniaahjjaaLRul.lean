/- G1Rules, for every input: true; the input reads as it did. No condition. -/
import Derived.Test.YtkfghpniaahjjaaL07a
import Derived.Test.YtkfghpniaahjjaaRow
namespace Go.Proofs.Ytkfghpniaahjjaa.law07
set_option maxRecDepth 100000
open Go Go.Eng Go.RowKit Cr Go.Proofs.Ytkfghpniaahjjaa Go.Proofs.Ytkfghpniaahjjaa.g1

abbrev ok (b : Bool) : Prop := ((b, ()) : Bool × Unit) = (true, ())
theorem ent_rules : enters Try.prog 4 Try.f4 := enters_mk (by kernel_rfl) (by kernel_rfl) (by kernel_rfl)
abbrev bsl : Kd := .sl (.int .u8)
abbrev pre3 : HL [bsl, bsl, bsl] → Prop := fun (a, b, c, _) => preSca (a, ()) ∧ preSca (b, ()) ∧ preSca (c, ())
def rulesX (p q r : Fp × Fp) : Prop :=
  Trs 4 (Cn (!eq2 (gadd (gadd p q) r) (gadd p (gadd q r))) ((0 + 3 : Nat) ≤ 3 ∧ preSum ([p, q, r], ()) ∧ True ∧ True ∧ Cn (!eq2 (gsum [p, q, r]) (gadd (gadd p q) r)) (True ∧ Cn (!eq2 (gadd p (0, 0)) p) (True ∧ Cn (!eq2 (gadd (0, 0) p) p) (True ∧ True ∧ Cn (!eq2 (gadd p (gneg p)) (0, 0))
    (Trs 2 (Ck (eq2 (gneg (gneg p)) p) (Trs 5 (Ck (eq2 (gneg (gadd p q)) (gadd (gneg p) (gneg q))) (preSum ([], ()) ∧ Ck (eq2 (gsum []) (0, 0)) (True ∧ Ck (eq2 (gneg (0, 0)) (0, 0)) (True ∧ ok (gon (0, 0))))))))))))))
theorem nn {p q : Fp × Fp} (h : p = q) : (!eq2 p q) = false := by rw [eq2_of h]; rfl
theorem rules_ok {p q r : Fp × Fp} (hp : Onb p) (hq : Onb q) (hr : Onb r) : rulesX p q r := by
  have h0 : Onb ((0 : Fp), (0 : Fp)) := .inl rfl
  have hpq := padd_on b4_ne hp hq
  have hqr := padd_on b4_ne hq hr
  have e1 : gadd p q = padd p q := gadd_eq hp hq
  have e2 : gadd q r = padd q r := gadd_eq hq hr
  have e3 : gadd (padd p q) r = padd (padd p q) r := gadd_eq hpq hr
  have e4 : gadd p (padd q r) = padd p (padd q r) := gadd_eq hp hqr
  have e5 : gsum [p, q, r] = padd p (padd q r) := by
    rw [gsum_eq (by intro x hx; simp at hx; rcases hx with rfl | rfl | rfl <;> assumption)]
    show padd p (padd q (padd r O2)) = _
    rw [add_O]
  refine trs (cn (nn ?_) ⟨by decide, show (3 : Nat) < 4611686018427387904 by decide, trivial, trivial, cn (nn ?_) ⟨trivial, cn (nn ?_) ⟨trivial, cn (nn ?_) ⟨trivial, trivial, cn (nn ?_) (trs (ck (eq2_of ?_) (trs (ck (eq2_of ?_) ⟨show (0 : Nat) < 4611686018427387904 by decide, ck (eq2_of ?_) ⟨trivial, ck (eq2_of ?_) ⟨trivial, ?_⟩⟩⟩) _)) _)⟩⟩⟩⟩) _
  · rw [e1, e2, e3, e4, padd_assoc b4_ne hp hq hr]
  · rw [e5, e1, e3, padd_assoc b4_ne hp hq hr]
  · rw [gadd_eq hp h0]; exact add_O p
  · rw [gadd_eq h0 hp]; exact O_add p
  · rw [gneg_eq, gadd_eq hp (pneg_onP hp)]; exact add_neg_self p
  · rw [gneg_eq, gneg_eq, pneg_pneg]
  · rw [e1, gneg_eq, gneg_eq, gneg_eq, gadd_eq (pneg_onP hp) (pneg_onP hq), pneg_add b4_ne hp hq]
  · rw [gsum_eq (by intro x hx; simp at hx)]; rfl
  · rw [gneg_eq]; exact pneg_O
  · show (_, ()) = _
    rw [(gon_iff _).2 h0]
theorem gmul_on {p : Fp × Fp} (hp : Onb p) (k : Fr) : Onb (gmul p k) := by rw [gmul_eq hp]; exact nmul_on b4_ne hp _
theorem fn_rules : FnOk Try.prog 4 [bsl, bsl, bsl] [.val .bool] noG pre3 (fun _ => (true, ())) := by
  refine fn_of_vc (sp := sps [spHead, spLong, soGen, spScalar, soMul, soAdd, soSum, soNeg, soOn]) (sps_cons (fnSpec_ok fn_head) (sps_cons (fnSpec_ok fn_long) (sps_cons (fnSpec_ok fo_gen) (sps_cons (fnSpec_ok fn_scalar) (sps_cons (fnSpec_ok fo_mul) (sps_cons (fnSpec_ok fo_add) (sps_cons (fnSpec_ok fo_sum) (sps_cons (fnSpec_ok fo_neg) (sps_cons (fnSpec_ok fo_on) sps_nil))))))))) mixed ent_rules (by decide) (by decide) ?_
  rintro w M0 ⟨a, b, c, ⟨⟩⟩
  revert a b c
  intro (a : List Int) (b : List Int) (c : List Int) _ hp
  obtain ⟨h1, h2, h3⟩ := hp
  refine vcx (X := (True ∧ ((!true) = true → ok false) ∧ ((!true) = false → True ∧ (lng a b c = true → ok true) ∧ (lng a b c = false → True ∧ preSca (a, ()) ∧ True ∧ True ∧ preSca (b, ()) ∧ True ∧ True ∧ preSca (c, ()) ∧ True ∧ rulesX (gmul gG (sca a)) (gmul gG (sca b)) (gmul gG (sca c)))))) (by kernel_rfl) ?_
  exact ⟨trivial, fun h => absurd h (by decide), fun _ => ⟨trivial, fun _ => rfl, fun _ => ⟨trivial, h1, trivial, trivial, h2, trivial, trivial, h3, trivial, rules_ok (gmul_on gG_on _) (gmul_on gG_on _) (gmul_on gG_on _)⟩⟩⟩
end Go.Proofs.Ytkfghpniaahjjaa.law07
