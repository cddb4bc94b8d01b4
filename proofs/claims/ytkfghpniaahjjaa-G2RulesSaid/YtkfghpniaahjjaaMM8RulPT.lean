/- G2Rules, for every input: true; the input reads as it did. No condition. -/
import Derived.Test.YtkfghpniaahjjaaMM8RulPS
/- What rows ask of their arguments. -/
namespace Go.Proofs.Ytkfghpniaahjjaa
open Go Go.Eng Cr
abbrev bsl : Kd := .sl (.int .u8)
/-- Bytes of an input. -/
abbrev preB (b : List Int) : Prop := Bs b ∧ List.length b ≤ 281474976710656
abbrev preBB (bs : List (List Int)) : Prop := (∀ b ∈ bs, preB b) ∧ List.length bs ≤ 281474976710656
abbrev preW (x : Int) : Prop := 0 ≤ x ∧ x < 65536
abbrev preY (x : Int) : Prop := 0 ≤ x ∧ x < 256
abbrev preI (x : Int) : Prop := -9223372036854775808 ≤ x ∧ x < 9223372036854775808
abbrev preL (_ : Bool) : Prop := True
abbrev preIS (xs : List Int) : Prop := (∀ x ∈ xs, preI x) ∧ List.length xs ≤ 281474976710656
end Go.Proofs.Ytkfghpniaahjjaa
/- Helpers of laws. -/
namespace Go.Proofs.Ytkfghpniaahjjaa
open Go Go.Eng Cr
abbrev eq2 (p q : Fp × Fp) : Bool := decide (p.1 = q.1) && decide (p.2 = q.2)
theorem eq2_eq (p q : Fp × Fp) : eq2 p q = decide (p = q) := dec_pair p q
theorem eq2_of {p q : Fp × Fp} (h : p = q) : eq2 p q = true := by rw [eq2_eq]; exact decide_eq_true h
theorem ne2_of {p q : Fp × Fp} (h : p ≠ q) : (!eq2 p q) = true := by rw [eq2_eq]; simp [h]
/-- A test that must hold: else the answer is false. -/
def Ck (c : Bool) (T : Prop) : Prop := (c = true → T) ∧ (c = false → ((false, ()) : Bool × Unit) = (true, ()))
theorem ck {c : Bool} {T : Prop} (h : c = true) (t : T) : Ck c T := ⟨fun _ => t, fun e => by rw [h] at e; cases e⟩
/-- A test that must fail: else the answer is false. -/
def Cn (c : Bool) (T : Prop) : Prop := (c = true → ((false, ()) : Bool × Unit) = (true, ())) ∧ (c = false → T)
theorem cn {c : Bool} {T : Prop} (h : c = false) (t : T) : Cn c T := ⟨fun e => absurd e (by rw [h]; decide), fun _ => t⟩
theorem eqP (a b : Fp × Fp) : eqC (.pair .fp .fp) a b = decide (a = b) := by
  have h := eqC_iff (e := .pair .fp .fp) a b
  rw [Bool.eq_iff_iff, h, decide_eq_true_iff]
theorem eqF (a b : Fp) : eqC .fp a b = decide (a = b) := rfl
theorem eqR (a b : Fr) : eqC .fr a b = decide (a = b) := rfl
abbrev ok (b : Bool) : Prop := ((b, ()) : Bool × Unit) = (true, ())
end Go.Proofs.Ytkfghpniaahjjaa
/- law08: head, scalar, long. -/
namespace Go.Proofs.Ytkfghpniaahjjaa.law08
set_option maxRecDepth 100000
open Go Go.Eng Go.RowKit Cr Go.Proofs.Ytkfghpniaahjjaa Go.Proofs.Ytkfghpniaahjjaa.fp2 Go.Proofs.Ytkfghpniaahjjaa.g2

theorem ent_scalar : enters Try.prog 39 Try.f39 := enters_mk (by kernel_rfl) (by kernel_rfl) (by kernel_rfl)
noncomputable def sca (b : List Int) : Fr := opq (zm (num b))
abbrev preSca : HL [.sl (.int .u8)] → Prop := fun (b, _) => Bs b ∧ List.length b ≤ 281474976710656
noncomputable abbrev outSca : HL [.sl (.int .u8)] → HO [.val .fr] := fun (b, _) => (sca b, ())
theorem fn_scalar : FnOk Try.prog 39 [.sl (.int .u8)] [.val .fr] noG preSca outSca := by
  refine fn_of_vc (sp := sps [ref01.spCopy, fr.spWide]) (sps_cons (fnSpec_ok ref01.fn_copy) (sps_cons (fnSpec_ok fr.fn_wide) sps_nil)) mixed ent_scalar (by decide) (by decide) ?_
  rintro w M0 ⟨b, ⟨⟩⟩
  revert b
  intro (b : List Int) _ hp
  obtain ⟨h1, h2⟩ := hp
  have h2 : b.length ≤ 281474976710656 := h2
  refine vcx (X := (ref01.preCopy (b, ()) ∧ 0 + b.length ≤ b.length ∧ fr.preWide (b.take b.length, ()) ∧ ((zm (num (b.take b.length)) : Fr), ()) = outSca (b, ()))) (by kernel_rfl) ?_
  rw [List.take_length]
  refine ⟨h2, by omega, ⟨h1, by show b.length < _; omega⟩, ?_⟩
  show _ = (sca b, ())
  rw [sca, opq_eq]
noncomputable def spScalar : Nat × Eng.Spec := (39, fnSpec [.sl (.int .u8)] [.val .fr] preSca outSca)

theorem ent_long : enters Try.prog 36 Try.f36 := enters_mk (by kernel_rfl) (by kernel_rfl) (by kernel_rfl)
def lng (a b c : List Int) : Bool := decide ((a.length : Int) > 100) || (decide ((b.length : Int) > 100) || decide ((c.length : Int) > 100))
abbrev outLong : HL [.sl (.int .u8), .sl (.int .u8), .sl (.int .u8)] → HO [.val .bool] := fun (a, b, c, _) => (lng a b c, ())
theorem fn_long : FnOk Try.prog 36 [.sl (.int .u8), .sl (.int .u8), .sl (.int .u8)] [.val .bool] noG (fun _ => True) outLong := by
  refine fn_of_vc (sp := sps []) sps_nil mixed ent_long (by decide) (by decide) ?_
  rintro w M0 ⟨a, b, c, ⟨⟩⟩
  revert a b c
  intro (a : List Int) (b : List Int) (c : List Int) _ _
  refine vcx (X := ((decide ((a.length : Int) > 100) = true → (true, ()) = outLong (a, b, c, ())) ∧ (decide ((a.length : Int) > 100) = false → (decide ((b.length : Int) > 100) = true → (true, ()) = outLong (a, b, c, ())) ∧ (decide ((b.length : Int) > 100) = false → (decide ((c.length : Int) > 100), ()) = outLong (a, b, c, ()))))) (by kernel_rfl) ?_
  refine ⟨fun h => ?_, fun h => ⟨fun h2 => ?_, fun h2 => ?_⟩⟩
  all_goals show _ = (lng a b c, ())
  · simp only [lng, h, Bool.true_or]
  · simp only [lng, h, h2, Bool.true_or, Bool.or_true]
  · simp only [lng, h, h2, Bool.false_or]
noncomputable def spLong : Nat × Eng.Spec := (36, fnSpec [.sl (.int .u8), .sl (.int .u8), .sl (.int .u8)] [.val .bool] (fun _ => True) outLong)

theorem ent_head : enters Try.prog 35 Try.f35 := enters_mk (by kernel_rfl) (by kernel_rfl) (by kernel_rfl)
theorem fn_head : FnOk Try.prog 35 [] [.val .bool] noG (fun _ => True) (fun _ => (true, ())) := by
  refine fn_of_vc (sp := sps [soGen, soAdd, soOn, soTimes, soNeg, fp2.spOdd]) (sps_cons (fnSpec_ok fo_gen) (sps_cons (fnSpec_ok fo_add) (sps_cons (fnSpec_ok fo_on) (sps_cons (fnSpec_ok fo_times) (sps_cons (fnSpec_ok fo_neg) (sps_cons (fnSpec_ok fp2.fn_odd) sps_nil)))))) mixed ent_head (by decide) (by decide) ?_
  rintro w M0 ⟨⟩ _ _
  refine vcx (X := (True ∧ True ∧ True ∧ (gon gG = true → True ∧ (gon (gadd gG gG) = true → ((!eqC ((Kd.fp.pair Kd.fp).pair (Kd.fp.pair Kd.fp)) (gadd gG gG) gG) = true → ((!eqC ((Kd.fp.pair Kd.fp).pair (Kd.fp.pair Kd.fp)) (gadd gG gG) (((0 : Fp), (0 : Fp)), (0 : Fp), (0 : Fp))) = true → (0 : Nat) + (1 : Nat) ≤ (1 : Nat) ∧ preTimes (gG, List.take (1 : Nat) [(2 : Int)], ()) ∧ (eqC ((Kd.fp.pair Kd.fp).pair (Kd.fp.pair Kd.fp)) (gtms gG (List.take (1 : Nat) [(2 : Int)])) (gadd gG gG) = true → True ∧ True ∧ (eqC ((Kd.fp.pair Kd.fp).pair (Kd.fp.pair Kd.fp)) (gadd gG (gneg gG)) (((0 : Fp), (0 : Fp)), (0 : Fp), (0 : Fp)) = true → True ∧ (!if gG.fst.fst = (0 : Zm Mp) then decide (gG.fst.snd.v % (2 : Int) = (1 : Int)) else decide (gG.fst.fst.v % (2 : Int) = (1 : Int)), ()) = (true, ())) ∧ (eqC ((Kd.fp.pair Kd.fp).pair (Kd.fp.pair Kd.fp)) (gadd gG (gneg gG)) (((0 : Fp), (0 : Fp)), (0 : Fp), (0 : Fp)) = false → (false, ()) = (true, ()))) ∧ (eqC ((Kd.fp.pair Kd.fp).pair (Kd.fp.pair Kd.fp)) (gtms gG (List.take (1 : Nat) [(2 : Int)])) (gadd gG gG) = false → (false, ()) = (true, ()))) ∧ ((!eqC ((Kd.fp.pair Kd.fp).pair (Kd.fp.pair Kd.fp)) (gadd gG gG) (((0 : Fp), (0 : Fp)), (0 : Fp), (0 : Fp))) = false → (false, ()) = (true, ()))) ∧ ((!eqC ((Kd.fp.pair Kd.fp).pair (Kd.fp.pair Kd.fp)) (gadd gG gG) gG) = false → (false, ()) = (true, ()))) ∧ (gon (gadd gG gG) = false → (false, ()) = (true, ()))) ∧ (gon gG = false → (false, ()) = (true, ())))) (by kernel_rfl) ?_
  have hG := gG_on
  have e1 : gadd gG gG = padd gG gG := gadd_eq hG hG
  have oD : Onb (padd gG gG) := padd_on b4_ne hG hG
  have hb2 : Bs [2] := by intro x hx; simp at hx; subst hx; exact ⟨by decide, by decide⟩
  have n1 : padd gG gG ≠ gG := by
    intro e
    have := cancel b4_ne hG hG
    rw [e, neg_add_self] at this
    exact gG_ne this.symm
  have n2 : padd gG gG ≠ ((0, 0), 0, 0) := by
    intro e
    have := cancel b4_ne hG hG
    have e : padd gG gG = O2 := e
    rw [e, add_O] at this
    have h2 : (pneg gG).2 = gG.2 := congrArg Prod.snd this
    rw [gG_eq] at h2
    have h3 : (-gy).1 = gy.1 := congrArg Prod.fst h2
    rw [F2.neg1] at h3
    exact absurd h3 (by decide)
  have e2 : gtms gG [2] = padd gG gG := by rw [gtms_eq hG hb2]; exact nmul_two
  have e3 : gadd gG (gneg gG) = ((0, 0), 0, 0) := by rw [gneg_eq, gadd_eq hG (pneg_onP hG)]; exact add_neg_self _
  have ho : ∀ c : Bool, (if gG.1.1 = 0 then c else (fp.outOdd (gG.1.1, ())).1) = false := by
    intro c
    rw [gG_eq, if_neg (show ¬ (gx.1 = 0) by decide)]
    show (fp.outOdd (gx.1, ())).1 = false
    decide
  simp only [eqP2, e1, e3, (gon_iff _).2 hG, (gon_iff _).2 oD, n1, n2]
  have pt : preTimes (gG, [2], ()) := ⟨hb2, by show 1 < _; decide⟩
  simp [ho]
  exact ⟨pt, e2⟩
noncomputable def spHead : Nat × Eng.Spec := (35, fnSpec [] [.val .bool] (fun _ => True) (fun _ => (true, ())))
end Go.Proofs.Ytkfghpniaahjjaa.law08
/- G2Rules: the walk. -/
namespace Go.Proofs.Ytkfghpniaahjjaa.law08
set_option maxRecDepth 100000
open Go Go.Eng Go.RowKit Cr Go.Proofs.Ytkfghpniaahjjaa Go.Proofs.Ytkfghpniaahjjaa.fp2 Go.Proofs.Ytkfghpniaahjjaa.g2
theorem ent_rules : enters Try.prog 10 Try.f10 := enters_mk (by kernel_rfl) (by kernel_rfl) (by kernel_rfl)
abbrev pre3 : HL [bsl, bsl, bsl] → Prop := fun (a, b, c, _) => preB a ∧ preB b ∧ preB c
noncomputable def rulC (g : (F2 × F2) × (F2 × F2) × (F2 × F2)) : St := mkSt Try.f10.ntmps 224 [(7, .is (.one (.ptr 88 0))), (8, .is (.one (.ptr 136 0))), (9, .is (.one (.ptr 184 0))), (10, .is (.one (.ptr 208 0)))] [(88, pc g.1), (136, pc g.2.1), (184, pc g.2.2), (208, pc (0, 0))]
theorem fn_rules : FnOk Try.prog 10 [bsl, bsl, bsl] [.val .bool] noG pre3 (fun _ => (true, ())) := by
  have hsp : SpecsOk Try.prog (sps [spHead, spLong, soGen, spScalar, soMul, soAdd, soNeg, soOn, soSum]) := sps_cons (fnSpec_ok fn_head) (sps_cons (fnSpec_ok fn_long) (sps_cons (fnSpec_ok fo_gen) (sps_cons (fnSpec_ok fn_scalar) (sps_cons (fnSpec_ok fo_mul) (sps_cons (fnSpec_ok fo_add) (sps_cons (fnSpec_ok fo_neg) (sps_cons (fnSpec_ok fo_on) (sps_cons (fnSpec_ok fo_sum) sps_nil))))))))
  refine fn_of_tr (sp := sps [spHead, spLong, soGen, spScalar, soMul, soAdd, soNeg, soOn, soSum]) ent_rules (by decide) (by decide) (by kernel_rfl) ?_
  rintro w M0 ⟨a, b, c, ⟨⟩⟩
  revert a b c
  intro (a : List Int) (b : List Int) (c : List Int) _ hp
  obtain ⟨h1, h2, h3⟩ := hp
  show Tr _ _ _ _ _ _ _
  refine tr_cutF hsp mixed 9 (fun σ => (rdB pt2 88 σ, rdB pt2 136 σ, rdB pt2 184 σ)) rulC (fun g => Onb g.1 ∧ Onb g.2.1 ∧ Onb g.2.2) ?_ ?_
  · refine vcx (X := (True ∧ ((!true) = true → (false, ()) = (true, ())) ∧ ((!true) = false → True ∧ (lng a b c = true → (true, ()) = (true, ())) ∧ (lng a b c = false → True ∧ preSca (a, ()) ∧ True ∧ True ∧ preSca (b, ()) ∧ True ∧ True ∧ preSca (c, ()) ∧ True ∧ (rulC (gmul gG (sca a), gmul gG (sca b), gmul gG (sca c))).triv (Onb (gmul gG (sca a), gmul gG (sca b), gmul gG (sca c)).fst ∧ Onb (gmul gG (sca a), gmul gG (sca b), gmul gG (sca c)).snd.fst ∧ Onb (gmul gG (sca a), gmul gG (sca b), gmul gG (sca c)).snd.snd))))) (by kernel_rfl) ?_
    exact ⟨trivial, fun h => absurd h (by decide), fun _ => ⟨trivial, fun _ => rfl, fun _ => ⟨trivial, h1, trivial, trivial, h2, trivial, trivial, h3, trivial, triv_intro ⟨gmul_on gG_on _, gmul_on gG_on _, gmul_on gG_on _⟩⟩⟩⟩
  rintro ⟨p, q, r⟩ ⟨hp, hq, hr⟩
  have hp : Onb p := hp
  have hq : Onb q := hq
  have hr : Onb r := hr
  refine tr_vc hsp mixed _ _ ?_
  refine vcx (X := (True ∧ True ∧ True ∧ True ∧ ((!eqC ((Kd.fp.pair Kd.fp).pair (Kd.fp.pair Kd.fp)) (gadd (gadd p q) r) (gadd p (gadd q r))) = true → (false, ()) = (true, ())) ∧ ((!eqC ((Kd.fp.pair Kd.fp).pair (Kd.fp.pair Kd.fp)) (gadd (gadd p q) r) (gadd p (gadd q r))) = false → (0 : Nat) + (3 : Nat) ≤ (3 : Nat) ∧ preSum (List.take (3 : Nat) [p, q, r], ()) ∧ True ∧ True ∧ ((!eqC ((Kd.fp.pair Kd.fp).pair (Kd.fp.pair Kd.fp)) (gsum (List.take (3 : Nat) [p, q, r])) (gadd (gadd p q) r)) = true → (false, ()) = (true, ())) ∧ ((!eqC ((Kd.fp.pair Kd.fp).pair (Kd.fp.pair Kd.fp)) (gsum (List.take (3 : Nat) [p, q, r])) (gadd (gadd p q) r)) = false → True ∧ ((!eqC ((Kd.fp.pair Kd.fp).pair (Kd.fp.pair Kd.fp)) (gadd p (((0 : Fp), (0 : Fp)), (0 : Fp), (0 : Fp))) p) = true → (false, ()) = (true, ())) ∧ ((!eqC ((Kd.fp.pair Kd.fp).pair (Kd.fp.pair Kd.fp)) (gadd p (((0 : Fp), (0 : Fp)), (0 : Fp), (0 : Fp))) p) = false → True ∧ ((!eqC ((Kd.fp.pair Kd.fp).pair (Kd.fp.pair Kd.fp)) (gadd (((0 : Fp), (0 : Fp)), (0 : Fp), (0 : Fp)) p) p) = true → (false, ()) = (true, ())) ∧ ((!eqC ((Kd.fp.pair Kd.fp).pair (Kd.fp.pair Kd.fp)) (gadd (((0 : Fp), (0 : Fp)), (0 : Fp), (0 : Fp)) p) p) = false → True ∧ True ∧ ((!eqC ((Kd.fp.pair Kd.fp).pair (Kd.fp.pair Kd.fp)) (gadd p (gneg p)) (((0 : Fp), (0 : Fp)), (0 : Fp), (0 : Fp))) = true → (false, ()) = (true, ())) ∧ ((!eqC ((Kd.fp.pair Kd.fp).pair (Kd.fp.pair Kd.fp)) (gadd p (gneg p)) (((0 : Fp), (0 : Fp)), (0 : Fp), (0 : Fp))) = false → True ∧ True ∧ (eqC ((Kd.fp.pair Kd.fp).pair (Kd.fp.pair Kd.fp)) (gneg (gneg p)) p = true → True ∧ True ∧ True ∧ True ∧ True ∧ (eqC ((Kd.fp.pair Kd.fp).pair (Kd.fp.pair Kd.fp)) (gneg (gadd p q)) (gadd (gneg p) (gneg q)) = true → preSum ([], ()) ∧ (eqC ((Kd.fp.pair Kd.fp).pair (Kd.fp.pair Kd.fp)) (gsum []) (((0 : Fp), (0 : Fp)), (0 : Fp), (0 : Fp)) = true → True ∧ (eqC ((Kd.fp.pair Kd.fp).pair (Kd.fp.pair Kd.fp)) (gneg (((0 : Fp), (0 : Fp)), (0 : Fp), (0 : Fp))) (((0 : Fp), (0 : Fp)), (0 : Fp), (0 : Fp)) = true → True ∧ (gon (((0 : Fp), (0 : Fp)), (0 : Fp), (0 : Fp)), ()) = (true, ())) ∧ (eqC ((Kd.fp.pair Kd.fp).pair (Kd.fp.pair Kd.fp)) (gneg (((0 : Fp), (0 : Fp)), (0 : Fp), (0 : Fp))) (((0 : Fp), (0 : Fp)), (0 : Fp), (0 : Fp)) = false → (false, ()) = (true, ()))) ∧ (eqC ((Kd.fp.pair Kd.fp).pair (Kd.fp.pair Kd.fp)) (gsum []) (((0 : Fp), (0 : Fp)), (0 : Fp), (0 : Fp)) = false → (false, ()) = (true, ()))) ∧ (eqC ((Kd.fp.pair Kd.fp).pair (Kd.fp.pair Kd.fp)) (gneg (gadd p q)) (gadd (gneg p) (gneg q)) = false → (false, ()) = (true, ()))) ∧ (eqC ((Kd.fp.pair Kd.fp).pair (Kd.fp.pair Kd.fp)) (gneg (gneg p)) p = false → (false, ()) = (true, ()))))))))) (by kernel_rfl) ?_
  have h0 : Onb ((0, 0), 0, 0) := .inl rfl
  have hpq := padd_on b4_ne hp hq
  have hqr := padd_on b4_ne hq hr
  have np := pneg_onP hp
  have nq := pneg_onP hq
  have e1 : gadd p q = padd p q := gadd_eq hp hq
  have e2 : gadd q r = padd q r := gadd_eq hq hr
  have e3 : gadd (padd p q) r = padd p (padd q r) := by rw [gadd_eq hpq hr, padd_assoc b4_ne hp hq hr]
  have e4 : gadd p (padd q r) = padd p (padd q r) := gadd_eq hp hqr
  have e5 : gsum [p, q, r] = padd p (padd q r) := by
    rw [gsum_eq (by intro x hx; simp at hx; rcases hx with rfl | rfl | rfl <;> assumption)]
    show padd p (padd q (padd r O2)) = _
    rw [add_O]
  have e6 : gadd p ((0, 0), 0, 0) = p := by rw [gadd_eq hp h0]; exact add_O p
  have e7 : gadd ((0, 0), 0, 0) p = p := by rw [gadd_eq h0 hp]; exact O_add p
  have e8 : gadd p (pneg p) = ((0, 0), 0, 0) := by rw [gadd_eq hp np]; exact add_neg_self p
  have e9 : gadd (pneg p) (pneg q) = pneg (padd p q) := by rw [gadd_eq np nq, pneg_add b4_ne hp hq]
  have e10 : gsum [] = ((0, 0), 0, 0) := by rw [gsum_eq (by intro x hx; simp at hx)]; rfl
  have e11 : pneg (((0, 0), 0, 0) : F2 × F2) = ((0, 0), 0, 0) := pneg_O (F := F2)
  rw [show List.take 3 [p, q, r] = [p, q, r] from rfl]
  have p1 : preSum ([p, q, r], ()) := show (3 : Nat) < 4611686018427387904 by decide
  have p2 : preSum ([], ()) := show (0 : Nat) < 4611686018427387904 by decide
  simp only [eqP2, gneg_eq, e1, e2, e3, e4, e5, e6, e7, e8, e9, e10, e11, pneg_pneg, (gon_iff _).2 h0]
  simp
end Go.Proofs.Ytkfghpniaahjjaa.law08
namespace Go.Proofs.Ytkfghpniaahjjaa
set_option maxRecDepth 100000
open Go Go.Eng Go.RowKit Cr Go.ChangeShapes Go.WideShapes Go.ChangeAt

namespace g2Rules
theorem own : ownKnob Try.prog.godebug = none := by kernel_rfl
theorem laidOut : laidOutB Try.prog = true := by kernel_rfl
abbrev wtB : Car bsl → Prop := fun ys => List.length ys * Try.prog.bytesOf 5 ≤ reachBytes ∧ ∀ y ∈ ys, (Lit.int .u8 y).wf = true
theorem oB : OpnV Try.prog 33 bsl wtB := opnV_slice (e := 5) (by kernel_rfl) (by kernel_rfl) (by decide) (opnC_int (by kernel_rfl))
theorem bytes5 : Try.prog.bytesOf 5 = 1 := by kernel_rfl
theorem pB {xs : List Int} (h : wtB xs) : preB xs := by
  obtain ⟨h1, h2⟩ := h
  rw [bytes5] at h1
  refine ⟨fun x hx => ?_, ?_⟩
  · have := h2 x hx
    simp [Lit.wf, IntKind.min, IntKind.max, IntKind.signed, IntKind.bits] at this
    omega
  · show List.length xs ≤ _
    simp only [reachBytes] at h1
    omega
theorem opened : OpnL Try.prog [33, 33, 33] [bsl, bsl, bsl] (fun x => wtB x.1 ∧ wtB x.2.1 ∧ wtB x.2.2.1 ∧ True) :=
  .cons oB (by kernel_rfl) (of_decide_eq_true (by kernel_rfl)) (.cons oB (by kernel_rfl) (of_decide_eq_true (by kernel_rfl)) (.cons oB (by kernel_rfl) (of_decide_eq_true (by kernel_rfl)) .nil))
theorem lifted (os : Os) (started : os.Started) (H : Type) (enc : TypeId × Value → H) :
    ReturnsInHanded {} Try.checked os 10 .any (Rows.g2RulesSpec.pre6 enc Try.prog Try.f10 Rows.g2RulesRow.domain false) (Rows.g2RulesSpec.post enc Try.prog Try.f10 false true false false) := by
  refine returnsInHanded_of_change_sized (C := Try.checked) own started (by kernel_rfl) Try.func10
    (ChangeSpec.witness6 (enc := enc) (C := Try.checked) false ⟨#[], #[.slice none 0 0, .slice none 0 0, .slice none 0 0], []⟩ 8 (by kernel_rfl) (by kernel_rfl) (by kernel_rfl) (by kernel_rfl)) ?_
  intro W base args ds gs before hval hW _ hsz _
  refine law_row (C := Try.checked) (bt := 4) (ts := [33, 33, 33]) law08.ent_rules law08.fn_rules laidOut (by kernel_rfl) (by kernel_rfl) (by kernel_rfl) opened ?_ rfl ?_ W base args ds gs before hval hW hsz
  · rintro ⟨x0, x1, x2, ⟨⟩⟩ ⟨h0, h1, h2, _⟩
    exact ⟨pB h0, pB h1, pB h2⟩
  · intro ds hl
    match ds, hl with
    | [d0, d1, d2], _ => rfl

theorem proved : Rows.G2RulesSaid :=
  OpenClaim.holds_of_wide 10 Try.f10 rfl rfl rfl rfl rfl rfl rfl ⟨rfl, rfl, rfl, rfl, rfl⟩ rfl rfl rfl rfl rfl (by kernel_rfl) Try.func10 (by kernel_rfl)
    (of_decide_eq_true (by kernel_rfl)) (by unfold Func.isWrapper; first | (rw [if_pos (by decide +kernel)]; kernel_rfl) | (rw [if_neg (by decide +kernel)]; exact ⟨rfl, rfl⟩))
    (fun os started H enc _ => lifted os started H enc)
#print axioms proved
end g2Rules
end Go.Proofs.Ytkfghpniaahjjaa
