/- PairSums, for every input: true; the input reads as it did. No condition. -/
import Derived.Test.YtoflhakneklimaaGreatMLPsmPZ
/- What rows ask of their arguments. -/
namespace Go.Proofs.YtoflhakneklimaaGreat
open Go Go.Eng Cr
abbrev bsl : Kd := .sl (.int .u8)
/-- Bytes of an input. -/
abbrev preB (b : List Int) : Prop := Bs b ∧ List.length b ≤ 281474976710656
abbrev preBB (bs : List (List Int)) : Prop := (∀ b ∈ bs, preB b) ∧ List.length bs ≤ 281474976710656
abbrev preW (x : Int) : Prop := 0 ≤ x ∧ x < 65536
abbrev preY (x : Int) : Prop := 0 ≤ x ∧ x < 256
abbrev preI (x : Int) : Prop := -9223372036854775808 ≤ x ∧ x < 9223372036854775808
abbrev preL (_ : Bool) : Prop := True
abbrev preIS (xs : List Int) : Prop := (∀ x ∈ xs, preI x) ∧ List.length xs ≤ 17592186044416
end Go.Proofs.YtoflhakneklimaaGreat
/- Helpers of laws. -/
namespace Go.Proofs.YtoflhakneklimaaGreat
open Go Go.Eng Cr
abbrev eq2 (p q : Fp × Fp) : Bool := decide (p.1 = q.1) && decide (p.2 = q.2)
theorem eq2_eq (p q : Fp × Fp) : eq2 p q = decide (p = q) := dec_pair p q
theorem eq2_of {p q : Fp × Fp} (h : p = q) : eq2 p q = true := by rw [eq2_eq]; exact decide_eq_true h
theorem ne2_of {p q : Fp × Fp} (h : p ≠ q) : (!eq2 p q) = true := by rw [eq2_eq]; simp [h]
/-- A test that must hold: else the answer is false. -/
def Ck (c : Bool) (T : Prop) : Prop := (c = true → T) ∧ (c = false → ((false, ()) : Bool × Unit) = (true, ()))
theorem ck {c : Bool} {T : Prop} (h : c = true) (t : T) : Ck c T := ⟨fun _ => t, fun e => by rw [h] at e; cases e⟩
/-- A test that must fail: else the answer is false. -/
def Cn (c : Bool) (T : Prop) : Prop := (c = true → ((false, ()) : Bool × Unit) = (true, ())) ∧ (c = false → T)
theorem cn {c : Bool} {T : Prop} (h : c = false) (t : T) : Cn c T := ⟨fun e => absurd e (by rw [h]; decide), fun _ => t⟩
theorem eqP (a b : Fp × Fp) : eqC (.pair .fp .fp) a b = decide (a = b) := by
  have h := eqC_iff (e := .pair .fp .fp) a b
  rw [Bool.eq_iff_iff, h, decide_eq_true_iff]
theorem eqF (a b : Fp) : eqC .fp a b = decide (a = b) := rfl
theorem eqR (a b : Fr) : eqC .fr a b = decide (a = b) := rfl
abbrev ok (b : Bool) : Prop := ((b, ()) : Bool × Unit) = (true, ())
end Go.Proofs.YtoflhakneklimaaGreat
/- law10: head, scalar, long. -/
namespace Go.Proofs.YtoflhakneklimaaGreat.law10
set_option maxRecDepth 100000
open Go Go.Eng Go.RowKit Cr Go.Proofs.YtoflhakneklimaaGreat Go.Proofs.YtoflhakneklimaaGreat.fp2 Go.Proofs.YtoflhakneklimaaGreat.tower Go.Proofs.YtoflhakneklimaaGreat.pairing

theorem ent_scalar : enters Tryz.prog 10 Tryz.f10 := enters_mk (by kernel_rfl) (by kernel_rfl) (by kernel_rfl)
noncomputable def sca (b : List Int) : Fr := opq (zm (num b))
abbrev preSca : HL [.sl (.int .u8)] → Prop := fun (b, _) => Bs b ∧ List.length b ≤ 281474976710656
noncomputable abbrev outSca : HL [.sl (.int .u8)] → HO [.val .fr] := fun (b, _) => (sca b, ())
theorem fn_scalar : FnOk Tryz.prog 10 [.sl (.int .u8)] [.val .fr] noG preSca outSca := by
  refine fn_of_vc (sp := sps [ref01.spCopy, fr.spWide]) (sps_cons (fnSpec_ok ref01.fn_copy) (sps_cons (fnSpec_ok fr.fn_wide) sps_nil)) mixed ent_scalar (by decide) (by decide) ?_
  rintro w M0 ⟨b, ⟨⟩⟩
  revert b
  intro (b : List Int) _ hp
  obtain ⟨h1, h2⟩ := hp
  have h2 : b.length ≤ 281474976710656 := h2
  refine vcx (X := (ref01.preCopy (b, ()) ∧ 0 + b.length ≤ b.length ∧ fr.preWide (b.take b.length, ()) ∧ ((zm (num (b.take b.length)) : Fr), ()) = outSca (b, ()))) (by kernel_rfl) ?_
  rw [List.take_length]
  refine ⟨h2, by omega, ⟨h1, by show b.length < _; omega⟩, ?_⟩
  show _ = (sca b, ())
  rw [sca, opq_eq]
noncomputable def spScalar : Nat × Eng.Spec := (10, fnSpec [.sl (.int .u8)] [.val .fr] preSca outSca)

theorem ent_long : enters Tryz.prog 9 Tryz.f9 := enters_mk (by kernel_rfl) (by kernel_rfl) (by kernel_rfl)
def lng (a b c : List Int) : Bool := decide ((a.length : Int) > 100) || (decide ((b.length : Int) > 100) || decide ((c.length : Int) > 100))
abbrev outLong : HL [.sl (.int .u8), .sl (.int .u8), .sl (.int .u8)] → HO [.val .bool] := fun (a, b, c, _) => (lng a b c, ())
theorem fn_long : FnOk Tryz.prog 9 [.sl (.int .u8), .sl (.int .u8), .sl (.int .u8)] [.val .bool] noG (fun _ => True) outLong := by
  refine fn_of_vc (sp := sps []) sps_nil mixed ent_long (by decide) (by decide) ?_
  rintro w M0 ⟨a, b, c, ⟨⟩⟩
  revert a b c
  intro (a : List Int) (b : List Int) (c : List Int) _ _
  refine vcx (X := ((decide ((a.length : Int) > 100) = true → (true, ()) = outLong (a, b, c, ())) ∧ (decide ((a.length : Int) > 100) = false → (decide ((b.length : Int) > 100) = true → (true, ()) = outLong (a, b, c, ())) ∧ (decide ((b.length : Int) > 100) = false → (decide ((c.length : Int) > 100), ()) = outLong (a, b, c, ()))))) (by kernel_rfl) ?_
  refine ⟨fun h => ?_, fun h => ⟨fun h2 => ?_, fun h2 => ?_⟩⟩
  all_goals show _ = (lng a b c, ())
  · simp only [lng, h, Bool.true_or]
  · simp only [lng, h, h2, Bool.true_or, Bool.or_true]
  · simp only [lng, h, h2, Bool.false_or]
noncomputable def spLong : Nat × Eng.Spec := (9, fnSpec [.sl (.int .u8), .sl (.int .u8), .sl (.int .u8)] [.val .bool] (fun _ => True) outLong)

theorem eq12 (x y : F12) : eqC f12k x y = decide (x = y) := by
  by_cases h : x = y
  · rw [(eqC_iff (e := f12k) x y).2 h, decide_eq_true h]
  · rw [decide_eq_false h]; exact Bool.eq_false_iff.2 fun e => h ((eqC_iff (e := f12k) x y).1 e)
theorem eq12s {x y : F12} (h : x = y) : eqC f12k x y = true := (eqC_iff (e := f12k) x y).2 h
theorem eqNo {x y : F12} {P : Prop} (e : x = y) (h : eqC f12k x y = false) : P := by rw [eq12s e] at h; cases h
theorem eqNo' {x y : F12} {P : Prop} (e : x = y) (h : (!eqC f12k x y) = true) : P := by rw [eq12s e] at h; cases h
theorem eqYes {x y : F12} (e : x = y) : (eqC f12k x y, ()) = (true, ()) := by rw [eq12s e]
theorem pe_1 (x : Fr) : eqC f12k (pe x) (1 : F12) = decide (x = 0) := by
  rw [eq12]
  by_cases h : x = 0
  · rw [decide_eq_true h, decide_eq_true ((pe_iff x).2 h)]
  · rw [decide_eq_false h, decide_eq_false fun e => h ((pe_iff x).1 e)]
theorem chk_val {xs ys : List Fr} (h : xs.length = ys.length) : chkF (mp1 xs) (mp2 ys) = decide (dotk xs ys xs.length = 0) := by
  have h1 : (mp1 xs).length = (mp2 ys).length := by rw [mp1, mp2, List.length_map, List.length_map, h]
  rw [chkF, decide_eq_true h1]
  show eqC f12k (fino (lino (mp1 xs) (mp2 ys))) (1 : F12) = _
  rw [pairs_val h, pe_1]
theorem chk_len {xs ys : List Fr} (h : xs.length ≠ ys.length) : chkF (mp1 xs) (mp2 ys) = false := by
  have h1 : ¬ (mp1 xs).length = (mp2 ys).length := by rw [mp1, mp2, List.length_map, List.length_map]; exact h
  rw [chkF, decide_eq_false h1]
theorem g1_1 : g1.gmul g1.gG 1 = g1.gG := g1.mul_one g1.sub_G
theorem g2_1 : g2.gmul g2.gG 1 = g2.gG := g2.mul_one g2.sub_G
theorem fr_one_ne : (1 : Fr) ≠ 0 := Fd.one_ne
theorem pair_one : fino (lino [g1.gG] [g2.gG]) = pe 1 := by
  have h := pair_val 1 1
  rwa [g1_1, g2_1, Rg.one_mul] at h
theorem pair_l (x : Fr) : fino (lino [g1.gmul g1.gG x] [g2.gG]) = pe x := by
  have h := pair_val x 1
  rwa [g2_1, Rg.mul_one] at h
theorem pair_O1 : fino (lino [((0 : Fp), (0 : Fp))] [g2.gG]) = (1 : F12) := by
  have h := pair_l 0
  rwa [g1.mul_zero g1.sub_G, pe_zero] at h
theorem pair_O2 (x : Fr) : fino (lino [g1.gmul g1.gG x] [(((0 : Fp), (0 : Fp)), (0 : Fp), (0 : Fp))]) = (1 : F12) := by
  have h := pair_val x 0
  rwa [g2.mul_zero g2.sub_G, Rg.mul_zero, pe_zero] at h
theorem pow_val (x : Fr) {e : List Int} (he : num e = x.v) (y : Fr) : pwo (pe y) (num e).toNat = pe (y * x) := by rw [pwo, opq_eq, he, pe_mul]
theorem ent_head : enters Tryz.prog 8 Tryz.f8 := enters_mk (by kernel_rfl) (by kernel_rfl) (by kernel_rfl)
theorem fn_head : FnOk Tryz.prog 8 [] [.val .bool] noG (fun _ => True) (fun _ => (true, ())) := by
  refine fn_of_vc (sp := sps [g1.soGen, g2.soGen, pairing.spPair, tower.spOne, g1.soNeg, spCheck]) (sps_cons (fnSpec_ok g1.fo_gen) (sps_cons (fnSpec_ok g2.fo_gen) (sps_cons (fnSpec_ok fn_pair) (sps_cons (fnSpec_ok tower.fn_one) (sps_cons (fnSpec_ok g1.fo_neg) (sps_cons (fnSpec_ok fn_check) sps_nil)))))) mixed ent_head (by decide) (by decide) ?_
  rintro w M0 ⟨⟩ _ _
  refine vcx (X := (True ∧ True ∧ True ∧ True ∧ ((!eqC (((Kd.fp.pair Kd.fp).pair ((Kd.fp.pair Kd.fp).pair (Kd.fp.pair Kd.fp))).pair ((Kd.fp.pair Kd.fp).pair ((Kd.fp.pair Kd.fp).pair (Kd.fp.pair Kd.fp)))) (fino (lino [g1.gG] [g2.gG])) ((((1 : Fp), (0 : Fp)), ((0 : Fp), (0 : Fp)), (0 : Fp), (0 : Fp)), ((0 : Fp), (0 : Fp)), ((0 : Fp), (0 : Fp)), (0 : Fp), (0 : Fp))) = true → True ∧ True ∧ True ∧ True ∧ True ∧ (0 : Nat) + (2 : Nat) ≤ (2 : Nat) ∧ (0 : Nat) + (2 : Nat) ≤ (2 : Nat) ∧ preChk (List.take (2 : Nat) [g1.gG, g1.gneg g1.gG], List.take (2 : Nat) [g2.gG, g2.gG], ()) ∧ (chkF (List.take (2 : Nat) [g1.gG, g1.gneg g1.gG]) (List.take (2 : Nat) [g2.gG, g2.gG]) = true → preChk ([], [], ()) ∧ (chkF [] [], ()) = (true, ())) ∧ (chkF (List.take (2 : Nat) [g1.gG, g1.gneg g1.gG]) (List.take (2 : Nat) [g2.gG, g2.gG]) = false → (false, ()) = (true, ()))) ∧ ((!eqC (((Kd.fp.pair Kd.fp).pair ((Kd.fp.pair Kd.fp).pair (Kd.fp.pair Kd.fp))).pair ((Kd.fp.pair Kd.fp).pair ((Kd.fp.pair Kd.fp).pair (Kd.fp.pair Kd.fp)))) (fino (lino [g1.gG] [g2.gG])) ((((1 : Fp), (0 : Fp)), ((0 : Fp), (0 : Fp)), (0 : Fp), (0 : Fp)), ((0 : Fp), (0 : Fp)), ((0 : Fp), (0 : Fp)), (0 : Fp), (0 : Fp))) = false → (false, ()) = (true, ())))) (by kernel_rfl) ?_
  have e1 : eqC f12k (fino (lino [g1.gG] [g2.gG])) (1 : F12) = false := by
    rw [pair_one, pe_1, decide_eq_false fr_one_ne]
  have m1 : mp1 [1, -1] = [g1.gG, g1.gneg g1.gG] := by
    show [g1.gmul g1.gG 1, g1.gmul g1.gG (-1)] = _
    rw [g1.mul_neg g1.sub_G, g1_1, g1.gneg_eq]
  have m2 : mp2 [1, 1] = [g2.gG, g2.gG] := by
    show [g2.gmul g2.gG 1, g2.gmul g2.gG 1] = _
    rw [g2_1]
  have c1 : chkF [g1.gG, g1.gneg g1.gG] [g2.gG, g2.gG] = true := by
    rw [← m1, ← m2, chk_val (xs := [1, -1]) (ys := [1, 1]) rfl]
    refine decide_eq_true ?_
    show (0 + 1 * 1 + -1 * 1 : Fr) = 0
    rw [Rg.mul_one, Rg.mul_one, Rg.zero_add, Rg.add_neg]
  have c2 : chkF [] [] = true := by
    have h : chkF (mp1 []) (mp2 []) = true := by
      rw [chk_val (xs := []) (ys := []) rfl]; exact decide_eq_true rfl
    exact h
  have p1 : preChk ([g1.gG, g1.gneg g1.gG], [g2.gG, g2.gG], ()) := by
    show cnt _ ≤ _
    rw [cnt, opq_eq]; exact (by decide : 2 ≤ 1048576)
  have p2 : preChk ([], [], ()) := by
    show cnt _ ≤ _
    rw [cnt, opq_eq]; exact Nat.zero_le _
  refine ⟨trivial, trivial, trivial, trivial, fun _ => ⟨trivial, trivial, trivial, trivial, trivial, by decide, by decide, p1, fun _ => ⟨p2, ?_⟩, fun h => ?_⟩, fun h => ?_⟩
  · rw [c2]
  · have h : chkF [g1.gG, g1.gneg g1.gG] [g2.gG, g2.gG] = false := h
    rw [c1] at h; cases h
  · have h : (!eqC f12k (fino (lino [g1.gG] [g2.gG])) (1 : F12)) = false := h
    rw [e1] at h; cases h
noncomputable def spHead : Nat × Eng.Spec := (8, fnSpec [] [.val .bool] (fun _ => True) (fun _ => (true, ())))
end Go.Proofs.YtoflhakneklimaaGreat.law10
/- PairSums: the walk. -/
namespace Go.Proofs.YtoflhakneklimaaGreat.law10
set_option maxRecDepth 100000
open Go Go.Eng Go.RowKit Cr Go.Proofs.YtoflhakneklimaaGreat Go.Proofs.YtoflhakneklimaaGreat.fp2 Go.Proofs.YtoflhakneklimaaGreat.tower Go.Proofs.YtoflhakneklimaaGreat.pairing
theorem ent_psm : enters Tryz.prog 7 Tryz.f7 := enters_mk (by kernel_rfl) (by kernel_rfl) (by kernel_rfl)
abbrev pre_psm : HL [bsl, bsl, bsl] → Prop := fun (a, b, c, _) => preB a ∧ preB b ∧ preB c
theorem fn_psm : FnOk Tryz.prog 7 [bsl, bsl, bsl] [.val .bool] noG pre_psm (fun _ => (true, ())) := by
  refine fn_of_vc (sp := sps [spHead, spLong, spScalar, g1.soGen, g1.soMul, g1.soAdd, g2.soGen, g2.soMul, g2.soAdd, pairing.spPair, tower.spMul]) (sps_cons (fnSpec_ok fn_head) (sps_cons (fnSpec_ok fn_long) (sps_cons (fnSpec_ok fn_scalar) (sps_cons (fnSpec_ok g1.fo_gen) (sps_cons (fnSpec_ok g1.fo_mul) (sps_cons (fnSpec_ok g1.fo_add) (sps_cons (fnSpec_ok g2.fo_gen) (sps_cons (fnSpec_ok g2.fo_mul) (sps_cons (fnSpec_ok g2.fo_add) (sps_cons (fnSpec_ok fn_pair) (sps_cons (fnSpec_ok tower.fn_mul) sps_nil))))))))))) mixed ent_psm (by decide) (by decide) ?_
  rintro w M0 ⟨a, b, c, ⟨⟩⟩
  revert a b c
  intro (a : List Int) (b : List Int) (c : List Int) _ hp
  obtain ⟨h1, h2, h3⟩ := hp
  refine vcx (X := (True ∧ ((!true) = true → (false, ()) = (true, ())) ∧ ((!true) = false → True ∧ (lng a b c = true → (true, ()) = (true, ())) ∧ (lng a b c = false → True ∧ preSca (a, ()) ∧ True ∧ True ∧ preSca (b, ()) ∧ True ∧ True ∧ preSca (c, ()) ∧ True ∧ True ∧ preSca (a, ()) ∧ True ∧ True ∧ True ∧ True ∧ True ∧ True ∧ ((!eqC (((Kd.fp.pair Kd.fp).pair ((Kd.fp.pair Kd.fp).pair (Kd.fp.pair Kd.fp))).pair ((Kd.fp.pair Kd.fp).pair ((Kd.fp.pair Kd.fp).pair (Kd.fp.pair Kd.fp)))) (fino (lino [g1.gadd (g1.gmul g1.gG (sca a)) (g1.gmul g1.gG (sca b))] [g2.gmul g2.gG (sca c)])) (fino (lino [g1.gmul g1.gG (sca a)] [g2.gmul g2.gG (sca c)]) * fino (lino [g1.gmul g1.gG (sca b)] [g2.gmul g2.gG (sca c)]))) = true → (false, ()) = (true, ())) ∧ ((!eqC (((Kd.fp.pair Kd.fp).pair ((Kd.fp.pair Kd.fp).pair (Kd.fp.pair Kd.fp))).pair ((Kd.fp.pair Kd.fp).pair ((Kd.fp.pair Kd.fp).pair (Kd.fp.pair Kd.fp)))) (fino (lino [g1.gadd (g1.gmul g1.gG (sca a)) (g1.gmul g1.gG (sca b))] [g2.gmul g2.gG (sca c)])) (fino (lino [g1.gmul g1.gG (sca a)] [g2.gmul g2.gG (sca c)]) * fino (lino [g1.gmul g1.gG (sca b)] [g2.gmul g2.gG (sca c)]))) = false → True ∧ True ∧ True ∧ True ∧ True ∧ (eqC (((Kd.fp.pair Kd.fp).pair ((Kd.fp.pair Kd.fp).pair (Kd.fp.pair Kd.fp))).pair ((Kd.fp.pair Kd.fp).pair ((Kd.fp.pair Kd.fp).pair (Kd.fp.pair Kd.fp)))) (fino (lino [g1.gmul g1.gG (sca a)] [g2.gadd (g2.gmul g2.gG (sca c)) (g2.gmul g2.gG (sca a))])) (fino (lino [g1.gmul g1.gG (sca a)] [g2.gmul g2.gG (sca c)]) * fino (lino [g1.gmul g1.gG (sca a)] [g2.gmul g2.gG (sca a)])), ()) = (true, ())))))) (by kernel_rfl) ?_
  refine ⟨trivial, fun h => absurd h (by decide), fun _ => ⟨trivial, fun _ => rfl, fun _ => ?_⟩⟩
  have e1 : fino (lino [g1.gadd (g1.gmul g1.gG (sca a)) (g1.gmul g1.gG (sca b))] [g2.gmul g2.gG (sca c)]) = fino (lino [g1.gmul g1.gG (sca a)] [g2.gmul g2.gG (sca c)]) * fino (lino [g1.gmul g1.gG (sca b)] [g2.gmul g2.gG (sca c)]) := by
    rw [g1.gadd_eq (g1.gmul_on g1.gG_on _) (g1.gmul_on g1.gG_on _), ← g1.mul_add g1.sub_G, pair_val, pair_val, pair_val, ← pe_add, Rg.add_mul]
  have e2 : fino (lino [g1.gmul g1.gG (sca a)] [g2.gadd (g2.gmul g2.gG (sca c)) (g2.gmul g2.gG (sca a))]) = fino (lino [g1.gmul g1.gG (sca a)] [g2.gmul g2.gG (sca c)]) * fino (lino [g1.gmul g1.gG (sca a)] [g2.gmul g2.gG (sca a)]) := by
    rw [g2.gadd_eq (g2.gmul_on g2.gG_on _) (g2.gmul_on g2.gG_on _), ← g2.mul_add g2.sub_G, pair_val, pair_val, pair_val, ← pe_add, Rg.mul_add]
  refine ⟨trivial, h1, trivial, trivial, h2, trivial, trivial, h3, trivial, trivial, h1, ?_⟩
  repeat (refine ⟨trivial, ?_⟩)
  refine ⟨eqNo' e1, fun _ => ?_⟩
  repeat (refine ⟨trivial, ?_⟩)
  exact eqYes e2
end Go.Proofs.YtoflhakneklimaaGreat.law10
namespace Go.Proofs.YtoflhakneklimaaGreat
set_option maxRecDepth 100000
open Go Go.Eng Go.RowKit Cr Go.ChangeShapes Go.WideShapes Go.ChangeAt

namespace pairSums
theorem own : ownKnob Tryz.prog.godebug = none := by kernel_rfl
theorem laidOut : laidOutB Tryz.prog = true := by kernel_rfl
abbrev wtB : Car bsl → Prop := fun ys => List.length ys * Tryz.prog.bytesOf 5 ≤ reachBytes ∧ ∀ y ∈ ys, (Lit.int .u8 y).wf = true
theorem oB : OpnV Tryz.prog 22 bsl wtB := opnV_slice (e := 5) (by kernel_rfl) (by kernel_rfl) (by decide) (opnC_int (by kernel_rfl))
theorem bytes5 : Tryz.prog.bytesOf 5 = 1 := by kernel_rfl
theorem pB {xs : List Int} (h : wtB xs) : preB xs := by
  obtain ⟨h1, h2⟩ := h
  rw [bytes5] at h1
  refine ⟨fun x hx => ?_, ?_⟩
  · have := h2 x hx
    simp [Lit.wf, IntKind.min, IntKind.max, IntKind.signed, IntKind.bits] at this
    omega
  · show List.length xs ≤ _
    simp only [reachBytes] at h1
    omega
theorem opened : OpnL Tryz.prog [22, 22, 22] [bsl, bsl, bsl] (fun x => wtB x.1 ∧ wtB x.2.1 ∧ wtB x.2.2.1 ∧ True) :=
  .cons oB (by kernel_rfl) (of_decide_eq_true (by kernel_rfl)) (.cons oB (by kernel_rfl) (of_decide_eq_true (by kernel_rfl)) (.cons oB (by kernel_rfl) (of_decide_eq_true (by kernel_rfl)) .nil))
theorem lifted (os : Os) (started : os.Started) (H : Type) (enc : TypeId × Value → H) :
    ReturnsInHanded {} Tryz.checked os 7 .any (Rows.pairSumsSpec.pre6 enc Tryz.prog Tryz.f7 Rows.pairSumsRow.domain false) (Rows.pairSumsSpec.post enc Tryz.prog Tryz.f7 false true false false) := by
  refine returnsInHanded_of_change_sized (C := Tryz.checked) own started (by kernel_rfl) Tryz.func7
    (ChangeSpec.witness6 (enc := enc) (C := Tryz.checked) false ⟨#[], #[.slice none 0 0, .slice none 0 0, .slice none 0 0], []⟩ 8 (by kernel_rfl) (by kernel_rfl) (by kernel_rfl) (by kernel_rfl)) ?_
  intro W base args ds gs before hval hW _ hsz _
  refine law_row (C := Tryz.checked) (bt := 4) (ts := [22, 22, 22]) law10.ent_psm law10.fn_psm laidOut (by kernel_rfl) (by kernel_rfl) (by kernel_rfl) opened ?_ rfl ?_ W base args ds gs before hval hW hsz
  · rintro ⟨x0, x1, x2, ⟨⟩⟩ ⟨h0, h1, h2, _⟩
    exact ⟨pB h0, pB h1, pB h2⟩
  · intro ds hl
    match ds, hl with
    | [d0, d1, d2], _ => rfl

theorem proved : Rows.PairSumsSaid :=
  OpenClaim.holds_of_wide 7 Tryz.f7 rfl rfl rfl rfl rfl rfl rfl ⟨rfl, rfl, rfl, rfl, rfl⟩ rfl rfl rfl rfl rfl (by kernel_rfl) Tryz.func7 (by kernel_rfl)
    (of_decide_eq_true (by kernel_rfl)) (by unfold Func.isWrapper; first | (rw [if_pos (by decide +kernel)]; kernel_rfl) | (rw [if_neg (by decide +kernel)]; exact ⟨rfl, rfl⟩))
    (fun os started H enc _ => lifted os started H enc)
#print axioms proved
end pairSums
end Go.Proofs.YtoflhakneklimaaGreat
