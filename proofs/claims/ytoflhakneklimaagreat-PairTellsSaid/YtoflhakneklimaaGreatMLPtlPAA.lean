/- PairTells, for every input: true; the input reads as it did. No condition. -/
import Derived.Test.YtoflhakneklimaaGreatMLPtlPZ
/- What rows ask of their arguments. -/
namespace Go.Proofs.YtoflhakneklimaaGreat
open Go Go.Eng Cr
abbrev bsl : Kd := .sl (.int .u8)
/-- Bytes of an input. -/
abbrev preB (b : List Int) : Prop := Bs b ∧ List.length b ≤ 281474976710656
abbrev preBB (bs : List (List Int)) : Prop := (∀ b ∈ bs, preB b) ∧ List.length bs ≤ 281474976710656
abbrev preW (x : Int) : Prop := 0 ≤ x ∧ x < 65536
abbrev preY (x : Int) : Prop := 0 ≤ x ∧ x < 256
abbrev preI (x : Int) : Prop := -9223372036854775808 ≤ x ∧ x < 9223372036854775808
abbrev preL (_ : Bool) : Prop := True
abbrev preIS (xs : List Int) : Prop := (∀ x ∈ xs, preI x) ∧ List.length xs ≤ 17592186044416
end Go.Proofs.YtoflhakneklimaaGreat
/- Helpers of laws. -/
namespace Go.Proofs.YtoflhakneklimaaGreat
open Go Go.Eng Cr
abbrev eq2 (p q : Fp × Fp) : Bool := decide (p.1 = q.1) && decide (p.2 = q.2)
theorem eq2_eq (p q : Fp × Fp) : eq2 p q = decide (p = q) := dec_pair p q
theorem eq2_of {p q : Fp × Fp} (h : p = q) : eq2 p q = true := by rw [eq2_eq]; exact decide_eq_true h
theorem ne2_of {p q : Fp × Fp} (h : p ≠ q) : (!eq2 p q) = true := by rw [eq2_eq]; simp [h]
/-- A test that must hold: else the answer is false. -/
def Ck (c : Bool) (T : Prop) : Prop := (c = true → T) ∧ (c = false → ((false, ()) : Bool × Unit) = (true, ()))
theorem ck {c : Bool} {T : Prop} (h : c = true) (t : T) : Ck c T := ⟨fun _ => t, fun e => by rw [h] at e; cases e⟩
/-- A test that must fail: else the answer is false. -/
def Cn (c : Bool) (T : Prop) : Prop := (c = true → ((false, ()) : Bool × Unit) = (true, ())) ∧ (c = false → T)
theorem cn {c : Bool} {T : Prop} (h : c = false) (t : T) : Cn c T := ⟨fun e => absurd e (by rw [h]; decide), fun _ => t⟩
theorem eqP (a b : Fp × Fp) : eqC (.pair .fp .fp) a b = decide (a = b) := by
  have h := eqC_iff (e := .pair .fp .fp) a b
  rw [Bool.eq_iff_iff, h, decide_eq_true_iff]
theorem eqF (a b : Fp) : eqC .fp a b = decide (a = b) := rfl
theorem eqR (a b : Fr) : eqC .fr a b = decide (a = b) := rfl
abbrev ok (b : Bool) : Prop := ((b, ()) : Bool × Unit) = (true, ())
end Go.Proofs.YtoflhakneklimaaGreat
/- law10: head, scalar, long. -/
namespace Go.Proofs.YtoflhakneklimaaGreat.law10
set_option maxRecDepth 100000
open Go Go.Eng Go.RowKit Cr Go.Proofs.YtoflhakneklimaaGreat Go.Proofs.YtoflhakneklimaaGreat.fp2 Go.Proofs.YtoflhakneklimaaGreat.tower Go.Proofs.YtoflhakneklimaaGreat.pairing

theorem ent_scalar : enters Tryz.prog 10 Tryz.f10 := enters_mk (by kernel_rfl) (by kernel_rfl) (by kernel_rfl)
noncomputable def sca (b : List Int) : Fr := opq (zm (num b))
abbrev preSca : HL [.sl (.int .u8)] → Prop := fun (b, _) => Bs b ∧ List.length b ≤ 281474976710656
noncomputable abbrev outSca : HL [.sl (.int .u8)] → HO [.val .fr] := fun (b, _) => (sca b, ())
theorem fn_scalar : FnOk Tryz.prog 10 [.sl (.int .u8)] [.val .fr] noG preSca outSca := by
  refine fn_of_vc (sp := sps [ref01.spCopy, fr.spWide]) (sps_cons (fnSpec_ok ref01.fn_copy) (sps_cons (fnSpec_ok fr.fn_wide) sps_nil)) mixed ent_scalar (by decide) (by decide) ?_
  rintro w M0 ⟨b, ⟨⟩⟩
  revert b
  intro (b : List Int) _ hp
  obtain ⟨h1, h2⟩ := hp
  have h2 : b.length ≤ 281474976710656 := h2
  refine vcx (X := (ref01.preCopy (b, ()) ∧ 0 + b.length ≤ b.length ∧ fr.preWide (b.take b.length, ()) ∧ ((zm (num (b.take b.length)) : Fr), ()) = outSca (b, ()))) (by kernel_rfl) ?_
  rw [List.take_length]
  refine ⟨h2, by omega, ⟨h1, by show b.length < _; omega⟩, ?_⟩
  show _ = (sca b, ())
  rw [sca, opq_eq]
noncomputable def spScalar : Nat × Eng.Spec := (10, fnSpec [.sl (.int .u8)] [.val .fr] preSca outSca)

theorem ent_long : enters Tryz.prog 9 Tryz.f9 := enters_mk (by kernel_rfl) (by kernel_rfl) (by kernel_rfl)
def lng (a b c : List Int) : Bool := decide ((a.length : Int) > 100) || (decide ((b.length : Int) > 100) || decide ((c.length : Int) > 100))
abbrev outLong : HL [.sl (.int .u8), .sl (.int .u8), .sl (.int .u8)] → HO [.val .bool] := fun (a, b, c, _) => (lng a b c, ())
theorem fn_long : FnOk Tryz.prog 9 [.sl (.int .u8), .sl (.int .u8), .sl (.int .u8)] [.val .bool] noG (fun _ => True) outLong := by
  refine fn_of_vc (sp := sps []) sps_nil mixed ent_long (by decide) (by decide) ?_
  rintro w M0 ⟨a, b, c, ⟨⟩⟩
  revert a b c
  intro (a : List Int) (b : List Int) (c : List Int) _ _
  refine vcx (X := ((decide ((a.length : Int) > 100) = true → (true, ()) = outLong (a, b, c, ())) ∧ (decide ((a.length : Int) > 100) = false → (decide ((b.length : Int) > 100) = true → (true, ()) = outLong (a, b, c, ())) ∧ (decide ((b.length : Int) > 100) = false → (decide ((c.length : Int) > 100), ()) = outLong (a, b, c, ()))))) (by kernel_rfl) ?_
  refine ⟨fun h => ?_, fun h => ⟨fun h2 => ?_, fun h2 => ?_⟩⟩
  all_goals show _ = (lng a b c, ())
  · simp only [lng, h, Bool.true_or]
  · simp only [lng, h, h2, Bool.true_or, Bool.or_true]
  · simp only [lng, h, h2, Bool.false_or]
noncomputable def spLong : Nat × Eng.Spec := (9, fnSpec [.sl (.int .u8), .sl (.int .u8), .sl (.int .u8)] [.val .bool] (fun _ => True) outLong)

theorem eq12 (x y : F12) : eqC f12k x y = decide (x = y) := by
  by_cases h : x = y
  · rw [(eqC_iff (e := f12k) x y).2 h, decide_eq_true h]
  · rw [decide_eq_false h]; exact Bool.eq_false_iff.2 fun e => h ((eqC_iff (e := f12k) x y).1 e)
theorem eq12s {x y : F12} (h : x = y) : eqC f12k x y = true := (eqC_iff (e := f12k) x y).2 h
theorem eqNo {x y : F12} {P : Prop} (e : x = y) (h : eqC f12k x y = false) : P := by rw [eq12s e] at h; cases h
theorem eqNo' {x y : F12} {P : Prop} (e : x = y) (h : (!eqC f12k x y) = true) : P := by rw [eq12s e] at h; cases h
theorem eqYes {x y : F12} (e : x = y) : (eqC f12k x y, ()) = (true, ()) := by rw [eq12s e]
theorem pe_1 (x : Fr) : eqC f12k (pe x) (1 : F12) = decide (x = 0) := by
  rw [eq12]
  by_cases h : x = 0
  · rw [decide_eq_true h, decide_eq_true ((pe_iff x).2 h)]
  · rw [decide_eq_false h, decide_eq_false fun e => h ((pe_iff x).1 e)]
theorem chk_val {xs ys : List Fr} (h : xs.length = ys.length) : chkF (mp1 xs) (mp2 ys) = decide (dotk xs ys xs.length = 0) := by
  have h1 : (mp1 xs).length = (mp2 ys).length := by rw [mp1, mp2, List.length_map, List.length_map, h]
  rw [chkF, decide_eq_true h1]
  show eqC f12k (fino (lino (mp1 xs) (mp2 ys))) (1 : F12) = _
  rw [pairs_val h, pe_1]
theorem chk_len {xs ys : List Fr} (h : xs.length ≠ ys.length) : chkF (mp1 xs) (mp2 ys) = false := by
  have h1 : ¬ (mp1 xs).length = (mp2 ys).length := by rw [mp1, mp2, List.length_map, List.length_map]; exact h
  rw [chkF, decide_eq_false h1]
theorem g1_1 : g1.gmul g1.gG 1 = g1.gG := g1.mul_one g1.sub_G
theorem g2_1 : g2.gmul g2.gG 1 = g2.gG := g2.mul_one g2.sub_G
theorem fr_one_ne : (1 : Fr) ≠ 0 := Fd.one_ne
theorem pair_one : fino (lino [g1.gG] [g2.gG]) = pe 1 := by
  have h := pair_val 1 1
  rwa [g1_1, g2_1, Rg.one_mul] at h
theorem pair_l (x : Fr) : fino (lino [g1.gmul g1.gG x] [g2.gG]) = pe x := by
  have h := pair_val x 1
  rwa [g2_1, Rg.mul_one] at h
theorem pair_O1 : fino (lino [((0 : Fp), (0 : Fp))] [g2.gG]) = (1 : F12) := by
  have h := pair_l 0
  rwa [g1.mul_zero g1.sub_G, pe_zero] at h
theorem pair_O2 (x : Fr) : fino (lino [g1.gmul g1.gG x] [(((0 : Fp), (0 : Fp)), (0 : Fp), (0 : Fp))]) = (1 : F12) := by
  have h := pair_val x 0
  rwa [g2.mul_zero g2.sub_G, Rg.mul_zero, pe_zero] at h
theorem pow_val (x : Fr) {e : List Int} (he : num e = x.v) (y : Fr) : pwo (pe y) (num e).toNat = pe (y * x) := by rw [pwo, opq_eq, he, pe_mul]
theorem ent_head : enters Tryz.prog 8 Tryz.f8 := enters_mk (by kernel_rfl) (by kernel_rfl) (by kernel_rfl)
theorem fn_head : FnOk Tryz.prog 8 [] [.val .bool] noG (fun _ => True) (fun _ => (true, ())) := by
  refine fn_of_vc (sp := sps [g1.soGen, g2.soGen, pairing.spPair, tower.spOne, g1.soNeg, spCheck]) (sps_cons (fnSpec_ok g1.fo_gen) (sps_cons (fnSpec_ok g2.fo_gen) (sps_cons (fnSpec_ok fn_pair) (sps_cons (fnSpec_ok tower.fn_one) (sps_cons (fnSpec_ok g1.fo_neg) (sps_cons (fnSpec_ok fn_check) sps_nil)))))) mixed ent_head (by decide) (by decide) ?_
  rintro w M0 ⟨⟩ _ _
  refine vcx (X := (True ∧ True ∧ True ∧ True ∧ ((!eqC (((Kd.fp.pair Kd.fp).pair ((Kd.fp.pair Kd.fp).pair (Kd.fp.pair Kd.fp))).pair ((Kd.fp.pair Kd.fp).pair ((Kd.fp.pair Kd.fp).pair (Kd.fp.pair Kd.fp)))) (fino (lino [g1.gG] [g2.gG])) ((((1 : Fp), (0 : Fp)), ((0 : Fp), (0 : Fp)), (0 : Fp), (0 : Fp)), ((0 : Fp), (0 : Fp)), ((0 : Fp), (0 : Fp)), (0 : Fp), (0 : Fp))) = true → True ∧ True ∧ True ∧ True ∧ True ∧ (0 : Nat) + (2 : Nat) ≤ (2 : Nat) ∧ (0 : Nat) + (2 : Nat) ≤ (2 : Nat) ∧ preChk (List.take (2 : Nat) [g1.gG, g1.gneg g1.gG], List.take (2 : Nat) [g2.gG, g2.gG], ()) ∧ (chkF (List.take (2 : Nat) [g1.gG, g1.gneg g1.gG]) (List.take (2 : Nat) [g2.gG, g2.gG]) = true → preChk ([], [], ()) ∧ (chkF [] [], ()) = (true, ())) ∧ (chkF (List.take (2 : Nat) [g1.gG, g1.gneg g1.gG]) (List.take (2 : Nat) [g2.gG, g2.gG]) = false → (false, ()) = (true, ()))) ∧ ((!eqC (((Kd.fp.pair Kd.fp).pair ((Kd.fp.pair Kd.fp).pair (Kd.fp.pair Kd.fp))).pair ((Kd.fp.pair Kd.fp).pair ((Kd.fp.pair Kd.fp).pair (Kd.fp.pair Kd.fp)))) (fino (lino [g1.gG] [g2.gG])) ((((1 : Fp), (0 : Fp)), ((0 : Fp), (0 : Fp)), (0 : Fp), (0 : Fp)), ((0 : Fp), (0 : Fp)), ((0 : Fp), (0 : Fp)), (0 : Fp), (0 : Fp))) = false → (false, ()) = (true, ())))) (by kernel_rfl) ?_
  have e1 : eqC f12k (fino (lino [g1.gG] [g2.gG])) (1 : F12) = false := by
    rw [pair_one, pe_1, decide_eq_false fr_one_ne]
  have m1 : mp1 [1, -1] = [g1.gG, g1.gneg g1.gG] := by
    show [g1.gmul g1.gG 1, g1.gmul g1.gG (-1)] = _
    rw [g1.mul_neg g1.sub_G, g1_1, g1.gneg_eq]
  have m2 : mp2 [1, 1] = [g2.gG, g2.gG] := by
    show [g2.gmul g2.gG 1, g2.gmul g2.gG 1] = _
    rw [g2_1]
  have c1 : chkF [g1.gG, g1.gneg g1.gG] [g2.gG, g2.gG] = true := by
    rw [← m1, ← m2, chk_val (xs := [1, -1]) (ys := [1, 1]) rfl]
    refine decide_eq_true ?_
    show (0 + 1 * 1 + -1 * 1 : Fr) = 0
    rw [Rg.mul_one, Rg.mul_one, Rg.zero_add, Rg.add_neg]
  have c2 : chkF [] [] = true := by
    have h : chkF (mp1 []) (mp2 []) = true := by
      rw [chk_val (xs := []) (ys := []) rfl]; exact decide_eq_true rfl
    exact h
  have p1 : preChk ([g1.gG, g1.gneg g1.gG], [g2.gG, g2.gG], ()) := by
    show cnt _ ≤ _
    rw [cnt, opq_eq]; exact (by decide : 2 ≤ 1048576)
  have p2 : preChk ([], [], ()) := by
    show cnt _ ≤ _
    rw [cnt, opq_eq]; exact Nat.zero_le _
  refine ⟨trivial, trivial, trivial, trivial, fun _ => ⟨trivial, trivial, trivial, trivial, trivial, by decide, by decide, p1, fun _ => ⟨p2, ?_⟩, fun h => ?_⟩, fun h => ?_⟩
  · rw [c2]
  · have h : chkF [g1.gG, g1.gneg g1.gG] [g2.gG, g2.gG] = false := h
    rw [c1] at h; cases h
  · have h : (!eqC f12k (fino (lino [g1.gG] [g2.gG])) (1 : F12)) = false := h
    rw [e1] at h; cases h
noncomputable def spHead : Nat × Eng.Spec := (8, fnSpec [] [.val .bool] (fun _ => True) (fun _ => (true, ())))
end Go.Proofs.YtoflhakneklimaaGreat.law10
/- power, Inv of package fr. Printed by gen_pow.py. -/
namespace Go.Proofs.YtoflhakneklimaaGreat.fr
set_option maxRecDepth 100000
open Go Go.Eng Go.RowKit Cr Go.Proofs.YtoflhakneklimaaGreat

abbrev prePower : HL [.fr, (.arr 4 (.int .u64))] → Prop := fun (_, es, _) => Ws es
noncomputable abbrev outPower : HL [.fr, (.arr 4 (.int .u64))] → HO [.val .fr] := fun (x, es, _) => (zpw (x : Fr) (val es), ())

/-- x to the power of the modulus less 2. -/
noncomputable def zinv (x : Fr) : Fr := zpw x 52435875175126190479447740508185965837690552500527637822603658699938581184511
noncomputable abbrev outInv : HL [.fr] → HO [.val .fr] := fun (x, _) => (zinv (x : Fr), ())
theorem val_pm2 : val [18446744069414584319, 6034159408538082302, 3691218898639771653, 8353516859464449352] = 52435875175126190479447740508185965837690552500527637822603658699938581184511 := by decide
end Go.Proofs.YtoflhakneklimaaGreat.fr
/- fr.Zero. -/
namespace Go.Proofs.YtoflhakneklimaaGreat.fr
set_option maxRecDepth 100000
open Go Go.Eng Go.RowKit Cr Go.Proofs.YtoflhakneklimaaGreat
theorem ent_zero : enters Tryz.prog 25 Tryz.f25 := enters_mk (by kernel_rfl) (by kernel_rfl) (by kernel_rfl)
abbrev outZero : HL [.fr] → HO [.val .bool] := fun (x, _) => (decide ((x : Fr) = 0), ())
theorem fn_zero : FnOk Tryz.prog 25 [.fr] [.val .bool] noG (fun _ => True) outZero := by
  refine fn_of_vc (sp := sps []) sps_nil mixed ent_zero (by decide) (by decide) ?_
  rintro w M0 ⟨x, ⟨⟩⟩
  revert x
  intro (x : Fr) _ _
  refine vcx (X := ((eqC Kd.fr x (0 : Fr), ()) = outZero (x, ()))) (by kernel_rfl) ?_
  rfl
noncomputable def spZero : Nat × Eng.Spec := (25, fnSpec [.fr] [.val .bool] (fun _ => True) outZero)
end Go.Proofs.YtoflhakneklimaaGreat.fr
/- PairTells: the walk. -/
namespace Go.Proofs.YtoflhakneklimaaGreat.law10
set_option maxRecDepth 100000
open Go Go.Eng Go.RowKit Cr Go.Proofs.YtoflhakneklimaaGreat Go.Proofs.YtoflhakneklimaaGreat.fp2 Go.Proofs.YtoflhakneklimaaGreat.tower Go.Proofs.YtoflhakneklimaaGreat.pairing
theorem ptl_end {f : F12} {x : Fr} (hf : f = pe x) {E : List Int} (hE : num E = (rN : Int) ∧ Bs E ∧ E.length ≤ 1048576) :
    prePow (f, E, ()) ∧ True ∧ (eqC f12k (pwo f (num E).toNat) (1 : F12) = true → True ∧ True ∧ True ∧ (eqC f12k (f * cjo f) (1 : F12), ()) = (true, ())) ∧ (eqC f12k (pwo f (num E).toNat) (1 : F12) = false → (false, ()) = (true, ())) := by
  have e1 : pwo f (num E).toNat = 1 := by rw [hE.1, hf, pwo, opq_eq, Int.toNat_natCast, pe_r]
  have e2 : f * cjo f = 1 := by rw [hf]; exact pe_conj x
  exact ⟨hE.2, trivial, fun _ => ⟨trivial, trivial, trivial, eqYes e2⟩, eqNo e1⟩
theorem ptl_E : num (List.take (32 : Nat) ((bytesN (32 : Nat) (-zmr (1 : Int)).v).set (31 : Nat) (IntKind.u8.wrap ((-zmr (1 : Int)).v / p256 ((32 : Nat) - (1 : Nat) - 31) % (256 : Int) + (1 : Int))))) = (rN : Int) ∧ Bs (List.take (32 : Nat) ((bytesN (32 : Nat) (-zmr (1 : Int)).v).set (31 : Nat) (IntKind.u8.wrap ((-zmr (1 : Int)).v / p256 ((32 : Nat) - (1 : Nat) - 31) % (256 : Int) + (1 : Int))))) ∧ (List.take (32 : Nat) ((bytesN (32 : Nat) (-zmr (1 : Int)).v).set (31 : Nat) (IntKind.u8.wrap ((-zmr (1 : Int)).v / p256 ((32 : Nat) - (1 : Nat) - 31) % (256 : Int) + (1 : Int))))).length ≤ 1048576 := by
  refine ⟨of_decide_eq_true (by kernel_rfl), ?_, of_decide_eq_true (by kernel_rfl)⟩
  intro x hx
  have h : (List.take (32 : Nat) ((bytesN (32 : Nat) (-zmr (1 : Int)).v).set (31 : Nat) (IntKind.u8.wrap ((-zmr (1 : Int)).v / p256 ((32 : Nat) - (1 : Nat) - 31) % (256 : Int) + (1 : Int))))).all (fun x => decide (0 ≤ x) && decide (x < 256)) = true := by kernel_rfl
  have h2 := List.all_eq_true.1 h x hx
  rw [Bool.and_eq_true] at h2
  exact ⟨of_decide_eq_true h2.1, of_decide_eq_true h2.2⟩
theorem ent_ptl : enters Tryz.prog 6 Tryz.f6 := enters_mk (by kernel_rfl) (by kernel_rfl) (by kernel_rfl)
abbrev pre_ptl : HL [bsl, bsl] → Prop := fun (a, b, _) => preB a ∧ preB b
theorem fn_ptl : FnOk Tryz.prog 6 [bsl, bsl] [.val .bool] noG pre_ptl (fun _ => (true, ())) := by
  refine fn_of_vc (sp := sps [spHead, spLong, spScalar, fr.spNeg, fr.spBytes, fr.spZero, fr.spOf, g1.soGen, g1.soMul, g2.soGen, g2.soMul, pairing.spPair, tower.spOne, tower.spMul, tower.spPower, soConj]) (sps_cons (fnSpec_ok fn_head) (sps_cons (fnSpec_ok fn_long) (sps_cons (fnSpec_ok fn_scalar) (sps_cons (fnSpec_ok fr.fn_neg) (sps_cons (fnSpec_ok fr.fn_bytes) (sps_cons (fnSpec_ok fr.fn_zero) (sps_cons (fnSpec_ok fr.fn_of) (sps_cons (fnSpec_ok g1.fo_gen) (sps_cons (fnSpec_ok g1.fo_mul) (sps_cons (fnSpec_ok g2.fo_gen) (sps_cons (fnSpec_ok g2.fo_mul) (sps_cons (fnSpec_ok fn_pair) (sps_cons (fnSpec_ok tower.fn_one) (sps_cons (fnSpec_ok tower.fn_mul) (sps_cons (fnSpec_ok tower.fn_power) (sps_cons (fnSpec_ok fo_conj) sps_nil)))))))))))))))) mixed ent_ptl (by decide) (by decide) ?_
  rintro w M0 ⟨a, b, ⟨⟩⟩
  revert a b
  intro (a : List Int) (b : List Int) _ hp
  obtain ⟨h1, h2⟩ := hp
  refine vcx (X := (True ∧ ((!true) = true → (false, ()) = (true, ())) ∧ ((!true) = false → True ∧ (lng a b [] = true → (true, ()) = (true, ())) ∧ (lng a b [] = false → preSca (a, ()) ∧ preSca (b, ()) ∧ True ∧ True ∧ True ∧ True ∧ True ∧ True ∧ True ∧ (decide (sca a = (0 : Zm Mr)) = true → ((!eqC (((Kd.fp.pair Kd.fp).pair ((Kd.fp.pair Kd.fp).pair (Kd.fp.pair Kd.fp))).pair ((Kd.fp.pair Kd.fp).pair ((Kd.fp.pair Kd.fp).pair (Kd.fp.pair Kd.fp)))) (fino (lino [g1.gmul g1.gG (sca a)] [g2.gmul g2.gG (sca b)])) ((((1 : Fp), (0 : Fp)), ((0 : Fp), (0 : Fp)), (0 : Fp), (0 : Fp)), ((0 : Fp), (0 : Fp)), ((0 : Fp), (0 : Fp)), (0 : Fp), (0 : Fp)) == true) = true → (false, ()) = (true, ())) ∧ ((!eqC (((Kd.fp.pair Kd.fp).pair ((Kd.fp.pair Kd.fp).pair (Kd.fp.pair Kd.fp))).pair ((Kd.fp.pair Kd.fp).pair ((Kd.fp.pair Kd.fp).pair (Kd.fp.pair Kd.fp)))) (fino (lino [g1.gmul g1.gG (sca a)] [g2.gmul g2.gG (sca b)])) ((((1 : Fp), (0 : Fp)), ((0 : Fp), (0 : Fp)), (0 : Fp), (0 : Fp)), ((0 : Fp), (0 : Fp)), ((0 : Fp), (0 : Fp)), (0 : Fp), (0 : Fp)) == true) = false → U64 (1 : Int) ∧ True ∧ True ∧ ((0 : Int) ≤ (31 : Int) ∧ (31 : Int) < (↑(32 : Nat) : Int)) ∧ (31 : Nat) < (32 : Nat) ∧ ((0 : Int) ≤ (31 : Int) ∧ (31 : Int) < (↑(32 : Nat) : Int)) ∧ (31 : Nat) < (32 : Nat) ∧ (0 : Nat) + (32 : Nat) ≤ (32 : Nat) ∧ prePow (fino (lino [g1.gmul g1.gG (sca a)] [g2.gmul g2.gG (sca b)]), List.take (32 : Nat) ((bytesN (32 : Nat) (-zmr (1 : Int)).v).set (31 : Nat) (IntKind.u8.wrap ((-zmr (1 : Int)).v / p256 ((32 : Nat) - (1 : Nat) - nat_lit 31) % (256 : Int) + (1 : Int)))), ()) ∧ True ∧ (eqC (((Kd.fp.pair Kd.fp).pair ((Kd.fp.pair Kd.fp).pair (Kd.fp.pair Kd.fp))).pair ((Kd.fp.pair Kd.fp).pair ((Kd.fp.pair Kd.fp).pair (Kd.fp.pair Kd.fp)))) (pwo (fino (lino [g1.gmul g1.gG (sca a)] [g2.gmul g2.gG (sca b)])) (num (List.take (32 : Nat) ((bytesN (32 : Nat) (-zmr (1 : Int)).v).set (31 : Nat) (IntKind.u8.wrap ((-zmr (1 : Int)).v / p256 ((32 : Nat) - (1 : Nat) - nat_lit 31) % (256 : Int) + (1 : Int)))))).toNat) ((((1 : Fp), (0 : Fp)), ((0 : Fp), (0 : Fp)), (0 : Fp), (0 : Fp)), ((0 : Fp), (0 : Fp)), ((0 : Fp), (0 : Fp)), (0 : Fp), (0 : Fp)) = true → True ∧ True ∧ True ∧ (eqC (((Kd.fp.pair Kd.fp).pair ((Kd.fp.pair Kd.fp).pair (Kd.fp.pair Kd.fp))).pair ((Kd.fp.pair Kd.fp).pair ((Kd.fp.pair Kd.fp).pair (Kd.fp.pair Kd.fp)))) (fino (lino [g1.gmul g1.gG (sca a)] [g2.gmul g2.gG (sca b)]) * cjo (fino (lino [g1.gmul g1.gG (sca a)] [g2.gmul g2.gG (sca b)]))) ((((1 : Fp), (0 : Fp)), ((0 : Fp), (0 : Fp)), (0 : Fp), (0 : Fp)), ((0 : Fp), (0 : Fp)), ((0 : Fp), (0 : Fp)), (0 : Fp), (0 : Fp)), ()) = (true, ())) ∧ (eqC (((Kd.fp.pair Kd.fp).pair ((Kd.fp.pair Kd.fp).pair (Kd.fp.pair Kd.fp))).pair ((Kd.fp.pair Kd.fp).pair ((Kd.fp.pair Kd.fp).pair (Kd.fp.pair Kd.fp)))) (pwo (fino (lino [g1.gmul g1.gG (sca a)] [g2.gmul g2.gG (sca b)])) (num (List.take (32 : Nat) ((bytesN (32 : Nat) (-zmr (1 : Int)).v).set (31 : Nat) (IntKind.u8.wrap ((-zmr (1 : Int)).v / p256 ((32 : Nat) - (1 : Nat) - nat_lit 31) % (256 : Int) + (1 : Int)))))).toNat) ((((1 : Fp), (0 : Fp)), ((0 : Fp), (0 : Fp)), (0 : Fp), (0 : Fp)), ((0 : Fp), (0 : Fp)), ((0 : Fp), (0 : Fp)), (0 : Fp), (0 : Fp)) = false → (false, ()) = (true, ())))) ∧ (decide (sca a = (0 : Zm Mr)) = false → True ∧ ((!eqC (((Kd.fp.pair Kd.fp).pair ((Kd.fp.pair Kd.fp).pair (Kd.fp.pair Kd.fp))).pair ((Kd.fp.pair Kd.fp).pair ((Kd.fp.pair Kd.fp).pair (Kd.fp.pair Kd.fp)))) (fino (lino [g1.gmul g1.gG (sca a)] [g2.gmul g2.gG (sca b)])) ((((1 : Fp), (0 : Fp)), ((0 : Fp), (0 : Fp)), (0 : Fp), (0 : Fp)), ((0 : Fp), (0 : Fp)), ((0 : Fp), (0 : Fp)), (0 : Fp), (0 : Fp)) == decide (sca b = (0 : Zm Mr))) = true → (false, ()) = (true, ())) ∧ ((!eqC (((Kd.fp.pair Kd.fp).pair ((Kd.fp.pair Kd.fp).pair (Kd.fp.pair Kd.fp))).pair ((Kd.fp.pair Kd.fp).pair ((Kd.fp.pair Kd.fp).pair (Kd.fp.pair Kd.fp)))) (fino (lino [g1.gmul g1.gG (sca a)] [g2.gmul g2.gG (sca b)])) ((((1 : Fp), (0 : Fp)), ((0 : Fp), (0 : Fp)), (0 : Fp), (0 : Fp)), ((0 : Fp), (0 : Fp)), ((0 : Fp), (0 : Fp)), (0 : Fp), (0 : Fp)) == decide (sca b = (0 : Zm Mr))) = false → U64 (1 : Int) ∧ True ∧ True ∧ ((0 : Int) ≤ (31 : Int) ∧ (31 : Int) < (↑(32 : Nat) : Int)) ∧ (31 : Nat) < (32 : Nat) ∧ ((0 : Int) ≤ (31 : Int) ∧ (31 : Int) < (↑(32 : Nat) : Int)) ∧ (31 : Nat) < (32 : Nat) ∧ (0 : Nat) + (32 : Nat) ≤ (32 : Nat) ∧ prePow (fino (lino [g1.gmul g1.gG (sca a)] [g2.gmul g2.gG (sca b)]), List.take (32 : Nat) ((bytesN (32 : Nat) (-zmr (1 : Int)).v).set (31 : Nat) (IntKind.u8.wrap ((-zmr (1 : Int)).v / p256 ((32 : Nat) - (1 : Nat) - nat_lit 31) % (256 : Int) + (1 : Int)))), ()) ∧ True ∧ (eqC (((Kd.fp.pair Kd.fp).pair ((Kd.fp.pair Kd.fp).pair (Kd.fp.pair Kd.fp))).pair ((Kd.fp.pair Kd.fp).pair ((Kd.fp.pair Kd.fp).pair (Kd.fp.pair Kd.fp)))) (pwo (fino (lino [g1.gmul g1.gG (sca a)] [g2.gmul g2.gG (sca b)])) (num (List.take (32 : Nat) ((bytesN (32 : Nat) (-zmr (1 : Int)).v).set (31 : Nat) (IntKind.u8.wrap ((-zmr (1 : Int)).v / p256 ((32 : Nat) - (1 : Nat) - nat_lit 31) % (256 : Int) + (1 : Int)))))).toNat) ((((1 : Fp), (0 : Fp)), ((0 : Fp), (0 : Fp)), (0 : Fp), (0 : Fp)), ((0 : Fp), (0 : Fp)), ((0 : Fp), (0 : Fp)), (0 : Fp), (0 : Fp)) = true → True ∧ True ∧ True ∧ (eqC (((Kd.fp.pair Kd.fp).pair ((Kd.fp.pair Kd.fp).pair (Kd.fp.pair Kd.fp))).pair ((Kd.fp.pair Kd.fp).pair ((Kd.fp.pair Kd.fp).pair (Kd.fp.pair Kd.fp)))) (fino (lino [g1.gmul g1.gG (sca a)] [g2.gmul g2.gG (sca b)]) * cjo (fino (lino [g1.gmul g1.gG (sca a)] [g2.gmul g2.gG (sca b)]))) ((((1 : Fp), (0 : Fp)), ((0 : Fp), (0 : Fp)), (0 : Fp), (0 : Fp)), ((0 : Fp), (0 : Fp)), ((0 : Fp), (0 : Fp)), (0 : Fp), (0 : Fp)), ()) = (true, ())) ∧ (eqC (((Kd.fp.pair Kd.fp).pair ((Kd.fp.pair Kd.fp).pair (Kd.fp.pair Kd.fp))).pair ((Kd.fp.pair Kd.fp).pair ((Kd.fp.pair Kd.fp).pair (Kd.fp.pair Kd.fp)))) (pwo (fino (lino [g1.gmul g1.gG (sca a)] [g2.gmul g2.gG (sca b)])) (num (List.take (32 : Nat) ((bytesN (32 : Nat) (-zmr (1 : Int)).v).set (31 : Nat) (IntKind.u8.wrap ((-zmr (1 : Int)).v / p256 ((32 : Nat) - (1 : Nat) - nat_lit 31) % (256 : Int) + (1 : Int)))))).toNat) ((((1 : Fp), (0 : Fp)), ((0 : Fp), (0 : Fp)), (0 : Fp), (0 : Fp)), ((0 : Fp), (0 : Fp)), ((0 : Fp), (0 : Fp)), (0 : Fp), (0 : Fp)) = false → (false, ()) = (true, ())))))))) (by kernel_rfl) ?_
  have hf : fino (lino [g1.gmul g1.gG (sca a)] [g2.gmul g2.gG (sca b)]) = pe (sca a * sca b) := pair_val _ _
  have u : U64 1 := ⟨by decide, by decide⟩
  have d1 : (0 : Int) ≤ 31 ∧ (31 : Int) < ((32 : Nat) : Int) := by decide
  refine ⟨trivial, fun h => absurd h (by decide), fun _ => ⟨trivial, fun _ => rfl, fun _ => ?_⟩⟩
  refine ⟨h1, h2, ?_⟩
  repeat (refine ⟨trivial, ?_⟩)
  refine ⟨fun hx => ?_, fun hx => ⟨trivial, ?_⟩⟩
  · have hx : sca a = 0 := of_decide_eq_true hx
    have e : eqC f12k (fino (lino [g1.gmul g1.gG (sca a)] [g2.gmul g2.gG (sca b)])) (1 : F12) = true := by rw [hf, pe_1, hx, Rg.zero_mul]; exact decide_eq_true rfl
    refine ⟨fun h => ?_, fun _ => ⟨u, trivial, trivial, d1, by decide, d1, by decide, by decide, ptl_end hf ptl_E⟩⟩
    have h : (!eqC f12k (fino (lino [g1.gmul g1.gG (sca a)] [g2.gmul g2.gG (sca b)])) (1 : F12) == true) = true := h
    rw [e] at h
    exact absurd h (by decide)
  · have hx : sca a ≠ 0 := of_decide_eq_false hx
    have e : eqC f12k (fino (lino [g1.gmul g1.gG (sca a)] [g2.gmul g2.gG (sca b)])) (1 : F12) = decide (sca b = 0) := by
      rw [hf, pe_1]
      by_cases hy : sca b = 0
      · rw [hy, Rg.mul_zero]
      · rw [decide_eq_false hy]
        exact decide_eq_false (Fd.mul_ne hx hy)
    refine ⟨fun h => ?_, fun _ => ⟨u, trivial, trivial, d1, by decide, d1, by decide, by decide, ptl_end hf ptl_E⟩⟩
    have h : (!eqC f12k (fino (lino [g1.gmul g1.gG (sca a)] [g2.gmul g2.gG (sca b)])) (1 : F12) == decide (sca b = 0)) = true := h
    rw [e] at h
    simp at h
end Go.Proofs.YtoflhakneklimaaGreat.law10
namespace Go.Proofs.YtoflhakneklimaaGreat
set_option maxRecDepth 100000
open Go Go.Eng Go.RowKit Cr Go.ChangeShapes Go.WideShapes Go.ChangeAt

namespace pairTells
theorem own : ownKnob Tryz.prog.godebug = none := by kernel_rfl
theorem laidOut : laidOutB Tryz.prog = true := by kernel_rfl
abbrev wtB : Car bsl → Prop := fun ys => List.length ys * Tryz.prog.bytesOf 5 ≤ reachBytes ∧ ∀ y ∈ ys, (Lit.int .u8 y).wf = true
theorem oB : OpnV Tryz.prog 22 bsl wtB := opnV_slice (e := 5) (by kernel_rfl) (by kernel_rfl) (by decide) (opnC_int (by kernel_rfl))
theorem bytes5 : Tryz.prog.bytesOf 5 = 1 := by kernel_rfl
theorem pB {xs : List Int} (h : wtB xs) : preB xs := by
  obtain ⟨h1, h2⟩ := h
  rw [bytes5] at h1
  refine ⟨fun x hx => ?_, ?_⟩
  · have := h2 x hx
    simp [Lit.wf, IntKind.min, IntKind.max, IntKind.signed, IntKind.bits] at this
    omega
  · show List.length xs ≤ _
    simp only [reachBytes] at h1
    omega
theorem opened : OpnL Tryz.prog [22, 22] [bsl, bsl] (fun x => wtB x.1 ∧ wtB x.2.1 ∧ True) :=
  .cons oB (by kernel_rfl) (of_decide_eq_true (by kernel_rfl)) (.cons oB (by kernel_rfl) (of_decide_eq_true (by kernel_rfl)) .nil)
theorem lifted (os : Os) (started : os.Started) (H : Type) (enc : TypeId × Value → H) :
    ReturnsInHanded {} Tryz.checked os 6 .any (Rows.pairTellsSpec.pre6 enc Tryz.prog Tryz.f6 Rows.pairTellsRow.domain false) (Rows.pairTellsSpec.post enc Tryz.prog Tryz.f6 false true false false) := by
  refine returnsInHanded_of_change_sized (C := Tryz.checked) own started (by kernel_rfl) Tryz.func6
    (ChangeSpec.witness6 (enc := enc) (C := Tryz.checked) false ⟨#[], #[.slice none 0 0, .slice none 0 0], []⟩ 8 (by kernel_rfl) (by kernel_rfl) (by kernel_rfl) (by kernel_rfl)) ?_
  intro W base args ds gs before hval hW _ hsz _
  refine law_row (C := Tryz.checked) (bt := 4) (ts := [22, 22]) law10.ent_ptl law10.fn_ptl laidOut (by kernel_rfl) (by kernel_rfl) (by kernel_rfl) opened ?_ rfl ?_ W base args ds gs before hval hW hsz
  · rintro ⟨x0, x1, ⟨⟩⟩ ⟨h0, h1, _⟩
    exact ⟨pB h0, pB h1⟩
  · intro ds hl
    match ds, hl with
    | [d0, d1], _ => rfl

theorem proved : Rows.PairTellsSaid :=
  OpenClaim.holds_of_wide 6 Tryz.f6 rfl rfl rfl rfl rfl rfl rfl ⟨rfl, rfl, rfl, rfl, rfl⟩ rfl rfl rfl rfl rfl (by kernel_rfl) Tryz.func6 (by kernel_rfl)
    (of_decide_eq_true (by kernel_rfl)) (by unfold Func.isWrapper; first | (rw [if_pos (by decide +kernel)]; kernel_rfl) | (rw [if_neg (by decide +kernel)]; exact ⟨rfl, rfl⟩))
    (fun os started H enc _ => lifted os started H enc)
#print axioms proved
end pairTells
end Go.Proofs.YtoflhakneklimaaGreat
