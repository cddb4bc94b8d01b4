/- G2Scalars, for every input: true; the input reads as it did. No condition. -/
import Derived.Test.YtndjibcccdnfdaaMM8ScaPS
/- What rows ask of their arguments. -/
namespace Go.Proofs.Ytndjibcccdnfdaa
open Go Go.Eng Cr
abbrev bsl : Kd := .sl (.int .u8)
/-- Bytes of an input. -/
abbrev preB (b : List Int) : Prop := Bs b ∧ List.length b ≤ 281474976710656
abbrev preBB (bs : List (List Int)) : Prop := (∀ b ∈ bs, preB b) ∧ List.length bs ≤ 281474976710656
abbrev preW (x : Int) : Prop := 0 ≤ x ∧ x < 65536
abbrev preY (x : Int) : Prop := 0 ≤ x ∧ x < 256
abbrev preI (x : Int) : Prop := -9223372036854775808 ≤ x ∧ x < 9223372036854775808
abbrev preL (_ : Bool) : Prop := True
abbrev preIS (xs : List Int) : Prop := (∀ x ∈ xs, preI x) ∧ List.length xs ≤ 281474976710656
end Go.Proofs.Ytndjibcccdnfdaa
/- Helpers of laws. -/
namespace Go.Proofs.Ytndjibcccdnfdaa
open Go Go.Eng Cr
abbrev eq2 (p q : Fp × Fp) : Bool := decide (p.1 = q.1) && decide (p.2 = q.2)
theorem eq2_eq (p q : Fp × Fp) : eq2 p q = decide (p = q) := dec_pair p q
theorem eq2_of {p q : Fp × Fp} (h : p = q) : eq2 p q = true := by rw [eq2_eq]; exact decide_eq_true h
theorem ne2_of {p q : Fp × Fp} (h : p ≠ q) : (!eq2 p q) = true := by rw [eq2_eq]; simp [h]
/-- A test that must hold: else the answer is false. -/
def Ck (c : Bool) (T : Prop) : Prop := (c = true → T) ∧ (c = false → ((false, ()) : Bool × Unit) = (true, ()))
theorem ck {c : Bool} {T : Prop} (h : c = true) (t : T) : Ck c T := ⟨fun _ => t, fun e => by rw [h] at e; cases e⟩
/-- A test that must fail: else the answer is false. -/
def Cn (c : Bool) (T : Prop) : Prop := (c = true → ((false, ()) : Bool × Unit) = (true, ())) ∧ (c = false → T)
theorem cn {c : Bool} {T : Prop} (h : c = false) (t : T) : Cn c T := ⟨fun e => absurd e (by rw [h]; decide), fun _ => t⟩
theorem eqP (a b : Fp × Fp) : eqC (.pair .fp .fp) a b = decide (a = b) := by
  have h := eqC_iff (e := .pair .fp .fp) a b
  rw [Bool.eq_iff_iff, h, decide_eq_true_iff]
theorem eqF (a b : Fp) : eqC .fp a b = decide (a = b) := rfl
theorem eqR (a b : Fr) : eqC .fr a b = decide (a = b) := rfl
abbrev ok (b : Bool) : Prop := ((b, ()) : Bool × Unit) = (true, ())
end Go.Proofs.Ytndjibcccdnfdaa
/- law08: head, scalar, long. -/
namespace Go.Proofs.Ytndjibcccdnfdaa.law08
set_option maxRecDepth 100000
open Go Go.Eng Go.RowKit Cr Go.Proofs.Ytndjibcccdnfdaa Go.Proofs.Ytndjibcccdnfdaa.fp2 Go.Proofs.Ytndjibcccdnfdaa.g2

theorem ent_scalar : enters Try.prog 17 Try.f17 := enters_mk (by kernel_rfl) (by kernel_rfl) (by kernel_rfl)
noncomputable def sca (b : List Int) : Fr := opq (zm (num b))
abbrev preSca : HL [.sl (.int .u8)] → Prop := fun (b, _) => Bs b ∧ List.length b ≤ 281474976710656
noncomputable abbrev outSca : HL [.sl (.int .u8)] → HO [.val .fr] := fun (b, _) => (sca b, ())
theorem fn_scalar : FnOk Try.prog 17 [.sl (.int .u8)] [.val .fr] noG preSca outSca := by
  refine fn_of_vc (sp := sps [ref01.spCopy, fr.spWide]) (sps_cons (fnSpec_ok ref01.fn_copy) (sps_cons (fnSpec_ok fr.fn_wide) sps_nil)) mixed ent_scalar (by decide) (by decide) ?_
  rintro w M0 ⟨b, ⟨⟩⟩
  revert b
  intro (b : List Int) _ hp
  obtain ⟨h1, h2⟩ := hp
  have h2 : b.length ≤ 281474976710656 := h2
  refine vcx (X := (ref01.preCopy (b, ()) ∧ 0 + b.length ≤ b.length ∧ fr.preWide (b.take b.length, ()) ∧ ((zm (num (b.take b.length)) : Fr), ()) = outSca (b, ()))) (by kernel_rfl) ?_
  rw [List.take_length]
  refine ⟨h2, by omega, ⟨h1, by show b.length < _; omega⟩, ?_⟩
  show _ = (sca b, ())
  rw [sca, opq_eq]
noncomputable def spScalar : Nat × Eng.Spec := (17, fnSpec [.sl (.int .u8)] [.val .fr] preSca outSca)

theorem ent_long : enters Try.prog 16 Try.f16 := enters_mk (by kernel_rfl) (by kernel_rfl) (by kernel_rfl)
def lng (a b c : List Int) : Bool := decide ((a.length : Int) > 100) || (decide ((b.length : Int) > 100) || decide ((c.length : Int) > 100))
abbrev outLong : HL [.sl (.int .u8), .sl (.int .u8), .sl (.int .u8)] → HO [.val .bool] := fun (a, b, c, _) => (lng a b c, ())
theorem fn_long : FnOk Try.prog 16 [.sl (.int .u8), .sl (.int .u8), .sl (.int .u8)] [.val .bool] noG (fun _ => True) outLong := by
  refine fn_of_vc (sp := sps []) sps_nil mixed ent_long (by decide) (by decide) ?_
  rintro w M0 ⟨a, b, c, ⟨⟩⟩
  revert a b c
  intro (a : List Int) (b : List Int) (c : List Int) _ _
  refine vcx (X := ((decide ((a.length : Int) > 100) = true → (true, ()) = outLong (a, b, c, ())) ∧ (decide ((a.length : Int) > 100) = false → (decide ((b.length : Int) > 100) = true → (true, ()) = outLong (a, b, c, ())) ∧ (decide ((b.length : Int) > 100) = false → (decide ((c.length : Int) > 100), ()) = outLong (a, b, c, ()))))) (by kernel_rfl) ?_
  refine ⟨fun h => ?_, fun h => ⟨fun h2 => ?_, fun h2 => ?_⟩⟩
  all_goals show _ = (lng a b c, ())
  · simp only [lng, h, Bool.true_or]
  · simp only [lng, h, h2, Bool.true_or, Bool.or_true]
  · simp only [lng, h, h2, Bool.false_or]
noncomputable def spLong : Nat × Eng.Spec := (16, fnSpec [.sl (.int .u8), .sl (.int .u8), .sl (.int .u8)] [.val .bool] (fun _ => True) outLong)

theorem ent_head : enters Try.prog 15 Try.f15 := enters_mk (by kernel_rfl) (by kernel_rfl) (by kernel_rfl)
theorem fn_head : FnOk Try.prog 15 [] [.val .bool] noG (fun _ => True) (fun _ => (true, ())) := by
  refine fn_of_vc (sp := sps [soGen, soAdd, soOn, soTimes, soNeg, fp2.spOdd]) (sps_cons (fnSpec_ok fo_gen) (sps_cons (fnSpec_ok fo_add) (sps_cons (fnSpec_ok fo_on) (sps_cons (fnSpec_ok fo_times) (sps_cons (fnSpec_ok fo_neg) (sps_cons (fnSpec_ok fp2.fn_odd) sps_nil)))))) mixed ent_head (by decide) (by decide) ?_
  rintro w M0 ⟨⟩ _ _
  refine vcx (X := (True ∧ True ∧ True ∧ (gon gG = true → True ∧ (gon (gadd gG gG) = true → ((!eqC ((Kd.fp.pair Kd.fp).pair (Kd.fp.pair Kd.fp)) (gadd gG gG) gG) = true → ((!eqC ((Kd.fp.pair Kd.fp).pair (Kd.fp.pair Kd.fp)) (gadd gG gG) (((0 : Fp), (0 : Fp)), (0 : Fp), (0 : Fp))) = true → (0 : Nat) + (1 : Nat) ≤ (1 : Nat) ∧ preTimes (gG, List.take (1 : Nat) [(2 : Int)], ()) ∧ (eqC ((Kd.fp.pair Kd.fp).pair (Kd.fp.pair Kd.fp)) (gtms gG (List.take (1 : Nat) [(2 : Int)])) (gadd gG gG) = true → True ∧ True ∧ (eqC ((Kd.fp.pair Kd.fp).pair (Kd.fp.pair Kd.fp)) (gadd gG (gneg gG)) (((0 : Fp), (0 : Fp)), (0 : Fp), (0 : Fp)) = true → True ∧ (!if gG.fst.fst = (0 : Zm Mp) then decide (gG.fst.snd.v % (2 : Int) = (1 : Int)) else decide (gG.fst.fst.v % (2 : Int) = (1 : Int)), ()) = (true, ())) ∧ (eqC ((Kd.fp.pair Kd.fp).pair (Kd.fp.pair Kd.fp)) (gadd gG (gneg gG)) (((0 : Fp), (0 : Fp)), (0 : Fp), (0 : Fp)) = false → (false, ()) = (true, ()))) ∧ (eqC ((Kd.fp.pair Kd.fp).pair (Kd.fp.pair Kd.fp)) (gtms gG (List.take (1 : Nat) [(2 : Int)])) (gadd gG gG) = false → (false, ()) = (true, ()))) ∧ ((!eqC ((Kd.fp.pair Kd.fp).pair (Kd.fp.pair Kd.fp)) (gadd gG gG) (((0 : Fp), (0 : Fp)), (0 : Fp), (0 : Fp))) = false → (false, ()) = (true, ()))) ∧ ((!eqC ((Kd.fp.pair Kd.fp).pair (Kd.fp.pair Kd.fp)) (gadd gG gG) gG) = false → (false, ()) = (true, ()))) ∧ (gon (gadd gG gG) = false → (false, ()) = (true, ()))) ∧ (gon gG = false → (false, ()) = (true, ())))) (by kernel_rfl) ?_
  have hG := gG_on
  have e1 : gadd gG gG = padd gG gG := gadd_eq hG hG
  have oD : Onb (padd gG gG) := padd_on b4_ne hG hG
  have hb2 : Bs [2] := by intro x hx; simp at hx; subst hx; exact ⟨by decide, by decide⟩
  have n1 : padd gG gG ≠ gG := by
    intro e
    have := cancel b4_ne hG hG
    rw [e, neg_add_self] at this
    exact gG_ne this.symm
  have n2 : padd gG gG ≠ ((0, 0), 0, 0) := by
    intro e
    have := cancel b4_ne hG hG
    have e : padd gG gG = O2 := e
    rw [e, add_O] at this
    have h2 : (pneg gG).2 = gG.2 := congrArg Prod.snd this
    rw [gG_eq] at h2
    have h3 : (-gy).1 = gy.1 := congrArg Prod.fst h2
    rw [F2.neg1] at h3
    exact absurd h3 (by decide)
  have e2 : gtms gG [2] = padd gG gG := by rw [gtms_eq hG hb2]; exact nmul_two
  have e3 : gadd gG (gneg gG) = ((0, 0), 0, 0) := by rw [gneg_eq, gadd_eq hG (pneg_onP hG)]; exact add_neg_self _
  have ho : ∀ c : Bool, (if gG.1.1 = 0 then c else (fp.outOdd (gG.1.1, ())).1) = false := by
    intro c
    rw [gG_eq, if_neg (show ¬ (gx.1 = 0) by decide)]
    show (fp.outOdd (gx.1, ())).1 = false
    decide
  simp only [eqP2, e1, e3, (gon_iff _).2 hG, (gon_iff _).2 oD, n1, n2]
  have pt : preTimes (gG, [2], ()) := ⟨hb2, by show 1 < _; decide⟩
  simp [ho]
  exact ⟨pt, e2⟩
noncomputable def spHead : Nat × Eng.Spec := (15, fnSpec [] [.val .bool] (fun _ => True) (fun _ => (true, ())))
end Go.Proofs.Ytndjibcccdnfdaa.law08
/- g2: In. -/
namespace Go.Proofs.Ytndjibcccdnfdaa.g2
set_option maxRecDepth 100000
open Go Go.Eng Go.RowKit Cr Go.Proofs.Ytndjibcccdnfdaa Go.Proofs.Ytndjibcccdnfdaa.fp2
theorem ent_in : enters Try.prog 26 Try.f26 := enters_mk (by kernel_rfl) (by kernel_rfl) (by kernel_rfl)
noncomputable def isIn (p : F2 × F2) : Bool := isOn p && decide (pml p (-1) = pneg (F := F2) p)
noncomputable abbrev outIn : HL [pt2] → HO [.val .bool] := fun (p, _) => (isIn p, ())
theorem fn_in : FnOk Try.prog 26 [pt2] [.val .bool] noG (fun _ => True) outIn := by
  refine fn_of_vc (sp := sps [spOn, fr.spOf, fr.spNeg, spPMul, spPNeg]) (sps_cons (fnSpec_ok fn_on) (sps_cons (fnSpec_ok fr.fn_of) (sps_cons (fnSpec_ok fr.fn_neg) (sps_cons (fnSpec_ok fn_pmul) (sps_cons (fnSpec_ok fn_pneg) sps_nil))))) mixed ent_in (by decide) (by decide) ?_
  rintro w M0 ⟨p, ⟨⟩⟩
  revert p
  intro (p : F2 × F2) _ _
  refine vcx (X := (True ∧ (isOn p = true → U64 (1 : Int) ∧ True ∧ True ∧ True ∧ (eqC ((Kd.fp.pair Kd.fp).pair (Kd.fp.pair Kd.fp)) (pml p (-zmr (1 : Int))) (p.fst, -p.snd), ()) = outIn (p, ())) ∧ (isOn p = false → (false, ()) = outIn (p, ())))) (by kernel_rfl) ?_
  rw [eqP2]
  refine ⟨trivial, fun h => ⟨by constructor <;> decide, trivial, trivial, trivial, ?_⟩, fun h => ?_⟩
  · show _ = (isIn p, ())
    rw [isIn, h, Bool.true_and]
    rfl
  · show _ = (isIn p, ())
    rw [isIn, h, Bool.false_and]
noncomputable def spIn : Nat × Eng.Spec := (26, fnSpec [pt2] [.val .bool] (fun _ => True) outIn)
noncomputable def gin (p : F2 × F2) : Bool := opq (isIn p)
theorem fo_in : FnOk Try.prog 26 [pt2] [.val .bool] noG (fun _ => True) (fun (p, _) => (gin p, ())) := fn_in.out fun (p, _) => by show (gin p, ()) = (_, ()); rw [gin, opq_eq]
noncomputable def soIn : Nat × Eng.Spec := (26, fnSpec [pt2] [.val .bool] (fun _ => True) (fun (p, _) => (gin p, ())))
theorem sub_in {p : F2 × F2} (h : Sub p) : gin p = true := by
  rw [gin, opq_eq, isIn]
  have h1 : isOn p = true := (isOn_iff p).2 h.1
  have h2 : pml p (-1) = pneg p := by
    have := mul_neg h 1
    rw [mul_one h, gmul, opq_eq] at this
    exact this
  rw [h1, h2]; simp
theorem gin_of {p : F2 × F2} (h : Onb p) : gin p = decide (nmul p rN = (0, 0)) := by
  rw [Bool.eq_iff_iff, decide_eq_true_iff]
  constructor
  · intro hi
    rw [gin, opq_eq, isIn, Bool.and_eq_true, decide_eq_true_iff] at hi
    have e : pml p (-1) = nmul p (rN - 1) := by
      have := gmul_eq h (-1)
      rw [gmul, opq_eq] at this
      rw [this]; rfl
    rw [e] at hi
    have : nmul p (rN - 1 + 1) = padd (nmul p (rN - 1)) p := rfl
    rw [hi.2, neg_add_self] at this
    exact this
  · intro hi; exact sub_in ⟨h, hi⟩
end Go.Proofs.Ytndjibcccdnfdaa.g2
/- G2Scalars: the walk. -/
namespace Go.Proofs.Ytndjibcccdnfdaa.law08
set_option maxRecDepth 100000
open Go Go.Eng Go.RowKit Cr Go.Proofs.Ytndjibcccdnfdaa Go.Proofs.Ytndjibcccdnfdaa.fp2 Go.Proofs.Ytndjibcccdnfdaa.g2
theorem ent_scalars : enters Try.prog 3 Try.f3 := enters_mk (by kernel_rfl) (by kernel_rfl) (by kernel_rfl)
abbrev preS3 : HL [bsl, bsl, bsl] → Prop := fun (a, b, c, _) => preB a ∧ preB b ∧ preB c
noncomputable def scaC (g : Fr × Fr × (F2 × F2)) : St := mkSt Try.f3.ntmps 168 [(7, .is (.one (.ptr 72 0))), (8, .is (.one (.ptr 104 0))), (9, .is (.one (.ptr 152 0)))] [(72, [.row .fr 1 [g.1]]), (104, [.row .fr 1 [g.2.1]]), (152, pc g.2.2)]
theorem fn_scalars : FnOk Try.prog 3 [bsl, bsl, bsl] [.val .bool] noG preS3 (fun _ => (true, ())) := by
  have hsp : SpecsOk Try.prog (sps [spHead, spLong, soGen, spScalar, soMul, soAdd, soNeg, soOn, soIn, fr.spAdd, fr.spMul, fr.spNeg, fr.spOf]) := (sps_cons (fnSpec_ok fn_head) (sps_cons (fnSpec_ok fn_long) (sps_cons (fnSpec_ok fo_gen) (sps_cons (fnSpec_ok fn_scalar) (sps_cons (fnSpec_ok fo_mul) (sps_cons (fnSpec_ok fo_add) (sps_cons (fnSpec_ok fo_neg) (sps_cons (fnSpec_ok fo_on) (sps_cons (fnSpec_ok fo_in) (sps_cons (fnSpec_ok fr.fn_add) (sps_cons (fnSpec_ok fr.fn_mul) (sps_cons (fnSpec_ok fr.fn_neg) (sps_cons (fnSpec_ok fr.fn_of) sps_nil)))))))))))))
  refine fn_of_tr (sp := sps [spHead, spLong, soGen, spScalar, soMul, soAdd, soNeg, soOn, soIn, fr.spAdd, fr.spMul, fr.spNeg, fr.spOf]) ent_scalars (by decide) (by decide) (by kernel_rfl) ?_
  rintro w M0 ⟨a, b, c, ⟨⟩⟩
  revert a b c
  intro (a : List Int) (b : List Int) (c : List Int) _ hp
  obtain ⟨h1, h2, h3⟩ := hp
  show Tr _ _ _ _ _ _ _
  refine tr_cutF hsp mixed 8 (fun σ => (rdB .fr 72 σ, rdB .fr 104 σ, rdB pt2 152 σ)) scaC (fun g => Sub g.2.2) ?_ ?_
  · refine vcx (X := (True ∧ ((!true) = true → (false, ()) = (true, ())) ∧ ((!true) = false → True ∧ (lng a b c = true → (true, ()) = (true, ())) ∧ (lng a b c = false → preSca (a, ()) ∧ preSca (b, ()) ∧ True ∧ preSca (c, ()) ∧ True ∧ (scaC (sca a, sca b, gmul gG (sca c))).triv (g2.Sub (sca a, sca b, gmul gG (sca c)).snd.snd))))) (by kernel_rfl) ?_
    exact ⟨trivial, fun h => absurd h (by decide), fun _ => ⟨trivial, fun _ => rfl, fun _ => ⟨h1, h2, trivial, h3, trivial, triv_intro (sub_gmul sub_G _)⟩⟩⟩
  rintro ⟨x, y, p⟩ h
  revert x y p
  intro (x : Fr) (y : Fr) (p : F2 × F2) h
  have h : Sub p := h
  refine tr_vc hsp mixed _ _ ?_
  refine vcx (X := (True ∧ True ∧ True ∧ True ∧ True ∧ ((!eqC ((Kd.fp.pair Kd.fp).pair (Kd.fp.pair Kd.fp)) (gadd (gmul p x) (gmul p y)) (gmul p (x + y))) = true → (false, ()) = (true, ())) ∧ ((!eqC ((Kd.fp.pair Kd.fp).pair (Kd.fp.pair Kd.fp)) (gadd (gmul p x) (gmul p y)) (gmul p (x + y))) = false → True ∧ True ∧ True ∧ True ∧ ((!eqC ((Kd.fp.pair Kd.fp).pair (Kd.fp.pair Kd.fp)) (gmul (gmul p x) y) (gmul p (x * y))) = true → (false, ()) = (true, ())) ∧ ((!eqC ((Kd.fp.pair Kd.fp).pair (Kd.fp.pair Kd.fp)) (gmul (gmul p x) y) (gmul p (x * y))) = false → True ∧ True ∧ True ∧ True ∧ ((!eqC ((Kd.fp.pair Kd.fp).pair (Kd.fp.pair Kd.fp)) (gneg (gmul p x)) (gmul p (-x))) = true → (false, ()) = (true, ())) ∧ ((!eqC ((Kd.fp.pair Kd.fp).pair (Kd.fp.pair Kd.fp)) (gneg (gmul p x)) (gmul p (-x))) = false → U64 (1 : Int) ∧ True ∧ (eqC ((Kd.fp.pair Kd.fp).pair (Kd.fp.pair Kd.fp)) (gmul p (zmr (1 : Int))) p = true → True ∧ (eqC ((Kd.fp.pair Kd.fp).pair (Kd.fp.pair Kd.fp)) (gmul p (0 : Fr)) (((0 : Fp), (0 : Fp)), (0 : Fp), (0 : Fp)) = true → True ∧ (gin p = true → True ∧ True ∧ (gon (gmul p x), ()) = (true, ())) ∧ (gin p = false → (false, ()) = (true, ()))) ∧ (eqC ((Kd.fp.pair Kd.fp).pair (Kd.fp.pair Kd.fp)) (gmul p (0 : Fr)) (((0 : Fp), (0 : Fp)), (0 : Fp), (0 : Fp)) = false → (false, ()) = (true, ()))) ∧ (eqC ((Kd.fp.pair Kd.fp).pair (Kd.fp.pair Kd.fp)) (gmul p (zmr (1 : Int))) p = false → (false, ()) = (true, ()))))))) (by kernel_rfl) ?_
  have e1 : gadd (gmul p x) (gmul p y) = gmul p (x + y) := by rw [mul_add h, gadd_eq (sub_gmul h x).1 (sub_gmul h y).1]
  have e2 := mul_mul h x y
  have e3 : gneg (gmul p x) = gmul p (-x) := by rw [mul_neg h, gneg_eq]
  have e4 : gmul p (zmr 1) = p := mul_one h
  have e5 : gmul p 0 = ((0, 0), 0, 0) := mul_zero h
  simp only [eqP2, e1, ← e2, e3, e4, e5, sub_in h, (gon_iff _).2 (sub_gmul h x).1]
  have u : U64 1 := ⟨by decide, by decide⟩
  simp [u]
end Go.Proofs.Ytndjibcccdnfdaa.law08
namespace Go.Proofs.Ytndjibcccdnfdaa
set_option maxRecDepth 100000
open Go Go.Eng Go.RowKit Cr Go.ChangeShapes Go.WideShapes Go.ChangeAt

namespace g2Scalars
theorem own : ownKnob Try.prog.godebug = none := by kernel_rfl
theorem laidOut : laidOutB Try.prog = true := by kernel_rfl
abbrev wtB : Car bsl → Prop := fun ys => List.length ys * Try.prog.bytesOf 5 ≤ reachBytes ∧ ∀ y ∈ ys, (Lit.int .u8 y).wf = true
theorem oB : OpnV Try.prog 22 bsl wtB := opnV_slice (e := 5) (by kernel_rfl) (by kernel_rfl) (by decide) (opnC_int (by kernel_rfl))
theorem bytes5 : Try.prog.bytesOf 5 = 1 := by kernel_rfl
theorem pB {xs : List Int} (h : wtB xs) : preB xs := by
  obtain ⟨h1, h2⟩ := h
  rw [bytes5] at h1
  refine ⟨fun x hx => ?_, ?_⟩
  · have := h2 x hx
    simp [Lit.wf, IntKind.min, IntKind.max, IntKind.signed, IntKind.bits] at this
    omega
  · show List.length xs ≤ _
    simp only [reachBytes] at h1
    omega
theorem opened : OpnL Try.prog [22, 22, 22] [bsl, bsl, bsl] (fun x => wtB x.1 ∧ wtB x.2.1 ∧ wtB x.2.2.1 ∧ True) :=
  .cons oB (by kernel_rfl) (of_decide_eq_true (by kernel_rfl)) (.cons oB (by kernel_rfl) (of_decide_eq_true (by kernel_rfl)) (.cons oB (by kernel_rfl) (of_decide_eq_true (by kernel_rfl)) .nil))
theorem lifted (os : Os) (started : os.Started) (H : Type) (enc : TypeId × Value → H) :
    ReturnsInHanded {} Try.checked os 3 .any (Rows.g2ScalarsSpec.pre6 enc Try.prog Try.f3 Rows.g2ScalarsRow.domain false) (Rows.g2ScalarsSpec.post enc Try.prog Try.f3 false true false false) := by
  refine returnsInHanded_of_change_sized (C := Try.checked) own started (by kernel_rfl) Try.func3
    (ChangeSpec.witness6 (enc := enc) (C := Try.checked) false ⟨#[], #[.slice none 0 0, .slice none 0 0, .slice none 0 0], []⟩ 8 (by kernel_rfl) (by kernel_rfl) (by kernel_rfl) (by kernel_rfl)) ?_
  intro W base args ds gs before hval hW _ hsz _
  refine law_row (C := Try.checked) (bt := 4) (ts := [22, 22, 22]) law08.ent_scalars law08.fn_scalars laidOut (by kernel_rfl) (by kernel_rfl) (by kernel_rfl) opened ?_ rfl ?_ W base args ds gs before hval hW hsz
  · rintro ⟨x0, x1, x2, ⟨⟩⟩ ⟨h0, h1, h2, _⟩
    exact ⟨pB h0, pB h1, pB h2⟩
  · intro ds hl
    match ds, hl with
    | [d0, d1, d2], _ => rfl

theorem proved : Rows.G2ScalarsSaid :=
  OpenClaim.holds_of_wide 3 Try.f3 rfl rfl rfl rfl rfl rfl rfl ⟨rfl, rfl, rfl, rfl, rfl⟩ rfl rfl rfl rfl rfl (by kernel_rfl) Try.func3 (by kernel_rfl)
    (of_decide_eq_true (by kernel_rfl)) (by unfold Func.isWrapper; first | (rw [if_pos (by decide +kernel)]; kernel_rfl) | (rw [if_neg (by decide +kernel)]; exact ⟨rfl, rfl⟩))
    (fun os started H enc _ => lifted os started H enc)
#print axioms proved
end g2Scalars
end Go.Proofs.Ytndjibcccdnfdaa
