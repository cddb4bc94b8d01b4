/- g1: Sum, Add, Neg, On. -/
import Derived.Test.YtkfghpniaahjjaaG1b
import Derived.Test.YtkfghpniaahjjaaMulP
namespace Go.Proofs.Ytkfghpniaahjjaa.g1
set_option maxRecDepth 100000
open Go Go.Eng Go.RowKit Cr Go.Proofs.Ytkfghpniaahjjaa

abbrev bc (s : Fp × Fp × Fp) : List Cell := [.row .fp 1 [s.1], .row .fp 1 [s.2.1], .row .fp 1 [s.2.2]]
abbrev pc (s : Fp × Fp) : List Cell := [.row .fp 1 [s.1], .row .fp 1 [s.2]]
theorem ent_sum : enters Try.prog 22 Try.f22 := enters_mk (by kernel_rfl) (by kernel_rfl) (by kernel_rfl)
noncomputable def sumI (ps : List (Fp × Fp)) (g : Int × (Fp × Fp × Fp)) : St := mkSt Try.f22.ntmps 40 [(2, .is (.one (.ptr 0 0))), (3, .is (.one (.ptr 8 0))), (6, .is (.one (.ro pt1 ps))), (7, sI .i64 ps.length), (8, sI .i64 g.1)] [(8, bc g.2), (0, pc (0, 0))]
noncomputable def sumN (ps : List (Fp × Fp)) (g : Int × (Fp × Fp × Fp)) : Int × (Fp × Fp × Fp) := (IntKind.i64.wrap (g.1 + 1), jadd (F := Fp) g.2 (jlift (F := Fp) (ps.getD g.1.toNat (0, 0))))
abbrev preSum : HL [.sl pt1] → Prop := fun (ps, _) => List.length ps < 4611686018427387904
noncomputable abbrev outSum : HL [.sl pt1] → HO [.val pt1] := fun (ps, _) => (jpoint (F := Fp) (jsm ps (List.length ps)), ())
theorem fn_sum : FnOk Try.prog 22 [.sl pt1] [.val pt1] noG preSum outSum := by
  have hsp : SpecsOk Try.prog (sps [spLift, spAdd, spPoint]) := sps_cons (fnSpec_ok fn_lift) (sps_cons (fnSpec_ok fn_add) (sps_cons (fnSpec_ok fn_point) sps_nil))
  refine fn_of_tr (sp := sps [spLift, spAdd, spPoint]) ent_sum (by decide) (by decide) (by kernel_rfl) ?_
  rintro w M0 ⟨ps, ⟨⟩⟩
  revert ps
  intro (ps : List (Fp × Fp)) _ hl
  have hl : ps.length < 4611686018427387904 := hl
  show Tr _ _ _ _ _ _ _
  refine tr_cut hsp mixed 3 (sumI ps (0, jsm ps 0)) True ?_ (fun _ => ?_)
  · exact vcx (X := (sumI ps (0, jsm ps 0)).triv True) (by kernel_rfl) (triv_intro trivial)
  refine tr_count hsp mixed (sumI ps) (fun k => ((k : Int), jsm ps k)) ps.length (sumN ps) (sumI ps) (c := nthC (codeOf Try.f22) 3) (by kernel_rfl) (by kernel_rfl) (le_of_proj (by kernel_rfl) (by kernel_rfl) trivial)
    (fun k hk => by show (_, _) = (_, _); rw [wrap_succ (by omega)]; rfl) ?_ ?_
  · intro k hk
    generalize hs : jsm ps k = s
    refine vcx (X := ((decide ((k : Int) < (ps.length : Int)) = true → (0 ≤ (k : Int) ∧ (k : Int) < (ps.length : Int)) ∧ (k : Int).toNat < ps.length ∧ True ∧ True ∧ (sumI ps (sumN ps ((k : Int), s))).triv (k < ps.length)) ∧
      (decide ((k : Int) < (ps.length : Int)) = false → (sumI ps ((k : Int), s)).triv (k = ps.length)))) (by kernel_rfl) ?_
    refine ⟨fun h => ?_, fun h => triv_intro (by have := dec_ge h; omega)⟩
    have hlt : k < ps.length := by have := dec_lt h; omega
    exact ⟨⟨by omega, by omega⟩, by omega, trivial, trivial, triv_intro hlt⟩
  · refine tr_vc hsp mixed _ _ ?_
    exact vcx (X := (True ∧ (jpoint (F := Fp) (jsm ps ps.length), ()) = outSum (ps, ()))) (by kernel_rfl) ⟨trivial, rfl⟩
noncomputable def spSum : Nat × Eng.Spec := (22, fnSpec [.sl pt1] [.val pt1] preSum outSum)

theorem ent_padd : enters Try.prog 21 Try.f21 := enters_mk (by kernel_rfl) (by kernel_rfl) (by kernel_rfl)
noncomputable abbrev outPAdd : HL [pt1, pt1] → HO [.val pt1] := fun (p, q, _) => (jpoint (F := Fp) (jsm [p, q] 2), ())
theorem fn_padd : FnOk Try.prog 21 [pt1, pt1] [.val pt1] noG (fun _ => True) outPAdd := by
  refine fn_of_vc (sp := sps [spSum]) (sps_cons (fnSpec_ok fn_sum) sps_nil) mixed ent_padd (by decide) (by decide) ?_
  rintro w M0 ⟨p, q, ⟨⟩⟩
  revert p q
  intro (p : Fp × Fp) (q : Fp × Fp) _ _
  refine vcx (X := ((0 + 2 : Nat) ≤ 2 ∧ preSum ([p, q], ()) ∧ outSum ([p, q], ()) = outPAdd (p, q, ()))) (by kernel_rfl) ?_
  exact ⟨by decide, show (2 : Nat) < 4611686018427387904 by decide, rfl⟩
noncomputable def spPAdd : Nat × Eng.Spec := (21, fnSpec [pt1, pt1] [.val pt1] (fun _ => True) outPAdd)

theorem ent_pneg : enters Try.prog 23 Try.f23 := enters_mk (by kernel_rfl) (by kernel_rfl) (by kernel_rfl)
noncomputable abbrev outPNeg : HL [pt1] → HO [.val pt1] := fun (p, _) => (pneg (F := Fp) p, ())
theorem fn_pneg : FnOk Try.prog 23 [pt1] [.val pt1] noG (fun _ => True) outPNeg := by
  refine fn_of_vc (sp := sps [fp.spNeg]) (sps_cons (fnSpec_ok fp.fn_neg) sps_nil) mixed ent_pneg (by decide) (by decide) ?_
  rintro w M0 ⟨p, ⟨⟩⟩
  revert p
  intro (p : Fp × Fp) _ _
  exact vcx (X := (True ∧ (((p.1, -p.2), ()) = outPNeg (p, ())))) (by kernel_rfl) ⟨trivial, rfl⟩
noncomputable def spPNeg : Nat × Eng.Spec := (23, fnSpec [pt1] [.val pt1] (fun _ => True) outPNeg)

/-- The curve: y^2 = x^3 + 4. -/
def b4 : Fp := zm 4
theorem ent_on : enters Try.prog 24 Try.f24 := enters_mk (by kernel_rfl) (by kernel_rfl) (by kernel_rfl)
def isOn (p : Fp × Fp) : Bool := decide (p = ((0 : Fp), (0 : Fp))) || decide (p.2 * p.2 = p.1 * p.1 * p.1 + b4)
theorem isOn_iff (p : Fp × Fp) : isOn p = true ↔ OnP b4 p := by
  unfold isOn OnP On
  simp
abbrev outOn : HL [pt1] → HO [.val .bool] := fun (p, _) => (isOn p, ())
theorem fn_on : FnOk Try.prog 24 [pt1] [.val .bool] noG (fun _ => True) outOn := by
  refine fn_of_vc (sp := sps [fp.spSquare, fp.spMul, fp.spOf, fp.spAdd]) (sps_cons (fnSpec_ok fp.fn_square) (sps_cons (fnSpec_ok fp.fn_mul) (sps_cons (fnSpec_ok fp.fn_of) (sps_cons (fnSpec_ok fp.fn_add) sps_nil)))) mixed ent_on (by decide) (by decide) ?_
  rintro w M0 ⟨p, ⟨⟩⟩
  revert p
  intro (p : Fp × Fp) _ _
  refine vcx (X := (((decide (p.1 = 0) && decide (p.2 = 0)) = true → (true, ()) = outOn (p, ())) ∧ ((decide (p.1 = 0) && decide (p.2 = 0)) = false → Trs 3 (U64 4 ∧ True ∧ (decide (p.2 * p.2 = p.1 * p.1 * p.1 + b4), ()) = outOn (p, ()))))) (by kernel_rfl) ?_
  rw [dec_pair p ((0 : Fp), (0 : Fp))]
  refine ⟨fun h => ?_, fun h => trs ⟨by constructor <;> decide, trivial, ?_⟩ _⟩
  · simp only [outOn, isOn, h, Bool.true_or]
  · simp only [outOn, isOn, h, Bool.false_or]
noncomputable def spOn : Nat × Eng.Spec := (24, fnSpec [pt1] [.val .bool] (fun _ => True) outOn)
end Go.Proofs.Ytkfghpniaahjjaa.g1
