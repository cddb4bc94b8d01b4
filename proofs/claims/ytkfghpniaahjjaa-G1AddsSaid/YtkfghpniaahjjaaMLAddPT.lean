/- G1Adds, for every input: true; the input reads as it did. No condition. -/
import Derived.Test.YtkfghpniaahjjaaMLAddPS
/- G1Adds: the walk. -/
namespace Go.Proofs.Ytkfghpniaahjjaa.law07
set_option maxRecDepth 100000
open Go Go.Eng Go.RowKit Cr Go.Proofs.Ytkfghpniaahjjaa Go.Proofs.Ytkfghpniaahjjaa.g1
theorem ent_adds : enters Try.prog 7 Try.f7 := enters_mk (by kernel_rfl) (by kernel_rfl) (by kernel_rfl)
abbrev preAdds : HL [bsl, bsl, .int .u16, .int .u16, .int .i64] → Prop := fun (a, b, n, m, how, _) => preB a ∧ preB b ∧ preW n ∧ preW m ∧ preI how
noncomputable def addsC (g : (Fp × Fp) × (Fp × Fp)) : St := mkSt Try.f7.ntmps 160 [(11, .is (.one (.ptr 80 0))), (12, .is (.one (.ptr 128 0)))] [(80, pc g.1), (128, pc g.2)]
theorem fn_adds : FnOk Try.prog 7 [bsl, bsl, .int .u16, .int .u16, .int .i64] [.val .bool] noG preAdds (fun _ => (true, ())) := by
  have hsp : SpecsOk Try.prog (sps [spHead, spLong, soGen, spScalar, soMul, soAdd, soNeg, soOn, soSum, spWild, spSides]) := sps_cons (fnSpec_ok fn_head) (sps_cons (fnSpec_ok fn_long) (sps_cons (fnSpec_ok fo_gen) (sps_cons (fnSpec_ok fn_scalar) (sps_cons (fnSpec_ok fo_mul) (sps_cons (fnSpec_ok fo_add) (sps_cons (fnSpec_ok fo_neg) (sps_cons (fnSpec_ok fo_on) (sps_cons (fnSpec_ok fo_sum) (sps_cons (fnSpec_ok fn_wild) (sps_cons (fnSpec_ok fn_sides) sps_nil))))))))))
  refine fn_of_tr (sp := sps [spHead, spLong, soGen, spScalar, soMul, soAdd, soNeg, soOn, soSum, spWild, spSides]) ent_adds (by decide) (by decide) (by kernel_rfl) ?_
  rintro w M0 ⟨a, b, n, m, how, ⟨⟩⟩
  revert a b n m how
  intro (a : List Int) (b : List Int) (n : Int) (m : Int) (how : Int) _ hp
  obtain ⟨h1, h2, h3, h4, h5⟩ := hp
  show Tr _ _ _ _ _ _ _
  refine tr_cutF hsp mixed 9 (fun σ => (rdB pt1 80 σ, rdB pt1 128 σ)) addsC (fun g => Onb g.1 ∧ Onb g.2) ?_ ?_
  · refine vcx (X := (True ∧ ((!true) = true → (false, ()) = (true, ())) ∧ ((!true) = false → True ∧ (lng a b [] = true → (true, ()) = (true, ())) ∧ (lng a b [] = false → True ∧ preSca (a, ()) ∧ True ∧ True ∧ preSca (b, ()) ∧ True ∧ ((bitOp BinOp.and IntKind.i64 how (7 : Int) == (1 : Int)) = true → (addsC ((gmul gG (sca a), ()).fst, (gmul gG (sca a), ()).fst)).triv (Onb ((gmul gG (sca a), ()).fst, (gmul gG (sca a), ()).fst).fst ∧ Onb ((gmul gG (sca a), ()).fst, (gmul gG (sca a), ()).fst).snd)) ∧ ((bitOp BinOp.and IntKind.i64 how (7 : Int) == (1 : Int)) = false → ((bitOp BinOp.and IntKind.i64 how (7 : Int) == (2 : Int)) = true → True ∧ (addsC ((gmul gG (sca a), ()).fst, (gneg (gmul gG (sca a), ()).fst, ()).fst)).triv (Onb ((gmul gG (sca a), ()).fst, (gneg (gmul gG (sca a), ()).fst, ()).fst).fst ∧ Onb ((gmul gG (sca a), ()).fst, (gneg (gmul gG (sca a), ()).fst, ()).fst).snd)) ∧ ((bitOp BinOp.and IntKind.i64 how (7 : Int) == (2 : Int)) = false → ((bitOp BinOp.and IntKind.i64 how (7 : Int) == (3 : Int)) = true → preWild (n, ()) ∧ (addsC (wildF (200 : Nat) n, (gmul gG (sca b), ()).fst)).triv (Onb (wildF (200 : Nat) n, (gmul gG (sca b), ()).fst).fst ∧ Onb (wildF (200 : Nat) n, (gmul gG (sca b), ()).fst).snd)) ∧ ((bitOp BinOp.and IntKind.i64 how (7 : Int) == (3 : Int)) = false → ((bitOp BinOp.and IntKind.i64 how (7 : Int) == (4 : Int)) = true → preWild (n, ()) ∧ preWild (m, ()) ∧ (addsC (wildF (200 : Nat) n, wildF (200 : Nat) m)).triv (Onb (wildF (200 : Nat) n, wildF (200 : Nat) m).fst ∧ Onb (wildF (200 : Nat) n, wildF (200 : Nat) m).snd)) ∧ ((bitOp BinOp.and IntKind.i64 how (7 : Int) == (4 : Int)) = false → ((bitOp BinOp.and IntKind.i64 how (7 : Int) == (5 : Int)) = true → (addsC (((0 : Fp), (0 : Fp)), (gmul gG (sca b), ()).fst)).triv (Onb (((0 : Fp), (0 : Fp)), (gmul gG (sca b), ()).fst).fst ∧ Onb (((0 : Fp), (0 : Fp)), (gmul gG (sca b), ()).fst).snd)) ∧ ((bitOp BinOp.and IntKind.i64 how (7 : Int) == (5 : Int)) = false → (addsC ((gmul gG (sca a), ()).fst, (gmul gG (sca b), ()).fst)).triv (Onb ((gmul gG (sca a), ()).fst, (gmul gG (sca b), ()).fst).fst ∧ Onb ((gmul gG (sca a), ()).fst, (gmul gG (sca b), ()).fst).snd)))))))))) (by kernel_rfl) ?_
    have oa := gmul_on gG_on (sca a)
    have ob := gmul_on gG_on (sca b)
    refine ⟨trivial, fun h => absurd h (by decide), fun _ => ⟨trivial, fun _ => rfl, fun _ => ⟨trivial, h1, trivial, trivial, h2, trivial, ?_⟩⟩⟩
    refine ⟨fun _ => triv_intro ⟨oa, oa⟩, fun _ => ⟨fun _ => ⟨trivial, triv_intro ⟨oa, ?_⟩⟩, fun _ => ⟨fun _ => ⟨h3, triv_intro ⟨(wild_ok _ _).1, ob⟩⟩, fun _ => ⟨fun _ => ⟨h3, h4, triv_intro ⟨(wild_ok _ _).1, (wild_ok _ _).1⟩⟩, fun _ => ⟨fun _ => triv_intro ⟨.inl rfl, ob⟩, fun _ => triv_intro ⟨oa, ob⟩⟩⟩⟩⟩⟩
    show Onb (gneg _)
    rw [gneg_eq]; exact pneg_onP oa
  rintro ⟨p, q⟩ ⟨hp, hq⟩
  have hp : Onb p := hp
  have hq : Onb q := hq
  refine tr_vc hsp mixed _ _ ?_
  refine vcx (X := (True ∧ True ∧ (gon p = true → True ∧ (gon q = true → True ∧ (gon (gadd p q) = true → True ∧ True ∧ (gon (gneg (gadd p q)) = true → True ∧ (Onb p ∧ Onb q ∧ gneg (gadd p q) = pneg (padd p q)) ∧ (true = true → True ∧ (eqC (Kd.fp.pair Kd.fp) (gadd p q) (gadd q p) = true → (0 : Nat) + (2 : Nat) ≤ (2 : Nat) ∧ preSum (List.take (2 : Nat) (List.drop (0 : Nat) [p, q]), ()) ∧ (eqC (Kd.fp.pair Kd.fp) (gsum (List.take (2 : Nat) (List.drop (0 : Nat) [p, q]))) (gadd p q), ()) = (true, ())) ∧ (eqC (Kd.fp.pair Kd.fp) (gadd p q) (gadd q p) = false → (false, ()) = (true, ()))) ∧ (true = false → (false, ()) = (true, ()))) ∧ (gon (gneg (gadd p q)) = false → (false, ()) = (true, ()))) ∧ (gon (gadd p q) = false → (false, ()) = (true, ()))) ∧ (gon q = false → (false, ()) = (true, ()))) ∧ (gon p = false → (false, ()) = (true, ())))) (by kernel_rfl) ?_
  have e1 := gadd_eq hp hq
  have e2 := gadd_eq hq hp
  have o1 := padd_on b4_ne hp hq
  have e3 : gsum [p, q] = padd p q := by
    rw [gsum_eq (by intro x hx; simp at hx; rcases hx with rfl | rfl <;> assumption)]
    show padd p (padd q O2) = _
    rw [add_O]
  have g1 := (gon_iff p).2 hp
  have g2 := (gon_iff q).2 hq
  have g3 := (gon_iff _).2 o1
  have g4 := (gon_iff _).2 (pneg_onP o1)
  show _ ∧ _ ∧ _ ∧ _
  simp only [eqP, e1, e2, gneg_eq, g1, g2, g3, g4, padd_comm b4_ne hq hp]
  rw [show List.take 2 (List.drop 0 [p, q]) = [p, q] from rfl, e3]
  simp [preSum, hp, hq]
end Go.Proofs.Ytkfghpniaahjjaa.law07
namespace Go.Proofs.Ytkfghpniaahjjaa
set_option maxRecDepth 100000
open Go Go.Eng Go.RowKit Cr Go.ChangeShapes Go.WideShapes Go.ChangeAt

namespace g1Adds
theorem own : ownKnob Try.prog.godebug = none := by kernel_rfl
theorem laidOut : laidOutB Try.prog = true := by kernel_rfl
abbrev wtB : Car bsl → Prop := fun ys => List.length ys * Try.prog.bytesOf 5 ≤ reachBytes ∧ ∀ y ∈ ys, (Lit.int .u8 y).wf = true
theorem oB : OpnV Try.prog 33 bsl wtB := opnV_slice (e := 5) (by kernel_rfl) (by kernel_rfl) (by decide) (opnC_int (by kernel_rfl))
theorem bytes5 : Try.prog.bytesOf 5 = 1 := by kernel_rfl
theorem pB {xs : List Int} (h : wtB xs) : preB xs := by
  obtain ⟨h1, h2⟩ := h
  rw [bytes5] at h1
  refine ⟨fun x hx => ?_, ?_⟩
  · have := h2 x hx
    simp [Lit.wf, IntKind.min, IntKind.max, IntKind.signed, IntKind.bits] at this
    omega
  · show List.length xs ≤ _
    simp only [reachBytes] at h1
    omega
abbrev wtW : Car (.int .u16) → Prop := fun x => (Lit.int .u16 x).wf = true
theorem oW : OpnV Try.prog 55 (.int .u16) wtW := opnV_int (by kernel_rfl)
theorem pW {x : Int} (h : wtW x) : preW x := by
  have : (Lit.int .u16 x).wf = true := h
  simp [Lit.wf, IntKind.min, IntKind.max, IntKind.signed, IntKind.bits] at this
  exact ⟨by omega, by omega⟩
abbrev wtI : Car (.int .i64) → Prop := fun x => (Lit.int .i64 x).wf = true
theorem oI : OpnV Try.prog 3 (.int .i64) wtI := opnV_int (by kernel_rfl)
theorem pI {x : Int} (h : wtI x) : preI x := by
  have : (Lit.int .i64 x).wf = true := h
  simp [Lit.wf, IntKind.min, IntKind.max, IntKind.signed, IntKind.bits] at this
  exact ⟨by omega, by omega⟩
theorem opened : OpnL Try.prog [33, 33, 55, 55, 3] [bsl, bsl, .int .u16, .int .u16, .int .i64] (fun x => wtB x.1 ∧ wtB x.2.1 ∧ wtW x.2.2.1 ∧ wtW x.2.2.2.1 ∧ wtI x.2.2.2.2.1 ∧ True) :=
  .cons oB (by kernel_rfl) (of_decide_eq_true (by kernel_rfl)) (.cons oB (by kernel_rfl) (of_decide_eq_true (by kernel_rfl)) (.cons oW (by kernel_rfl) (of_decide_eq_true (by kernel_rfl)) (.cons oW (by kernel_rfl) (of_decide_eq_true (by kernel_rfl)) (.cons oI (by kernel_rfl) (of_decide_eq_true (by kernel_rfl)) .nil))))
theorem lifted (os : Os) (started : os.Started) (H : Type) (enc : TypeId × Value → H) :
    ReturnsInHanded {} Try.checked os 7 .any (Rows.g1AddsSpec.pre6 enc Try.prog Try.f7 Rows.g1AddsRow.domain false) (Rows.g1AddsSpec.post enc Try.prog Try.f7 false true false false) := by
  refine returnsInHanded_of_change_sized (C := Try.checked) own started (by kernel_rfl) Try.func7
    (ChangeSpec.witness6 (enc := enc) (C := Try.checked) false ⟨#[], #[.slice none 0 0, .slice none 0 0, .int .u16 0, .int .u16 0, .int .i64 0], []⟩ 8 (by kernel_rfl) (by kernel_rfl) (by kernel_rfl) (by kernel_rfl)) ?_
  intro W base args ds gs before hval hW _ hsz _
  refine law_row (C := Try.checked) (bt := 4) (ts := [33, 33, 55, 55, 3]) law07.ent_adds law07.fn_adds laidOut (by kernel_rfl) (by kernel_rfl) (by kernel_rfl) opened ?_ rfl ?_ W base args ds gs before hval hW hsz
  · rintro ⟨x0, x1, x2, x3, x4, ⟨⟩⟩ ⟨h0, h1, h2, h3, h4, _⟩
    exact ⟨pB h0, pB h1, pW h2, pW h3, pI h4⟩
  · intro ds hl
    match ds, hl with
    | [d0, d1, d2, d3, d4], _ => rfl

theorem proved : Rows.G1AddsSaid :=
  OpenClaim.holds_of_wide 7 Try.f7 rfl rfl rfl rfl rfl rfl rfl ⟨rfl, rfl, rfl, rfl, rfl⟩ rfl rfl rfl rfl rfl (by kernel_rfl) Try.func7 (by kernel_rfl)
    (of_decide_eq_true (by kernel_rfl)) (by unfold Func.isWrapper; first | (rw [if_pos (by decide +kernel)]; kernel_rfl) | (rw [if_neg (by decide +kernel)]; exact ⟨rfl, rfl⟩))
    (fun os started H enc _ => lifted os started H enc)
#print axioms proved
end g1Adds
end Go.Proofs.Ytkfghpniaahjjaa
