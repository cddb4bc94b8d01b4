/- G1Groups, for every input: true; the input reads as it did. No condition. -/
import Derived.Test.YtkfghpniaahjjaaMLGrpPS
/- G1Groups: the walk. -/
namespace Go.Proofs.Ytkfghpniaahjjaa.law07
set_option maxRecDepth 100000
open Go Go.Eng Go.RowKit Cr Go.Proofs.Ytkfghpniaahjjaa Go.Proofs.Ytkfghpniaahjjaa.g1
theorem ent_groups : enters Try.prog 9 Try.f9 := enters_mk (by kernel_rfl) (by kernel_rfl) (by kernel_rfl)
abbrev preGroups : HL [bsl, .int .u16] → Prop := fun (a, n, _) => preB a ∧ preW n
def rBs : List Int := bytesN 32 (rN : Int)
noncomputable def grpC (g : (Fp × Fp) × (Fp × Fp)) : St := mkSt Try.f9.ntmps 224 [(5, .is (.one (.ptr 72 0))), (6, .is (.one (.ptr 104 0))), (8, .is (.one (.sl 144 0 0 32 1)))] [(72, pc g.1), (104, pc g.2), (144, [.ints .u8 32 rBs])]
theorem rBs_Bs : Bs rBs := bytesN_Bs _ _
theorem rBs_num : (num rBs).toNat = rN := by rw [rBs, num_bytesN 32 _ (by decide) (by decide)]; rfl
theorem gtms_r {p : Fp × Fp} (h : Onb p) : gtms p rBs = nmul p rN := by rw [gtms_eq h rBs_Bs, rBs_num]
theorem gin_of {p : Fp × Fp} (h : Onb p) : gin p = decide (nmul p rN = (0, 0)) := by
  rw [Bool.eq_iff_iff, decide_eq_true_iff]
  constructor
  · intro hi
    rw [gin, opq_eq, isIn, Bool.and_eq_true, decide_eq_true_iff] at hi
    have e : pml p (-1) = nmul p (rN - 1) := by
      have := gmul_eq h (-1)
      rw [gmul, opq_eq] at this
      rw [this]; rfl
    rw [e] at hi
    have : nmul p (rN - 1 + 1) = padd (nmul p (rN - 1)) p := rfl
    rw [hi.2, neg_add_self] at this
    exact this
  · intro hi; exact sub_in ⟨h, hi⟩
theorem on_double {q : Fp × Fp} (hq : Onb q) (h : q = O2 ∨ q.2 ≠ 0) : gon (q.1, q.2 + q.2) = decide (q = (0, 0)) := by
  rw [Bool.eq_iff_iff, decide_eq_true_iff, gon_iff]
  rcases h with h | h
  · subst h
    exact ⟨fun _ => rfl, fun _ => .inl rfl⟩
  · constructor
    · intro ho
      rcases ho with ho | ho
      · have ho : q.2 + q.2 = 0 := congrArg Prod.snd ho
        exact absurd (Fd.double_eq_zero ho) h
      · have hq' : q.2 * q.2 = q.1 * q.1 * q.1 + b4 := by
          rcases hq with hq | hq
          · rw [hq] at h; exact absurd rfl h
          · exact hq
        have ho : (q.2 + q.2) * (q.2 + q.2) = q.1 * q.1 * q.1 + b4 := ho
        rw [← hq'] at ho
        exfalso
        have e : (1 + 1 + 1 : Fp) * (q.2 * q.2) = 0 := by
          rw [dbl3 q.2, ho, Rg.sub_self]
        rcases Fd.mul_eq_zero e with e | e
        · exact Fd.three_ne e
        · rcases Fd.mul_eq_zero e with e | e <;> exact h e
    · intro e
      rw [e] at h; exact absurd rfl h
theorem fn_groups : FnOk Try.prog 9 [bsl, .int .u16] [.val .bool] noG preGroups (fun _ => (true, ())) := by
  have hsp : SpecsOk Try.prog (sps [spHead, spLong, soGen, spScalar, soMul, soAdd, soTimes, soOn, soIn, spWild, fr.spOf, fr.spNeg, fr.spBytes, fp.spAdd]) := sps_cons (fnSpec_ok fn_head) (sps_cons (fnSpec_ok fn_long) (sps_cons (fnSpec_ok fo_gen) (sps_cons (fnSpec_ok fn_scalar) (sps_cons (fnSpec_ok fo_mul) (sps_cons (fnSpec_ok fo_add) (sps_cons (fnSpec_ok fo_times) (sps_cons (fnSpec_ok fo_on) (sps_cons (fnSpec_ok fo_in) (sps_cons (fnSpec_ok fn_wild) (sps_cons (fnSpec_ok fr.fn_of) (sps_cons (fnSpec_ok fr.fn_neg) (sps_cons (fnSpec_ok fr.fn_bytes) (sps_cons (fnSpec_ok fp.fn_add) sps_nil)))))))))))))
  refine fn_of_tr (sp := sps [spHead, spLong, soGen, spScalar, soMul, soAdd, soTimes, soOn, soIn, spWild, fr.spOf, fr.spNeg, fr.spBytes, fp.spAdd]) ent_groups (by decide) (by decide) (by kernel_rfl) ?_
  rintro w M0 ⟨a, n, ⟨⟩⟩
  revert a n
  intro (a : List Int) (n : Int) _ hp
  obtain ⟨h1, h2⟩ := hp
  show Tr _ _ _ _ _ _ _
  refine tr_cutF hsp mixed 10 (fun σ => (rdB pt1 72 σ, rdB pt1 104 σ)) grpC (fun g => Sub g.1 ∧ Onb g.2 ∧ (g.2 = O2 ∨ g.2.2 ≠ 0)) ?_ ?_
  · refine vcx (X := (True ∧ ((!true) = true → (false, ()) = (true, ())) ∧ ((!true) = false → True ∧ (lng a [] [] = true → (true, ()) = (true, ())) ∧ (lng a [] [] = false → True ∧ preSca (a, ()) ∧ True ∧ preWild (n, ()) ∧ U64 (1 : Int) ∧ True ∧ True ∧ ((0 : Int) ≤ (31 : Int) ∧ (31 : Int) < (↑((↑(32 : Nat) : Int) - (0 : Int)).toNat : Int)) ∧ Int.toNat (31 : Int) < (32 : Nat) ∧ ((0 : Int) ≤ (31 : Int) ∧ (31 : Int) < (↑((↑(32 : Nat) : Int) - (0 : Int)).toNat : Int)) ∧ Int.toNat (31 : Int) < (32 : Nat) ∧ (grpC (gmul gG (sca a), wildF (200 : Nat) n)).triv (Sub (gmul gG (sca a), wildF (200 : Nat) n).fst ∧ Onb (gmul gG (sca a), wildF (200 : Nat) n).snd ∧ ((gmul gG (sca a), wildF (200 : Nat) n).snd = O2 ∨ (gmul gG (sca a), wildF (200 : Nat) n).snd.snd ≠ (0 : Car Kd.fp))))))) (by kernel_rfl) ?_
    refine ⟨trivial, fun h => absurd h (by decide), fun _ => ⟨trivial, fun _ => rfl, fun _ => ⟨trivial, h1, trivial, h2, ⟨by decide, by decide⟩, trivial, trivial, ?_⟩⟩⟩
    refine ⟨by decide, by decide, by decide, by decide, triv_intro ⟨sub_gmul sub_G _, wild_ok _ _⟩⟩
  rintro ⟨p, q⟩ ⟨hp, hq, hq2⟩
  have hp : Sub p := hp
  have hq : Onb q := hq
  have hq2 : q = O2 ∨ q.2 ≠ 0 := hq2
  refine tr_vc hsp mixed _ _ ?_
  refine vcx (X := (True ∧ ((!gin p) = true → (false, ()) = (true, ())) ∧ ((!gin p) = false → True ∧ (0 : Nat) + (32 : Nat) ≤ (32 : Nat) ∧ preTimes (q, List.take (32 : Nat) (List.drop (0 : Nat) rBs), ()) ∧ ((!gin q == eqC (Kd.fp.pair Kd.fp) (gtms q (List.take (32 : Nat) (List.drop (0 : Nat) rBs))) ((0 : Fp), (0 : Fp))) = true → (false, ()) = (true, ())) ∧ ((!gin q == eqC (Kd.fp.pair Kd.fp) (gtms q (List.take (32 : Nat) (List.drop (0 : Nat) rBs))) ((0 : Fp), (0 : Fp))) = false → True ∧ ((!gon q) = true → (false, ()) = (true, ())) ∧ ((!gon q) = false → (0 : Nat) + (32 : Nat) ≤ (32 : Nat) ∧ preTimes (p, List.take (32 : Nat) (List.drop (0 : Nat) rBs), ()) ∧ ((!eqC (Kd.fp.pair Kd.fp) (gtms p (List.take (32 : Nat) (List.drop (0 : Nat) rBs))) ((0 : Fp), (0 : Fp))) = true → (false, ()) = (true, ())) ∧ ((!eqC (Kd.fp.pair Kd.fp) (gtms p (List.take (32 : Nat) (List.drop (0 : Nat) rBs))) ((0 : Fp), (0 : Fp))) = false → True ∧ True ∧ True ∧ ((gin (gadd q p) == gin q) = true → True ∧ True ∧ (gon (q.fst, q.snd + q.snd) == eqC (Kd.fp.pair Kd.fp) q ((0 : Fp), (0 : Fp)), ()) = (true, ())) ∧ ((gin (gadd q p) == gin q) = false → (false, ()) = (true, ())))))))) (by kernel_rfl) ?_
  rw [show List.take 32 (List.drop 0 rBs) = rBs from rfl]
  have oqp := padd_on b4_ne hq hp.1
  have e1 : gadd q p = padd q p := gadd_eq hq hp.1
  have e2 : nmul (padd q p) rN = nmul q rN := by rw [nmul_padd b4_ne hq hp.1, hp.2, add_O]
  have t1 : preTimes (q, rBs, ()) := ⟨rBs_Bs, show List.length rBs < _ by decide⟩
  have t2 : preTimes (p, rBs, ()) := ⟨rBs_Bs, show List.length rBs < _ by decide⟩
  have hz : nmul p rN = ((0 : Fp), (0 : Fp)) := hp.2
  simp only [eqP, e1, gin_of hp.1, gin_of hq, gin_of oqp, e2, gtms_r hp.1, gtms_r hq, hz, (gon_iff q).2 hq, on_double hq hq2]
  simp
  exact t1
end Go.Proofs.Ytkfghpniaahjjaa.law07
namespace Go.Proofs.Ytkfghpniaahjjaa
set_option maxRecDepth 100000
open Go Go.Eng Go.RowKit Cr Go.ChangeShapes Go.WideShapes Go.ChangeAt

namespace g1Groups
theorem own : ownKnob Try.prog.godebug = none := by kernel_rfl
theorem laidOut : laidOutB Try.prog = true := by kernel_rfl
abbrev wtB : Car bsl → Prop := fun ys => List.length ys * Try.prog.bytesOf 5 ≤ reachBytes ∧ ∀ y ∈ ys, (Lit.int .u8 y).wf = true
theorem oB : OpnV Try.prog 33 bsl wtB := opnV_slice (e := 5) (by kernel_rfl) (by kernel_rfl) (by decide) (opnC_int (by kernel_rfl))
theorem bytes5 : Try.prog.bytesOf 5 = 1 := by kernel_rfl
theorem pB {xs : List Int} (h : wtB xs) : preB xs := by
  obtain ⟨h1, h2⟩ := h
  rw [bytes5] at h1
  refine ⟨fun x hx => ?_, ?_⟩
  · have := h2 x hx
    simp [Lit.wf, IntKind.min, IntKind.max, IntKind.signed, IntKind.bits] at this
    omega
  · show List.length xs ≤ _
    simp only [reachBytes] at h1
    omega
abbrev wtW : Car (.int .u16) → Prop := fun x => (Lit.int .u16 x).wf = true
theorem oW : OpnV Try.prog 55 (.int .u16) wtW := opnV_int (by kernel_rfl)
theorem pW {x : Int} (h : wtW x) : preW x := by
  have : (Lit.int .u16 x).wf = true := h
  simp [Lit.wf, IntKind.min, IntKind.max, IntKind.signed, IntKind.bits] at this
  exact ⟨by omega, by omega⟩
theorem opened : OpnL Try.prog [33, 55] [bsl, .int .u16] (fun x => wtB x.1 ∧ wtW x.2.1 ∧ True) :=
  .cons oB (by kernel_rfl) (of_decide_eq_true (by kernel_rfl)) (.cons oW (by kernel_rfl) (of_decide_eq_true (by kernel_rfl)) .nil)
theorem lifted (os : Os) (started : os.Started) (H : Type) (enc : TypeId × Value → H) :
    ReturnsInHanded {} Try.checked os 9 .any (Rows.g1GroupsSpec.pre6 enc Try.prog Try.f9 Rows.g1GroupsRow.domain false) (Rows.g1GroupsSpec.post enc Try.prog Try.f9 false true false false) := by
  refine returnsInHanded_of_change_sized (C := Try.checked) own started (by kernel_rfl) Try.func9
    (ChangeSpec.witness6 (enc := enc) (C := Try.checked) false ⟨#[], #[.slice none 0 0, .int .u16 0], []⟩ 8 (by kernel_rfl) (by kernel_rfl) (by kernel_rfl) (by kernel_rfl)) ?_
  intro W base args ds gs before hval hW _ hsz _
  refine law_row (C := Try.checked) (bt := 4) (ts := [33, 55]) law07.ent_groups law07.fn_groups laidOut (by kernel_rfl) (by kernel_rfl) (by kernel_rfl) opened ?_ rfl ?_ W base args ds gs before hval hW hsz
  · rintro ⟨x0, x1, ⟨⟩⟩ ⟨h0, h1, _⟩
    exact ⟨pB h0, pW h1⟩
  · intro ds hl
    match ds, hl with
    | [d0, d1], _ => rfl

theorem proved : Rows.G1GroupsSaid :=
  OpenClaim.holds_of_wide 9 Try.f9 rfl rfl rfl rfl rfl rfl rfl ⟨rfl, rfl, rfl, rfl, rfl⟩ rfl rfl rfl rfl rfl (by kernel_rfl) Try.func9 (by kernel_rfl)
    (of_decide_eq_true (by kernel_rfl)) (by unfold Func.isWrapper; first | (rw [if_pos (by decide +kernel)]; kernel_rfl) | (rw [if_neg (by decide +kernel)]; exact ⟨rfl, rfl⟩))
    (fun os started H enc _ => lifted os started H enc)
#print axioms proved
end g1Groups
end Go.Proofs.Ytkfghpniaahjjaa
