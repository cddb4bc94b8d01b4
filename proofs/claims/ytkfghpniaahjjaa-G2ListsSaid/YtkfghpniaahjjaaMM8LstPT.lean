/- G2Lists, for every input: true; the input reads as it did. No condition. -/
import Derived.Test.YtkfghpniaahjjaaMM8LstPS
/- What rows ask of their arguments. -/
namespace Go.Proofs.Ytkfghpniaahjjaa
open Go Go.Eng Cr
abbrev bsl : Kd := .sl (.int .u8)
/-- Bytes of an input. -/
abbrev preB (b : List Int) : Prop := Bs b ∧ List.length b ≤ 281474976710656
abbrev preBB (bs : List (List Int)) : Prop := (∀ b ∈ bs, preB b) ∧ List.length bs ≤ 281474976710656
abbrev preW (x : Int) : Prop := 0 ≤ x ∧ x < 65536
abbrev preY (x : Int) : Prop := 0 ≤ x ∧ x < 256
abbrev preI (x : Int) : Prop := -9223372036854775808 ≤ x ∧ x < 9223372036854775808
abbrev preL (_ : Bool) : Prop := True
abbrev preIS (xs : List Int) : Prop := (∀ x ∈ xs, preI x) ∧ List.length xs ≤ 281474976710656
end Go.Proofs.Ytkfghpniaahjjaa
/- Helpers of laws. -/
namespace Go.Proofs.Ytkfghpniaahjjaa
open Go Go.Eng Cr
abbrev eq2 (p q : Fp × Fp) : Bool := decide (p.1 = q.1) && decide (p.2 = q.2)
theorem eq2_eq (p q : Fp × Fp) : eq2 p q = decide (p = q) := dec_pair p q
theorem eq2_of {p q : Fp × Fp} (h : p = q) : eq2 p q = true := by rw [eq2_eq]; exact decide_eq_true h
theorem ne2_of {p q : Fp × Fp} (h : p ≠ q) : (!eq2 p q) = true := by rw [eq2_eq]; simp [h]
/-- A test that must hold: else the answer is false. -/
def Ck (c : Bool) (T : Prop) : Prop := (c = true → T) ∧ (c = false → ((false, ()) : Bool × Unit) = (true, ()))
theorem ck {c : Bool} {T : Prop} (h : c = true) (t : T) : Ck c T := ⟨fun _ => t, fun e => by rw [h] at e; cases e⟩
/-- A test that must fail: else the answer is false. -/
def Cn (c : Bool) (T : Prop) : Prop := (c = true → ((false, ()) : Bool × Unit) = (true, ())) ∧ (c = false → T)
theorem cn {c : Bool} {T : Prop} (h : c = false) (t : T) : Cn c T := ⟨fun e => absurd e (by rw [h]; decide), fun _ => t⟩
theorem eqP (a b : Fp × Fp) : eqC (.pair .fp .fp) a b = decide (a = b) := by
  have h := eqC_iff (e := .pair .fp .fp) a b
  rw [Bool.eq_iff_iff, h, decide_eq_true_iff]
theorem eqF (a b : Fp) : eqC .fp a b = decide (a = b) := rfl
theorem eqR (a b : Fr) : eqC .fr a b = decide (a = b) := rfl
abbrev ok (b : Bool) : Prop := ((b, ()) : Bool × Unit) = (true, ())
end Go.Proofs.Ytkfghpniaahjjaa
/- law08: head, scalar, long. -/
namespace Go.Proofs.Ytkfghpniaahjjaa.law08
set_option maxRecDepth 100000
open Go Go.Eng Go.RowKit Cr Go.Proofs.Ytkfghpniaahjjaa Go.Proofs.Ytkfghpniaahjjaa.fp2 Go.Proofs.Ytkfghpniaahjjaa.g2

theorem ent_scalar : enters Try.prog 39 Try.f39 := enters_mk (by kernel_rfl) (by kernel_rfl) (by kernel_rfl)
noncomputable def sca (b : List Int) : Fr := opq (zm (num b))
abbrev preSca : HL [.sl (.int .u8)] → Prop := fun (b, _) => Bs b ∧ List.length b ≤ 281474976710656
noncomputable abbrev outSca : HL [.sl (.int .u8)] → HO [.val .fr] := fun (b, _) => (sca b, ())
theorem fn_scalar : FnOk Try.prog 39 [.sl (.int .u8)] [.val .fr] noG preSca outSca := by
  refine fn_of_vc (sp := sps [ref01.spCopy, fr.spWide]) (sps_cons (fnSpec_ok ref01.fn_copy) (sps_cons (fnSpec_ok fr.fn_wide) sps_nil)) mixed ent_scalar (by decide) (by decide) ?_
  rintro w M0 ⟨b, ⟨⟩⟩
  revert b
  intro (b : List Int) _ hp
  obtain ⟨h1, h2⟩ := hp
  have h2 : b.length ≤ 281474976710656 := h2
  refine vcx (X := (ref01.preCopy (b, ()) ∧ 0 + b.length ≤ b.length ∧ fr.preWide (b.take b.length, ()) ∧ ((zm (num (b.take b.length)) : Fr), ()) = outSca (b, ()))) (by kernel_rfl) ?_
  rw [List.take_length]
  refine ⟨h2, by omega, ⟨h1, by show b.length < _; omega⟩, ?_⟩
  show _ = (sca b, ())
  rw [sca, opq_eq]
noncomputable def spScalar : Nat × Eng.Spec := (39, fnSpec [.sl (.int .u8)] [.val .fr] preSca outSca)

theorem ent_long : enters Try.prog 36 Try.f36 := enters_mk (by kernel_rfl) (by kernel_rfl) (by kernel_rfl)
def lng (a b c : List Int) : Bool := decide ((a.length : Int) > 100) || (decide ((b.length : Int) > 100) || decide ((c.length : Int) > 100))
abbrev outLong : HL [.sl (.int .u8), .sl (.int .u8), .sl (.int .u8)] → HO [.val .bool] := fun (a, b, c, _) => (lng a b c, ())
theorem fn_long : FnOk Try.prog 36 [.sl (.int .u8), .sl (.int .u8), .sl (.int .u8)] [.val .bool] noG (fun _ => True) outLong := by
  refine fn_of_vc (sp := sps []) sps_nil mixed ent_long (by decide) (by decide) ?_
  rintro w M0 ⟨a, b, c, ⟨⟩⟩
  revert a b c
  intro (a : List Int) (b : List Int) (c : List Int) _ _
  refine vcx (X := ((decide ((a.length : Int) > 100) = true → (true, ()) = outLong (a, b, c, ())) ∧ (decide ((a.length : Int) > 100) = false → (decide ((b.length : Int) > 100) = true → (true, ()) = outLong (a, b, c, ())) ∧ (decide ((b.length : Int) > 100) = false → (decide ((c.length : Int) > 100), ()) = outLong (a, b, c, ()))))) (by kernel_rfl) ?_
  refine ⟨fun h => ?_, fun h => ⟨fun h2 => ?_, fun h2 => ?_⟩⟩
  all_goals show _ = (lng a b c, ())
  · simp only [lng, h, Bool.true_or]
  · simp only [lng, h, h2, Bool.true_or, Bool.or_true]
  · simp only [lng, h, h2, Bool.false_or]
noncomputable def spLong : Nat × Eng.Spec := (36, fnSpec [.sl (.int .u8), .sl (.int .u8), .sl (.int .u8)] [.val .bool] (fun _ => True) outLong)

theorem ent_head : enters Try.prog 35 Try.f35 := enters_mk (by kernel_rfl) (by kernel_rfl) (by kernel_rfl)
theorem fn_head : FnOk Try.prog 35 [] [.val .bool] noG (fun _ => True) (fun _ => (true, ())) := by
  refine fn_of_vc (sp := sps [soGen, soAdd, soOn, soTimes, soNeg, fp2.spOdd]) (sps_cons (fnSpec_ok fo_gen) (sps_cons (fnSpec_ok fo_add) (sps_cons (fnSpec_ok fo_on) (sps_cons (fnSpec_ok fo_times) (sps_cons (fnSpec_ok fo_neg) (sps_cons (fnSpec_ok fp2.fn_odd) sps_nil)))))) mixed ent_head (by decide) (by decide) ?_
  rintro w M0 ⟨⟩ _ _
  refine vcx (X := (True ∧ True ∧ True ∧ (gon gG = true → True ∧ (gon (gadd gG gG) = true → ((!eqC ((Kd.fp.pair Kd.fp).pair (Kd.fp.pair Kd.fp)) (gadd gG gG) gG) = true → ((!eqC ((Kd.fp.pair Kd.fp).pair (Kd.fp.pair Kd.fp)) (gadd gG gG) (((0 : Fp), (0 : Fp)), (0 : Fp), (0 : Fp))) = true → (0 : Nat) + (1 : Nat) ≤ (1 : Nat) ∧ preTimes (gG, List.take (1 : Nat) [(2 : Int)], ()) ∧ (eqC ((Kd.fp.pair Kd.fp).pair (Kd.fp.pair Kd.fp)) (gtms gG (List.take (1 : Nat) [(2 : Int)])) (gadd gG gG) = true → True ∧ True ∧ (eqC ((Kd.fp.pair Kd.fp).pair (Kd.fp.pair Kd.fp)) (gadd gG (gneg gG)) (((0 : Fp), (0 : Fp)), (0 : Fp), (0 : Fp)) = true → True ∧ (!if gG.fst.fst = (0 : Zm Mp) then decide (gG.fst.snd.v % (2 : Int) = (1 : Int)) else decide (gG.fst.fst.v % (2 : Int) = (1 : Int)), ()) = (true, ())) ∧ (eqC ((Kd.fp.pair Kd.fp).pair (Kd.fp.pair Kd.fp)) (gadd gG (gneg gG)) (((0 : Fp), (0 : Fp)), (0 : Fp), (0 : Fp)) = false → (false, ()) = (true, ()))) ∧ (eqC ((Kd.fp.pair Kd.fp).pair (Kd.fp.pair Kd.fp)) (gtms gG (List.take (1 : Nat) [(2 : Int)])) (gadd gG gG) = false → (false, ()) = (true, ()))) ∧ ((!eqC ((Kd.fp.pair Kd.fp).pair (Kd.fp.pair Kd.fp)) (gadd gG gG) (((0 : Fp), (0 : Fp)), (0 : Fp), (0 : Fp))) = false → (false, ()) = (true, ()))) ∧ ((!eqC ((Kd.fp.pair Kd.fp).pair (Kd.fp.pair Kd.fp)) (gadd gG gG) gG) = false → (false, ()) = (true, ()))) ∧ (gon (gadd gG gG) = false → (false, ()) = (true, ()))) ∧ (gon gG = false → (false, ()) = (true, ())))) (by kernel_rfl) ?_
  have hG := gG_on
  have e1 : gadd gG gG = padd gG gG := gadd_eq hG hG
  have oD : Onb (padd gG gG) := padd_on b4_ne hG hG
  have hb2 : Bs [2] := by intro x hx; simp at hx; subst hx; exact ⟨by decide, by decide⟩
  have n1 : padd gG gG ≠ gG := by
    intro e
    have := cancel b4_ne hG hG
    rw [e, neg_add_self] at this
    exact gG_ne this.symm
  have n2 : padd gG gG ≠ ((0, 0), 0, 0) := by
    intro e
    have := cancel b4_ne hG hG
    have e : padd gG gG = O2 := e
    rw [e, add_O] at this
    have h2 : (pneg gG).2 = gG.2 := congrArg Prod.snd this
    rw [gG_eq] at h2
    have h3 : (-gy).1 = gy.1 := congrArg Prod.fst h2
    rw [F2.neg1] at h3
    exact absurd h3 (by decide)
  have e2 : gtms gG [2] = padd gG gG := by rw [gtms_eq hG hb2]; exact nmul_two
  have e3 : gadd gG (gneg gG) = ((0, 0), 0, 0) := by rw [gneg_eq, gadd_eq hG (pneg_onP hG)]; exact add_neg_self _
  have ho : ∀ c : Bool, (if gG.1.1 = 0 then c else (fp.outOdd (gG.1.1, ())).1) = false := by
    intro c
    rw [gG_eq, if_neg (show ¬ (gx.1 = 0) by decide)]
    show (fp.outOdd (gx.1, ())).1 = false
    decide
  simp only [eqP2, e1, e3, (gon_iff _).2 hG, (gon_iff _).2 oD, n1, n2]
  have pt : preTimes (gG, [2], ()) := ⟨hb2, by show 1 < _; decide⟩
  simp [ho]
  exact ⟨pt, e2⟩
noncomputable def spHead : Nat × Eng.Spec := (35, fnSpec [] [.val .bool] (fun _ => True) (fun _ => (true, ())))
end Go.Proofs.Ytkfghpniaahjjaa.law08
/- G2Lists: the walk. -/
namespace Go.Proofs.Ytkfghpniaahjjaa.law08
set_option maxRecDepth 100000
open Go Go.Eng Go.RowKit Cr Go.Proofs.Ytkfghpniaahjjaa Go.Proofs.Ytkfghpniaahjjaa.fp2 Go.Proofs.Ytkfghpniaahjjaa.g2
theorem ent_lists : enters Try.prog 11 Try.f11 := enters_mk (by kernel_rfl) (by kernel_rfl) (by kernel_rfl)
abbrev preLists : HL [.sl bsl, .int .i64] → Prop := fun (ks, how, _) => preBB ks ∧ preI how
noncomputable def lstI (ks : List (List Int)) (how : Int) (g : Int × Nat × List (F2 × F2) × (F2 × F2) × Fr) : St := mkSt Try.f11.ntmps 136 [(1, sI .i64 how), (5, .is (.one (.sl 48 0 0 g.2.1 24))), (6, .is (.one (.ptr 72 0))), (7, .is (.one (.ptr 96 0))), (23, .is (.one (.ro bsl ks))), (24, sI .i64 ks.length), (25, sI .i64 g.1)] [(48, [.row pt2 g.2.1 g.2.2.1]), (72, pc g.2.2.2.1), (96, [.row .fr 1 [g.2.2.2.2]])]
noncomputable def lstO (g : Nat × List (F2 × F2) × (F2 × F2) × Fr) : St := mkSt Try.f11.ntmps 136 [(5, .is (.one (.sl 48 0 0 g.1 24))), (6, .is (.one (.ptr 72 0))), (7, .is (.one (.ptr 96 0)))] [(48, [.row pt2 g.1 g.2.1]), (72, pc g.2.2.1), (96, [.row .fr 1 [g.2.2.2]])]
def LJ (g : Nat × List (F2 × F2) × (F2 × F2) × Fr) : Prop := g.1 = g.2.1.length ∧ g.1 ≤ 6 ∧ (∀ p ∈ g.2.1, Sub p) ∧ g.2.2.1 = psum g.2.1 ∧ g.2.2.1 = gmul gG g.2.2.2
def LJ1 (ks : List (List Int)) (g : Int × Nat × List (F2 × F2) × (F2 × F2) × Fr) : Prop := g.1 = (g.2.1 : Int) ∧ g.2.1 ≤ ks.length ∧ LJ g.2
theorem lj_step {n : Nat} {ps : List (F2 × F2)} {s : F2 × F2} {t : Fr} (h : LJ (n, ps, s, t)) (hn : n < 6) {q : F2 × F2} {x : Fr} (hq : q = gmul gG x) : LJ (n + 1, ps.take n ++ List.take 1 [q], gadd s q, t + x) := by
  obtain ⟨h1, h2, h3, h4, h5⟩ := h
  have h1 : n = ps.length := h1
  have h4 : s = psum ps := h4
  have h5 : s = gmul gG t := h5
  have hon : ∀ p ∈ ps, Onb p := fun p hp => (h3 p hp).1
  have os : Onb s := by rw [h4]; exact psum_on b4_ne hon
  have sq : Sub q := by rw [hq]; exact sub_gmul sub_G x
  have e : List.take n ps = ps := by rw [h1]; exact List.take_length
  rw [e]
  refine ⟨by simp [h1], by show n + 1 ≤ 6; omega, ?_, ?_, ?_⟩
  · intro p hp
    rcases List.mem_append.1 hp with hp | hp
    · exact h3 p hp
    · simp at hp; rw [hp]; exact sq
  · show gadd s q = psum (ps ++ [q])
    rw [psum_snoc b4_ne hon sq.1, gadd_eq os sq.1, h4]
  · show gadd s q = gmul gG (t + x)
    rw [mul_add sub_G, ← h5, ← hq, gadd_eq os sq.1]
noncomputable def bckI (n : Nat) (ps : List (F2 × F2)) (s : F2 × F2) (t : Fr) (g : Int × (F2 × F2)) : St := mkSt Try.f11.ntmps 192 [(5, .is (.one (.sl 48 0 0 n 24))), (6, .is (.one (.ptr 72 0))), (7, .is (.one (.ptr 96 0))), (12, .is (.one (.ptr 144 0))), (13, sI .i64 g.1)] [(48, [.row pt2 n ps]), (72, pc s), (96, [.row .fr 1 [t]]), (144, pc g.2)]
def bckJ (ps : List (F2 × F2)) (g : Int × (F2 × F2)) : Prop := ∃ k : Nat, k ≤ ps.length ∧ g.1 = (k : Int) - 1 ∧ g.2 = psum (ps.drop k)
def bckO (ps : List (F2 × F2)) (g : Int × (F2 × F2)) : Prop := g.2 = psum ps
theorem fn_lists : FnOk Try.prog 11 [.sl bsl, .int .i64] [.val .bool] noG preLists (fun _ => (true, ())) := by
  have hsp : SpecsOk Try.prog (sps [spHead, soGen, spScalar, soMul, soAdd, soNeg, soSum, fr.spNeg, fr.spAdd]) := sps_cons (fnSpec_ok fn_head) (sps_cons (fnSpec_ok fo_gen) (sps_cons (fnSpec_ok fn_scalar) (sps_cons (fnSpec_ok fo_mul) (sps_cons (fnSpec_ok fo_add) (sps_cons (fnSpec_ok fo_neg) (sps_cons (fnSpec_ok fo_sum) (sps_cons (fnSpec_ok fr.fn_neg) (sps_cons (fnSpec_ok fr.fn_add) sps_nil))))))))
  refine fn_of_tr (sp := sps [spHead, soGen, spScalar, soMul, soAdd, soNeg, soSum, fr.spNeg, fr.spAdd]) ent_lists (by decide) (by decide) (by kernel_rfl) ?_
  rintro w M0 ⟨ks, how, ⟨⟩⟩
  revert ks how
  intro (ks : List (List Int)) (how : Int) _ hp
  obtain ⟨h1, h2⟩ := hp
  show Tr _ _ _ _ _ _ _
  refine tr_cut hsp mixed 9 (lstI ks how (0, 0, [], (0, 0), 0)) (ks.length ≤ 6) ?_ (fun hl => ?_)
  · refine vcx (X := (True ∧ ((!true) = true → (false, ()) = (true, ())) ∧ ((!true) = false → (decide ((↑ks.length : Int) > (6 : Int)) = true → (true, ()) = (true, ())) ∧ (decide ((↑ks.length : Int) > (6 : Int)) = false → (lstI ks how ((0 : Int), (0 : Nat), [], ((0 : F2), (0 : F2)), (0 : Fr))).triv (ks.length ≤ (6 : Nat)))))) (by kernel_rfl) ?_
    exact ⟨trivial, fun h => absurd h (by decide), fun _ => ⟨fun _ => rfl, fun h => triv_intro (by have := of_decide_eq_false h; omega)⟩⟩
  refine tr_while hsp mixed (fun σ => [(48, rdI 5 σ)]) (fun σ => (rdS (.int .i64) 25 σ, rdL 5 σ, rdR pt2 48 σ, rdB pt2 72 σ, rdB .fr 96 σ)) (lstI ks how) (LJ1 ks) (fun g => ks.length - g.2.1)
    (fun σ => (rdL 5 σ, rdR pt2 48 σ, rdB pt2 72 σ, rdB .fr 96 σ)) lstO LJ (0, 0, [], (0, 0), 0) (c := nthC (codeOf Try.f11) 9) (by kernel_rfl) (by kernel_rfl) (le_of_proj (by kernel_rfl) (by kernel_rfl) ?_) ?_ ?_
  · exact ⟨rfl, Nat.zero_le _, rfl, Nat.zero_le _, (fun _ h => nomatch h), rfl, (mul_zero sub_G).symm⟩
  · rintro ⟨i, n, ps, s, t⟩ hj
    revert i ps s t
    intro (i : Int) (ps : List (F2 × F2)) (s : F2 × F2) (t : Fr) ⟨hi, hn, hj⟩
    have hi : i = (n : Int) := hi
    subst hi
    have hn : n ≤ ks.length := hn
    have h6 : n ≤ 6 := hj.2.1
    refine vcx (X := ((decide ((↑n : Int) < (↑ks.length : Int)) = true → ((0 : Int) ≤ (↑n : Int) ∧ (↑n : Int) < (↑ks.length : Int)) ∧ (↑n : Int).toNat < ks.length ∧ (decide ((↑(ks.getD (↑n : Int).toNat []).length : Int) > (100 : Int)) = true → (true, ()) = (true, ())) ∧ (decide ((↑(ks.getD (↑n : Int).toNat []).length : Int) > (100 : Int)) = false → preSca (ks.getD (↑n : Int).toNat [], ()) ∧ True ∧ True ∧ (0 : Int) ≤ IntKind.u64.wrap (bitOp BinOp.and IntKind.i64 (↑n : Int) (7 : Int)) ∧ ((bitOp BinOp.and IntKind.i64 (how.fdiv ((2 : Int) ^ min (IntKind.u64.wrap (bitOp BinOp.and IntKind.i64 (↑n : Int) (7 : Int))).toNat IntKind.i64.bits)) (1 : Int) == (1 : Int)) = true → True ∧ True ∧ (0 : Nat) + (1 : Nat) ≤ (1 : Nat) ∧ n ≤ n ∧ (n + (1 : Nat)) * (192 : Nat) ≤ (140737488355328 : Nat) ∧ n + (1 : Nat) ≤ (4611686018427387904 : Nat) ∧ True ∧ True ∧ (lstI ks how (IntKind.i64.wrap ((↑n : Int) + (1 : Int)), n + (1 : Nat), List.take n ps ++ List.take (1 : Nat) [gneg (gmul gG (sca (ks.getD (↑n : Int).toNat [])))], gadd s (gneg (gmul gG (sca (ks.getD (↑n : Int).toNat [])))), t + -sca (ks.getD (↑n : Int).toNat []))).triv (LJ1 ks (IntKind.i64.wrap ((↑n : Int) + (1 : Int)), n + (1 : Nat), List.take n ps ++ List.take (1 : Nat) [gneg (gmul gG (sca (ks.getD (↑n : Int).toNat [])))], gadd s (gneg (gmul gG (sca (ks.getD (↑n : Int).toNat [])))), t + -sca (ks.getD (↑n : Int).toNat [])) ∧ ks.length - (IntKind.i64.wrap ((↑n : Int) + (1 : Int)), n + (1 : Nat), List.take n ps ++ List.take (1 : Nat) [gneg (gmul gG (sca (ks.getD (↑n : Int).toNat [])))], gadd s (gneg (gmul gG (sca (ks.getD (↑n : Int).toNat [])))), t + -sca (ks.getD (↑n : Int).toNat [])).snd.fst < ks.length - ((↑n : Int), n, ps, s, t).snd.fst)) ∧ ((bitOp BinOp.and IntKind.i64 (how.fdiv ((2 : Int) ^ min (IntKind.u64.wrap (bitOp BinOp.and IntKind.i64 (↑n : Int) (7 : Int))).toNat IntKind.i64.bits)) (1 : Int) == (1 : Int)) = false → (0 : Nat) + (1 : Nat) ≤ (1 : Nat) ∧ n ≤ n ∧ (n + (1 : Nat)) * (192 : Nat) ≤ (140737488355328 : Nat) ∧ n + (1 : Nat) ≤ (4611686018427387904 : Nat) ∧ True ∧ True ∧ (lstI ks how (IntKind.i64.wrap ((↑n : Int) + (1 : Int)), n + (1 : Nat), List.take n ps ++ List.take (1 : Nat) [gmul gG (sca (ks.getD (↑n : Int).toNat []))], gadd s (gmul gG (sca (ks.getD (↑n : Int).toNat []))), t + sca (ks.getD (↑n : Int).toNat []))).triv (LJ1 ks (IntKind.i64.wrap ((↑n : Int) + (1 : Int)), n + (1 : Nat), List.take n ps ++ List.take (1 : Nat) [gmul gG (sca (ks.getD (↑n : Int).toNat []))], gadd s (gmul gG (sca (ks.getD (↑n : Int).toNat []))), t + sca (ks.getD (↑n : Int).toNat [])) ∧ ks.length - (IntKind.i64.wrap ((↑n : Int) + (1 : Int)), n + (1 : Nat), List.take n ps ++ List.take (1 : Nat) [gmul gG (sca (ks.getD (↑n : Int).toNat []))], gadd s (gmul gG (sca (ks.getD (↑n : Int).toNat []))), t + sca (ks.getD (↑n : Int).toNat [])).snd.fst < ks.length - ((↑n : Int), n, ps, s, t).snd.fst)))) ∧ (decide ((↑n : Int) < (↑ks.length : Int)) = false → (lstO (n, ps, s, t)).triv (LJ (n, ps, s, t))))) (by kernel_rfl) ?_
    refine ⟨fun h => ?_, fun h => triv_intro hj⟩
    have hlt : n < ks.length := by have := dec_lt h; omega
    rw [Int.toNat_natCast, wrap_succ (by omega)]
    have hb : preB (ks.getD n []) := h1.1 _ (by rw [List.getD_eq_getElem?_getD, List.getElem?_eq_getElem hlt]; exact List.getElem_mem hlt)
    have hw : (0 : Int) ≤ IntKind.u64.wrap (bitOp .and .i64 n 7) := by
      simp only [IntKind.wrap, IntKind.signed, IntKind.bits]; simp; omega
    refine ⟨⟨by omega, by omega⟩, hlt, fun _ => rfl, fun _ => ⟨hb, trivial, trivial, hw, fun _ => ⟨trivial, trivial, by decide, Nat.le_refl _, by omega, by omega, trivial, trivial, triv_intro ⟨⟨rfl, hlt, ?_⟩, by show ks.length - (n + 1) < ks.length - n; omega⟩⟩, fun _ => ⟨by decide, Nat.le_refl _, by omega, by omega, trivial, trivial, triv_intro ⟨⟨rfl, hlt, ?_⟩, by show ks.length - (n + 1) < ks.length - n; omega⟩⟩⟩⟩
    · exact lj_step hj (by omega) (by rw [gneg_eq, mul_neg sub_G])
    · exact lj_step hj (by omega) rfl
  rintro ⟨n, ps, s, t⟩ hj
  revert ps s t
  intro (ps : List (F2 × F2)) (s : F2 × F2) (t : Fr) hj
  obtain ⟨g1, g2, g3, g4, g5⟩ := hj
  have g1 : n = ps.length := g1
  have g2 : n ≤ 6 := g2
  have g4 : s = psum ps := g4
  have g5 : s = gmul gG t := g5
  have hon : ∀ p ∈ ps, Onb p := fun p hp => (g3 p hp).1
  have os : Onb s := by rw [g4]; exact psum_on b4_ne hon
  refine tr_cut hsp mixed 2 (bckI n ps s t (IntKind.i64.wrap ((n : Int) - 1), (0, 0))) True ?_ (fun _ => ?_)
  · refine vcx (X := ((bckI n ps s t (IntKind.i64.wrap ((↑n : Int) - (1 : Int)), (0 : F2), (0 : F2))).triv True)) (by kernel_rfl) ?_
    exact triv_intro trivial
  have ew : IntKind.i64.wrap ((n : Int) - 1) = (n : Int) - 1 := wrap_i64' (by omega) (by omega)
  refine tr_while hsp mixed noSw (fun σ => (rdS (.int .i64) 13 σ, rdB pt2 144 σ)) (bckI n ps s t) (bckJ ps) (fun g => (g.1 + 1).toNat)
    (fun σ => (rdS (.int .i64) 13 σ, rdB pt2 144 σ)) (bckI n ps s t) (bckO ps) (IntKind.i64.wrap ((n : Int) - 1), (0, 0)) (c := nthC (codeOf Try.f11) 12) (by kernel_rfl) (by kernel_rfl) (le_of_proj (by kernel_rfl) (by kernel_rfl) ?_) ?_ ?_
  · refine ⟨n, by omega, ew, ?_⟩
    show (0, 0) = _
    rw [g1, List.drop_length]; rfl
  · rintro ⟨i, s'⟩ hj
    revert i s'
    intro (i : Int) (s' : F2 × F2) ⟨k, hk, ei, es⟩
    have ei : i = (k : Int) - 1 := ei
    have es : s' = psum (ps.drop k) := es
    refine vcx (X := ((decide (i ≥ (0 : Int)) = true → ((0 : Int) ≤ i ∧ i < (↑n : Int)) ∧ i.toNat < n ∧ True ∧ (bckI n ps s t (IntKind.i64.wrap (i - (1 : Int)), gadd s' (ps.getD i.toNat (((0 : Fp), (0 : Fp)), (0 : Fp), (0 : Fp))))).triv (bckJ ps (IntKind.i64.wrap (i - (1 : Int)), gadd s' (ps.getD i.toNat (((0 : Fp), (0 : Fp)), (0 : Fp), (0 : Fp)))) ∧ Int.toNat ((IntKind.i64.wrap (i - (1 : Int)), gadd s' (ps.getD i.toNat (((0 : Fp), (0 : Fp)), (0 : Fp), (0 : Fp)))).fst + (1 : Car (Kd.int IntKind.i64))) < Int.toNat ((i, s').fst + (1 : Car (Kd.int IntKind.i64))))) ∧ (decide (i ≥ (0 : Int)) = false → (bckI n ps s t (i, s')).triv (bckO ps (i, s'))))) (by kernel_rfl) ?_
    refine ⟨fun h => ?_, fun h => triv_intro ?_⟩
    · have h : i ≥ 0 := of_decide_eq_true h
      have hik : i = ((k - 1 : Nat) : Int) := by omega
      have hk1 : k - 1 < ps.length := by omega
      have hd : ps.drop (k - 1) = ps[k - 1] :: ps.drop k := by
        rw [List.drop_eq_getElem_cons hk1, show k - 1 + 1 = k by omega]
      have hp1 : Onb ps[k - 1] := hon _ (List.getElem_mem hk1)
      have hpd : Onb (psum (ps.drop k)) := psum_on b4_ne (fun p hp => hon p (List.mem_of_mem_drop hp))
      have e : gadd s' (ps.getD i.toNat (0, 0)) = psum (ps.drop (k - 1)) := by
        rw [hik, Int.toNat_natCast, List.getD_eq_getElem?_getD, List.getElem?_eq_getElem hk1, Option.getD_some, hd, es, gadd_eq hpd hp1, padd_comm b4_ne hpd hp1]
        rfl
      have ew' : IntKind.i64.wrap (i - 1) = i - 1 := wrap_i64' (by omega) (by omega)
      refine ⟨⟨h, by omega⟩, by omega, trivial, triv_intro ⟨⟨k - 1, by omega, ?_, e⟩, ?_⟩⟩
      · show IntKind.i64.wrap (i - 1) = _
        rw [ew']; omega
      · show (IntKind.i64.wrap (i - 1) + 1).toNat < (i + 1).toNat
        rw [ew']; omega
    · have h : ¬ i ≥ 0 := of_decide_eq_false h
      have : k = 0 := by omega
      subst this
      exact es
  rintro ⟨i, s'⟩ hj
  revert i s'
  intro (i : Int) (s' : F2 × F2) hj
  have hj : s' = psum ps := hj
  refine tr_vc hsp mixed _ _ ?_
  refine vcx (X := ((0 : Nat) + n ≤ n ∧ (0 : Nat) ≤ (0 : Nat) ∧ ((0 : Nat) + n) * (192 : Nat) ≤ (140737488355328 : Nat) ∧ (0 : Nat) + n ≤ (4611686018427387904 : Nat) ∧ True ∧ (0 : Nat) + (1 : Nat) ≤ (1 : Nat) ∧ (0 : Nat) + n ≤ (0 : Nat) + n ∧ ((0 : Nat) + n + (1 : Nat)) * (192 : Nat) ≤ (140737488355328 : Nat) ∧ (0 : Nat) + n + (1 : Nat) ≤ (4611686018427387904 : Nat) ∧ (0 : Nat) + n ≤ n ∧ preSum (List.take n ps, ()) ∧ (eqC ((Kd.fp.pair Kd.fp).pair (Kd.fp.pair Kd.fp)) (gsum (List.take n ps)) s = true → (eqC ((Kd.fp.pair Kd.fp).pair (Kd.fp.pair Kd.fp)) s' s = true → True ∧ True ∧ (eqC ((Kd.fp.pair Kd.fp).pair (Kd.fp.pair Kd.fp)) s (gmul gG t) = true → (0 : Nat) + ((0 : Nat) + n + (1 : Nat)) ≤ (0 : Nat) + n + (1 : Nat) ∧ preSum (List.take ((0 : Nat) + n + (1 : Nat)) (List.take ((0 : Nat) + n) (List.take (0 : Nat) [] ++ List.take n ps) ++ List.take (1 : Nat) [gneg s]), ()) ∧ (eqC ((Kd.fp.pair Kd.fp).pair (Kd.fp.pair Kd.fp)) (gsum (List.take ((0 : Nat) + n + (1 : Nat)) (List.take ((0 : Nat) + n) (List.take (0 : Nat) [] ++ List.take n ps) ++ List.take (1 : Nat) [gneg s]))) (((0 : Fp), (0 : Fp)), (0 : Fp), (0 : Fp)), ()) = (true, ())) ∧ (eqC ((Kd.fp.pair Kd.fp).pair (Kd.fp.pair Kd.fp)) s (gmul gG t) = false → (false, ()) = (true, ()))) ∧ (eqC ((Kd.fp.pair Kd.fp).pair (Kd.fp.pair Kd.fp)) s' s = false → (false, ()) = (true, ()))) ∧ (eqC ((Kd.fp.pair Kd.fp).pair (Kd.fp.pair Kd.fp)) (gsum (List.take n ps)) s = false → (false, ()) = (true, ())))) (by kernel_rfl) ?_
  have e1 : List.take n ps = ps := by rw [g1, List.take_length]
  rw [Nat.zero_add, e1]
  have e2 : List.take (n + 1) (List.take n (List.take 0 [] ++ ps) ++ List.take 1 [gneg s]) = ps ++ [gneg s] := by
    rw [List.take_zero, List.nil_append, show List.take n ps = ps by rw [g1, List.take_length]]
    exact List.take_of_length_le (by simp [g1])
  rw [e2]
  have p1 : preSum (ps, ()) := show ps.length < _ by omega
  have p2 : preSum (ps ++ [gneg s], ()) := show (ps ++ [gneg s]).length < _ by simp; omega
  have on : Onb (gneg s) := by rw [gneg_eq]; exact pneg_onP os
  have e3 : gsum (ps ++ [gneg s]) = ((0, 0), 0, 0) := by
    rw [gsum_eq (by intro p hp; rcases List.mem_append.1 hp with hp | hp; exact hon p hp; simp at hp; rw [hp]; exact on), psum_snoc b4_ne hon on, ← g4, gneg_eq, add_neg_self]; rfl
  simp only [eqP2, e3, gsum_eq hon, hj, ← g4, ← g5]
  refine ⟨by omega, by omega, by omega, by omega, trivial, by omega, by omega, by omega, by omega, by omega, p1, fun _ => ⟨fun _ => ⟨trivial, trivial, fun _ => ⟨by omega, p2, by simp⟩, fun h => absurd h (by simp)⟩, fun h => absurd h (by simp)⟩, fun h => absurd h (by simp)⟩
end Go.Proofs.Ytkfghpniaahjjaa.law08
namespace Go.Proofs.Ytkfghpniaahjjaa
set_option maxRecDepth 100000
open Go Go.Eng Go.RowKit Cr Go.ChangeShapes Go.WideShapes Go.ChangeAt

namespace g2Lists
theorem own : ownKnob Try.prog.godebug = none := by kernel_rfl
theorem laidOut : laidOutB Try.prog = true := by kernel_rfl
abbrev wtB : Car bsl → Prop := fun ys => List.length ys * Try.prog.bytesOf 5 ≤ reachBytes ∧ ∀ y ∈ ys, (Lit.int .u8 y).wf = true
theorem cB : OpnC Try.prog 33 bsl wtB := opnC_slice (e := 5) (by kernel_rfl) (by kernel_rfl) (by decide) (opnC_int (by kernel_rfl))
abbrev wtBB : Car (.sl bsl) → Prop := fun ys => List.length ys * Try.prog.bytesOf 33 ≤ reachBytes ∧ ∀ y ∈ ys, wtB y
theorem oBB : OpnV Try.prog 49 (.sl bsl) wtBB := opnV_slice (e := 33) (by kernel_rfl) (by kernel_rfl) (by decide) cB
theorem bytes5 : Try.prog.bytesOf 5 = 1 := by kernel_rfl
theorem bytes33 : Try.prog.bytesOf 33 = 24 := by kernel_rfl
theorem pB {xs : List Int} (h : wtB xs) : preB xs := by
  obtain ⟨h1, h2⟩ := h
  rw [bytes5] at h1
  refine ⟨fun x hx => ?_, ?_⟩
  · have := h2 x hx
    simp [Lit.wf, IntKind.min, IntKind.max, IntKind.signed, IntKind.bits] at this
    omega
  · show List.length xs ≤ _
    simp only [reachBytes] at h1
    omega
theorem pBB {xs : List (List Int)} (h : wtBB xs) : preBB xs := by
  obtain ⟨h1, h2⟩ := h
  rw [bytes33] at h1
  refine ⟨fun x hx => pB (h2 x hx), ?_⟩
  show List.length xs ≤ _
  simp only [reachBytes] at h1
  omega
abbrev wtI : Car (.int .i64) → Prop := fun x => (Lit.int .i64 x).wf = true
theorem oI : OpnV Try.prog 3 (.int .i64) wtI := opnV_int (by kernel_rfl)
theorem pI {x : Int} (h : wtI x) : preI x := by
  have : (Lit.int .i64 x).wf = true := h
  simp [Lit.wf, IntKind.min, IntKind.max, IntKind.signed, IntKind.bits] at this
  exact ⟨by omega, by omega⟩
theorem opened : OpnL Try.prog [49, 3] [.sl bsl, .int .i64] (fun x => wtBB x.1 ∧ wtI x.2.1 ∧ True) :=
  .cons oBB (by kernel_rfl) (of_decide_eq_true (by kernel_rfl)) (.cons oI (by kernel_rfl) (of_decide_eq_true (by kernel_rfl)) .nil)
theorem lifted (os : Os) (started : os.Started) (H : Type) (enc : TypeId × Value → H) :
    ReturnsInHanded {} Try.checked os 11 .any (Rows.g2ListsSpec.pre6 enc Try.prog Try.f11 Rows.g2ListsRow.domain false) (Rows.g2ListsSpec.post enc Try.prog Try.f11 false true false false) := by
  refine returnsInHanded_of_change_sized (C := Try.checked) own started (by kernel_rfl) Try.func11
    (ChangeSpec.witness6 (enc := enc) (C := Try.checked) false ⟨#[], #[.slice none 0 0, .int .i64 0], []⟩ 8 (by kernel_rfl) (by kernel_rfl) (by kernel_rfl) (by kernel_rfl)) ?_
  intro W base args ds gs before hval hW _ hsz _
  refine law_row (C := Try.checked) (bt := 4) (ts := [49, 3]) law08.ent_lists law08.fn_lists laidOut (by kernel_rfl) (by kernel_rfl) (by kernel_rfl) opened ?_ rfl ?_ W base args ds gs before hval hW hsz
  · rintro ⟨x0, x1, ⟨⟩⟩ ⟨h0, h1, _⟩
    exact ⟨pBB h0, pI h1⟩
  · intro ds hl
    match ds, hl with
    | [d0, d1], _ => rfl

theorem proved : Rows.G2ListsSaid :=
  OpenClaim.holds_of_wide 11 Try.f11 rfl rfl rfl rfl rfl rfl rfl ⟨rfl, rfl, rfl, rfl, rfl⟩ rfl rfl rfl rfl rfl (by kernel_rfl) Try.func11 (by kernel_rfl)
    (of_decide_eq_true (by kernel_rfl)) (by unfold Func.isWrapper; first | (rw [if_pos (by decide +kernel)]; kernel_rfl) | (rw [if_neg (by decide +kernel)]; exact ⟨rfl, rfl⟩))
    (fun os started H enc _ => lifted os started H enc)
#print axioms proved
end g2Lists
end Go.Proofs.Ytkfghpniaahjjaa
