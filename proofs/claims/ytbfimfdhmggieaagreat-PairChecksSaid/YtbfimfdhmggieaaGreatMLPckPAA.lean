/- PairChecks, for every input: true; the input reads as it did. No condition. -/
import Derived.Test.YtbfimfdhmggieaaGreatMLPckPZ
/- What rows ask of their arguments. -/
namespace Go.Proofs.YtbfimfdhmggieaaGreat
open Go Go.Eng Cr
abbrev bsl : Kd := .sl (.int .u8)
/-- Bytes of an input. -/
abbrev preB (b : List Int) : Prop := Bs b ∧ List.length b ≤ 281474976710656
abbrev preBB (bs : List (List Int)) : Prop := (∀ b ∈ bs, preB b) ∧ List.length bs ≤ 281474976710656
abbrev preL (_ : Bool) : Prop := True
end Go.Proofs.YtbfimfdhmggieaaGreat
/- Helpers of laws. -/
namespace Go.Proofs.YtbfimfdhmggieaaGreat
open Go Go.Eng Cr
abbrev ok (b : Bool) : Prop := ((b, ()) : Bool × Unit) = (true, ())
end Go.Proofs.YtbfimfdhmggieaaGreat
/- law10: head, scalar, long. -/
namespace Go.Proofs.YtbfimfdhmggieaaGreat.law10
set_option maxRecDepth 100000
open Go Go.Eng Go.RowKit Cr Go.Proofs.YtbfimfdhmggieaaGreat Go.Proofs.YtbfimfdhmggieaaGreat.fp2 Go.Proofs.YtbfimfdhmggieaaGreat.tower Go.Proofs.YtbfimfdhmggieaaGreat.pairing

theorem ent_scalar : enters Tryz.prog 7 Tryz.f7 := enters_mk (by kernel_rfl) (by kernel_rfl) (by kernel_rfl)
noncomputable def sca (b : List Int) : Fr := opq (zm (num b))
abbrev preSca : HL [.sl (.int .u8)] → Prop := fun (b, _) => Bs b ∧ List.length b ≤ 281474976710656
noncomputable abbrev outSca : HL [.sl (.int .u8)] → HO [.val .fr] := fun (b, _) => (sca b, ())
theorem fn_scalar : FnOk Tryz.prog 7 [.sl (.int .u8)] [.val .fr] noG preSca outSca := by
  refine fn_of_vc (sp := sps [ref01.spCopy, fr.spWide]) (sps_cons (fnSpec_ok ref01.fn_copy) (sps_cons (fnSpec_ok fr.fn_wide) sps_nil)) mixed ent_scalar (by decide) (by decide) ?_
  rintro w M0 ⟨b, ⟨⟩⟩
  revert b
  intro (b : List Int) _ hp
  obtain ⟨h1, h2⟩ := hp
  have h2 : b.length ≤ 281474976710656 := h2
  refine vcx (X := (ref01.preCopy (b, ()) ∧ 0 + b.length ≤ b.length ∧ fr.preWide (b.take b.length, ()) ∧ ((zm (num (b.take b.length)) : Fr), ()) = outSca (b, ()))) (by kernel_rfl) ?_
  rw [List.take_length]
  refine ⟨h2, by omega, ⟨h1, by show b.length < _; omega⟩, ?_⟩
  show _ = (sca b, ())
  rw [sca, opq_eq]
noncomputable def spScalar : Nat × Eng.Spec := (7, fnSpec [.sl (.int .u8)] [.val .fr] preSca outSca)

theorem eq12 (x y : F12) : eqC f12k x y = decide (x = y) := by
  by_cases h : x = y
  · rw [(eqC_iff (e := f12k) x y).2 h, decide_eq_true h]
  · rw [decide_eq_false h]; exact Bool.eq_false_iff.2 fun e => h ((eqC_iff (e := f12k) x y).1 e)
theorem pe_1 (x : Fr) : eqC f12k (pe x) (1 : F12) = decide (x = 0) := by
  rw [eq12]
  by_cases h : x = 0
  · rw [decide_eq_true h, decide_eq_true ((pe_iff x).2 h)]
  · rw [decide_eq_false h, decide_eq_false fun e => h ((pe_iff x).1 e)]
theorem chk_val {xs ys : List Fr} (h : xs.length = ys.length) : chkF (mp1 xs) (mp2 ys) = decide (dotk xs ys xs.length = 0) := by
  have h1 : (mp1 xs).length = (mp2 ys).length := by rw [mp1, mp2, List.length_map, List.length_map, h]
  rw [chkF, decide_eq_true h1]
  show eqC f12k (fino (lino (mp1 xs) (mp2 ys))) (1 : F12) = _
  rw [pairs_val h, pe_1]
theorem chk_len {xs ys : List Fr} (h : xs.length ≠ ys.length) : chkF (mp1 xs) (mp2 ys) = false := by
  have h1 : ¬ (mp1 xs).length = (mp2 ys).length := by rw [mp1, mp2, List.length_map, List.length_map]; exact h
  rw [chkF, decide_eq_false h1]
theorem g1_1 : g1.gmul g1.gG 1 = g1.gG := g1.mul_one g1.sub_G
theorem g2_1 : g2.gmul g2.gG 1 = g2.gG := g2.mul_one g2.sub_G
theorem fr_one_ne : (1 : Fr) ≠ 0 := Fd.one_ne
theorem pair_one : fino (lino [g1.gG] [g2.gG]) = pe 1 := by
  have h := pair_val 1 1
  rwa [g1_1, g2_1, Rg.one_mul] at h
theorem ent_head : enters Tryz.prog 4 Tryz.f4 := enters_mk (by kernel_rfl) (by kernel_rfl) (by kernel_rfl)
theorem fn_head : FnOk Tryz.prog 4 [] [.val .bool] noG (fun _ => True) (fun _ => (true, ())) := by
  refine fn_of_vc (sp := sps [g1.soGen, g2.soGen, pairing.spPair, tower.spOne, g1.soNeg, spCheck]) (sps_cons (fnSpec_ok g1.fo_gen) (sps_cons (fnSpec_ok g2.fo_gen) (sps_cons (fnSpec_ok fn_pair) (sps_cons (fnSpec_ok tower.fn_one) (sps_cons (fnSpec_ok g1.fo_neg) (sps_cons (fnSpec_ok fn_check) sps_nil)))))) mixed ent_head (by decide) (by decide) ?_
  rintro w M0 ⟨⟩ _ _
  refine vcx (X := (True ∧ True ∧ True ∧ True ∧ ((!eqC (((Kd.fp.pair Kd.fp).pair ((Kd.fp.pair Kd.fp).pair (Kd.fp.pair Kd.fp))).pair ((Kd.fp.pair Kd.fp).pair ((Kd.fp.pair Kd.fp).pair (Kd.fp.pair Kd.fp)))) (fino (lino [g1.gG] [g2.gG])) ((((1 : Fp), (0 : Fp)), ((0 : Fp), (0 : Fp)), (0 : Fp), (0 : Fp)), ((0 : Fp), (0 : Fp)), ((0 : Fp), (0 : Fp)), (0 : Fp), (0 : Fp))) = true → True ∧ True ∧ True ∧ True ∧ True ∧ (0 : Nat) + (2 : Nat) ≤ (2 : Nat) ∧ (0 : Nat) + (2 : Nat) ≤ (2 : Nat) ∧ preChk (List.take (2 : Nat) [g1.gG, g1.gneg g1.gG], List.take (2 : Nat) [g2.gG, g2.gG], ()) ∧ (chkF (List.take (2 : Nat) [g1.gG, g1.gneg g1.gG]) (List.take (2 : Nat) [g2.gG, g2.gG]) = true → preChk ([], [], ()) ∧ (chkF [] [], ()) = (true, ())) ∧ (chkF (List.take (2 : Nat) [g1.gG, g1.gneg g1.gG]) (List.take (2 : Nat) [g2.gG, g2.gG]) = false → (false, ()) = (true, ()))) ∧ ((!eqC (((Kd.fp.pair Kd.fp).pair ((Kd.fp.pair Kd.fp).pair (Kd.fp.pair Kd.fp))).pair ((Kd.fp.pair Kd.fp).pair ((Kd.fp.pair Kd.fp).pair (Kd.fp.pair Kd.fp)))) (fino (lino [g1.gG] [g2.gG])) ((((1 : Fp), (0 : Fp)), ((0 : Fp), (0 : Fp)), (0 : Fp), (0 : Fp)), ((0 : Fp), (0 : Fp)), ((0 : Fp), (0 : Fp)), (0 : Fp), (0 : Fp))) = false → (false, ()) = (true, ())))) (by kernel_rfl) ?_
  have e1 : eqC f12k (fino (lino [g1.gG] [g2.gG])) (1 : F12) = false := by
    rw [pair_one, pe_1, decide_eq_false fr_one_ne]
  have m1 : mp1 [1, -1] = [g1.gG, g1.gneg g1.gG] := by
    show [g1.gmul g1.gG 1, g1.gmul g1.gG (-1)] = _
    rw [g1.mul_neg g1.sub_G, g1_1, g1.gneg_eq]
  have m2 : mp2 [1, 1] = [g2.gG, g2.gG] := by
    show [g2.gmul g2.gG 1, g2.gmul g2.gG 1] = _
    rw [g2_1]
  have c1 : chkF [g1.gG, g1.gneg g1.gG] [g2.gG, g2.gG] = true := by
    rw [← m1, ← m2, chk_val (xs := [1, -1]) (ys := [1, 1]) rfl]
    refine decide_eq_true ?_
    show (0 + 1 * 1 + -1 * 1 : Fr) = 0
    rw [Rg.mul_one, Rg.mul_one, Rg.zero_add, Rg.add_neg]
  have c2 : chkF [] [] = true := by
    have h : chkF (mp1 []) (mp2 []) = true := by
      rw [chk_val (xs := []) (ys := []) rfl]; exact decide_eq_true rfl
    exact h
  have p1 : preChk ([g1.gG, g1.gneg g1.gG], [g2.gG, g2.gG], ()) := by
    show cnt _ ≤ _
    rw [cnt, opq_eq]; exact (by decide : 2 ≤ 1048576)
  have p2 : preChk ([], [], ()) := by
    show cnt _ ≤ _
    rw [cnt, opq_eq]; exact Nat.zero_le _
  refine ⟨trivial, trivial, trivial, trivial, fun _ => ⟨trivial, trivial, trivial, trivial, trivial, by decide, by decide, p1, fun _ => ⟨p2, ?_⟩, fun h => ?_⟩, fun h => ?_⟩
  · rw [c2]
  · have h : chkF [g1.gG, g1.gneg g1.gG] [g2.gG, g2.gG] = false := h
    rw [c1] at h; cases h
  · have h : (!eqC f12k (fino (lino [g1.gG] [g2.gG])) (1 : F12)) = false := h
    rw [e1] at h; cases h
noncomputable def spHead : Nat × Eng.Spec := (4, fnSpec [] [.val .bool] (fun _ => True) (fun _ => (true, ())))
end Go.Proofs.YtbfimfdhmggieaaGreat.law10
/- power, Inv of package fr. Printed by gen_pow.py. -/
namespace Go.Proofs.YtbfimfdhmggieaaGreat.fr
set_option maxRecDepth 100000
open Go Go.Eng Go.RowKit Cr Go.Proofs.YtbfimfdhmggieaaGreat

end Go.Proofs.YtbfimfdhmggieaaGreat.fr
/- fr.Zero. -/
namespace Go.Proofs.YtbfimfdhmggieaaGreat.fr
set_option maxRecDepth 100000
open Go Go.Eng Go.RowKit Cr Go.Proofs.YtbfimfdhmggieaaGreat
theorem ent_zero : enters Tryz.prog 14 Tryz.f14 := enters_mk (by kernel_rfl) (by kernel_rfl) (by kernel_rfl)
abbrev outZero : HL [.fr] → HO [.val .bool] := fun (x, _) => (decide ((x : Fr) = 0), ())
theorem fn_zero : FnOk Tryz.prog 14 [.fr] [.val .bool] noG (fun _ => True) outZero := by
  refine fn_of_vc (sp := sps []) sps_nil mixed ent_zero (by decide) (by decide) ?_
  rintro w M0 ⟨x, ⟨⟩⟩
  revert x
  intro (x : Fr) _ _
  refine vcx (X := ((eqC Kd.fr x (0 : Fr), ()) = outZero (x, ()))) (by kernel_rfl) ?_
  rfl
noncomputable def spZero : Nat × Eng.Spec := (14, fnSpec [.fr] [.val .bool] (fun _ => True) outZero)
end Go.Proofs.YtbfimfdhmggieaaGreat.fr
/- law10: PairChecks. -/
namespace Go.Proofs.YtbfimfdhmggieaaGreat.law10
set_option maxRecDepth 100000
open Go Go.Eng Go.RowKit Cr Go.Proofs.YtbfimfdhmggieaaGreat Go.Proofs.YtbfimfdhmggieaaGreat.fp2 Go.Proofs.YtbfimfdhmggieaaGreat.tower Go.Proofs.YtbfimfdhmggieaaGreat.pairing
theorem ent_checks : enters Tryz.prog 3 Tryz.f3 := enters_mk (by kernel_rfl) (by kernel_rfl) (by kernel_rfl)
abbrev pt1 : Kd := .pair .fp .fp
abbrev pt2 : Kd := .pair f2 f2
abbrev bK : Kd := .sl (.int .u8)
abbrev preCks : HL [.sl bK, .sl bK, .bool] → Prop := fun (aa, bb, _, _) => preBB aa ∧ preBB bb
noncomputable def sx (aa : List (List Int)) (k : Nat) : List Fr := (aa.take k).map sca
noncomputable def sK (aa bb : List (List Int)) (k : Nat) : Fr := it (fun i s => if i < bb.length then s + sca (aa.getD i []) * sca (bb.getD i []) else s) 0 k
theorem sx_all (aa : List (List Int)) : sx aa aa.length = aa.map sca := by rw [sx, List.take_length]
theorem sx_succ {aa : List (List Int)} {k : Nat} (h : k < aa.length) : sx aa (k + 1) = sx aa k ++ [sca (aa.getD k [])] := by
  unfold sx
  rw [List.take_succ_eq_append_getElem h, List.map_append]
  simp [List.getD_eq_getElem?_getD, h]
theorem mp1_snoc (xs : List Fr) (x : Fr) : mp1 (xs ++ [x]) = mp1 xs ++ [g1.gmul g1.gG x] := by simp [mp1]
theorem mp2_snoc (xs : List Fr) (x : Fr) : mp2 (xs ++ [x]) = mp2 xs ++ [g2.gmul g2.gG x] := by simp [mp2]
theorem mp_lens (xs ys : List Fr) : (mp1 xs).length = xs.length ∧ (mp2 ys).length = ys.length := ⟨by simp [mp1], by simp [mp2]⟩
theorem dotk_sK (aa bb : List (List Int)) : ∀ k, k ≤ aa.length → k ≤ bb.length → dotk (aa.map sca) (bb.map sca) k = sK aa bb k
  | 0, _, _ => rfl
  | k + 1, h1, h2 => by
    show dotk (aa.map sca) (bb.map sca) k + (aa.map sca).getD k 0 * (bb.map sca).getD k 0 = if k < bb.length then sK aa bb k + sca (aa.getD k []) * sca (bb.getD k []) else sK aa bb k
    rw [if_pos (by omega), dotk_sK aa bb k (by omega) (by omega)]
    have e : ∀ (l : List (List Int)), k < l.length → (l.map sca).getD k 0 = sca (l.getD k []) := fun l h => by simp [List.getD_eq_getElem?_getD, h]
    rw [e aa (by omega), e bb (by omega)]
theorem dotk_snoc {xs ys : List Fr} (h : xs.length = ys.length) (x y : Fr) : dotk (xs ++ [x]) (ys ++ [y]) (xs.length + 1) = dotk xs ys xs.length + x * y := by
  have key : ∀ k, k ≤ xs.length → dotk (xs ++ [x]) (ys ++ [y]) k = dotk xs ys k := by
    intro k
    induction k with
    | zero => intro _; rfl
    | succ k ih =>
      intro hk
      show dotk (xs ++ [x]) (ys ++ [y]) k + (xs ++ [x]).getD k 0 * (ys ++ [y]).getD k 0 = dotk xs ys k + xs.getD k 0 * ys.getD k 0
      rw [ih (by omega)]
      have e1 : (xs ++ [x]).getD k 0 = xs.getD k 0 := by
        rw [List.getD_eq_getElem?_getD, List.getD_eq_getElem?_getD, List.getElem?_append_left (by omega)]
      have e2 : (ys ++ [y]).getD k 0 = ys.getD k 0 := by
        rw [List.getD_eq_getElem?_getD, List.getD_eq_getElem?_getD, List.getElem?_append_left (by omega)]
      rw [e1, e2]
  show dotk (xs ++ [x]) (ys ++ [y]) xs.length + (xs ++ [x]).getD xs.length 0 * (ys ++ [y]).getD xs.length 0 = _
  rw [key _ (Nat.le_refl _)]
  have e1 : (xs ++ [x]).getD xs.length 0 = x := by simp [List.getD_eq_getElem?_getD]
  have e2 : (ys ++ [y]).getD xs.length 0 = y := by rw [h]; simp [List.getD_eq_getElem?_getD]
  rw [e1, e2]
theorem cnt_le {ps : List (Fp × Fp)} {qs : List (F2 × F2)} (h : ps.length ≤ 1048576) : preChk (ps, qs, ()) := by
  show cnt _ ≤ _
  rw [cnt, opq_eq]; exact h
noncomputable def ckI (aa bb : List (List Int)) (c : Bool) (g : Int × Nat × List (Fp × Fp) × Fr) : St := mkSt Tryz.f3.ntmps 168 [(0, .is (.one (.ro bK aa))), (1, .is (.one (.ro bK bb))), (2, .is (.one (.v (.bool c)))), (7, .is (.one (.sl 88 0 0 g.2.1 12))), (8, .is (.one (.sl 104 0 0 0 24))), (9, .is (.one (.ptr 128 0))), (26, sI .i64 aa.length), (27, sI .i64 g.1)] [(128, [.row .fr 1 [g.2.2.2]]), (104, [.row pt2 0 []]), (88, [.row pt1 g.2.1 g.2.2.1])]
noncomputable def ckL (aa bb : List (List Int)) (c : Bool) (ps : List (Fp × Fp)) (L : Nat) (s : Fr) (g : Int × Nat × List (F2 × F2)) : St := mkSt Tryz.f3.ntmps 192 [(0, .is (.one (.ro bK aa))), (1, .is (.one (.ro bK bb))), (2, .is (.one (.v (.bool c)))), (7, .is (.one (.sl 88 0 0 L 12))), (8, .is (.one (.sl 104 0 0 g.2.1 24))), (9, .is (.one (.ptr 128 0))), (65, sI .i64 bb.length), (66, sI .i64 g.1)] [(128, [.row .fr 1 [s]]), (104, [.row pt2 g.2.1 g.2.2]), (88, [.row pt1 L ps])]
theorem fn_checks : FnOk Tryz.prog 3 [.sl bK, .sl bK, .bool] [.val .bool] noG preCks (fun _ => (true, ())) := by
  have hsp : SpecsOk Tryz.prog (sps [spHead, spScalar, g1.soGen, g1.soMul, g2.soGen, g2.soMul, fr.spMul, fr.spAdd, fr.spNeg, fr.spZero, spCheck]) := sps_cons (fnSpec_ok fn_head) (sps_cons (fnSpec_ok fn_scalar) (sps_cons (fnSpec_ok g1.fo_gen) (sps_cons (fnSpec_ok g1.fo_mul) (sps_cons (fnSpec_ok g2.fo_gen) (sps_cons (fnSpec_ok g2.fo_mul) (sps_cons (fnSpec_ok fr.fn_mul) (sps_cons (fnSpec_ok fr.fn_add) (sps_cons (fnSpec_ok fr.fn_neg) (sps_cons (fnSpec_ok fr.fn_zero) (sps_cons (fnSpec_ok fn_check) sps_nil))))))))))
  refine fn_of_tr (sp := sps [spHead, spScalar, g1.soGen, g1.soMul, g2.soGen, g2.soMul, fr.spMul, fr.spAdd, fr.spNeg, fr.spZero, spCheck]) ent_checks (by decide) (by decide) (by kernel_rfl) ?_
  rintro w M0 ⟨aa, bb, c, ⟨⟩⟩
  revert aa bb c
  intro (aa : List (List Int)) (bb : List (List Int)) (c : Bool) _ hp
  obtain ⟨ha, hb⟩ := hp
  show Tr _ _ _ _ _ _ _
  refine tr_cut hsp mixed 9 (ckI aa bb c (0, 0, [], 0)) (aa.length ≤ 4 ∧ bb.length ≤ 4) ?_ (fun hl => ?_)
  · refine vcx (X := (True ∧ ((!true) = true → (false, ()) = (true, ())) ∧ ((!true) = false → (decide ((↑aa.length : Int) > (4 : Int)) = true → (true, ()) = (true, ())) ∧ (decide ((↑aa.length : Int) > (4 : Int)) = false → (decide ((↑bb.length : Int) > (4 : Int)) = true → (true, ()) = (true, ())) ∧ (decide ((↑bb.length : Int) > (4 : Int)) = false → (ckI aa bb c ((0 : Int), (0 : Nat), [], (0 : Fr))).triv (aa.length ≤ (4 : Nat) ∧ bb.length ≤ (4 : Nat))))))) (by kernel_rfl) ?_
    exact ⟨trivial, fun h => absurd h (by decide), fun _ => ⟨fun _ => rfl, fun h1 => ⟨fun _ => rfl, fun h2 => triv_intro ⟨by have := of_decide_eq_false h1; omega, by have := of_decide_eq_false h2; omega⟩⟩⟩⟩
  obtain ⟨hla, hlb⟩ := hl
  refine tr_while hsp mixed (fun σ => [(88, rdI 7 σ)]) (fun σ => (rdS (.int .i64) 27 σ, rdL 7 σ, rdR pt1 88 σ, rdB .fr 128 σ)) (ckI aa bb c) (fun g => ∃ k : Nat, k ≤ aa.length ∧ g.1 = (k : Int) ∧ g.2.1 = k ∧ g.2.2.1 = mp1 (sx aa k) ∧ g.2.2.2 = sK aa bb k) (fun g => aa.length - g.1.toNat)
    (fun σ => (rdS (.int .i64) 27 σ, rdL 7 σ, rdR pt1 88 σ, rdB .fr 128 σ)) (ckI aa bb c) (fun g => g.2.1 = aa.length ∧ g.2.2.1 = mp1 (aa.map sca) ∧ g.2.2.2 = sK aa bb aa.length) (0, 0, [], 0) (c := nthC (codeOf Tryz.f3) 9) (by kernel_rfl) (by kernel_rfl) (le_of_proj (by kernel_rfl) (by kernel_rfl) ?_) ?_ ?_
  · exact ⟨0, Nat.zero_le _, rfl, rfl, rfl, rfl⟩
  · rintro ⟨i, L, ps, s⟩ hj
    revert i ps s
    intro (i : Int) (ps : List (Fp × Fp)) (s : Fr) ⟨k, hk, ei, eL, ep, es⟩
    have ei : i = (k : Int) := ei
    have eL : L = k := eL
    have kp : ps = mp1 (sx aa k) := ep
    have ks : s = sK aa bb k := es
    subst ei
    refine vcx (X := ((decide ((↑k : Int) < (↑aa.length : Int)) = true → ((0 : Int) ≤ (↑k : Int) ∧ (↑k : Int) < (↑aa.length : Int)) ∧ (↑k : Int).toNat < aa.length ∧ (decide ((↑(aa.getD (↑k : Int).toNat []).length : Int) > (100 : Int)) = true → (true, ()) = (true, ())) ∧ (decide ((↑(aa.getD (↑k : Int).toNat []).length : Int) > (100 : Int)) = false → True ∧ ((0 : Int) ≤ (↑k : Int) ∧ (↑k : Int) < (↑aa.length : Int)) ∧ (↑k : Int).toNat < aa.length ∧ preSca (aa.getD (↑k : Int).toNat [], ()) ∧ True ∧ (0 : Nat) + (1 : Nat) ≤ (1 : Nat) ∧ L ≤ L ∧ (L + (1 : Nat)) * (96 : Nat) ≤ (140737488355328 : Nat) ∧ L + (1 : Nat) ≤ (4611686018427387904 : Nat) ∧ (decide ((↑k : Int) < (↑bb.length : Int)) = true → ((0 : Int) ≤ (↑k : Int) ∧ (↑k : Int) < (↑aa.length : Int)) ∧ (↑k : Int).toNat < aa.length ∧ preSca (aa.getD (↑k : Int).toNat [], ()) ∧ ((0 : Int) ≤ (↑k : Int) ∧ (↑k : Int) < (↑bb.length : Int)) ∧ (↑k : Int).toNat < bb.length ∧ preSca (bb.getD (↑k : Int).toNat [], ()) ∧ True ∧ True ∧ (ckI aa bb c (IntKind.i64.wrap ((↑k : Int) + (1 : Int)), L + (1 : Nat), List.take L ps ++ List.take (1 : Nat) [g1.gmul g1.gG (sca (aa.getD (↑k : Int).toNat []))], s + sca (aa.getD (↑k : Int).toNat []) * sca (bb.getD (↑k : Int).toNat []))).triv ((∃ k_1, k_1 ≤ aa.length ∧ IntKind.i64.wrap ((↑k : Int) + (1 : Int)) = (↑k_1 : Int) ∧ L + (1 : Nat) = k_1 ∧ List.take L ps ++ List.take (1 : Nat) [g1.gmul g1.gG (sca (aa.getD (↑k : Int).toNat []))] = mp1 (sx aa k_1) ∧ s + sca (aa.getD (↑k : Int).toNat []) * sca (bb.getD (↑k : Int).toNat []) = sK aa bb k_1) ∧ aa.length - (IntKind.i64.wrap ((↑k : Int) + (1 : Int))).toNat < aa.length - (↑k : Int).toNat)) ∧ (decide ((↑k : Int) < (↑bb.length : Int)) = false → (ckI aa bb c (IntKind.i64.wrap ((↑k : Int) + (1 : Int)), L + (1 : Nat), List.take L ps ++ List.take (1 : Nat) [g1.gmul g1.gG (sca (aa.getD (↑k : Int).toNat []))], s)).triv ((∃ k_1, k_1 ≤ aa.length ∧ IntKind.i64.wrap ((↑k : Int) + (1 : Int)) = (↑k_1 : Int) ∧ L + (1 : Nat) = k_1 ∧ List.take L ps ++ List.take (1 : Nat) [g1.gmul g1.gG (sca (aa.getD (↑k : Int).toNat []))] = mp1 (sx aa k_1) ∧ s = sK aa bb k_1) ∧ aa.length - (IntKind.i64.wrap ((↑k : Int) + (1 : Int))).toNat < aa.length - (↑k : Int).toNat)))) ∧ (decide ((↑k : Int) < (↑aa.length : Int)) = false → (ckI aa bb c ((↑k : Int), L, ps, s)).triv (L = aa.length ∧ ps = mp1 (List.map sca aa) ∧ s = sK aa bb aa.length)))) (by kernel_rfl) ?_
    simp only [Int.toNat_natCast]
    refine ⟨fun h => ?_, fun h => triv_intro ?_⟩
    · have hlt : k < aa.length := by have := of_decide_eq_true h; omega
      have lp : ps.length = k := by rw [kp, (mp_lens _ []).1, sx, List.length_map, List.length_take]; omega
      have mem : aa.getD k [] ∈ aa := by
        rw [List.getD_eq_getElem?_getD, List.getElem?_eq_getElem hlt]; exact List.getElem_mem hlt
      have e1 : List.take L ps ++ List.take 1 [g1.gmul g1.gG (sca (aa.getD k []))] = mp1 (sx aa (k + 1)) := by
        rw [List.take_of_length_le (by omega), kp, sx_succ hlt, mp1_snoc]; rfl
      rw [wrap_succ (by omega)]
      refine ⟨⟨by omega, by omega⟩, hlt, fun _ => trivial, fun _ => ⟨trivial, ⟨by omega, by omega⟩, hlt, ha.1 _ mem, trivial, Nat.le_refl _, Nat.le_refl _, by omega, by omega, fun hb2 => ?_, fun hb2 => triv_intro ⟨⟨k + 1, hlt, rfl, by omega, e1, ?_⟩, ?_⟩⟩⟩
      · have hlt2 : k < bb.length := by have := of_decide_eq_true hb2; omega
        have mem2 : bb.getD k [] ∈ bb := by
          rw [List.getD_eq_getElem?_getD, List.getElem?_eq_getElem hlt2]; exact List.getElem_mem hlt2
        refine ⟨⟨by omega, by omega⟩, hlt, ha.1 _ mem, ⟨by omega, by omega⟩, hlt2, hb.1 _ mem2, trivial, trivial, triv_intro ⟨⟨k + 1, hlt, rfl, by omega, e1, ?_⟩, ?_⟩⟩
        · show _ = if k < bb.length then sK aa bb k + sca (aa.getD k []) * sca (bb.getD k []) else sK aa bb k
          rw [if_pos hlt2, ks]
        · rw [Int.toNat_natCast]; omega
      · have hlt2 : ¬ k < bb.length := by have := of_decide_eq_false hb2; omega
        show _ = if k < bb.length then sK aa bb k + sca (aa.getD k []) * sca (bb.getD k []) else sK aa bb k
        rw [if_neg hlt2, ks]
      · rw [Int.toNat_natCast]; omega
    · have hk2 : k = aa.length := by have := of_decide_eq_false h; omega
      exact ⟨by omega, by rw [kp, hk2, sx_all], by rw [ks, hk2]⟩
  rintro ⟨i, L, ps, s⟩ hj
  revert i ps s
  intro (i : Int) (ps : List (Fp × Fp)) (s : Fr) ⟨hL, hps, hs⟩
  have hL : L = aa.length := hL
  have hps : ps = mp1 (aa.map sca) := hps
  have hs : s = sK aa bb aa.length := hs
  refine tr_cut hsp mixed 1 (ckL aa bb c ps L s (0, 0, [])) True ?_ (fun _ => ?_)
  · refine vcx (X := ((ckL aa bb c ps L s ((0 : Int), (0 : Nat), [])).triv True)) (by kernel_rfl) ?_
    exact triv_intro trivial
  refine tr_while hsp mixed (fun σ => [(104, rdI 8 σ)]) (fun σ => (rdS (.int .i64) 66 σ, rdL 8 σ, rdR pt2 104 σ)) (ckL aa bb c ps L s) (fun g => ∃ k : Nat, k ≤ bb.length ∧ g.1 = (k : Int) ∧ g.2.1 = k ∧ g.2.2 = mp2 (sx bb k)) (fun g => bb.length - g.1.toNat)
    (fun σ => (rdS (.int .i64) 66 σ, rdL 8 σ, rdR pt2 104 σ)) (ckL aa bb c ps L s) (fun g => g.2.1 = bb.length ∧ g.2.2 = mp2 (bb.map sca)) (0, 0, []) (c := nthC (codeOf Tryz.f3) 11) (by kernel_rfl) (by kernel_rfl) (le_of_proj (by kernel_rfl) (by kernel_rfl) ?_) ?_ ?_
  · exact ⟨0, Nat.zero_le _, rfl, rfl, rfl⟩
  · rintro ⟨i, K, qs⟩ hj
    revert i qs
    intro (i : Int) (qs : List (F2 × F2)) ⟨k, hk, ei, eK, eq⟩
    have ei : i = (k : Int) := ei
    have eK : K = k := eK
    have kq : qs = mp2 (sx bb k) := eq
    subst ei
    refine vcx (X := ((decide ((↑k : Int) < (↑bb.length : Int)) = true → ((0 : Int) ≤ (↑k : Int) ∧ (↑k : Int) < (↑bb.length : Int)) ∧ (↑k : Int).toNat < bb.length ∧ (decide ((↑(bb.getD (↑k : Int).toNat []).length : Int) > (100 : Int)) = true → (true, ()) = (true, ())) ∧ (decide ((↑(bb.getD (↑k : Int).toNat []).length : Int) > (100 : Int)) = false → True ∧ ((0 : Int) ≤ (↑k : Int) ∧ (↑k : Int) < (↑bb.length : Int)) ∧ (↑k : Int).toNat < bb.length ∧ preSca (bb.getD (↑k : Int).toNat [], ()) ∧ True ∧ (0 : Nat) + (1 : Nat) ≤ (1 : Nat) ∧ K ≤ K ∧ (K + (1 : Nat)) * (192 : Nat) ≤ (140737488355328 : Nat) ∧ K + (1 : Nat) ≤ (4611686018427387904 : Nat) ∧ (ckL aa bb c ps L s (IntKind.i64.wrap ((↑k : Int) + (1 : Int)), K + (1 : Nat), List.take K qs ++ List.take (1 : Nat) [g2.gmul g2.gG (sca (bb.getD (↑k : Int).toNat []))])).triv ((∃ k_1, k_1 ≤ bb.length ∧ IntKind.i64.wrap ((↑k : Int) + (1 : Int)) = (↑k_1 : Int) ∧ K + (1 : Nat) = k_1 ∧ List.take K qs ++ List.take (1 : Nat) [g2.gmul g2.gG (sca (bb.getD (↑k : Int).toNat []))] = mp2 (sx bb k_1)) ∧ bb.length - (IntKind.i64.wrap ((↑k : Int) + (1 : Int))).toNat < bb.length - (↑k : Int).toNat))) ∧ (decide ((↑k : Int) < (↑bb.length : Int)) = false → (ckL aa bb c ps L s ((↑k : Int), K, qs)).triv (K = bb.length ∧ qs = mp2 (List.map sca bb))))) (by kernel_rfl) ?_
    simp only [Int.toNat_natCast]
    refine ⟨fun h => ?_, fun h => triv_intro ?_⟩
    · have hlt : k < bb.length := by have := of_decide_eq_true h; omega
      have lq : qs.length = k := by rw [kq, (mp_lens [] _).2, sx, List.length_map, List.length_take]; omega
      have mem : bb.getD k [] ∈ bb := by
        rw [List.getD_eq_getElem?_getD, List.getElem?_eq_getElem hlt]; exact List.getElem_mem hlt
      have e1 : List.take K qs ++ List.take 1 [g2.gmul g2.gG (sca (bb.getD k []))] = mp2 (sx bb (k + 1)) := by
        rw [List.take_of_length_le (by omega), kq, sx_succ hlt, mp2_snoc]; rfl
      rw [wrap_succ (by omega)]
      refine ⟨⟨by omega, by omega⟩, hlt, fun _ => trivial, fun _ => ⟨trivial, ⟨by omega, by omega⟩, hlt, hb.1 _ mem, trivial, Nat.le_refl _, Nat.le_refl _, by omega, by omega, triv_intro ⟨⟨k + 1, hlt, rfl, by omega, e1⟩, ?_⟩⟩⟩
      rw [Int.toNat_natCast]; omega
    · have hk2 : k = bb.length := by have := of_decide_eq_false h; omega
      exact ⟨by omega, by rw [kq, hk2, sx_all]⟩
  rintro ⟨i, K, qs⟩ hj
  revert i qs
  intro (i : Int) (qs : List (F2 × F2)) ⟨hK, hqs⟩
  have hK : K = bb.length := hK
  have hqs : qs = mp2 (bb.map sca) := hqs
  refine tr_vc hsp mixed _ _ ?_
  refine vcx (X := ((((↑L : Int) != (↑K : Int)) = true → (0 : Nat) + L ≤ L ∧ (0 : Nat) + K ≤ K ∧ preChk (List.take L ps, List.take K qs, ()) ∧ (!chkF (List.take L ps) (List.take K qs), ()) = (true, ())) ∧ (((↑L : Int) != (↑K : Int)) = false → (c = true → True ∧ True ∧ True ∧ (0 : Nat) + (1 : Nat) ≤ (1 : Nat) ∧ L ≤ L ∧ (L + (1 : Nat)) * (96 : Nat) ≤ (140737488355328 : Nat) ∧ L + (1 : Nat) ≤ (4611686018427387904 : Nat) ∧ True ∧ (0 : Nat) + (1 : Nat) ≤ (1 : Nat) ∧ K ≤ K ∧ (K + (1 : Nat)) * (192 : Nat) ≤ (140737488355328 : Nat) ∧ K + (1 : Nat) ≤ (4611686018427387904 : Nat) ∧ (0 : Nat) + (L + (1 : Nat)) ≤ L + (1 : Nat) ∧ (0 : Nat) + (K + (1 : Nat)) ≤ K + (1 : Nat) ∧ preChk (List.take (L + (1 : Nat)) (List.take L ps ++ List.take (1 : Nat) [g1.gmul g1.gG (-s)]), List.take (K + (1 : Nat)) (List.take K qs ++ List.take (1 : Nat) [g2.gG]), ()) ∧ True ∧ (chkF (List.take (L + (1 : Nat)) (List.take L ps ++ List.take (1 : Nat) [g1.gmul g1.gG (-s)])) (List.take (K + (1 : Nat)) (List.take K qs ++ List.take (1 : Nat) [g2.gG])) == decide ((0 : Fr) = (0 : Zm Mr)), ()) = (true, ())) ∧ (c = false → (0 : Nat) + L ≤ L ∧ (0 : Nat) + K ≤ K ∧ preChk (List.take L ps, List.take K qs, ()) ∧ True ∧ (chkF (List.take L ps) (List.take K qs) == decide (s = (0 : Zm Mr)), ()) = (true, ()))))) (by kernel_rfl) ?_
  have lp : ps.length = L := by rw [hps, (mp_lens _ []).1, List.length_map, hL]
  have lq : qs.length = K := by rw [hqs, (mp_lens [] _).2, List.length_map, hK]
  have tp : List.take L ps = ps := List.take_of_length_le (by omega)
  have tq : List.take K qs = qs := List.take_of_length_le (by omega)
  have lx : (aa.map sca).length = aa.length := List.length_map _
  have ly : (bb.map sca).length = bb.length := List.length_map _
  have pc : preChk (ps, qs, ()) := cnt_le (by omega)
  rw [tp, tq]
  have hsum : aa.length = bb.length → s = dotk (aa.map sca) (bb.map sca) (aa.map sca).length := fun e => by rw [hs, lx, dotk_sK aa bb _ (Nat.le_refl _) (Nat.le_of_eq e)]
  refine ⟨fun h => ⟨Nat.le_of_eq (Nat.zero_add _), Nat.le_of_eq (Nat.zero_add _), pc, ?_⟩, fun h => ⟨fun _ => ?_, fun _ => ⟨Nat.le_of_eq (Nat.zero_add _), Nat.le_of_eq (Nat.zero_add _), pc, trivial, ?_⟩⟩⟩
  · have hne : aa.length ≠ bb.length := by
      intro e
      rw [hL, hK, e] at h
      simp at h
    rw [hps, hqs, chk_len (by rw [lx, ly]; exact hne)]; rfl
  · have he : aa.length = bb.length := by
      have : (L : Int) = K := by simpa using h
      omega
    have e2 : (aa.map sca).length = (bb.map sca).length := by rw [lx, ly, he]
    have q1 : List.take (L + 1) (ps ++ List.take 1 [g1.gmul g1.gG (-s)]) = mp1 (aa.map sca ++ [-s]) := by
      rw [mp1_snoc, hps]
      exact List.take_of_length_le (by rw [List.length_append, (mp_lens _ []).1, lx]; show _ + 1 ≤ _; omega)
    have q2 : List.take (K + 1) (qs ++ List.take 1 [g2.gG]) = mp2 (bb.map sca ++ [1]) := by
      rw [mp2_snoc, hqs, g2_1]
      exact List.take_of_length_le (by rw [List.length_append, (mp_lens [] _).2, ly]; show _ + 1 ≤ _; omega)
    rw [q1, q2]
    have cv : chkF (mp1 (aa.map sca ++ [-s])) (mp2 (bb.map sca ++ [1])) = true := by
      rw [chk_val (by rw [List.length_append, List.length_append, e2]; rfl)]
      have e3 : (aa.map sca ++ [-s]).length = (aa.map sca).length + 1 := by rw [List.length_append]; rfl
      rw [e3, dotk_snoc e2, ← hsum he, Rg.mul_one, Rg.add_neg, decide_eq_true rfl]
    refine ⟨trivial, trivial, trivial, Nat.le_refl _, Nat.le_refl _, by omega, by omega, trivial, Nat.le_refl _, Nat.le_refl _, by omega, by omega, Nat.le_of_eq (Nat.zero_add _), Nat.le_of_eq (Nat.zero_add _), cnt_le ?_, trivial, ?_⟩
    · rw [(mp_lens _ []).1, List.length_append, lx]; show _ + 1 ≤ _; omega
    · rw [cv, decide_eq_true rfl]; rfl
  · have he : aa.length = bb.length := by
      have : (L : Int) = K := by simpa using h
      omega
    have e2 : (aa.map sca).length = (bb.map sca).length := by rw [lx, ly, he]
    rw [hps, hqs, chk_val e2, ← hsum he]
    simp
end Go.Proofs.YtbfimfdhmggieaaGreat.law10
namespace Go.Proofs.YtbfimfdhmggieaaGreat
set_option maxRecDepth 100000
open Go Go.Eng Go.RowKit Cr Go.ChangeShapes Go.WideShapes Go.ChangeAt

namespace pairChecks
theorem own : ownKnob Tryz.prog.godebug = none := by kernel_rfl
theorem laidOut : laidOutB Tryz.prog = true := by kernel_rfl
abbrev wtB : Car bsl → Prop := fun ys => List.length ys * Tryz.prog.bytesOf 5 ≤ reachBytes ∧ ∀ y ∈ ys, (Lit.int .u8 y).wf = true
theorem cB : OpnC Tryz.prog 30 bsl wtB := opnC_slice (e := 5) (by kernel_rfl) (by kernel_rfl) (by decide) (opnC_int (by kernel_rfl))
abbrev wtBB : Car (.sl bsl) → Prop := fun ys => List.length ys * Tryz.prog.bytesOf 30 ≤ reachBytes ∧ ∀ y ∈ ys, wtB y
theorem oBB : OpnV Tryz.prog 22 (.sl bsl) wtBB := opnV_slice (e := 30) (by kernel_rfl) (by kernel_rfl) (by decide) cB
theorem bytes5 : Tryz.prog.bytesOf 5 = 1 := by kernel_rfl
theorem bytes33 : Tryz.prog.bytesOf 30 = 24 := by kernel_rfl
theorem pB {xs : List Int} (h : wtB xs) : preB xs := by
  obtain ⟨h1, h2⟩ := h
  rw [bytes5] at h1
  refine ⟨fun x hx => ?_, ?_⟩
  · have := h2 x hx
    simp [Lit.wf, IntKind.min, IntKind.max, IntKind.signed, IntKind.bits] at this
    omega
  · show List.length xs ≤ _
    simp only [reachBytes] at h1
    omega
theorem pBB {xs : List (List Int)} (h : wtBB xs) : preBB xs := by
  obtain ⟨h1, h2⟩ := h
  rw [bytes33] at h1
  refine ⟨fun x hx => pB (h2 x hx), ?_⟩
  show List.length xs ≤ _
  simp only [reachBytes] at h1
  omega
abbrev wtL : Car .bool → Prop := fun _ => True
theorem oL : OpnV Tryz.prog 4 .bool wtL := opnV_bool (by kernel_rfl)
theorem pL {x : Bool} (_ : wtL x) : preL x := trivial
theorem opened : OpnL Tryz.prog [22, 22, 4] [.sl bsl, .sl bsl, .bool] (fun x => wtBB x.1 ∧ wtBB x.2.1 ∧ wtL x.2.2.1 ∧ True) :=
  .cons oBB (by kernel_rfl) (of_decide_eq_true (by kernel_rfl)) (.cons oBB (by kernel_rfl) (of_decide_eq_true (by kernel_rfl)) (.cons oL (by kernel_rfl) (of_decide_eq_true (by kernel_rfl)) .nil))
theorem lifted (os : Os) (started : os.Started) (H : Type) (enc : TypeId × Value → H) :
    ReturnsInHanded {} Tryz.checked os 3 .any (Rows.pairChecksSpec.pre6 enc Tryz.prog Tryz.f3 Rows.pairChecksRow.domain false) (Rows.pairChecksSpec.post enc Tryz.prog Tryz.f3 false true false false) := by
  refine returnsInHanded_of_change_sized (C := Tryz.checked) own started (by kernel_rfl) Tryz.func3
    (ChangeSpec.witness6 (enc := enc) (C := Tryz.checked) false ⟨#[], #[.slice none 0 0, .slice none 0 0, .bool false], []⟩ 8 (by kernel_rfl) (by kernel_rfl) (by kernel_rfl) (by kernel_rfl)) ?_
  intro W base args ds gs before hval hW _ hsz _
  refine law_row (C := Tryz.checked) (bt := 4) (ts := [22, 22, 4]) law10.ent_checks law10.fn_checks laidOut (by kernel_rfl) (by kernel_rfl) (by kernel_rfl) opened ?_ rfl ?_ W base args ds gs before hval hW hsz
  · rintro ⟨x0, x1, x2, ⟨⟩⟩ ⟨h0, h1, h2, _⟩
    exact ⟨pBB h0, pBB h1⟩
  · intro ds hl
    match ds, hl with
    | [d0, d1, d2], _ => rfl

theorem proved : Rows.PairChecksSaid :=
  OpenClaim.holds_of_wide 3 Tryz.f3 rfl rfl rfl rfl rfl rfl rfl ⟨rfl, rfl, rfl, rfl, rfl⟩ rfl rfl rfl rfl rfl (by kernel_rfl) Tryz.func3 (by kernel_rfl)
    (of_decide_eq_true (by kernel_rfl)) (by unfold Func.isWrapper; first | (rw [if_pos (by decide +kernel)]; kernel_rfl) | (rw [if_neg (by decide +kernel)]; exact ⟨rfl, rfl⟩))
    (fun os started H enc _ => lifted os started H enc)
#print axioms proved
end pairChecks
end Go.Proofs.YtbfimfdhmggieaaGreat
