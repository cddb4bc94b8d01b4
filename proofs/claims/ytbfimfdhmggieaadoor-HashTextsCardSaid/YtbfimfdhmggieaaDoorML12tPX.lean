/- g2: In. -/
import Derived.Test.YtbfimfdhmggieaaDoorML12tPW
/- xmd: Numbers. -/
namespace Go.Proofs.YtbfimfdhmggieaaDoor.xmd
set_option maxRecDepth 100000
open Go Go.Eng Go.RowKit Cr Go.Proofs.YtbfimfdhmggieaaDoor Go.Proofs.YtbfimfdhmggieaaDoor.sha
abbrev f2 : Kd := fp2.f2
noncomputable def spExF : Nat × Eng.Spec := (13, fnSpecG shaG [bsl, bsl, .int .i64] [.val (.sl bK), .val (.int .i64)] preEx (fun (m, t, n, _) => ((exA m t n).1, (exA m t n).2, ())))
theorem fn_exF : FnOk Tryd.prog 13 [bsl, bsl, .int .i64] [.val (.sl bK), .val (.int .i64)] shaG preEx (fun (m, t, n, _) => ((exA m t n).1, (exA m t n).2, ())) := fn_expand.frz2
/-- The answer. -/
noncomputable def nuA (m t : List Int) (n : Int) : List F2 × Int := match decide (n < 0) || decide (n > 63) with
  | true => ([], 1)
  | false => (nums m t n.toNat, 0)
theorem ent_numbers : enters Tryd.prog 15 Tryd.f15 := enters_mk (by kernel_rfl) (by kernel_rfl) (by kernel_rfl)
theorem dig_Bs (L : List Int) : Bs (dig L) := by
  rw [dig, opq_eq, digF, outB]
  intro x hx
  obtain ⟨i, _, rfl⟩ := List.mem_map.1 hx
  generalize (Int.fdiv _ _) = y
  simp [IntKind.wrap, IntKind.signed, IntKind.bits]
  omega
theorem exK_Bs (f t : List Int) : ∀ i, Bs (exK f t i).1
  | 0 => fun x hx => by cases hx
  | i + 1 => by
    show Bs ((exK f t i).1 ++ nxD f t i (exK f t i).2)
    intro x hx
    rcases List.mem_append.1 hx with h | h
    · exact exK_Bs f t i x h
    · exact dig_Bs _ x h
theorem expo_Bs (m t : List Int) (n : Int) : Bs (expo m t n) := by
  rw [expo, opq_eq, expF]
  intro x hx
  exact exK_Bs _ _ _ x (List.mem_of_mem_take hx)
theorem cut_a (E : List Int) (k : Nat) : List.take 64 (List.take 128 (List.drop (128 * k) E)) = List.take 64 (List.drop (128 * k) E) := by
  rw [List.take_take]; rfl
theorem cut_b (E : List Int) (k : Nat) : List.take 64 (List.drop 64 (List.take 128 (List.drop (128 * k) E))) = List.take 64 (List.drop (128 * k + 64) E) := by
  rw [List.drop_take, List.take_take, List.drop_drop]; rfl
noncomputable def nuL (E : List Int) (n k : Nat) : List F2 := (List.range k).map (nmb E) ++ List.replicate (n - k) ((0 : Fp), (0 : Fp))
theorem nuL_step {E : List Int} {n k : Nat} (h : k < n) : (nuL E n k).set k (nmb E k) = nuL E n (k + 1) := by
  unfold nuL
  rw [List.set_append_right _ _ (by simp), List.range_succ]
  have e : n - k = (n - (k + 1)) + 1 := by omega
  have e2 : k - ((List.range k).map (nmb E)).length = 0 := by simp
  rw [e2, e, List.replicate_succ, List.set_cons_zero, List.map_append, List.append_assoc]
  simp
noncomputable def nuI (E : List Int) (n : Int) (g : Int × List F2) : St := mkSt Tryd.f15.ntmps 208 [(8, .is (.one (.ro bK E))), (10, .is (.one (.sl 168 0 0 n.toNat 12))), (33, sI .i64 n.toNat), (34, sI .i64 g.1)] [(168, [.row f2 n.toNat g.2])]
theorem fn_numbers : FnOk Tryd.prog 15 [bsl, bsl, .int .i64] [.own f2, .val (.int .i64)] shaG preEx (fun (m, t, n, _) => ((nuA m t n).1, (nuA m t n).2, ())) := by
  have hsp : SpecsOk Tryd.prog (sps [spExF, fp.spWide]) := sps_cons (fnSpecG_ok fn_exF) (sps_cons (fnSpec_ok fp.fn_wide) sps_nil)
  refine fn_of_tr (sp := sps [spExF, fp.spWide]) ent_numbers (by decide) (by decide) (by kernel_rfl) ?_
  rintro w M0 ⟨m, t, n, ⟨⟩⟩
  revert m t n
  intro (m : List Int) (t : List Int) (n : Int) hw hp
  have hm : m.length ≤ 1048576 := hp.1
  have ht : t.length ≤ 1048576 := hp.2
  show Tr _ _ _ _ _ _ _
  refine tr_cutF hsp mixed 8 (fun σ => rdO bK 8 σ) (fun E => nuI E n (0, List.replicate n.toNat ((0 : Fp), (0 : Fp)))) (fun E => E = expo m t (128 * n) ∧ 0 ≤ n ∧ n ≤ 63) ?_ ?_
  · refine vcx (X := ((decide (n < (0 : Int)) = true → ([], (1 : Int), ()) = ((nuA m t n).fst, (nuA m t n).snd, ())) ∧ (decide (n < (0 : Int)) = false → (decide (n > (63 : Int)) = true → ([], (1 : Int), ()) = ((nuA m t n).fst, (nuA m t n).snd, ())) ∧ (decide (n > (63 : Int)) = false → (∀ (g : Nat) (s : Sigma Car), shaG g = some s → Decidable.rec (fun h => (fun x => if g = (1 : Nat) then some ⟨Kd.arr (64 : Nat) uK, rootsL⟩ else none) h) (fun h => (fun x => some ⟨Kd.arr (8 : Nat) uK, firstL⟩) h) (instDecidableEqNat g (0 : Nat)) = some s) ∧ preEx (m, t, IntKind.i64.wrap ((128 : Int) * n), ()) ∧ (((exA m t (IntKind.i64.wrap ((128 : Int) * n))).snd != (0 : Int)) = true → ([], (exA m t (IntKind.i64.wrap ((128 : Int) * n))).snd, ()) = ((nuA m t n).fst, (nuA m t n).snd, ())) ∧ (((exA m t (IntKind.i64.wrap ((128 : Int) * n))).snd != (0 : Int)) = false → ((0 : Int) ≤ n ∧ n ≤ n ∧ (↑(96 : Nat) : Int) * n ≤ (281474976710656 : Int) ∧ n ≤ (9223372036854775807 : Int)) ∧ (nuI ((exA m t (IntKind.i64.wrap ((128 : Int) * n))).fst, (exA m t (IntKind.i64.wrap ((128 : Int) * n))).snd, ()).fst n ((0 : Int), List.replicate n.toNat ((0 : Fp), (0 : Fp)))).triv ((exA m t (IntKind.i64.wrap ((128 : Int) * n))).fst = expo m t ((128 : Int) * n) ∧ (0 : Int) ≤ n ∧ n ≤ (63 : Int))))))) (by kernel_rfl) ?_
    refine ⟨fun h => by rw [nuA, h]; rfl, fun h => ⟨fun h2 => by rw [nuA, h, h2]; rfl, fun h2 => ?_⟩⟩
    have hn0 : 0 ≤ n := by have := of_decide_eq_false h; omega
    have hn1 : n ≤ 63 := by have := of_decide_eq_false h2; omega
    have e1 : IntKind.i64.wrap (128 * n) = 128 * n := wrap_i64' (by omega) (by omega)
    have eA : exA m t (128 * n) = (expo m t (128 * n), 0) := by
      rw [exA, decide_eq_false (by omega), decide_eq_false (by omega)]; rfl
    rw [e1, eA]
    exact ⟨fun _ _ h => h, ⟨hm, ht⟩, fun h => by simp at h, fun _ => ⟨⟨hn0, Int.le_refl _, by omega, by omega⟩, triv_intro ⟨rfl, hn0, hn1⟩⟩⟩
  rintro E ⟨hE, hn0, hn1⟩
  revert E
  intro (E : List Int) (hE : E = expo m t (128 * n))
  have hl : E.length = 128 * n.toNat := by rw [hE, expo_len]; omega
  refine tr_while hsp mixed noSw (fun σ => (rdS (.int .i64) 34 σ, rdR f2 168 σ)) (nuI E n) (fun g => ∃ k : Nat, k ≤ n.toNat ∧ g.1 = (k : Int) ∧ g.2 = nuL E n.toNat k) (fun g => n.toNat - g.1.toNat)
    (fun σ => (rdS (.int .i64) 34 σ, rdR f2 168 σ)) (nuI E n) (fun g => g.2 = nums m t n.toNat) (0, List.replicate n.toNat ((0 : Fp), (0 : Fp))) (c := nthC (codeOf Tryd.f15) 8) (by kernel_rfl) (by kernel_rfl) (le_of_proj (by kernel_rfl) (by kernel_rfl) ?_) ?_ ?_
  · exact ⟨0, Nat.zero_le _, rfl, by simp [nuL]⟩
  · rintro ⟨i, l⟩ hj
    revert i l
    intro (i : Int) (l : List F2) ⟨k, hk, ei, el⟩
    have ei : i = (k : Int) := ei
    have kl : l = nuL E n.toNat k := el
    subst ei
    have e1 : IntKind.i64.wrap (128 * (k : Int)) = ((128 * k : Nat) : Int) := by rw [wrap_i64' (by omega) (by omega)]; omega
    have e2 : IntKind.i64.wrap ((k : Int) + 1) = ((k + 1 : Nat) : Int) := wrap_succ (by omega)
    have e3 : IntKind.i64.wrap (128 * ((k + 1 : Nat) : Int)) = ((128 * k + 128 : Nat) : Int) := by rw [wrap_i64' (by omega) (by omega)]; omega
    have e4 : (((128 * k + 128 : Nat) : Int) - ((128 * k : Nat) : Int)).toNat = 128 := by omega
    refine vcx (X := ((decide ((↑k : Int) < (↑n.toNat : Int)) = true → ((0 : Int) ≤ IntKind.i64.wrap ((128 : Int) * (↑k : Int)) ∧ IntKind.i64.wrap ((128 : Int) * (↑k : Int)) ≤ IntKind.i64.wrap ((128 : Int) * IntKind.i64.wrap ((↑k : Int) + (1 : Int))) ∧ IntKind.i64.wrap ((128 : Int) * IntKind.i64.wrap ((↑k : Int) + (1 : Int))) ≤ (↑E.length : Int)) ∧ ((0 : Int) ≤ (64 : Int) ∧ (64 : Int) ≤ (↑(List.take (IntKind.i64.wrap ((128 : Int) * IntKind.i64.wrap ((↑k : Int) + (1 : Int))) - IntKind.i64.wrap ((128 : Int) * (↑k : Int))).toNat (List.drop (IntKind.i64.wrap ((128 : Int) * (↑k : Int))).toNat E)).length : Int)) ∧ fp.preWide (List.take (64 : Nat) (List.take (IntKind.i64.wrap ((128 : Int) * IntKind.i64.wrap ((↑k : Int) + (1 : Int))) - IntKind.i64.wrap ((128 : Int) * (↑k : Int))).toNat (List.drop (IntKind.i64.wrap ((128 : Int) * (↑k : Int))).toNat E)), ()) ∧ ((0 : Int) ≤ (64 : Int) ∧ (64 : Int) ≤ (↑(List.take (IntKind.i64.wrap ((128 : Int) * IntKind.i64.wrap ((↑k : Int) + (1 : Int))) - IntKind.i64.wrap ((128 : Int) * (↑k : Int))).toNat (List.drop (IntKind.i64.wrap ((128 : Int) * (↑k : Int))).toNat E)).length : Int)) ∧ fp.preWide (List.take ((↑(List.take (IntKind.i64.wrap ((128 : Int) * IntKind.i64.wrap ((↑k : Int) + (1 : Int))) - IntKind.i64.wrap ((128 : Int) * (↑k : Int))).toNat (List.drop (IntKind.i64.wrap ((128 : Int) * (↑k : Int))).toNat E)).length : Int) - (64 : Int)).toNat (List.drop (64 : Nat) (List.take (IntKind.i64.wrap ((128 : Int) * IntKind.i64.wrap ((↑k : Int) + (1 : Int))) - IntKind.i64.wrap ((128 : Int) * (↑k : Int))).toNat (List.drop (IntKind.i64.wrap ((128 : Int) * (↑k : Int))).toNat E))), ()) ∧ ((0 : Int) ≤ (↑k : Int) ∧ (↑k : Int) < (↑n.toNat : Int)) ∧ (↑k : Int).toNat < n.toNat ∧ (nuI E n (IntKind.i64.wrap ((↑k : Int) + (1 : Int)), l.set (↑k : Int).toNat (zmp (num (List.take (64 : Nat) (List.take (IntKind.i64.wrap ((128 : Int) * IntKind.i64.wrap ((↑k : Int) + (1 : Int))) - IntKind.i64.wrap ((128 : Int) * (↑k : Int))).toNat (List.drop (IntKind.i64.wrap ((128 : Int) * (↑k : Int))).toNat E)))), zmp (num (List.take ((↑(List.take (IntKind.i64.wrap ((128 : Int) * IntKind.i64.wrap ((↑k : Int) + (1 : Int))) - IntKind.i64.wrap ((128 : Int) * (↑k : Int))).toNat (List.drop (IntKind.i64.wrap ((128 : Int) * (↑k : Int))).toNat E)).length : Int) - (64 : Int)).toNat (List.drop (64 : Nat) (List.take (IntKind.i64.wrap ((128 : Int) * IntKind.i64.wrap ((↑k : Int) + (1 : Int))) - IntKind.i64.wrap ((128 : Int) * (↑k : Int))).toNat (List.drop (IntKind.i64.wrap ((128 : Int) * (↑k : Int))).toNat E)))))))).triv ((∃ k_1, k_1 ≤ n.toNat ∧ IntKind.i64.wrap ((↑k : Int) + (1 : Int)) = (↑k_1 : Int) ∧ l.set (↑k : Int).toNat (zmp (num (List.take (64 : Nat) (List.take (IntKind.i64.wrap ((128 : Int) * IntKind.i64.wrap ((↑k : Int) + (1 : Int))) - IntKind.i64.wrap ((128 : Int) * (↑k : Int))).toNat (List.drop (IntKind.i64.wrap ((128 : Int) * (↑k : Int))).toNat E)))), zmp (num (List.take ((↑(List.take (IntKind.i64.wrap ((128 : Int) * IntKind.i64.wrap ((↑k : Int) + (1 : Int))) - IntKind.i64.wrap ((128 : Int) * (↑k : Int))).toNat (List.drop (IntKind.i64.wrap ((128 : Int) * (↑k : Int))).toNat E)).length : Int) - (64 : Int)).toNat (List.drop (64 : Nat) (List.take (IntKind.i64.wrap ((128 : Int) * IntKind.i64.wrap ((↑k : Int) + (1 : Int))) - IntKind.i64.wrap ((128 : Int) * (↑k : Int))).toNat (List.drop (IntKind.i64.wrap ((128 : Int) * (↑k : Int))).toNat E)))))) = nuL E n.toNat k_1) ∧ n.toNat - (IntKind.i64.wrap ((↑k : Int) + (1 : Int))).toNat < n.toNat - (↑k : Int).toNat)) ∧ (decide ((↑k : Int) < (↑n.toNat : Int)) = false → (nuI E n ((↑k : Int), l)).triv (l = nums m t n.toNat)))) (by kernel_rfl) ?_
    rw [e1, e2, e3, e4]
    simp only [Int.toNat_natCast]
    refine ⟨fun h => ?_, fun h => triv_intro ?_⟩
    · have hlt : k < n.toNat := by have := of_decide_eq_true h; omega
      have lp : (List.take 128 (List.drop (128 * k) E)).length = 128 := by rw [List.length_take, List.length_drop]; omega
      rw [lp]
      have e5 : (((128 : Nat) : Int) - 64).toNat = 64 := rfl
      rw [e5, cut_a, cut_b]
      have hb := expo_Bs m t (128 * n)
      rw [← hE] at hb
      have pw : ∀ a : Nat, fp.preWide (List.take 64 (List.drop a E), ()) := fun a => ⟨fun x hx => hb x (List.mem_of_mem_drop (List.mem_of_mem_take hx)), by
        show (List.take 64 (List.drop a E)).length < _
        rw [List.length_take]; omega⟩
      refine ⟨⟨by omega, by omega, by omega⟩, ⟨by decide, by decide⟩, pw _, ⟨by decide, by decide⟩, pw _, ⟨by omega, by omega⟩, hlt, triv_intro ⟨⟨k + 1, hlt, rfl, ?_⟩, ?_⟩⟩
      · show l.set k (nmb E k) = _
        rw [kl, nuL_step hlt]
      · show n.toNat - ((k + 1 : Nat) : Int).toNat < n.toNat - (k : Int).toNat
        rw [Int.toNat_natCast, Int.toNat_natCast]; omega
    · have hk' : k = n.toNat := by have := of_decide_eq_false h; omega
      show l = _
      rw [kl, hk', nuL, Nat.sub_self, List.replicate_zero, List.append_nil, nums, opq_eq, hE]
      have e6 : 128 * (n.toNat : Int) = 128 * n := by omega
      rw [e6]
  rintro ⟨i, l⟩ hj
  revert i l
  intro (i : Int) (l : List F2) (hj : l = nums m t n.toNat)
  refine tr_vc hsp mixed _ _ ?_
  refine vcx (X := ((0 : Nat) + n.toNat ≤ n.toNat ∧ (List.take n.toNat l, (0 : Int), ()) = ((nuA m t n).fst, (nuA m t n).snd, ()))) (by kernel_rfl) ?_
  have eN : nuA m t n = (nums m t n.toNat, 0) := by
    rw [nuA, decide_eq_false (by omega), decide_eq_false (by omega)]; rfl
  rw [eN, hj, List.take_of_length_le (by rw [nums_len]; exact Nat.le_refl _)]
  exact ⟨by omega, rfl⟩
end Go.Proofs.YtbfimfdhmggieaaDoor.xmd
/- Contracts of package tower: straight functions. -/
namespace Go.Proofs.YtbfimfdhmggieaaDoor.tower
set_option maxRecDepth 100000
open Go Go.Eng Go.RowKit Cr Go.Proofs.YtbfimfdhmggieaaDoor Go.Proofs.YtbfimfdhmggieaaDoor.fp2
end Go.Proofs.YtbfimfdhmggieaaDoor.tower
/- tower: Root. -/
namespace Go.Proofs.YtbfimfdhmggieaaDoor.tower
set_option maxRecDepth 100000
open Go Go.Eng Go.RowKit Cr Go.Proofs.YtbfimfdhmggieaaDoor Go.Proofs.YtbfimfdhmggieaaDoor.fp2
/-- Powers of two. -/
noncomputable def tp (e : Nat) : Fp := zpow (1 + 1 : Fp) e
theorem tp_sq (e : Nat) : tp e * tp e = tp (2 * e) := by rw [tp, tp, ← zpow_add', show e + e = 2 * e by omega]
theorem tp_succ (e : Nat) : tp e + tp e = tp (e + 1) := by
  show tp e + tp e = zpow (1 + 1 : Fp) e * (1 + 1)
  rw [Rg.mul_add, Rg.mul_one]; rfl
theorem or_byte (r b : Nat) (hr : r < 4294967296) (hb : b < 256) : bitOp .or .i64 ((r * 256 : Nat) : Int) (b : Int) = ((r * 256 + b : Nat) : Int) := by
  have e : ((BitVec.ofInt 64 ((r * 256 : Nat) : Int) ||| BitVec.ofInt 64 (b : Int) : BitVec 64).toNat) = r * 256 + b := by
    rw [BitVec.toNat_or, BitVec.toNat_ofInt, BitVec.toNat_ofInt]
    have h1 : (((r * 256 : Nat) : Int) % ((2 ^ 64 : Nat) : Int)).toNat = r <<< 8 := by rw [Nat.shiftLeft_eq]; omega
    have h2 : ((b : Int) % ((2 ^ 64 : Nat) : Int)).toNat = b := by omega
    rw [h1, h2, ← Nat.shiftLeft_add_eq_or_of_lt (by omega), Nat.shiftLeft_eq]
  show IntKind.i64.wrap (((BitVec.ofInt 64 ((r * 256 : Nat) : Int) ||| BitVec.ofInt 64 (b : Int) : BitVec 64).toNat : Nat) : Int) = _
  rw [e]
  exact wrap_i64' (by omega) (by omega)
theorem and_one (n : Nat) (hn : n < 4294967296) : bitOp .and .i64 (n : Int) 1 = ((n % 2 : Nat) : Int) := by
  have e : ((BitVec.ofInt 64 (n : Int) &&& BitVec.ofInt 64 1 : BitVec 64).toNat) = n % 2 := by
    rw [BitVec.toNat_and, BitVec.toNat_ofInt, BitVec.toNat_ofInt]
    have h1 : ((n : Int) % ((2 ^ 64 : Nat) : Int)).toNat = n := by omega
    have h2 : ((1 : Int) % ((2 ^ 64 : Nat) : Int)).toNat = 1 := by omega
    rw [h1, h2, Nat.and_one_is_mod]
  show IntKind.i64.wrap (((BitVec.ofInt 64 (n : Int) &&& BitVec.ofInt 64 1 : BitVec 64).toNat : Nat) : Int) = _
  rw [e]
  exact wrap_i64' (by omega) (by omega)
theorem ent_root : enters Tryd.prog 86 Tryd.f86 := enters_mk (by kernel_rfl) (by kernel_rfl) (by kernel_rfl)
noncomputable abbrev rBs : List Int := bytesN 48 (Zm.v (-(zm 1 : Fp)))
theorem rBs_len : List.length rBs = 48 := bytesN_length 48 _
noncomputable def rtA (bs : List Int) (g : Int × Fp × Int) : St := mkSt Tryd.f86.ntmps 72 [(0, .is (.one (.ptr 0 0))), (1, .is (.one (.ptr 16 0))), (2, sI .i64 g.2.2), (10, sA .u8 48 bs), (11, sI .i64 g.1)] [(16, [.row .fp 1 [g.2.1]]), (0, [.row .fp 1 [(0 : Fp)], .row .fp 1 [(0 : Fp)]])]
noncomputable def rtB (bs : List Int) (i rest dg : Int) (g : Int × Fp) : St := mkSt Tryd.f86.ntmps 72 [(0, .is (.one (.ptr 0 0))), (1, .is (.one (.ptr 16 0))), (2, sI .i64 rest), (5, sI .i64 dg), (10, sA .u8 48 bs), (11, sI .i64 i), (23, sI .i64 g.1)] [(16, [.row .fp 1 [g.2]]), (0, [.row .fp 1 [(0 : Fp)], .row .fp 1 [(0 : Fp)]])]
noncomputable def rtO (x : Fp) : St := mkSt Tryd.f86.ntmps 72 [(0, .is (.one (.ptr 0 0))), (1, .is (.one (.ptr 16 0)))] [(16, [.row .fp 1 [x]]), (0, [.row .fp 1 [(0 : Fp)], .row .fp 1 [(0 : Fp)]])]
noncomputable def rtJ (bs : List Int) (g : Int × Fp × Int) : Prop := ∃ k : Nat, k ≤ 48 ∧ g.1 = (k : Int) ∧ g.2.1 = tp (num (bs.take k) / 12).toNat ∧ g.2.2 = num (bs.take k) % 12
noncomputable def rootK : Fp := tp (num rBs / 12).toNat
theorem fn_root : FnOk Tryd.prog 86 [] [.val f2] noG (fun _ => True) (fun _ => ((rootK, -rootK), ())) := by
  have hsp : SpecsOk Tryd.prog (sps [fp.spOf, fp.spNeg, fp.spBytes, fp.spSquare, fp.spAdd]) := sps_cons (fnSpec_ok fp.fn_of) (sps_cons (fnSpec_ok fp.fn_neg) (sps_cons (fnSpec_ok fp.fn_bytes) (sps_cons (fnSpec_ok fp.fn_square) (sps_cons (fnSpec_ok fp.fn_add) sps_nil))))
  refine fn_of_tr (sp := sps [fp.spOf, fp.spNeg, fp.spBytes, fp.spSquare, fp.spAdd]) ent_root (by decide) (by decide) (by kernel_rfl) ?_
  rintro w M0 ⟨⟩ _ _
  show Tr _ _ _ _ _ _ _
  refine tr_cut hsp mixed 3 (rtA rBs (0, zm 1, 0)) True ?_ (fun _ => ?_)
  · refine vcx (X := (U64 (1 : Int) ∧ U64 (1 : Int) ∧ True ∧ True ∧ (rtA rBs ((0 : Int), zmp (1 : Int), (0 : Int))).triv True)) (by kernel_rfl) ?_
    exact ⟨⟨by decide, by decide⟩, ⟨by decide, by decide⟩, trivial, trivial, triv_intro trivial⟩
  refine tr_whileT noSw (fun σ => (rdS (.int .i64) 11 σ, rdB .fp 16 σ, rdS (.int .i64) 2 σ)) (rtA rBs) (rtJ rBs) (fun g => 48 - g.1.toNat)
    (fun σ => rdB .fp 16 σ) rtO (fun x => x = rootK) (0, zm 1, 0) (c := nthC (codeOf Tryd.f86) 3) (by kernel_rfl) (by kernel_rfl) (le_of_proj (by kernel_rfl) (by kernel_rfl) ?_) ?_ ?_
  · refine ⟨0, by decide, rfl, ?_, rfl⟩
    exact Zm.ext (by decide)
  · rintro ⟨i, x, rest⟩ hj
    revert i x rest
    intro (i : Int) (x : Fp) (rest : Int) ⟨k, hk, ei, ex, er⟩
    have ei : i = (k : Int) := ei
    subst ei
    have hbd := num_bd (l := rBs.take k) (fun x hx => (bytesN_Bs 48 _ : Bs rBs) x (List.mem_of_mem_take hx))
    refine tr_cut hsp mixed 2 (rtA rBs ((k : Int), x, rest)) (k < 48) ?_ (fun hlt => ?_)
    · refine vcx (X := ((decide ((↑k : Int) < (48 : Int)) = true → (rtA rBs ((↑k : Int), x, rest)).triv (k < (48 : Nat))) ∧ (decide ((↑k : Int) < (48 : Int)) = false → (rtO x).triv (x = rootK)))) (by kernel_rfl) ?_
      refine ⟨fun h => triv_intro (by have := of_decide_eq_true h; omega), fun h => triv_intro ?_⟩
      have e48 : k = 48 := by have := of_decide_eq_false h; omega
      have ex : x = tp (num (rBs.take k) / 12).toNat := ex
      rw [ex, e48, List.take_of_length_le (by rw [rBs_len]; decide)]; rfl
    refine tr_block (c := nthC (loopOf (nthC (codeOf Tryd.f86) 3)) 2) (by kernel_rfl) (by kernel_rfl) ?_
    have hkl : k < List.length rBs := by rw [rBs_len]; exact hlt
    obtain ⟨b, hb⟩ : ∃ b, b = rBs.getD k 0 := ⟨_, rfl⟩
    have hb0 : 0 ≤ b ∧ b < 256 := by
      rw [hb]; simp only [List.getD_eq_getElem?_getD, List.getElem?_eq_getElem hkl, Option.getD_some]
      exact (bytesN_Bs 48 _ : Bs rBs) _ (List.getElem_mem hkl)
    refine tr_cutF hsp mixed 5 (fun σ => (rdS (.int .i64) 2 σ, rdS (.int .i64) 5 σ)) (fun g => rtB rBs k g.1 g.2 (0, x)) (fun g => g.1 = (rest * 256 + b) % 12 ∧ g.2 = (rest * 256 + b) / 12) ?_ ?_
    · refine vcx (X := (((0 : Int) ≤ (↑k : Int) ∧ (↑k : Int) < (↑(48 : Nat) : Int)) ∧ (0 : Int) ≤ (8 : Int) ∧ ((12 : Int) = (0 : Int) → False) ∧ ((12 : Int) = (0 : Int) → False) ∧ (rtB rBs (↑k : Int) ((bitOp BinOp.or IntKind.i64 (IntKind.i64.wrap (rest * (2 : Int) ^ min (8 : Nat) IntKind.i64.bits)) (IntKind.i64.wrap (rBs.getD (↑k : Int).toNat (0 : Int)))).tmod (12 : Int), IntKind.i64.wrap ((bitOp BinOp.or IntKind.i64 (IntKind.i64.wrap (rest * (2 : Int) ^ min (8 : Nat) IntKind.i64.bits)) (IntKind.i64.wrap (rBs.getD (↑k : Int).toNat (0 : Int)))).tdiv (12 : Int))).fst ((bitOp BinOp.or IntKind.i64 (IntKind.i64.wrap (rest * (2 : Int) ^ min (8 : Nat) IntKind.i64.bits)) (IntKind.i64.wrap (rBs.getD (↑k : Int).toNat (0 : Int)))).tmod (12 : Int), IntKind.i64.wrap ((bitOp BinOp.or IntKind.i64 (IntKind.i64.wrap (rest * (2 : Int) ^ min (8 : Nat) IntKind.i64.bits)) (IntKind.i64.wrap (rBs.getD (↑k : Int).toNat (0 : Int)))).tdiv (12 : Int))).snd ((0 : Int), x)).triv ((bitOp BinOp.or IntKind.i64 (IntKind.i64.wrap (rest * (2 : Int) ^ min (8 : Nat) IntKind.i64.bits)) (IntKind.i64.wrap (rBs.getD (↑k : Int).toNat (0 : Int)))).tmod (12 : Int) = (rest * (256 : Car (Kd.int IntKind.i64)) + b) % (12 : Car (Kd.int IntKind.i64)) ∧ IntKind.i64.wrap ((bitOp BinOp.or IntKind.i64 (IntKind.i64.wrap (rest * (2 : Int) ^ min (8 : Nat) IntKind.i64.bits)) (IntKind.i64.wrap (rBs.getD (↑k : Int).toNat (0 : Int)))).tdiv (12 : Int)) = (rest * (256 : Car (Kd.int IntKind.i64)) + b) / (12 : Car (Kd.int IntKind.i64))))) (by kernel_rfl) ?_
      have er : rest = num (rBs.take k) % 12 := er
      have hr0 : 0 ≤ rest ∧ rest < 12 := by rw [er]; omega
      obtain ⟨rn, hrn⟩ := Int.eq_ofNat_of_zero_le hr0.1
      obtain ⟨bn, hbn⟩ := Int.eq_ofNat_of_zero_le hb0.1
      have e1 : IntKind.i64.wrap (rest * 2 ^ min (8 : Nat) IntKind.i64.bits) = ((rn * 256 : Nat) : Int) := by
        show IntKind.i64.wrap (rest * 256) = _
        rw [wrap_i64' (by omega) (by omega)]; omega
      have e2 : IntKind.i64.wrap (rBs.getD (k : Int).toNat 0) = (bn : Int) := by
        rw [Int.toNat_natCast, ← hb, wrap_i64' (by omega) (by omega), hbn]
      have e3 : rest * 256 + b = ((rn * 256 + bn : Nat) : Int) := by rw [hrn, hbn]; simp
      rw [e1, e2, or_byte rn bn (by omega) (by omega)]
      have e4 : ((rn * 256 + bn : Nat) : Int).tmod 12 = (rest * 256 + b) % 12 := by rw [Int.tmod_eq_emod_of_nonneg (by omega), e3]
      have e5 : IntKind.i64.wrap (((rn * 256 + bn : Nat) : Int).tdiv 12) = (rest * 256 + b) / 12 := by rw [Int.tdiv_eq_ediv_of_nonneg (by omega), wrap_i64' (by omega) (by omega), e3]
      rw [e4, e5]
      exact ⟨⟨by omega, by omega⟩, by decide, by decide, by decide, triv_intro ⟨rfl, rfl⟩⟩
    rintro ⟨r2, dg⟩ hrd
    revert r2 dg
    intro (r2 : Int) (dg : Int) ⟨hr2, hdg⟩
    have hr2 : r2 = (rest * 256 + b) % 12 := hr2
    have hdg : dg = (rest * 256 + b) / 12 := hdg
    have hdg0 : 0 ≤ dg ∧ dg < 256 := by
      have er : rest = num (rBs.take k) % 12 := er
      rw [hdg]; omega
    refine tr_while hsp mixed noSw (fun σ => (rdS (.int .i64) 23 σ, rdB .fp 16 σ)) (rtB rBs k r2 dg) (fun g => ∃ j : Nat, j ≤ 8 ∧ g.1 = (j : Int) ∧ g.2 = tp (((num (rBs.take k) / 12).toNat) * 2 ^ j + dg.toNat / 2 ^ (8 - j))) (fun g => 8 - g.1.toNat)
      (fun σ => rdB .fp 16 σ) (fun y => rtA rBs ((k : Int), y, r2)) (fun y => y = tp (((num (rBs.take k) / 12).toNat) * 256 + dg.toNat)) (0, x) (c := nthC (bodyOf (nthC (loopOf (nthC (codeOf Tryd.f86) 3)) 2)) 5) (by kernel_rfl) (by kernel_rfl) (le_of_proj (by kernel_rfl) (by kernel_rfl) ?_) ?_ ?_
    · refine ⟨0, by decide, rfl, ?_⟩
      have ex : x = tp (num (rBs.take k) / 12).toNat := ex
      rw [Nat.pow_zero, Nat.mul_one, show 8 - 0 = 8 from rfl, show (2 : Nat) ^ 8 = 256 from rfl, Nat.div_eq_of_lt (by omega), Nat.add_zero]
      exact ex
    · rintro ⟨j, y⟩ hj
      revert j y
      intro (j : Int) (y : Fp) ⟨t, ht, ej, ey⟩
      have ej : j = (t : Int) := ej
      subst ej
      refine vcx (X := ((decide ((↑t : Int) < (8 : Int)) = true → True ∧ (0 : Int) ≤ IntKind.i64.wrap ((7 : Int) - (↑t : Int)) ∧ ((bitOp BinOp.and IntKind.i64 (dg.fdiv ((2 : Int) ^ min (IntKind.i64.wrap ((7 : Int) - (↑t : Int))).toNat IntKind.i64.bits)) (1 : Int) == (1 : Int)) = true → True ∧ (rtB rBs (↑k : Int) r2 dg (IntKind.i64.wrap ((↑t : Int) + (1 : Int)), y * y + y * y)).triv ((∃ j, j ≤ (8 : Nat) ∧ IntKind.i64.wrap ((↑t : Int) + (1 : Int)) = (↑j : Int) ∧ y * y + y * y = tp ((num (List.take k rBs) / (12 : Int)).toNat * (2 : Nat) ^ j + dg.toNat / (2 : Nat) ^ ((8 : Nat) - j))) ∧ (8 : Nat) - (IntKind.i64.wrap ((↑t : Int) + (1 : Int))).toNat < (8 : Nat) - (↑t : Int).toNat)) ∧ ((bitOp BinOp.and IntKind.i64 (dg.fdiv ((2 : Int) ^ min (IntKind.i64.wrap ((7 : Int) - (↑t : Int))).toNat IntKind.i64.bits)) (1 : Int) == (1 : Int)) = false → (rtB rBs (↑k : Int) r2 dg (IntKind.i64.wrap ((↑t : Int) + (1 : Int)), y * y)).triv ((∃ j, j ≤ (8 : Nat) ∧ IntKind.i64.wrap ((↑t : Int) + (1 : Int)) = (↑j : Int) ∧ y * y = tp ((num (List.take k rBs) / (12 : Int)).toNat * (2 : Nat) ^ j + dg.toNat / (2 : Nat) ^ ((8 : Nat) - j))) ∧ (8 : Nat) - (IntKind.i64.wrap ((↑t : Int) + (1 : Int))).toNat < (8 : Nat) - (↑t : Int).toNat))) ∧ (decide ((↑t : Int) < (8 : Int)) = false → (rtA rBs ((↑k : Int), y, r2)).triv (y = tp ((num (List.take k rBs) / (12 : Int)).toNat * (256 : Nat) + dg.toNat))))) (by kernel_rfl) ?_
      have ht : t ≤ 8 := ht
      have ey : y = tp (((num (rBs.take k) / 12).toNat) * 2 ^ t + dg.toNat / 2 ^ (8 - t)) := ey
      obtain ⟨d, hd⟩ := Int.eq_ofNat_of_zero_le hdg0.1
      generalize (num (rBs.take k) / 12).toNat = q at *
      refine ⟨fun h => ?_, fun h => triv_intro ?_⟩
      · have h8 : t < 8 := by have := of_decide_eq_true h; omega
        have e1 : (IntKind.i64.wrap (7 - (t : Int))).toNat = 7 - t := by rw [wrap_i64' (by omega) (by omega)]; omega
        have e0 : 0 ≤ IntKind.i64.wrap (7 - (t : Int)) := by rw [wrap_i64' (by omega) (by omega)]; omega
        have hm : min (7 - t) IntKind.i64.bits = 7 - t := Nat.min_eq_left (show 7 - t ≤ 64 by omega)
        have e2 : dg.fdiv (2 ^ (7 - t)) = ((d / 2 ^ (7 - t) : Nat) : Int) := by
          rw [Int.fdiv_eq_ediv_of_nonneg _ (Int.le_of_lt (Int.pow_pos (by decide))), hd]
          simp
        have e3 : d / 2 ^ (8 - t) = d / 2 ^ (7 - t) / 2 := by
          rw [Nat.div_div_eq_div_mul, ← Nat.pow_succ, show (7 - t).succ = 8 - t by omega]
        have e4 : dg.toNat = d := by rw [hd]; rfl
        have hdl : d / 2 ^ (7 - t) < 4294967296 := Nat.lt_of_le_of_lt (Nat.div_le_self _ _) (by omega)
        have e5 : 8 - (t + 1) = 7 - t := by omega
        rw [e1, hm, e2, and_one _ hdl, wrap_succ (by omega)]
        have key : y * y = tp (q * 2 ^ (t + 1) + 2 * (d / 2 ^ (7 - t) / 2)) := by
          rw [ey, tp_sq, e4, e3, Nat.pow_succ]
          congr 1
          rw [Nat.mul_add, ← Nat.mul_assoc, Nat.mul_comm 2 q, Nat.mul_assoc, Nat.mul_comm 2 (2 ^ t)]
        refine ⟨trivial, e0, fun h1 => ⟨trivial, triv_intro ⟨⟨t + 1, h8, rfl, ?_⟩, by omega⟩⟩, fun h1 => triv_intro ⟨⟨t + 1, h8, rfl, ?_⟩, by omega⟩⟩
        · have hbit : d / 2 ^ (7 - t) % 2 = 1 := by
            have h1 : ((d / 2 ^ (7 - t) % 2 : Nat) : Int) = 1 := by simpa using h1
            omega
          rw [key, tp_succ, e4, e5]
          congr 1
          omega
        · have hbit : d / 2 ^ (7 - t) % 2 = 0 := by
            have h1 : ¬ ((d / 2 ^ (7 - t) % 2 : Nat) : Int) = 1 := by simpa using h1
            omega
          rw [key, e4, e5]
          congr 1
          omega
      · have h8 : t = 8 := by have := of_decide_eq_false h; omega
        rw [ey, h8]
        simp
    intro (y : Fp) (hy : y = tp (((num (rBs.take k) / 12).toNat) * 256 + dg.toNat))
    refine tr_nil ?_
    refine tr_vc hsp mixed _ _ ?_
    refine vcx (X := ((rtA rBs (IntKind.i64.wrap ((↑k : Int) + (1 : Int)), y, r2)).triv (rtJ rBs (IntKind.i64.wrap ((↑k : Int) + (1 : Int)), y, r2) ∧ (48 : Nat) - (IntKind.i64.wrap ((↑k : Int) + (1 : Int))).toNat < (48 : Nat) - (↑k : Int).toNat))) (by kernel_rfl) ?_
    have er : rest = num (rBs.take k) % 12 := er
    have hns := num_take_succ hkl
    rw [← hb] at hns
    rw [wrap_succ (by omega)]
    refine triv_intro ⟨⟨k + 1, hlt, rfl, ?_, ?_⟩, by omega⟩
    · show y = tp _
      rw [hy, hns]
      congr 1
      omega
    · show r2 = _
      rw [hr2, hns, er]
      omega
  intro (x : Fp) (hx : x = rootK)
  refine tr_vc hsp mixed _ _ ?_
  refine vcx (X := (True ∧ ((x, -x), ()) = ((rootK, -rootK), ()))) (by kernel_rfl) ?_
  exact ⟨trivial, by rw [hx]⟩
end Go.Proofs.YtbfimfdhmggieaaDoor.tower
/- tower: Power. -/
namespace Go.Proofs.YtbfimfdhmggieaaDoor.tower
set_option maxRecDepth 100000
open Go Go.Eng Go.RowKit Cr Go.Proofs.YtbfimfdhmggieaaDoor Go.Proofs.YtbfimfdhmggieaaDoor.fp2
end Go.Proofs.YtbfimfdhmggieaaDoor.tower
/- pairing: tangents and chords; tower: Frob. -/
namespace Go.Proofs.YtbfimfdhmggieaaDoor.fp2
set_option maxRecDepth 100000
open Go Go.Eng Go.RowKit Cr Go.Proofs.YtbfimfdhmggieaaDoor
noncomputable abbrev outDouble : HL [f2] → HO [.val f2] := fun (x, _) => ((x : F2) + x, ())
end Go.Proofs.YtbfimfdhmggieaaDoor.fp2
namespace Go.Proofs.YtbfimfdhmggieaaDoor.tower
set_option maxRecDepth 100000
open Go Go.Eng Go.RowKit Cr Go.Proofs.YtbfimfdhmggieaaDoor Go.Proofs.YtbfimfdhmggieaaDoor.fp2
noncomputable def rt1 : F2 := (rootK, -rootK)
end Go.Proofs.YtbfimfdhmggieaaDoor.tower
namespace Go.Proofs.YtbfimfdhmggieaaDoor.pairing
set_option maxRecDepth 100000
open Go Go.Eng Go.RowKit Cr Go.Proofs.YtbfimfdhmggieaaDoor Go.Proofs.YtbfimfdhmggieaaDoor.fp2 Go.Proofs.YtbfimfdhmggieaaDoor.tower
end Go.Proofs.YtbfimfdhmggieaaDoor.pairing
/- pairing: bytes, finish. -/
namespace Go.Proofs.YtbfimfdhmggieaaDoor.pairing
set_option maxRecDepth 100000
open Go Go.Eng Go.RowKit Cr Go.Proofs.YtbfimfdhmggieaaDoor Go.Proofs.YtbfimfdhmggieaaDoor.fp2 Go.Proofs.YtbfimfdhmggieaaDoor.tower
end Go.Proofs.YtbfimfdhmggieaaDoor.pairing
/- pairing: Len64 of the parameter. -/
namespace Go.Proofs.YtbfimfdhmggieaaDoor.pairing
set_option maxRecDepth 100000
open Go Go.Eng Go.RowKit Cr Go.Proofs.YtbfimfdhmggieaaDoor Go.Proofs.YtbfimfdhmggieaaDoor.fp2 Go.Proofs.YtbfimfdhmggieaaDoor.tower
end Go.Proofs.YtbfimfdhmggieaaDoor.pairing
/- pairing: lines. -/
namespace Go.Proofs.YtbfimfdhmggieaaDoor.pairing
set_option maxRecDepth 100000
open Go Go.Eng Go.RowKit Cr Go.Proofs.YtbfimfdhmggieaaDoor Go.Proofs.YtbfimfdhmggieaaDoor.fp2 Go.Proofs.YtbfimfdhmggieaaDoor.tower
/-- The parameter's bit. -/
def pbit (b : Int) : Bool := bitOp .and .u64 (Int.fdiv 15132376222941642752 (2 ^ min b.toNat IntKind.u64.bits)) 1 == 1
end Go.Proofs.YtbfimfdhmggieaaDoor.pairing
/- pairing: Pair, Check. -/
namespace Go.Proofs.YtbfimfdhmggieaaDoor.pairing
set_option maxRecDepth 100000
open Go Go.Eng Go.RowKit Cr Go.Proofs.YtbfimfdhmggieaaDoor Go.Proofs.YtbfimfdhmggieaaDoor.fp2 Go.Proofs.YtbfimfdhmggieaaDoor.tower
end Go.Proofs.YtbfimfdhmggieaaDoor.pairing
/- pairing: what the parts compute, as powers. -/
namespace Go.Proofs.YtbfimfdhmggieaaDoor.tower
set_option maxRecDepth 100000
open Go Go.Eng Go.RowKit Cr Go.Proofs.YtbfimfdhmggieaaDoor Go.Proofs.YtbfimfdhmggieaaDoor.fp2
theorem rt1_eq {q : Nat} (hq : q = fpP / 6) : rt1 = pwn xi q := by
  obtain ⟨m, hm⟩ : ∃ m, m = (num rBs / 12).toNat := ⟨_, rfl⟩
  have hm2 : m = fpP / 12 := hm.trans (of_decide_eq_true (by kernel_rfl))
  have h1 : q = 2 * m + 1 := by rw [hq, hm2]; exact of_decide_eq_true (by kernel_rfl)
  have h2 : m = 2 * (2 * (fpP / 48)) + 2 + 1 := hm2.trans (of_decide_eq_true (by kernel_rfl))
  rw [xi_pw h1 h2, ← zpow_pwn]
  show (zpow _ _, -zpow _ _) = _
  rw [← hm]
end Go.Proofs.YtbfimfdhmggieaaDoor.tower
namespace Go.Proofs.YtbfimfdhmggieaaDoor.pairing
set_option maxRecDepth 100000
open Go Go.Eng Go.RowKit Cr Go.Proofs.YtbfimfdhmggieaaDoor Go.Proofs.YtbfimfdhmggieaaDoor.fp2 Go.Proofs.YtbfimfdhmggieaaDoor.tower
end Go.Proofs.YtbfimfdhmggieaaDoor.pairing
/- The value of two points: additive on either side. No program here. -/
namespace Cr
open Rg Fd Go.Eng

def bst (n : Nat) : Bool → Nat
  | false => n + n
  | true => n + n + 1
def bval (l : List Bool) (m : Nat) : Nat := l.foldl bst m
section
variable {F : Type} [Fd F] {b : F}
variable (hb : b ≠ 0)
include hb
end

section
variable {N p u r : Nat} (L : LastP N p u r) {b1 : Fp} {b2 : F2} (hb1 : b1 ≠ 0) (hb2 : b2 ≠ 0) (hns : ∀ y : F2, y * y = b2 → False) (he : b2 = e0 b1 * xi)
/-- A point of the second group: its order, and what the power p of its places is. -/
structure GQ (p u r : Nat) (b2 : F2) (Q : F2 × F2) : Prop where
  on : OnP b2 Q
  fro : hmp (fro p) (tws e2 wi Q) = pneg (tws e2 wi (nmul Q u))
  ord : nmul Q r = O2
  small : Q = O2 ∨ ∀ k, 0 < k → k ≤ u → nmul Q k ≠ O2
/-- The loop at two points, taken to the last power. -/
noncomputable def ev0 (L : LastP N p u r) (bl : List Bool) (P : Fp × Fp) (Q : F2 × F2) : F12 := (kil L).χ (ml (tws e2 wi Q) (hmp e1 P) bl).1
include hb1 hb2 hns he
variable {bl : List Bool} (hbl : bval bl 1 = u)
include hbl
omit hb1 hb2 hns he hbl in
/-- The value of two points. -/
noncomputable def ev (L : LastP N p u r) (bl : List Bool) (P : Fp × Fp) (Q : F2 × F2) : F12 := if P = O2 then 1 else ev0 L bl P Q
include L in
end
end Cr
/- pairing: the loop of one pair, against lines laid over one another. -/
namespace Cr
open Rg
end Cr
namespace Go.Proofs.YtbfimfdhmggieaaDoor.pairing
set_option maxRecDepth 100000
open Go Go.Eng Go.RowKit Cr Go.Proofs.YtbfimfdhmggieaaDoor Go.Proofs.YtbfimfdhmggieaaDoor.fp2 Go.Proofs.YtbfimfdhmggieaaDoor.tower

section
variable {b : F2} (hb : b ≠ 0)
include hb
end

section
variable {N p u r : Nat} (L : LastP N p u r) {b1 : Fp} {b2 : F2} (hb1 : b1 ≠ 0) (hb2 : b2 ≠ 0) (hns : ∀ y : F2, y * y = b2 → False) (he : b2 = e0 b1 * xi)
include hb1 hb2 he
end
end Go.Proofs.YtbfimfdhmggieaaDoor.pairing
/- pairing: what the product of some pairs computes: the product of their values. -/
namespace Go.Proofs.YtbfimfdhmggieaaDoor.pairing
set_option maxRecDepth 100000
open Go Go.Eng Go.RowKit Cr Go.Proofs.YtbfimfdhmggieaaDoor Go.Proofs.YtbfimfdhmggieaaDoor.fp2 Go.Proofs.YtbfimfdhmggieaaDoor.tower

/-- The parameter's first bits but the highest. -/
def bls (j : Nat) : List Bool := (List.range j).map fun (j : Nat) => pbit (62 - (j : Int))
section
variable {N p u r : Nat} (L : LastP N p u r) {b1 : Fp} {b2 : F2} (hb1 : b1 ≠ 0) (hb2 : b2 ≠ 0) (hns : ∀ y : F2, y * y = b2 → False) (he : b2 = e0 b1 * xi)
variable (hu : 0 < u) (hbl : bval (bls 63) 1 = u)
include hb1 hb2 hns he hu hbl
end
end Go.Proofs.YtbfimfdhmggieaaDoor.pairing
/- pairing: by computation in natural numbers. -/
namespace Go.Proofs.YtbfimfdhmggieaaDoor.pairing
set_option maxRecDepth 100000
open Go Go.Eng Go.RowKit Cr Go.Proofs.YtbfimfdhmggieaaDoor Go.Proofs.YtbfimfdhmggieaaDoor.fp2 Go.Proofs.YtbfimfdhmggieaaDoor.tower
def rtN : Nat := 3850754370037169011952147076051364057158807420970682438676050522613628423219637725072182697113062777891589506424760
end Go.Proofs.YtbfimfdhmggieaaDoor.pairing
/- g1: Times. -/
namespace Go.Proofs.YtbfimfdhmggieaaDoor.g1
set_option maxRecDepth 100000
open Go Go.Eng Go.RowKit Cr Go.Proofs.YtbfimfdhmggieaaDoor

end Go.Proofs.YtbfimfdhmggieaaDoor.g1
/- g1: Mul. -/
namespace Go.Proofs.YtbfimfdhmggieaaDoor.g1
set_option maxRecDepth 100000
open Go Go.Eng Go.RowKit Cr Go.Proofs.YtbfimfdhmggieaaDoor
end Go.Proofs.YtbfimfdhmggieaaDoor.g1
/- The references' Copy; law07: scalar, long. -/
namespace Go.Proofs.YtbfimfdhmggieaaDoor.ref01
set_option maxRecDepth 100000
open Go Go.Eng Go.RowKit Cr Go.Proofs.YtbfimfdhmggieaaDoor

theorem ent_copy : enters Tryd.prog 11 Tryd.f11 := enters_mk (by kernel_rfl) (by kernel_rfl) (by kernel_rfl)
noncomputable def cpI (b : List Int) (g : Int × List Int) : St := mkSt Tryd.f11.ntmps 64 [(0, .is (.one (.ro (.int .u8) b))), (3, .is (.one (.sl 24 0 0 (b.length : Int).toNat 1))), (9, sI .i64 b.length), (10, sI .i64 g.1)] [(24, [.ints .u8 (b.length : Int).toNat g.2])]
def cpL (b : List Int) (k : Nat) : List Int := b.take k ++ List.replicate (b.length - k) 0
theorem cpL_step {b : List Int} {k : Nat} (h : k < b.length) : (cpL b k).set k (b.getD k 0) = cpL b (k + 1) := by
  unfold cpL
  rw [List.set_append_right _ _ (by simp; omega), List.take_succ_eq_append_getElem h]
  have e : b.length - k = (b.length - (k + 1)) + 1 := by omega
  have e2 : k - (b.take k).length = 0 := by simp; omega
  rw [e2, e, List.replicate_succ, List.set_cons_zero, List.append_assoc]
  simp [h]
abbrev preCopy : HL [.sl (.int .u8)] → Prop := fun (b, _) => List.length b ≤ 281474976710656
abbrev outCopy : HL [.sl (.int .u8)] → HO [.own (.int .u8)] := fun (b, _) => (b, ())
theorem fn_copy : FnOk Tryd.prog 11 [.sl (.int .u8)] [.own (.int .u8)] noG preCopy outCopy := by
  have hsp : SpecsOk Tryd.prog (sps []) := sps_nil
  refine fn_of_tr (sp := sps []) ent_copy (by decide) (by decide) (by kernel_rfl) ?_
  rintro w M0 ⟨b, ⟨⟩⟩
  revert b
  intro (b : List Int) _ hl
  have hl : b.length ≤ 281474976710656 := hl
  show Tr _ _ _ _ _ _ _
  refine tr_cut hsp mixed 3 (cpI b (0, List.replicate (b.length : Int).toNat 0)) True ?_ (fun _ => ?_)
  · refine vcx (X := ((0 ≤ (b.length : Int) ∧ (b.length : Int) ≤ (b.length : Int) ∧ ((1 : Nat) : Int) * (b.length : Int) ≤ 281474976710656 ∧ (b.length : Int) ≤ 9223372036854775807) ∧ (cpI b (0, List.replicate (b.length : Int).toNat 0)).triv True)) (by kernel_rfl) ?_
    exact ⟨⟨by omega, by omega, by omega, by omega⟩, triv_intro trivial⟩
  rw [show List.replicate (b.length : Int).toNat (0 : Int) = cpL b 0 by simp [cpL]]
  refine tr_count hsp mixed (cpI b) (fun k => ((k : Int), cpL b k)) b.length (fun g => (IntKind.i64.wrap (g.1 + 1), g.2.set g.1.toNat (b.getD g.1.toNat 0))) (cpI b) (c := nthC (codeOf Tryd.f11) 3) (by kernel_rfl) (by kernel_rfl) (le_of_proj (by kernel_rfl) (by kernel_rfl) trivial)
    (fun k hk => by show (_, _) = (_, _); rw [wrap_succ (by omega), Int.toNat_natCast, cpL_step hk]) ?_ ?_
  · intro k hk
    generalize cpL b k = xs
    refine vcx (X := ((decide ((k : Int) < (b.length : Int)) = true → (0 ≤ (k : Int) ∧ (k : Int) < (b.length : Int)) ∧ (k : Int).toNat < b.length ∧ (0 ≤ (k : Int) ∧ (k : Int) < ((b.length : Int).toNat : Int)) ∧ (k : Int).toNat < (b.length : Int).toNat ∧ (cpI b (IntKind.i64.wrap ((k : Int) + 1), xs.set (k : Int).toNat (b.getD (k : Int).toNat 0))).triv (k < b.length)) ∧
      (decide ((k : Int) < (b.length : Int)) = false → (cpI b ((k : Int), xs)).triv (k = b.length)))) (by kernel_rfl) ?_
    refine ⟨fun h => ?_, fun h => triv_intro (by have := dec_ge h; omega)⟩
    have hlt : k < b.length := by have := dec_lt h; omega
    exact ⟨⟨by omega, by omega⟩, by omega, ⟨by omega, by omega⟩, by omega, triv_intro hlt⟩
  · refine tr_vc hsp mixed _ _ ?_
    refine vcx (X := (0 + (b.length : Int).toNat ≤ (b.length : Int).toNat ∧ (((cpL b b.length).take (b.length : Int).toNat, ()) : List Int × Unit) = outCopy (b, ()))) (by kernel_rfl) ⟨by omega, ?_⟩
    simp [cpL, outCopy]
noncomputable def spCopy : Nat × Eng.Spec := (11, fnSpec [.sl (.int .u8)] [.own (.int .u8)] preCopy outCopy)
end Go.Proofs.YtbfimfdhmggieaaDoor.ref01
/- g1: the same contracts, for laws: what is computed is not unfolded; what it is on points of the curve. -/
namespace Go.Proofs.YtbfimfdhmggieaaDoor.g1
set_option maxRecDepth 100000
open Go Go.Eng Go.RowKit Cr Go.Proofs.YtbfimfdhmggieaaDoor
end Go.Proofs.YtbfimfdhmggieaaDoor.g1
/- g1: the group; scalars. -/
namespace Go.Proofs.YtbfimfdhmggieaaDoor.g1
set_option maxRecDepth 100000
open Go Go.Eng Go.RowKit Cr Go.Proofs.YtbfimfdhmggieaaDoor

def rN : Nat := 52435875175126190479447740508185965837690552500527637822603658699938581184513
theorem frv (x : Fr) : ∃ n : Nat, x.v = (n : Int) ∧ n < rN := by
  obtain ⟨n, hn⟩ := Int.eq_ofNat_of_zero_le x.nn
  exact ⟨n, hn, by have := x.lt; have e : Mr = (rN : Int) := rfl; omega⟩
end Go.Proofs.YtbfimfdhmggieaaDoor.g1
/- fp2.Read; g2: number, Gen. -/
namespace Go.Proofs.YtbfimfdhmggieaaDoor.fp2
set_option maxRecDepth 100000
open Go Go.Eng Go.RowKit Cr Go.Proofs.YtbfimfdhmggieaaDoor
end Go.Proofs.YtbfimfdhmggieaaDoor.fp2
namespace Go.Proofs.YtbfimfdhmggieaaDoor.g2
set_option maxRecDepth 100000
open Go Go.Eng Go.RowKit Cr Go.Proofs.YtbfimfdhmggieaaDoor Go.Proofs.YtbfimfdhmggieaaDoor.fp2
/-- Points of the second curve: (0, 0) is infinity. -/
abbrev pt2 : Kd := .pair f2 f2
end Go.Proofs.YtbfimfdhmggieaaDoor.g2
/- g2: points without a division. -/
namespace Go.Proofs.YtbfimfdhmggieaaDoor.g2
set_option maxRecDepth 100000
open Go Go.Eng Go.RowKit Cr Go.Proofs.YtbfimfdhmggieaaDoor Go.Proofs.YtbfimfdhmggieaaDoor.fp2
abbrev bk : Kd := .pair f2 (.pair f2 f2)
theorem eqP2 (a b : F2 × F2) : eqC (.pair (.pair .fp .fp) (.pair .fp .fp)) a b = decide (a = b) := by
  have h := eqC_iff (e := .pair (.pair .fp .fp) (.pair .fp .fp)) a b
  rw [Bool.eq_iff_iff, h, decide_eq_true_iff]

theorem ent_lift : enters Tryd.prog 91 Tryd.f91 := enters_mk (by kernel_rfl) (by kernel_rfl) (by kernel_rfl)
noncomputable abbrev outLift : HL [pt2] → HO [.val bk] := fun (p, _) => (jlift (F := F2) p, ())
theorem fn_lift : FnOk Tryd.prog 91 [pt2] [.val bk] noG (fun _ => True) outLift := by
  refine fn_of_vc (sp := sps [fp2.spSmall]) (sps_cons (fnSpec_ok fp2.fn_small) sps_nil) mixed ent_lift (by decide) (by decide) ?_
  rintro w M0 ⟨p, ⟨⟩⟩
  revert p
  intro (p : F2 × F2) _ _
  refine vcx (X := ((eqC ((Kd.fp.pair Kd.fp).pair (Kd.fp.pair Kd.fp)) p (((0 : Fp), (0 : Fp)), (0 : Fp), (0 : Fp)) = true → ((((0 : Fp), (0 : Fp)), ((0 : Fp), (0 : Fp)), (0 : Fp), (0 : Fp)), ()) = outLift (p, ())) ∧ (eqC ((Kd.fp.pair Kd.fp).pair (Kd.fp.pair Kd.fp)) p (((0 : Fp), (0 : Fp)), (0 : Fp), (0 : Fp)) = false → (U64 (1 : Int) ∧ U64 (0 : Int)) ∧ ((p.fst, p.snd, zmp (1 : Int), zmp (0 : Int)), ()) = outLift (p, ())))) (by kernel_rfl) ?_
  rw [eqP2]
  refine ⟨fun h => ?_, fun h => ⟨⟨by constructor <;> decide, by constructor <;> decide⟩, ?_⟩⟩
  · show _ = (jlift p, ())
    unfold jlift
    rw [if_pos (show p = O2 from of_decide_eq_true h)]; rfl
  · show _ = (jlift p, ())
    unfold jlift
    rw [if_neg (show ¬ p = O2 from of_decide_eq_false h)]; rfl
noncomputable def spLift : Nat × Eng.Spec := (91, fnSpec [pt2] [.val bk] (fun _ => True) outLift)

theorem ent_point : enters Tryd.prog 94 Tryd.f94 := enters_mk (by kernel_rfl) (by kernel_rfl) (by kernel_rfl)
noncomputable abbrev outPoint : HL [bk] → HO [.val pt2] := fun (a, _) => (jpoint (F := F2) a, ())
theorem fn_point : FnOk Tryd.prog 94 [bk] [.val pt2] noG (fun _ => True) outPoint := by
  refine fn_of_vc (sp := sps [fp2.spZero, fp2.spInv, fp2.spSquare, fp2.spMul]) (sps_cons (fnSpec_ok fp2.fn_zero) (sps_cons (fnSpec_ok fp2.fn_inv) (sps_cons (fnSpec_ok fp2.fn_square) (sps_cons (fnSpec_ok fp2.fn_mul) sps_nil)))) mixed ent_point (by decide) (by decide) ?_
  rintro w M0 ⟨a, ⟨⟩⟩
  revert a
  intro (a : F2 × F2 × F2) _ _
  refine vcx (X := (True ∧ (decide (a.2.2 = 0) = true → (((0 : F2), (0 : F2)), ()) = outPoint (a, ())) ∧ (decide (a.2.2 = 0) = false → Trs 5 (((a.1 * (inv2 a.2.2 * inv2 a.2.2), a.2.1 * (inv2 a.2.2 * inv2 a.2.2) * inv2 a.2.2), ()) = outPoint (a, ()))))) (by kernel_rfl) ?_
  refine ⟨trivial, fun h => ?_, fun h => trs ?_ _⟩
  · show _ = (jpoint a, ())
    unfold jpoint
    rw [if_pos (of_decide_eq_true h)]
  · show _ = (jpoint a, ())
    unfold jpoint
    rw [if_neg (of_decide_eq_false h)]
    rfl
noncomputable def spPoint : Nat × Eng.Spec := (94, fnSpec [bk] [.val pt2] (fun _ => True) outPoint)

theorem ent_double : enters Tryd.prog 93 Tryd.f93 := enters_mk (by kernel_rfl) (by kernel_rfl) (by kernel_rfl)
noncomputable abbrev outDouble : HL [bk] → HO [.val bk] := fun (a, _) => (jdbl (F := F2) a, ())
theorem fn_double : FnOk Tryd.prog 93 [bk] [.val bk] noG (fun _ => True) outDouble := by
  refine fn_of_vc (sp := sps [fp2.spZero, fp2.spAdd, fp2.spSub, fp2.spSquare, fp2.spMul]) (sps_cons (fnSpec_ok fp2.fn_zero) (sps_cons (fnSpec_ok fp2.fn_add) (sps_cons (fnSpec_ok fp2.fn_sub) (sps_cons (fnSpec_ok fp2.fn_square) (sps_cons (fnSpec_ok fp2.fn_mul) sps_nil))))) mixed ent_double (by decide) (by decide) ?_
  rintro w M0 ⟨a, ⟨⟩⟩
  revert a
  intro (a : F2 × F2 × F2) _ _
  refine vcx (X := (True ∧ (decide (a.2.2 = 0) = true → (((0 : F2), (0 : F2), (0 : F2)), ()) = outDouble (a, ())) ∧ (decide (a.2.2 = 0) = false → Trs 18 ((jdbN a, ()) = outDouble (a, ()))))) (by kernel_rfl) ?_
  refine ⟨trivial, fun h => ?_, fun h => trs ?_ _⟩
  · show _ = (jdbl a, ())
    unfold jdbl
    rw [if_pos (of_decide_eq_true h)]
  · show _ = (jdbl a, ())
    unfold jdbl
    rw [if_neg (of_decide_eq_false h)]
noncomputable def spDouble : Nat × Eng.Spec := (93, fnSpec [bk] [.val bk] (fun _ => True) outDouble)

theorem ent_add : enters Tryd.prog 92 Tryd.f92 := enters_mk (by kernel_rfl) (by kernel_rfl) (by kernel_rfl)
noncomputable abbrev outAdd : HL [bk, bk] → HO [.val bk] := fun (a, b, _) => (jadd (F := F2) a b, ())
noncomputable abbrev wd (a b : F2 × F2 × F2) : F2 := b.1 * (a.2.2 * a.2.2) - a.1 * (b.2.2 * b.2.2)
noncomputable abbrev rs (a b : F2 × F2 × F2) : F2 := b.2.1 * (a.2.2 * a.2.2) * a.2.2 - a.2.1 * (b.2.2 * b.2.2) * b.2.2
theorem fn_add : FnOk Tryd.prog 92 [bk, bk] [.val bk] noG (fun _ => True) outAdd := by
  refine fn_of_vc (sp := sps [fp2.spZero, fp2.spSub, fp2.spSquare, fp2.spMul, spDouble]) (sps_cons (fnSpec_ok fp2.fn_zero) (sps_cons (fnSpec_ok fp2.fn_sub) (sps_cons (fnSpec_ok fp2.fn_square) (sps_cons (fnSpec_ok fp2.fn_mul) (sps_cons (fnSpec_ok fn_double) sps_nil))))) mixed ent_add (by decide) (by decide) ?_
  rintro w M0 ⟨a, b, ⟨⟩⟩
  revert a b
  intro (a : F2 × F2 × F2) (b : F2 × F2 × F2) _ _
  refine vcx (X := (True ∧ (decide (a.2.2 = 0) = true → (b, ()) = outAdd (a, b, ())) ∧ (decide (a.2.2 = 0) = false → True ∧ (decide (b.2.2 = 0) = true → (a, ()) = outAdd (a, b, ())) ∧ (decide (b.2.2 = 0) = false →
    Trs 11 ((decide (wd a b = 0) = true → True ∧ (decide (rs a b = 0) = true → True ∧ (jdbl (F := F2) a, ()) = outAdd (a, b, ())) ∧ (decide (rs a b = 0) = false → (((0 : F2), (0 : F2), (0 : F2)), ()) = outAdd (a, b, ()))) ∧
      (decide (wd a b = 0) = false → Trs 13 ((jfin (F := F2) (wd a b) (rs a b) (a.1 * (b.2.2 * b.2.2)) (a.2.1 * (b.2.2 * b.2.2) * b.2.2) a.2.2 b.2.2, ()) = outAdd (a, b, ())))))))) (by kernel_rfl) ?_
  refine ⟨trivial, fun h => ?_, fun h => ⟨trivial, fun h2 => ?_, fun h2 => trs ⟨fun h3 => ⟨trivial, fun h4 => ⟨trivial, ?_⟩, fun h4 => ?_⟩, fun h3 => trs ?_ _⟩ _⟩⟩
  all_goals show _ = (jadd a b, ())
  all_goals unfold jadd
  · rw [if_pos (of_decide_eq_true h)]
  · rw [if_neg (of_decide_eq_false h), if_pos (of_decide_eq_true h2)]
  · rw [if_neg (of_decide_eq_false h), if_neg (of_decide_eq_false h2), if_pos (of_decide_eq_true h3), if_pos (of_decide_eq_true h4)]
  · rw [if_neg (of_decide_eq_false h), if_neg (of_decide_eq_false h2), if_pos (of_decide_eq_true h3), if_neg (of_decide_eq_false h4)]
  · rw [if_neg (of_decide_eq_false h), if_neg (of_decide_eq_false h2), if_neg (of_decide_eq_false h3)]
noncomputable def spAdd : Nat × Eng.Spec := (92, fnSpec [bk, bk] [.val bk] (fun _ => True) outAdd)
end Go.Proofs.YtbfimfdhmggieaaDoor.g2
/- g2: Sum, Add, Neg, On. -/
namespace Go.Proofs.YtbfimfdhmggieaaDoor.g2
set_option maxRecDepth 100000
open Go Go.Eng Go.RowKit Cr Go.Proofs.YtbfimfdhmggieaaDoor Go.Proofs.YtbfimfdhmggieaaDoor.fp2

abbrev bc (s : F2 × F2 × F2) : List Cell := [.row .fp 1 [s.1.1], .row .fp 1 [s.1.2], .row .fp 1 [s.2.1.1], .row .fp 1 [s.2.1.2], .row .fp 1 [s.2.2.1], .row .fp 1 [s.2.2.2]]
abbrev pc (s : F2 × F2) : List Cell := [.row .fp 1 [s.1.1], .row .fp 1 [s.1.2], .row .fp 1 [s.2.1], .row .fp 1 [s.2.2]]
theorem ent_sum : enters Tryd.prog 89 Tryd.f89 := enters_mk (by kernel_rfl) (by kernel_rfl) (by kernel_rfl)
noncomputable def sumI (ps : List (F2 × F2)) (g : Int × (F2 × F2 × F2)) : St := mkSt Tryd.f89.ntmps 40 [(2, .is (.one (.ptr 0 0))), (3, .is (.one (.ptr 8 0))), (6, .is (.one (.ro pt2 ps))), (7, sI .i64 ps.length), (8, sI .i64 g.1)] [(8, bc g.2), (0, pc (0, 0))]
noncomputable def sumN (ps : List (F2 × F2)) (g : Int × (F2 × F2 × F2)) : Int × (F2 × F2 × F2) := (IntKind.i64.wrap (g.1 + 1), jadd (F := F2) g.2 (jlift (F := F2) (ps.getD g.1.toNat (0, 0))))
abbrev preSum : HL [.sl pt2] → Prop := fun (ps, _) => List.length ps < 4611686018427387904
noncomputable abbrev outSum : HL [.sl pt2] → HO [.val pt2] := fun (ps, _) => (jpoint (F := F2) (jsm ps (List.length ps)), ())
theorem fn_sum : FnOk Tryd.prog 89 [.sl pt2] [.val pt2] noG preSum outSum := by
  have hsp : SpecsOk Tryd.prog (sps [spLift, spAdd, spPoint]) := sps_cons (fnSpec_ok fn_lift) (sps_cons (fnSpec_ok fn_add) (sps_cons (fnSpec_ok fn_point) sps_nil))
  refine fn_of_tr (sp := sps [spLift, spAdd, spPoint]) ent_sum (by decide) (by decide) (by kernel_rfl) ?_
  rintro w M0 ⟨ps, ⟨⟩⟩
  revert ps
  intro (ps : List (F2 × F2)) _ hl
  have hl : ps.length < 4611686018427387904 := hl
  show Tr _ _ _ _ _ _ _
  refine tr_cut hsp mixed 3 (sumI ps (0, jsm ps 0)) True ?_ (fun _ => ?_)
  · exact vcx (X := (sumI ps (0, jsm ps 0)).triv True) (by kernel_rfl) (triv_intro trivial)
  refine tr_count hsp mixed (sumI ps) (fun k => ((k : Int), jsm ps k)) ps.length (sumN ps) (sumI ps) (c := nthC (codeOf Tryd.f89) 3) (by kernel_rfl) (by kernel_rfl) (le_of_proj (by kernel_rfl) (by kernel_rfl) trivial)
    (fun k hk => by show (_, _) = (_, _); rw [wrap_succ (by omega)]; rfl) ?_ ?_
  · intro k hk
    generalize hs : jsm ps k = s
    refine vcx (X := ((decide ((k : Int) < (ps.length : Int)) = true → (0 ≤ (k : Int) ∧ (k : Int) < (ps.length : Int)) ∧ (k : Int).toNat < ps.length ∧ True ∧ True ∧ (sumI ps (sumN ps ((k : Int), s))).triv (k < ps.length)) ∧
      (decide ((k : Int) < (ps.length : Int)) = false → (sumI ps ((k : Int), s)).triv (k = ps.length)))) (by kernel_rfl) ?_
    refine ⟨fun h => ?_, fun h => triv_intro (by have := dec_ge h; omega)⟩
    have hlt : k < ps.length := by have := dec_lt h; omega
    exact ⟨⟨by omega, by omega⟩, by omega, trivial, trivial, triv_intro hlt⟩
  · refine tr_vc hsp mixed _ _ ?_
    exact vcx (X := (True ∧ (jpoint (F := F2) (jsm ps ps.length), ()) = outSum (ps, ()))) (by kernel_rfl) ⟨trivial, rfl⟩
noncomputable def spSum : Nat × Eng.Spec := (89, fnSpec [.sl pt2] [.val pt2] preSum outSum)

theorem ent_padd : enters Tryd.prog 38 Tryd.f38 := enters_mk (by kernel_rfl) (by kernel_rfl) (by kernel_rfl)
noncomputable abbrev outPAdd : HL [pt2, pt2] → HO [.val pt2] := fun (p, q, _) => (jpoint (F := F2) (jsm [p, q] 2), ())
theorem fn_padd : FnOk Tryd.prog 38 [pt2, pt2] [.val pt2] noG (fun _ => True) outPAdd := by
  refine fn_of_vc (sp := sps [spSum]) (sps_cons (fnSpec_ok fn_sum) sps_nil) mixed ent_padd (by decide) (by decide) ?_
  rintro w M0 ⟨p, q, ⟨⟩⟩
  revert p q
  intro (p : F2 × F2) (q : F2 × F2) _ _
  refine vcx (X := ((0 + 2 : Nat) ≤ 2 ∧ preSum ([p, q], ()) ∧ outSum ([p, q], ()) = outPAdd (p, q, ()))) (by kernel_rfl) ?_
  exact ⟨by decide, show (2 : Nat) < 4611686018427387904 by decide, rfl⟩
theorem ent_pneg : enters Tryd.prog 27 Tryd.f27 := enters_mk (by kernel_rfl) (by kernel_rfl) (by kernel_rfl)
noncomputable abbrev outPNeg : HL [pt2] → HO [.val pt2] := fun (p, _) => (pneg (F := F2) p, ())
theorem fn_pneg : FnOk Tryd.prog 27 [pt2] [.val pt2] noG (fun _ => True) outPNeg := by
  refine fn_of_vc (sp := sps [fp2.spNeg]) (sps_cons (fnSpec_ok fp2.fn_neg) sps_nil) mixed ent_pneg (by decide) (by decide) ?_
  rintro w M0 ⟨p, ⟨⟩⟩
  revert p
  intro (p : F2 × F2) _ _
  exact vcx (X := (True ∧ (((p.1, -p.2), ()) = outPNeg (p, ())))) (by kernel_rfl) ⟨trivial, rfl⟩
noncomputable def spPNeg : Nat × Eng.Spec := (27, fnSpec [pt2] [.val pt2] (fun _ => True) outPNeg)

/-- The curve: y^2 = x^3 + 4 + 4 i. -/
def b4 : F2 := (zm 4, zm 4)
theorem ent_on : enters Tryd.prog 25 Tryd.f25 := enters_mk (by kernel_rfl) (by kernel_rfl) (by kernel_rfl)
noncomputable def isOn (p : F2 × F2) : Bool := decide (p = ((0 : F2), (0 : F2))) || decide (p.2 * p.2 = p.1 * p.1 * p.1 + b4)
theorem isOn_iff (p : F2 × F2) : isOn p = true ↔ OnP b4 p := by
  unfold isOn OnP On
  simp
noncomputable abbrev outOn : HL [pt2] → HO [.val .bool] := fun (p, _) => (isOn p, ())
theorem fn_on : FnOk Tryd.prog 25 [pt2] [.val .bool] noG (fun _ => True) outOn := by
  refine fn_of_vc (sp := sps [fp2.spSquare, fp2.spMul, fp2.spSmall, fp2.spAdd]) (sps_cons (fnSpec_ok fp2.fn_square) (sps_cons (fnSpec_ok fp2.fn_mul) (sps_cons (fnSpec_ok fp2.fn_small) (sps_cons (fnSpec_ok fp2.fn_add) sps_nil)))) mixed ent_on (by decide) (by decide) ?_
  rintro w M0 ⟨p, ⟨⟩⟩
  revert p
  intro (p : F2 × F2) _ _
  refine vcx (X := ((eqC ((Kd.fp.pair Kd.fp).pair (Kd.fp.pair Kd.fp)) p (((0 : Fp), (0 : Fp)), (0 : Fp), (0 : Fp)) = true → (true, ()) = outOn (p, ())) ∧ (eqC ((Kd.fp.pair Kd.fp).pair (Kd.fp.pair Kd.fp)) p (((0 : Fp), (0 : Fp)), (0 : Fp), (0 : Fp)) = false → True ∧ True ∧ True ∧ (U64 (4 : Int) ∧ U64 (4 : Int)) ∧ True ∧ (eqC (Kd.fp.pair Kd.fp) (p.snd * p.snd) (p.fst * p.fst * p.fst + (zmp (4 : Int), zmp (4 : Int))), ()) = outOn (p, ())))) (by kernel_rfl) ?_
  rw [eqP2]
  refine ⟨fun h => ?_, fun h => ⟨trivial, trivial, trivial, ⟨by constructor <;> decide, by constructor <;> decide⟩, trivial, ?_⟩⟩
  · show _ = (isOn p, ())
    rw [isOn, show decide (p = ((0 : F2), (0 : F2))) = true from h, Bool.true_or]
  · show _ = (isOn p, ())
    rw [isOn, show decide (p = ((0 : F2), (0 : F2))) = false from h, Bool.false_or, eqF2]
    rfl
noncomputable def spOn : Nat × Eng.Spec := (25, fnSpec [pt2] [.val .bool] (fun _ => True) outOn)
end Go.Proofs.YtbfimfdhmggieaaDoor.g2
/- g2: Times. -/
namespace Go.Proofs.YtbfimfdhmggieaaDoor.g2
set_option maxRecDepth 100000
open Go Go.Eng Go.RowKit Cr Go.Proofs.YtbfimfdhmggieaaDoor Go.Proofs.YtbfimfdhmggieaaDoor.fp2

abbrev Jp := F2 × F2 × F2
noncomputable def tmI (k : List Int) (o : Jp) (g : Int × List Jp) : St := mkSt Tryd.f37.ntmps 64 [(1, .is (.one (.ro (.int .u8) k))), (4, .is (.one (.ptr 8 0))), (5, .is (.one (.ptr 16 0))), (6, .is (.one (.ptr 40 0))), (15, sI .i64 g.1)] [(40, bc o), (16, [.row bk 16 g.2]), (8, pc (0, 0))]
noncomputable def tmS (k : List Int) (tb : List Jp) (s : Jp) (nx : Nat) (xs : List (Nat × SV)) : St := mkSt Tryd.f37.ntmps nx ([(4, .is (.one (.ptr 8 0))), (5, .is (.one (.ptr 16 0))), (8, .is (.one (.ptr 64 0))), (27, .is (.one (.ro (.int .u8) k))), (28, sI .i64 k.length)] ++ xs) [(64, bc s), (16, [.row bk 16 tb]), (8, pc (0, 0))]
noncomputable abbrev tmJ (k : List Int) (tb : List Jp) (g : Int × Jp) : St := tmS k tb g.2 96 [(29, sI .i64 g.1)]
noncomputable abbrev tmK (k : List Int) (tb : List Jp) (i : Int) (ds : List Int) (g : Int × Jp) : St := tmS k tb g.2 168 [(29, sI .i64 i), (37, .is (.agg [.ints .u8 2 ds])), (38, sI .i64 g.1)]
noncomputable abbrev tmL (k : List Int) (tb : List Jp) (i : Int) (ds : List Int) (j d : Int) (g : Int × Jp) : St := tmS k tb g.2 184 [(29, sI .i64 i), (37, .is (.agg [.ints .u8 2 ds])), (38, sI .i64 j), (12, sI .u8 d), (41, sI .i64 g.1)]

theorem ent_times : enters Tryd.prog 37 Tryd.f37 := enters_mk (by kernel_rfl) (by kernel_rfl) (by kernel_rfl)
abbrev preTimes : HL [pt2, .sl (.int .u8)] → Prop := fun (_, k, _) => Bs k ∧ List.length k < 4611686018427387904
noncomputable abbrev outTimes : HL [pt2, .sl (.int .u8)] → HO [.val pt2] := fun (p, k, _) => (jpoint (F := F2) (jtm (tabAt (jt (jlift (F := F2) p)) (0, 0, 0) 15) k (List.length k)), ())
theorem fn_times : FnOk Tryd.prog 37 [pt2, .sl (.int .u8)] [.val pt2] noG preTimes outTimes := by
  have hsp : SpecsOk Tryd.prog (sps [spLift, spAdd, spPoint, spDouble]) := sps_cons (fnSpec_ok fn_lift) (sps_cons (fnSpec_ok fn_add) (sps_cons (fnSpec_ok fn_point) (sps_cons (fnSpec_ok fn_double) sps_nil)))
  refine fn_of_tr (sp := sps [spLift, spAdd, spPoint, spDouble]) ent_times (by decide) (by decide) (by kernel_rfl) ?_
  rintro w M0 ⟨p, k, ⟨⟩⟩
  revert p k
  intro (p : F2 × F2) (k : List Int) _ hp
  obtain ⟨hk, hl⟩ := hp
  have hk : Bs k := hk
  have hl : k.length < 4611686018427387904 := hl
  show Tr _ _ _ _ _ _ _
  refine tr_cut hsp mixed 4 (tmI k (jlift (F := F2) p) (0, tabAt (jt (jlift (F := F2) p)) (0, 0, 0) 0)) True ?_ (fun _ => ?_)
  · exact vcx (X := (True ∧ (tmI k (jlift (F := F2) p) (0, tabAt (jt (jlift (F := F2) p)) (0, 0, 0) 0)).triv True)) (by kernel_rfl) ⟨trivial, triv_intro trivial⟩
  generalize ho : jlift (F := F2) p = o
  refine tr_count hsp mixed (tmI k o) (fun n => ((n : Int), tabAt (jt o) (0, 0, 0) n)) 15 (fun g => (IntKind.i64.wrap (g.1 + 1), g.2.set (IntKind.i64.wrap (g.1 + 1)).toNat (jadd (F := F2) (g.2.getD g.1.toNat (0, 0, 0)) o))) (tmI k o) (c := nthC (codeOf Tryd.f37) 4) (by kernel_rfl) (by kernel_rfl) (le_of_proj (by kernel_rfl) (by kernel_rfl) trivial)
    (fun n hn => by
      show (_, _) = (_, _)
      rw [wrap_succ (by omega), Int.toNat_natCast, Int.toNat_natCast, tabAt_get _ _ _ (Nat.le_refl n) (by omega), show jadd (F := F2) (jt o n) o = jt o (n + 1) from rfl, tabAt_set]) ?_ ?_
  · intro n hn
    generalize tabAt (jt o) (0, 0, 0) n = tb
    refine vcx (X := ((decide ((n : Int) < 15) = true → (0 ≤ (n : Int) ∧ (n : Int) < ((16 : Nat) : Int)) ∧ (n : Int).toNat < 16 ∧ True ∧ (0 ≤ IntKind.i64.wrap ((n : Int) + 1) ∧ IntKind.i64.wrap ((n : Int) + 1) < ((16 : Nat) : Int)) ∧ (IntKind.i64.wrap ((n : Int) + 1)).toNat < 16 ∧
        (tmI k o (IntKind.i64.wrap ((n : Int) + 1), tb.set (IntKind.i64.wrap ((n : Int) + 1)).toNat (jadd (F := F2) (tb.getD (n : Int).toNat (0, 0, 0)) o))).triv (n < 15)) ∧
      (decide ((n : Int) < 15) = false → (tmI k o ((n : Int), tb)).triv (n = 15)))) (by kernel_rfl) ?_
    refine ⟨fun h => ?_, fun h => triv_intro (by have := dec_ge h; omega)⟩
    have hlt : n < 15 := by have := dec_lt h; omega
    rw [wrap_succ (by omega)]
    exact ⟨⟨by omega, by omega⟩, by omega, trivial, ⟨by omega, by omega⟩, by omega, triv_intro hlt⟩
  subst ho
  show Tr _ _ _ _ _ _ _
  generalize htb : tabAt (jt (jlift (F := F2) p)) (0, 0, 0) 15 = tb
  refine tr_cut hsp mixed 2 (tmJ k tb (0, jtm tb k 0)) True ?_ (fun _ => ?_)
  · exact vcx (X := (tmJ k tb (0, jtm tb k 0)).triv True) (by kernel_rfl) (triv_intro trivial)
  refine tr_countT (tmJ k tb) (fun i => ((i : Int), jtm tb k i)) k.length (fun g => (IntKind.i64.wrap (g.1 + 1), jby tb g.2 (k.getD g.1.toNat 0))) (tmJ k tb) (c := nthC (codeOf Tryd.f37) 7) (by kernel_rfl) (by kernel_rfl) (le_of_proj (by kernel_rfl) (by kernel_rfl) trivial)
    (fun i hi => by show (_, _) = (_, _); rw [wrap_succ (by omega), Int.toNat_natCast]; rfl) ?_ ?_
  · intro i hi
    generalize jtm tb k i = s
    refine tr_cut hsp mixed 2 (tmJ k tb ((i : Int), s)) (i < k.length) ?_ (fun hlt => ?_)
    · refine vcx (X := ((decide ((i : Int) < (k.length : Int)) = true → (tmJ k tb ((i : Int), s)).triv (i < k.length)) ∧ (decide ((i : Int) < (k.length : Int)) = false → (tmJ k tb ((i : Int), s)).triv (i = k.length)))) (by kernel_rfl) ?_
      exact ⟨fun h => triv_intro (by have := dec_lt h; omega), fun h => triv_intro (by have := dec_ge h; omega)⟩
    have hb : 0 ≤ k.getD i 0 ∧ k.getD i 0 < 256 := by
      have : k.getD i 0 ∈ k := by rw [List.getD_eq_getElem?_getD, List.getElem?_eq_getElem hlt]; exact List.getElem_mem hlt
      exact hk _ this
    have hbi : k.getD (i : Int).toNat 0 = k.getD i 0 := by rw [Int.toNat_natCast]
    generalize hbb : k.getD i 0 = b at hb hbi
    obtain ⟨_, d1, d2⟩ := dh_ok hb.1 hb.2
    obtain ⟨_, d3, d4⟩ := dl_ok hb.1 hb.2
    refine tr_block (c := nthC (loopOf (nthC (codeOf Tryd.f37) 7)) 2) (by kernel_rfl) (by kernel_rfl) ?_
    refine tr_cut hsp mixed 2 (tmK k tb (i : Int) [dh (k.getD (i : Int).toNat 0), dl (k.getD (i : Int).toNat 0)] (0, jsd tb [dh b, dl b] s 0)) True ?_ (fun _ => ?_)
    · refine vcx (X := ((0 ≤ (i : Int) ∧ (i : Int) < (k.length : Int)) ∧ (i : Int).toNat < k.length ∧ (0 : Int) ≤ 4 ∧ (tmK k tb (i : Int) [dh (k.getD (i : Int).toNat 0), dl (k.getD (i : Int).toNat 0)] (0, jsd tb [dh b, dl b] s 0)).triv True)) (by kernel_rfl) ?_
      exact ⟨⟨by omega, by omega⟩, by omega, by decide, triv_intro trivial⟩
    rw [hbi]
    generalize hds : [dh b, dl b] = ds
    have hdd : ∀ j, j < 2 → 0 ≤ ds.getD j 0 ∧ ds.getD j 0 < 16 := by
      intro j hj
      subst hds
      match j, hj with
      | 0, _ => exact ⟨d1, d2⟩
      | 1, _ => exact ⟨d3, d4⟩
    refine tr_countT (tmK k tb (i : Int) ds) (fun j => ((j : Int), jsd tb ds s j)) 2 (fun g => (IntKind.i64.wrap (g.1 + 1), jst tb g.2 (ds.getD g.1.toNat 0))) (tmK k tb (i : Int) ds) (c := nthC (bodyOf (nthC (loopOf (nthC (codeOf Tryd.f37) 7)) 2)) 2) (by kernel_rfl) (by kernel_rfl) (le_of_proj (by kernel_rfl) (by kernel_rfl) trivial)
      (fun j hj => by show (_, _) = (_, _); rw [wrap_succ (by omega), Int.toNat_natCast]; rfl) ?_ ?_
    · intro j hj
      generalize jsd tb ds s j = y
      refine tr_cut hsp mixed 2 (tmK k tb (i : Int) ds ((j : Int), y)) (j < 2) ?_ (fun hj2 => ?_)
      · refine vcx (X := ((decide ((j : Int) < 2) = true → (tmK k tb (i : Int) ds ((j : Int), y)).triv (j < 2)) ∧ (decide ((j : Int) < 2) = false → (tmK k tb (i : Int) ds ((j : Int), y)).triv (j = 2)))) (by kernel_rfl) ?_
        exact ⟨fun h => triv_intro (by have := dec_lt h; omega), fun h => triv_intro (by have := dec_ge h; omega)⟩
      have hd := hdd j hj2
      have hdj : ds.getD (j : Int).toNat 0 = ds.getD j 0 := by rw [Int.toNat_natCast]
      generalize ds.getD j 0 = d at hd hdj
      refine tr_block (c := nthC (loopOf (nthC (bodyOf (nthC (loopOf (nthC (codeOf Tryd.f37) 7)) 2)) 2)) 2) (by kernel_rfl) (by kernel_rfl) ?_
      refine tr_cut hsp mixed 2 (tmL k tb (i : Int) ds (j : Int) (ds.getD (j : Int).toNat 0) (0, jdn y 0)) True ?_ (fun _ => ?_)
      · refine vcx (X := ((0 ≤ (j : Int) ∧ (j : Int) < ((2 : Nat) : Int)) ∧ (tmL k tb (i : Int) ds (j : Int) (ds.getD (j : Int).toNat 0) (0, jdn y 0)).triv True)) (by kernel_rfl) ?_
        exact ⟨⟨by omega, by omega⟩, triv_intro trivial⟩
      rw [hdj]
      refine tr_count hsp mixed (tmL k tb (i : Int) ds (j : Int) d) (fun n => ((n : Int), jdn y n)) 4 (fun g => (IntKind.i64.wrap (g.1 + 1), jdbl (F := F2) g.2)) (tmL k tb (i : Int) ds (j : Int) d) (c := nthC (bodyOf (nthC (loopOf (nthC (bodyOf (nthC (loopOf (nthC (codeOf Tryd.f37) 7)) 2)) 2)) 2)) 2) (by kernel_rfl) (by kernel_rfl) (le_of_proj (by kernel_rfl) (by kernel_rfl) trivial)
        (fun n hn => by show (_, _) = (_, _); rw [wrap_succ (by omega)]; rfl) ?_ ?_
      · intro n hn
        generalize jdn y n = z
        refine vcx (X := ((decide ((n : Int) < 4) = true → True ∧ (tmL k tb (i : Int) ds (j : Int) d (IntKind.i64.wrap ((n : Int) + 1), jdbl (F := F2) z)).triv (n < 4)) ∧ (decide ((n : Int) < 4) = false → (tmL k tb (i : Int) ds (j : Int) d ((n : Int), z)).triv (n = 4)))) (by kernel_rfl) ?_
        exact ⟨fun h => ⟨trivial, triv_intro (by have := dec_lt h; omega)⟩, fun h => triv_intro (by have := dec_ge h; omega)⟩
      refine tr_cut hsp mixed 1 (tmK k tb (i : Int) ds ((j : Int), jst tb y d)) True ?_ (fun _ => ?_)
      · refine vcx (X := ((0 ≤ d ∧ d < ((16 : Nat) : Int)) ∧ d.toNat < 16 ∧ True ∧ (tmK k tb (i : Int) ds ((j : Int), jst tb y d)).triv True)) (by kernel_rfl) ?_
        exact ⟨⟨hd.1, by omega⟩, by omega, trivial, triv_intro trivial⟩
      refine tr_nil ?_
      refine tr_vc hsp mixed _ _ ?_
      exact vcx (X := (tmK k tb (i : Int) ds (IntKind.i64.wrap ((j : Int) + 1), jst tb y d)).triv (j < 2)) (by kernel_rfl) (triv_intro hj2)
    refine tr_nil ?_
    refine tr_vc hsp mixed _ _ ?_
    have ey : jby tb s b = jsd tb ds s 2 := by unfold jby; rw [hds]
    show VC _ _ _ (fun σ' => σ'.le _ (tmJ k tb (IntKind.i64.wrap ((i : Int) + 1), jby tb s b)) (i < k.length)) _ _
    rw [ey]
    generalize jsd tb ds s 2 = z
    exact vcx (X := (tmJ k tb (IntKind.i64.wrap ((i : Int) + 1), z)).triv (i < k.length)) (by kernel_rfl) (triv_intro hlt)
  · refine tr_vc hsp mixed _ _ ?_
    refine vcx (X := (True ∧ (jpoint (F := F2) (jtm tb k k.length), ()) = outTimes (p, k, ()))) (by kernel_rfl) ⟨trivial, ?_⟩
    show _ = (jpoint (F := F2) (jtm (tabAt (jt (jlift (F := F2) p)) (0, 0, 0) 15) k k.length), ())
    rw [htb]
noncomputable def spTimes : Nat × Eng.Spec := (37, fnSpec [pt2, .sl (.int .u8)] [.val pt2] preTimes outTimes)
end Go.Proofs.YtbfimfdhmggieaaDoor.g2
/- g2: Mul. -/
namespace Go.Proofs.YtbfimfdhmggieaaDoor.g2
set_option maxRecDepth 100000
open Go Go.Eng Go.RowKit Cr Go.Proofs.YtbfimfdhmggieaaDoor Go.Proofs.YtbfimfdhmggieaaDoor.fp2
noncomputable def tms (p : F2 × F2) (k : List Int) : F2 × F2 := jpoint (F := F2) (jtm (tabAt (jt (jlift (F := F2) p)) (0, 0, 0) 15) k (List.length k))
noncomputable def pml (p : F2 × F2) (k : Fr) : F2 × F2 := tms p (bytesN 32 k.v)
theorem ent_pmul : enters Tryd.prog 41 Tryd.f41 := enters_mk (by kernel_rfl) (by kernel_rfl) (by kernel_rfl)
noncomputable abbrev outPMul : HL [pt2, .fr] → HO [.val pt2] := fun (p, k, _) => (pml p k, ())
theorem fn_pmul : FnOk Tryd.prog 41 [pt2, .fr] [.val pt2] noG (fun _ => True) outPMul := by
  refine fn_of_vc (sp := sps [fr.spBytes, spTimes]) (sps_cons (fnSpec_ok fr.fn_bytes) (sps_cons (fnSpec_ok fn_times) sps_nil)) mixed ent_pmul (by decide) (by decide) ?_
  rintro w M0 ⟨p, k, ⟨⟩⟩
  revert p k
  intro (p : F2 × F2) (k : Fr) _ _
  refine vcx (X := (True ∧ (0 : Nat) + 32 ≤ 32 ∧ preTimes (p, (bytesN 32 k.v).take 32, ()) ∧ (tms p ((bytesN 32 k.v).take 32), ()) = outPMul (p, k, ()))) (by kernel_rfl) ?_
  rw [List.take_of_length_le (by rw [bytesN_length]; exact Nat.le_refl _)]
  exact ⟨trivial, by decide, ⟨bytesN_Bs _ _, by show (bytesN 32 k.v).length < _; rw [bytesN_length]; decide⟩, rfl⟩
noncomputable def spPMul : Nat × Eng.Spec := (41, fnSpec [pt2, .fr] [.val pt2] (fun _ => True) outPMul)

end Go.Proofs.YtbfimfdhmggieaaDoor.g2
/- g2: the same contracts, for laws: what is computed is not unfolded; what it is on points of the curve. -/
namespace Go.Proofs.YtbfimfdhmggieaaDoor.g2
set_option maxRecDepth 100000
open Go Go.Eng Go.RowKit Cr Go.Proofs.YtbfimfdhmggieaaDoor Go.Proofs.YtbfimfdhmggieaaDoor.fp2
theorem b4_ne : b4 ≠ 0 := fun h => absurd (congrArg Prod.fst h) (by decide)
noncomputable def gadd (p q : F2 × F2) : F2 × F2 := opq (jpoint (F := F2) (jsm [p, q] 2))
noncomputable def gsum (ps : List (F2 × F2)) : F2 × F2 := opq (jpoint (F := F2) (jsm ps ps.length))
noncomputable def gneg (p : F2 × F2) : F2 × F2 := opq (pneg (F := F2) p)
noncomputable def gtms (p : F2 × F2) (k : List Int) : F2 × F2 := opq (tms p k)
noncomputable def gmul (p : F2 × F2) (k : Fr) : F2 × F2 := opq (pml p k)
noncomputable def gon (p : F2 × F2) : Bool := opq (isOn p)

theorem fo_add : FnOk Tryd.prog 38 [pt2, pt2] [.val pt2] noG (fun _ => True) (fun (p, q, _) => (gadd p q, ())) := fn_padd.out fun (p, q, _) => by show (gadd p q, ()) = (_, ()); rw [gadd, opq_eq]
theorem fo_sum : FnOk Tryd.prog 89 [.sl pt2] [.val pt2] noG preSum (fun (ps, _) => (gsum ps, ())) := fn_sum.out fun (ps, _) => by show (gsum ps, ()) = (_, ()); rw [gsum, opq_eq]
theorem fo_neg : FnOk Tryd.prog 27 [pt2] [.val pt2] noG (fun _ => True) (fun (p, _) => (gneg p, ())) := fn_pneg.out fun (p, _) => by show (gneg p, ()) = (_, ()); rw [gneg, opq_eq]
theorem fo_times : FnOk Tryd.prog 37 [pt2, .sl (.int .u8)] [.val pt2] noG preTimes (fun (p, k, _) => (gtms p k, ())) := fn_times.out fun (p, k, _) => by show (gtms p k, ()) = (_, ()); rw [gtms, opq_eq]; rfl
theorem fo_mul : FnOk Tryd.prog 41 [pt2, .fr] [.val pt2] noG (fun _ => True) (fun (p, k, _) => (gmul p k, ())) := fn_pmul.out fun (p, k, _) => by show (gmul p k, ()) = (_, ()); rw [gmul, opq_eq]
theorem fo_on : FnOk Tryd.prog 25 [pt2] [.val .bool] noG (fun _ => True) (fun (p, _) => (gon p, ())) := fn_on.out fun (p, _) => by show (gon p, ()) = (_, ()); rw [gon, opq_eq]
noncomputable def soAdd : Nat × Eng.Spec := (38, fnSpec [pt2, pt2] [.val pt2] (fun _ => True) (fun (p, q, _) => (gadd p q, ())))
noncomputable def soSum : Nat × Eng.Spec := (89, fnSpec [.sl pt2] [.val pt2] preSum (fun (ps, _) => (gsum ps, ())))
noncomputable def soNeg : Nat × Eng.Spec := (27, fnSpec [pt2] [.val pt2] (fun _ => True) (fun (p, _) => (gneg p, ())))
noncomputable def soTimes : Nat × Eng.Spec := (37, fnSpec [pt2, .sl (.int .u8)] [.val pt2] preTimes (fun (p, k, _) => (gtms p k, ())))
noncomputable def soMul : Nat × Eng.Spec := (41, fnSpec [pt2, .fr] [.val pt2] (fun _ => True) (fun (p, k, _) => (gmul p k, ())))
noncomputable def soOn : Nat × Eng.Spec := (25, fnSpec [pt2] [.val .bool] (fun _ => True) (fun (p, _) => (gon p, ())))

abbrev Onb (p : F2 × F2) : Prop := OnP b4 p
theorem gadd_eq {p q : F2 × F2} (hp : Onb p) (hq : Onb q) : gadd p q = padd p q := by rw [gadd, opq_eq]; exact add_eq b4_ne hp hq
theorem gsum_eq {ps : List (F2 × F2)} (h : ∀ p ∈ ps, Onb p) : gsum ps = psum ps := by rw [gsum, opq_eq]; exact sum_eq b4_ne h
theorem gneg_eq (p : F2 × F2) : gneg p = pneg p := opq_eq _
theorem gtms_eq {p : F2 × F2} (hp : Onb p) {k : List Int} (hk : Bs k) : gtms p k = nmul p (num k).toNat := by rw [gtms, opq_eq]; exact times_eq b4_ne hp hk
theorem gmul_eq {p : F2 × F2} (hp : Onb p) (k : Fr) : gmul p k = nmul p k.v.toNat := by
  rw [gmul, opq_eq, pml, tms, times_eq b4_ne hp (bytesN_Bs _ _), num_bytesN 32 _ k.nn (Int.lt_trans k.lt (by decide))]
theorem gon_iff (p : F2 × F2) : gon p = true ↔ Onb p := by rw [gon, opq_eq]; exact isOn_iff p
end Go.Proofs.YtbfimfdhmggieaaDoor.g2
/- g2: the group; scalars. -/
namespace Go.Proofs.YtbfimfdhmggieaaDoor.g2
set_option maxRecDepth 100000
open Go Go.Eng Go.RowKit Cr Go.Proofs.YtbfimfdhmggieaaDoor Go.Proofs.YtbfimfdhmggieaaDoor.fp2

abbrev rN : Nat := g1.rN
/-- Points that come to nought r times. -/
def Sub (p : F2 × F2) : Prop := Onb p ∧ nmul p rN = O2
theorem sub_nmul {p : F2 × F2} (h : Sub p) (n : Nat) : Sub (nmul p n) := by
  refine ⟨nmul_on b4_ne h.1 n, ?_⟩
  rw [nmul_mul b4_ne h.1, Nat.mul_comm, ← nmul_mul b4_ne h.1, h.2, nmul_O]
theorem sub_gmul {p : F2 × F2} (h : Sub p) (k : Fr) : Sub (gmul p k) := by rw [gmul_eq h.1]; exact sub_nmul h _
theorem nmul_mod {p : F2 × F2} (h : Sub p) (m : Nat) : nmul p m = nmul p (m % rN) := by
  conv => lhs; rw [← Nat.div_add_mod m rN]
  rw [nmul_add b4_ne h.1, ← nmul_mul b4_ne h.1, h.2, nmul_O, O_add]
theorem frv (x : Fr) : ∃ n : Nat, x.v = (n : Int) ∧ n < rN := g1.frv x
theorem mul_of {p : F2 × F2} (h : Sub p) {x : Fr} {m : Nat} (hx : x.v = (m : Int) % (rN : Int)) : gmul p x = nmul p m := by
  rw [gmul_eq h.1, hx, nmul_mod h m, ← Int.natCast_emod, Int.toNat_natCast]
theorem mul_add {p : F2 × F2} (h : Sub p) (x y : Fr) : gmul p (x + y) = padd (gmul p x) (gmul p y) := by
  obtain ⟨m, hm, _⟩ := frv x
  obtain ⟨n, hn, _⟩ := frv y
  rw [mul_of h (x := x + y) (m := m + n) (by rw [add_v, hm, hn, Int.natCast_add]; rfl), gmul_eq h.1, gmul_eq h.1, hm, hn, Int.toNat_natCast, Int.toNat_natCast, nmul_add b4_ne h.1]
theorem mul_zero {p : F2 × F2} (h : Sub p) : gmul p 0 = O2 := by
  rw [gmul_eq h.1, zero_v]; rfl
theorem mul_one {p : F2 × F2} (h : Sub p) : gmul p 1 = p := by
  rw [gmul_eq h.1, one_v]; exact nmul_one
theorem mul_neg {p : F2 × F2} (h : Sub p) (x : Fr) : gmul p (-x) = pneg (gmul p x) := by
  have e : padd (gmul p x) (gmul p (-x)) = O2 := by rw [← mul_add h, Rg.add_neg, mul_zero h]
  have hx := (sub_gmul h x).1
  have hn := (sub_gmul h (-x)).1
  have := cancel b4_ne hx hn
  rw [e, add_O] at this
  exact this.symm
end Go.Proofs.YtbfimfdhmggieaaDoor.g2
/- pairing: the generators' value; what pairs of the groups' points make. -/
namespace Go.Proofs.YtbfimfdhmggieaaDoor.pairing
set_option maxRecDepth 100000
open Go Go.Eng Go.RowKit Cr Go.Proofs.YtbfimfdhmggieaaDoor Go.Proofs.YtbfimfdhmggieaaDoor.fp2 Go.Proofs.YtbfimfdhmggieaaDoor.tower

abbrev b1 : Fp := g1.b4
abbrev b2 : F2 := g2.b4
def rtv : V2 := vcj (rtN, rtN)
theorem rtv_eq : q2 rtv = rt1 := by
  obtain ⟨m, hm⟩ : ∃ m, m = fpP / 12 := ⟨_, rfl⟩
  have h1 : fpP / 6 = 2 * m + 1 := by rw [hm]; exact of_decide_eq_true (by kernel_rfl)
  have h2 : m = 2 * (2 * (fpP / 48)) + 2 + 1 := by rw [hm]; exact of_decide_eq_true (by kernel_rfl)
  have h3 : (zm (rtN : Int) : Fp) = pwn (1 + 1 : Fp) m := by
    rw [← zpow_pwn]
    refine Zm.ext ?_
    rw [zpow_two_v, ← npm_eq fpP 2 (of_decide_eq_true (by kernel_rfl)) 384 m (by rw [hm]; exact of_decide_eq_true (by kernel_rfl)), hm]
    exact of_decide_eq_true (by kernel_rfl)
  rw [rt1_eq rfl, xi_pw h1 h2, ← h3, rtv, q2_cj]; rfl

end Go.Proofs.YtbfimfdhmggieaaDoor.pairing
/- h2c: Clear. -/
namespace Go.Proofs.YtbfimfdhmggieaaDoor.h2c
set_option maxRecDepth 100000
open Go Go.Eng Go.RowKit Cr Go.Proofs.YtbfimfdhmggieaaDoor Go.Proofs.YtbfimfdhmggieaaDoor.fp2 Rg Fd
theorem inv_rt : inv2 tower.rt1 = ir := by
  refine inv2_u ?_
  have h : eqv (vmul irv pairing.rtv) (1, 0) = true := by kernel_rfl
  have h1 := eqv_ok h
  rw [q2_mul, q2_one, pairing.rtv_eq] at h1
  exact h1
theorem fo_root : FnOk Tryd.prog 86 [] [.val f2] noG (fun _ => True) (fun _ => (tower.rt1, ())) := tower.fn_root
noncomputable def soRoot : Nat × Eng.Spec := (86, fnSpec [] [.val f2] (fun _ => True) (fun _ => (tower.rt1, ())))
theorem ent_clr1 : enters Tryd.prog 87 Tryd.f87 := enters_mk (by kernel_rfl) (by kernel_rfl) (by kernel_rfl)
theorem fn_clr1 : FnOk Tryd.prog 87 [pt2, .ptr f2, .ptr f2] [.val pt2] noG (fun _ => True) (fun (q, s, c, _) => (((cjg q.1 * s, cjg q.2 * c) : F2 × F2), ())) := by
  refine fn_of_vc (sp := sps [fp2.spConj, fp2.spMul]) (sps_cons (fnSpec_ok fp2.fn_conj) (sps_cons (fnSpec_ok fp2.fn_mul) sps_nil)) mixed ent_clr1 (by decide) (by decide) ?_
  rintro w M0 ⟨q, s, c, ⟨⟩⟩
  revert q s c
  intro (q : F2 × F2) (s : F2) (c : F2) _ _
  refine vcx (X := (True ∧ (0 : Nat) < [s].length ∧ True ∧ True ∧ (0 : Nat) < [c].length ∧ True ∧ (((q.fst.fst, -q.fst.snd) * s, (q.snd.fst, -q.snd.snd) * c), ()) = ((cjg q.fst * s, cjg q.snd * c), ()))) (by kernel_rfl) ?_
  exact ⟨trivial, Nat.zero_lt_one, trivial, trivial, Nat.zero_lt_one, trivial, rfl⟩
noncomputable def spClr1 : Nat × Eng.Spec := (87, fnSpec [pt2, .ptr f2, .ptr f2] [.val pt2] (fun _ => True) (fun (q, s, c, _) => (((cjg q.1 * s, cjg q.2 * c) : F2 × F2), ())))
noncomputable def clo (p : F2 × F2) : F2 × F2 := opq (clr p)
theorem size_ok : Bs (List.take (8 : Nat) [(210 : Int), (1 : Int), (0 : Int), (0 : Int), (0 : Int), (1 : Int), (0 : Int), (0 : Int)]) := by
  intro x hx; simp at hx; omega
theorem clear_val {p : F2 × F2} (h : g2.Onb p) : g2.gsum (List.take 5 [g2.gtms (g2.gtms p (List.take 8 [210, 1, 0, 0, 0, 1, 0, 0])) (List.take 8 [210, 1, 0, 0, 0, 1, 0, 0]), g2.gtms p (List.take 8 [210, 1, 0, 0, 0, 1, 0, 0]), g2.gneg p, g2.gneg (tau (g2.gadd (g2.gtms p (List.take 8 [210, 1, 0, 0, 0, 1, 0, 0])) p)), tau (tau (g2.gadd p p))]) = clo p := by
  have hk : Bs [210, 1, 0, 0, 0, 1, 0, 0] := by intro x hx; simp at hx; omega
  have e : List.take 8 [210, 1, 0, 0, 0, 1, 0, 0] = ([210, 1, 0, 0, 0, 1, 0, 0] : List Int) := rfl
  have en : (num [210, 1, 0, 0, 0, 1, 0, 0]).toNat = uN := of_decide_eq_true (by kernel_rfl)
  have oA : OnP tb (nmul p uN) := nmul_on tb_ne h _
  have oB : OnP tb (nmul (nmul p uN) uN) := nmul_on tb_ne oA _
  have oC := pneg_onP (b := tb) h
  have oD : OnP tb (pneg (tau (padd (nmul p uN) p))) := pneg_onP (ad_tau.on _ (padd_on tb_ne oA h))
  have oE : OnP tb (tau (tau (padd p p))) := ad_tau.on _ (ad_tau.on _ (padd_on tb_ne h h))
  rw [e, g2.gtms_eq h hk, en, g2.gtms_eq oA hk, en, g2.gneg_eq, g2.gneg_eq, g2.gadd_eq oA h, g2.gadd_eq h h]
  show g2.gsum [_, _, _, _, _] = _
  rw [g2.gsum_eq, clo, opq_eq]; · rfl
  intro q hq
  simp only [List.mem_cons, List.not_mem_nil, or_false] at hq
  rcases hq with h | h | h | h | h
  · rw [h]; exact oB
  · rw [h]; exact oA
  · rw [h]; exact oC
  · rw [h]; exact oD
  · rw [h]; exact oE
theorem ent_clear : enters Tryd.prog 35 Tryd.f35 := enters_mk (by kernel_rfl) (by kernel_rfl) (by kernel_rfl)
theorem fn_clear : FnOk Tryd.prog 35 [pt2] [.val pt2] noG (fun (p, _) => g2.Onb p) (fun (p, _) => (clo p, ())) := by
  refine fn_of_vc (sp := sps [soRoot, fp2.spInv, fp2.spSquare, fp2.spMul, g2.soTimes, g2.soNeg, g2.soAdd, spClr1, g2.soSum]) (sps_cons (fnSpec_ok fo_root) (sps_cons (fnSpec_ok fp2.fn_inv) (sps_cons (fnSpec_ok fp2.fn_square) (sps_cons (fnSpec_ok fp2.fn_mul) (sps_cons (fnSpec_ok g2.fo_times) (sps_cons (fnSpec_ok g2.fo_neg) (sps_cons (fnSpec_ok g2.fo_add) (sps_cons (fnSpec_ok fn_clr1) (sps_cons (fnSpec_ok g2.fo_sum) sps_nil))))))))) mixed ent_clear (by decide) (by decide) ?_
  rintro w M0 ⟨p, ⟨⟩⟩
  revert p
  intro (p : F2 × F2) _ hp
  have hp : g2.Onb p := hp
  refine vcx (X := (True ∧ True ∧ True ∧ True ∧ (0 : Nat) + (8 : Nat) ≤ (8 : Nat) ∧ g2.preTimes (p, List.take (8 : Nat) [(210 : Int), (1 : Int), (0 : Int), (0 : Int), (0 : Int), (1 : Int), (0 : Int), (0 : Int)], ()) ∧ (0 : Nat) + (8 : Nat) ≤ (8 : Nat) ∧ g2.preTimes (g2.gtms p (List.take (8 : Nat) [(210 : Int), (1 : Int), (0 : Int), (0 : Int), (0 : Int), (1 : Int), (0 : Int), (0 : Int)]), List.take (8 : Nat) [(210 : Int), (1 : Int), (0 : Int), (0 : Int), (0 : Int), (1 : Int), (0 : Int), (0 : Int)], ()) ∧ True ∧ True ∧ True ∧ True ∧ True ∧ True ∧ True ∧ (0 : Nat) + (5 : Nat) ≤ (5 : Nat) ∧ g2.preSum (List.take (5 : Nat) [g2.gtms (g2.gtms p (List.take (8 : Nat) [(210 : Int), (1 : Int), (0 : Int), (0 : Int), (0 : Int), (1 : Int), (0 : Int), (0 : Int)])) (List.take (8 : Nat) [(210 : Int), (1 : Int), (0 : Int), (0 : Int), (0 : Int), (1 : Int), (0 : Int), (0 : Int)]), g2.gtms p (List.take (8 : Nat) [(210 : Int), (1 : Int), (0 : Int), (0 : Int), (0 : Int), (1 : Int), (0 : Int), (0 : Int)]), g2.gneg p, g2.gneg (cjg (g2.gadd (g2.gtms p (List.take (8 : Nat) [(210 : Int), (1 : Int), (0 : Int), (0 : Int), (0 : Int), (1 : Int), (0 : Int), (0 : Int)])) p).fst * (inv2 (tower.rootK, -tower.rootK) * inv2 (tower.rootK, -tower.rootK)), cjg (g2.gadd (g2.gtms p (List.take (8 : Nat) [(210 : Int), (1 : Int), (0 : Int), (0 : Int), (0 : Int), (1 : Int), (0 : Int), (0 : Int)])) p).snd * (inv2 (tower.rootK, -tower.rootK) * inv2 (tower.rootK, -tower.rootK) * inv2 (tower.rootK, -tower.rootK))), (cjg (cjg (g2.gadd p p).fst * (inv2 (tower.rootK, -tower.rootK) * inv2 (tower.rootK, -tower.rootK))) * (inv2 (tower.rootK, -tower.rootK) * inv2 (tower.rootK, -tower.rootK)), cjg (cjg (g2.gadd p p).snd * (inv2 (tower.rootK, -tower.rootK) * inv2 (tower.rootK, -tower.rootK) * inv2 (tower.rootK, -tower.rootK))) * (inv2 (tower.rootK, -tower.rootK) * inv2 (tower.rootK, -tower.rootK) * inv2 (tower.rootK, -tower.rootK)))], ()) ∧ (g2.gsum (List.take (5 : Nat) [g2.gtms (g2.gtms p (List.take (8 : Nat) [(210 : Int), (1 : Int), (0 : Int), (0 : Int), (0 : Int), (1 : Int), (0 : Int), (0 : Int)])) (List.take (8 : Nat) [(210 : Int), (1 : Int), (0 : Int), (0 : Int), (0 : Int), (1 : Int), (0 : Int), (0 : Int)]), g2.gtms p (List.take (8 : Nat) [(210 : Int), (1 : Int), (0 : Int), (0 : Int), (0 : Int), (1 : Int), (0 : Int), (0 : Int)]), g2.gneg p, g2.gneg (cjg (g2.gadd (g2.gtms p (List.take (8 : Nat) [(210 : Int), (1 : Int), (0 : Int), (0 : Int), (0 : Int), (1 : Int), (0 : Int), (0 : Int)])) p).fst * (inv2 (tower.rootK, -tower.rootK) * inv2 (tower.rootK, -tower.rootK)), cjg (g2.gadd (g2.gtms p (List.take (8 : Nat) [(210 : Int), (1 : Int), (0 : Int), (0 : Int), (0 : Int), (1 : Int), (0 : Int), (0 : Int)])) p).snd * (inv2 (tower.rootK, -tower.rootK) * inv2 (tower.rootK, -tower.rootK) * inv2 (tower.rootK, -tower.rootK))), (cjg (cjg (g2.gadd p p).fst * (inv2 (tower.rootK, -tower.rootK) * inv2 (tower.rootK, -tower.rootK))) * (inv2 (tower.rootK, -tower.rootK) * inv2 (tower.rootK, -tower.rootK)), cjg (cjg (g2.gadd p p).snd * (inv2 (tower.rootK, -tower.rootK) * inv2 (tower.rootK, -tower.rootK) * inv2 (tower.rootK, -tower.rootK))) * (inv2 (tower.rootK, -tower.rootK) * inv2 (tower.rootK, -tower.rootK) * inv2 (tower.rootK, -tower.rootK)))]), ()) = (clo p, ()))) (by kernel_rfl) ?_
  have e : inv2 (tower.rootK, -tower.rootK) = ir := inv_rt
  rw [e]
  refine ⟨trivial, trivial, trivial, trivial, Nat.le_refl _, ⟨size_ok, by decide⟩, Nat.le_refl _, ⟨size_ok, by decide⟩, trivial, trivial, trivial, trivial, trivial, trivial, trivial, Nat.le_refl _, by show 5 < _; decide, ?_⟩
  exact congrArg (fun x => (x, ())) (clear_val hp)
noncomputable def spClear : Nat × Eng.Spec := (35, fnSpec [pt2] [.val pt2] (fun (p, _) => g2.Onb p) (fun (p, _) => (clo p, ())))
theorem clo_eq {p : F2 × F2} (h : OnP tb p) : clo p = nmul p hN := by rw [clo, opq_eq, clr_h h]
theorem clo_sub {p : F2 × F2} (h : OnP tb p) : g2.Sub (clo p) := by
  rw [clo_eq h]; exact ⟨nmul_on tb_ne h _, h_r h⟩
end Go.Proofs.YtbfimfdhmggieaaDoor.h2c
/- h2c: Hash. -/
namespace Go.Proofs.YtbfimfdhmggieaaDoor.h2c
set_option maxRecDepth 100000
open Go Go.Eng Go.RowKit Cr Go.Proofs.YtbfimfdhmggieaaDoor Go.Proofs.YtbfimfdhmggieaaDoor.fp2 Go.Proofs.YtbfimfdhmggieaaDoor.sha Go.Proofs.YtbfimfdhmggieaaDoor.xmd
theorem fn_nuF : FnOk Tryd.prog 15 [bsl, bsl, .int .i64] [.val (.sl fp2.f2), .val (.int .i64)] shaG preEx (fun (m, t, n, _) => ((nuA m t n).1, (nuA m t n).2, ())) := fn_numbers.frz2
noncomputable def spNuF : Nat × Eng.Spec := (15, fnSpecG shaG [bsl, bsl, .int .i64] [.val (.sl fp2.f2), .val (.int .i64)] preEx (fun (m, t, n, _) => ((nuA m t n).1, (nuA m t n).2, ())))
noncomputable def u0 (m t : List Int) : F2 := opq (nmb (expo m t 256) 0)
noncomputable def u1 (m t : List Int) : F2 := opq (nmb (expo m t 256) 1)
theorem nuA_2 (m t : List Int) : nuA m t 2 = ([u0 m t, u1 m t], 0) := by
  rw [nuA, u0, u1, opq_eq, opq_eq, ← nums_two]; rfl
/-- A text's point. -/
noncomputable def hpt (m t : List Int) : F2 × F2 := opq (clo (padd (mapo (u0 m t)) (mapo (u1 m t))))
theorem hpt_sub (m t : List Int) : g2.Sub (hpt m t) := by
  rw [hpt, opq_eq]; exact clo_sub (padd_on tb_ne (mapo_on _) (mapo_on _))
noncomputable def hsK (us : List F2) (k : Nat) : F2 × F2 := it (fun i s => g2.gadd s (mapo (us.getD i ((0 : Fp), (0 : Fp))))) (((0 : Fp), (0 : Fp)), (0 : Fp), (0 : Fp)) k
noncomputable def hsI (us : List F2) (g : Int × (F2 × F2)) : St := mkSt Tryd.f40.ntmps 104 [(4, .is (.one (.ptr 0 0))), (7, .is (.one (.ptr 72 0))), (16, .is (.one (.ro fp2.f2 us))), (17, sI .i64 us.length), (18, sI .i64 g.1)] [(72, cellsOf pt2 g.2), (0, cellsOf pt2 ((((0 : Fp), (0 : Fp)), (0 : Fp), (0 : Fp)) : F2 × F2))]
theorem hsK_2 (a b : F2) : hsK [a, b] 2 = padd (mapo a) (mapo b) := by
  show g2.gadd (g2.gadd O2 (mapo a)) (mapo b) = _
  have oO : OnP tb (O2 : F2 × F2) := .inl rfl
  rw [g2.gadd_eq oO (mapo_on a), O_add, g2.gadd_eq (mapo_on a) (mapo_on b)]
theorem ent_hash : enters Tryd.prog 40 Tryd.f40 := enters_mk (by kernel_rfl) (by kernel_rfl) (by kernel_rfl)
abbrev preHs : HL [bsl, bsl] → Prop := fun (m, t, _) => List.length m ≤ 1048576 ∧ List.length t ≤ 1048576
theorem fn_hash : FnOk Tryd.prog 40 [bsl, bsl] [.val pt2] shaG preHs (fun (m, t, _) => (hpt m t, ())) := by
  have hsp : SpecsOk Tryd.prog (sps [spNuF, spMap, g2.soAdd, spClear]) := sps_cons (fnSpecG_ok fn_nuF) (sps_cons (fnSpec_ok fn_map) (sps_cons (fnSpec_ok g2.fo_add) (sps_cons (fnSpec_ok fn_clear) sps_nil)))
  refine fn_of_tr (sp := sps [spNuF, spMap, g2.soAdd, spClear]) ent_hash (by decide) (by decide) (by kernel_rfl) ?_
  rintro w M0 ⟨m, t, ⟨⟩⟩
  revert m t
  intro (m : List Int) (t : List Int) hw hp
  have hm : m.length ≤ 1048576 := hp.1
  have ht : t.length ≤ 1048576 := hp.2
  show Tr _ _ _ _ _ _ _
  refine tr_cutF hsp mixed 4 (fun σ => rdO fp2.f2 5 σ) (fun us => hsI us (0, (((0 : Fp), (0 : Fp)), (0 : Fp), (0 : Fp)))) (fun us => us = [u0 m t, u1 m t]) ?_ ?_
  · refine vcx (X := ((∀ (g : Nat) (s : Sigma Car), shaG g = some s → Decidable.rec (fun h => (fun x => if g = (1 : Nat) then some ⟨Kd.arr (64 : Nat) uK, rootsL⟩ else none) h) (fun h => (fun x => some ⟨Kd.arr (8 : Nat) uK, firstL⟩) h) (instDecidableEqNat g (0 : Nat)) = some s) ∧ preEx (m, t, (2 : Int), ()) ∧ (hsI ((nuA m t (2 : Int)).fst, (nuA m t (2 : Int)).snd, ()).fst ((0 : Int), ((0 : Fp), (0 : Fp)), (0 : Fp), (0 : Fp))).triv ((nuA m t (2 : Int)).fst = [u0 m t, u1 m t]))) (by kernel_rfl) ?_
    rw [nuA_2]
    exact ⟨fun _ _ h => h, ⟨hm, ht⟩, triv_intro rfl⟩
  rintro us hus
  revert us
  intro (us : List F2) (hus : us = [u0 m t, u1 m t])
  have hl : us.length = 2 := by rw [hus]; rfl
  refine tr_while hsp mixed noSw (fun σ => (rdS (.int .i64) 18 σ, rdB pt2 72 σ)) (hsI us) (fun g => ∃ k : Nat, k ≤ 2 ∧ g.1 = (k : Int) ∧ g.2 = hsK us k) (fun g => 2 - g.1.toNat)
    (fun σ => (rdS (.int .i64) 18 σ, rdB pt2 72 σ)) (hsI us) (fun g => g.2 = padd (mapo (u0 m t)) (mapo (u1 m t))) (0, (((0 : Fp), (0 : Fp)), (0 : Fp), (0 : Fp))) (c := nthC (codeOf Tryd.f40) 4) (by kernel_rfl) (by kernel_rfl) (le_of_proj (by kernel_rfl) (by kernel_rfl) ?_) ?_ ?_
  · exact ⟨0, Nat.zero_le _, rfl, rfl⟩
  · rintro ⟨i, s⟩ hj
    revert i s
    intro (i : Int) (s : F2 × F2) ⟨k, hk, ei, es⟩
    have ei : i = (k : Int) := ei
    have ks : s = hsK us k := es
    subst ei
    refine vcx (X := ((decide ((↑k : Int) < (↑us.length : Int)) = true → ((0 : Int) ≤ (↑k : Int) ∧ (↑k : Int) < (↑us.length : Int)) ∧ (↑k : Int).toNat < us.length ∧ True ∧ True ∧ (hsI us (IntKind.i64.wrap ((↑k : Int) + (1 : Int)), g2.gadd s (mapo (us.getD (↑k : Int).toNat ((0 : Fp), (0 : Fp)))))).triv ((∃ k_1, k_1 ≤ (2 : Nat) ∧ IntKind.i64.wrap ((↑k : Int) + (1 : Int)) = (↑k_1 : Int) ∧ g2.gadd s (mapo (us.getD (↑k : Int).toNat ((0 : Fp), (0 : Fp)))) = hsK us k_1) ∧ (2 : Nat) - (IntKind.i64.wrap ((↑k : Int) + (1 : Int))).toNat < (2 : Nat) - (↑k : Int).toNat)) ∧ (decide ((↑k : Int) < (↑us.length : Int)) = false → (hsI us ((↑k : Int), s)).triv (s = padd (mapo (u0 m t)) (mapo (u1 m t)))))) (by kernel_rfl) ?_
    rw [hl]
    refine ⟨fun h => ?_, fun h => triv_intro ?_⟩
    · have hlt : k < 2 := by have := of_decide_eq_true h; omega
      rw [wrap_succ (by omega)]
      refine ⟨⟨by omega, by omega⟩, hlt, trivial, trivial, triv_intro ⟨⟨k + 1, hlt, rfl, ?_⟩, ?_⟩⟩
      · rw [ks, Int.toNat_natCast]; rfl
      · rw [Int.toNat_natCast, Int.toNat_natCast]; omega
    · have h2 : k = 2 := by have := of_decide_eq_false h; omega
      rw [ks, h2, hus, hsK_2]
  rintro ⟨i, s⟩ hj
  revert i s
  intro (i : Int) (s : F2 × F2) (hj : s = padd (mapo (u0 m t)) (mapo (u1 m t)))
  refine tr_vc hsp mixed _ _ ?_
  refine vcx (X := (g2.Onb s ∧ (clo s, ()) = (hpt m t, ()))) (by kernel_rfl) ?_
  rw [hj]
  refine ⟨padd_on tb_ne (mapo_on _) (mapo_on _), ?_⟩
  rw [hpt, opq_eq]
noncomputable def spHash : Nat × Eng.Spec := (40, fnSpecG shaG [bsl, bsl] [.val pt2] preHs (fun (m, t, _) => (hpt m t, ())))
end Go.Proofs.YtbfimfdhmggieaaDoor.h2c
namespace Go.Proofs.YtbfimfdhmggieaaDoor.g2
set_option maxRecDepth 100000
open Go Go.Eng Go.RowKit Cr Go.Proofs.YtbfimfdhmggieaaDoor Go.Proofs.YtbfimfdhmggieaaDoor.fp2
theorem ent_in : enters Tryd.prog 36 Tryd.f36 := enters_mk (by kernel_rfl) (by kernel_rfl) (by kernel_rfl)
noncomputable def isIn (p : F2 × F2) : Bool := isOn p && decide (pml p (-1) = pneg (F := F2) p)
noncomputable abbrev outIn : HL [pt2] → HO [.val .bool] := fun (p, _) => (isIn p, ())
theorem fn_in : FnOk Tryd.prog 36 [pt2] [.val .bool] noG (fun _ => True) outIn := by
  refine fn_of_vc (sp := sps [spOn, fr.spOf, fr.spNeg, spPMul, spPNeg]) (sps_cons (fnSpec_ok fn_on) (sps_cons (fnSpec_ok fr.fn_of) (sps_cons (fnSpec_ok fr.fn_neg) (sps_cons (fnSpec_ok fn_pmul) (sps_cons (fnSpec_ok fn_pneg) sps_nil))))) mixed ent_in (by decide) (by decide) ?_
  rintro w M0 ⟨p, ⟨⟩⟩
  revert p
  intro (p : F2 × F2) _ _
  refine vcx (X := (True ∧ (isOn p = true → U64 (1 : Int) ∧ True ∧ True ∧ True ∧ (eqC ((Kd.fp.pair Kd.fp).pair (Kd.fp.pair Kd.fp)) (pml p (-zmr (1 : Int))) (p.fst, -p.snd), ()) = outIn (p, ())) ∧ (isOn p = false → (false, ()) = outIn (p, ())))) (by kernel_rfl) ?_
  rw [eqP2]
  refine ⟨trivial, fun h => ⟨by constructor <;> decide, trivial, trivial, trivial, ?_⟩, fun h => ?_⟩
  · show _ = (isIn p, ())
    rw [isIn, h, Bool.true_and]
    rfl
  · show _ = (isIn p, ())
    rw [isIn, h, Bool.false_and]
noncomputable def gin (p : F2 × F2) : Bool := opq (isIn p)
theorem fo_in : FnOk Tryd.prog 36 [pt2] [.val .bool] noG (fun _ => True) (fun (p, _) => (gin p, ())) := fn_in.out fun (p, _) => by show (gin p, ()) = (_, ()); rw [gin, opq_eq]
noncomputable def soIn : Nat × Eng.Spec := (36, fnSpec [pt2] [.val .bool] (fun _ => True) (fun (p, _) => (gin p, ())))
theorem sub_in {p : F2 × F2} (h : Sub p) : gin p = true := by
  rw [gin, opq_eq, isIn]
  have h1 : isOn p = true := (isOn_iff p).2 h.1
  have h2 : pml p (-1) = pneg p := by
    have := mul_neg h 1
    rw [mul_one h, gmul, opq_eq] at this
    exact this
  rw [h1, h2]; simp
end Go.Proofs.YtbfimfdhmggieaaDoor.g2
