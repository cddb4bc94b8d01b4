/- tower: Root. -/
import Derived.Test.YtbfimfdhmggieaaGreatMLPckPU
namespace Go.Proofs.YtbfimfdhmggieaaGreat.tower
set_option maxRecDepth 100000
open Go Go.Eng Go.RowKit Cr Go.Proofs.YtbfimfdhmggieaaGreat Go.Proofs.YtbfimfdhmggieaaGreat.fp2
/-- Powers of two. -/
noncomputable def tp (e : Nat) : Fp := zpow (1 + 1 : Fp) e
theorem tp_sq (e : Nat) : tp e * tp e = tp (2 * e) := by rw [tp, tp, ← zpow_add', show e + e = 2 * e by omega]
theorem tp_succ (e : Nat) : tp e + tp e = tp (e + 1) := by
  show tp e + tp e = zpow (1 + 1 : Fp) e * (1 + 1)
  rw [Rg.mul_add, Rg.mul_one]; rfl
theorem or_byte (r b : Nat) (hr : r < 4294967296) (hb : b < 256) : bitOp .or .i64 ((r * 256 : Nat) : Int) (b : Int) = ((r * 256 + b : Nat) : Int) := by
  have e : ((BitVec.ofInt 64 ((r * 256 : Nat) : Int) ||| BitVec.ofInt 64 (b : Int) : BitVec 64).toNat) = r * 256 + b := by
    rw [BitVec.toNat_or, BitVec.toNat_ofInt, BitVec.toNat_ofInt]
    have h1 : (((r * 256 : Nat) : Int) % ((2 ^ 64 : Nat) : Int)).toNat = r <<< 8 := by rw [Nat.shiftLeft_eq]; omega
    have h2 : ((b : Int) % ((2 ^ 64 : Nat) : Int)).toNat = b := by omega
    rw [h1, h2, ← Nat.shiftLeft_add_eq_or_of_lt (by omega), Nat.shiftLeft_eq]
  show IntKind.i64.wrap (((BitVec.ofInt 64 ((r * 256 : Nat) : Int) ||| BitVec.ofInt 64 (b : Int) : BitVec 64).toNat : Nat) : Int) = _
  rw [e]
  exact wrap_i64' (by omega) (by omega)
theorem and_one (n : Nat) (hn : n < 4294967296) : bitOp .and .i64 (n : Int) 1 = ((n % 2 : Nat) : Int) := by
  have e : ((BitVec.ofInt 64 (n : Int) &&& BitVec.ofInt 64 1 : BitVec 64).toNat) = n % 2 := by
    rw [BitVec.toNat_and, BitVec.toNat_ofInt, BitVec.toNat_ofInt]
    have h1 : ((n : Int) % ((2 ^ 64 : Nat) : Int)).toNat = n := by omega
    have h2 : ((1 : Int) % ((2 ^ 64 : Nat) : Int)).toNat = 1 := by omega
    rw [h1, h2, Nat.and_one_is_mod]
  show IntKind.i64.wrap (((BitVec.ofInt 64 (n : Int) &&& BitVec.ofInt 64 1 : BitVec 64).toNat : Nat) : Int) = _
  rw [e]
  exact wrap_i64' (by omega) (by omega)
theorem ent_root : enters Tryz.prog 87 Tryz.f87 := enters_mk (by kernel_rfl) (by kernel_rfl) (by kernel_rfl)
noncomputable abbrev rBs : List Int := bytesN 48 (Zm.v (-(zm 1 : Fp)))
theorem rBs_len : List.length rBs = 48 := bytesN_length 48 _
noncomputable def rtA (bs : List Int) (g : Int × Fp × Int) : St := mkSt Tryz.f87.ntmps 72 [(0, .is (.one (.ptr 0 0))), (1, .is (.one (.ptr 16 0))), (2, sI .i64 g.2.2), (10, sA .u8 48 bs), (11, sI .i64 g.1)] [(16, [.row .fp 1 [g.2.1]]), (0, [.row .fp 1 [(0 : Fp)], .row .fp 1 [(0 : Fp)]])]
noncomputable def rtB (bs : List Int) (i rest dg : Int) (g : Int × Fp) : St := mkSt Tryz.f87.ntmps 72 [(0, .is (.one (.ptr 0 0))), (1, .is (.one (.ptr 16 0))), (2, sI .i64 rest), (5, sI .i64 dg), (10, sA .u8 48 bs), (11, sI .i64 i), (23, sI .i64 g.1)] [(16, [.row .fp 1 [g.2]]), (0, [.row .fp 1 [(0 : Fp)], .row .fp 1 [(0 : Fp)]])]
noncomputable def rtO (x : Fp) : St := mkSt Tryz.f87.ntmps 72 [(0, .is (.one (.ptr 0 0))), (1, .is (.one (.ptr 16 0)))] [(16, [.row .fp 1 [x]]), (0, [.row .fp 1 [(0 : Fp)], .row .fp 1 [(0 : Fp)]])]
noncomputable def rtJ (bs : List Int) (g : Int × Fp × Int) : Prop := ∃ k : Nat, k ≤ 48 ∧ g.1 = (k : Int) ∧ g.2.1 = tp (num (bs.take k) / 12).toNat ∧ g.2.2 = num (bs.take k) % 12
noncomputable def rootK : Fp := tp (num rBs / 12).toNat
theorem fn_root : FnOk Tryz.prog 87 [] [.val f2] noG (fun _ => True) (fun _ => ((rootK, -rootK), ())) := by
  have hsp : SpecsOk Tryz.prog (sps [fp.spOf, fp.spNeg, fp.spBytes, fp.spSquare, fp.spAdd]) := sps_cons (fnSpec_ok fp.fn_of) (sps_cons (fnSpec_ok fp.fn_neg) (sps_cons (fnSpec_ok fp.fn_bytes) (sps_cons (fnSpec_ok fp.fn_square) (sps_cons (fnSpec_ok fp.fn_add) sps_nil))))
  refine fn_of_tr (sp := sps [fp.spOf, fp.spNeg, fp.spBytes, fp.spSquare, fp.spAdd]) ent_root (by decide) (by decide) (by kernel_rfl) ?_
  rintro w M0 ⟨⟩ _ _
  show Tr _ _ _ _ _ _ _
  refine tr_cut hsp mixed 3 (rtA rBs (0, zm 1, 0)) True ?_ (fun _ => ?_)
  · refine vcx (X := (U64 (1 : Int) ∧ U64 (1 : Int) ∧ True ∧ True ∧ (rtA rBs ((0 : Int), zmp (1 : Int), (0 : Int))).triv True)) (by kernel_rfl) ?_
    exact ⟨⟨by decide, by decide⟩, ⟨by decide, by decide⟩, trivial, trivial, triv_intro trivial⟩
  refine tr_whileT noSw (fun σ => (rdS (.int .i64) 11 σ, rdB .fp 16 σ, rdS (.int .i64) 2 σ)) (rtA rBs) (rtJ rBs) (fun g => 48 - g.1.toNat)
    (fun σ => rdB .fp 16 σ) rtO (fun x => x = rootK) (0, zm 1, 0) (c := nthC (codeOf Tryz.f87) 3) (by kernel_rfl) (by kernel_rfl) (le_of_proj (by kernel_rfl) (by kernel_rfl) ?_) ?_ ?_
  · refine ⟨0, by decide, rfl, ?_, rfl⟩
    exact Zm.ext (by decide)
  · rintro ⟨i, x, rest⟩ hj
    revert i x rest
    intro (i : Int) (x : Fp) (rest : Int) ⟨k, hk, ei, ex, er⟩
    have ei : i = (k : Int) := ei
    subst ei
    have hbd := num_bd (l := rBs.take k) (fun x hx => (bytesN_Bs 48 _ : Bs rBs) x (List.mem_of_mem_take hx))
    refine tr_cut hsp mixed 2 (rtA rBs ((k : Int), x, rest)) (k < 48) ?_ (fun hlt => ?_)
    · refine vcx (X := ((decide ((↑k : Int) < (48 : Int)) = true → (rtA rBs ((↑k : Int), x, rest)).triv (k < (48 : Nat))) ∧ (decide ((↑k : Int) < (48 : Int)) = false → (rtO x).triv (x = rootK)))) (by kernel_rfl) ?_
      refine ⟨fun h => triv_intro (by have := of_decide_eq_true h; omega), fun h => triv_intro ?_⟩
      have e48 : k = 48 := by have := of_decide_eq_false h; omega
      have ex : x = tp (num (rBs.take k) / 12).toNat := ex
      rw [ex, e48, List.take_of_length_le (by rw [rBs_len]; decide)]; rfl
    refine tr_block (c := nthC (loopOf (nthC (codeOf Tryz.f87) 3)) 2) (by kernel_rfl) (by kernel_rfl) ?_
    have hkl : k < List.length rBs := by rw [rBs_len]; exact hlt
    obtain ⟨b, hb⟩ : ∃ b, b = rBs.getD k 0 := ⟨_, rfl⟩
    have hb0 : 0 ≤ b ∧ b < 256 := by
      rw [hb]; simp only [List.getD_eq_getElem?_getD, List.getElem?_eq_getElem hkl, Option.getD_some]
      exact (bytesN_Bs 48 _ : Bs rBs) _ (List.getElem_mem hkl)
    refine tr_cutF hsp mixed 5 (fun σ => (rdS (.int .i64) 2 σ, rdS (.int .i64) 5 σ)) (fun g => rtB rBs k g.1 g.2 (0, x)) (fun g => g.1 = (rest * 256 + b) % 12 ∧ g.2 = (rest * 256 + b) / 12) ?_ ?_
    · refine vcx (X := (((0 : Int) ≤ (↑k : Int) ∧ (↑k : Int) < (↑(48 : Nat) : Int)) ∧ (0 : Int) ≤ (8 : Int) ∧ ((12 : Int) = (0 : Int) → False) ∧ ((12 : Int) = (0 : Int) → False) ∧ (rtB rBs (↑k : Int) ((bitOp BinOp.or IntKind.i64 (IntKind.i64.wrap (rest * (2 : Int) ^ min (8 : Nat) IntKind.i64.bits)) (IntKind.i64.wrap (rBs.getD (↑k : Int).toNat (0 : Int)))).tmod (12 : Int), IntKind.i64.wrap ((bitOp BinOp.or IntKind.i64 (IntKind.i64.wrap (rest * (2 : Int) ^ min (8 : Nat) IntKind.i64.bits)) (IntKind.i64.wrap (rBs.getD (↑k : Int).toNat (0 : Int)))).tdiv (12 : Int))).fst ((bitOp BinOp.or IntKind.i64 (IntKind.i64.wrap (rest * (2 : Int) ^ min (8 : Nat) IntKind.i64.bits)) (IntKind.i64.wrap (rBs.getD (↑k : Int).toNat (0 : Int)))).tmod (12 : Int), IntKind.i64.wrap ((bitOp BinOp.or IntKind.i64 (IntKind.i64.wrap (rest * (2 : Int) ^ min (8 : Nat) IntKind.i64.bits)) (IntKind.i64.wrap (rBs.getD (↑k : Int).toNat (0 : Int)))).tdiv (12 : Int))).snd ((0 : Int), x)).triv ((bitOp BinOp.or IntKind.i64 (IntKind.i64.wrap (rest * (2 : Int) ^ min (8 : Nat) IntKind.i64.bits)) (IntKind.i64.wrap (rBs.getD (↑k : Int).toNat (0 : Int)))).tmod (12 : Int) = (rest * (256 : Car (Kd.int IntKind.i64)) + b) % (12 : Car (Kd.int IntKind.i64)) ∧ IntKind.i64.wrap ((bitOp BinOp.or IntKind.i64 (IntKind.i64.wrap (rest * (2 : Int) ^ min (8 : Nat) IntKind.i64.bits)) (IntKind.i64.wrap (rBs.getD (↑k : Int).toNat (0 : Int)))).tdiv (12 : Int)) = (rest * (256 : Car (Kd.int IntKind.i64)) + b) / (12 : Car (Kd.int IntKind.i64))))) (by kernel_rfl) ?_
      have er : rest = num (rBs.take k) % 12 := er
      have hr0 : 0 ≤ rest ∧ rest < 12 := by rw [er]; omega
      obtain ⟨rn, hrn⟩ := Int.eq_ofNat_of_zero_le hr0.1
      obtain ⟨bn, hbn⟩ := Int.eq_ofNat_of_zero_le hb0.1
      have e1 : IntKind.i64.wrap (rest * 2 ^ min (8 : Nat) IntKind.i64.bits) = ((rn * 256 : Nat) : Int) := by
        show IntKind.i64.wrap (rest * 256) = _
        rw [wrap_i64' (by omega) (by omega)]; omega
      have e2 : IntKind.i64.wrap (rBs.getD (k : Int).toNat 0) = (bn : Int) := by
        rw [Int.toNat_natCast, ← hb, wrap_i64' (by omega) (by omega), hbn]
      have e3 : rest * 256 + b = ((rn * 256 + bn : Nat) : Int) := by rw [hrn, hbn]; simp
      rw [e1, e2, or_byte rn bn (by omega) (by omega)]
      have e4 : ((rn * 256 + bn : Nat) : Int).tmod 12 = (rest * 256 + b) % 12 := by rw [Int.tmod_eq_emod_of_nonneg (by omega), e3]
      have e5 : IntKind.i64.wrap (((rn * 256 + bn : Nat) : Int).tdiv 12) = (rest * 256 + b) / 12 := by rw [Int.tdiv_eq_ediv_of_nonneg (by omega), wrap_i64' (by omega) (by omega), e3]
      rw [e4, e5]
      exact ⟨⟨by omega, by omega⟩, by decide, by decide, by decide, triv_intro ⟨rfl, rfl⟩⟩
    rintro ⟨r2, dg⟩ hrd
    revert r2 dg
    intro (r2 : Int) (dg : Int) ⟨hr2, hdg⟩
    have hr2 : r2 = (rest * 256 + b) % 12 := hr2
    have hdg : dg = (rest * 256 + b) / 12 := hdg
    have hdg0 : 0 ≤ dg ∧ dg < 256 := by
      have er : rest = num (rBs.take k) % 12 := er
      rw [hdg]; omega
    refine tr_while hsp mixed noSw (fun σ => (rdS (.int .i64) 23 σ, rdB .fp 16 σ)) (rtB rBs k r2 dg) (fun g => ∃ j : Nat, j ≤ 8 ∧ g.1 = (j : Int) ∧ g.2 = tp (((num (rBs.take k) / 12).toNat) * 2 ^ j + dg.toNat / 2 ^ (8 - j))) (fun g => 8 - g.1.toNat)
      (fun σ => rdB .fp 16 σ) (fun y => rtA rBs ((k : Int), y, r2)) (fun y => y = tp (((num (rBs.take k) / 12).toNat) * 256 + dg.toNat)) (0, x) (c := nthC (bodyOf (nthC (loopOf (nthC (codeOf Tryz.f87) 3)) 2)) 5) (by kernel_rfl) (by kernel_rfl) (le_of_proj (by kernel_rfl) (by kernel_rfl) ?_) ?_ ?_
    · refine ⟨0, by decide, rfl, ?_⟩
      have ex : x = tp (num (rBs.take k) / 12).toNat := ex
      rw [Nat.pow_zero, Nat.mul_one, show 8 - 0 = 8 from rfl, show (2 : Nat) ^ 8 = 256 from rfl, Nat.div_eq_of_lt (by omega), Nat.add_zero]
      exact ex
    · rintro ⟨j, y⟩ hj
      revert j y
      intro (j : Int) (y : Fp) ⟨t, ht, ej, ey⟩
      have ej : j = (t : Int) := ej
      subst ej
      refine vcx (X := ((decide ((↑t : Int) < (8 : Int)) = true → True ∧ (0 : Int) ≤ IntKind.i64.wrap ((7 : Int) - (↑t : Int)) ∧ ((bitOp BinOp.and IntKind.i64 (dg.fdiv ((2 : Int) ^ min (IntKind.i64.wrap ((7 : Int) - (↑t : Int))).toNat IntKind.i64.bits)) (1 : Int) == (1 : Int)) = true → True ∧ (rtB rBs (↑k : Int) r2 dg (IntKind.i64.wrap ((↑t : Int) + (1 : Int)), y * y + y * y)).triv ((∃ j, j ≤ (8 : Nat) ∧ IntKind.i64.wrap ((↑t : Int) + (1 : Int)) = (↑j : Int) ∧ y * y + y * y = tp ((num (List.take k rBs) / (12 : Int)).toNat * (2 : Nat) ^ j + dg.toNat / (2 : Nat) ^ ((8 : Nat) - j))) ∧ (8 : Nat) - (IntKind.i64.wrap ((↑t : Int) + (1 : Int))).toNat < (8 : Nat) - (↑t : Int).toNat)) ∧ ((bitOp BinOp.and IntKind.i64 (dg.fdiv ((2 : Int) ^ min (IntKind.i64.wrap ((7 : Int) - (↑t : Int))).toNat IntKind.i64.bits)) (1 : Int) == (1 : Int)) = false → (rtB rBs (↑k : Int) r2 dg (IntKind.i64.wrap ((↑t : Int) + (1 : Int)), y * y)).triv ((∃ j, j ≤ (8 : Nat) ∧ IntKind.i64.wrap ((↑t : Int) + (1 : Int)) = (↑j : Int) ∧ y * y = tp ((num (List.take k rBs) / (12 : Int)).toNat * (2 : Nat) ^ j + dg.toNat / (2 : Nat) ^ ((8 : Nat) - j))) ∧ (8 : Nat) - (IntKind.i64.wrap ((↑t : Int) + (1 : Int))).toNat < (8 : Nat) - (↑t : Int).toNat))) ∧ (decide ((↑t : Int) < (8 : Int)) = false → (rtA rBs ((↑k : Int), y, r2)).triv (y = tp ((num (List.take k rBs) / (12 : Int)).toNat * (256 : Nat) + dg.toNat))))) (by kernel_rfl) ?_
      have ht : t ≤ 8 := ht
      have ey : y = tp (((num (rBs.take k) / 12).toNat) * 2 ^ t + dg.toNat / 2 ^ (8 - t)) := ey
      obtain ⟨d, hd⟩ := Int.eq_ofNat_of_zero_le hdg0.1
      generalize (num (rBs.take k) / 12).toNat = q at *
      refine ⟨fun h => ?_, fun h => triv_intro ?_⟩
      · have h8 : t < 8 := by have := of_decide_eq_true h; omega
        have e1 : (IntKind.i64.wrap (7 - (t : Int))).toNat = 7 - t := by rw [wrap_i64' (by omega) (by omega)]; omega
        have e0 : 0 ≤ IntKind.i64.wrap (7 - (t : Int)) := by rw [wrap_i64' (by omega) (by omega)]; omega
        have hm : min (7 - t) IntKind.i64.bits = 7 - t := Nat.min_eq_left (show 7 - t ≤ 64 by omega)
        have e2 : dg.fdiv (2 ^ (7 - t)) = ((d / 2 ^ (7 - t) : Nat) : Int) := by
          rw [Int.fdiv_eq_ediv_of_nonneg _ (Int.le_of_lt (Int.pow_pos (by decide))), hd]
          simp
        have e3 : d / 2 ^ (8 - t) = d / 2 ^ (7 - t) / 2 := by
          rw [Nat.div_div_eq_div_mul, ← Nat.pow_succ, show (7 - t).succ = 8 - t by omega]
        have e4 : dg.toNat = d := by rw [hd]; rfl
        have hdl : d / 2 ^ (7 - t) < 4294967296 := Nat.lt_of_le_of_lt (Nat.div_le_self _ _) (by omega)
        have e5 : 8 - (t + 1) = 7 - t := by omega
        rw [e1, hm, e2, and_one _ hdl, wrap_succ (by omega)]
        have key : y * y = tp (q * 2 ^ (t + 1) + 2 * (d / 2 ^ (7 - t) / 2)) := by
          rw [ey, tp_sq, e4, e3, Nat.pow_succ]
          congr 1
          rw [Nat.mul_add, ← Nat.mul_assoc, Nat.mul_comm 2 q, Nat.mul_assoc, Nat.mul_comm 2 (2 ^ t)]
        refine ⟨trivial, e0, fun h1 => ⟨trivial, triv_intro ⟨⟨t + 1, h8, rfl, ?_⟩, by omega⟩⟩, fun h1 => triv_intro ⟨⟨t + 1, h8, rfl, ?_⟩, by omega⟩⟩
        · have hbit : d / 2 ^ (7 - t) % 2 = 1 := by
            have h1 : ((d / 2 ^ (7 - t) % 2 : Nat) : Int) = 1 := by simpa using h1
            omega
          rw [key, tp_succ, e4, e5]
          congr 1
          omega
        · have hbit : d / 2 ^ (7 - t) % 2 = 0 := by
            have h1 : ¬ ((d / 2 ^ (7 - t) % 2 : Nat) : Int) = 1 := by simpa using h1
            omega
          rw [key, e4, e5]
          congr 1
          omega
      · have h8 : t = 8 := by have := of_decide_eq_false h; omega
        rw [ey, h8]
        simp
    intro (y : Fp) (hy : y = tp (((num (rBs.take k) / 12).toNat) * 256 + dg.toNat))
    refine tr_nil ?_
    refine tr_vc hsp mixed _ _ ?_
    refine vcx (X := ((rtA rBs (IntKind.i64.wrap ((↑k : Int) + (1 : Int)), y, r2)).triv (rtJ rBs (IntKind.i64.wrap ((↑k : Int) + (1 : Int)), y, r2) ∧ (48 : Nat) - (IntKind.i64.wrap ((↑k : Int) + (1 : Int))).toNat < (48 : Nat) - (↑k : Int).toNat))) (by kernel_rfl) ?_
    have er : rest = num (rBs.take k) % 12 := er
    have hns := num_take_succ hkl
    rw [← hb] at hns
    rw [wrap_succ (by omega)]
    refine triv_intro ⟨⟨k + 1, hlt, rfl, ?_, ?_⟩, by omega⟩
    · show y = tp _
      rw [hy, hns]
      congr 1
      omega
    · show r2 = _
      rw [hr2, hns, er]
      omega
  intro (x : Fp) (hx : x = rootK)
  refine tr_vc hsp mixed _ _ ?_
  refine vcx (X := (True ∧ ((x, -x), ()) = ((rootK, -rootK), ()))) (by kernel_rfl) ?_
  exact ⟨trivial, by rw [hx]⟩
end Go.Proofs.YtbfimfdhmggieaaGreat.tower
