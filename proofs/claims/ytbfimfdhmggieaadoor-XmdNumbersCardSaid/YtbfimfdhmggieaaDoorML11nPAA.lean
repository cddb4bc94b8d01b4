/- XmdNumbers, for every input: true; the input reads as it did. No condition. -/
import Derived.LaidLaws
import Derived.LaidHandle
import Derived.LaidMore
import Derived.MakeChecks
import Derived.OpenShut
import Derived.Test.YtbfimfdhmggieaaDoorRows
import Derived.Test.YtbfimfdhmggieaaDoorCards
import Derived.Test.YtbfimfdhmggieaaDoorTie
import Derived.ProofKit
import Derived.Stop.Joined
import Derived.SevenTiedAt
import Derived.Test.YtbfimfdhmggieaaDoorML11nPZ
/- ref03: Mod. -/
namespace Go.Proofs.YtbfimfdhmggieaaDoor.ref03
set_option maxRecDepth 100000
open Go Go.Eng Go.RowKit Cr Go.Proofs.YtbfimfdhmggieaaDoor
theorem ent_mod : enters Tryd.prog 19 Tryd.f19 := enters_mk (by kernel_rfl) (by kernel_rfl) (by kernel_rfl)
def modF (a m : List Int) : List Int := w16 m.length (v16 a % v16 m)
abbrev preMod : HL [wsl, wsl] → Prop := fun (a, m, _) => (W16 a ∧ W16 m ∧ List.length a ≤ 1000000 ∧ List.length m < 1000000) ∧ 0 < v16 m
abbrev outMod : HL [wsl, wsl] → HO [.own (.int .u32)] := fun (a, m, _) => (modF a m, ())
theorem pv16_two (q : Nat) : pv16 q = 2 ^ (16 * q) := by
  induction q with
  | zero => rfl
  | succ q ih => rw [Nat.mul_succ, Int.pow_add, ← ih]; simp only [pv16]; omega
theorem bit_of (V : Int) (j : Nat) : bitOp .and .u32 ((V / pv16 (j / 16) % 65536).fdiv (2 ^ min (j % 16) IntKind.u32.bits)) 1 = V / 2 ^ j % 2 := by
  have hm : min (j % 16) IntKind.u32.bits = j % 16 := Nat.min_eq_left (show j % 16 ≤ 32 by omega)
  have hp : (0 : Int) < 2 ^ (j % 16) := Int.pow_pos (by decide)
  have hp2 : (0 : Int) < 2 ^ (16 * (j / 16)) := Int.pow_pos (by decide)
  have h0 : 0 ≤ V / pv16 (j / 16) % 65536 := by omega
  have h1 : V / pv16 (j / 16) % 65536 < 65536 := by omega
  rw [hm, Int.fdiv_eq_ediv_of_nonneg _ (Int.le_of_lt hp)]
  have ex : (2 : Int) ^ j = 2 ^ (16 * (j / 16)) * 2 ^ (j % 16) := by rw [← Int.pow_add]; congr 1; omega
  have e65 : (65536 : Int) = 2 ^ (j % 16) * 2 ^ (16 - j % 16) := by rw [← Int.pow_add, show j % 16 + (16 - j % 16) = 16 by omega]; rfl
  rw [ex, ← Int.ediv_ediv_of_nonneg (Int.le_of_lt hp2), ← pv16_two]
  generalize V / pv16 (j / 16) = x at *
  have hx : 0 ≤ x % 65536 / 2 ^ (j % 16) := Int.ediv_nonneg h0 (Int.le_of_lt hp)
  have hx2 : x % 65536 / 2 ^ (j % 16) < 65536 := Int.lt_of_le_of_lt (Int.ediv_le_self _ h0) h1
  have hb : bitOp .and .u32 (x % 65536 / 2 ^ (j % 16)) 1 = x % 65536 / 2 ^ (j % 16) % 2 := by
    generalize x % 65536 / 2 ^ (j % 16) = y at *
    obtain ⟨n, rfl⟩ := Int.eq_ofNat_of_zero_le hx
    have := and_u32 n 1 (by omega) (by omega)
    rw [show ((1 : Nat) : Int) = 1 from rfl] at this
    rw [this, Nat.and_one_is_mod]; omega
  rw [hb]
  have hq : (2 : Int) ^ (16 - j % 16) = 2 * 2 ^ (15 - j % 16) := by rw [show 16 - j % 16 = (15 - j % 16) + 1 by omega, Int.pow_succ]; omega
  have hdx := Int.mul_ediv_add_emod x 65536
  have e3 : x / 2 ^ (j % 16) = x % 65536 / 2 ^ (j % 16) + 2 * (2 ^ (15 - j % 16) * (x / 65536)) := by
    have : x = x % 65536 + 2 ^ (j % 16) * (2 * (2 ^ (15 - j % 16) * (x / 65536))) := by
      rw [← Int.mul_assoc 2, ← hq, ← Int.mul_assoc, ← e65]; omega
    conv => lhs; rw [this]
    rw [Int.add_mul_ediv_left _ _ (by omega)]
  rw [e3]
  omega
/-- Twice and a bit: the words below j are the new ones. -/
def dbL (L : Nat) (R c0 : Int) (j : Nat) : List Int := (List.range L).map fun t => if t < j then (2 * R + c0) / pv16 t % 65536 else R / pv16 t % 65536
def dbC (R c0 : Int) (j : Nat) : Int := (2 * R + c0) / pv16 j - 2 * (R / pv16 j)
theorem dbL_zero (L : Nat) (R c0 : Int) : dbL L R c0 0 = w16 L R := by
  refine List.map_congr_left fun t _ => ?_
  rw [if_neg (by omega)]
theorem dbL_all (L : Nat) (R c0 : Int) : dbL L R c0 L = w16 L (2 * R + c0) := by
  refine List.map_congr_left fun t ht => ?_
  rw [if_pos (List.mem_range.1 ht)]
theorem dbC_zero (R c0 : Int) : dbC R c0 0 = c0 := by
  have : pv16 0 = 1 := rfl
  rw [dbC, this]; omega
theorem dbL_get {L : Nat} {R c0 : Int} {j : Nat} (h : j < L) : (dbL L R c0 j).getD j 0 = R / pv16 j % 65536 := by
  simp [dbL, List.getD_eq_getElem?_getD, h]
theorem dbL_step {L : Nat} {R c0 : Int} {j : Nat} (h : j < L) : (dbL L R c0 j).set j ((2 * R + c0) / pv16 j % 65536) = dbL L R c0 (j + 1) := by
  refine List.ext_getElem (by simp [dbL]) fun t h1 h2 => ?_
  rw [List.getElem_set]
  by_cases e : j = t
  · subst e
    rw [if_pos rfl]
    simp [dbL]
  · rw [if_neg e]
    simp only [dbL, List.getElem_map, List.getElem_range]
    by_cases h3 : t < j
    · rw [if_pos h3, if_pos (by omega)]
    · rw [if_neg h3, if_neg (by omega)]
theorem pv16_S (j : Nat) : pv16 (j + 1) = pv16 j * 65536 := by simp only [pv16]; omega
theorem db_step (R c0 : Int) (j : Nat) : (2 * (R / pv16 j % 65536) + dbC R c0 j) % 65536 = (2 * R + c0) / pv16 j % 65536 ∧ (2 * (R / pv16 j % 65536) + dbC R c0 j) / 65536 = dbC R c0 (j + 1) := by
  have hp := pv16_pos j
  have e1 : (2 * R + c0) / pv16 (j + 1) = (2 * R + c0) / pv16 j / 65536 := by rw [pv16_S, Int.ediv_ediv_of_nonneg (Int.le_of_lt hp)]
  have e2 : R / pv16 (j + 1) = R / pv16 j / 65536 := by rw [pv16_S, Int.ediv_ediv_of_nonneg (Int.le_of_lt hp)]
  unfold dbC
  rw [e1, e2]
  generalize (2 * R + c0) / pv16 j = X
  generalize R / pv16 j = A
  omega
theorem dbC_bd {R c0 : Int} (h0 : 0 ≤ c0) (h1 : c0 ≤ 1) : ∀ j, 0 ≤ dbC R c0 j ∧ dbC R c0 j ≤ 1
  | 0 => by rw [dbC_zero]; exact ⟨h0, h1⟩
  | j + 1 => by
    have h := dbC_bd (R := R) h0 h1 j
    rw [← (db_step R c0 j).2]
    omega
theorem shl_or {w c : Int} (hw0 : 0 ≤ w) (hw : w < 65536) (hc0 : 0 ≤ c) (hc : c ≤ 1) : bitOp .or .u32 (IntKind.u32.wrap (w * 2 ^ min (1 : Nat) IntKind.u32.bits)) c = 2 * w + c := by
  have e : IntKind.u32.wrap (w * 2 ^ min (1 : Nat) IntKind.u32.bits) = 2 * w := by
    show IntKind.u32.wrap (w * 2) = _
    rw [wrap_u32 (by omega) (by omega)]; omega
  rw [e]
  obtain ⟨n, rfl⟩ := Int.eq_ofNat_of_zero_le hw0
  obtain ⟨m, rfl⟩ := Int.eq_ofNat_of_zero_le hc0
  show IntKind.u32.wrap ((BitVec.ofInt IntKind.u32.bits (2 * (n : Int)) ||| BitVec.ofInt IntKind.u32.bits (m : Int)).toNat : Int) = _
  have e1 : BitVec.ofInt IntKind.u32.bits (2 * (n : Int)) = BitVec.ofNat IntKind.u32.bits (2 * n) := by
    rw [show (2 * (n : Int)) = ((2 * n : Nat) : Int) by omega]; exact BitVec.ofInt_natCast _ _
  have e2 : BitVec.ofInt IntKind.u32.bits (m : Int) = BitVec.ofNat IntKind.u32.bits m := BitVec.ofInt_natCast _ _
  rw [e1, e2, BitVec.toNat_or, BitVec.toNat_ofNat, BitVec.toNat_ofNat, Nat.mod_eq_of_lt (show 2 * n < 2 ^ IntKind.u32.bits by show _ < 4294967296; omega), Nat.mod_eq_of_lt (show m < 2 ^ IntKind.u32.bits by show _ < 4294967296; omega)]
  have e3 : 2 * n ||| m = 2 * n + m := by
    have hm : m = 0 ∨ m = 1 := by omega
    rcases hm with rfl | rfl
    · simp
    · have := Nat.two_pow_add_eq_or_of_lt (i := 1) (b := 1) (by decide) n
      rw [Nat.pow_one] at this
      exact this.symm
  rw [e3, wrap_u32 (by omega) (by omega)]; omega
/-- The next remainder. -/
theorem mod_next {R c0 N : Int} (hR0 : 0 ≤ R) (hR : R < N) (h0 : 0 ≤ c0) (h1 : c0 ≤ 1) : (2 * R + c0) % N = if 2 * R + c0 < N then 2 * R + c0 else 2 * R + c0 - N := by
  split
  · rw [Int.emod_eq_of_lt (by omega) (by omega)]
  · rw [← Int.sub_emod_right, Int.emod_eq_of_lt (by omega) (by omega)]
theorem mod_bits (A N : Int) (k : Nat) : A / 2 ^ k % N = (2 * (A / 2 ^ (k + 1) % N) + A / 2 ^ k % 2) % N := by
  have e : A / 2 ^ k = 2 * (A / 2 ^ (k + 1)) + A / 2 ^ k % 2 := by
    have : A / 2 ^ (k + 1) = A / 2 ^ k / 2 := by
      rw [Int.pow_succ, Int.ediv_ediv_of_nonneg (Int.le_of_lt (Int.pow_pos (by decide)))]
    rw [this]; omega
  conv => lhs; rw [e]
  generalize A / 2 ^ (k + 1) = x
  generalize A / 2 ^ k % 2 = y
  have h := Int.mul_ediv_add_emod x N
  have e2 : 2 * x + y = (2 * (x % N) + y) + N * (2 * (x / N)) := by
    have e3 : N * (2 * (x / N)) = 2 * (N * (x / N)) := by ac_rfl
    rw [e3]; omega
  rw [e2, Int.add_mul_emod_self_left]
noncomputable def moI (a m : List Int) (g : Int × Nat × List Int) : St := mkSt Tryd.f19.ntmps 88 [(0, .is (.one (.ro (.int .u32) a))), (1, .is (.one (.ro (.int .u32) m))), (5, .is (.one (.sl 32 0 0 g.2.1 1))), (6, sI .i64 g.1)] [(32, [.ints .u32 g.2.1 g.2.2])]
noncomputable def moD (a m : List Int) (i : Int) (L : Nat) (g : Int × List Int × Int) : St := mkSt Tryd.f19.ntmps 88 [(0, .is (.one (.ro (.int .u32) a))), (1, .is (.one (.ro (.int .u32) m))), (5, .is (.one (.sl 32 0 0 L 1))), (6, sI .i64 i), (7, sI .u32 g.2.2), (33, sI .i64 L), (34, sI .i64 g.1)] [(32, [.ints .u32 L g.2.1])]
def moJ (a m : List Int) (g : Int × Nat × List Int) : Prop := ∃ k : Nat, k ≤ 16 * a.length ∧ g.1 = (k : Int) - 1 ∧ g.2.1 = m.length + 1 ∧ g.2.2 = w16 (m.length + 1) (v16 a / 2 ^ k % v16 m)
theorem fn_mod : FnOk Tryd.prog 19 [wsl, wsl] [.own (.int .u32)] noG preMod outMod := by
  have hsp : SpecsOk Tryd.prog (sps [spLess, spMinus]) := (sps_cons (fnSpec_ok fn_less) (sps_cons (fnSpec_ok fn_minus) sps_nil))
  refine fn_of_tr (sp := sps [spLess, spMinus]) ent_mod (by decide) (by decide) (by kernel_rfl) ?_
  rintro w M0 ⟨a, m, ⟨⟩⟩
  revert a m
  intro (a : List Int) (m : List Int) _ hp
  obtain ⟨⟨ha, hm, hla, hlm⟩, hM⟩ := hp
  have hla : a.length ≤ 1000000 := hla
  have hlm : m.length < 1000000 := hlm
  show Tr _ _ _ _ _ _ _
  have e1 : IntKind.i64.wrap ((m.length : Int) + 1) = ((m.length + 1 : Nat) : Int) := by rw [wrap_i64' (by omega) (by omega)]; omega
  have e2 : IntKind.i64.wrap (IntKind.i64.wrap (16 * (a.length : Int)) - 1) = ((16 * a.length : Nat) : Int) - 1 := by
    rw [wrap_i64' (a := 16 * (a.length : Int)) (by omega) (by omega), wrap_i64' (by omega) (by omega)]; omega
  have hV := v16_nn ha
  have hVm := v16_lt hm
  refine tr_cutF hsp mixed 3 (fun σ => (rdS (.int .i64) 6 σ, rdL 5 σ, rdR (.int .u32) 32 σ)) (moI a m) (fun g => g.1 = ((16 * a.length : Nat) : Int) - 1 ∧ g.2.1 = m.length + 1 ∧ g.2.2 = w16 (m.length + 1) 0) ?_ ?_
  · refine vcx (X := (((0 : Int) ≤ IntKind.i64.wrap ((↑m.length : Int) + (1 : Int)) ∧ IntKind.i64.wrap ((↑m.length : Int) + (1 : Int)) ≤ IntKind.i64.wrap ((↑m.length : Int) + (1 : Int)) ∧ (↑(4 : Nat) : Int) * IntKind.i64.wrap ((↑m.length : Int) + (1 : Int)) ≤ (281474976710656 : Int) ∧ IntKind.i64.wrap ((↑m.length : Int) + (1 : Int)) ≤ (9223372036854775807 : Int)) ∧ (moI a m (IntKind.i64.wrap (IntKind.i64.wrap ((16 : Int) * (↑a.length : Int)) - (1 : Int)), (IntKind.i64.wrap ((↑m.length : Int) + (1 : Int))).toNat, List.replicate (IntKind.i64.wrap ((↑m.length : Int) + (1 : Int))).toNat (0 : Int))).triv (IntKind.i64.wrap (IntKind.i64.wrap ((16 : Int) * (↑a.length : Int)) - (1 : Int)) = (↑((16 : Nat) * a.length) : Int) - (1 : Car (Kd.int IntKind.i64)) ∧ (IntKind.i64.wrap ((↑m.length : Int) + (1 : Int))).toNat = m.length + (1 : Nat) ∧ List.replicate (IntKind.i64.wrap ((↑m.length : Int) + (1 : Int))).toNat (0 : Int) = w16 (m.length + (1 : Nat)) (0 : Int)))) (by kernel_rfl) ?_
    simp only [e1, e2, Int.toNat_natCast]
    refine ⟨⟨by omega, by omega, by omega, by omega⟩, triv_intro ⟨by first | rfl | trivial, by first | rfl | trivial, ?_⟩⟩
    symm
    refine List.eq_replicate_iff.2 ⟨w16_len _ _, fun x hx => ?_⟩
    simp only [w16, List.mem_map] at hx
    obtain ⟨j, _, rfl⟩ := hx
    simp
  rintro ⟨i, L, l⟩ hK
  revert i l
  intro (i : Int) (l : List Int) ⟨h0, h1, h2⟩
  have h0 : i = ((16 * a.length : Nat) : Int) - 1 := h0
  have h1 : L = m.length + 1 := h1
  have h2 : l = w16 (m.length + 1) 0 := h2
  refine tr_whileT (fun σ => [(32, rdI 5 σ)]) (fun σ => (rdS (.int .i64) 6 σ, rdL 5 σ, rdR (.int .u32) 32 σ)) (moI a m) (moJ a m) (fun g => (g.1 + 1).toNat)
    (fun σ => (rdS (.int .i64) 6 σ, rdL 5 σ, rdR (.int .u32) 32 σ)) (moI a m) (fun g => g.2.1 = m.length + 1 ∧ g.2.2 = w16 (m.length + 1) (v16 a % v16 m)) (i, L, l) (c := nthC (codeOf Tryd.f19) 3) (by kernel_rfl) (by kernel_rfl) (le_of_proj (by kernel_rfl) (by kernel_rfl) ?_) ?_ ?_
  · refine ⟨16 * a.length, Nat.le_refl _, h0, h1, ?_⟩
    show l = _
    have hz : v16 a / 2 ^ (16 * a.length) = 0 := by
      rw [← pv16_two]
      exact Int.ediv_eq_zero_of_lt hV (v16_lt ha)
    rw [h2, hz, Int.zero_emod]
  · rintro ⟨i, L, l⟩ hj
    revert i l
    intro (i : Int) (l : List Int) ⟨k, hk, ei, eL, el⟩
    have ei : i = (k : Int) - 1 := ei
    subst ei
    have hL : L = m.length + 1 := eL
    have kl : l = w16 (m.length + 1) (v16 a / 2 ^ k % v16 m) := el
    refine tr_cut hsp mixed 2 (moI a m ((k : Int) - 1, L, l)) (1 ≤ k) ?_ (fun hk1 => ?_)
    · refine vcx (X := ((decide ((↑k : Int) - (1 : Int) ≥ (0 : Int)) = true → (moI a m ((↑k : Int) - (1 : Int), L, l)).triv ((1 : Nat) ≤ k)) ∧ (decide ((↑k : Int) - (1 : Int) ≥ (0 : Int)) = false → (moI a m ((↑k : Int) - (1 : Int), L, l)).triv (L = m.length + (1 : Nat) ∧ l = w16 (m.length + (1 : Nat)) (v16 a % v16 m))))) (by kernel_rfl) ?_
      refine ⟨fun h => triv_intro (by have := of_decide_eq_true h; omega), fun h => triv_intro ?_⟩
      have hk0 : k = 0 := by have := of_decide_eq_false h; omega
      refine ⟨hL, ?_⟩
      show l = _
      rw [kl, hk0]; simp
    refine tr_block (c := nthC (loopOf (nthC (codeOf Tryd.f19) 3)) 2) (by kernel_rfl) (by kernel_rfl) ?_
    obtain ⟨j, rfl⟩ : ∃ j, k = j + 1 := ⟨k - 1, by omega⟩
    have hR0 : 0 ≤ v16 a / 2 ^ (j + 1) % v16 m := Int.emod_nonneg _ (by omega)
    have hR1 : v16 a / 2 ^ (j + 1) % v16 m < v16 m := Int.emod_lt_of_pos _ hM
    have hb0 : 0 ≤ v16 a / 2 ^ j % 2 ∧ v16 a / 2 ^ j % 2 ≤ 1 := by omega
    have hnext := mod_bits (v16 a) (v16 m) j
    obtain ⟨R, hR⟩ : ∃ R, R = v16 a / 2 ^ (j + 1) % v16 m := ⟨_, rfl⟩
    obtain ⟨c0, hc0⟩ : ∃ c0, c0 = v16 a / 2 ^ j % 2 := ⟨_, rfl⟩
    rw [← hR] at kl hR0 hR1 hnext
    rw [← hc0] at hb0 hnext
    refine tr_cutF hsp mixed 2 (fun σ => rdS (.int .u32) 7 σ) (fun c => moD a m (((j + 1 : Nat) : Int) - 1) L (0, l, c)) (fun c => c = c0) ?_ ?_
    · have hj16 : j < 16 * a.length := by omega
      have i1 : ((j + 1 : Nat) : Int) - 1 = (j : Int) := by omega
      have i2 : IntKind.i64.wrap ((j : Int).tdiv 16) = ((j / 16 : Nat) : Int) := by
        rw [Int.tdiv_eq_ediv_of_nonneg (by omega), wrap_i64' (by omega) (by omega)]; rfl
      have i3 : IntKind.u64.wrap ((j : Int).tmod 16) = ((j % 16 : Nat) : Int) := by
        rw [Int.tmod_eq_emod_of_nonneg (by omega), wrap_u64 (by omega) (by omega)]; rfl
      refine vcx (X := (((16 : Int) = (0 : Int) → False) ∧ ((0 : Int) ≤ IntKind.i64.wrap (((↑(j + (1 : Nat)) : Int) - (1 : Int)).tdiv (16 : Int)) ∧ IntKind.i64.wrap (((↑(j + (1 : Nat)) : Int) - (1 : Int)).tdiv (16 : Int)) < (↑a.length : Int)) ∧ (IntKind.i64.wrap (((↑(j + (1 : Nat)) : Int) - (1 : Int)).tdiv (16 : Int))).toNat < a.length ∧ ((16 : Int) = (0 : Int) → False) ∧ (0 : Int) ≤ IntKind.u64.wrap (((↑(j + (1 : Nat)) : Int) - (1 : Int)).tmod (16 : Int)) ∧ (moD a m ((↑(j + (1 : Nat)) : Int) - (1 : Int)) L ((0 : Int), l, bitOp BinOp.and IntKind.u32 ((a.getD (IntKind.i64.wrap (((↑(j + (1 : Nat)) : Int) - (1 : Int)).tdiv (16 : Int))).toNat (0 : Int)).fdiv ((2 : Int) ^ min (IntKind.u64.wrap (((↑(j + (1 : Nat)) : Int) - (1 : Int)).tmod (16 : Int))).toNat IntKind.u32.bits)) (1 : Int))).triv (bitOp BinOp.and IntKind.u32 ((a.getD (IntKind.i64.wrap (((↑(j + (1 : Nat)) : Int) - (1 : Int)).tdiv (16 : Int))).toNat (0 : Int)).fdiv ((2 : Int) ^ min (IntKind.u64.wrap (((↑(j + (1 : Nat)) : Int) - (1 : Int)).tmod (16 : Int))).toNat IntKind.u32.bits)) (1 : Int) = c0))) (by kernel_rfl) ?_
      rw [i1, i2, i3]
      simp only [Int.toNat_natCast]
      have hlt : j / 16 < a.length := by omega
      have ga : a.getD (j / 16) 0 = v16 a / pv16 (j / 16) % 65536 := v16_get _ ha
      rw [ga, bit_of]
      exact ⟨by decide, ⟨by omega, by omega⟩, hlt, by decide, by omega, triv_intro hc0.symm⟩
    rintro c hc
    revert c
    intro (c : Int) (hc : c = c0)
    refine tr_while hsp mixed noSw (fun σ => (rdS (.int .i64) 34 σ, rdR (.int .u32) 32 σ, rdS (.int .u32) 7 σ)) (moD a m (((j + 1 : Nat) : Int) - 1) L) (fun g => ∃ t : Nat, t ≤ L ∧ g.1 = (t : Int) ∧ g.2.1 = dbL L R c0 t ∧ g.2.2 = dbC R c0 t) (fun g => L - g.1.toNat)
      (fun σ => (rdS (.int .i64) 34 σ, rdR (.int .u32) 32 σ, rdS (.int .u32) 7 σ)) (moD a m (((j + 1 : Nat) : Int) - 1) L) (fun g => g.2.1 = w16 L (2 * R + c0)) (0, l, c) (c := nthC (bodyOf (nthC (loopOf (nthC (codeOf Tryd.f19) 3)) 2)) 2) (by kernel_rfl) (by kernel_rfl) (le_of_proj (by kernel_rfl) (by kernel_rfl) ?_) ?_ ?_
    · exact ⟨0, Nat.zero_le _, rfl, by rw [dbL_zero, hL]; exact kl, by rw [dbC_zero]; exact hc⟩
    · rintro ⟨x, ys, c⟩ hj
      revert x ys c
      intro (x : Int) (ys : List Int) (c : Int) ⟨t, ht, ex, ey, ec⟩
      have ex : x = (t : Int) := ex
      have ky : ys = dbL L R c0 t := ey
      have kc : c = dbC R c0 t := ec
      subst ex
      have hc1 := dbC_bd (R := R) hb0.1 hb0.2 t
      rw [← kc] at hc1
      refine vcx (X := ((decide ((↑t : Int) < (↑L : Int)) = true → ((0 : Int) ≤ (↑t : Int) ∧ (↑t : Int) < (↑L : Int)) ∧ (↑t : Int).toNat < L ∧ (0 : Int) ≤ (1 : Int) ∧ ((0 : Int) ≤ (↑t : Int) ∧ (↑t : Int) < (↑L : Int)) ∧ (↑t : Int).toNat < L ∧ (0 : Int) ≤ (16 : Int) ∧ (moD a m ((↑(j + (1 : Nat)) : Int) - (1 : Int)) L (IntKind.i64.wrap ((↑t : Int) + (1 : Int)), ys.set (↑t : Int).toNat (bitOp BinOp.and IntKind.u32 (bitOp BinOp.or IntKind.u32 (IntKind.u32.wrap (ys.getD (↑t : Int).toNat (0 : Int) * (2 : Int) ^ min (1 : Nat) IntKind.u32.bits)) c) (65535 : Int)), (bitOp BinOp.or IntKind.u32 (IntKind.u32.wrap (ys.getD (↑t : Int).toNat (0 : Int) * (2 : Int) ^ min (1 : Nat) IntKind.u32.bits)) c).fdiv ((2 : Int) ^ min (16 : Nat) IntKind.u32.bits))).triv ((∃ t_1, t_1 ≤ L ∧ IntKind.i64.wrap ((↑t : Int) + (1 : Int)) = (↑t_1 : Int) ∧ ys.set (↑t : Int).toNat (bitOp BinOp.and IntKind.u32 (bitOp BinOp.or IntKind.u32 (IntKind.u32.wrap (ys.getD (↑t : Int).toNat (0 : Int) * (2 : Int) ^ min (1 : Nat) IntKind.u32.bits)) c) (65535 : Int)) = dbL L R c0 t_1 ∧ (bitOp BinOp.or IntKind.u32 (IntKind.u32.wrap (ys.getD (↑t : Int).toNat (0 : Int) * (2 : Int) ^ min (1 : Nat) IntKind.u32.bits)) c).fdiv ((2 : Int) ^ min (16 : Nat) IntKind.u32.bits) = dbC R c0 t_1) ∧ L - (IntKind.i64.wrap ((↑t : Int) + (1 : Int))).toNat < L - (↑t : Int).toNat)) ∧ (decide ((↑t : Int) < (↑L : Int)) = false → (moD a m ((↑(j + (1 : Nat)) : Int) - (1 : Int)) L ((↑t : Int), ys, c)).triv (ys = w16 L ((2 : Int) * R + c0))))) (by kernel_rfl) ?_
      simp only [Int.toNat_natCast]
      refine ⟨fun h => ?_, fun h => triv_intro ?_⟩
      · have hlt : t < L := by have := of_decide_eq_true h; omega
        have ew : ys.getD t 0 = R / pv16 t % 65536 := by rw [ky, dbL_get hlt]
        have es : bitOp BinOp.or IntKind.u32 (IntKind.u32.wrap (ys.getD t 0 * 2 ^ min 1 IntKind.u32.bits)) c = 2 * (R / pv16 t % 65536) + c := by rw [ew]; exact shl_or (by omega) (by omega) hc1.1 hc1.2
        obtain ⟨d1, d2⟩ := db_step R c0 t
        rw [← kc] at d1 d2
        rw [es, and16 (by omega) (by omega), shr16, d1, d2, wrap_succ (by omega)]
        refine ⟨⟨by omega, by omega⟩, hlt, by decide, ⟨by omega, by omega⟩, hlt, by decide, triv_intro ⟨⟨t + 1, hlt, rfl, ?_, rfl⟩, ?_⟩⟩
        · rw [ky, dbL_step hlt]
        · rw [Int.toNat_natCast]; omega
      · have hk2 : t = L := by have := of_decide_eq_false h; omega
        rw [ky, hk2, dbL_all]
    rintro ⟨x, ys, c⟩ hj
    revert x ys c
    intro (x : Int) (ys : List Int) (c : Int) (hys : ys = w16 L (2 * R + c0))
    refine tr_cutSF hsp mixed 2 (fun σ => [(32, rdI 5 σ)]) (fun σ => (rdL 5 σ, rdR (.int .u32) 32 σ)) (fun g => moI a m (((j + 1 : Nat) : Int) - 1, g.1, g.2)) (fun g => g.1 = L ∧ g.2 = w16 L (v16 a / 2 ^ j % v16 m)) ?_ ?_
    · have hV2 : 0 ≤ 2 * R + c0 ∧ 2 * R + c0 < pv16 L := by
        rw [hL, pv16_S]; omega
      have ly : ys.length = L := by rw [hys, w16_len]
      have ty : List.take L ys = ys := List.take_of_length_le (by omega)
      have vy : v16 ys = 2 * R + c0 := by rw [hys, v16_w16, Int.emod_eq_of_lt hV2.1 hV2.2]
      have py : preW2 (ys, m, ()) := ⟨by rw [hys]; exact w16_W _ _, hm, by show ys.length ≤ _; omega, by show m.length ≤ _; omega⟩
      have hnx := mod_next hR0 hR1 hb0.1 hb0.2
      refine vcx (X := ((0 : Nat) + L ≤ L ∧ preW2 (List.take L ys, m, ()) ∧ ((!decide (v16 (List.take L ys) < v16 m)) = true → (0 : Nat) + L ≤ L ∧ preW2 (List.take L ys, m, ()) ∧ (moI a m ((↑(j + (1 : Nat)) : Int) - (1 : Int), ((minusF (List.take L ys) m).length, minusF (List.take L ys) m).fst, ((minusF (List.take L ys) m).length, minusF (List.take L ys) m).snd)).triv ((minusF (List.take L ys) m).length = L ∧ minusF (List.take L ys) m = w16 L (v16 a / (2 : Int) ^ j % v16 m))) ∧ ((!decide (v16 (List.take L ys) < v16 m)) = false → (moI a m ((↑(j + (1 : Nat)) : Int) - (1 : Int), (L, ys).fst, (L, ys).snd)).triv (L = L ∧ ys = w16 L (v16 a / (2 : Int) ^ j % v16 m))))) (by kernel_rfl) ?_
      rw [ty, vy, hnext, hnx]
      refine ⟨Nat.le_of_eq (Nat.zero_add _), py, fun h => ⟨Nat.le_of_eq (Nat.zero_add _), py, triv_intro ⟨?_, ?_⟩⟩, fun h => triv_intro ⟨rfl, ?_⟩⟩
      · show (minusF ys m).length = L
        rw [minusF, w16_len, ly]
      · have h2 : ¬ 2 * R + c0 < v16 m := by simpa using h
        show minusF ys m = _
        rw [if_neg h2, minusF, ly, vy]
      · have h2 : 2 * R + c0 < v16 m := by simpa using h
        rw [if_pos h2]; exact hys
    rintro ⟨L', l'⟩ hj
    revert l'
    intro (l' : List Int) ⟨hL', hl'⟩
    have hL' : L' = L := hL'
    have hl' : l' = w16 L (v16 a / 2 ^ j % v16 m) := hl'
    refine tr_nil ?_
    refine tr_vc hsp mixed _ _ ?_
    refine vcx (X := ((moI a m (IntKind.i64.wrap ((↑(j + (1 : Nat)) : Int) - (1 : Int) - (1 : Int)), L', l')).triv (moJ a m (IntKind.i64.wrap ((↑(j + (1 : Nat)) : Int) - (1 : Int) - (1 : Int)), L', l') ∧ Int.toNat (IntKind.i64.wrap ((↑(j + (1 : Nat)) : Int) - (1 : Int) - (1 : Int)) + (1 : Car (Kd.int IntKind.i64))) < Int.toNat ((↑(j + (1 : Nat)) : Int) - (1 : Int) + (1 : Car (Kd.int IntKind.i64)))))) (by kernel_rfl) ?_
    have i1 : IntKind.i64.wrap (((j + 1 : Nat) : Int) - 1 - 1) = (j : Int) - 1 := by rw [wrap_i64' (by omega) (by omega)]; omega
    rw [i1]
    refine triv_intro ⟨⟨j, by omega, rfl, by show L' = _; omega, ?_⟩, by omega⟩
    show l' = _
    rw [hl', hL]
  rintro ⟨i, L, l⟩ hj
  revert i l
  intro (i : Int) (l : List Int) ⟨j1, j2⟩
  have j1 : L = m.length + 1 := j1
  have j2 : l = w16 (m.length + 1) (v16 a % v16 m) := j2
  refine tr_vc hsp mixed _ _ ?_
  refine vcx (X := (((0 : Int) ≤ (↑m.length : Int) ∧ (↑m.length : Int) ≤ (↑L : Int)) ∧ (0 : Nat) + ((↑m.length : Int) - (0 : Int)).toNat ≤ L ∧ (List.take ((↑m.length : Int) - (0 : Int)).toNat l, ()) = outMod (a, m, ()))) (by kernel_rfl) ?_
  have e3 : ((m.length : Int) - 0).toNat = m.length := by omega
  rw [e3, j2]
  refine ⟨⟨by omega, by omega⟩, by omega, ?_⟩
  show (_, ()) = (modF a m, ())
  rw [w16_succ, List.take_left' (w16_len _ _), modF]
end Go.Proofs.YtbfimfdhmggieaaDoor.ref03
/- ref03: Hex, Modulus. -/
namespace Go.Proofs.YtbfimfdhmggieaaDoor.ref03
set_option maxRecDepth 100000
open Go Go.Eng Go.RowKit Cr Go.Proofs.YtbfimfdhmggieaaDoor
def hxC (s : ByteArray) (k : Nat) : Int := (sbytes s).getD (s.size - 1 - k) 0
def hxD (c : Int) : Int := if c ≥ 97 then IntKind.u32.wrap (IntKind.u32.wrap (IntKind.u32.wrap c - 97) + 10) else IntKind.u32.wrap (IntKind.u32.wrap c - 48)
def hxA (n : Nat) (xs : List Int) : List Int := if n % 4 = 0 then xs ++ [0] else xs
def hxW (n : Nat) (xs : List Int) (d : Int) : List Int := xs.set (n / 4) (bitOp .or .u32 (xs.getD (n / 4) 0) (IntKind.u32.wrap (d * 2 ^ min (4 * (n % 4)) IntKind.u32.bits)))
def hxS (s : ByteArray) (k : Nat) (g : Nat × List Int) : Nat × List Int := if hxC s k = 32 then g else (g.1 + 1, hxW g.1 (hxA g.1 g.2) (hxD (hxC s k)))
def hxK (s : ByteArray) (k : Nat) : Nat × List Int := it (hxS s) (0, []) k
theorem hxA_len {n : Nat} {xs : List Int} (h : xs.length = (n + 3) / 4) : (hxA n xs).length = n / 4 + 1 := by
  unfold hxA
  split
  · rw [List.length_append, h]; show _ + 1 = _; omega
  · omega
theorem hxK_len (s : ByteArray) : ∀ k, (hxK s k).2.length = ((hxK s k).1 + 3) / 4 ∧ (hxK s k).1 ≤ k
  | 0 => ⟨by show (0 : Nat) = (0 + 3) / 4; decide, Nat.le_refl _⟩
  | k + 1 => by
    have h := hxK_len s k
    show (hxS s k (hxK s k)).2.length = ((hxS s k (hxK s k)).1 + 3) / 4 ∧ (hxS s k (hxK s k)).1 ≤ k + 1
    unfold hxS
    split
    · exact ⟨h.1, by omega⟩
    · refine ⟨?_, by show _ + 1 ≤ _; omega⟩
      show (hxW _ _ _).length = ((hxK s k).1 + 1 + 3) / 4
      rw [hxW, List.length_set, hxA_len h.1]; omega
theorem ent_hex : enters Tryd.prog 50 Tryd.f50 := enters_mk (by kernel_rfl) (by kernel_rfl) (by kernel_rfl)
noncomputable def hxI (s : ByteArray) (g : Int × Int × Nat × List Int) : St := mkSt Tryd.f50.ntmps 64 [(0, .is (.one (.v (.string s)))), (3, .is (.one (.sl 8 0 0 g.2.2.1 1))), (4, sI .i64 g.2.1), (5, sI .i64 g.1)] [(8, [.ints .u32 g.2.2.1 g.2.2.2])]
theorem fn_hex : FnOk Tryd.prog 50 [.str] [.own (.int .u32)] noG (fun (s, _) => ByteArray.size s ≤ 1000) (fun (s, _) => ((hxK s (ByteArray.size s)).2, ())) := by
  have hsp : SpecsOk Tryd.prog (sps []) := sps_nil
  refine fn_of_tr (sp := sps []) ent_hex (by decide) (by decide) (by kernel_rfl) ?_
  rintro w M0 ⟨s, ⟨⟩⟩
  revert s
  intro (s : ByteArray) _ hs
  have hs : s.size ≤ 1000 := hs
  show Tr _ _ _ _ _ _ _
  have ew : IntKind.i64.wrap ((s.size : Int) - 1) = (s.size : Int) - 1 := wrap_i64' (by omega) (by omega)
  refine tr_cut hsp mixed 4 (hxI s ((s.size : Int) - 1, 0, 0, [])) True ?_ (fun _ => ?_)
  · rw [← ew]
    refine vcx (X := ((hxI s (IntKind.i64.wrap ((↑s.size : Int) - (1 : Int)), (0 : Int), (0 : Nat), [])).triv True)) (by kernel_rfl) ?_
    exact triv_intro trivial
  refine tr_while hsp mixed (fun σ => [(8, rdI 3 σ)]) (fun σ => (rdS (.int .i64) 5 σ, rdS (.int .i64) 4 σ, rdL 3 σ, rdR (.int .u32) 8 σ)) (hxI s) (fun g => ∃ k : Nat, k ≤ s.size ∧ g.1 = (s.size : Int) - 1 - (k : Int) ∧ g.2.1 = ((hxK s k).1 : Int) ∧ g.2.2.1 = (hxK s k).2.length ∧ g.2.2.2 = (hxK s k).2) (fun g => (g.1 + 1).toNat)
    (fun σ => (rdS (.int .i64) 5 σ, rdS (.int .i64) 4 σ, rdL 3 σ, rdR (.int .u32) 8 σ)) (hxI s) (fun g => g.2.2.1 = (hxK s s.size).2.length ∧ g.2.2.2 = (hxK s s.size).2) ((s.size : Int) - 1, 0, 0, []) (c := nthC (codeOf Tryd.f50) 4) (by kernel_rfl) (by kernel_rfl) (le_of_proj (by kernel_rfl) (by kernel_rfl) ?_) ?_ ?_
  · exact ⟨0, Nat.zero_le _, by show (s.size : Int) - 1 = _; omega, rfl, rfl, rfl⟩
  · rintro ⟨i, n, L, xs⟩ hj
    revert i n xs
    intro (i : Int) (n : Int) (xs : List Int) ⟨k, hk, ei, en, eL, ex⟩
    have ki : i = (s.size : Int) - 1 - (k : Int) := ei
    have kn : n = ((hxK s k).1 : Int) := en
    have kL : L = (hxK s k).2.length := eL
    have kx : xs = (hxK s k).2 := ex
    obtain ⟨hl1, hl2⟩ := hxK_len s k
    obtain ⟨N, hN⟩ : ∃ N, N = (hxK s k).1 := ⟨_, rfl⟩
    have hK : hxK s k = (N, xs) := by rw [hN, kx]
    rw [← kx] at kL hl1
    rw [← hN] at kn hl1 hl2
    subst kn kL
    have t1 : ((N : Int).tmod 4) = ((N % 4 : Nat) : Int) := by rw [Int.tmod_eq_emod_of_nonneg (by omega)]; rfl
    have t2 : IntKind.i64.wrap ((N : Int).tdiv 4) = ((N / 4 : Nat) : Int) := by
      rw [Int.tdiv_eq_ediv_of_nonneg (by omega), wrap_i64' (by omega) (by omega)]; rfl
    have t3 : IntKind.u64.wrap (IntKind.i64.wrap (4 * ((N % 4 : Nat) : Int))) = ((4 * (N % 4) : Nat) : Int) := by
      rw [wrap_i64' (by omega) (by omega), wrap_u64 (by omega) (by omega)]; omega
    have t4 : List.take xs.length xs = xs := List.take_length
    have t5 : List.take 1 [(0 : Int)] = [0] := rfl
    have t6 : IntKind.i64.wrap ((N : Int) + 1) = ((N + 1 : Nat) : Int) := wrap_succ (by omega)
    refine vcx (X := ((decide (i ≥ (0 : Int)) = true → ((0 : Int) ≤ i ∧ i < (↑s.size : Int)) ∧ (((sbytes s).getD i.toNat (0 : Int) == (32 : Int)) = true → (hxI s (IntKind.i64.wrap (i - (1 : Int)), (↑N : Int), xs.length, xs)).triv ((∃ k, k ≤ s.size ∧ IntKind.i64.wrap (i - (1 : Int)) = (↑s.size : Int) - (1 : Car (Kd.int IntKind.i64)) - (↑k : Int) ∧ (↑N : Int) = (↑(hxK s k).fst : Int) ∧ xs.length = (hxK s k).snd.length ∧ xs = (hxK s k).snd) ∧ Int.toNat (IntKind.i64.wrap (i - (1 : Int)) + (1 : Car (Kd.int IntKind.i64))) < Int.toNat (i + (1 : Car (Kd.int IntKind.i64))))) ∧ (((sbytes s).getD i.toNat (0 : Int) == (32 : Int)) = false → (decide ((sbytes s).getD i.toNat (0 : Int) ≥ (97 : Int)) = true → ((4 : Int) = (0 : Int) → False) ∧ (((↑N : Int).tmod (4 : Int) == (0 : Int)) = true → (0 : Nat) + (1 : Nat) ≤ (1 : Nat) ∧ xs.length ≤ xs.length ∧ (xs.length + (1 : Nat)) * (4 : Nat) ≤ (140737488355328 : Nat) ∧ xs.length + (1 : Nat) ≤ (4611686018427387904 : Nat) ∧ ((4 : Int) = (0 : Int) → False) ∧ ((0 : Int) ≤ IntKind.i64.wrap ((↑N : Int).tdiv (4 : Int)) ∧ IntKind.i64.wrap ((↑N : Int).tdiv (4 : Int)) < (↑(xs.length + (1 : Nat)) : Int)) ∧ (IntKind.i64.wrap ((↑N : Int).tdiv (4 : Int))).toNat < xs.length + (1 : Nat) ∧ ((4 : Int) = (0 : Int) → False) ∧ (0 : Int) ≤ IntKind.u64.wrap (IntKind.i64.wrap ((4 : Int) * (↑N : Int).tmod (4 : Int))) ∧ ((0 : Int) ≤ IntKind.i64.wrap ((↑N : Int).tdiv (4 : Int)) ∧ IntKind.i64.wrap ((↑N : Int).tdiv (4 : Int)) < (↑(xs.length + (1 : Nat)) : Int)) ∧ (IntKind.i64.wrap ((↑N : Int).tdiv (4 : Int))).toNat < xs.length + (1 : Nat) ∧ (hxI s (IntKind.i64.wrap (i - (1 : Int)), IntKind.i64.wrap ((↑N : Int) + (1 : Int)), xs.length + (1 : Nat), (List.take xs.length xs ++ List.take (1 : Nat) [(0 : Int)]).set (IntKind.i64.wrap ((↑N : Int).tdiv (4 : Int))).toNat (bitOp BinOp.or IntKind.u32 ((List.take xs.length xs ++ List.take (1 : Nat) [(0 : Int)]).getD (IntKind.i64.wrap ((↑N : Int).tdiv (4 : Int))).toNat (0 : Int)) (IntKind.u32.wrap (IntKind.u32.wrap (IntKind.u32.wrap (IntKind.u32.wrap ((sbytes s).getD i.toNat (0 : Int)) - (97 : Int)) + (10 : Int)) * (2 : Int) ^ min (IntKind.u64.wrap (IntKind.i64.wrap ((4 : Int) * (↑N : Int).tmod (4 : Int)))).toNat IntKind.u32.bits))))).triv ((∃ k, k ≤ s.size ∧ IntKind.i64.wrap (i - (1 : Int)) = (↑s.size : Int) - (1 : Car (Kd.int IntKind.i64)) - (↑k : Int) ∧ IntKind.i64.wrap ((↑N : Int) + (1 : Int)) = (↑(hxK s k).fst : Int) ∧ xs.length + (1 : Nat) = (hxK s k).snd.length ∧ (List.take xs.length xs ++ List.take (1 : Nat) [(0 : Int)]).set (IntKind.i64.wrap ((↑N : Int).tdiv (4 : Int))).toNat (bitOp BinOp.or IntKind.u32 ((List.take xs.length xs ++ List.take (1 : Nat) [(0 : Int)]).getD (IntKind.i64.wrap ((↑N : Int).tdiv (4 : Int))).toNat (0 : Int)) (IntKind.u32.wrap (IntKind.u32.wrap (IntKind.u32.wrap (IntKind.u32.wrap ((sbytes s).getD i.toNat (0 : Int)) - (97 : Int)) + (10 : Int)) * (2 : Int) ^ min (IntKind.u64.wrap (IntKind.i64.wrap ((4 : Int) * (↑N : Int).tmod (4 : Int)))).toNat IntKind.u32.bits))) = (hxK s k).snd) ∧ Int.toNat (IntKind.i64.wrap (i - (1 : Int)) + (1 : Car (Kd.int IntKind.i64))) < Int.toNat (i + (1 : Car (Kd.int IntKind.i64))))) ∧ (((↑N : Int).tmod (4 : Int) == (0 : Int)) = false → ((4 : Int) = (0 : Int) → False) ∧ ((0 : Int) ≤ IntKind.i64.wrap ((↑N : Int).tdiv (4 : Int)) ∧ IntKind.i64.wrap ((↑N : Int).tdiv (4 : Int)) < (↑xs.length : Int)) ∧ (IntKind.i64.wrap ((↑N : Int).tdiv (4 : Int))).toNat < xs.length ∧ ((4 : Int) = (0 : Int) → False) ∧ (0 : Int) ≤ IntKind.u64.wrap (IntKind.i64.wrap ((4 : Int) * (↑N : Int).tmod (4 : Int))) ∧ ((0 : Int) ≤ IntKind.i64.wrap ((↑N : Int).tdiv (4 : Int)) ∧ IntKind.i64.wrap ((↑N : Int).tdiv (4 : Int)) < (↑xs.length : Int)) ∧ (IntKind.i64.wrap ((↑N : Int).tdiv (4 : Int))).toNat < xs.length ∧ (hxI s (IntKind.i64.wrap (i - (1 : Int)), IntKind.i64.wrap ((↑N : Int) + (1 : Int)), xs.length, xs.set (IntKind.i64.wrap ((↑N : Int).tdiv (4 : Int))).toNat (bitOp BinOp.or IntKind.u32 (xs.getD (IntKind.i64.wrap ((↑N : Int).tdiv (4 : Int))).toNat (0 : Int)) (IntKind.u32.wrap (IntKind.u32.wrap (IntKind.u32.wrap (IntKind.u32.wrap ((sbytes s).getD i.toNat (0 : Int)) - (97 : Int)) + (10 : Int)) * (2 : Int) ^ min (IntKind.u64.wrap (IntKind.i64.wrap ((4 : Int) * (↑N : Int).tmod (4 : Int)))).toNat IntKind.u32.bits))))).triv ((∃ k, k ≤ s.size ∧ IntKind.i64.wrap (i - (1 : Int)) = (↑s.size : Int) - (1 : Car (Kd.int IntKind.i64)) - (↑k : Int) ∧ IntKind.i64.wrap ((↑N : Int) + (1 : Int)) = (↑(hxK s k).fst : Int) ∧ xs.length = (hxK s k).snd.length ∧ xs.set (IntKind.i64.wrap ((↑N : Int).tdiv (4 : Int))).toNat (bitOp BinOp.or IntKind.u32 (xs.getD (IntKind.i64.wrap ((↑N : Int).tdiv (4 : Int))).toNat (0 : Int)) (IntKind.u32.wrap (IntKind.u32.wrap (IntKind.u32.wrap (IntKind.u32.wrap ((sbytes s).getD i.toNat (0 : Int)) - (97 : Int)) + (10 : Int)) * (2 : Int) ^ min (IntKind.u64.wrap (IntKind.i64.wrap ((4 : Int) * (↑N : Int).tmod (4 : Int)))).toNat IntKind.u32.bits))) = (hxK s k).snd) ∧ Int.toNat (IntKind.i64.wrap (i - (1 : Int)) + (1 : Car (Kd.int IntKind.i64))) < Int.toNat (i + (1 : Car (Kd.int IntKind.i64)))))) ∧ (decide ((sbytes s).getD i.toNat (0 : Int) ≥ (97 : Int)) = false → ((4 : Int) = (0 : Int) → False) ∧ (((↑N : Int).tmod (4 : Int) == (0 : Int)) = true → (0 : Nat) + (1 : Nat) ≤ (1 : Nat) ∧ xs.length ≤ xs.length ∧ (xs.length + (1 : Nat)) * (4 : Nat) ≤ (140737488355328 : Nat) ∧ xs.length + (1 : Nat) ≤ (4611686018427387904 : Nat) ∧ ((4 : Int) = (0 : Int) → False) ∧ ((0 : Int) ≤ IntKind.i64.wrap ((↑N : Int).tdiv (4 : Int)) ∧ IntKind.i64.wrap ((↑N : Int).tdiv (4 : Int)) < (↑(xs.length + (1 : Nat)) : Int)) ∧ (IntKind.i64.wrap ((↑N : Int).tdiv (4 : Int))).toNat < xs.length + (1 : Nat) ∧ ((4 : Int) = (0 : Int) → False) ∧ (0 : Int) ≤ IntKind.u64.wrap (IntKind.i64.wrap ((4 : Int) * (↑N : Int).tmod (4 : Int))) ∧ ((0 : Int) ≤ IntKind.i64.wrap ((↑N : Int).tdiv (4 : Int)) ∧ IntKind.i64.wrap ((↑N : Int).tdiv (4 : Int)) < (↑(xs.length + (1 : Nat)) : Int)) ∧ (IntKind.i64.wrap ((↑N : Int).tdiv (4 : Int))).toNat < xs.length + (1 : Nat) ∧ (hxI s (IntKind.i64.wrap (i - (1 : Int)), IntKind.i64.wrap ((↑N : Int) + (1 : Int)), xs.length + (1 : Nat), (List.take xs.length xs ++ List.take (1 : Nat) [(0 : Int)]).set (IntKind.i64.wrap ((↑N : Int).tdiv (4 : Int))).toNat (bitOp BinOp.or IntKind.u32 ((List.take xs.length xs ++ List.take (1 : Nat) [(0 : Int)]).getD (IntKind.i64.wrap ((↑N : Int).tdiv (4 : Int))).toNat (0 : Int)) (IntKind.u32.wrap (IntKind.u32.wrap (IntKind.u32.wrap ((sbytes s).getD i.toNat (0 : Int)) - (48 : Int)) * (2 : Int) ^ min (IntKind.u64.wrap (IntKind.i64.wrap ((4 : Int) * (↑N : Int).tmod (4 : Int)))).toNat IntKind.u32.bits))))).triv ((∃ k, k ≤ s.size ∧ IntKind.i64.wrap (i - (1 : Int)) = (↑s.size : Int) - (1 : Car (Kd.int IntKind.i64)) - (↑k : Int) ∧ IntKind.i64.wrap ((↑N : Int) + (1 : Int)) = (↑(hxK s k).fst : Int) ∧ xs.length + (1 : Nat) = (hxK s k).snd.length ∧ (List.take xs.length xs ++ List.take (1 : Nat) [(0 : Int)]).set (IntKind.i64.wrap ((↑N : Int).tdiv (4 : Int))).toNat (bitOp BinOp.or IntKind.u32 ((List.take xs.length xs ++ List.take (1 : Nat) [(0 : Int)]).getD (IntKind.i64.wrap ((↑N : Int).tdiv (4 : Int))).toNat (0 : Int)) (IntKind.u32.wrap (IntKind.u32.wrap (IntKind.u32.wrap ((sbytes s).getD i.toNat (0 : Int)) - (48 : Int)) * (2 : Int) ^ min (IntKind.u64.wrap (IntKind.i64.wrap ((4 : Int) * (↑N : Int).tmod (4 : Int)))).toNat IntKind.u32.bits))) = (hxK s k).snd) ∧ Int.toNat (IntKind.i64.wrap (i - (1 : Int)) + (1 : Car (Kd.int IntKind.i64))) < Int.toNat (i + (1 : Car (Kd.int IntKind.i64))))) ∧ (((↑N : Int).tmod (4 : Int) == (0 : Int)) = false → ((4 : Int) = (0 : Int) → False) ∧ ((0 : Int) ≤ IntKind.i64.wrap ((↑N : Int).tdiv (4 : Int)) ∧ IntKind.i64.wrap ((↑N : Int).tdiv (4 : Int)) < (↑xs.length : Int)) ∧ (IntKind.i64.wrap ((↑N : Int).tdiv (4 : Int))).toNat < xs.length ∧ ((4 : Int) = (0 : Int) → False) ∧ (0 : Int) ≤ IntKind.u64.wrap (IntKind.i64.wrap ((4 : Int) * (↑N : Int).tmod (4 : Int))) ∧ ((0 : Int) ≤ IntKind.i64.wrap ((↑N : Int).tdiv (4 : Int)) ∧ IntKind.i64.wrap ((↑N : Int).tdiv (4 : Int)) < (↑xs.length : Int)) ∧ (IntKind.i64.wrap ((↑N : Int).tdiv (4 : Int))).toNat < xs.length ∧ (hxI s (IntKind.i64.wrap (i - (1 : Int)), IntKind.i64.wrap ((↑N : Int) + (1 : Int)), xs.length, xs.set (IntKind.i64.wrap ((↑N : Int).tdiv (4 : Int))).toNat (bitOp BinOp.or IntKind.u32 (xs.getD (IntKind.i64.wrap ((↑N : Int).tdiv (4 : Int))).toNat (0 : Int)) (IntKind.u32.wrap (IntKind.u32.wrap (IntKind.u32.wrap ((sbytes s).getD i.toNat (0 : Int)) - (48 : Int)) * (2 : Int) ^ min (IntKind.u64.wrap (IntKind.i64.wrap ((4 : Int) * (↑N : Int).tmod (4 : Int)))).toNat IntKind.u32.bits))))).triv ((∃ k, k ≤ s.size ∧ IntKind.i64.wrap (i - (1 : Int)) = (↑s.size : Int) - (1 : Car (Kd.int IntKind.i64)) - (↑k : Int) ∧ IntKind.i64.wrap ((↑N : Int) + (1 : Int)) = (↑(hxK s k).fst : Int) ∧ xs.length = (hxK s k).snd.length ∧ xs.set (IntKind.i64.wrap ((↑N : Int).tdiv (4 : Int))).toNat (bitOp BinOp.or IntKind.u32 (xs.getD (IntKind.i64.wrap ((↑N : Int).tdiv (4 : Int))).toNat (0 : Int)) (IntKind.u32.wrap (IntKind.u32.wrap (IntKind.u32.wrap ((sbytes s).getD i.toNat (0 : Int)) - (48 : Int)) * (2 : Int) ^ min (IntKind.u64.wrap (IntKind.i64.wrap ((4 : Int) * (↑N : Int).tmod (4 : Int)))).toNat IntKind.u32.bits))) = (hxK s k).snd) ∧ Int.toNat (IntKind.i64.wrap (i - (1 : Int)) + (1 : Car (Kd.int IntKind.i64))) < Int.toNat (i + (1 : Car (Kd.int IntKind.i64)))))))) ∧ (decide (i ≥ (0 : Int)) = false → (hxI s (i, (↑N : Int), xs.length, xs)).triv (xs.length = (hxK s s.size).snd.length ∧ xs = (hxK s s.size).snd)))) (by kernel_rfl) ?_
    rw [t1, t2, t3, t4, t5, t6]
    simp only [Int.toNat_natCast]
    refine ⟨fun h => ?_, fun h => triv_intro ?_⟩
    · have h0 : 0 ≤ i := of_decide_eq_true h
      have hlt : k < s.size := by omega
      have ei2 : i.toNat = s.size - 1 - k := by omega
      have ew2 : IntKind.i64.wrap (i - 1) = (s.size : Int) - 1 - ((k + 1 : Nat) : Int) := by rw [wrap_i64' (by omega) (by omega)]; omega
      rw [ei2, ew2]
      obtain ⟨c, hc⟩ : ∃ c, c = hxC s k := ⟨_, rfl⟩
      have hc2 : (sbytes s).getD (s.size - 1 - k) 0 = c := hc.symm
      rw [hc2]
      have hme : ((s.size : Int) - 1 - ((k + 1 : Nat) : Int) + 1).toNat < (i + 1).toNat := by omega
      have hnx : hxK s (k + 1) = hxS s k (N, xs) := by show hxS s k (hxK s k) = _; rw [hK]
      have key : ∀ (d : Int) (zs : List Int) (Lz : Nat), ¬ c = 32 → hxD c = d → hxA N xs = zs → Lz = zs.length → (∃ k', k' ≤ s.size ∧ (s.size : Int) - 1 - ((k + 1 : Nat) : Int) = (s.size : Int) - 1 - (k' : Int) ∧ ((N + 1 : Nat) : Int) = ((hxK s k').1 : Int) ∧ Lz = (hxK s k').2.length ∧ zs.set (N / 4) (bitOp BinOp.or IntKind.u32 (zs.getD (N / 4) 0) (IntKind.u32.wrap (d * 2 ^ min (4 * (N % 4)) IntKind.u32.bits))) = (hxK s k').2) ∧ ((s.size : Int) - 1 - ((k + 1 : Nat) : Int) + 1).toNat < (i + 1).toNat := by
        intro d zs Lz h32 hd hz hLz
        refine ⟨⟨k + 1, hlt, rfl, ?_, ?_, ?_⟩, hme⟩
        · rw [hnx, hxS, ← hc, if_neg h32]
        · rw [hnx, hxS, ← hc, if_neg h32, hLz, hz]
          show _ = (hxW _ _ _).length
          rw [hxW, List.length_set]
        · rw [hnx, hxS, ← hc, if_neg h32, hz, hd]; rfl
      have b4 : N % 4 = 0 → hxA N xs = xs ++ [0] := fun h => by rw [hxA, if_pos h]
      have b5 : ¬ N % 4 = 0 → hxA N xs = xs := fun h => by rw [hxA, if_neg h]
      have leafA : (((N % 4 : Nat) : Int) == 0) = true → N % 4 = 0 := by
        intro h4
        have h5 : ((N % 4 : Nat) : Int) = 0 := eq_of_beq h4
        omega
      have leafB : (((N % 4 : Nat) : Int) == 0) = false → ¬ N % 4 = 0 := by
        intro h4 e
        rw [e] at h4
        cases h4
      have hlen : (xs ++ [(0 : Int)]).length = xs.length + 1 := by rw [List.length_append]; rfl
      refine ⟨⟨by omega, by omega⟩, fun h32 => triv_intro ?_, fun h32 => ?_⟩
      · have h32 : c = 32 := by simpa using h32
        refine ⟨⟨k + 1, hlt, rfl, ?_, ?_, ?_⟩, hme⟩
        · rw [hnx, hxS, ← hc, if_pos h32]
        · rw [hnx, hxS, ← hc, if_pos h32]
        · rw [hnx, hxS, ← hc, if_pos h32]
      · have h32 : ¬ c = 32 := by simpa using h32
        refine ⟨fun h97 => ⟨by decide, fun h4 => ?_, fun h4 => ?_⟩, fun h97 => ⟨by decide, fun h4 => ?_, fun h4 => ?_⟩⟩
        · have hd : hxD c = IntKind.u32.wrap (IntKind.u32.wrap (IntKind.u32.wrap c - 97) + 10) := by rw [hxD, if_pos (of_decide_eq_true h97)]
          have h4 := leafA h4
          exact ⟨Nat.le_refl _, Nat.le_refl _, by omega, by omega, by decide, ⟨by omega, by omega⟩, by omega, by decide, by omega, ⟨by omega, by omega⟩, by omega, triv_intro (key _ _ _ h32 hd (b4 h4) hlen.symm)⟩
        · have hd : hxD c = IntKind.u32.wrap (IntKind.u32.wrap (IntKind.u32.wrap c - 97) + 10) := by rw [hxD, if_pos (of_decide_eq_true h97)]
          have h4 := leafB h4
          exact ⟨by decide, ⟨by omega, by omega⟩, by omega, by decide, by omega, ⟨by omega, by omega⟩, by omega, triv_intro (key _ _ _ h32 hd (b5 h4) rfl)⟩
        · have hd : hxD c = IntKind.u32.wrap (IntKind.u32.wrap c - 48) := by rw [hxD, if_neg (of_decide_eq_false h97)]
          have h4 := leafA h4
          exact ⟨Nat.le_refl _, Nat.le_refl _, by omega, by omega, by decide, ⟨by omega, by omega⟩, by omega, by decide, by omega, ⟨by omega, by omega⟩, by omega, triv_intro (key _ _ _ h32 hd (b4 h4) hlen.symm)⟩
        · have hd : hxD c = IntKind.u32.wrap (IntKind.u32.wrap c - 48) := by rw [hxD, if_neg (of_decide_eq_false h97)]
          have h4 := leafB h4
          exact ⟨by decide, ⟨by omega, by omega⟩, by omega, by decide, by omega, ⟨by omega, by omega⟩, by omega, triv_intro (key _ _ _ h32 hd (b5 h4) rfl)⟩
    · have hk2 : k = s.size := by have := of_decide_eq_false h; omega
      rw [← hk2, hK]
      exact ⟨rfl, rfl⟩
  rintro ⟨i, n, L, xs⟩ hj
  revert i n xs
  intro (i : Int) (n : Int) (xs : List Int) ⟨hL, hx⟩
  have hL : L = (hxK s s.size).2.length := hL
  have hx : xs = (hxK s s.size).2 := hx
  refine tr_vc hsp mixed _ _ ?_
  refine vcx (X := ((0 : Nat) + L ≤ L ∧ (List.take L xs, ()) = ((hxK s s.size).snd, ()))) (by kernel_rfl) ?_
  rw [hL, hx, List.take_length]
  exact ⟨Nat.le_of_eq (Nat.zero_add _), rfl⟩
end Go.Proofs.YtbfimfdhmggieaaDoor.ref03
/- ref04: Modulus; ref03: Number, Mod as they are read. -/
namespace Go.Proofs.YtbfimfdhmggieaaDoor.ref03
set_option maxRecDepth 100000
open Go Go.Eng Go.RowKit Cr Go.Proofs.YtbfimfdhmggieaaDoor
def balR4h0 : ByteArray := (ByteArray.mk (([(49 : UInt8), (97 : UInt8), (48 : UInt8), (49 : UInt8), (49 : UInt8), (49 : UInt8), (101 : UInt8), (97 : UInt8), (51 : UInt8), (57 : UInt8), (55 : UInt8), (102 : UInt8), (101 : UInt8), (54 : UInt8), (57 : UInt8), (97 : UInt8), (52 : UInt8), (98 : UInt8), (49 : UInt8), (98 : UInt8), (97 : UInt8), (55 : UInt8), (98 : UInt8), (54 : UInt8), (52 : UInt8), (51 : UInt8), (52 : UInt8), (98 : UInt8), (97 : UInt8), (99 : UInt8), (100 : UInt8), (55 : UInt8), (54 : UInt8), (52 : UInt8), (55 : UInt8), (55 : UInt8), (52 : UInt8), (98 : UInt8), (56 : UInt8), (52 : UInt8), (102 : UInt8), (51 : UInt8), (56 : UInt8), (53 : UInt8), (49 : UInt8), (50 : UInt8), (98 : UInt8), (102 : UInt8)].append [(54 : UInt8), (55 : UInt8), (51 : UInt8), (48 : UInt8), (100 : UInt8), (50 : UInt8), (97 : UInt8), (48 : UInt8), (102 : UInt8), (54 : UInt8), (98 : UInt8), (48 : UInt8), (102 : UInt8), (54 : UInt8), (50 : UInt8), (52 : UInt8), (49 : UInt8), (101 : UInt8), (97 : UInt8), (98 : UInt8), (102 : UInt8), (102 : UInt8), (102 : UInt8), (101 : UInt8), (98 : UInt8), (49 : UInt8), (53 : UInt8), (51 : UInt8), (102 : UInt8), (102 : UInt8), (102 : UInt8), (102 : UInt8), (98 : UInt8), (57 : UInt8), (102 : UInt8), (101 : UInt8), (102 : UInt8), (102 : UInt8), (102 : UInt8), (102 : UInt8), (102 : UInt8), (102 : UInt8), (102 : UInt8), (102 : UInt8), (97 : UInt8), (97 : UInt8), (97 : UInt8), (98 : UInt8)]).toArray ))
noncomputable def mdp : List Int := opq (w16 24 Mp)
theorem lt_w {x : Int} {k : Nat} (h0 : 0 ≤ x) (h1 : x < pv16 k) : v16 (w16 k x) = x := by rw [v16_w16, Int.emod_eq_of_lt h0 h1]
theorem mdp_v : v16 mdp = Mp := by
  rw [mdp, opq_eq, v16_w16]; exact of_decide_eq_true (by kernel_rfl)
theorem mdp_W : W16 mdp := by rw [mdp, opq_eq]; exact w16_W _ _
theorem mdp_len : mdp.length = 24 := by rw [mdp, opq_eq]; exact w16_len _ _
theorem mdp_pos : 0 < v16 mdp := by rw [mdp_v]; decide
noncomputable def hxo (s : ByteArray) : List Int := opq (hxK s s.size).2
theorem fr_hex : FnOk Tryd.prog 50 [.str] [.val wsl] noG (fun (s, _) => ByteArray.size s ≤ 1000) (fun (s, _) => (hxo s, ())) := fn_hex.frz.out fun (s, _) => by show (hxo s, ()) = (_, ()); rw [hxo, opq_eq]
noncomputable def srHex : Nat × Eng.Spec := (50, fnSpec [.str] [.val wsl] (fun (s, _) => ByteArray.size s ≤ 1000) (fun (s, _) => (hxo s, ())))
theorem ent_modp : enters Tryd.prog 17 Tryd.f17 := enters_mk (by kernel_rfl) (by kernel_rfl) (by kernel_rfl)
theorem hx_mp {s : ByteArray} (h : decide ((hxK s s.size).2 = w16 24 Mp) = true) : (hxo s, ()) = (mdp, ()) := by
  rw [hxo, opq_eq, of_decide_eq_true h, mdp, opq_eq]
theorem fn_modp : FnOk Tryd.prog 17 [] [.val wsl] noG (fun _ => True) (fun _ => (mdp, ())) := by
  refine fn_of_vc (sp := sps [srHex]) (sps_cons (fnSpec_ok fr_hex) sps_nil) mixed ent_modp (by decide) (by decide) ?_
  rintro w M0 ⟨⟩ _ _
  refine vcx (X := (balR4h0.size ≤ (1000 : Nat) ∧ (hxo balR4h0, ()) = (mdp, ()))) (by kernel_rfl) ?_
  exact ⟨by decide, hx_mp (by kernel_rfl)⟩
noncomputable def spModp : Nat × Eng.Spec := (17, fnSpec [] [.val wsl] (fun _ => True) (fun _ => (mdp, ())))
noncomputable def mdo (a m : List Int) : List Int := opq (modF a m)
theorem fr_mod : FnOk Tryd.prog 19 [wsl, wsl] [.val wsl] noG preMod (fun (a, m, _) => (mdo a m, ())) := fn_mod.frz.out fun (a, m, _) => by show (mdo a m, ()) = (modF a m, ()); rw [mdo, opq_eq]
noncomputable def srMod : Nat × Eng.Spec := (19, fnSpec [wsl, wsl] [.val wsl] preMod (fun (a, m, _) => (mdo a m, ())))
noncomputable def nbo (b : List Int) : List Int := opq (numbF b)
theorem fr_number : FnOk Tryd.prog 20 [.sl (.int .u8)] [.val wsl] noG preNumb (fun (b, _) => (nbo b, ())) := fn_number.frz.out fun (b, _) => by show (nbo b, ()) = (numbF b, ()); rw [nbo, opq_eq]
noncomputable def srNumber : Nat × Eng.Spec := (20, fnSpec [.sl (.int .u8)] [.val wsl] preNumb (fun (b, _) => (nbo b, ())))
abbrev preB48 : HL [wsl, .int .i64] → Prop := fun (a, n, _) => (W16 a ∧ List.length a ≤ 1000000) ∧ (n : Int) = 48
noncomputable def b48 (a : List Int) : List Int := opq (bytesN 48 (v16 a))
theorem fr_bytes : FnOk Tryd.prog 18 [wsl, .int .i64] [.val (.sl (.int .u8))] noG preB48 (fun (a, _, _) => (b48 a, ())) := by
  refine fn_bytes.frz.weaken ?_
  rintro ⟨a, n, ⟨⟩⟩
  revert n
  intro (n : Int) _ ⟨h, h2⟩
  have h2 : n = 48 := h2
  subst h2
  refine ⟨⟨h, by decide, by decide⟩, ?_⟩
  show (bytesN (48 : Int).toNat (v16 a), ()) = (b48 a, ())
  rw [b48, opq_eq]; rfl
noncomputable def srBytes : Nat × Eng.Spec := (18, fnSpec [wsl, .int .i64] [.val (.sl (.int .u8))] preB48 (fun (a, _, _) => (b48 a, ())))
theorem nbo_ok {b : List Int} (hb : Bs b) : W16 (nbo b) ∧ (nbo b).length = (b.length + 1) / 2 ∧ v16 (nbo b) = num b := by
  rw [nbo, opq_eq, numbF]
  have h := num_bd hb
  refine ⟨w16_W _ _, w16_len _ _, lt_w h.1 ?_⟩
  have h2 : pv16 ((b.length + 1) / 2) = p256 (2 * ((b.length + 1) / 2)) := pv16_256 _
  have h3 := p256_mono (show b.length ≤ 2 * ((b.length + 1) / 2) by omega)
  omega
/-- What the reference makes of a number's bytes. -/
theorem num_p {b : List Int} (hb : Bs b) (hl : b.length ≤ 1000) : preNumb (b, ()) ∧ preMod (nbo b, mdp, ()) ∧ preB48 (mdo (nbo b) mdp, 48, ()) ∧ b48 (mdo (nbo b) mdp) = bytesN 48 (Zm.v (zm (num b) : Fp)) := by
  obtain ⟨h1, h2, h3⟩ := nbo_ok hb
  have e : mdo (nbo b) mdp = w16 24 (num b % Mp) := by rw [mdo, opq_eq, modF, h3, mdp_v, mdp_len]
  refine ⟨⟨hb, by show b.length ≤ _; omega⟩, ⟨⟨h1, mdp_W, by show (nbo b).length ≤ _; omega, by show mdp.length < _; rw [mdp_len]; decide⟩, mdp_pos⟩, ⟨⟨?_, ?_⟩, rfl⟩, ?_⟩
  · show W16 (mdo _ _)
    rw [e]; exact w16_W _ _
  · show (mdo _ _).length ≤ _
    rw [e, w16_len]; decide
  · rw [b48, opq_eq, e, lt_w (Int.emod_nonneg _ (by decide)) (Int.lt_trans (Int.emod_lt_of_pos _ (by decide)) (of_decide_eq_true (by kernel_rfl)))]
    rfl
end Go.Proofs.YtbfimfdhmggieaaDoor.ref03
/- law11: XmdNumbers. -/
namespace Go.Proofs.YtbfimfdhmggieaaDoor.law11
set_option maxRecDepth 100000
open Go Go.Eng Go.RowKit Cr Go.Proofs.YtbfimfdhmggieaaDoor.sha Go.Proofs.YtbfimfdhmggieaaDoor.xmd Go.Proofs.YtbfimfdhmggieaaDoor.ref01 Go.Proofs.YtbfimfdhmggieaaDoor
theorem fr_numbers : FnOk Tryd.prog 15 [b8, b8, .int .i64] [.val (.sl f2), .val (.int .i64)] shaG preEx (fun (m, t, n, _) => ((nuA m t n).1, (nuA m t n).2, ())) := xmd.fn_numbers.frz2
noncomputable def srNumbers : Nat × Eng.Spec := (15, fnSpecG shaG [b8, b8, .int .i64] [.val (.sl f2), .val (.int .i64)] preEx (fun (m, t, n, _) => ((nuA m t n).1, (nuA m t n).2, ())))
theorem ent_numb : enters Tryd.prog 4 Tryd.f4 := enters_mk (by kernel_rfl) (by kernel_rfl) (by kernel_rfl)
noncomputable def nuA0 (a b : List Int) (n : Int) : St := mkSt Tryd.f4.ntmps 88 [(0, .is (.one (.ro (.int .u8) a))), (1, .is (.one (.ro (.int .u8) b))), (2, sI .i64 n)] []
noncomputable def nuB0 (g : List F2 × List Int) : St := mkSt Tryd.f4.ntmps 224 [(7, .is (.one (.ro f2 g.1))), (9, .is (.one (.ro (.int .u8) g.2))), (72, sI .i64 (List.length g.1 : Int)), (73, sI .i64 0)] []
noncomputable def nuC0 (N : List F2) (E : List Int) (g : Int) : St := mkSt Tryd.f4.ntmps 224 [(7, .is (.one (.ro f2 N))), (9, .is (.one (.ro (.int .u8) E))), (72, sI .i64 (List.length N : Int)), (73, sI .i64 g)] []
noncomputable def nuD0 : St := mkSt Tryd.f4.ntmps 224 [] []
theorem fn_numb : FnOk Tryd.prog 4 [b8, b8, .int .i64] [.val .bool] shaG (fun (a, b, n, _) => preB a ∧ preB b ∧ preI n) (fun _ => (true, ())) := by
  have hsp : SpecsOk Tryd.prog (sps [spHead, ref01.spCopy, srReE, srNumbers, fp.spBytes, ref03.spModp, ref03.srNumber, ref03.srMod, ref03.srBytes, ref01.spSame]) := sps_cons (fnSpecG_ok fn_head) (sps_cons (fnSpec_ok ref01.fn_copy) (sps_cons (fnSpec_ok fr_reE) (sps_cons (fnSpecG_ok fr_numbers) (sps_cons (fnSpec_ok fp.fn_bytes) (sps_cons (fnSpec_ok ref03.fn_modp) (sps_cons (fnSpec_ok ref03.fr_number) (sps_cons (fnSpec_ok ref03.fr_mod) (sps_cons (fnSpec_ok ref03.fr_bytes) (sps_cons (fnSpec_ok ref01.fn_same) sps_nil)))))))))
  refine fn_of_tr (sp := sps [spHead, ref01.spCopy, srReE, srNumbers, fp.spBytes, ref03.spModp, ref03.srNumber, ref03.srMod, ref03.srBytes, ref01.spSame]) ent_numb (by decide) (by decide) (by kernel_rfl) ?_
  rintro w M0 ⟨a, b, n, ⟨⟩⟩
  revert a b n
  intro (a : List Int) (b : List Int) (n : Int) _ hp
  obtain ⟨ha, hb, hn⟩ := hp
  have ha2 : a.length ≤ 281474976710656 := ha.2
  have hb2 : b.length ≤ 281474976710656 := hb.2
  have hn : -9223372036854775808 ≤ n ∧ n < 9223372036854775808 := hn
  show Tr _ _ _ _ _ _ _
  refine tr_cutF hsp mixed 7 (fun σ => rdS (.int .i64) 2 σ) (nuA0 a b) (fun _ => a.length ≤ 4096 ∧ b.length ≤ 4096) ?_ ?_
  · refine vcx (X := ((∀ (g : Nat) (s : Sigma Car), shaG g = some s → Decidable.rec (fun h => (fun x => if g = (1 : Nat) then some ⟨Kd.arr (64 : Nat) uK, rootsL⟩ else none) h) (fun h => (fun x => some ⟨Kd.arr (8 : Nat) uK, firstL⟩) h) (instDecidableEqNat g (0 : Nat)) = some s) ∧ True ∧ ((!true) = true → (false, ()) = (true, ())) ∧ ((!true) = false → (decide ((↑a.length : Int) > (4096 : Int)) = true → (true, ()) = (true, ())) ∧ (decide ((↑a.length : Int) > (4096 : Int)) = false → (decide ((↑b.length : Int) > (4096 : Int)) = true → (true, ()) = (true, ())) ∧ (decide ((↑b.length : Int) > (4096 : Int)) = false → (decide (n > (4 : Int)) = true → (decide (n ≤ (63 : Int)) = true → (nuA0 a b (bitOp BinOp.and IntKind.i64 n (3 : Int))).triv (a.length ≤ (4096 : Nat) ∧ b.length ≤ (4096 : Nat))) ∧ (decide (n ≤ (63 : Int)) = false → (nuA0 a b n).triv (a.length ≤ (4096 : Nat) ∧ b.length ≤ (4096 : Nat)))) ∧ (decide (n > (4 : Int)) = false → (nuA0 a b n).triv (a.length ≤ (4096 : Nat) ∧ b.length ≤ (4096 : Nat)))))))) (by kernel_rfl) ?_
    refine ⟨fun _ _ h => h, trivial, (fun h => by cases h), fun _ => ⟨fun _ => rfl, fun h1 => ⟨fun _ => rfl, fun h2 => ?_⟩⟩⟩
    have h1 := of_decide_eq_false h1
    have h2 := of_decide_eq_false h2
    have h3 : a.length ≤ 4096 ∧ b.length ≤ 4096 := by omega
    exact ⟨fun _ => ⟨fun _ => triv_intro h3, fun _ => triv_intro h3⟩, fun _ => triv_intro h3⟩
  intro (n' : Int) ⟨la, lb⟩
  refine tr_cutF hsp mixed 7 (fun σ => (rdO f2 7 σ, rdO (.int .u8) 9 σ)) nuB0 (fun g => g.1 = nums a b n'.toNat ∧ g.2 = expo a b (128 * n') ∧ 0 ≤ n' ∧ n' ≤ 63) ?_ ?_
  · refine vcx (X := (preCopy (a, ()) ∧ preCopy (b, ()) ∧ (∀ (g : Nat) (s : Sigma Car), shaG g = some s → Decidable.rec (fun h => (fun x => if g = (1 : Nat) then some ⟨Kd.arr (64 : Nat) uK, rootsL⟩ else none) h) (fun h => (fun x => some ⟨Kd.arr (8 : Nat) uK, firstL⟩) h) (instDecidableEqNat g (0 : Nat)) = some s) ∧ (0 : Nat) + a.length ≤ a.length ∧ (0 : Nat) + b.length ≤ b.length ∧ preEx (List.take a.length a, List.take b.length b, n', ()) ∧ (decide (n' < (0 : Int)) = true → (((nuA (List.take a.length a) (List.take b.length b) n').snd == (1 : Int)) = true → ((↑(nuA (List.take a.length a) (List.take b.length b) n').fst.length : Int) == (0 : Int), ()) = (true, ())) ∧ (((nuA (List.take a.length a) (List.take b.length b) n').snd == (1 : Int)) = false → (false, ()) = (true, ()))) ∧ (decide (n' < (0 : Int)) = false → (decide (n' > (63 : Int)) = true → (((nuA (List.take a.length a) (List.take b.length b) n').snd == (1 : Int)) = true → ((↑(nuA (List.take a.length a) (List.take b.length b) n').fst.length : Int) == (0 : Int), ()) = (true, ())) ∧ (((nuA (List.take a.length a) (List.take b.length b) n').snd == (1 : Int)) = false → (false, ()) = (true, ()))) ∧ (decide (n' > (63 : Int)) = false → ref11.preRe (a, b, IntKind.i64.wrap ((128 : Int) * n'), ()) ∧ (((nuA (List.take a.length a) (List.take b.length b) n').snd != (0 : Int)) = true → (false, ()) = (true, ())) ∧ (((nuA (List.take a.length a) (List.take b.length b) n').snd != (0 : Int)) = false → (((↑(nuA (List.take a.length a) (List.take b.length b) n').fst.length : Int) != n') = true → (false, ()) = (true, ())) ∧ (((↑(nuA (List.take a.length a) (List.take b.length b) n').fst.length : Int) != n') = false → (nuB0 (((nuA (List.take a.length a) (List.take b.length b) n').fst, (nuA (List.take a.length a) (List.take b.length b) n').snd, ()).fst, ((exA a b (IntKind.i64.wrap ((128 : Int) * n'))).fst, (exA a b (IntKind.i64.wrap ((128 : Int) * n'))).snd, ()).fst)).triv ((nuA (List.take a.length a) (List.take b.length b) n').fst = nums a b n'.toNat ∧ (exA a b (IntKind.i64.wrap ((128 : Int) * n'))).fst = expo a b ((128 : Int) * n') ∧ (0 : Int) ≤ n' ∧ n' ≤ (63 : Int)))))))) (by kernel_rfl) ?_
    rw [List.take_length, List.take_length]
    have pa : preCopy (a, ()) := by show a.length ≤ _; omega
    have pb : preCopy (b, ()) := by show b.length ≤ _; omega
    have px : preEx (a, b, n', ()) := ⟨by show a.length ≤ _; omega, by show b.length ≤ _; omega⟩
    have nA : (decide (n' < 0) || decide (n' > 63)) = true → nuA a b n' = ([], 1) := fun h => by rw [nuA, h]
    have nB : (decide (n' < 0) || decide (n' > 63)) = false → nuA a b n' = (nums a b n'.toNat, 0) := fun h => by rw [nuA, h]
    refine ⟨pa, pb, fun _ _ h => h, by omega, by omega, px, fun h => ?_, fun h => ⟨fun h2 => ?_, fun h2 => ?_⟩⟩
    · rw [nA (by rw [h]; rfl)]
      exact ⟨fun _ => rfl, fun h => absurd h (by decide)⟩
    · rw [nA (by rw [h, h2]; rfl)]
      exact ⟨fun _ => rfl, fun h => absurd h (by decide)⟩
    · have h0 : 0 ≤ n' := by have := of_decide_eq_false h; omega
      have h1 : n' ≤ 63 := by have := of_decide_eq_false h2; omega
      have hw : IntKind.i64.wrap (128 * n') = 128 * n' := wrap_i64' (by omega) (by omega)
      have eA : exA a b (128 * n') = (expo a b (128 * n'), 0) := by rw [exA, decide_eq_false (by omega), decide_eq_false (by omega)]; rfl
      rw [nB (by rw [h, h2]; rfl), hw, eA]
      have lN : (nums a b n'.toNat).length = n'.toNat := by rw [nums, opq_eq]; simp
      refine ⟨⟨⟨ha.1, by show a.length ≤ _; omega⟩, hb.1, by show b.length ≤ _; omega⟩, fun h => absurd (show ((0 : Int) != 0) = true from h) (by decide), fun _ => ⟨fun h => ?_, fun _ => triv_intro ⟨rfl, rfl, h0, h1⟩⟩⟩
      have h : ((List.length (nums a b n'.toNat) : Int) != n') = true := h
      rw [lN, show ((n'.toNat : Nat) : Int) = n' by omega] at h
      simp at h
  rintro ⟨N, E⟩ hj
  revert N E
  intro (N : List F2) (E : List Int) ⟨hN, hE, h0, h1⟩
  have hN : N = nums a b n'.toNat := hN
  have hE : E = expo a b (128 * n') := hE
  have lN : N.length = n'.toNat := by rw [hN, nums, opq_eq]; simp
  refine tr_while hsp mixed noSw (fun σ => rdS (.int .i64) 73 σ) (nuC0 N E) (fun g => ∃ k : Nat, k ≤ N.length ∧ g = (k : Int)) (fun g => N.length - g.toNat)
    (fun _ => ()) (fun _ => nuD0) (fun _ => True) 0 (c := nthC (codeOf Tryd.f4) 14) (by kernel_rfl) (by kernel_rfl) (le_of_proj (by kernel_rfl) (by kernel_rfl) ?_) ?_ ?_
  · exact ⟨0, Nat.zero_le _, rfl⟩
  · rintro i ⟨k, hk, ei⟩
    revert i
    intro (i : Int) (ei : i = (k : Int))
    subst ei
    refine vcx (X := ((decide ((↑k : Int) < (↑N.length : Int)) = true → ((0 : Int) ≤ (↑k : Int) ∧ (↑k : Int) < (↑N.length : Int)) ∧ (↑k : Int).toNat < N.length ∧ True ∧ ((0 : Int) ≤ (↑k : Int) ∧ (↑k : Int) < (↑N.length : Int)) ∧ (↑k : Int).toNat < N.length ∧ True ∧ True ∧ ((0 : Int) ≤ IntKind.i64.wrap ((128 : Int) * (↑k : Int)) ∧ IntKind.i64.wrap ((128 : Int) * (↑k : Int)) ≤ IntKind.i64.wrap (IntKind.i64.wrap ((128 : Int) * (↑k : Int)) + (64 : Int)) ∧ IntKind.i64.wrap (IntKind.i64.wrap ((128 : Int) * (↑k : Int)) + (64 : Int)) ≤ (↑E.length : Int)) ∧ ref03.preNumb (List.take (IntKind.i64.wrap (IntKind.i64.wrap ((128 : Int) * (↑k : Int)) + (64 : Int)) - IntKind.i64.wrap ((128 : Int) * (↑k : Int))).toNat (List.drop (IntKind.i64.wrap ((128 : Int) * (↑k : Int))).toNat E), ()) ∧ ref03.preMod (ref03.nbo (List.take (IntKind.i64.wrap (IntKind.i64.wrap ((128 : Int) * (↑k : Int)) + (64 : Int)) - IntKind.i64.wrap ((128 : Int) * (↑k : Int))).toNat (List.drop (IntKind.i64.wrap ((128 : Int) * (↑k : Int))).toNat E)), ref03.mdp, ()) ∧ ref03.preB48 (ref03.mdo (ref03.nbo (List.take (IntKind.i64.wrap (IntKind.i64.wrap ((128 : Int) * (↑k : Int)) + (64 : Int)) - IntKind.i64.wrap ((128 : Int) * (↑k : Int))).toNat (List.drop (IntKind.i64.wrap ((128 : Int) * (↑k : Int))).toNat E))) ref03.mdp, (48 : Int), ()) ∧ (0 : Nat) + (48 : Nat) ≤ (48 : Nat) ∧ preSame (List.take (48 : Nat) (bytesN (48 : Nat) (N.getD (↑k : Int).toNat ((0 : Fp), (0 : Fp))).fst.v), ref03.b48 (ref03.mdo (ref03.nbo (List.take (IntKind.i64.wrap (IntKind.i64.wrap ((128 : Int) * (↑k : Int)) + (64 : Int)) - IntKind.i64.wrap ((128 : Int) * (↑k : Int))).toNat (List.drop (IntKind.i64.wrap ((128 : Int) * (↑k : Int))).toNat E))) ref03.mdp), ()) ∧ ((!sameF (List.take (48 : Nat) (bytesN (48 : Nat) (N.getD (↑k : Int).toNat ((0 : Fp), (0 : Fp))).fst.v)) (ref03.b48 (ref03.mdo (ref03.nbo (List.take (IntKind.i64.wrap (IntKind.i64.wrap ((128 : Int) * (↑k : Int)) + (64 : Int)) - IntKind.i64.wrap ((128 : Int) * (↑k : Int))).toNat (List.drop (IntKind.i64.wrap ((128 : Int) * (↑k : Int))).toNat E))) ref03.mdp))) = true → (false, ()) = (true, ())) ∧ ((!sameF (List.take (48 : Nat) (bytesN (48 : Nat) (N.getD (↑k : Int).toNat ((0 : Fp), (0 : Fp))).fst.v)) (ref03.b48 (ref03.mdo (ref03.nbo (List.take (IntKind.i64.wrap (IntKind.i64.wrap ((128 : Int) * (↑k : Int)) + (64 : Int)) - IntKind.i64.wrap ((128 : Int) * (↑k : Int))).toNat (List.drop (IntKind.i64.wrap ((128 : Int) * (↑k : Int))).toNat E))) ref03.mdp))) = false → ((0 : Int) ≤ IntKind.i64.wrap (IntKind.i64.wrap ((128 : Int) * (↑k : Int)) + (64 : Int)) ∧ IntKind.i64.wrap (IntKind.i64.wrap ((128 : Int) * (↑k : Int)) + (64 : Int)) ≤ IntKind.i64.wrap (IntKind.i64.wrap ((128 : Int) * (↑k : Int)) + (128 : Int)) ∧ IntKind.i64.wrap (IntKind.i64.wrap ((128 : Int) * (↑k : Int)) + (128 : Int)) ≤ (↑E.length : Int)) ∧ ref03.preNumb (List.take (IntKind.i64.wrap (IntKind.i64.wrap ((128 : Int) * (↑k : Int)) + (128 : Int)) - IntKind.i64.wrap (IntKind.i64.wrap ((128 : Int) * (↑k : Int)) + (64 : Int))).toNat (List.drop (IntKind.i64.wrap (IntKind.i64.wrap ((128 : Int) * (↑k : Int)) + (64 : Int))).toNat E), ()) ∧ ref03.preMod (ref03.nbo (List.take (IntKind.i64.wrap (IntKind.i64.wrap ((128 : Int) * (↑k : Int)) + (128 : Int)) - IntKind.i64.wrap (IntKind.i64.wrap ((128 : Int) * (↑k : Int)) + (64 : Int))).toNat (List.drop (IntKind.i64.wrap (IntKind.i64.wrap ((128 : Int) * (↑k : Int)) + (64 : Int))).toNat E)), ref03.mdp, ()) ∧ ref03.preB48 (ref03.mdo (ref03.nbo (List.take (IntKind.i64.wrap (IntKind.i64.wrap ((128 : Int) * (↑k : Int)) + (128 : Int)) - IntKind.i64.wrap (IntKind.i64.wrap ((128 : Int) * (↑k : Int)) + (64 : Int))).toNat (List.drop (IntKind.i64.wrap (IntKind.i64.wrap ((128 : Int) * (↑k : Int)) + (64 : Int))).toNat E))) ref03.mdp, (48 : Int), ()) ∧ (0 : Nat) + (48 : Nat) ≤ (48 : Nat) ∧ preSame (List.take (48 : Nat) (bytesN (48 : Nat) (N.getD (↑k : Int).toNat ((0 : Fp), (0 : Fp))).snd.v), ref03.b48 (ref03.mdo (ref03.nbo (List.take (IntKind.i64.wrap (IntKind.i64.wrap ((128 : Int) * (↑k : Int)) + (128 : Int)) - IntKind.i64.wrap (IntKind.i64.wrap ((128 : Int) * (↑k : Int)) + (64 : Int))).toNat (List.drop (IntKind.i64.wrap (IntKind.i64.wrap ((128 : Int) * (↑k : Int)) + (64 : Int))).toNat E))) ref03.mdp), ()) ∧ ((!sameF (List.take (48 : Nat) (bytesN (48 : Nat) (N.getD (↑k : Int).toNat ((0 : Fp), (0 : Fp))).snd.v)) (ref03.b48 (ref03.mdo (ref03.nbo (List.take (IntKind.i64.wrap (IntKind.i64.wrap ((128 : Int) * (↑k : Int)) + (128 : Int)) - IntKind.i64.wrap (IntKind.i64.wrap ((128 : Int) * (↑k : Int)) + (64 : Int))).toNat (List.drop (IntKind.i64.wrap (IntKind.i64.wrap ((128 : Int) * (↑k : Int)) + (64 : Int))).toNat E))) ref03.mdp))) = true → (false, ()) = (true, ())) ∧ ((!sameF (List.take (48 : Nat) (bytesN (48 : Nat) (N.getD (↑k : Int).toNat ((0 : Fp), (0 : Fp))).snd.v)) (ref03.b48 (ref03.mdo (ref03.nbo (List.take (IntKind.i64.wrap (IntKind.i64.wrap ((128 : Int) * (↑k : Int)) + (128 : Int)) - IntKind.i64.wrap (IntKind.i64.wrap ((128 : Int) * (↑k : Int)) + (64 : Int))).toNat (List.drop (IntKind.i64.wrap (IntKind.i64.wrap ((128 : Int) * (↑k : Int)) + (64 : Int))).toNat E))) ref03.mdp))) = false → (nuC0 N E (IntKind.i64.wrap ((↑k : Int) + (1 : Int)))).triv ((∃ k_1, k_1 ≤ N.length ∧ IntKind.i64.wrap ((↑k : Int) + (1 : Int)) = (↑k_1 : Int)) ∧ N.length - (IntKind.i64.wrap ((↑k : Int) + (1 : Int))).toNat < N.length - (↑k : Int).toNat)))) ∧ (decide ((↑k : Int) < (↑N.length : Int)) = false → nuD0.triv True))) (by kernel_rfl) ?_
    rw [Int.toNat_natCast]
    refine ⟨fun h => ?_, fun _ => triv_intro trivial⟩
    have hlt : k < N.length := by have := of_decide_eq_true h; omega
    have lk : k < n'.toNat := by omega
    have w1 : IntKind.i64.wrap (128 * (k : Int)) = ((128 * k : Nat) : Int) := by rw [wrap_i64' (by omega) (by omega)]; omega
    have w2 : IntKind.i64.wrap (IntKind.i64.wrap (128 * (k : Int)) + 64) = ((128 * k + 64 : Nat) : Int) := by rw [w1, wrap_i64' (by omega) (by omega)]; omega
    have w3 : IntKind.i64.wrap (IntKind.i64.wrap (128 * (k : Int)) + 128) = ((128 * k + 128 : Nat) : Int) := by rw [w1, wrap_i64' (by omega) (by omega)]; omega
    rw [w2, w3, w1, wrap_i64' (a := (k : Int) + 1) (by omega) (by omega)]
    have t1 : (((128 * k + 64 : Nat) : Int) - ((128 * k : Nat) : Int)).toNat = 64 := by omega
    have t2 : (((128 * k + 128 : Nat) : Int) - ((128 * k + 64 : Nat) : Int)).toNat = 64 := by omega
    rw [t1, t2, Int.toNat_natCast, Int.toNat_natCast]
    have en : ((n'.toNat : Nat) : Int) = n' := by omega
    have lE : E.length = 128 * n'.toNat := by rw [hE, expo_len]; omega
    have BE : Bs E := by rw [hE]; exact xmd.expo_Bs _ _ _
    have eN : N.getD k ((0 : Fp), (0 : Fp)) = nmb E k := by
      rw [hN, nums, opq_eq, en, ← hE, List.getD_eq_getElem?_getD, List.getElem?_map, List.getElem?_range lk]; rfl
    rw [eN]
    have e1 : (nmb E k).fst = zm (num (List.take 64 (List.drop (128 * k) E))) := rfl
    have e2 : (nmb E k).snd = zm (num (List.take 64 (List.drop (128 * k + 64) E))) := rfl
    rw [e1, e2]
    have B1 : Bs (List.take 64 (List.drop (128 * k) E)) := fun y hy => BE y (List.mem_of_mem_drop (List.mem_of_mem_take hy))
    have B2 : Bs (List.take 64 (List.drop (128 * k + 64) E)) := fun y hy => BE y (List.mem_of_mem_drop (List.mem_of_mem_take hy))
    have L1 : (List.take 64 (List.drop (128 * k) E)).length ≤ 1000 := by rw [List.length_take]; omega
    have L2 : (List.take 64 (List.drop (128 * k + 64) E)).length ≤ 1000 := by rw [List.length_take]; omega
    generalize List.take 64 (List.drop (128 * k) E) = b1 at *
    generalize List.take 64 (List.drop (128 * k + 64) E) = b2 at *
    obtain ⟨p1, p2, p3, p4⟩ := ref03.num_p B1 L1
    obtain ⟨q1, q2, q3, q4⟩ := ref03.num_p B2 L2
    rw [p4, q4]
    have same : ∀ v : Int, sameF (List.take 48 (bytesN 48 v)) (bytesN 48 v) = true := fun v => by
      rw [List.take_of_length_le (Nat.le_of_eq (bytesN_length _ _)), sameF, decide_eq_true rfl]
    refine ⟨⟨by omega, by omega⟩, hlt, trivial, ⟨by omega, by omega⟩, hlt, trivial, trivial, ⟨by omega, by omega, by omega⟩, p1, p2, p3, by decide, by show (List.take 48 _).length < _; rw [List.length_take]; omega, fun h => ?_, fun _ => ⟨⟨by omega, by omega, by omega⟩, q1, q2, q3, by decide, by show (List.take 48 _).length < _; rw [List.length_take]; omega, fun h => ?_, fun _ => triv_intro ⟨⟨k + 1, hlt, rfl⟩, by omega⟩⟩⟩
    · rw [same] at h; cases h
    · rw [same] at h; cases h
  rintro ⟨⟩ _
  refine tr_vc hsp mixed _ _ ?_
  refine vcx (X := ((true, ()) = (true, ()))) (by kernel_rfl) ?_
  rfl
end Go.Proofs.YtbfimfdhmggieaaDoor.law11
/- From a contract to a law's row where package variables read as listed. -/
namespace Go.Eng
open Go Go.RowKit Cr Go.ChangeShapes Go.WideShapes Go.ChangeAt
/-- An array of integers that reads as these. -/
theorem laid_ints {P : Program} {t e : TypeId} {n : Nat} {k : IntKind} {H : Type} {enc : TypeId × Value → H} {W : World} {fl : Bool} {fuel : Nat} {cs : List Value} {p : List MemPlace} {xs : List Int} (ht : P.underlying t = some (.array n e)) (he : P.underlying e = some (.int k)) (hce : P.cellsOf e = 1) (hct : P.cellsOf t = n)
    (h : DataW.trod enc P W 0 (fun _ => true) fl fuel t cs = some (.agg (xs.map fun x => .lit (.int k x)), p)) : cs = xs.map (Value.int k) := by
  obtain ⟨ys, m, rfl, hx, hlen, hn, hel⟩ := DataW.trod_array ht h
  simp only [Prod.mk.injEq, DataW.agg.injEq] at hx
  obtain ⟨hx, _⟩ := hx
  have hxl : xs.length = n := by
    have := congrArg List.length hx
    simpa [hn] using this
  refine List.ext_getElem (by rw [hlen, hct, List.length_map, hxl]) fun i h1 h2 => ?_
  have hin : i < n := by rw [hlen, hct] at h1; exact h1
  have h3 := hel i hin
  rw [hce, Nat.mul_one, List.getElem?_eq_getElem (by omega)] at h3
  obtain ⟨z, e1, e2, _⟩ := DataW.trod_int he h3
  have e3 : (cs.drop i).take 1 = [cs[i]] := by rw [List.drop_eq_getElem_cons h1]; rfl
  rw [e3] at e1
  simp only [List.cons.injEq, and_true] at e1
  have h4 : (xs.map fun x => (DataW.lit (.int k x) : DataW H))[i]? = (ys.map (·.1))[i]? := by rw [hx]
  rw [List.getElem?_map, List.getElem?_map, List.getElem?_eq_getElem (by omega), List.getElem?_eq_getElem (by omega)] at h4
  simp only [Option.map_some, Option.some.injEq] at h4
  rw [e2] at h4
  simp only [DataW.lit.injEq, Lit.int.injEq, true_and] at h4
  rw [e1, List.getElem_map, h4]
/-- What a listed table is in memory. -/
theorem laid_row {P : Program} {W : World} {nm : String} {g n : Nat} {k : IntKind} {cs : Array Value} {xs : List Int} (hg : P.globalNamed nm = some g) (hv : W.var? P nm = some cs) (hcs : cs.toList = xs.map (Value.int k)) (hx : xs.length = n) : RowAt (Rd (memOf W) (.arr n (.int k))) (width (.arr n (.int k))) (memOf W) g 0 [xs] := by
  have hh : ∃ el fr, W.heap[g]? = some (.cells cs el fr) := by
    simp only [World.var?, hg, Option.bind_some] at hv
    split at hv
    · rename_i c el fr hh
      simp only [Option.some.injEq] at hv
      subst hv
      exact ⟨el, fr, hh⟩
    · cases hv
  obtain ⟨el, fr, hh⟩ := hh
  obtain ⟨l⟩ := cs
  have hcs : l = xs.map (Value.int k) := hcs
  refine ⟨l, memOf_blk hh, ?_, ?_⟩
  · simp [width, hcs, hx]
  · rw [List.drop_zero, List.take_of_length_le (by simp [width, hcs, hx])]
    exact RdL_one ⟨hx, RdL_int.2 hcs⟩
/-- A law: true; its arguments read as they did; package variables are what G says. -/
theorem law_rowG {C : Checked} {f : FuncId} {fn : Func} {s : ChangeSpec} {bt : TypeId} {ts : List TypeId} {ks : List Kd} {pre pre' : HL ks → Prop} {H : Type} {enc : TypeId × Value → H} {G : Glob}
    (he : enters C.prog f fn) (hf : FnOk C.prog f ks [.val .bool] G pre (fun _ => (true, ()))) (hl : laidOutB C.prog = true) (hts : fn.params.toList = ts) (hrs : fn.resultTypes = #[bt]) (hbt : C.prog.underlying bt = some .bool)
    (ho : OpnL C.prog ts ks pre') (hpre : ∀ xs, pre' xs → pre xs) (hv : s.vars = []) (hs : ∀ ds : List (DataW H), ds.length = ts.length → s.fn H ds = { results := [.lit (.bool true)], args := ds })
    (W : World) (hG : GlOk G (memOf W)) (base : Nat) (args : Array Value) (ds gs : List (DataW H)) (before : List MemPlace)
    (hok : ∀ (j : Nat) t v, fn.params[j]? = some t → args[j]? = some v → Value.okWide C.prog W .any base t v)
    (hW : DataW.Whole enc C.prog fn.params.toList s.vars false W args.toList ds gs before)
    (hsz : (DataW.weightsEach C.prog (fn.params.toList ++ s.plain.varTypes C.prog) (ds ++ gs)).all (· ≤ reachBytes) = true) :
    Calls C.prog f args W fun e W' => ∃ v, e = .returned v ∧ s.post enc C.prog fn false true false false W args v W' := by
  have hW' := hW
  have hlt : ∀ x ∈ before, x.block < W.heap.size := fun x hx => by simpa using hW'.lt x hx
  obtain ⟨p, q, hA, hV, rfl, hfz, hnd⟩ := hW
  rw [hv] at hV
  obtain ⟨rfl, rfl⟩ := trodVars_none hV
  rw [hts] at hA
  have hlen : ds.length = ts.length := by
    exact trodAll_len hA
  have hwt : ∀ n ∈ DataW.weightsEach C.prog ts ds, n ≤ reachBytes := by
    intro n hn
    have e : s.plain.varTypes C.prog = [] := by simp [DataSpec.varTypes, ChangeSpec.plain, hv]
    rw [e, hts, List.append_nil, List.append_nil, List.all_eq_true] at hsz
    simpa using hsz n hn
  obtain ⟨xs, hin, hp⟩ := opnL_open ho (enc := enc) (W := W) (base := base) (vs := args.toList) (ds := ds) (p := p) (fun j t v ht hj => hok j t v (by rw [← hts] at ht; simpa using ht) (by simpa using hj)) hA hwt
  have hc := hf W (memOf W) args.toList xs (fun b l h => h) hG hin (hpre xs hp)
  refine (callOk_calls he hc).mono ?_
  rintro e W' ⟨v, rfl, vs, ob, rfl, ⟨v, vs', rfl, hv1, rfl⟩, hb⟩
  have hv1 : v = .bool true := by have h : [v] = [Value.bool true] := hv1; simpa using h
  subst hv1
  refine ⟨_, rfl, ds, [], p ++ [], [], p, [], hW', ?_, ?_, ?_, ?_, fun h => by cases h⟩
  · rw [hrs, List.append_nil, hs ds hlen]
    exact trodAll_mk1 (shut_bool hbt true)
  · rw [hts, List.append_nil, hs ds hlen]
    exact opnL_stays hl ho hb hA (fun x hx => hlt x (by simpa using hx))
  · rw [hv, List.append_nil, hs ds hlen]
    rfl
  · exact hb.frame _
end Go.Eng
/- sha's tables as the card's rows list them. -/
namespace Go.Proofs.YtbfimfdhmggieaaDoor.sha
set_option maxRecDepth 100000
open Go Go.Eng Go.RowKit Cr Go.Proofs.YtbfimfdhmggieaaDoor
abbrev shaLaid : List (String × DataW Unit) := [("cresset/sha.first", Rows.laid_cresset_sha_first), ("cresset/sha.roots", Rows.laid_cresset_sha_roots)]
theorem gFirst : Tryd.prog.globalNamed "cresset/sha.first" = some 0 := by kernel_rfl
theorem gRoots : Tryd.prog.globalNamed "cresset/sha.roots" = some 1 := by kernel_rfl
theorem tFirst : (Tryd.prog.globals[0]?).map (·.type) = some 77 := by kernel_rfl
theorem tRoots : (Tryd.prog.globals[1]?).map (·.type) = some 171 := by kernel_rfl
/-- What the condition says of memory. -/
theorem sha_glob {W : World} (h : laidMetH Tryd.prog shaLaid W) : GlOk shaG (memOf W) := by
  rw [MakeChecks.laidMetH_plain _ _ _ (by kernel_rfl)] at h
  obtain ⟨ps, ⟨g0, t0, cs0, f0, p0, q0, hg0, ht0, hv0, hd0, ⟨g1, t1, cs1, f1, p1, q1, hg1, ht1, hv1, hd1, _, _⟩, _⟩, _, _⟩ := h
  obtain rfl := Option.some.inj (gFirst.symm.trans hg0)
  obtain rfl := Option.some.inj (gRoots.symm.trans hg1)
  obtain rfl := Option.some.inj (tFirst.symm.trans ht0)
  obtain rfl := Option.some.inj (tRoots.symm.trans ht1)
  have e0 : (Rows.laid_cresset_sha_first : DataW Unit) = .agg (firstL.map fun x => .lit (.int .u32 x)) := rfl
  have e1 : (Rows.laid_cresset_sha_roots : DataW Unit) = .agg (rootsL.map fun x => .lit (.int .u32 x)) := rfl
  rw [e0] at hd0
  rw [e1] at hd1
  have c0 := laid_ints (e := 76) (n := 8) (k := .u32) (by kernel_rfl) (by kernel_rfl) (by kernel_rfl) (by kernel_rfl) hd0
  have c1 := laid_ints (e := 76) (n := 64) (k := .u32) (by kernel_rfl) (by kernel_rfl) (by kernel_rfl) (by kernel_rfl) hd1
  have r0 := laid_row hg0 hv0 c0 (n := 8) rfl
  have r1 := laid_row hg1 hv1 c1 (n := 64) rfl
  intro g e x hx
  unfold shaG at hx
  split at hx
  · rename_i hg
    subst hg
    simp only [Option.some.injEq] at hx
    cases hx
    exact r0
  · split at hx
    · rename_i hg
      subst hg
      simp only [Option.some.injEq] at hx
      cases hx
      exact r1
    · cases hx
/-- The door's own heap meets the condition. -/
theorem door_met (os : Os) (args : Array Value) : laidMetH Tryd.prog shaLaid ((World.doorLaid Tryd.prog 400 os).forCall (fun _ _ => 0) ⟨#[], args, []⟩).memory :=
  laidMetH_of_parts3 (fuel := 8) (laidMet_of_run' 8 (by kernel_rfl) (by kernel_rfl)) (by kernel_rfl) (by kernel_rfl)
end Go.Proofs.YtbfimfdhmggieaaDoor.sha
namespace Go.Proofs.YtbfimfdhmggieaaDoor
set_option maxRecDepth 100000
open Go Go.Eng Go.RowKit Cr Go.ChangeShapes Go.WideShapes Go.ChangeAt

namespace xmdNumbers
theorem own : ownKnob Tryd.prog.godebug = none := by kernel_rfl
theorem laidOut : laidOutB Tryd.prog = true := by kernel_rfl
abbrev wtB : Car bsl → Prop := fun ys => List.length ys * Tryd.prog.bytesOf 5 ≤ reachBytes ∧ ∀ y ∈ ys, (Lit.int .u8 y).wf = true
theorem oB : OpnV Tryd.prog 22 bsl wtB := opnV_slice (e := 5) (by kernel_rfl) (by kernel_rfl) (by decide) (opnC_int (by kernel_rfl))
theorem bytes5 : Tryd.prog.bytesOf 5 = 1 := by kernel_rfl
theorem pB {xs : List Int} (h : wtB xs) : preB xs := by
  obtain ⟨h1, h2⟩ := h
  rw [bytes5] at h1
  refine ⟨fun x hx => ?_, ?_⟩
  · have := h2 x hx
    simp [Lit.wf, IntKind.min, IntKind.max, IntKind.signed, IntKind.bits] at this
    omega
  · show List.length xs ≤ _
    simp only [reachBytes] at h1
    omega
abbrev wtI : Car (.int .i64) → Prop := fun x => (Lit.int .i64 x).wf = true
theorem oI : OpnV Tryd.prog 3 (.int .i64) wtI := opnV_int (by kernel_rfl)
theorem pI {x : Int} (h : wtI x) : preI x := by
  have : (Lit.int .i64 x).wf = true := h
  simp [Lit.wf, IntKind.min, IntKind.max, IntKind.signed, IntKind.bits] at this
  exact ⟨by omega, by omega⟩
theorem opened : OpnL Tryd.prog [22, 22, 3] [bsl, bsl, .int .i64] (fun x => wtB x.1 ∧ wtB x.2.1 ∧ wtI x.2.2.1 ∧ True) :=
  .cons oB (by kernel_rfl) (of_decide_eq_true (by kernel_rfl)) (.cons oB (by kernel_rfl) (of_decide_eq_true (by kernel_rfl)) (.cons oI (by kernel_rfl) (of_decide_eq_true (by kernel_rfl)) .nil))
theorem lifted (os : Os) (started : os.Started) (H : Type) (enc : TypeId × Value → H) :
    ReturnsInHanded {} Tryd.checked os 4 .any (fun w args => (Rows.xmdNumbersSpec.pre enc Tryd.prog Tryd.f4 Rows.xmdNumbersRow.domain false w args ∧ laidMetH Tryd.prog sha.shaLaid w) ∧ sizedMet enc Tryd.prog Tryd.f4 (OpenSpec.ofChange Rows.xmdNumbersSpec) false w args) (Rows.xmdNumbersSpec.post enc Tryd.prog Tryd.f4 false true false false) := by
  refine returnsInHanded_of_change_and (C := Tryd.checked) (X := fun w _ => laidMetH Tryd.prog sha.shaLaid w) (fun _ _ _ hh h => h.of_heap hh) own started (by kernel_rfl) Tryd.func4
    (ChangeSpec.witness_shaped (enc := enc) (C := Tryd.checked) (os := os) (X := fun w _ => laidMetH Tryd.prog sha.shaLaid w) false (World.doorLaid Tryd.prog 400 os) #[.slice none 0 0, .slice none 0 0, .int .i64 0] 8 rfl (World.shaped_of_RefB (by kernel_rfl) (by kernel_rfl)) (by kernel_rfl) (by kernel_rfl) (by kernel_rfl) (sha.door_met os _)) ?_
  intro W base args ds gs before hval hW _ hsz hL _
  refine law_rowG (C := Tryd.checked) (bt := 4) (ts := [22, 22, 3]) law11.ent_numb law11.fn_numb laidOut (by kernel_rfl) (by kernel_rfl) (by kernel_rfl) opened ?_ rfl ?_ W (sha.sha_glob hL) base args ds gs before hval hW hsz
  · rintro ⟨x0, x1, x2, ⟨⟩⟩ ⟨h0, h1, h2, _⟩
    exact ⟨pB h0, pB h1, pI h2⟩
  · intro ds hl
    match ds, hl with
    | [d0, d1, d2], _ => rfl

theorem row : Rows.XmdNumbersSaid :=
  OpenClaim.holds_of_wide 4 Tryd.f4 rfl rfl rfl rfl rfl rfl rfl ⟨rfl, rfl, rfl, rfl, rfl⟩ rfl rfl rfl rfl rfl (by kernel_rfl) Tryd.func4 (by kernel_rfl)
    (of_decide_eq_true (by kernel_rfl)) (by unfold Func.isWrapper; first | (rw [if_pos (by decide +kernel)]; kernel_rfl) | (rw [if_neg (by decide +kernel)]; exact ⟨rfl, rfl⟩))
    (fun os started H enc _ => lifted os started H enc)
theorem wants : (Tryd.f4.params.toList.all fun u => !Tryd.prog.wantsStandIn u) = true := by kernel_rfl
/-- THE TIED CARD. -/
theorem proved : Rows.XmdNumbersCardSaid :=
  Claim7.holds_tied_plain_at .later [] [.data, .data] true (true, "30c18024f5400744120caf5eb37e15b2bb597e6febcf776de2208ae38104d59e") false
    row (fun _ h => by cases h) (by kernel_rfl) (fun _ h => by cases h) xmdNumbers_row_tie rfl ⟨rfl, rfl⟩ (by kernel_rfl) rfl
    (fun f fn hf hfn => by
      obtain rfl : f = 4 := Option.some.inj ((show Tryd.prog.funcNamed "cresset/cressetlaw11.XmdNumbers" = some 4 by kernel_rfl).symm.trans hf) |>.symm
      obtain rfl : fn = Tryd.f4 := (Option.some.inj (Tryd.func4.symm.trans hfn)).symm
      exact ⟨by kernel_rfl, fun j t ht => by
        have hm : t ∈ Tryd.f4.params.toList := by simpa using Array.mem_of_getElem? ht
        exact (show Tryd.prog.wantsStandIn t = false by simpa using List.all_eq_true.1 wants t hm)⟩)
    (by kernel_rfl)
#print axioms proved
end xmdNumbers
end Go.Proofs.YtbfimfdhmggieaaDoor
