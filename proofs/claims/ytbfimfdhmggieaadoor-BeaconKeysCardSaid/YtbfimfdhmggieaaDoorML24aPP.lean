/- Sqrt of package fp. -/
import Derived.Test.YtbfimfdhmggieaaDoorML24aPO
/- g1: number, Gen; codec: mark, G1. -/
namespace Go.Proofs.YtbfimfdhmggieaaDoor
open Go Go.Eng Cr

theorem sbytes_len (s : ByteArray) : (sbytes s).length = s.size := by simp only [sbytes, List.length_map, Array.length_toList]; rfl
theorem sbytes_Bs (s : ByteArray) : Bs (sbytes s) := by
  intro x hx
  simp only [sbytes, List.mem_map] at hx
  obtain ⟨b, _, rfl⟩ := hx
  have := b.toNat_lt
  omega

/-- Points of the first curve: (0, 0) is infinity. -/
abbrev pt1 : Kd := .pair .fp .fp

end Go.Proofs.YtbfimfdhmggieaaDoor
namespace Go.Proofs.YtbfimfdhmggieaaDoor.g1
set_option maxRecDepth 100000
open Go Go.Eng Go.RowKit Cr Go.Proofs.YtbfimfdhmggieaaDoor

theorem ent_number : enters Tryd.prog 67 Tryd.f67 := enters_mk (by kernel_rfl) (by kernel_rfl) (by kernel_rfl)
abbrev outNumber : HL [.str] → HO [.val .fp] := fun (s, _) => ((fp.rdFp (sbytes s)).1, ())
theorem fn_number : FnOk Tryd.prog 67 [.str] [.val .fp] noG (fun _ => True) outNumber := by
  refine fn_of_vc (sp := sps [fp.spRead]) (sps_cons (fnSpec_ok fp.fn_read) sps_nil) mixed ent_number (by decide) (by decide) ?_
  rintro w M0 ⟨s, ⟨⟩⟩ _ _
  refine vcx (X := (0 + s.size ≤ s.size ∧ fp.preRead ((sbytes s).take s.size, ()) ∧ ((fp.rdFp ((sbytes s).take s.size)).1, ()) = outNumber (s, ()))) (by kernel_rfl) ?_
  rw [List.take_of_length_le (by rw [sbytes_len]; exact Nat.le_refl _)]
  exact ⟨by omega, sbytes_Bs s, rfl⟩
noncomputable def spNumber : Nat × Eng.Spec := (67, fnSpec [.str] [.val .fp] (fun _ => True) outNumber)

def gx : Fp := zm 0x17f1d3a73197d7942695638c4fa9ac0fc3688c4f9774b905a14e3a3f171bac586c55e83ff97a1aeffb3af00adb22c6bb
def gy : Fp := zm 0x08b3f481e3aaa0f1a09e30ed741d8ae4fcf5e095d5d00af600db18cb2c04b3edd03cc744a2888ae40caa232946c5e7e1
theorem ent_gen : enters Tryd.prog 29 Tryd.f29 := enters_mk (by kernel_rfl) (by kernel_rfl) (by kernel_rfl)
abbrev outGen : HL [] → HO [.val pt1] := fun _ => ((gx, gy), ())
theorem fn_gen : FnOk Tryd.prog 29 [] [.val pt1] noG (fun _ => True) outGen := by
  refine fn_of_vc (sp := sps [spNumber]) (sps_cons (fnSpec_ok fn_number) sps_nil) mixed ent_gen (by decide) (by decide) ?_
  rintro w M0 ⟨⟩ _ _
  exact vcx (X := (True ∧ True ∧ (((gx, gy), ()) : (Fp × Fp) × Unit) = outGen ())) (by kernel_rfl) ⟨trivial, trivial, rfl⟩
end Go.Proofs.YtbfimfdhmggieaaDoor.g1

namespace Go.Proofs.YtbfimfdhmggieaaDoor.codec
set_option maxRecDepth 100000
open Go Go.Eng Go.RowKit Cr Go.Proofs.YtbfimfdhmggieaaDoor

theorem ent_mark : enters Tryd.prog 75 Tryd.f75 := enters_mk (by kernel_rfl) (by kernel_rfl) (by kernel_rfl)
abbrev outMark : HL [.bool, .bool] → HO [.val (.int .u8)] := fun (a, b, _) => ((if a = true then (192 : Int) else if b = true then 160 else 128), ())
theorem fn_mark : FnOk Tryd.prog 75 [.bool, .bool] [.val (.int .u8)] noG (fun _ => True) outMark := by
  refine fn_of_vc (sp := sps []) sps_nil mixed ent_mark (by decide) (by decide) ?_
  rintro w M0 ⟨a, b, ⟨⟩⟩ _ _
  refine vcx (X := ((a = true → ((192 : Int), ()) = outMark (a, b, ())) ∧ (a = false → (b = true → ((160 : Int), ()) = outMark (a, b, ())) ∧ (b = false → ((128 : Int), ()) = outMark (a, b, ()))))) (by kernel_rfl) ?_
  refine ⟨fun h => by subst h; rfl, fun h => ⟨fun h2 => by subst h h2; rfl, fun h2 => by subst h h2; rfl⟩⟩
noncomputable def spMark : Nat × Eng.Spec := (75, fnSpec [.bool, .bool] [.val (.int .u8)] (fun _ => True) outMark)

theorem ent_g1 : enters Tryd.prog 32 Tryd.f32 := enters_mk (by kernel_rfl) (by kernel_rfl) (by kernel_rfl)
/-- The short form of a point. -/
def g1b (p : Fp × Fp) : List Int := (bytesN 48 p.1.v).set 0 (bitOp .or .u8 ((bytesN 48 p.1.v).getD 0 0) (if (decide (p.1 = 0) && decide (p.2 = 0)) = true then (192 : Int) else if decide ((-p.2).v < p.2.v) = true then 160 else 128))
abbrev outG1 : HL [pt1] → HO [.val (.arr 48 (.int .u8))] := fun (p, _) => (g1b p, ())
theorem fn_g1 : FnOk Tryd.prog 32 [pt1] [.val (.arr 48 (.int .u8))] noG (fun _ => True) outG1 := by
  refine fn_of_vc (sp := sps [fp.spBytes, fp.spLarge, spMark]) (sps_cons (fnSpec_ok fp.fn_bytes) (sps_cons (fnSpec_ok fp.fn_large) (sps_cons (fnSpec_ok fn_mark) sps_nil))) mixed ent_g1 (by decide) (by decide) ?_
  rintro w M0 ⟨⟨x, y⟩, ⟨⟩⟩ _ _
  refine vcx (X := (True ∧ True ∧ True ∧ (0 : Nat) < 48 ∧ ((g1b (x, y), ()) : List Int × Unit) = outG1 ((x, y), ()))) (by kernel_rfl) ⟨trivial, trivial, trivial, by decide, rfl⟩
end Go.Proofs.YtbfimfdhmggieaaDoor.codec
/- What the loops of 'power' compute, as the executor spells it. -/
namespace Go.Eng
open Go Cr

def pj (n i : Int) : Int := IntKind.i64.wrap (n - IntKind.i64.wrap (i.tdiv 16))
def psh (i : Int) : Int := IntKind.i64.wrap (60 - IntKind.i64.wrap (4 * i.tmod 16))
def pdig (n : Int) (ws : List Int) (i : Int) : Int := bitOp .and .u64 (Int.fdiv (ws.getD (pj n i).toNat 0) (2 ^ min (psh i).toNat IntKind.u64.bits)) 15

theorem and_u64n (n m : Nat) (hn : n < 18446744073709551616) (hm : m < 18446744073709551616) : bitOp .and .u64 n m = ((n &&& m : Nat) : Int) := by
  show IntKind.u64.wrap ((BitVec.ofInt 64 n &&& BitVec.ofInt 64 m : BitVec 64).toNat : Int) = _
  have h1 : (BitVec.ofInt 64 (n : Int)).toNat = n := by rw [show BitVec.ofInt 64 (n : Int) = BitVec.ofNat 64 n from BitVec.ofInt_natCast .., BitVec.toNat_ofNat, Nat.mod_eq_of_lt (by omega)]
  have h2 : (BitVec.ofInt 64 (m : Int)).toNat = m := by rw [show BitVec.ofInt 64 (m : Int) = BitVec.ofNat 64 m from BitVec.ofInt_natCast .., BitVec.toNat_ofNat, Nat.mod_eq_of_lt (by omega)]
  rw [BitVec.toNat_and, h1, h2, wrap_u64']
  have := Nat.and_le_left (n := n) (m := m)
  omega

theorem and_15 {a : Int} (h0 : 0 ≤ a) (h1 : a < 18446744073709551616) : bitOp .and .u64 a 15 = a % 16 := by
  obtain ⟨n, rfl⟩ := Int.eq_ofNat_of_zero_le h0
  have := and_u64n n 15 (by omega) (by omega)
  rw [show ((15 : Nat) : Int) = 15 from rfl] at this
  rw [this]
  have h := Nat.and_two_pow_sub_one_eq_mod n 4
  rw [show 2 ^ 4 - 1 = 15 from rfl] at h
  rw [h]
  omega

theorem pj_eq {n k : Nat} (h : k < 16 * (n + 1)) (hn : n < 1000) : pj n k = ((n - k / 16 : Nat) : Int) := by
  unfold pj
  rw [Int.tdiv_eq_ediv_of_nonneg (by omega), wrap_i64' (a := (k : Int) / 16) (by omega) (by omega), wrap_i64' (by omega) (by omega)]
  omega

theorem psh_eq {k : Nat} : psh k = ((4 * (15 - k % 16) : Nat) : Int) := by
  unfold psh
  rw [Int.tmod_eq_emod_of_nonneg (by omega), wrap_i64' (a := 4 * ((k : Int) % 16)) (by omega) (by omega), wrap_i64' (by omega) (by omega)]
  omega

theorem pdig_ok {n k : Nat} {N : Int} (h : k < 16 * (n + 1)) (hn : n < 1000) : pdig n (lim (n + 1) N) k = N / p16 (16 * (n + 1) - 1 - k) % 16 := by
  unfold pdig
  rw [pj_eq h hn, psh_eq]
  simp only [Int.toNat_natCast]
  rw [show IntKind.u64.bits = 64 from rfl, Nat.min_eq_left (by omega), ← p16_pow, Int.fdiv_eq_ediv_of_nonneg _ (Int.le_of_lt (p16_pos _))]
  have hw : 0 ≤ (lim (n + 1) N).getD (n - k / 16) 0 ∧ (lim (n + 1) N).getD (n - k / 16) 0 < 18446744073709551616 := by
    rw [lim_get _ _ _ (by omega)]; omega
  have hp := p16_pos (15 - k % 16)
  have h1 := Int.ediv_nonneg hw.1 (Int.le_of_lt hp)
  have h2 := Int.ediv_le_self (p16 (15 - k % 16)) hw.1
  rw [and_15 h1 (by omega)]
  have := digit_at (n := n + 1) (N := N) (i := k) h
  rw [show n + 1 - 1 - k / 16 = n - k / 16 by omega] at this
  exact this

theorem pdig_bd {n k : Nat} (h : k < 16 * (n + 1)) (hn : n < 1000) : (0 ≤ pj n k ∧ pj n k < ((n + 1 : Nat) : Int)) ∧ (pj n k).toNat < n + 1 ∧ 0 ≤ psh k := by
  rw [pj_eq h hn, psh_eq]
  exact ⟨⟨by omega, by omega⟩, by omega, by omega⟩

/-- The table behind k rounds. -/
def tabAt {α : Type} (f : Nat → α) (z : α) (k : Nat) : List α := (List.range 16).map fun j => if j ≤ k then f j else z

theorem tabAt_get {α : Type} (f : Nat → α) (z d : α) {k j : Nat} (h : j ≤ k) (hj : j < 16) : (tabAt f z k).getD j d = f j := by
  simp [tabAt, hj, h]
theorem tabAt_set {α : Type} (f : Nat → α) (z : α) {k : Nat} : (tabAt f z k).set (k + 1) (f (k + 1)) = tabAt f z (k + 1) := by
  apply List.ext_getElem
  · simp [tabAt]
  · intro i h1 h2
    rw [List.getElem_set]
    split
    · rename_i e; subst e; simp [tabAt]
    · rename_i e
      simp only [tabAt, List.getElem_map, List.getElem_range]
      by_cases h : i ≤ k
      · rw [if_pos h, if_pos (by omega)]
      · rw [if_neg h, if_neg (by omega)]

end Go.Eng
/- power, Inv of package fp. Printed by gen_pow.py. -/
namespace Go.Proofs.YtbfimfdhmggieaaDoor.fp
set_option maxRecDepth 100000
open Go Go.Eng Go.RowKit Cr Go.Proofs.YtbfimfdhmggieaaDoor

theorem ent_power : enters Tryd.prog 130 Tryd.f130 := enters_mk (by kernel_rfl) (by kernel_rfl) (by kernel_rfl)
noncomputable def powI (x : Fp) (es : List Int) (g : Int × List Fp) : St := mkSt Tryd.f130.ntmps 64 [(2, .is (.one (.ptr 0 0))), (3, .is (.one (.ptr 8 0))), (4, .is (.one (.ptr 16 0))), (5, .is (.one (.ptr 24 0))), (11, sI .i64 g.1)] [(0, [.row .fp 1 [x]]), (8, [.ints .u64 6 es]), (16, [.row .fp 1 [(0 : Fp)]]), (24, [.row .fp 16 g.2])]
noncomputable def powJ (es : List Int) (tb : List Fp) (g : Int × Fp) : St := mkSt Tryd.f130.ntmps 96 [(3, .is (.one (.ptr 8 0))), (4, .is (.one (.ptr 16 0))), (5, .is (.one (.ptr 24 0))), (7, .is (.one (.ptr 72 0))), (24, sI .i64 g.1)] [(8, [.ints .u64 6 es]), (16, [.row .fp 1 [(0 : Fp)]]), (24, [.row .fp 16 tb]), (72, [.row .fp 1 [g.2]])]
noncomputable def powK (es : List Int) (tb : List Fp) (i : Int) (g : Int × Fp) : St := mkSt Tryd.f130.ntmps 128 [(3, .is (.one (.ptr 8 0))), (4, .is (.one (.ptr 16 0))), (5, .is (.one (.ptr 24 0))), (7, .is (.one (.ptr 72 0))), (8, sI .i64 i), (24, sI .i64 i), (27, sI .i64 g.1)] [(8, [.ints .u64 6 es]), (16, [.row .fp 1 [(0 : Fp)]]), (24, [.row .fp 16 tb]), (72, [.row .fp 1 [g.2]])]
noncomputable def powL (es : List Int) (tb : List Fp) (i : Int) (y : Fp) : St := mkSt Tryd.f130.ntmps 104 [(3, .is (.one (.ptr 8 0))), (4, .is (.one (.ptr 16 0))), (5, .is (.one (.ptr 24 0))), (7, .is (.one (.ptr 72 0))), (24, sI .i64 i)] [(8, [.ints .u64 6 es]), (16, [.row .fp 1 [(0 : Fp)]]), (24, [.row .fp 16 tb]), (72, [.row .fp 1 [y]])]
abbrev prePower : HL [.fp, (.arr 6 (.int .u64))] → Prop := fun (_, es, _) => Ws es
noncomputable abbrev outPower : HL [.fp, (.arr 6 (.int .u64))] → HO [.val .fp] := fun (x, es, _) => (zpw (x : Fp) (val es), ())

theorem fn_power : FnOk Tryd.prog 130 [.fp, (.arr 6 (.int .u64))] [.val .fp] noG prePower outPower := by
  have hsp : SpecsOk Tryd.prog (sps [spOne, spMul, spSquare]) := sps_cons (fnSpec_ok fn_one) (sps_cons (fnSpec_ok fn_mul) (sps_cons (fnSpec_ok fn_square) sps_nil))
  refine fn_of_tr (sp := sps [spOne, spMul, spSquare]) ent_power (by decide) (by decide) (by kernel_rfl) ?_
  rintro w M0 ⟨x, es, ⟨⟩⟩ ⟨_, ⟨hl, _⟩, _⟩ he
  have hl : List.length es = 6 := hl
  have he : Ws es := he
  have hE := val_nonneg he
  have hE2 : val es < p16 96 := by have := val_lt he; rw [hl] at this; rw [show 96 = 16 * 6 from rfl, p16_16]; exact this
  have hes : es = lim 6 (val es) := by have := lim_val he; rw [hl] at this; exact this.symm
  show Tr _ _ _ _ _ _ _
  refine tr_cut hsp mixed 4 (powI x es (0, (List.replicate 16 (0 : Fp)).set 0 1)) True ?_ (fun _ => ?_)
  · refine vcx (X := True ∧ (0 : Nat) < 16 ∧ (powI x es (0, (List.replicate 16 (0 : Fp)).set 0 1)).triv True) (by kernel_rfl) ⟨trivial, by decide, triv_intro trivial⟩
  rw [show (List.replicate 16 (0 : Fp)).set 0 1 = tabAt (zpow x) 0 0 from rfl]
  refine tr_count hsp mixed (powI x es) (fun k => ((k : Int), tabAt (zpow x) 0 k)) 15 (fun g => (IntKind.i64.wrap (g.1 + 1), g.2.set (IntKind.i64.wrap (g.1 + 1)).toNat (g.2.getD g.1.toNat 0 * x))) (powI x es) (c := nthC (codeOf Tryd.f130) 4) (by kernel_rfl) (by kernel_rfl) (le_of_proj (by kernel_rfl) (by kernel_rfl) trivial)
    (fun k hk => by
      show (_, _) = (_, _)
      rw [wrap_succ (by omega), Int.toNat_natCast, Int.toNat_natCast, tabAt_get _ _ _ (Nat.le_refl k) (by omega), show zpow x k * x = zpow x (k + 1) from rfl, tabAt_set]) ?_ ?_
  · intro k hk
    refine vcx (X := ((decide ((k : Int) < 15) = true → (0 ≤ (k : Int) ∧ (k : Int) < ((16 : Nat) : Int)) ∧ (k : Int).toNat < 16 ∧ True ∧ (0 ≤ IntKind.i64.wrap ((k : Int) + 1) ∧ IntKind.i64.wrap ((k : Int) + 1) < ((16 : Nat) : Int)) ∧ (IntKind.i64.wrap ((k : Int) + 1)).toNat < 16 ∧
        (powI x es (IntKind.i64.wrap ((k : Int) + 1), (tabAt (zpow x) 0 k).set (IntKind.i64.wrap ((k : Int) + 1)).toNat ((tabAt (zpow x) 0 k).getD (k : Int).toNat 0 * x))).triv (k < 15)) ∧
      (decide ((k : Int) < 15) = false → (powI x es ((k : Int), tabAt (zpow x) 0 k)).triv (k = 15)))) (by kernel_rfl) ?_
    refine ⟨fun h => ?_, fun h => triv_intro (by have := dec_ge h; omega)⟩
    have hlt : k < 15 := by have := dec_lt h; omega
    rw [wrap_succ (by omega)]
    exact ⟨⟨by omega, by omega⟩, by omega, trivial, ⟨by omega, by omega⟩, by omega, triv_intro hlt⟩
  generalize htb : tabAt (zpow x) 0 15 = tb
  have hget : ∀ j, j < 16 → tb.getD j 0 = zpow x j := fun j hj => by rw [← htb]; exact tabAt_get _ _ _ (by omega) hj
  clear htb
  refine tr_cut hsp mixed 2 (powJ es tb (0, 1)) True ?_ (fun _ => ?_)
  · refine vcx (X := True ∧ (powJ es tb (0, 1)).triv True) (by kernel_rfl) ⟨trivial, triv_intro trivial⟩
  rw [show ((0 : Int), (1 : Fp)) = (((0 : Nat) : Int), zpow x (val es / p16 (96 - 0)).toNat) by
    rw [Nat.sub_zero, Int.ediv_eq_zero_of_lt hE hE2]; rfl]
  refine tr_countT (powJ es tb) (fun i => ((i : Int), zpow x (val es / p16 (96 - i)).toNat)) 96 (fun g => (IntKind.i64.wrap (g.1 + 1), sqn g.2 4 * tb.getD (pdig (5 : Nat) es g.1).toNat 0)) (powJ es tb) (c := nthC (codeOf Tryd.f130) 7) (by kernel_rfl) (by kernel_rfl) (le_of_proj (by kernel_rfl) (by kernel_rfl) trivial)
    (fun i hi => by
      show (_, _) = (_, _)
      rw [wrap_succ (by omega), hes, pdig_ok (n := 5) hi (by omega), ← hes]
      rw [hget _ (by omega), sqn_zpow, ← zpow_add]
      congr 2
      have := digit_step hE (96 - 1 - i)
      rw [show 96 - (i + 1) = 96 - 1 - i by omega, this, show 96 - 1 - i + 1 = 96 - i by omega]) ?_ ?_
  · intro i hi
    generalize zpow x (val es / p16 (96 - i)).toNat = y
    refine tr_cut hsp mixed 2 (powL es tb (i : Int) y) (i < 96) ?_ (fun hlt => ?_)
    · refine vcx (X := ((decide ((i : Int) < 96) = true → (powL es tb (i : Int) y).triv (i < 96)) ∧ (decide ((i : Int) < 96) = false → (powJ es tb ((i : Int), y)).triv (i = 96)))) (by kernel_rfl) ?_
      exact ⟨fun h => triv_intro (by have := dec_lt h; omega), fun h => triv_intro (by have := dec_ge h; omega)⟩
    refine tr_block (c := nthC (loopOf (nthC (codeOf Tryd.f130) 7)) 2) (by kernel_rfl) (by kernel_rfl) ?_
    refine tr_cut hsp mixed 2 (powK es tb (i : Int) (0, y)) True ?_ (fun _ => ?_)
    · refine vcx (X := (powK es tb (i : Int) (0, y)).triv True) (by kernel_rfl) (triv_intro trivial)
    refine tr_count hsp mixed (powK es tb (i : Int)) (fun j => ((j : Int), sqn y j)) 4 (fun g => (IntKind.i64.wrap (g.1 + 1), g.2 * g.2)) (powK es tb (i : Int)) (c := nthC (bodyOf (nthC (loopOf (nthC (codeOf Tryd.f130) 7)) 2)) 2) (by kernel_rfl) (by kernel_rfl) (le_of_proj (by kernel_rfl) (by kernel_rfl) trivial)
      (fun j hj => by show (_, _) = (_, _); rw [wrap_succ (by omega)]; rfl) ?_ ?_
    · intro j hj
      refine vcx (X := ((decide ((j : Int) < 4) = true → True ∧ (powK es tb (i : Int) (IntKind.i64.wrap ((j : Int) + 1), sqn y j * sqn y j)).triv (j < 4)) ∧ (decide ((j : Int) < 4) = false → (powK es tb (i : Int) ((j : Int), sqn y j)).triv (j = 4)))) (by kernel_rfl) ?_
      exact ⟨fun h => ⟨trivial, triv_intro (by have := dec_lt h; omega)⟩, fun h => triv_intro (by have := dec_ge h; omega)⟩
    refine tr_cut hsp mixed 1 (powJ es tb ((i : Int), sqn y 4 * tb.getD (pdig (5 : Nat) es i).toNat 0)) True ?_ (fun _ => ?_)
    · refine vcx (X := ((16 : Int) ≠ 0 ∧ (0 ≤ pj (5 : Nat) i ∧ pj (5 : Nat) i < ((6 : Nat) : Int)) ∧ (pj (5 : Nat) i).toNat < 6 ∧ (16 : Int) ≠ 0 ∧ 0 ≤ psh i ∧ (0 ≤ pdig (5 : Nat) es i ∧ pdig (5 : Nat) es i < ((16 : Nat) : Int)) ∧ (pdig (5 : Nat) es i).toNat < 16 ∧ True ∧ (powJ es tb ((i : Int), sqn y 4 * tb.getD (pdig (5 : Nat) es i).toNat 0)).triv True)) (by kernel_rfl) ?_
      obtain ⟨b1, b2, b3⟩ := pdig_bd (n := 5) hlt (by omega)
      have b4 : 0 ≤ pdig (5 : Nat) es i ∧ pdig (5 : Nat) es i < 16 := by
        rw [hes, pdig_ok (n := 5) hlt (by omega)]
        omega
      exact ⟨by decide, b1, b2, by decide, b3, b4, by omega, trivial, triv_intro trivial⟩
    refine tr_nil ?_
    refine tr_vc hsp mixed _ _ ?_
    refine vcx (X := (powJ es tb (IntKind.i64.wrap ((i : Int) + 1), sqn y 4 * tb.getD (pdig (5 : Nat) es i).toNat 0)).triv (i < 96)) (by kernel_rfl) (triv_intro hlt)
  refine tr_vc hsp mixed _ _ ?_
  refine vcx (X := (zpow x (val es / p16 (96 - 96)).toNat, ()) = outPower (x, es, ())) (by kernel_rfl) ?_
  rw [Nat.sub_self, p16, Int.ediv_one, ← zpw_eq]
noncomputable def spPower : Nat × Eng.Spec := (130, fnSpec [.fp, (.arr 6 (.int .u64))] [.val .fp] prePower outPower)

theorem ent_inv : enters Tryd.prog 110 Tryd.f110 := enters_mk (by kernel_rfl) (by kernel_rfl) (by kernel_rfl)
/-- x to the power of the modulus less 2. -/
noncomputable def zinv (x : Fp) : Fp := zpw x 4002409555221667393417789825735904156556882819939007885332058136124031650490837864442687629129015664037894272559785
noncomputable abbrev outInv : HL [.fp] → HO [.val .fp] := fun (x, _) => (zinv (x : Fp), ())
theorem val_pm2 : val [13402431016077863593, 2210141511517208575, 7435674573564081700, 7239337960414712511, 5412103778470702295, 1873798617647539866] = 4002409555221667393417789825735904156556882819939007885332058136124031650490837864442687629129015664037894272559785 := by decide
theorem fn_inv : FnOk Tryd.prog 110 [.fp] [.val .fp] noG (fun _ => True) outInv := by
  refine fn_of_vc (sp := sps [spPower]) (sps_cons (fnSpec_ok fn_power) sps_nil) mixed ent_inv (by decide) (by decide) ?_
  rintro w M0 ⟨x, ⟨⟩⟩ _ _
  refine vcx (X := (prePower (x, [13402431016077863593, 2210141511517208575, 7435674573564081700, 7239337960414712511, 5412103778470702295, 1873798617647539866], ()) ∧ (zpw x (val [13402431016077863593, 2210141511517208575, 7435674573564081700, 7239337960414712511, 5412103778470702295, 1873798617647539866]), ()) = outInv (x, ()))) (by kernel_rfl) ?_
  refine ⟨?_, ?_⟩
  · intro y hy; simp at hy; rcases hy with rfl | rfl | rfl | rfl | rfl | rfl <;> exact ⟨by decide, by decide⟩
  · rw [val_pm2]; rfl
noncomputable def spInv : Nat × Eng.Spec := (110, fnSpec [.fp] [.val .fp] (fun _ => True) outInv)
end Go.Proofs.YtbfimfdhmggieaaDoor.fp
/- g1: points without a division. -/
namespace Go.Proofs.YtbfimfdhmggieaaDoor
open Go Go.Eng Cr
/-- So many calls that ask for nothing. -/
def Trs : Nat → Prop → Prop
  | 0, P => P
  | n + 1, P => True ∧ Trs n P
theorem trs {P : Prop} (h : P) : ∀ n, Trs n P := by
  intro n
  induction n with
  | zero => exact h
  | succ n ih => exact ⟨trivial, ih⟩
theorem dec_pair {α β : Type} [DecidableEq α] [DecidableEq β] (p q : α × β) : (decide (p.1 = q.1) && decide (p.2 = q.2)) = decide (p = q) := by
  rw [Bool.eq_iff_iff]
  simp [Prod.ext_iff]
end Go.Proofs.YtbfimfdhmggieaaDoor
namespace Go.Proofs.YtbfimfdhmggieaaDoor.g1
set_option maxRecDepth 100000
open Go Go.Eng Go.RowKit Cr Go.Proofs.YtbfimfdhmggieaaDoor
abbrev bk : Kd := .pair .fp (.pair .fp .fp)

theorem ent_lift : enters Tryd.prog 117 Tryd.f117 := enters_mk (by kernel_rfl) (by kernel_rfl) (by kernel_rfl)
noncomputable abbrev outLift : HL [pt1] → HO [.val bk] := fun (p, _) => (jlift (F := Fp) p, ())
theorem fn_lift : FnOk Tryd.prog 117 [pt1] [.val bk] noG (fun _ => True) outLift := by
  refine fn_of_vc (sp := sps [fp.spOf]) (sps_cons (fnSpec_ok fp.fn_of) sps_nil) mixed ent_lift (by decide) (by decide) ?_
  rintro w M0 ⟨p, ⟨⟩⟩
  revert p
  intro (p : Fp × Fp) _ _
  refine vcx (X := (((decide (p.1 = 0) && decide (p.2 = 0)) = true → (((0 : Fp), (0 : Fp), (0 : Fp)), ()) = outLift (p, ())) ∧ ((decide (p.1 = 0) && decide (p.2 = 0)) = false → U64 1 ∧ ((p.1, p.2, (1 : Fp)), ()) = outLift (p, ())))) (by kernel_rfl) ?_
  rw [dec_pair p ((0 : Fp), (0 : Fp))]
  refine ⟨fun h => ?_, fun h => ⟨by constructor <;> decide, ?_⟩⟩
  · show _ = (jlift p, ())
    unfold jlift
    rw [if_pos (of_decide_eq_true h)]
  · show _ = (jlift p, ())
    unfold jlift
    rw [if_neg (of_decide_eq_false h)]
noncomputable def spLift : Nat × Eng.Spec := (117, fnSpec [pt1] [.val bk] (fun _ => True) outLift)

theorem ent_point : enters Tryd.prog 120 Tryd.f120 := enters_mk (by kernel_rfl) (by kernel_rfl) (by kernel_rfl)
noncomputable abbrev outPoint : HL [bk] → HO [.val pt1] := fun (a, _) => (jpoint (F := Fp) a, ())
theorem fn_point : FnOk Tryd.prog 120 [bk] [.val pt1] noG (fun _ => True) outPoint := by
  refine fn_of_vc (sp := sps [fp.spZero, fp.spInv, fp.spSquare, fp.spMul]) (sps_cons (fnSpec_ok fp.fn_zero) (sps_cons (fnSpec_ok fp.fn_inv) (sps_cons (fnSpec_ok fp.fn_square) (sps_cons (fnSpec_ok fp.fn_mul) sps_nil)))) mixed ent_point (by decide) (by decide) ?_
  rintro w M0 ⟨a, ⟨⟩⟩
  revert a
  intro (a : Fp × Fp × Fp) _ _
  refine vcx (X := (True ∧ (decide (a.2.2 = 0) = true → (((0 : Fp), (0 : Fp)), ()) = outPoint (a, ())) ∧ (decide (a.2.2 = 0) = false → Trs 5 (((a.1 * (fp.zinv a.2.2 * fp.zinv a.2.2), a.2.1 * (fp.zinv a.2.2 * fp.zinv a.2.2) * fp.zinv a.2.2), ()) = outPoint (a, ()))))) (by kernel_rfl) ?_
  refine ⟨trivial, fun h => ?_, fun h => trs ?_ _⟩
  · show _ = (jpoint a, ())
    unfold jpoint
    rw [if_pos (of_decide_eq_true h)]
  · show _ = (jpoint a, ())
    unfold jpoint
    rw [if_neg (of_decide_eq_false h)]
    rfl
noncomputable def spPoint : Nat × Eng.Spec := (120, fnSpec [bk] [.val pt1] (fun _ => True) outPoint)

theorem ent_double : enters Tryd.prog 119 Tryd.f119 := enters_mk (by kernel_rfl) (by kernel_rfl) (by kernel_rfl)
noncomputable abbrev outDouble : HL [bk] → HO [.val bk] := fun (a, _) => (jdbl (F := Fp) a, ())
theorem fn_double : FnOk Tryd.prog 119 [bk] [.val bk] noG (fun _ => True) outDouble := by
  refine fn_of_vc (sp := sps [fp.spZero, fp.spAdd, fp.spSub, fp.spSquare, fp.spMul]) (sps_cons (fnSpec_ok fp.fn_zero) (sps_cons (fnSpec_ok fp.fn_add) (sps_cons (fnSpec_ok fp.fn_sub) (sps_cons (fnSpec_ok fp.fn_square) (sps_cons (fnSpec_ok fp.fn_mul) sps_nil))))) mixed ent_double (by decide) (by decide) ?_
  rintro w M0 ⟨a, ⟨⟩⟩
  revert a
  intro (a : Fp × Fp × Fp) _ _
  refine vcx (X := (True ∧ (decide (a.2.2 = 0) = true → (((0 : Fp), (0 : Fp), (0 : Fp)), ()) = outDouble (a, ())) ∧ (decide (a.2.2 = 0) = false → Trs 18 ((jdbN a, ()) = outDouble (a, ()))))) (by kernel_rfl) ?_
  refine ⟨trivial, fun h => ?_, fun h => trs ?_ _⟩
  · show _ = (jdbl a, ())
    unfold jdbl
    rw [if_pos (of_decide_eq_true h)]
  · show _ = (jdbl a, ())
    unfold jdbl
    rw [if_neg (of_decide_eq_false h)]
noncomputable def spDouble : Nat × Eng.Spec := (119, fnSpec [bk] [.val bk] (fun _ => True) outDouble)

theorem ent_add : enters Tryd.prog 118 Tryd.f118 := enters_mk (by kernel_rfl) (by kernel_rfl) (by kernel_rfl)
noncomputable abbrev outAdd : HL [bk, bk] → HO [.val bk] := fun (a, b, _) => (jadd (F := Fp) a b, ())
abbrev wd (a b : Fp × Fp × Fp) : Fp := b.1 * (a.2.2 * a.2.2) - a.1 * (b.2.2 * b.2.2)
abbrev rs (a b : Fp × Fp × Fp) : Fp := b.2.1 * (a.2.2 * a.2.2) * a.2.2 - a.2.1 * (b.2.2 * b.2.2) * b.2.2
theorem fn_add : FnOk Tryd.prog 118 [bk, bk] [.val bk] noG (fun _ => True) outAdd := by
  refine fn_of_vc (sp := sps [fp.spZero, fp.spSub, fp.spSquare, fp.spMul, spDouble]) (sps_cons (fnSpec_ok fp.fn_zero) (sps_cons (fnSpec_ok fp.fn_sub) (sps_cons (fnSpec_ok fp.fn_square) (sps_cons (fnSpec_ok fp.fn_mul) (sps_cons (fnSpec_ok fn_double) sps_nil))))) mixed ent_add (by decide) (by decide) ?_
  rintro w M0 ⟨a, b, ⟨⟩⟩
  revert a b
  intro (a : Fp × Fp × Fp) (b : Fp × Fp × Fp) _ _
  refine vcx (X := (True ∧ (decide (a.2.2 = 0) = true → (b, ()) = outAdd (a, b, ())) ∧ (decide (a.2.2 = 0) = false → True ∧ (decide (b.2.2 = 0) = true → (a, ()) = outAdd (a, b, ())) ∧ (decide (b.2.2 = 0) = false →
    Trs 11 ((decide (wd a b = 0) = true → True ∧ (decide (rs a b = 0) = true → True ∧ (jdbl (F := Fp) a, ()) = outAdd (a, b, ())) ∧ (decide (rs a b = 0) = false → (((0 : Fp), (0 : Fp), (0 : Fp)), ()) = outAdd (a, b, ()))) ∧
      (decide (wd a b = 0) = false → Trs 13 ((jfin (F := Fp) (wd a b) (rs a b) (a.1 * (b.2.2 * b.2.2)) (a.2.1 * (b.2.2 * b.2.2) * b.2.2) a.2.2 b.2.2, ()) = outAdd (a, b, ())))))))) (by kernel_rfl) ?_
  refine ⟨trivial, fun h => ?_, fun h => ⟨trivial, fun h2 => ?_, fun h2 => trs ⟨fun h3 => ⟨trivial, fun h4 => ⟨trivial, ?_⟩, fun h4 => ?_⟩, fun h3 => trs ?_ _⟩ _⟩⟩
  all_goals show _ = (jadd a b, ())
  all_goals unfold jadd
  · rw [if_pos (of_decide_eq_true h)]
  · rw [if_neg (of_decide_eq_false h), if_pos (of_decide_eq_true h2)]
  · rw [if_neg (of_decide_eq_false h), if_neg (of_decide_eq_false h2), if_pos (of_decide_eq_true h3), if_pos (of_decide_eq_true h4)]
  · rw [if_neg (of_decide_eq_false h), if_neg (of_decide_eq_false h2), if_pos (of_decide_eq_true h3), if_neg (of_decide_eq_false h4)]
  · rw [if_neg (of_decide_eq_false h), if_neg (of_decide_eq_false h2), if_neg (of_decide_eq_false h3)]
noncomputable def spAdd : Nat × Eng.Spec := (118, fnSpec [bk, bk] [.val bk] (fun _ => True) outAdd)
end Go.Proofs.YtbfimfdhmggieaaDoor.g1
/- Multiples and sums of points. No program here. -/
namespace Cr
open Rg Fd Go Go.Eng

def dh (b : Int) : Int := Int.fdiv b (2 ^ min (Int.toNat 4) IntKind.u8.bits)
def dl (b : Int) : Int := bitOp .and .u8 b 15
theorem dh_ok {b : Int} (h0 : 0 ≤ b) (h1 : b < 256) : dh b = b / 16 ∧ 0 ≤ dh b ∧ dh b < 16 := by
  have e : dh b = b / 16 := by
    show Int.fdiv b (2 ^ 4) = b / 16
    rw [Int.fdiv_eq_ediv_of_nonneg b (by decide)]; rfl
  rw [e]; omega
theorem dl_ok {b : Int} (h0 : 0 ≤ b) (h1 : b < 256) : dl b = b % 16 ∧ 0 ≤ dl b ∧ dl b < 16 := by
  obtain ⟨n, rfl⟩ := Int.eq_ofNat_of_zero_le h0
  have hn : n < 256 := by omega
  have e : dl (n : Int) = (n : Int) % 16 := by
    show IntKind.u8.wrap ((BitVec.ofInt 8 (n : Int) &&& BitVec.ofInt 8 15 : BitVec 8).toNat : Int) = _
    have h1 : (BitVec.ofInt 8 (n : Int)).toNat = n := by rw [show BitVec.ofInt 8 (n : Int) = BitVec.ofNat 8 n from BitVec.ofInt_natCast .., BitVec.toNat_ofNat, Nat.mod_eq_of_lt (by omega)]
    rw [BitVec.toNat_and, h1, show (BitVec.ofInt 8 15).toNat = 15 from rfl]
    have h := Nat.and_two_pow_sub_one_eq_mod n 4
    rw [show 2 ^ 4 - 1 = 15 from rfl] at h
    rw [h]
    have : IntKind.u8.wrap ((n % 2 ^ 4 : Nat) : Int) = ((n % 2 ^ 4 : Nat) : Int) := by
      simp [IntKind.wrap, IntKind.signed, IntKind.bits]; omega
    rw [this]; omega
  rw [e]; omega

section
variable {F : Type} [Fd F]
def jsm (ps : List (F × F)) : Nat → Jc F
  | 0 => (0, 0, 0)
  | k + 1 => jadd (jsm ps k) (jlift (ps.getD k (0, 0)))
def jt (o : Jc F) : Nat → Jc F
  | 0 => (0, 0, 0)
  | k + 1 => jadd (jt o k) o
def jdn (s : Jc F) : Nat → Jc F
  | 0 => s
  | k + 1 => jdbl (jdn s k)
def jst (tb : List (Jc F)) (s : Jc F) (d : Int) : Jc F := jadd (jdn s 4) (tb.getD d.toNat (0, 0, 0))
def jsd (tb : List (Jc F)) (ds : List Int) (s : Jc F) : Nat → Jc F
  | 0 => s
  | j + 1 => jst tb (jsd tb ds s j) (ds.getD j 0)
def jby (tb : List (Jc F)) (s : Jc F) (b : Int) : Jc F := jsd tb [dh b, dl b] s 2
def jtm (tb : List (Jc F)) (k : List Int) : Nat → Jc F
  | 0 => (0, 0, 0)
  | i + 1 => jby tb (jtm tb k i) (k.getD i 0)

variable {b : F} (hb : b ≠ 0)
include hb
end
end Cr
/- g1: Sum, Add, Neg, On. -/
namespace Go.Proofs.YtbfimfdhmggieaaDoor.g1
set_option maxRecDepth 100000
open Go Go.Eng Go.RowKit Cr Go.Proofs.YtbfimfdhmggieaaDoor

abbrev bc (s : Fp × Fp × Fp) : List Cell := [.row .fp 1 [s.1], .row .fp 1 [s.2.1], .row .fp 1 [s.2.2]]
abbrev pc (s : Fp × Fp) : List Cell := [.row .fp 1 [s.1], .row .fp 1 [s.2]]
theorem ent_sum : enters Tryd.prog 147 Tryd.f147 := enters_mk (by kernel_rfl) (by kernel_rfl) (by kernel_rfl)
noncomputable def sumI (ps : List (Fp × Fp)) (g : Int × (Fp × Fp × Fp)) : St := mkSt Tryd.f147.ntmps 40 [(2, .is (.one (.ptr 0 0))), (3, .is (.one (.ptr 8 0))), (6, .is (.one (.ro pt1 ps))), (7, sI .i64 ps.length), (8, sI .i64 g.1)] [(8, bc g.2), (0, pc (0, 0))]
noncomputable def sumN (ps : List (Fp × Fp)) (g : Int × (Fp × Fp × Fp)) : Int × (Fp × Fp × Fp) := (IntKind.i64.wrap (g.1 + 1), jadd (F := Fp) g.2 (jlift (F := Fp) (ps.getD g.1.toNat (0, 0))))
abbrev preSum : HL [.sl pt1] → Prop := fun (ps, _) => List.length ps < 4611686018427387904
noncomputable abbrev outSum : HL [.sl pt1] → HO [.val pt1] := fun (ps, _) => (jpoint (F := Fp) (jsm ps (List.length ps)), ())
theorem fn_sum : FnOk Tryd.prog 147 [.sl pt1] [.val pt1] noG preSum outSum := by
  have hsp : SpecsOk Tryd.prog (sps [spLift, spAdd, spPoint]) := sps_cons (fnSpec_ok fn_lift) (sps_cons (fnSpec_ok fn_add) (sps_cons (fnSpec_ok fn_point) sps_nil))
  refine fn_of_tr (sp := sps [spLift, spAdd, spPoint]) ent_sum (by decide) (by decide) (by kernel_rfl) ?_
  rintro w M0 ⟨ps, ⟨⟩⟩
  revert ps
  intro (ps : List (Fp × Fp)) _ hl
  have hl : ps.length < 4611686018427387904 := hl
  show Tr _ _ _ _ _ _ _
  refine tr_cut hsp mixed 3 (sumI ps (0, jsm ps 0)) True ?_ (fun _ => ?_)
  · exact vcx (X := (sumI ps (0, jsm ps 0)).triv True) (by kernel_rfl) (triv_intro trivial)
  refine tr_count hsp mixed (sumI ps) (fun k => ((k : Int), jsm ps k)) ps.length (sumN ps) (sumI ps) (c := nthC (codeOf Tryd.f147) 3) (by kernel_rfl) (by kernel_rfl) (le_of_proj (by kernel_rfl) (by kernel_rfl) trivial)
    (fun k hk => by show (_, _) = (_, _); rw [wrap_succ (by omega)]; rfl) ?_ ?_
  · intro k hk
    generalize hs : jsm ps k = s
    refine vcx (X := ((decide ((k : Int) < (ps.length : Int)) = true → (0 ≤ (k : Int) ∧ (k : Int) < (ps.length : Int)) ∧ (k : Int).toNat < ps.length ∧ True ∧ True ∧ (sumI ps (sumN ps ((k : Int), s))).triv (k < ps.length)) ∧
      (decide ((k : Int) < (ps.length : Int)) = false → (sumI ps ((k : Int), s)).triv (k = ps.length)))) (by kernel_rfl) ?_
    refine ⟨fun h => ?_, fun h => triv_intro (by have := dec_ge h; omega)⟩
    have hlt : k < ps.length := by have := dec_lt h; omega
    exact ⟨⟨by omega, by omega⟩, by omega, trivial, trivial, triv_intro hlt⟩
  · refine tr_vc hsp mixed _ _ ?_
    exact vcx (X := (True ∧ (jpoint (F := Fp) (jsm ps ps.length), ()) = outSum (ps, ()))) (by kernel_rfl) ⟨trivial, rfl⟩
noncomputable def spSum : Nat × Eng.Spec := (147, fnSpec [.sl pt1] [.val pt1] preSum outSum)

theorem ent_padd : enters Tryd.prog 139 Tryd.f139 := enters_mk (by kernel_rfl) (by kernel_rfl) (by kernel_rfl)
noncomputable abbrev outPAdd : HL [pt1, pt1] → HO [.val pt1] := fun (p, q, _) => (jpoint (F := Fp) (jsm [p, q] 2), ())
theorem fn_padd : FnOk Tryd.prog 139 [pt1, pt1] [.val pt1] noG (fun _ => True) outPAdd := by
  refine fn_of_vc (sp := sps [spSum]) (sps_cons (fnSpec_ok fn_sum) sps_nil) mixed ent_padd (by decide) (by decide) ?_
  rintro w M0 ⟨p, q, ⟨⟩⟩
  revert p q
  intro (p : Fp × Fp) (q : Fp × Fp) _ _
  refine vcx (X := ((0 + 2 : Nat) ≤ 2 ∧ preSum ([p, q], ()) ∧ outSum ([p, q], ()) = outPAdd (p, q, ()))) (by kernel_rfl) ?_
  exact ⟨by decide, show (2 : Nat) < 4611686018427387904 by decide, rfl⟩
theorem ent_pneg : enters Tryd.prog 131 Tryd.f131 := enters_mk (by kernel_rfl) (by kernel_rfl) (by kernel_rfl)
noncomputable abbrev outPNeg : HL [pt1] → HO [.val pt1] := fun (p, _) => (pneg (F := Fp) p, ())
theorem fn_pneg : FnOk Tryd.prog 131 [pt1] [.val pt1] noG (fun _ => True) outPNeg := by
  refine fn_of_vc (sp := sps [fp.spNeg]) (sps_cons (fnSpec_ok fp.fn_neg) sps_nil) mixed ent_pneg (by decide) (by decide) ?_
  rintro w M0 ⟨p, ⟨⟩⟩
  revert p
  intro (p : Fp × Fp) _ _
  exact vcx (X := (True ∧ (((p.1, -p.2), ()) = outPNeg (p, ())))) (by kernel_rfl) ⟨trivial, rfl⟩
noncomputable def spPNeg : Nat × Eng.Spec := (131, fnSpec [pt1] [.val pt1] (fun _ => True) outPNeg)

/-- The curve: y^2 = x^3 + 4. -/
def b4 : Fp := zm 4
theorem ent_on : enters Tryd.prog 84 Tryd.f84 := enters_mk (by kernel_rfl) (by kernel_rfl) (by kernel_rfl)
def isOn (p : Fp × Fp) : Bool := decide (p = ((0 : Fp), (0 : Fp))) || decide (p.2 * p.2 = p.1 * p.1 * p.1 + b4)
abbrev outOn : HL [pt1] → HO [.val .bool] := fun (p, _) => (isOn p, ())
theorem fn_on : FnOk Tryd.prog 84 [pt1] [.val .bool] noG (fun _ => True) outOn := by
  refine fn_of_vc (sp := sps [fp.spSquare, fp.spMul, fp.spOf, fp.spAdd]) (sps_cons (fnSpec_ok fp.fn_square) (sps_cons (fnSpec_ok fp.fn_mul) (sps_cons (fnSpec_ok fp.fn_of) (sps_cons (fnSpec_ok fp.fn_add) sps_nil)))) mixed ent_on (by decide) (by decide) ?_
  rintro w M0 ⟨p, ⟨⟩⟩
  revert p
  intro (p : Fp × Fp) _ _
  refine vcx (X := (((decide (p.1 = 0) && decide (p.2 = 0)) = true → (true, ()) = outOn (p, ())) ∧ ((decide (p.1 = 0) && decide (p.2 = 0)) = false → Trs 3 (U64 4 ∧ True ∧ (decide (p.2 * p.2 = p.1 * p.1 * p.1 + b4), ()) = outOn (p, ()))))) (by kernel_rfl) ?_
  rw [dec_pair p ((0 : Fp), (0 : Fp))]
  refine ⟨fun h => ?_, fun h => trs ⟨by constructor <;> decide, trivial, ?_⟩ _⟩
  · simp only [outOn, isOn, h, Bool.true_or]
  · simp only [outOn, isOn, h, Bool.false_or]
noncomputable def spOn : Nat × Eng.Spec := (84, fnSpec [pt1] [.val .bool] (fun _ => True) outOn)
end Go.Proofs.YtbfimfdhmggieaaDoor.g1
namespace Go.Proofs.YtbfimfdhmggieaaDoor.fp
set_option maxRecDepth 100000
open Go Go.Eng Go.RowKit Cr Go.Proofs.YtbfimfdhmggieaaDoor

theorem ent_sqrt : enters Tryd.prog 83 Tryd.f83 := enters_mk (by kernel_rfl) (by kernel_rfl) (by kernel_rfl)
noncomputable def sqrI (x : Fp) (g : Int × List Int) : St := mkSt Tryd.f83.ntmps 56 [(1, .is (.one (.ptr 0 0))), (2, .is (.one (.ptr 8 0))), (4, .is (.one (.ptr 32 0))), (8, sI .i64 g.1)] [(0, [.row .fp 1 [x]]), (8, [.row .fp 1 [(0 : Fp)]]), (32, [.ints .u64 6 g.2])]
def sqrN (g : Int × List Int) : Int × List Int := (IntKind.i64.wrap (g.1 + 1), g.2.set g.1.toNat (bitOp .or .u64 (Int.fdiv (g.2.getD g.1.toNat 0) (2 ^ min (Int.toNat 2) IntKind.u64.bits)) (IntKind.u64.wrap (g.2.getD (IntKind.i64.wrap (g.1 + 1)).toNat 0 * 2 ^ min (Int.toNat 62) IntKind.u64.bits))))
def sqrE : List Int := [13402431016077863596, 2210141511517208575, 7435674573564081700, 7239337960414712511, 5412103778470702295, 1873798617647539866]
def sqrG : Nat → Int × List Int
  | 0 => (0, sqrE)
  | k + 1 => sqrN (sqrG k)
def sqrF (es : List Int) : List Int := es.set 5 (Int.fdiv ((es.drop 5).getD 0 0) (2 ^ min (Int.toNat 2) IntKind.u64.bits))

theorem sqrG_fst : ∀ k, k ≤ 5 → (sqrG k).1 = (k : Int) := by
  intro k
  induction k with
  | zero => intro _; rfl
  | succ k ih => intro h; show IntKind.i64.wrap ((sqrG k).1 + 1) = _; rw [ih (by omega), wrap_succ (by omega)]

/-- (p + 1) / 4 -/
def p14 : Int := 1000602388805416848354447456433976039139220704984751971333014534031007912622709466110671907282253916009473568139947
theorem sqrF_val : val (sqrF (sqrG 5).2) = p14 := by decide +kernel
theorem sqrF_ws : Ws (sqrF (sqrG 5).2) := by
  intro x hx
  have e : sqrF (sqrG 5).2 = lim 6 p14 := by decide +kernel
  rw [e] at hx
  exact lim_ws _ _ x hx

/-- What Sqrt answers. -/
noncomputable def fpSqrt (x : Fp) : Fp × Bool := if zpw x p14 * zpw x p14 = x then (zpw x p14, true) else (0, false)
noncomputable abbrev outSqrt : HL [.fp] → HO [.val .fp, .val .bool] := fun (x, _) => ((fpSqrt x).1, (fpSqrt x).2, ())
theorem fn_sqrt : FnOk Tryd.prog 83 [.fp] [.val .fp, .val .bool] noG (fun _ => True) outSqrt := by
  have hsp : SpecsOk Tryd.prog (sps [spPower, spSquare]) := sps_cons (fnSpec_ok fn_power) (sps_cons (fnSpec_ok fn_square) sps_nil)
  refine fn_of_tr (sp := sps [spPower, spSquare]) ent_sqrt (by decide) (by decide) (by kernel_rfl) ?_
  rintro w M0 ⟨x, ⟨⟩⟩ _ _
  show Tr _ _ _ _ _ _ _
  refine tr_cut hsp mixed 3 (sqrI x (0, sqrE)) True ?_ (fun _ => ?_)
  · refine vcx (X := (sqrI x (0, sqrE)).triv True) (by kernel_rfl) (triv_intro trivial)
  refine tr_count hsp mixed (sqrI x) sqrG 5 sqrN (sqrI x) (c := nthC (codeOf Tryd.f83) 3) (by kernel_rfl) (by kernel_rfl) (le_of_proj (by kernel_rfl) (by kernel_rfl) trivial) (fun k hk => rfl) ?_ ?_
  · intro k hk
    have hf := sqrG_fst k hk
    generalize sqrG k = g at *
    obtain ⟨i, es⟩ := g
    simp only at hf
    subst hf
    refine vcx (X := ((decide ((k : Int) < 5) = true → (0 ≤ (k : Int) ∧ (k : Int) < ((6 : Nat) : Int)) ∧ (k : Int).toNat < 6 ∧ (0 : Int) ≤ 2 ∧ (0 ≤ IntKind.i64.wrap ((k : Int) + 1) ∧ IntKind.i64.wrap ((k : Int) + 1) < ((6 : Nat) : Int)) ∧ (IntKind.i64.wrap ((k : Int) + 1)).toNat < 6 ∧ (0 : Int) ≤ 62 ∧ (0 ≤ (k : Int) ∧ (k : Int) < ((6 : Nat) : Int)) ∧ (k : Int).toNat < 6 ∧ (sqrI x (sqrN ((k : Int), es))).triv (k < 5)) ∧
      (decide ((k : Int) < 5) = false → (sqrI x ((k : Int), es)).triv (k = 5)))) (by kernel_rfl) ?_
    refine ⟨fun h => ?_, fun h => triv_intro (by have := dec_ge h; omega)⟩
    have hlt : k < 5 := by have := dec_lt h; omega
    rw [wrap_succ (by omega)]
    exact ⟨⟨by omega, by omega⟩, by omega, by decide, ⟨by omega, by omega⟩, by omega, by decide, ⟨by omega, by omega⟩, by omega, triv_intro hlt⟩
  have hv := sqrF_val
  have hw := sqrF_ws
  generalize sqrG 5 = g at *
  obtain ⟨i, es⟩ := g
  simp only at hv hw
  refine tr_vc hsp mixed _ _ ?_
  refine vcx (X := ((0 : Int) ≤ 2 ∧ (5 : Nat) < 6 ∧ prePower (x, sqrF es, ()) ∧ True ∧
    (((!decide (zpw x (val (sqrF es)) * zpw x (val (sqrF es)) = x)) = true → (((0 : Fp), false, ()) = outSqrt (x, ()))) ∧
     ((!decide (zpw x (val (sqrF es)) * zpw x (val (sqrF es)) = x)) = false → ((zpw x (val (sqrF es)), true, ()) = outSqrt (x, ())))))) (by kernel_rfl) ?_
  rw [hv]
  refine ⟨by decide, by decide, hw, trivial, fun h => ?_, fun h => ?_⟩
  · have h : ¬ zpw x p14 * zpw x p14 = x := by simpa using h
    simp [outSqrt, fpSqrt, h]
  · have h : zpw x p14 * zpw x p14 = x := by simpa using h
    simp [outSqrt, fpSqrt, h]
noncomputable def spSqrt : Nat × Eng.Spec := (83, fnSpec [.fp] [.val .fp, .val .bool] (fun _ => True) outSqrt)
end Go.Proofs.YtbfimfdhmggieaaDoor.fp
