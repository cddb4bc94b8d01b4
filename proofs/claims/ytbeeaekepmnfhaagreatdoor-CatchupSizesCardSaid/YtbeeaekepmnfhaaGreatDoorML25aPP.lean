/- A value that nothing unfolds. -/
import Derived.KernelRfl
import Derived.Test.YtbeeaekepmnfhaaGreatDoorML25aPO
/- g1: number, Gen; codec: mark, G1. -/
namespace Go.Proofs.YtbeeaekepmnfhaaGreatDoor
open Go Go.Eng Cr

theorem sbytes_len (s : ByteArray) : (sbytes s).length = s.size := by simp only [sbytes, List.length_map, Array.length_toList]; rfl
theorem sbytes_Bs (s : ByteArray) : Bs (sbytes s) := by
  intro x hx
  simp only [sbytes, List.mem_map] at hx
  obtain ⟨b, _, rfl⟩ := hx
  have := b.toNat_lt
  omega

/-- Points of the first curve: (0, 0) is infinity. -/
abbrev pt1 : Kd := .pair .fp .fp

end Go.Proofs.YtbeeaekepmnfhaaGreatDoor
namespace Go.Proofs.YtbeeaekepmnfhaaGreatDoor.g1
set_option maxRecDepth 100000
open Go Go.Eng Go.RowKit Cr Go.Proofs.YtbeeaekepmnfhaaGreatDoor

theorem ent_number : enters Tryz.prog 81 Tryz.f81 := enters_mk (by kernel_rfl) (by kernel_rfl) (by kernel_rfl)
abbrev outNumber : HL [.str] → HO [.val .fp] := fun (s, _) => ((fp.rdFp (sbytes s)).1, ())
theorem fn_number : FnOk Tryz.prog 81 [.str] [.val .fp] noG (fun _ => True) outNumber := by
  refine fn_of_vc (sp := sps [fp.spRead]) (sps_cons (fnSpec_ok fp.fn_read) sps_nil) mixed ent_number (by decide) (by decide) ?_
  rintro w M0 ⟨s, ⟨⟩⟩ _ _
  refine vcx (X := (0 + s.size ≤ s.size ∧ fp.preRead ((sbytes s).take s.size, ()) ∧ ((fp.rdFp ((sbytes s).take s.size)).1, ()) = outNumber (s, ()))) (by kernel_rfl) ?_
  rw [List.take_of_length_le (by rw [sbytes_len]; exact Nat.le_refl _)]
  exact ⟨by omega, sbytes_Bs s, rfl⟩
noncomputable def spNumber : Nat × Eng.Spec := (81, fnSpec [.str] [.val .fp] (fun _ => True) outNumber)

def gx : Fp := zm 0x17f1d3a73197d7942695638c4fa9ac0fc3688c4f9774b905a14e3a3f171bac586c55e83ff97a1aeffb3af00adb22c6bb
def gy : Fp := zm 0x08b3f481e3aaa0f1a09e30ed741d8ae4fcf5e095d5d00af600db18cb2c04b3edd03cc744a2888ae40caa232946c5e7e1
theorem ent_gen : enters Tryz.prog 41 Tryz.f41 := enters_mk (by kernel_rfl) (by kernel_rfl) (by kernel_rfl)
abbrev outGen : HL [] → HO [.val pt1] := fun _ => ((gx, gy), ())
theorem fn_gen : FnOk Tryz.prog 41 [] [.val pt1] noG (fun _ => True) outGen := by
  refine fn_of_vc (sp := sps [spNumber]) (sps_cons (fnSpec_ok fn_number) sps_nil) mixed ent_gen (by decide) (by decide) ?_
  rintro w M0 ⟨⟩ _ _
  exact vcx (X := (True ∧ True ∧ (((gx, gy), ()) : (Fp × Fp) × Unit) = outGen ())) (by kernel_rfl) ⟨trivial, trivial, rfl⟩
end Go.Proofs.YtbeeaekepmnfhaaGreatDoor.g1

namespace Go.Proofs.YtbeeaekepmnfhaaGreatDoor.codec
set_option maxRecDepth 100000
open Go Go.Eng Go.RowKit Cr Go.Proofs.YtbeeaekepmnfhaaGreatDoor

end Go.Proofs.YtbeeaekepmnfhaaGreatDoor.codec
/- Powers, and the digits of an exponent. No program here. -/
namespace Cr
section
variable {M : Int} [Md M]

theorem one_mul' (a : Zm M) : 1 * a = a := by rw [mul_comm', mul_one']

def zpow (x : Zm M) : Nat → Zm M
  | 0 => 1
  | n + 1 => zpow x n * x

theorem zpow_add (x : Zm M) (m n : Nat) : zpow x (m + n) = zpow x m * zpow x n := by
  induction n with
  | zero => rw [zpow, mul_one']; rfl
  | succ n ih => rw [← Nat.add_assoc, zpow, ih, zpow, mul_assoc']

theorem zpow_two (x : Zm M) (m : Nat) : zpow x m * zpow x m = zpow x (2 * m) := by rw [← zpow_add, Nat.two_mul]

/-- Squared so often. -/
def sqn (x : Zm M) : Nat → Zm M
  | 0 => x
  | k + 1 => sqn x k * sqn x k

theorem sqn_zpow (x : Zm M) (m : Nat) : ∀ k, sqn (zpow x m) k = zpow x (2 ^ k * m) := by
  intro k
  induction k with
  | zero => simp [sqn]
  | succ k ih => rw [sqn, ih, zpow_two, Nat.pow_succ]; congr 1; rw [Nat.mul_comm (2 ^ k) 2, Nat.mul_assoc]

/-- The same; nothing unfolds it. -/
noncomputable def zpw (x : Zm M) (E : Int) : Zm M := Classical.choose (⟨zpow x E.toNat, rfl⟩ : ∃ y, y = zpow x E.toNat)
theorem zpw_eq (x : Zm M) (E : Int) : zpw x E = zpow x E.toNat := Classical.choose_spec (⟨zpow x E.toNat, rfl⟩ : ∃ y, y = zpow x E.toNat)

end

def p16 : Nat → Int
  | 0 => 1
  | n + 1 => 16 * p16 n

theorem p16_pos (n : Nat) : 0 < p16 n := by
  induction n with
  | zero => decide
  | succ n ih => simp only [p16]; omega

theorem p16_add (m n : Nat) : p16 (m + n) = p16 m * p16 n := by
  induction m with
  | zero => simp [p16]
  | succ m ih => rw [Nat.succ_add]; simp only [p16, ih, Int.mul_assoc]

theorem p16_16 (n : Nat) : p16 (16 * n) = pw n := by
  induction n with
  | zero => rfl
  | succ n ih => rw [Nat.mul_succ, Nat.add_comm, p16_add, ih]; rfl

theorem p16_dvd {m : Nat} (h : m ≤ 16) : ∃ c : Int, (18446744073709551616 : Int) = c * p16 m ∧ 0 < c := by
  refine ⟨p16 (16 - m), ?_, p16_pos _⟩
  rw [← p16_add, Nat.sub_add_cancel h]; rfl

theorem p16_pow (n : Nat) : p16 n = (2 : Int) ^ (4 * n) := by
  induction n with
  | zero => rfl
  | succ n ih => rw [p16, ih, Nat.mul_succ, Int.pow_add]; rw [Int.mul_comm]; rfl

/-- A digit of a word of a number. -/
theorem digit_at {n : Nat} {N : Int} {i : Nat} (hi : i < 16 * n) : ((lim n N).getD (n - 1 - i / 16) 0) / p16 (15 - i % 16) % 16 = N / p16 (16 * n - 1 - i) % 16 := by
  rw [lim_get _ _ _ (by omega)]
  obtain ⟨c, hc, hc0⟩ := p16_dvd (m := 15 - i % 16 + 1) (by omega)
  have e1 : p16 (16 * n - 1 - i) = pw (n - 1 - i / 16) * p16 (15 - i % 16) := by
    rw [← p16_16, ← p16_add]; congr 1; omega
  rw [e1, ← Int.ediv_ediv_of_nonneg (Int.le_of_lt (pw_pos _))]
  generalize N / pw (n - 1 - i / 16) = A
  have hp := p16_pos (15 - i % 16)
  rw [hc, show p16 (15 - i % 16 + 1) = 16 * p16 (15 - i % 16) from rfl]
  generalize p16 (15 - i % 16) = P at *
  have h1 : A % (c * (16 * P)) = A % (P * (16 * c)) := by congr 1; rw [Int.mul_comm c, Int.mul_comm 16 P, Int.mul_assoc]
  rw [h1]
  have h2 : A % (P * (16 * c)) / P = (A / P) % (16 * c) := by
    rw [Int.emod_def, Int.emod_def, Int.mul_assoc, ← Int.sub_mul_ediv_left _ _ (show P ≠ 0 by omega), ← Int.ediv_ediv_of_nonneg (Int.le_of_lt hp)]
  rw [h2, Int.emod_emod_of_dvd _ ⟨c, rfl⟩]

/-- The exponent's digits, one by one. -/
theorem digit_step {N : Int} (h : 0 ≤ N) (k : Nat) : (N / p16 k).toNat = 16 * (N / p16 (k + 1)).toNat + (N / p16 k % 16).toNat := by
  have e : N / p16 (k + 1) = N / p16 k / 16 := by
    rw [show p16 (k + 1) = p16 k * 16 from by rw [p16, Int.mul_comm], Int.ediv_ediv_of_nonneg (Int.le_of_lt (p16_pos k))]
  have h0 : 0 ≤ N / p16 k := Int.ediv_nonneg h (Int.le_of_lt (p16_pos k))
  rw [e]
  omega

end Cr
/- What the loops of 'power' compute, as the executor spells it. -/
namespace Go.Eng
open Go Cr

def pj (n i : Int) : Int := IntKind.i64.wrap (n - IntKind.i64.wrap (i.tdiv 16))
def psh (i : Int) : Int := IntKind.i64.wrap (60 - IntKind.i64.wrap (4 * i.tmod 16))
def pdig (n : Int) (ws : List Int) (i : Int) : Int := bitOp .and .u64 (Int.fdiv (ws.getD (pj n i).toNat 0) (2 ^ min (psh i).toNat IntKind.u64.bits)) 15

theorem and_u64n (n m : Nat) (hn : n < 18446744073709551616) (hm : m < 18446744073709551616) : bitOp .and .u64 n m = ((n &&& m : Nat) : Int) := by
  show IntKind.u64.wrap ((BitVec.ofInt 64 n &&& BitVec.ofInt 64 m : BitVec 64).toNat : Int) = _
  have h1 : (BitVec.ofInt 64 (n : Int)).toNat = n := by rw [show BitVec.ofInt 64 (n : Int) = BitVec.ofNat 64 n from BitVec.ofInt_natCast .., BitVec.toNat_ofNat, Nat.mod_eq_of_lt (by omega)]
  have h2 : (BitVec.ofInt 64 (m : Int)).toNat = m := by rw [show BitVec.ofInt 64 (m : Int) = BitVec.ofNat 64 m from BitVec.ofInt_natCast .., BitVec.toNat_ofNat, Nat.mod_eq_of_lt (by omega)]
  rw [BitVec.toNat_and, h1, h2, wrap_u64']
  have := Nat.and_le_left (n := n) (m := m)
  omega

theorem and_15 {a : Int} (h0 : 0 ≤ a) (h1 : a < 18446744073709551616) : bitOp .and .u64 a 15 = a % 16 := by
  obtain ⟨n, rfl⟩ := Int.eq_ofNat_of_zero_le h0
  have := and_u64n n 15 (by omega) (by omega)
  rw [show ((15 : Nat) : Int) = 15 from rfl] at this
  rw [this]
  have h := Nat.and_two_pow_sub_one_eq_mod n 4
  rw [show 2 ^ 4 - 1 = 15 from rfl] at h
  rw [h]
  omega

theorem pj_eq {n k : Nat} (h : k < 16 * (n + 1)) (hn : n < 1000) : pj n k = ((n - k / 16 : Nat) : Int) := by
  unfold pj
  rw [Int.tdiv_eq_ediv_of_nonneg (by omega), wrap_i64' (a := (k : Int) / 16) (by omega) (by omega), wrap_i64' (by omega) (by omega)]
  omega

theorem psh_eq {k : Nat} : psh k = ((4 * (15 - k % 16) : Nat) : Int) := by
  unfold psh
  rw [Int.tmod_eq_emod_of_nonneg (by omega), wrap_i64' (a := 4 * ((k : Int) % 16)) (by omega) (by omega), wrap_i64' (by omega) (by omega)]
  omega

theorem pdig_ok {n k : Nat} {N : Int} (h : k < 16 * (n + 1)) (hn : n < 1000) : pdig n (lim (n + 1) N) k = N / p16 (16 * (n + 1) - 1 - k) % 16 := by
  unfold pdig
  rw [pj_eq h hn, psh_eq]
  simp only [Int.toNat_natCast]
  rw [show IntKind.u64.bits = 64 from rfl, Nat.min_eq_left (by omega), ← p16_pow, Int.fdiv_eq_ediv_of_nonneg _ (Int.le_of_lt (p16_pos _))]
  have hw : 0 ≤ (lim (n + 1) N).getD (n - k / 16) 0 ∧ (lim (n + 1) N).getD (n - k / 16) 0 < 18446744073709551616 := by
    rw [lim_get _ _ _ (by omega)]; omega
  have hp := p16_pos (15 - k % 16)
  have h1 := Int.ediv_nonneg hw.1 (Int.le_of_lt hp)
  have h2 := Int.ediv_le_self (p16 (15 - k % 16)) hw.1
  rw [and_15 h1 (by omega)]
  have := digit_at (n := n + 1) (N := N) (i := k) h
  rw [show n + 1 - 1 - k / 16 = n - k / 16 by omega] at this
  exact this

theorem pdig_bd {n k : Nat} (h : k < 16 * (n + 1)) (hn : n < 1000) : (0 ≤ pj n k ∧ pj n k < ((n + 1 : Nat) : Int)) ∧ (pj n k).toNat < n + 1 ∧ 0 ≤ psh k := by
  rw [pj_eq h hn, psh_eq]
  exact ⟨⟨by omega, by omega⟩, by omega, by omega⟩

/-- The table behind k rounds. -/
def tabAt {α : Type} (f : Nat → α) (z : α) (k : Nat) : List α := (List.range 16).map fun j => if j ≤ k then f j else z

theorem tabAt_get {α : Type} (f : Nat → α) (z d : α) {k j : Nat} (h : j ≤ k) (hj : j < 16) : (tabAt f z k).getD j d = f j := by
  simp [tabAt, hj, h]
theorem tabAt_set {α : Type} (f : Nat → α) (z : α) {k : Nat} : (tabAt f z k).set (k + 1) (f (k + 1)) = tabAt f z (k + 1) := by
  apply List.ext_getElem
  · simp [tabAt]
  · intro i h1 h2
    rw [List.getElem_set]
    split
    · rename_i e; subst e; simp [tabAt]
    · rename_i e
      simp only [tabAt, List.getElem_map, List.getElem_range]
      by_cases h : i ≤ k
      · rw [if_pos h, if_pos (by omega)]
      · rw [if_neg h, if_neg (by omega)]

end Go.Eng
/- power, Inv of package fp. Printed by gen_pow.py. -/
namespace Go.Proofs.YtbeeaekepmnfhaaGreatDoor.fp
set_option maxRecDepth 100000
open Go Go.Eng Go.RowKit Cr Go.Proofs.YtbeeaekepmnfhaaGreatDoor

theorem ent_power : enters Tryz.prog 200 Tryz.f200 := enters_mk (by kernel_rfl) (by kernel_rfl) (by kernel_rfl)
noncomputable def powI (x : Fp) (es : List Int) (g : Int × List Fp) : St := mkSt Tryz.f200.ntmps 64 [(2, .is (.one (.ptr 0 0))), (3, .is (.one (.ptr 8 0))), (4, .is (.one (.ptr 16 0))), (5, .is (.one (.ptr 24 0))), (11, sI .i64 g.1)] [(0, [.row .fp 1 [x]]), (8, [.ints .u64 6 es]), (16, [.row .fp 1 [(0 : Fp)]]), (24, [.row .fp 16 g.2])]
noncomputable def powJ (es : List Int) (tb : List Fp) (g : Int × Fp) : St := mkSt Tryz.f200.ntmps 96 [(3, .is (.one (.ptr 8 0))), (4, .is (.one (.ptr 16 0))), (5, .is (.one (.ptr 24 0))), (7, .is (.one (.ptr 72 0))), (24, sI .i64 g.1)] [(8, [.ints .u64 6 es]), (16, [.row .fp 1 [(0 : Fp)]]), (24, [.row .fp 16 tb]), (72, [.row .fp 1 [g.2]])]
noncomputable def powK (es : List Int) (tb : List Fp) (i : Int) (g : Int × Fp) : St := mkSt Tryz.f200.ntmps 128 [(3, .is (.one (.ptr 8 0))), (4, .is (.one (.ptr 16 0))), (5, .is (.one (.ptr 24 0))), (7, .is (.one (.ptr 72 0))), (8, sI .i64 i), (24, sI .i64 i), (27, sI .i64 g.1)] [(8, [.ints .u64 6 es]), (16, [.row .fp 1 [(0 : Fp)]]), (24, [.row .fp 16 tb]), (72, [.row .fp 1 [g.2]])]
noncomputable def powL (es : List Int) (tb : List Fp) (i : Int) (y : Fp) : St := mkSt Tryz.f200.ntmps 104 [(3, .is (.one (.ptr 8 0))), (4, .is (.one (.ptr 16 0))), (5, .is (.one (.ptr 24 0))), (7, .is (.one (.ptr 72 0))), (24, sI .i64 i)] [(8, [.ints .u64 6 es]), (16, [.row .fp 1 [(0 : Fp)]]), (24, [.row .fp 16 tb]), (72, [.row .fp 1 [y]])]
abbrev prePower : HL [.fp, (.arr 6 (.int .u64))] → Prop := fun (_, es, _) => Ws es
noncomputable abbrev outPower : HL [.fp, (.arr 6 (.int .u64))] → HO [.val .fp] := fun (x, es, _) => (zpw (x : Fp) (val es), ())

theorem fn_power : FnOk Tryz.prog 200 [.fp, (.arr 6 (.int .u64))] [.val .fp] noG prePower outPower := by
  have hsp : SpecsOk Tryz.prog (sps [spOne, spMul, spSquare]) := sps_cons (fnSpec_ok fn_one) (sps_cons (fnSpec_ok fn_mul) (sps_cons (fnSpec_ok fn_square) sps_nil))
  refine fn_of_tr (sp := sps [spOne, spMul, spSquare]) ent_power (by decide) (by decide) (by kernel_rfl) ?_
  rintro w M0 ⟨x, es, ⟨⟩⟩ ⟨_, ⟨hl, _⟩, _⟩ he
  have hl : List.length es = 6 := hl
  have he : Ws es := he
  have hE := val_nonneg he
  have hE2 : val es < p16 96 := by have := val_lt he; rw [hl] at this; rw [show 96 = 16 * 6 from rfl, p16_16]; exact this
  have hes : es = lim 6 (val es) := by have := lim_val he; rw [hl] at this; exact this.symm
  show Tr _ _ _ _ _ _ _
  refine tr_cut hsp mixed 4 (powI x es (0, (List.replicate 16 (0 : Fp)).set 0 1)) True ?_ (fun _ => ?_)
  · refine vcx (X := True ∧ (0 : Nat) < 16 ∧ (powI x es (0, (List.replicate 16 (0 : Fp)).set 0 1)).triv True) (by kernel_rfl) ⟨trivial, by decide, triv_intro trivial⟩
  rw [show (List.replicate 16 (0 : Fp)).set 0 1 = tabAt (zpow x) 0 0 from rfl]
  refine tr_count hsp mixed (powI x es) (fun k => ((k : Int), tabAt (zpow x) 0 k)) 15 (fun g => (IntKind.i64.wrap (g.1 + 1), g.2.set (IntKind.i64.wrap (g.1 + 1)).toNat (g.2.getD g.1.toNat 0 * x))) (powI x es) (c := nthC (codeOf Tryz.f200) 4) (by kernel_rfl) (by kernel_rfl) (le_of_proj (by kernel_rfl) (by kernel_rfl) trivial)
    (fun k hk => by
      show (_, _) = (_, _)
      rw [wrap_succ (by omega), Int.toNat_natCast, Int.toNat_natCast, tabAt_get _ _ _ (Nat.le_refl k) (by omega), show zpow x k * x = zpow x (k + 1) from rfl, tabAt_set]) ?_ ?_
  · intro k hk
    refine vcx (X := ((decide ((k : Int) < 15) = true → (0 ≤ (k : Int) ∧ (k : Int) < ((16 : Nat) : Int)) ∧ (k : Int).toNat < 16 ∧ True ∧ (0 ≤ IntKind.i64.wrap ((k : Int) + 1) ∧ IntKind.i64.wrap ((k : Int) + 1) < ((16 : Nat) : Int)) ∧ (IntKind.i64.wrap ((k : Int) + 1)).toNat < 16 ∧
        (powI x es (IntKind.i64.wrap ((k : Int) + 1), (tabAt (zpow x) 0 k).set (IntKind.i64.wrap ((k : Int) + 1)).toNat ((tabAt (zpow x) 0 k).getD (k : Int).toNat 0 * x))).triv (k < 15)) ∧
      (decide ((k : Int) < 15) = false → (powI x es ((k : Int), tabAt (zpow x) 0 k)).triv (k = 15)))) (by kernel_rfl) ?_
    refine ⟨fun h => ?_, fun h => triv_intro (by have := dec_ge h; omega)⟩
    have hlt : k < 15 := by have := dec_lt h; omega
    rw [wrap_succ (by omega)]
    exact ⟨⟨by omega, by omega⟩, by omega, trivial, ⟨by omega, by omega⟩, by omega, triv_intro hlt⟩
  generalize htb : tabAt (zpow x) 0 15 = tb
  have hget : ∀ j, j < 16 → tb.getD j 0 = zpow x j := fun j hj => by rw [← htb]; exact tabAt_get _ _ _ (by omega) hj
  clear htb
  refine tr_cut hsp mixed 2 (powJ es tb (0, 1)) True ?_ (fun _ => ?_)
  · refine vcx (X := True ∧ (powJ es tb (0, 1)).triv True) (by kernel_rfl) ⟨trivial, triv_intro trivial⟩
  rw [show ((0 : Int), (1 : Fp)) = (((0 : Nat) : Int), zpow x (val es / p16 (96 - 0)).toNat) by
    rw [Nat.sub_zero, Int.ediv_eq_zero_of_lt hE hE2]; rfl]
  refine tr_countT (powJ es tb) (fun i => ((i : Int), zpow x (val es / p16 (96 - i)).toNat)) 96 (fun g => (IntKind.i64.wrap (g.1 + 1), sqn g.2 4 * tb.getD (pdig (5 : Nat) es g.1).toNat 0)) (powJ es tb) (c := nthC (codeOf Tryz.f200) 7) (by kernel_rfl) (by kernel_rfl) (le_of_proj (by kernel_rfl) (by kernel_rfl) trivial)
    (fun i hi => by
      show (_, _) = (_, _)
      rw [wrap_succ (by omega), hes, pdig_ok (n := 5) hi (by omega), ← hes]
      rw [hget _ (by omega), sqn_zpow, ← zpow_add]
      congr 2
      have := digit_step hE (96 - 1 - i)
      rw [show 96 - (i + 1) = 96 - 1 - i by omega, this, show 96 - 1 - i + 1 = 96 - i by omega]) ?_ ?_
  · intro i hi
    generalize zpow x (val es / p16 (96 - i)).toNat = y
    refine tr_cut hsp mixed 2 (powL es tb (i : Int) y) (i < 96) ?_ (fun hlt => ?_)
    · refine vcx (X := ((decide ((i : Int) < 96) = true → (powL es tb (i : Int) y).triv (i < 96)) ∧ (decide ((i : Int) < 96) = false → (powJ es tb ((i : Int), y)).triv (i = 96)))) (by kernel_rfl) ?_
      exact ⟨fun h => triv_intro (by have := dec_lt h; omega), fun h => triv_intro (by have := dec_ge h; omega)⟩
    refine tr_block (c := nthC (loopOf (nthC (codeOf Tryz.f200) 7)) 2) (by kernel_rfl) (by kernel_rfl) ?_
    refine tr_cut hsp mixed 2 (powK es tb (i : Int) (0, y)) True ?_ (fun _ => ?_)
    · refine vcx (X := (powK es tb (i : Int) (0, y)).triv True) (by kernel_rfl) (triv_intro trivial)
    refine tr_count hsp mixed (powK es tb (i : Int)) (fun j => ((j : Int), sqn y j)) 4 (fun g => (IntKind.i64.wrap (g.1 + 1), g.2 * g.2)) (powK es tb (i : Int)) (c := nthC (bodyOf (nthC (loopOf (nthC (codeOf Tryz.f200) 7)) 2)) 2) (by kernel_rfl) (by kernel_rfl) (le_of_proj (by kernel_rfl) (by kernel_rfl) trivial)
      (fun j hj => by show (_, _) = (_, _); rw [wrap_succ (by omega)]; rfl) ?_ ?_
    · intro j hj
      refine vcx (X := ((decide ((j : Int) < 4) = true → True ∧ (powK es tb (i : Int) (IntKind.i64.wrap ((j : Int) + 1), sqn y j * sqn y j)).triv (j < 4)) ∧ (decide ((j : Int) < 4) = false → (powK es tb (i : Int) ((j : Int), sqn y j)).triv (j = 4)))) (by kernel_rfl) ?_
      exact ⟨fun h => ⟨trivial, triv_intro (by have := dec_lt h; omega)⟩, fun h => triv_intro (by have := dec_ge h; omega)⟩
    refine tr_cut hsp mixed 1 (powJ es tb ((i : Int), sqn y 4 * tb.getD (pdig (5 : Nat) es i).toNat 0)) True ?_ (fun _ => ?_)
    · refine vcx (X := ((16 : Int) ≠ 0 ∧ (0 ≤ pj (5 : Nat) i ∧ pj (5 : Nat) i < ((6 : Nat) : Int)) ∧ (pj (5 : Nat) i).toNat < 6 ∧ (16 : Int) ≠ 0 ∧ 0 ≤ psh i ∧ (0 ≤ pdig (5 : Nat) es i ∧ pdig (5 : Nat) es i < ((16 : Nat) : Int)) ∧ (pdig (5 : Nat) es i).toNat < 16 ∧ True ∧ (powJ es tb ((i : Int), sqn y 4 * tb.getD (pdig (5 : Nat) es i).toNat 0)).triv True)) (by kernel_rfl) ?_
      obtain ⟨b1, b2, b3⟩ := pdig_bd (n := 5) hlt (by omega)
      have b4 : 0 ≤ pdig (5 : Nat) es i ∧ pdig (5 : Nat) es i < 16 := by
        rw [hes, pdig_ok (n := 5) hlt (by omega)]
        omega
      exact ⟨by decide, b1, b2, by decide, b3, b4, by omega, trivial, triv_intro trivial⟩
    refine tr_nil ?_
    refine tr_vc hsp mixed _ _ ?_
    refine vcx (X := (powJ es tb (IntKind.i64.wrap ((i : Int) + 1), sqn y 4 * tb.getD (pdig (5 : Nat) es i).toNat 0)).triv (i < 96)) (by kernel_rfl) (triv_intro hlt)
  refine tr_vc hsp mixed _ _ ?_
  refine vcx (X := (zpow x (val es / p16 (96 - 96)).toNat, ()) = outPower (x, es, ())) (by kernel_rfl) ?_
  rw [Nat.sub_self, p16, Int.ediv_one, ← zpw_eq]
noncomputable def spPower : Nat × Eng.Spec := (200, fnSpec [.fp, (.arr 6 (.int .u64))] [.val .fp] prePower outPower)

theorem ent_inv : enters Tryz.prog 169 Tryz.f169 := enters_mk (by kernel_rfl) (by kernel_rfl) (by kernel_rfl)
/-- x to the power of the modulus less 2. -/
noncomputable def zinv (x : Fp) : Fp := zpw x 4002409555221667393417789825735904156556882819939007885332058136124031650490837864442687629129015664037894272559785
noncomputable abbrev outInv : HL [.fp] → HO [.val .fp] := fun (x, _) => (zinv (x : Fp), ())
theorem val_pm2 : val [13402431016077863593, 2210141511517208575, 7435674573564081700, 7239337960414712511, 5412103778470702295, 1873798617647539866] = 4002409555221667393417789825735904156556882819939007885332058136124031650490837864442687629129015664037894272559785 := by decide
theorem fn_inv : FnOk Tryz.prog 169 [.fp] [.val .fp] noG (fun _ => True) outInv := by
  refine fn_of_vc (sp := sps [spPower]) (sps_cons (fnSpec_ok fn_power) sps_nil) mixed ent_inv (by decide) (by decide) ?_
  rintro w M0 ⟨x, ⟨⟩⟩ _ _
  refine vcx (X := (prePower (x, [13402431016077863593, 2210141511517208575, 7435674573564081700, 7239337960414712511, 5412103778470702295, 1873798617647539866], ()) ∧ (zpw x (val [13402431016077863593, 2210141511517208575, 7435674573564081700, 7239337960414712511, 5412103778470702295, 1873798617647539866]), ()) = outInv (x, ()))) (by kernel_rfl) ?_
  refine ⟨?_, ?_⟩
  · intro y hy; simp at hy; rcases hy with rfl | rfl | rfl | rfl | rfl | rfl <;> exact ⟨by decide, by decide⟩
  · rw [val_pm2]; rfl
noncomputable def spInv : Nat × Eng.Spec := (169, fnSpec [.fp] [.val .fp] (fun _ => True) outInv)
end Go.Proofs.YtbeeaekepmnfhaaGreatDoor.fp
/- Commutative rings and fields: identities by computation. No program here. -/
namespace Cr

class Rg (F : Type) extends Add F, Mul F, Neg F, Sub F, Zero F, One F where
  add_comm : ∀ a b : F, a + b = b + a
  add_assoc : ∀ a b c : F, a + b + c = a + (b + c)
  zero_add : ∀ a : F, 0 + a = a
  neg_add : ∀ a : F, -a + a = 0
  sub_def : ∀ a b : F, a - b = a + -b
  mul_comm : ∀ a b : F, a * b = b * a
  mul_assoc : ∀ a b c : F, a * b * c = a * (b * c)
  one_mul : ∀ a : F, 1 * a = a
  add_mul : ∀ a b c : F, (a + b) * c = a * c + b * c

namespace Rg
variable {F : Type} [Rg F]

theorem add_zero (a : F) : a + 0 = a := by rw [add_comm, zero_add]
theorem add_neg (a : F) : a + -a = 0 := by rw [add_comm, neg_add]
theorem mul_one (a : F) : a * 1 = a := by rw [mul_comm, one_mul]
theorem mul_add (a b c : F) : a * (b + c) = a * b + a * c := by rw [mul_comm, add_mul, mul_comm b, mul_comm c]
theorem add_left {a b c : F} (h : a + b = a + c) : b = c := by
  have := congrArg (fun x => -a + x) h
  simpa only [← add_assoc, neg_add, zero_add] using this
theorem zero_mul (a : F) : 0 * a = 0 := by
  have h : 0 * a + 0 * a = 0 * a + 0 := by rw [← add_mul, add_zero, add_zero]
  exact add_left h
theorem mul_zero (a : F) : a * 0 = 0 := by rw [mul_comm, zero_mul]
theorem neg_eq {a b : F} (h : a + b = 0) : -a = b := by
  have : -a + (a + b) = -a + 0 := by rw [h]
  rw [← add_assoc, neg_add, zero_add, add_zero] at this
  exact this.symm
theorem neg_mul (a b : F) : -a * b = -(a * b) := by
  refine (neg_eq ?_).symm
  rw [← add_mul, add_neg, zero_mul]
theorem mul_neg (a b : F) : a * -b = -(a * b) := by rw [mul_comm, neg_mul, mul_comm]
theorem neg_neg (a : F) : - -a = a := neg_eq (neg_add a)
theorem neg_zero : -(0 : F) = 0 := neg_eq (zero_add 0)
theorem neg_add_rev (a b : F) : -(a + b) = -a + -b := by
  refine neg_eq ?_
  rw [add_assoc, ← add_assoc b, add_comm b, add_assoc (-a), add_neg, add_zero, add_neg]
theorem sub_self (a : F) : a - a = 0 := by rw [sub_def, add_neg]
theorem eq_of_sub {a b : F} (h : a - b = 0) : a = b := by
  rw [sub_def, add_comm] at h
  have := neg_eq h
  rw [neg_neg] at this
  exact this.symm
theorem sub_of_eq {a b : F} (h : a = b) : a - b = 0 := by rw [h, sub_self]
theorem add_add_add (a b c d : F) : a + b + (c + d) = a + c + (b + d) := by
  rw [add_assoc, add_assoc, ← add_assoc b, add_comm b c, add_assoc c]

/-- Natural numbers. -/
def nc : Nat → F
  | 0 => 0
  | n + 1 => nc n + 1
theorem nc_add (m n : Nat) : nc (m + n) = (nc m + nc n : F) := by
  induction n with
  | zero => exact (add_zero _).symm
  | succ n ih => show nc (m + n) + 1 = nc m + (nc n + 1); rw [ih, add_assoc]
theorem nc_mul (m n : Nat) : nc (m * n) = (nc m * nc n : F) := by
  induction n with
  | zero => exact (mul_zero _).symm
  | succ n ih => show nc (m * n + m) = nc m * (nc n + 1); rw [nc_add, ih, mul_add, mul_one]
/-- Integers. -/
def ic (a : Int) : F := nc a.toNat + -nc (-a).toNat
theorem ic_of {a : Int} {x y : Nat} (h : a = (x : Int) - y) : ic a = (nc x + -nc y : F) := by
  unfold ic
  have e : a.toNat + y = x + (-a).toNat := by omega
  have e2 : (nc a.toNat + nc y : F) = nc x + nc (-a).toNat := by rw [← nc_add, ← nc_add, e]
  generalize (nc a.toNat : F) = p at *
  generalize (nc (-a).toNat : F) = q at *
  generalize (nc x : F) = u at *
  generalize (nc y : F) = v at *
  have : p = u + q + -v := by rw [← e2, add_assoc, add_neg, add_zero]
  rw [this, add_assoc, add_assoc, add_comm (-v), ← add_assoc q, add_neg, zero_add]
theorem ic_split (a : Int) : a = (a.toNat : Int) - ((-a).toNat : Nat) := by omega
theorem ic_add (a b : Int) : ic (a + b) = (ic a + ic b : F) := by
  rw [ic_of (a := a + b) (x := a.toNat + b.toNat) (y := (-a).toNat + (-b).toNat) (by omega), nc_add, nc_add, neg_add_rev]
  exact add_add_add _ _ _ _
theorem ic_mul (a b : Int) : ic (a * b) = (ic a * ic b : F) := by
  have h : a * b = ((a.toNat * b.toNat + (-a).toNat * (-b).toNat : Nat) : Int) - ((a.toNat * (-b).toNat + (-a).toNat * b.toNat : Nat) : Int) := by
    conv => lhs; rw [ic_split a, ic_split b]
    simp only [Int.natCast_add, Int.natCast_mul, Int.sub_mul, Int.mul_sub]
    omega
  rw [ic_of h]
  unfold ic
  generalize hp : (nc a.toNat : F) = p
  generalize hq : (nc (-a).toNat : F) = q
  generalize hu : (nc b.toNat : F) = u
  generalize hv : (nc (-b).toNat : F) = v
  rw [nc_add, nc_add, nc_mul, nc_mul, nc_mul, nc_mul, hp, hq, hu, hv, add_mul, mul_add, mul_add, mul_neg, neg_mul, neg_mul, mul_neg, neg_neg, neg_add_rev]
  rw [add_add_add (p * u) (q * v), add_comm (q * v)]
theorem ic_one : ic 1 = (1 : F) := by
  show (0 + 1 : F) + -0 = 1
  rw [zero_add, neg_zero, add_zero]
theorem ic_zero : ic 0 = (0 : F) := by
  show (0 : F) + -0 = 0
  rw [zero_add, neg_zero]
theorem ic_neg_one : ic (-1) = (-1 : F) := by
  show (0 : F) + -(0 + 1) = -1
  rw [zero_add, zero_add]
end Rg

/-- Expressions. -/
inductive PE
  | v (i : Nat)
  | one
  | zero
  | add (a b : PE)
  | mul (a b : PE)
  | sub (a b : PE)
  | neg (a : PE)
instance : Add PE := ⟨.add⟩
instance : Mul PE := ⟨.mul⟩
instance : Sub PE := ⟨.sub⟩
instance : Neg PE := ⟨.neg⟩
instance : One PE := ⟨.one⟩
instance : Zero PE := ⟨.zero⟩

def nth {F : Type} [Zero F] : List F → Nat → F
  | [], _ => 0
  | x :: _, 0 => x
  | _ :: l, n + 1 => nth l n
def PE.ev {F : Type} [Rg F] (l : List F) : PE → F
  | .v i => nth l i
  | .one => 1
  | .zero => 0
  | .add a b => a.ev l + b.ev l
  | .mul a b => a.ev l * b.ev l
  | .sub a b => a.ev l - b.ev l
  | .neg a => -a.ev l

abbrev Mo := List Nat
abbrev Po := List (Mo × Int)
def insM (i : Nat) : Mo → Mo
  | [] => [i]
  | j :: l => match Nat.ble i j with
    | true => i :: j :: l
    | false => j :: insM i l
def mulM : Mo → Mo → Mo
  | [], m => m
  | i :: l, m => insM i (mulM l m)
def eqM : Mo → Mo → Bool
  | [], [] => true
  | i :: l, j :: m => match Nat.beq i j with
    | true => eqM l m
    | false => false
  | _, _ => false
def ltM : Mo → Mo → Bool
  | [], [] => false
  | [], _ => true
  | _, [] => false
  | i :: l, j :: m => match Nat.beq i j with
    | true => ltM l m
    | false => Nat.blt i j
def addT (m : Mo) (c : Int) : Po → Po
  | [] => [(m, c)]
  | t :: p => match eqM m t.1 with
    | true => (m, c + t.2) :: p
    | false => match ltM m t.1 with
      | true => (m, c) :: t :: p
      | false => t :: addT m c p
def addP : Po → Po → Po
  | [], q => q
  | t :: p, q => addT t.1 t.2 (addP p q)
def mulT (m : Mo) (c : Int) : Po → Po → Po
  | [], acc => acc
  | t :: q, acc => addT (mulM m t.1) (c * t.2) (mulT m c q acc)
def mulP : Po → Po → Po
  | [], _ => []
  | t :: p, q => mulT t.1 t.2 q (mulP p q)
def scP (c : Int) : Po → Po
  | [] => []
  | t :: p => (t.1, c * t.2) :: scP c p
def PE.nf : PE → Po
  | .v i => [([i], 1)]
  | .one => [([], 1)]
  | .zero => []
  | .add a b => addP a.nf b.nf
  | .mul a b => mulP a.nf b.nf
  | .sub a b => addP (scP (-1) b.nf) a.nf
  | .neg a => scP (-1) a.nf
def isZ : Po → Bool
  | [] => true
  | t :: p => match t.2 with
    | .ofNat 0 => isZ p
    | _ => false

section
variable {F : Type} [Rg F] (l : List F)
open Rg
def evM : Mo → F
  | [] => 1
  | i :: m => nth l i * evM m
def evP : Po → F
  | [] => 0
  | t :: p => ic t.2 * evM l t.1 + evP p
theorem insM_ev (i : Nat) : ∀ m : Mo, evM l (insM i m) = nth l i * evM l m := by
  intro m
  induction m with
  | nil => rfl
  | cons j m ih =>
    unfold insM
    split
    · rfl
    · show nth l j * evM l (insM i m) = nth l i * (nth l j * evM l m)
      rw [ih, ← mul_assoc, ← mul_assoc, mul_comm (nth l j)]
theorem mulM_ev : ∀ a m : Mo, evM l (mulM a m) = evM l a * evM l m := by
  intro a
  induction a with
  | nil => intro m; exact (one_mul _).symm
  | cons i a ih => intro m; show evM l (insM i (mulM a m)) = nth l i * evM l a * evM l m; rw [insM_ev, ih, mul_assoc]
theorem eqM_eq : ∀ {a b : Mo}, eqM a b = true → a = b := by
  intro a
  induction a with
  | nil => intro b h; cases b with
    | nil => rfl
    | cons j m => simp [eqM] at h
  | cons i a ih => intro b h; cases b with
    | nil => simp [eqM] at h
    | cons j m =>
      unfold eqM at h
      split at h
      · rename_i hb; rw [Nat.eq_of_beq_eq_true hb, ih h]
      · cases h
theorem addT_ev (m : Mo) (c : Int) : ∀ p : Po, evP l (addT m c p) = ic c * evM l m + evP l p := by
  intro p
  induction p with
  | nil => rfl
  | cons t p ih =>
    unfold addT
    split
    · rename_i h
      show ic (c + t.2) * evM l m + evP l p = ic c * evM l m + (ic t.2 * evM l t.1 + evP l p)
      rw [eqM_eq h, ic_add, add_mul, add_assoc]
    · split
      · rfl
      · show ic t.2 * evM l t.1 + evP l (addT m c p) = ic c * evM l m + (ic t.2 * evM l t.1 + evP l p)
        rw [ih, ← add_assoc, ← add_assoc, add_comm (ic t.2 * evM l t.1)]
theorem addP_ev : ∀ p q : Po, evP l (addP p q) = evP l p + evP l q := by
  intro p
  induction p with
  | nil => intro q; exact (zero_add _).symm
  | cons t p ih => intro q; show evP l (addT t.1 t.2 (addP p q)) = _; rw [addT_ev, ih]; exact (add_assoc _ _ _).symm
theorem mulT_ev (m : Mo) (c : Int) : ∀ q acc : Po, evP l (mulT m c q acc) = ic c * evM l m * evP l q + evP l acc := by
  intro q
  induction q with
  | nil => intro acc; show evP l acc = ic c * evM l m * 0 + evP l acc; rw [mul_zero, zero_add]
  | cons t q ih =>
    intro acc
    show evP l (addT (mulM m t.1) (c * t.2) (mulT m c q acc)) = ic c * evM l m * (ic t.2 * evM l t.1 + evP l q) + evP l acc
    rw [addT_ev, ih, mulM_ev, ic_mul, mul_add, add_assoc]
    congr 1
    rw [mul_assoc, mul_assoc, ← mul_assoc (ic t.2), mul_comm (ic t.2), mul_assoc (evM l m)]
theorem mulP_ev : ∀ p q : Po, evP l (mulP p q) = evP l p * evP l q := by
  intro p
  induction p with
  | nil => intro q; exact (zero_mul _).symm
  | cons t p ih => intro q; show evP l (mulT t.1 t.2 q (mulP p q)) = (ic t.2 * evM l t.1 + evP l p) * evP l q; rw [mulT_ev, ih, add_mul]
theorem scP_ev (c : Int) : ∀ p : Po, evP l (scP c p) = ic c * evP l p := by
  intro p
  induction p with
  | nil => exact (mul_zero _).symm
  | cons t p ih => show ic (c * t.2) * evM l t.1 + evP l (scP c p) = ic c * (ic t.2 * evM l t.1 + evP l p); rw [ih, ic_mul, mul_add, mul_assoc]
theorem nf_ev : ∀ e : PE, evP l e.nf = e.ev l := by
  intro e
  induction e with
  | v i => show ic 1 * (nth l i * 1) + 0 = nth l i; rw [ic_one, add_zero, one_mul, mul_one]
  | one => show ic 1 * 1 + 0 = (1 : F); rw [ic_one, add_zero, one_mul]
  | zero => rfl
  | add a b iha ihb => show evP l (addP a.nf b.nf) = a.ev l + b.ev l; rw [addP_ev, iha, ihb]
  | mul a b iha ihb => show evP l (mulP a.nf b.nf) = a.ev l * b.ev l; rw [mulP_ev, iha, ihb]
  | sub a b iha ihb => show evP l (addP (scP (-1) b.nf) a.nf) = a.ev l - b.ev l; rw [addP_ev, scP_ev, iha, ihb, ic_neg_one, neg_mul, one_mul, sub_def, add_comm]
  | neg a iha => show evP l (scP (-1) a.nf) = -a.ev l; rw [scP_ev, iha, ic_neg_one, neg_mul, one_mul]
theorem isZ_ev : ∀ {p : Po}, isZ p = true → evP l p = 0 := by
  intro p
  induction p with
  | nil => intro _; rfl
  | cons t p ih =>
    intro h
    obtain ⟨m, c⟩ := t
    unfold isZ at h
    split at h
    · rename_i hc
      have hc : c = 0 := hc
      show ic c * evM l m + evP l p = 0
      rw [hc, ic_zero, zero_mul, zero_add, ih h]
    · cases h
/-- An identity, by computation. -/
theorem rid (a b : PE) (h : isZ (PE.nf (.sub a b)) = true) : a.ev l = b.ev l := by
  have := isZ_ev l h
  rw [nf_ev] at this
  exact eq_of_sub this
end

/-- Fields. -/
class Fd (F : Type) extends Rg F where
  deq : DecidableEq F
  inv : F → F
  mul_inv : ∀ a : F, a ≠ 0 → a * inv a = 1
  one_ne : (1 : F) ≠ 0
  two_ne : (1 + 1 : F) ≠ 0
  three_ne : (1 + 1 + 1 : F) ≠ 0
attribute [instance_reducible, instance] Fd.deq

namespace Fd
open Rg
variable {F : Type} [Fd F]
theorem mul_eq_zero {a b : F} (h : a * b = 0) : a = 0 ∨ b = 0 := by
  by_cases ha : a = 0
  · exact .inl ha
  · right
    have : inv a * (a * b) = 0 := by rw [h, mul_zero]
    rwa [← mul_assoc, mul_comm (inv a), mul_inv a ha, one_mul] at this
theorem mul_left {a b c : F} (ha : a ≠ 0) (h : a * b = a * c) : b = c := by
  have : inv a * (a * b) = inv a * (a * c) := by rw [h]
  rwa [← mul_assoc, ← mul_assoc, mul_comm (inv a), mul_inv a ha, one_mul, one_mul] at this
theorem double_eq_zero {a : F} (h : a + a = 0) : a = 0 := by
  have : (1 + 1) * a = 0 := by rw [add_mul, one_mul]; exact h
  exact (mul_eq_zero this).resolve_left two_ne
theorem sub_ne {a b : F} (h : a ≠ b) : a - b ≠ 0 := fun e => h (eq_of_sub e)
end Fd
end Cr
/- The curve y^2 = x^3 + b over a field: its points are a group. No program here. -/
namespace Cr
open Rg Fd

/-- On the curve. -/
def On {F : Type} [Rg F] (b x y : F) : Prop := y * y = x * x * x + b
/-- The line through two points (the tangent, if they are one), by its slope. -/
def Ln {F : Type} [Rg F] (x1 y1 x2 y2 l : F) : Prop := l * (x2 - x1) = y2 - y1 ∧ l * (y1 + y2) = x1 * x1 + x1 * x2 + x2 * x2
/-- The sum by the slope. -/
def sx {F : Type} [Rg F] (x1 x2 l : F) : F := l * l - x1 - x2
def sy {F : Type} [Rg F] (x1 y1 x2 l : F) : F := -(y1 + l * (sx x1 x2 l - x1))

section
variable {F : Type} [Rg F]
theorem lc1 {a b p q : F} (c : F) (h : a - b = c * (p - q)) (h1 : p = q) : a = b := by
  rw [sub_of_eq h1, mul_zero] at h; exact eq_of_sub h
theorem lc2 {a b p q p' q' : F} (c c' : F) (h : a - b = c * (p - q) + c' * (p' - q')) (h1 : p = q) (h2 : p' = q') : a = b := by
  rw [sub_of_eq h1, sub_of_eq h2, mul_zero, mul_zero, zero_add] at h; exact eq_of_sub h
theorem lc3 {a b p q p' q' p'' q'' : F} (c c' c'' : F) (h : a - b = c * (p - q) + c' * (p' - q') + c'' * (p'' - q'')) (h1 : p = q) (h2 : p' = q') (h3 : p'' = q'') : a = b := by
  rw [sub_of_eq h1, sub_of_eq h2, sub_of_eq h3, mul_zero, mul_zero, mul_zero, zero_add, zero_add] at h; exact eq_of_sub h
theorem lc4 {a b p q p' q' p'' q'' u v : F} (c c' c'' d : F) (h : a - b = c * (p - q) + c' * (p' - q') + c'' * (p'' - q'') + d * (u - v)) (h1 : p = q) (h2 : p' = q') (h3 : p'' = q'') (h4 : u = v) : a = b := by
  rw [sub_of_eq h1, sub_of_eq h2, sub_of_eq h3, sub_of_eq h4, mul_zero, mul_zero, mul_zero, mul_zero, zero_add, zero_add, zero_add] at h; exact eq_of_sub h
end

theorem i_on {F : Type} [Rg F] (x1 y1 x2 y2 l x b : F) : (y1 + l * (x - x1)) * (y1 + l * (x - x1)) - (x * x * x + b) = 1 * (y1 * y1 - (x1 * x1 * x1 + b)) + (x - x1) * (l * (y1 + y2) - (x1 * x1 + x1 * x2 + x2 * x2)) + (x - x1) * l * (l * (x2 - x1) - (y2 - y1)) + (x - x1) * (x - x2) * ((l * l - x1 - x2) - x) :=
  rid [x1, y1, x2, y2, l, x, b] ((fun (x1 y1 x2 y2 l x b : PE) => ((y1 + l * (x - x1)) * (y1 + l * (x - x1)) - (x * x * x + b))) (.v 0) (.v 1) (.v 2) (.v 3) (.v 4) (.v 5) (.v 6)) ((fun (x1 y1 x2 y2 l x b : PE) => (1 * (y1 * y1 - (x1 * x1 * x1 + b)) + (x - x1) * (l * (y1 + y2) - (x1 * x1 + x1 * x2 + x2 * x2)) + (x - x1) * l * (l * (x2 - x1) - (y2 - y1)) + (x - x1) * (x - x2) * ((l * l - x1 - x2) - x))) (.v 0) (.v 1) (.v 2) (.v 3) (.v 4) (.v 5) (.v 6)) (by kernel_rfl)
theorem i_neg2 {F : Type} [Rg F] (a : F) : (- a) * (- a) = a * a :=
  rid [a] ((fun (a : PE) => ((- a) * (- a))) (.v 0)) ((fun (a : PE) => (a * a)) (.v 0)) (by kernel_rfl)
theorem i_third {F : Type} [Rg F] (x1 y1 x2 y2 l : F) : l * (y1 + - -(y1 + l * ((l * l - x1 - x2) - x1))) - (x1 * x1 + x1 * (l * l - x1 - x2) + (l * l - x1 - x2) * (l * l - x1 - x2)) = 1 * (l * (y1 + y2) - (x1 * x1 + x1 * x2 + x2 * x2)) + l * (l * (x2 - x1) - (y2 - y1)) :=
  rid [x1, y1, x2, y2, l] ((fun (x1 y1 x2 y2 l : PE) => (l * (y1 + - -(y1 + l * ((l * l - x1 - x2) - x1))) - (x1 * x1 + x1 * (l * l - x1 - x2) + (l * l - x1 - x2) * (l * l - x1 - x2)))) (.v 0) (.v 1) (.v 2) (.v 3) (.v 4)) ((fun (x1 y1 x2 y2 l : PE) => (1 * (l * (y1 + y2) - (x1 * x1 + x1 * x2 + x2 * x2)) + l * (l * (x2 - x1) - (y2 - y1)))) (.v 0) (.v 1) (.v 2) (.v 3) (.v 4)) (by kernel_rfl)
theorem i_third1 {F : Type} [Rg F] (x1 y1 x2 l : F) : l * ((l * l - x1 - x2) - x1) = - -(y1 + l * ((l * l - x1 - x2) - x1)) - y1 :=
  rid [x1, y1, x2, l] ((fun (x1 y1 x2 l : PE) => (l * ((l * l - x1 - x2) - x1))) (.v 0) (.v 1) (.v 2) (.v 3)) ((fun (x1 y1 x2 l : PE) => (- -(y1 + l * ((l * l - x1 - x2) - x1)) - y1)) (.v 0) (.v 1) (.v 2) (.v 3)) (by kernel_rfl)
theorem i_sym1 {F : Type} [Rg F] (x1 y1 x2 y2 l : F) : l * (x1 - x2) - (y1 - y2) = (-1) * (l * (x2 - x1) - (y2 - y1)) :=
  rid [x1, y1, x2, y2, l] ((fun (x1 y1 x2 y2 l : PE) => (l * (x1 - x2) - (y1 - y2))) (.v 0) (.v 1) (.v 2) (.v 3) (.v 4)) ((fun (x1 y1 x2 y2 l : PE) => ((-1) * (l * (x2 - x1) - (y2 - y1)))) (.v 0) (.v 1) (.v 2) (.v 3) (.v 4)) (by kernel_rfl)
theorem i_sym2 {F : Type} [Rg F] (x1 y1 x2 y2 l : F) : l * (y2 + y1) - (x2 * x2 + x2 * x1 + x1 * x1) = 1 * (l * (y1 + y2) - (x1 * x1 + x1 * x2 + x2 * x2)) :=
  rid [x1, y1, x2, y2, l] ((fun (x1 y1 x2 y2 l : PE) => (l * (y2 + y1) - (x2 * x2 + x2 * x1 + x1 * x1))) (.v 0) (.v 1) (.v 2) (.v 3) (.v 4)) ((fun (x1 y1 x2 y2 l : PE) => (1 * (l * (y1 + y2) - (x1 * x1 + x1 * x2 + x2 * x2)))) (.v 0) (.v 1) (.v 2) (.v 3) (.v 4)) (by kernel_rfl)
theorem i_f1 {F : Type} [Rg F] (x y u v l m : F) : (x * x + (u + l * m) * x + (u * u - l * m * u + (l - m) * v) - (l + m) * y) - 0 = (-1) * (l * (y + -v) - (x * x + x * u + u * u)) + (-m) * (l * (u - x) - (-v - y)) :=
  rid [x, y, u, v, l, m] ((fun (x y u v l m : PE) => ((x * x + (u + l * m) * x + (u * u - l * m * u + (l - m) * v) - (l + m) * y) - 0)) (.v 0) (.v 1) (.v 2) (.v 3) (.v 4) (.v 5)) ((fun (x y u v l m : PE) => ((-1) * (l * (y + -v) - (x * x + x * u + u * u)) + (-m) * (l * (u - x) - (-v - y)))) (.v 0) (.v 1) (.v 2) (.v 3) (.v 4) (.v 5)) (by kernel_rfl)
theorem i_f2 {F : Type} [Rg F] (x y u v l m : F) : (x * x + (u + l * m) * x + (u * u - l * m * u + (l - m) * v) - (l + m) * y) - 0 = (-1) * (m * (v + y) - (u * u + u * x + x * x)) + l * (m * (x - u) - (y - v)) :=
  rid [x, y, u, v, l, m] ((fun (x y u v l m : PE) => ((x * x + (u + l * m) * x + (u * u - l * m * u + (l - m) * v) - (l + m) * y) - 0)) (.v 0) (.v 1) (.v 2) (.v 3) (.v 4) (.v 5)) ((fun (x y u v l m : PE) => ((-1) * (m * (v + y) - (u * u + u * x + x * x)) + l * (m * (x - u) - (y - v)))) (.v 0) (.v 1) (.v 2) (.v 3) (.v 4) (.v 5)) (by kernel_rfl)
theorem i_chord {F : Type} [Rg F] (x1 y1 x2 y2 l i b : F) : (l * (y1 + y2) - (x1 * x1 + x1 * x2 + x2 * x2)) * (x2 - x1) - 0 = (y1 + y2) * (l * (x2 - x1) - (y2 - y1)) + 1 * (y2 * y2 - (x2 * x2 * x2 + b)) + (-1) * (y1 * y1 - (x1 * x1 * x1 + b)) :=
  rid [x1, y1, x2, y2, l, i, b] ((fun (x1 y1 x2 y2 l i b : PE) => ((l * (y1 + y2) - (x1 * x1 + x1 * x2 + x2 * x2)) * (x2 - x1) - 0)) (.v 0) (.v 1) (.v 2) (.v 3) (.v 4) (.v 5) (.v 6)) ((fun (x1 y1 x2 y2 l i b : PE) => ((y1 + y2) * (l * (x2 - x1) - (y2 - y1)) + 1 * (y2 * y2 - (x2 * x2 * x2 + b)) + (-1) * (y1 * y1 - (x1 * x1 * x1 + b)))) (.v 0) (.v 1) (.v 2) (.v 3) (.v 4) (.v 5) (.v 6)) (by kernel_rfl)
theorem i_dsq {F : Type} [Rg F] (a b : F) : (a - b) * (a + b) = a * a - b * b :=
  rid [a, b] ((fun (a b : PE) => ((a - b) * (a + b))) (.v 0) (.v 1)) ((fun (a b : PE) => (a * a - b * b)) (.v 0) (.v 1)) (by kernel_rfl)
theorem i_h {F : Type} [Rg F] (a1 a0 g b1 b0 h l xP yP xQ xR yR : F) : (g - h) * (l * (xR - xP) - (yR - yP)) = (xR * xR + a1 * xR + a0 - g * yR) - (xP * xP + a1 * xP + a0 - g * yP) - (xR * xR + b1 * xR + b0 - h * yR) + (xP * xP + b1 * xP + b0 - h * yP) - (xR - xP) * (((xP + xQ + a1) - g * l) - ((xP + xQ + b1) - h * l)) :=
  rid [a1, a0, g, b1, b0, h, l, xP, yP, xQ, xR, yR] ((fun (a1 a0 g b1 b0 h l xP yP xQ xR yR : PE) => ((g - h) * (l * (xR - xP) - (yR - yP)))) (.v 0) (.v 1) (.v 2) (.v 3) (.v 4) (.v 5) (.v 6) (.v 7) (.v 8) (.v 9) (.v 10) (.v 11)) ((fun (a1 a0 g b1 b0 h l xP yP xQ xR yR : PE) => ((xR * xR + a1 * xR + a0 - g * yR) - (xP * xP + a1 * xP + a0 - g * yP) - (xR * xR + b1 * xR + b0 - h * yR) + (xP * xP + b1 * xP + b0 - h * yP) - (xR - xP) * (((xP + xQ + a1) - g * l) - ((xP + xQ + b1) - h * l)))) (.v 0) (.v 1) (.v 2) (.v 3) (.v 4) (.v 5) (.v 6) (.v 7) (.v 8) (.v 9) (.v 10) (.v 11)) (by kernel_rfl)
theorem i_a1 {F : Type} [Rg F] (a1 b1 g l xP xQ : F) : a1 - b1 = 1 * ((xP + xQ + a1) - g * l) + (-1) * ((xP + xQ + b1) - g * l) :=
  rid [a1, b1, g, l, xP, xQ] ((fun (a1 b1 g l xP xQ : PE) => (a1 - b1)) (.v 0) (.v 1) (.v 2) (.v 3) (.v 4) (.v 5)) ((fun (a1 b1 g l xP xQ : PE) => (1 * ((xP + xQ + a1) - g * l) + (-1) * ((xP + xQ + b1) - g * l))) (.v 0) (.v 1) (.v 2) (.v 3) (.v 4) (.v 5)) (by kernel_rfl)
theorem i_a0 {F : Type} [Rg F] (a0 b0 a1 g xP yP : F) : a0 - b0 = 1 * ((xP * xP + a1 * xP + a0 - g * yP) - 0) + (-1) * ((xP * xP + a1 * xP + b0 - g * yP) - 0) :=
  rid [a0, b0, a1, g, xP, yP] ((fun (a0 b0 a1 g xP yP : PE) => (a0 - b0)) (.v 0) (.v 1) (.v 2) (.v 3) (.v 4) (.v 5)) ((fun (a0 b0 a1 g xP yP : PE) => (1 * ((xP * xP + a1 * xP + a0 - g * yP) - 0) + (-1) * ((xP * xP + a1 * xP + b0 - g * yP) - 0))) (.v 0) (.v 1) (.v 2) (.v 3) (.v 4) (.v 5)) (by kernel_rfl)
theorem i_g {F : Type} [Rg F] (a1 a0 xP yP xR yR : F) : (xR - xP) * (xR + xP + a1) = (xR * xR + a1 * xR + a0 - 0 * yR) - (xP * xP + a1 * xP + a0 - 0 * yP) :=
  rid [a1, a0, xP, yP, xR, yR] ((fun (a1 a0 xP yP xR yR : PE) => ((xR - xP) * (xR + xP + a1))) (.v 0) (.v 1) (.v 2) (.v 3) (.v 4) (.v 5)) ((fun (a1 a0 xP yP xR yR : PE) => ((xR * xR + a1 * xR + a0 - 0 * yR) - (xP * xP + a1 * xP + a0 - 0 * yP))) (.v 0) (.v 1) (.v 2) (.v 3) (.v 4) (.v 5)) (by kernel_rfl)
theorem i_g2 {F : Type} [Rg F] (a1 xP xQ xR l : F) : xR - xQ = 1 * ((xR + xP + a1) - 0) + (-1) * ((xP + xQ + a1) - 0 * l) :=
  rid [a1, xP, xQ, xR, l] ((fun (a1 xP xQ xR l : PE) => (xR - xQ)) (.v 0) (.v 1) (.v 2) (.v 3) (.v 4)) ((fun (a1 xP xQ xR l : PE) => (1 * ((xR + xP + a1) - 0) + (-1) * ((xP + xQ + a1) - 0 * l))) (.v 0) (.v 1) (.v 2) (.v 3) (.v 4)) (by kernel_rfl)
theorem i_y {F : Type} [Rg F] (a1 a0 g x y t : F) : g * (y - t) - 0 = 1 * ((x * x + a1 * x + a0 - g * -y) - 0) + (-1) * ((x * x + a1 * x + a0 - g * -t) - 0) :=
  rid [a1, a0, g, x, y, t] ((fun (a1 a0 g x y t : PE) => (g * (y - t) - 0)) (.v 0) (.v 1) (.v 2) (.v 3) (.v 4) (.v 5)) ((fun (a1 a0 g x y t : PE) => (1 * ((x * x + a1 * x + a0 - g * -y) - 0) + (-1) * ((x * x + a1 * x + a0 - g * -t) - 0))) (.v 0) (.v 1) (.v 2) (.v 3) (.v 4) (.v 5)) (by kernel_rfl)
theorem i_c1 {F : Type} [Rg F] (x1 x2 l : F) : (-l) * (-l) - x1 - (l * l - x1 - x2) = x2 :=
  rid [x1, x2, l] ((fun (x1 x2 l : PE) => ((-l) * (-l) - x1 - (l * l - x1 - x2))) (.v 0) (.v 1) (.v 2)) ((fun (x1 x2 l : PE) => (x2)) (.v 0) (.v 1) (.v 2)) (by kernel_rfl)
theorem i_c2 {F : Type} [Rg F] (x1 y1 x2 y2 l : F) : -(-y1 + -l * (x2 - x1)) - y2 = 1 * (l * (x2 - x1) - (y2 - y1)) :=
  rid [x1, y1, x2, y2, l] ((fun (x1 y1 x2 y2 l : PE) => (-(-y1 + -l * (x2 - x1)) - y2)) (.v 0) (.v 1) (.v 2) (.v 3) (.v 4)) ((fun (x1 y1 x2 y2 l : PE) => (1 * (l * (x2 - x1) - (y2 - y1)))) (.v 0) (.v 1) (.v 2) (.v 3) (.v 4)) (by kernel_rfl)
theorem i_n1 {F : Type} [Rg F] (x1 y1 u v l : F) : -l * (u - x1) - (v - -y1) = (-1) * (l * (u - x1) - (-v - y1)) :=
  rid [x1, y1, u, v, l] ((fun (x1 y1 u v l : PE) => (-l * (u - x1) - (v - -y1))) (.v 0) (.v 1) (.v 2) (.v 3) (.v 4)) ((fun (x1 y1 u v l : PE) => ((-1) * (l * (u - x1) - (-v - y1)))) (.v 0) (.v 1) (.v 2) (.v 3) (.v 4)) (by kernel_rfl)
theorem i_n2 {F : Type} [Rg F] (x1 y1 u v l : F) : -l * (-y1 + v) - (x1 * x1 + x1 * u + u * u) = 1 * (l * (y1 + -v) - (x1 * x1 + x1 * u + u * u)) :=
  rid [x1, y1, u, v, l] ((fun (x1 y1 u v l : PE) => (-l * (-y1 + v) - (x1 * x1 + x1 * u + u * u))) (.v 0) (.v 1) (.v 2) (.v 3) (.v 4)) ((fun (x1 y1 u v l : PE) => (1 * (l * (y1 + -v) - (x1 * x1 + x1 * u + u * u)))) (.v 0) (.v 1) (.v 2) (.v 3) (.v 4)) (by kernel_rfl)
theorem i_T1 {F : Type} [Rg F] (xP xQ l m : F) : xP + xQ + ((l * l - xP - xQ) + l * m) = (l + m) * l :=
  rid [xP, xQ, l, m] ((fun (xP xQ l m : PE) => (xP + xQ + ((l * l - xP - xQ) + l * m))) (.v 0) (.v 1) (.v 2) (.v 3)) ((fun (xP xQ l m : PE) => ((l + m) * l)) (.v 0) (.v 1) (.v 2) (.v 3)) (by kernel_rfl)
theorem i_S {F : Type} [Rg F] (xP xQ xR l m : F) : m * m - (l * l - xP - xQ) - xR = (l + m) * (l + m) - (((l * l - xP - xQ) + l * m) + ((l * l - xP - xQ) + l * m)) - (xP + xQ + xR) :=
  rid [xP, xQ, xR, l, m] ((fun (xP xQ xR l m : PE) => (m * m - (l * l - xP - xQ) - xR)) (.v 0) (.v 1) (.v 2) (.v 3) (.v 4)) ((fun (xP xQ xR l m : PE) => ((l + m) * (l + m) - (((l * l - xP - xQ) + l * m) + ((l * l - xP - xQ) + l * m)) - (xP + xQ + xR))) (.v 0) (.v 1) (.v 2) (.v 3) (.v 4)) (by kernel_rfl)

section
variable {F : Type} [Fd F] {b : F}

theorem sq_zero {a : F} (h : a * a = 0) : a = 0 := (mul_eq_zero h).elim id id
theorem three_zero {a : F} (h : a + a + a = 0) : a = 0 := by
  have : (1 + 1 + 1) * a = 0 := by rw [add_mul, add_mul, one_mul]; exact h
  exact (mul_eq_zero this).resolve_left three_ne
theorem eq_neg_self {a : F} (h : a = -a) : a = 0 := double_eq_zero (by
  have := sub_of_eq h
  rwa [sub_def, neg_neg] at this)

theorem Ln.symm {x1 y1 x2 y2 l : F} (h : Ln x1 y1 x2 y2 l) : Ln x2 y2 x1 y1 l := ⟨lc1 _ (i_sym1 x1 y1 x2 y2 l) h.1, lc1 _ (i_sym2 x1 y1 x2 y2 l) h.2⟩
/-- The third point of the line. -/
theorem Ln.third {x1 y1 x2 y2 l : F} (h : Ln x1 y1 x2 y2 l) : Ln x1 y1 (sx x1 x2 l) (-sy x1 y1 x2 l) l :=
  ⟨i_third1 x1 y1 x2 l, lc2 _ _ (i_third x1 y1 x2 y2 l) h.2 h.1⟩
theorem Ln.sum_on {x1 y1 x2 y2 l : F} (h : Ln x1 y1 x2 y2 l) (h1 : On b x1 y1) : On b (sx x1 x2 l) (sy x1 y1 x2 l) := by
  unfold On sy
  rw [i_neg2]
  exact lc4 _ _ _ _ (i_on x1 y1 x2 y2 l (sx x1 x2 l) b) h1 h.2 h.1 rfl
/-- Which points of the curve lie on the line. -/
theorem Ln.which {x1 y1 x2 y2 l x y : F} (h : Ln x1 y1 x2 y2 l) (h1 : On b x1 y1) (ho : On b x y) (hy : y = y1 + l * (x - x1)) : x = x1 ∨ x = x2 ∨ x = sx x1 x2 l := by
  have e := i_on x1 y1 x2 y2 l x b
  rw [← hy, sub_of_eq ho, sub_of_eq h1, sub_of_eq h.1, sub_of_eq h.2, mul_zero, mul_zero, mul_zero, zero_add, zero_add, zero_add] at e
  rcases mul_eq_zero e.symm with e | e
  · rcases mul_eq_zero e with e | e
    · exact .inl (eq_of_sub e)
    · exact .inr (.inl (eq_of_sub e))
  · exact .inr (.inr (eq_of_sub e).symm)
theorem Ln.not_neg (hb : b ≠ 0) {x1 y1 x2 y2 l : F} (h : Ln x1 y1 x2 y2 l) (h1 : On b x1 y1) : ¬(x1 = x2 ∧ y2 = -y1) := by
  rintro ⟨rfl, rfl⟩
  obtain ⟨e1, e2⟩ := h
  rw [sub_self, mul_zero] at e1
  have hy : y1 = 0 := eq_neg_self (eq_of_sub e1.symm).symm
  subst hy
  rw [neg_zero, add_zero, mul_zero] at e2
  have hx : x1 = 0 := sq_zero (three_zero e2.symm)
  subst hx
  unfold On at h1
  rw [mul_zero, mul_zero, zero_add] at h1
  exact hb h1.symm
theorem Ln.unique (hb : b ≠ 0) {x1 y1 x2 y2 l m : F} (h : Ln x1 y1 x2 y2 l) (k : Ln x1 y1 x2 y2 m) (h1 : On b x1 y1) : l = m := by
  by_cases hx : x2 - x1 = 0
  · by_cases hy : y1 + y2 = 0
    · exact absurd ⟨(eq_of_sub hx).symm, (neg_eq hy).symm⟩ (h.not_neg hb h1)
    · refine mul_left hy ?_
      rw [mul_comm _ l, h.2, mul_comm _ m, k.2]
  · refine mul_left hx ?_
    rw [mul_comm _ l, h.1, mul_comm _ m, k.1]

def slope (x1 y1 x2 y2 : F) : F := if x1 = x2 then (x1 * x1 + x1 * x1 + x1 * x1) * inv (y1 + y1) else (y2 - y1) * inv (x2 - x1)
theorem slope_ln {x1 y1 x2 y2 : F} (h1 : On b x1 y1) (h2 : On b x2 y2) (hn : ¬(x1 = x2 ∧ y2 = -y1)) : Ln x1 y1 x2 y2 (slope x1 y1 x2 y2) := by
  unfold slope
  split
  · rename_i hx
    subst hx
    have e : (y2 - y1) * (y2 + y1) = 0 := by
      have : (y2 - y1) * (y2 + y1) = y2 * y2 - y1 * y1 := i_dsq y2 y1
      rw [this, h1, h2, sub_self]
    rcases mul_eq_zero e with e | e
    · have e := eq_of_sub e
      subst e
      have hy : y2 + y2 ≠ 0 := fun h => hn ⟨rfl, (neg_eq h).symm⟩
      refine ⟨by rw [sub_self, sub_self, mul_zero], ?_⟩
      rw [mul_assoc, mul_comm (inv _), mul_inv _ hy, mul_one]
    · exact absurd ⟨rfl, (neg_eq (by rw [add_comm]; exact e)).symm⟩ hn
  · rename_i hx
    have hd : x2 - x1 ≠ 0 := sub_ne (fun e => hx e.symm)
    have e1 : (y2 - y1) * inv (x2 - x1) * (x2 - x1) = y2 - y1 := by rw [mul_assoc, mul_comm (inv _), mul_inv _ hd, mul_one]
    refine ⟨e1, ?_⟩
    generalize (y2 - y1) * inv (x2 - x1) = l at *
    have := lc3 _ _ _ (i_chord x1 y1 x2 y2 l 0 b) e1 h2 h1
    exact eq_of_sub ((mul_eq_zero this).resolve_right hd)

/-- The function with zeros at P, Q, R, -(P + Q + R). -/
def fn (u v l m x y : F) : F := x * x + (u + l * m) * x + (u * u - l * m * u + (l - m) * v) - (l + m) * y
theorem fn1 {u v l m x y : F} (h : Ln x y u (-v) l) : fn u v l m x y = 0 := lc2 _ _ (i_f1 x y u v l m) h.2 h.1
theorem fn2 {u v l m x y : F} (h : Ln u v x y m) : fn u v l m x y = 0 := lc2 _ _ (i_f2 x y u v l m) h.2 h.1

theorem same {a1 a0 g b1 b0 h l xP yP xQ xR yR : F} (f1P : xP * xP + a1 * xP + a0 - g * yP = 0) (f1R : xR * xR + a1 * xR + a0 - g * yR = 0) (f2P : xP * xP + b1 * xP + b0 - h * yP = 0) (f2R : xR * xR + b1 * xR + b0 - h * yR = 0)
    (T1 : xP + xQ + a1 = g * l) (T2 : xP + xQ + b1 = h * l) (hne : yR ≠ yP + l * (xR - xP)) : a1 = b1 ∧ a0 = b0 ∧ g = h := by
  have e := i_h a1 a0 g b1 b0 h l xP yP xQ xR yR
  rw [f1P, f1R, f2P, f2R, sub_of_eq T1, sub_of_eq T2, sub_self, sub_self, add_zero, mul_zero, sub_self] at e
  have hg : g = h := by
    rcases mul_eq_zero e with e | e
    · exact eq_of_sub e
    · exfalso
      have := eq_of_sub e
      exact hne (by rw [this, sub_def, add_comm, add_assoc, neg_add, add_zero])
  subst hg
  have h1 := lc2 _ _ (i_a1 a1 b1 g l xP xQ) T1 T2
  subst h1
  exact ⟨rfl, lc2 _ _ (i_a0 a0 b0 a1 g xP yP) f1P f2P, rfl⟩

theorem g_ne {a1 a0 g l xP yP xQ xR yR : F} (f1P : xP * xP + a1 * xP + a0 - g * yP = 0) (f1R : xR * xR + a1 * xR + a0 - g * yR = 0) (T1 : xP + xQ + a1 = g * l) (h1 : xR ≠ xP) (h2 : xR ≠ xQ) : g ≠ 0 := by
  intro hg
  subst hg
  have e := i_g a1 a0 xP yP xR yR
  rw [f1P, f1R, sub_self] at e
  rcases mul_eq_zero e with e | e
  · exact h1 (eq_of_sub e)
  · exact h2 (lc2 _ _ (i_g2 a1 xP xQ xR l) e T1)

theorem main {xP yP xQ yQ xR yR l m u v l' m' s t : F} (hb : b ≠ 0) (oP : On b xP yP) (oR : On b xR yR) (hl : Ln xP yP xQ yQ l) (hm : Ln (sx xP xQ l) (sy xP yP xQ l) xR yR m)
    (T2 : xP + xQ + (u + l' * m') = (l' + m') * l) (f2P : fn u v l' m' xP yP = 0) (f2R : fn u v l' m' xR yR = 0) (f2S : fn u v l' m' s (-t) = 0)
    (hs : s = (l' + m') * (l' + m') - ((u + l' * m') + (u + l' * m')) - (xP + xQ + xR)) (h1 : xR ≠ xP) (h2 : xR ≠ xQ) :
    sx (sx xP xQ l) xR m = s ∧ sy (sx xP xQ l) (sy xP yP xQ l) xR m = t := by
  have f1P : fn (sx xP xQ l) (sy xP yP xQ l) l m xP yP = 0 := fn1 hl.third
  have f1R : fn (sx xP xQ l) (sy xP yP xQ l) l m xR yR = 0 := fn2 hm
  have f1S : fn (sx xP xQ l) (sy xP yP xQ l) l m (sx (sx xP xQ l) xR m) (-sy (sx xP xQ l) (sy xP yP xQ l) xR m) = 0 := fn2 hm.third
  have T1 : xP + xQ + (sx xP xQ l + l * m) = (l + m) * l := i_T1 xP xQ l m
  have hne : yR ≠ yP + l * (xR - xP) := by
    intro hy
    rcases hl.which oP oR hy with e | e | e
    · exact h1 e
    · exact h2 e
    · refine hm.not_neg hb (hl.sum_on oP) ⟨e.symm, ?_⟩
      unfold sy
      rw [neg_neg, ← e]
      exact hy
  have hg := g_ne f1P f1R T1 h1 h2
  obtain ⟨e1, e2, e3⟩ := same f1P f1R f2P f2R T1 T2 hne
  have hS : sx (sx xP xQ l) xR m = s := by
    rw [hs, ← e1, ← e3]
    exact i_S xP xQ xR l m
  refine ⟨hS, ?_⟩
  rw [hS] at f1S
  unfold fn at f1S f2S
  rw [← e1, ← e2, ← e3] at f2S
  have := lc2 _ _ (i_y _ _ _ s _ t) f1S f2S
  exact eq_of_sub ((mul_eq_zero this).resolve_left hg)

abbrev O2 : F × F := (0, 0)
def pneg (P : F × F) : F × F := (P.1, -P.2)
def padd (P Q : F × F) : F × F :=
  if P = O2 then Q else if Q = O2 then P else if P.1 = Q.1 ∧ Q.2 = -P.2 then O2 else (sx P.1 Q.1 (slope P.1 P.2 Q.1 Q.2), sy P.1 P.2 Q.1 (slope P.1 P.2 Q.1 Q.2))
def OnP (b : F) (P : F × F) : Prop := P = O2 ∨ On b P.1 P.2
abbrev LnP (P Q : F × F) (l : F) : Prop := Ln P.1 P.2 Q.1 Q.2 l
abbrev OnF (b : F) (P : F × F) : Prop := On b P.1 P.2

variable (hb : b ≠ 0)
include hb
theorem on_ne {P : F × F} (h : OnF b P) : P ≠ O2 := by
  rintro rfl
  have h : (0 : F) * 0 = 0 * 0 * 0 + b := h
  rw [mul_zero, mul_zero, zero_add] at h
  exact hb h.symm
omit hb in
theorem pneg_O : pneg (O2 : F × F) = O2 := by show ((0 : F), -(0 : F)) = _; rw [neg_zero]
omit hb in
theorem pneg_pneg (P : F × F) : pneg (pneg P) = P := by show (P.1, - -P.2) = P; rw [neg_neg]
omit hb in
theorem pneg_on {P : F × F} (h : OnF b P) : OnF b (pneg P) := by
  have h : P.2 * P.2 = P.1 * P.1 * P.1 + b := h
  show -P.2 * -P.2 = P.1 * P.1 * P.1 + b
  rw [i_neg2, h]
theorem padd_ln {P Q : F × F} {l : F} (oP : OnF b P) (oQ : OnF b Q) (h : LnP P Q l) : padd P Q = (sx P.1 Q.1 l, sy P.1 P.2 Q.1 l) := by
  unfold padd
  have hn := h.not_neg hb oP
  rw [if_neg (on_ne hb oP), if_neg (on_ne hb oQ), if_neg hn, (slope_ln oP oQ hn).unique hb h oP]
omit hb in
theorem O_add (Q : F × F) : padd O2 Q = Q := by unfold padd; rw [if_pos rfl]
omit hb in
theorem add_O (P : F × F) : padd P O2 = P := by
  unfold padd
  split
  · rename_i h; exact h.symm
  · rw [if_pos rfl]
omit hb in
theorem ln_or {P Q : F × F} (oP : OnF b P) (oQ : OnF b Q) : Q = pneg P ∨ ∃ l, LnP P Q l := by
  by_cases h : P.1 = Q.1 ∧ Q.2 = -P.2
  · left; exact Prod.ext h.1.symm h.2
  · exact .inr ⟨_, slope_ln oP oQ h⟩
omit hb in
theorem add_neg_self (P : F × F) : padd P (pneg P) = O2 := by
  unfold padd
  split
  · rename_i h; rw [h]; exact pneg_O
  · split
    · rename_i h1 h2
      have := congrArg pneg h2
      rw [pneg_pneg, pneg_O] at this
      exact absurd this h1
    · rw [if_pos ⟨rfl, rfl⟩]
omit hb in
theorem neg_add_self (P : F × F) : padd (pneg P) P = O2 := by
  have := add_neg_self (pneg P)
  rwa [pneg_pneg] at this
theorem cancel {P Q : F × F} (oP : OnP b P) (oQ : OnP b Q) : padd (pneg P) (padd P Q) = Q := by
  rcases oP with rfl | oP
  · rw [pneg_O, O_add, O_add]
  · rcases oQ with rfl | oQ
    · rw [add_O, neg_add_self]
    · rcases ln_or oP oQ with rfl | ⟨l, h⟩
      · rw [add_neg_self, add_O]
      · rw [padd_ln hb oP oQ h]
        have ht := h.third
        have hn : LnP (pneg P) (sx P.1 Q.1 l, sy P.1 P.2 Q.1 l) (-l) := ⟨lc1 _ (i_n1 P.1 P.2 _ _ l) ht.1, lc1 _ (i_n2 P.1 P.2 _ _ l) ht.2⟩
        rw [padd_ln hb (pneg_on oP) (h.sum_on oP) hn]
        have ex : sx P.1 (sx P.1 Q.1 l) (-l) = Q.1 := i_c1 P.1 Q.1 l
        refine Prod.ext ex ?_
        show -(-P.2 + -l * (sx P.1 (sx P.1 Q.1 l) (-l) - P.1)) = Q.2
        rw [ex]
        exact lc1 _ (i_c2 P.1 P.2 Q.1 Q.2 l) h.1

end
end Cr
/- Points without a division: what they stand for. No program here. -/
namespace Cr
open Rg Fd

section
variable {F : Type} [Fd F]
abbrev Jc (F : Type) := F × F × F
abbrev J0 : Jc F := (0, 0, 0)
def jlift (p : F × F) : Jc F := if p = O2 then J0 else (p.1, p.2, 1)
def jpoint (a : Jc F) : F × F := if a.2.2 = 0 then O2 else (a.1 * (inv a.2.2 * inv a.2.2), a.2.1 * (inv a.2.2 * inv a.2.2) * inv a.2.2)
def jdX (x y : F) : F := (x * x + x * x + x * x) * (x * x + x * x + x * x) - (x * (y * y) + x * (y * y) + (x * (y * y) + x * (y * y))) - (x * (y * y) + x * (y * y) + (x * (y * y) + x * (y * y)))
def jdbN (a : Jc F) : Jc F :=
  (jdX a.1 a.2.1,
   (a.1 * a.1 + a.1 * a.1 + a.1 * a.1) * (a.1 * (a.2.1 * a.2.1) + a.1 * (a.2.1 * a.2.1) + (a.1 * (a.2.1 * a.2.1) + a.1 * (a.2.1 * a.2.1)) - jdX a.1 a.2.1) - (a.2.1 * a.2.1 + a.2.1 * a.2.1) * (a.2.1 * a.2.1 + a.2.1 * a.2.1) - (a.2.1 * a.2.1 + a.2.1 * a.2.1) * (a.2.1 * a.2.1 + a.2.1 * a.2.1),
   a.2.1 * a.2.2 + a.2.1 * a.2.2)
def jdbl (a : Jc F) : Jc F := if a.2.2 = 0 then J0 else jdbN a
def jaX (wide rise left : F) : F := rise * rise - wide * wide * wide - left * (wide * wide) - left * (wide * wide)
def jfin (wide rise left low z1 z2 : F) : Jc F :=
  (jaX wide rise left, rise * (left * (wide * wide) - jaX wide rise left) - low * (wide * wide * wide), z1 * z2 * wide)
def jadd (a b : Jc F) : Jc F := if a.2.2 = 0 then b else if b.2.2 = 0 then a else
  if b.1 * (a.2.2 * a.2.2) - a.1 * (b.2.2 * b.2.2) = 0 then
    (if b.2.1 * (a.2.2 * a.2.2) * a.2.2 - a.2.1 * (b.2.2 * b.2.2) * b.2.2 = 0 then jdbl a else J0)
  else jfin (b.1 * (a.2.2 * a.2.2) - a.1 * (b.2.2 * b.2.2)) (b.2.1 * (a.2.2 * a.2.2) * a.2.2 - a.2.1 * (b.2.2 * b.2.2) * b.2.2) (a.1 * (b.2.2 * b.2.2)) (a.2.1 * (b.2.2 * b.2.2) * b.2.2) a.2.2 b.2.2
end

section
variable {F : Type} [Fd F] {b : F}
def Rep (b : F) (a : Jc F) (P : F × F) : Prop := (a.2.2 = 0 ∧ P = O2) ∨ (a.2.2 ≠ 0 ∧ a.1 = P.1 * (a.2.2 * a.2.2) ∧ a.2.1 = P.2 * (a.2.2 * (a.2.2 * a.2.2)) ∧ OnF b P)

theorem Rep.on {a : Jc F} {P : F × F} (h : Rep b a P) : OnP b P := by
  rcases h with ⟨_, h⟩ | ⟨_, _, _, h⟩
  · exact .inl h
  · exact .inr h

end
end Cr
/- Primes: Fermat, Pocklington. No program here. -/
namespace Cr

def Prm (p : Nat) : Prop := 1 < p ∧ ∀ d, d ∣ p → d = 1 ∨ d = p

theorem Prm.coprime {p k : Nat} (h : Prm p) (hk : ¬ p ∣ k) : Nat.Coprime p k := by
  rcases h.2 (Nat.gcd p k) (Nat.gcd_dvd_left p k) with e | e
  · exact e
  · exact absurd (e ▸ Nat.gcd_dvd_right p k) hk
theorem Prm.dvd_mul {p a b : Nat} (h : Prm p) (hd : p ∣ a * b) : p ∣ a ∨ p ∣ b := by
  by_cases ha : p ∣ a
  · exact .inl ha
  · exact .inr ((h.coprime ha).dvd_of_dvd_mul_left hd)

/-- Binomial coefficients. -/
def ch : Nat → Nat → Nat
  | _, 0 => 1
  | 0, _ + 1 => 0
  | n + 1, k + 1 => ch n k + ch n (k + 1)
theorem ch_zero (n : Nat) : ch n 0 = 1 := by cases n <;> rfl
theorem ch_mul : ∀ n k : Nat, (k + 1) * ch (n + 1) (k + 1) = (n + 1) * ch n k := by
  intro n
  induction n with
  | zero =>
    intro k
    cases k with
    | zero => rfl
    | succ k => simp [ch]
  | succ n ih =>
    intro k
    cases k with
    | zero =>
      have h : (0 + 1) * ch (n + 1) 1 = (n + 1) * ch n 0 := ih 0
      rw [ch_zero] at h
      show 1 * (ch (n + 1) 0 + ch (n + 1) 1) = (n + 1 + 1) * ch (n + 1) 0
      rw [ch_zero]
      omega
    | succ j =>
      have h1 := ih j
      have h2 := ih (j + 1)
      have e1 : ch (n + 1 + 1) (j + 1 + 1) = ch (n + 1) (j + 1) + ch (n + 1) (j + 1 + 1) := rfl
      have e2 : ch (n + 1) (j + 1) = ch n j + ch n (j + 1) := rfl
      rw [e1, Nat.mul_add, h2, Nat.add_mul (j + 1) 1, h1, Nat.one_mul]
      rw [e2, Nat.mul_add, Nat.add_mul (n + 1) 1, Nat.add_mul (n + 1) 1]
      omega
theorem ch_self : ∀ n : Nat, ch n n = 1 ∧ ∀ k, n < k → ch n k = 0 := by
  intro n
  induction n with
  | zero => exact ⟨rfl, fun k hk => by cases k with | zero => omega | succ k => rfl⟩
  | succ n ih =>
    refine ⟨?_, fun k hk => ?_⟩
    · show ch n n + ch n (n + 1) = 1
      rw [ih.1, ih.2 (n + 1) (by omega)]
    · cases k with
      | zero => omega
      | succ k => show ch n k + ch n (k + 1) = 0; rw [ih.2 k (by omega), ih.2 (k + 1) (by omega)]

def chS (n a : Nat) : Nat → Nat
  | 0 => 0
  | m + 1 => chS n a m + ch n m * a ^ m
theorem chS_succ (n a : Nat) : ∀ m, chS (n + 1) a (m + 1) = a * chS n a m + chS n a (m + 1) := by
  intro m
  induction m with
  | zero => simp [chS, ch_zero]
  | succ m ih =>
    show chS (n + 1) a (m + 1) + ch (n + 1) (m + 1) * a ^ (m + 1) = a * (chS n a m + ch n m * a ^ m) + (chS n a (m + 1) + ch n (m + 1) * a ^ (m + 1))
    rw [ih]
    have e : ch (n + 1) (m + 1) = ch n m + ch n (m + 1) := rfl
    rw [e, Nat.add_mul, Nat.mul_add, Nat.pow_succ, Nat.mul_comm (a ^ m) a, Nat.mul_left_comm a (ch n m)]
    omega
theorem binom (a : Nat) : ∀ n m, n < m → (a + 1) ^ n = chS n a m := by
  intro n
  induction n with
  | zero =>
    intro m hm
    cases m with
    | zero => omega
    | succ m =>
      clear hm
      induction m with
      | zero => simp [chS, ch_zero]
      | succ m ih => show _ = chS 0 a (m + 1) + ch 0 (m + 1) * a ^ (m + 1); rw [← ih, show ch 0 (m + 1) = 0 from rfl, Nat.zero_mul]; rfl
  | succ n ih =>
    intro m hm
    cases m with
    | zero => omega
    | succ m =>
      rw [chS_succ, ← ih m (by omega), ← ih (m + 1) (by omega), Nat.pow_succ, Nat.mul_add, Nat.mul_one, Nat.mul_comm a]
theorem Prm.ch_dvd {p k : Nat} (h : Prm p) (h0 : 0 < k) (h1 : k < p) : p ∣ ch p k := by
  obtain ⟨j, rfl⟩ : ∃ j, k = j + 1 := ⟨k - 1, by omega⟩
  obtain ⟨q, rfl⟩ : ∃ q, p = q + 1 := ⟨p - 1, by omega⟩
  have e := ch_mul q j
  have : q + 1 ∣ (j + 1) * ch (q + 1) (j + 1) := ⟨ch q j, e⟩
  rcases h.dvd_mul this with h2 | h2
  · exact absurd (Nat.le_of_dvd (by omega) h2) (by omega)
  · exact h2
theorem Prm.chS_mod {p : Nat} (h : Prm p) (a : Nat) : ∀ m, m < p → chS p a (m + 1) % p = 1 := by
  intro m
  have hp := h.1
  induction m with
  | zero => intro _; show (0 + ch p 0 * a ^ 0) % p = 1; rw [ch_zero, Nat.pow_zero, Nat.zero_add, Nat.mul_one]; exact Nat.mod_eq_of_lt hp
  | succ m ih =>
    intro hm
    show (chS p a (m + 1) + ch p (m + 1) * a ^ (m + 1)) % p = 1
    obtain ⟨c, hc⟩ := h.ch_dvd (k := m + 1) (by omega) hm
    rw [hc, Nat.mul_assoc, Nat.add_mul_mod_self_left, ih (by omega)]
theorem Prm.step {p : Nat} (h : Prm p) (a : Nat) : (a + 1) ^ p % p = (a ^ p + 1) % p := by
  rw [binom a p (p + 1) (by omega)]
  show (chS p a p + ch p p * a ^ p) % p = _
  obtain ⟨q, hq⟩ : ∃ q, p = q + 1 := ⟨p - 1, by have := h.1; omega⟩
  have := h.chS_mod a q (by omega)
  rw [← hq] at this
  rw [(ch_self p).1, Nat.one_mul, Nat.add_mod, this, Nat.add_comm, ← Nat.add_mod_mod (a ^ p % p), Nat.mod_add_mod]
  have : 1 % p = 1 := Nat.mod_eq_of_lt h.1
  rw [Nat.add_mod (a ^ p) 1, this, Nat.add_mod (a ^ p) 1, this]
theorem Prm.fermat {p : Nat} (h : Prm p) (a : Nat) : a ^ p % p = a % p := by
  induction a with
  | zero => rw [Nat.zero_pow (by have := h.1; omega)]
  | succ a ih => rw [h.step, Nat.add_mod, ih, ← Nat.add_mod]
theorem Prm.fermat' {p a : Nat} (h : Prm p) (ha : ¬ p ∣ a) : a ^ (p - 1) % p = 1 := by
  have hp := h.1
  have e : a ^ p = a ^ (p - 1) * a := by rw [← Nat.pow_succ]; congr 1; omega
  have f := h.fermat a
  rw [e] at f
  have h1 : 1 ≤ a ^ (p - 1) := Nat.pos_of_ne_zero (fun z => by
    have : a = 0 := by
      rcases Nat.eq_zero_or_pos a with h | h
      · exact h
      · exact absurd z (Nat.ne_of_gt (Nat.pow_pos h))
    exact ha (this ▸ Nat.dvd_zero p))
  have hd : p ∣ (a ^ (p - 1) - 1) * a := by
    rw [Nat.sub_mul, Nat.one_mul]
    exact Nat.dvd_of_mod_eq_zero (Nat.sub_mod_eq_zero_of_mod_eq f)
  rcases h.dvd_mul hd with h2 | h2
  · obtain ⟨c, hc⟩ := h2
    have : a ^ (p - 1) = 1 + p * c := by omega
    rw [this, Nat.add_mul_mod_self_left, Nat.mod_eq_of_lt hp]
  · exact absurd h2 ha

/-- Powers that are 1. -/
theorem pow_gcd {d e : Nat} : ∀ m n, e ^ m % d = 1 → e ^ n % d = 1 → e ^ (Nat.gcd m n) % d = 1 := by
  intro m n
  induction m, n using Nat.gcd.induction with
  | H0 n => intro _ h; rwa [Nat.gcd_zero_left]
  | H1 m n hm ih =>
    intro h1 h2
    rw [Nat.gcd_rec]
    refine ih ?_ h1
    have e1 : e ^ n = (e ^ m) ^ (n / m) * e ^ (n % m) := by rw [← Nat.pow_mul, ← Nat.pow_add, Nat.div_add_mod]
    rw [e1, Nat.mul_mod, Nat.pow_mod, h1, Nat.one_pow] at h2
    have hd : d ≠ 1 := by intro hd; subst hd; rw [Nat.mod_one] at h1; cases h1
    have h1d : 1 % d = 1 := by
      rcases Nat.eq_zero_or_pos d with h | h
      · subst h; rfl
      · exact Nat.mod_eq_of_lt (by omega)
    rw [h1d, Nat.one_mul, Nat.mod_mod] at h2
    exact h2

theorem exists_prime : ∀ n : Nat, 1 < n → ∃ d, Prm d ∧ d ∣ n := by
  intro n
  induction n using Nat.strongRecOn with
  | _ n ih =>
    intro hn
    by_cases hp : Prm n
    · exact ⟨n, hp, Nat.dvd_refl n⟩
    · have : ∃ d, d ∣ n ∧ d ≠ 1 ∧ d ≠ n := by
        refine Classical.byContradiction fun hc => hp ⟨hn, fun d hd => ?_⟩
        by_cases h1 : d = 1
        · exact .inl h1
        · by_cases h2 : d = n
          · exact .inr h2
          · exact absurd ⟨d, hd, h1, h2⟩ hc
      obtain ⟨d, hd, h1, h2⟩ := this
      have hdn := Nat.le_of_dvd (by omega) hd
      have hd0 : d ≠ 0 := by rintro rfl; have := Nat.eq_zero_of_zero_dvd hd; omega
      obtain ⟨q, hq, hqd⟩ := ih d (by omega) (by omega)
      exact ⟨q, hq, Nat.dvd_trans hqd hd⟩

/-- A prime factor, not above the root. -/
theorem small_prime {n : Nat} (hn : 1 < n) (hp : ¬ Prm n) : ∃ d, Prm d ∧ d ∣ n ∧ d * d ≤ n := by
  have : ∃ d, d ∣ n ∧ d ≠ 1 ∧ d ≠ n := by
    refine Classical.byContradiction fun hc => hp ⟨hn, fun d hd => ?_⟩
    by_cases h1 : d = 1
    · exact .inl h1
    · by_cases h2 : d = n
      · exact .inr h2
      · exact absurd ⟨d, hd, h1, h2⟩ hc
  obtain ⟨d, ⟨c, hc⟩, h1, h2⟩ := this
  have hd0 : d ≠ 0 := by rintro rfl; omega
  have hc0 : c ≠ 0 := by rintro rfl; omega
  have hc1 : c ≠ 1 := by rintro rfl; omega
  by_cases hle : d ≤ c
  · obtain ⟨q, hq, hqd⟩ := exists_prime d (by omega)
    have := Nat.le_of_dvd (by omega) hqd
    refine ⟨q, hq, Nat.dvd_trans hqd ⟨c, hc⟩, ?_⟩
    rw [hc]; exact Nat.mul_le_mul this (by omega)
  · obtain ⟨q, hq, hqc⟩ := exists_prime c (by omega)
    have := Nat.le_of_dvd (by omega) hqc
    refine ⟨q, hq, Nat.dvd_trans hqc ⟨d, by rw [hc, Nat.mul_comm]⟩, ?_⟩
    rw [hc]; exact Nat.mul_le_mul (by omega) this

/-- Powers modulo, by squaring. -/
def pm : Nat → Nat → Nat → Nat → Nat
  | 0, _, _, n => 1 % n
  | f + 1, a, e, n => match Nat.beq e 0 with
    | true => 1 % n
    | false => match Nat.beq (e % 2) 1 with
      | true => a * pm f (a * a % n) (e / 2) n % n
      | false => pm f (a * a % n) (e / 2) n
theorem pm_eq : ∀ f a e n, e < 2 ^ f → pm f a e n = a ^ e % n := by
  intro f
  induction f with
  | zero => intro a e n h; have : e = 0 := by simp at h; exact h
            subst this; rfl
  | succ f ih =>
    intro a e n h
    unfold pm
    split
    · rename_i h0; have := Nat.eq_of_beq_eq_true h0; subst this; rfl
    · have hr := ih (a * a % n) (e / 2) n (by rw [Nat.pow_succ] at h; omega)
      have hsq : (a * a % n) ^ (e / 2) % n = a ^ (2 * (e / 2)) % n := by rw [← Nat.pow_mod, Nat.pow_mul, Nat.pow_two]
      split
      · rename_i h1
        have h1 := Nat.eq_of_beq_eq_true h1
        rw [hr, hsq, Nat.mul_mod_mod, ← Nat.pow_succ']
        congr 2; omega
      · rename_i h1
        have h1 : e % 2 ≠ 1 := fun h2 => by rw [h2] at h1; exact absurd h1 (by decide)
        rw [hr, hsq]
        congr 2; omega

theorem dvd_pow_self' {a q : Nat} (h : 0 < q) : a ∣ a ^ q := by
  obtain ⟨j, rfl⟩ : ∃ j, q = j + 1 := ⟨q - 1, by omega⟩
  exact ⟨a ^ j, by rw [Nat.pow_succ, Nat.mul_comm]⟩
/-- Pocklington: what divides one less than a prime factor. -/
theorem pock {N q k a f : Nat} (hq : Prm q) (hN : N = q * k + 1) (hf : N < 2 ^ f) (h1 : pm f a (q * k) N = 1) (h2 : Nat.gcd (pm f a k N + (N - 1)) N = 1) {d : Nat} (hd : Prm d) (hdN : d ∣ N) : q ∣ d - 1 := by
  have hk : k < 2 ^ f := by
    have : k ≤ q * k := Nat.le_mul_of_pos_left k (by have := hq.1; omega)
    omega
  have hd1 := hd.1
  rw [pm_eq f a _ N (by omega)] at h1
  rw [pm_eq f a k N hk] at h2
  have e1 : (a ^ k) ^ q % d = 1 := by
    rw [← Nat.pow_mul, Nat.mul_comm k q, ← Nat.mod_mod_of_dvd _ hdN, h1, Nat.mod_eq_of_lt hd1]
  have hne : a ^ k % d ≠ 1 := by
    intro he
    have hdv : d ∣ a ^ k % N + (N - 1) := by
      have h3 : (a ^ k % N) % d = 1 := by rw [Nat.mod_mod_of_dvd _ hdN]; exact he
      refine Nat.dvd_of_mod_eq_zero ?_
      obtain ⟨c, hc⟩ := hdN
      have : a ^ k % N + (N - 1) + 1 = a ^ k % N + d * c := by omega
      have h5 : (a ^ k % N + (N - 1) + 1) % d = 1 := by rw [this, Nat.add_mul_mod_self_left, h3]
      have h6 := Nat.add_mod (a ^ k % N + (N - 1)) 1 d
      rw [h5, Nat.mod_eq_of_lt hd1] at h6
      have h7 := Nat.mod_lt (a ^ k % N + (N - 1)) (show 0 < d by omega)
      generalize (a ^ k % N + (N - 1)) % d = r at *
      by_cases hr : r + 1 = d
      · rw [hr, Nat.mod_self] at h6; cases h6
      · rw [Nat.mod_eq_of_lt (by omega)] at h6; omega
    have := Nat.dvd_gcd hdv hdN
    rw [h2] at this
    have := Nat.le_of_dvd (by omega) this
    omega
  have hda : ¬ d ∣ a ^ k := by
    intro h
    have : (a ^ k) ^ q % d = 0 := Nat.mod_eq_zero_of_dvd (Nat.dvd_trans h (dvd_pow_self' (by have := hq.1; omega)))
    rw [this] at e1; cases e1
  have e2 := hd.fermat' hda
  refine Classical.byContradiction fun hnd => ?_
  have hg := hq.coprime hnd
  have := pow_gcd q (d - 1) e1 e2
  rw [hg, Nat.pow_one] at this
  exact hne this

/-- By trial: no divisor between. -/
def noDiv (n : Nat) : Nat → Nat → Bool
  | 0, lo => !(Nat.beq (n % lo) 0)
  | f + 1, lo => noDiv n f lo && noDiv n f (lo + 2 ^ f)
theorem noDiv_spec {n : Nat} : ∀ f lo, noDiv n f lo = true → ∀ d, lo ≤ d → d < lo + 2 ^ f → ¬ d ∣ n := by
  intro f
  induction f with
  | zero =>
    intro lo h d h1 h2 hd
    have : d = lo := by simp at h2; omega
    subst this
    unfold noDiv at h
    rw [Nat.mod_eq_zero_of_dvd hd] at h
    simp at h
  | succ f ih =>
    intro lo h d h1 h2
    unfold noDiv at h
    simp only [Bool.and_eq_true] at h
    rw [Nat.pow_succ] at h2
    by_cases hm : d < lo + 2 ^ f
    · exact ih lo h.1 d h1 hm
    · exact ih (lo + 2 ^ f) h.2 d (by omega) (by omega)
theorem trial {n f : Nat} (hn : 1 < n) (hf : n < (2 + 2 ^ f) * (2 + 2 ^ f)) (h : noDiv n f 2 = true) : Prm n := by
  refine Classical.byContradiction fun hp => ?_
  obtain ⟨d, hd, hdn, hdd⟩ := small_prime hn hp
  refine noDiv_spec f 2 h d hd.1 ?_ hdn
  refine Classical.byContradiction fun hc => ?_
  have : (2 + 2 ^ f) * (2 + 2 ^ f) ≤ d * d := Nat.mul_le_mul (by omega) (by omega)
  omega
end Cr
/- The two moduli are prime: certificates, printed by a program. No program under proof here. -/
namespace Cr
set_option maxRecDepth 100000
theorem pock_fin {K d n : Nat} (hd : 1 < d) (h : K ∣ d - 1) (hdd : d * d ≤ n) (hK : n < K * K) : False := by
  have hle := Nat.le_of_dvd (by omega) h
  have : K * K ≤ d * d := Nat.mul_le_mul (by omega) (by omega)
  omega
theorem prm_421987 : Prm 421987 := trial (f := 10) (by decide) (by decide) (by kernel_rfl)
theorem prm_13090036741 : Prm 13090036741 := by
  refine Classical.byContradiction fun hp => ?_
  obtain ⟨d, hd, hdn, hdd⟩ := small_prime (n := 13090036741) (by decide) hp
  have h0 : 421987 ∣ d - 1 := pock (k := 31020) (a := 2) (f := 34) prm_421987 (by kernel_rfl) (of_decide_eq_true (by kernel_rfl)) (by kernel_rfl) (by kernel_rfl) hd hdn
  exact pock_fin hd.1 h0 hdd (of_decide_eq_true (by kernel_rfl))
theorem prm_755057 : Prm 755057 := trial (f := 10) (by decide) (by decide) (by kernel_rfl)
theorem prm_3819663927398918131021 : Prm 3819663927398918131021 := by
  refine Classical.byContradiction fun hp => ?_
  obtain ⟨d, hd, hdn, hdd⟩ := small_prime (n := 3819663927398918131021) (by decide) hp
  have h0 : 13090036741 ∣ d - 1 := pock (k := 291799328220) (a := 2) (f := 72) prm_13090036741 (by kernel_rfl) (of_decide_eq_true (by kernel_rfl)) (by kernel_rfl) (by kernel_rfl) hd hdn
  have h1 : 755057 ∣ d - 1 := pock (k := 5058775598926860) (a := 2) (f := 72) prm_755057 (by kernel_rfl) (of_decide_eq_true (by kernel_rfl)) (by kernel_rfl) (by kernel_rfl) hd hdn
  have g1 : 13090036741 * 755057 ∣ d - 1 := Nat.Coprime.mul_dvd_of_dvd_of_dvd (show Nat.gcd 13090036741 755057 = 1 by kernel_rfl) h0 h1
  rw [show 13090036741 * 755057 = 9883723871549237 by kernel_rfl] at g1
  exact pock_fin hd.1 g1 hdd (of_decide_eq_true (by kernel_rfl))
theorem prm_1125266252156850182658904441386709967 : Prm 1125266252156850182658904441386709967 := by
  refine Classical.byContradiction fun hp => ?_
  obtain ⟨d, hd, hdn, hdd⟩ := small_prime (n := 1125266252156850182658904441386709967) (by decide) hp
  have h0 : 3819663927398918131021 ∣ d - 1 := pock (k := 294598235223046) (a := 2) (f := 120) prm_3819663927398918131021 (by kernel_rfl) (of_decide_eq_true (by kernel_rfl)) (by kernel_rfl) (by kernel_rfl) hd hdn
  exact pock_fin hd.1 h0 hdd (of_decide_eq_true (by kernel_rfl))
theorem prm_15778400344354997994418419698270088123916926905054652752758194827714659 : Prm 15778400344354997994418419698270088123916926905054652752758194827714659 := by
  refine Classical.byContradiction fun hp => ?_
  obtain ⟨d, hd, hdn, hdd⟩ := small_prime (n := 15778400344354997994418419698270088123916926905054652752758194827714659) (by decide) hp
  have h0 : 1125266252156850182658904441386709967 ∣ d - 1 := pock (k := 14021926201120671579994175730661374) (a := 2) (f := 234) prm_1125266252156850182658904441386709967 (by kernel_rfl) (of_decide_eq_true (by kernel_rfl)) (by kernel_rfl) (by kernel_rfl) hd hdn
  exact pock_fin hd.1 h0 hdd (of_decide_eq_true (by kernel_rfl))
theorem prm_p : Prm 4002409555221667393417789825735904156556882819939007885332058136124031650490837864442687629129015664037894272559787 := by
  refine Classical.byContradiction fun hp => ?_
  obtain ⟨d, hd, hdn, hdd⟩ := small_prime (n := 4002409555221667393417789825735904156556882819939007885332058136124031650490837864442687629129015664037894272559787) (by decide) hp
  have h0 : 15778400344354997994418419698270088123916926905054652752758194827714659 ∣ d - 1 := pock (k := 253663835868735594330404923636534084567099854) (a := 2) (f := 381) prm_15778400344354997994418419698270088123916926905054652752758194827714659 (by kernel_rfl) (of_decide_eq_true (by kernel_rfl)) (by kernel_rfl) (by kernel_rfl) hd hdn
  exact pock_fin hd.1 h0 hdd (of_decide_eq_true (by kernel_rfl))
theorem prm_254760293 : Prm 254760293 := trial (f := 14) (by decide) (by decide) (by kernel_rfl)
theorem prm_52437899 : Prm 52437899 := trial (f := 13) (by decide) (by decide) (by kernel_rfl)
theorem prm_2529403 : Prm 2529403 := trial (f := 11) (by decide) (by decide) (by kernel_rfl)
theorem prm_2508409 : Prm 2508409 := trial (f := 11) (by decide) (by decide) (by kernel_rfl)
theorem prm_906349 : Prm 906349 := trial (f := 10) (by decide) (by decide) (by kernel_rfl)
theorem prm_859267 : Prm 859267 := trial (f := 10) (by decide) (by decide) (by kernel_rfl)
theorem prm_r : Prm 52435875175126190479447740508185965837690552500527637822603658699938581184513 := by
  refine Classical.byContradiction fun hp => ?_
  obtain ⟨d, hd, hdn, hdd⟩ := small_prime (n := 52435875175126190479447740508185965837690552500527637822603658699938581184513) (by decide) hp
  have h0 : 254760293 ∣ d - 1 := pock (k := 205824363591567193241718168805002771125288949563767528806397073424384) (a := 2) (f := 255) prm_254760293 (by kernel_rfl) (of_decide_eq_true (by kernel_rfl)) (by kernel_rfl) (by kernel_rfl) hd hdn
  have h1 : 52437899 ∣ d - 1 := pock (k := 999961405302035279473110478895921551656570994587857873989262207090688) (a := 2) (f := 255) prm_52437899 (by kernel_rfl) (of_decide_eq_true (by kernel_rfl)) (by kernel_rfl) (by kernel_rfl) hd hdn
  have h2 : 2529403 ∣ d - 1 := pock (k := 20730534112249487519168649878325425342537568153642435714120548880482304) (a := 2) (f := 255) prm_2529403 (by kernel_rfl) (of_decide_eq_true (by kernel_rfl)) (by kernel_rfl) (by kernel_rfl) hd hdn
  have h3 : 2508409 ∣ d - 1 := pock (k := 20904037250355181503274681484632675866531555460264908084209416686010368) (a := 2) (f := 255) prm_2508409 (by kernel_rfl) (of_decide_eq_true (by kernel_rfl)) (by kernel_rfl) (by kernel_rfl) hd hdn
  have h4 : 906349 ∣ d - 1 := pock (k := 57853956009358636109763171259841369977448590444219211167666824479244288) (a := 2) (f := 255) prm_906349 (by kernel_rfl) (of_decide_eq_true (by kernel_rfl)) (by kernel_rfl) (by kernel_rfl) hd hdn
  have h5 : 859267 ∣ d - 1 := pock (k := 61023960160376449321861238134579782346686830170980193377150127608692736) (a := 2) (f := 255) prm_859267 (by kernel_rfl) (of_decide_eq_true (by kernel_rfl)) (by kernel_rfl) (by kernel_rfl) hd hdn
  have g1 : 254760293 * 52437899 ∣ d - 1 := Nat.Coprime.mul_dvd_of_dvd_of_dvd (show Nat.gcd 254760293 52437899 = 1 by kernel_rfl) h0 h1
  rw [show 254760293 * 52437899 = 13359094513544407 by kernel_rfl] at g1
  have g2 : 13359094513544407 * 2529403 ∣ d - 1 := Nat.Coprime.mul_dvd_of_dvd_of_dvd (show Nat.gcd 13359094513544407 2529403 = 1 by kernel_rfl) g1 h2
  rw [show 13359094513544407 * 2529403 = 33790533739842763699021 by kernel_rfl] at g2
  have g3 : 33790533739842763699021 * 2508409 ∣ d - 1 := Nat.Coprime.mul_dvd_of_dvd_of_dvd (show Nat.gcd 33790533739842763699021 2508409 = 1 by kernel_rfl) g2 h3
  rw [show 33790533739842763699021 * 2508409 = 84760478947825247047497567589 by kernel_rfl] at g3
  have g4 : 84760478947825247047497567589 * 906349 ∣ d - 1 := Nat.Coprime.mul_dvd_of_dvd_of_dvd (show Nat.gcd 84760478947825247047497567589 906349 = 1 by kernel_rfl) g3 h4
  rw [show 84760478947825247047497567589 * 906349 = 76822575333882464836252372886722561 by kernel_rfl] at g4
  have g5 : 76822575333882464836252372886722561 * 859267 ∣ d - 1 := Nat.Coprime.mul_dvd_of_dvd_of_dvd (show Nat.gcd 76822575333882464836252372886722561 859267 = 1 by kernel_rfl) g4 h5
  rw [show 76822575333882464836252372886722561 * 859267 = 66011103839419183912452067693255434822787 by kernel_rfl] at g5
  exact pock_fin hd.1 g5 hdd (of_decide_eq_true (by kernel_rfl))
end Cr
/- The numbers modulo a prime are a field. No program here. -/
namespace Cr

section
variable {M : Int} [Md M]
instance rgZm : Rg (Zm M) where
  add_comm a b := Zm.ext (by simp only [add_v, Int.add_comm])
  add_assoc a b c := by rw [← zm_self a, ← zm_self b, ← zm_self c]; simp only [zm_add, Int.add_assoc]
  zero_add a := by rw [← zm_self a, ← zm_zero]; simp only [zm_add, Int.zero_add]
  neg_add a := by rw [← zm_self a, ← zm_zero]; simp only [zm_add, zm_neg]; congr 1; omega
  sub_def a b := by rw [← zm_self a, ← zm_self b]; simp only [zm_add, zm_neg, zm_sub]; congr 1
  mul_comm := mul_comm'
  mul_assoc := mul_assoc'
  one_mul := one_mul'
  add_mul := add_mul'

theorem zpow_v (x : Zm M) (n : Nat) : (zpow x n).v = x.v ^ n % M := by
  induction n with
  | zero => show (1 : Zm M).v = _; rw [one_v, Int.pow_zero, Int.emod_eq_of_lt (by omega) Md.gt]
  | succ n ih => show (zpow x n * x).v = _; rw [mul_v, ih, Int.pow_succ, Int.mul_emod, Int.emod_emod, ← Int.mul_emod]

theorem zm_fermat {P : Nat} (hM : M = (P : Int)) (hp : Prm P) {x : Zm M} (hx : x ≠ 0) {n : Nat} (hn : n + 2 = P) : x * zpow x n = 1 := by
  obtain ⟨a, ha⟩ := Int.eq_ofNat_of_zero_le x.nn
  have hna : ¬ P ∣ a := by
    intro hd
    have hlt : a < P := by have := x.lt; omega
    have : a = 0 := Nat.eq_zero_of_dvd_of_lt hd hlt
    exact hx (Zm.ext (by rw [zero_v, ha, this]; rfl))
  have hf := hp.fermat' hna
  refine Zm.ext ?_
  rw [mul_v, zpow_v, one_v, Int.mul_emod, Int.emod_emod, ← Int.mul_emod, Int.mul_comm, ← Int.pow_succ, ha, hM, ← Int.natCast_pow]
  have e : P - 1 = n + 1 := by omega
  rw [e] at hf
  rw [← Int.natCast_emod, hf]
  rfl
end

theorem Mp_nat : Mp = ((4002409555221667393417789825735904156556882819939007885332058136124031650490837864442687629129015664037894272559787 : Nat) : Int) := rfl
theorem Mr_nat : Mr = ((52435875175126190479447740508185965837690552500527637822603658699938581184513 : Nat) : Int) := rfl
theorem zpw_inv {x : Fp} (hx : x ≠ 0) : x * zpw x 4002409555221667393417789825735904156556882819939007885332058136124031650490837864442687629129015664037894272559785 = 1 := by
  rw [zpw_eq]
  exact zm_fermat Mp_nat prm_p hx (of_decide_eq_true (by kernel_rfl))
theorem zpw_inv_r {x : Fr} (hx : x ≠ 0) : x * zpw x 52435875175126190479447740508185965837690552500527637822603658699938581184511 = 1 := by
  rw [zpw_eq]
  exact zm_fermat Mr_nat prm_r hx (of_decide_eq_true (by kernel_rfl))

noncomputable instance fdFp : Fd Fp where
  deq := inferInstance
  inv x := zpw x 4002409555221667393417789825735904156556882819939007885332058136124031650490837864442687629129015664037894272559785
  mul_inv _ h := zpw_inv h
  one_ne := by decide
  two_ne := by decide
  three_ne := by decide
noncomputable instance fdFr : Fd Fr where
  deq := inferInstance
  inv x := zpw x 52435875175126190479447740508185965837690552500527637822603658699938581184511
  mul_inv _ h := zpw_inv_r h
  one_ne := by decide
  two_ne := by decide
  three_ne := by decide
end Cr
/- g1: points without a division. -/
namespace Go.Proofs.YtbeeaekepmnfhaaGreatDoor
open Go Go.Eng Cr
/-- So many calls that ask for nothing. -/
def Trs : Nat → Prop → Prop
  | 0, P => P
  | n + 1, P => True ∧ Trs n P
theorem trs {P : Prop} (h : P) : ∀ n, Trs n P := by
  intro n
  induction n with
  | zero => exact h
  | succ n ih => exact ⟨trivial, ih⟩
theorem dec_pair {α β : Type} [DecidableEq α] [DecidableEq β] (p q : α × β) : (decide (p.1 = q.1) && decide (p.2 = q.2)) = decide (p = q) := by
  rw [Bool.eq_iff_iff]
  simp [Prod.ext_iff]
end Go.Proofs.YtbeeaekepmnfhaaGreatDoor
namespace Go.Proofs.YtbeeaekepmnfhaaGreatDoor.g1
set_option maxRecDepth 100000
open Go Go.Eng Go.RowKit Cr Go.Proofs.YtbeeaekepmnfhaaGreatDoor
abbrev bk : Kd := .pair .fp (.pair .fp .fp)

theorem ent_lift : enters Tryz.prog 121 Tryz.f121 := enters_mk (by kernel_rfl) (by kernel_rfl) (by kernel_rfl)
noncomputable abbrev outLift : HL [pt1] → HO [.val bk] := fun (p, _) => (jlift (F := Fp) p, ())
theorem fn_lift : FnOk Tryz.prog 121 [pt1] [.val bk] noG (fun _ => True) outLift := by
  refine fn_of_vc (sp := sps [fp.spOf]) (sps_cons (fnSpec_ok fp.fn_of) sps_nil) mixed ent_lift (by decide) (by decide) ?_
  rintro w M0 ⟨p, ⟨⟩⟩
  revert p
  intro (p : Fp × Fp) _ _
  refine vcx (X := (((decide (p.1 = 0) && decide (p.2 = 0)) = true → (((0 : Fp), (0 : Fp), (0 : Fp)), ()) = outLift (p, ())) ∧ ((decide (p.1 = 0) && decide (p.2 = 0)) = false → U64 1 ∧ ((p.1, p.2, (1 : Fp)), ()) = outLift (p, ())))) (by kernel_rfl) ?_
  rw [dec_pair p ((0 : Fp), (0 : Fp))]
  refine ⟨fun h => ?_, fun h => ⟨by constructor <;> decide, ?_⟩⟩
  · show _ = (jlift p, ())
    unfold jlift
    rw [if_pos (of_decide_eq_true h)]
  · show _ = (jlift p, ())
    unfold jlift
    rw [if_neg (of_decide_eq_false h)]
noncomputable def spLift : Nat × Eng.Spec := (121, fnSpec [pt1] [.val bk] (fun _ => True) outLift)

theorem ent_point : enters Tryz.prog 124 Tryz.f124 := enters_mk (by kernel_rfl) (by kernel_rfl) (by kernel_rfl)
noncomputable abbrev outPoint : HL [bk] → HO [.val pt1] := fun (a, _) => (jpoint (F := Fp) a, ())
theorem fn_point : FnOk Tryz.prog 124 [bk] [.val pt1] noG (fun _ => True) outPoint := by
  refine fn_of_vc (sp := sps [fp.spZero, fp.spInv, fp.spSquare, fp.spMul]) (sps_cons (fnSpec_ok fp.fn_zero) (sps_cons (fnSpec_ok fp.fn_inv) (sps_cons (fnSpec_ok fp.fn_square) (sps_cons (fnSpec_ok fp.fn_mul) sps_nil)))) mixed ent_point (by decide) (by decide) ?_
  rintro w M0 ⟨a, ⟨⟩⟩
  revert a
  intro (a : Fp × Fp × Fp) _ _
  refine vcx (X := (True ∧ (decide (a.2.2 = 0) = true → (((0 : Fp), (0 : Fp)), ()) = outPoint (a, ())) ∧ (decide (a.2.2 = 0) = false → Trs 5 (((a.1 * (fp.zinv a.2.2 * fp.zinv a.2.2), a.2.1 * (fp.zinv a.2.2 * fp.zinv a.2.2) * fp.zinv a.2.2), ()) = outPoint (a, ()))))) (by kernel_rfl) ?_
  refine ⟨trivial, fun h => ?_, fun h => trs ?_ _⟩
  · show _ = (jpoint a, ())
    unfold jpoint
    rw [if_pos (of_decide_eq_true h)]
  · show _ = (jpoint a, ())
    unfold jpoint
    rw [if_neg (of_decide_eq_false h)]
    rfl
noncomputable def spPoint : Nat × Eng.Spec := (124, fnSpec [bk] [.val pt1] (fun _ => True) outPoint)

theorem ent_double : enters Tryz.prog 123 Tryz.f123 := enters_mk (by kernel_rfl) (by kernel_rfl) (by kernel_rfl)
noncomputable abbrev outDouble : HL [bk] → HO [.val bk] := fun (a, _) => (jdbl (F := Fp) a, ())
theorem fn_double : FnOk Tryz.prog 123 [bk] [.val bk] noG (fun _ => True) outDouble := by
  refine fn_of_vc (sp := sps [fp.spZero, fp.spAdd, fp.spSub, fp.spSquare, fp.spMul]) (sps_cons (fnSpec_ok fp.fn_zero) (sps_cons (fnSpec_ok fp.fn_add) (sps_cons (fnSpec_ok fp.fn_sub) (sps_cons (fnSpec_ok fp.fn_square) (sps_cons (fnSpec_ok fp.fn_mul) sps_nil))))) mixed ent_double (by decide) (by decide) ?_
  rintro w M0 ⟨a, ⟨⟩⟩
  revert a
  intro (a : Fp × Fp × Fp) _ _
  refine vcx (X := (True ∧ (decide (a.2.2 = 0) = true → (((0 : Fp), (0 : Fp), (0 : Fp)), ()) = outDouble (a, ())) ∧ (decide (a.2.2 = 0) = false → Trs 18 ((jdbN a, ()) = outDouble (a, ()))))) (by kernel_rfl) ?_
  refine ⟨trivial, fun h => ?_, fun h => trs ?_ _⟩
  · show _ = (jdbl a, ())
    unfold jdbl
    rw [if_pos (of_decide_eq_true h)]
  · show _ = (jdbl a, ())
    unfold jdbl
    rw [if_neg (of_decide_eq_false h)]
noncomputable def spDouble : Nat × Eng.Spec := (123, fnSpec [bk] [.val bk] (fun _ => True) outDouble)

theorem ent_add : enters Tryz.prog 122 Tryz.f122 := enters_mk (by kernel_rfl) (by kernel_rfl) (by kernel_rfl)
noncomputable abbrev outAdd : HL [bk, bk] → HO [.val bk] := fun (a, b, _) => (jadd (F := Fp) a b, ())
abbrev wd (a b : Fp × Fp × Fp) : Fp := b.1 * (a.2.2 * a.2.2) - a.1 * (b.2.2 * b.2.2)
abbrev rs (a b : Fp × Fp × Fp) : Fp := b.2.1 * (a.2.2 * a.2.2) * a.2.2 - a.2.1 * (b.2.2 * b.2.2) * b.2.2
theorem fn_add : FnOk Tryz.prog 122 [bk, bk] [.val bk] noG (fun _ => True) outAdd := by
  refine fn_of_vc (sp := sps [fp.spZero, fp.spSub, fp.spSquare, fp.spMul, spDouble]) (sps_cons (fnSpec_ok fp.fn_zero) (sps_cons (fnSpec_ok fp.fn_sub) (sps_cons (fnSpec_ok fp.fn_square) (sps_cons (fnSpec_ok fp.fn_mul) (sps_cons (fnSpec_ok fn_double) sps_nil))))) mixed ent_add (by decide) (by decide) ?_
  rintro w M0 ⟨a, b, ⟨⟩⟩
  revert a b
  intro (a : Fp × Fp × Fp) (b : Fp × Fp × Fp) _ _
  refine vcx (X := (True ∧ (decide (a.2.2 = 0) = true → (b, ()) = outAdd (a, b, ())) ∧ (decide (a.2.2 = 0) = false → True ∧ (decide (b.2.2 = 0) = true → (a, ()) = outAdd (a, b, ())) ∧ (decide (b.2.2 = 0) = false →
    Trs 11 ((decide (wd a b = 0) = true → True ∧ (decide (rs a b = 0) = true → True ∧ (jdbl (F := Fp) a, ()) = outAdd (a, b, ())) ∧ (decide (rs a b = 0) = false → (((0 : Fp), (0 : Fp), (0 : Fp)), ()) = outAdd (a, b, ()))) ∧
      (decide (wd a b = 0) = false → Trs 13 ((jfin (F := Fp) (wd a b) (rs a b) (a.1 * (b.2.2 * b.2.2)) (a.2.1 * (b.2.2 * b.2.2) * b.2.2) a.2.2 b.2.2, ()) = outAdd (a, b, ())))))))) (by kernel_rfl) ?_
  refine ⟨trivial, fun h => ?_, fun h => ⟨trivial, fun h2 => ?_, fun h2 => trs ⟨fun h3 => ⟨trivial, fun h4 => ⟨trivial, ?_⟩, fun h4 => ?_⟩, fun h3 => trs ?_ _⟩ _⟩⟩
  all_goals show _ = (jadd a b, ())
  all_goals unfold jadd
  · rw [if_pos (of_decide_eq_true h)]
  · rw [if_neg (of_decide_eq_false h), if_pos (of_decide_eq_true h2)]
  · rw [if_neg (of_decide_eq_false h), if_neg (of_decide_eq_false h2), if_pos (of_decide_eq_true h3), if_pos (of_decide_eq_true h4)]
  · rw [if_neg (of_decide_eq_false h), if_neg (of_decide_eq_false h2), if_pos (of_decide_eq_true h3), if_neg (of_decide_eq_false h4)]
  · rw [if_neg (of_decide_eq_false h), if_neg (of_decide_eq_false h2), if_neg (of_decide_eq_false h3)]
noncomputable def spAdd : Nat × Eng.Spec := (122, fnSpec [bk, bk] [.val bk] (fun _ => True) outAdd)
end Go.Proofs.YtbeeaekepmnfhaaGreatDoor.g1
/- Multiples and sums of points. No program here. -/
namespace Cr
open Rg Fd Go Go.Eng

def dh (b : Int) : Int := Int.fdiv b (2 ^ min (Int.toNat 4) IntKind.u8.bits)
def dl (b : Int) : Int := bitOp .and .u8 b 15
theorem dh_ok {b : Int} (h0 : 0 ≤ b) (h1 : b < 256) : dh b = b / 16 ∧ 0 ≤ dh b ∧ dh b < 16 := by
  have e : dh b = b / 16 := by
    show Int.fdiv b (2 ^ 4) = b / 16
    rw [Int.fdiv_eq_ediv_of_nonneg b (by decide)]; rfl
  rw [e]; omega
theorem dl_ok {b : Int} (h0 : 0 ≤ b) (h1 : b < 256) : dl b = b % 16 ∧ 0 ≤ dl b ∧ dl b < 16 := by
  obtain ⟨n, rfl⟩ := Int.eq_ofNat_of_zero_le h0
  have hn : n < 256 := by omega
  have e : dl (n : Int) = (n : Int) % 16 := by
    show IntKind.u8.wrap ((BitVec.ofInt 8 (n : Int) &&& BitVec.ofInt 8 15 : BitVec 8).toNat : Int) = _
    have h1 : (BitVec.ofInt 8 (n : Int)).toNat = n := by rw [show BitVec.ofInt 8 (n : Int) = BitVec.ofNat 8 n from BitVec.ofInt_natCast .., BitVec.toNat_ofNat, Nat.mod_eq_of_lt (by omega)]
    rw [BitVec.toNat_and, h1, show (BitVec.ofInt 8 15).toNat = 15 from rfl]
    have h := Nat.and_two_pow_sub_one_eq_mod n 4
    rw [show 2 ^ 4 - 1 = 15 from rfl] at h
    rw [h]
    have : IntKind.u8.wrap ((n % 2 ^ 4 : Nat) : Int) = ((n % 2 ^ 4 : Nat) : Int) := by
      simp [IntKind.wrap, IntKind.signed, IntKind.bits]; omega
    rw [this]; omega
  rw [e]; omega

section
variable {F : Type} [Fd F]
def jt (o : Jc F) : Nat → Jc F
  | 0 => (0, 0, 0)
  | k + 1 => jadd (jt o k) o
def jdn (s : Jc F) : Nat → Jc F
  | 0 => s
  | k + 1 => jdbl (jdn s k)
def jst (tb : List (Jc F)) (s : Jc F) (d : Int) : Jc F := jadd (jdn s 4) (tb.getD d.toNat (0, 0, 0))
def jsd (tb : List (Jc F)) (ds : List Int) (s : Jc F) : Nat → Jc F
  | 0 => s
  | j + 1 => jst tb (jsd tb ds s j) (ds.getD j 0)
def jby (tb : List (Jc F)) (s : Jc F) (b : Int) : Jc F := jsd tb [dh b, dl b] s 2
def jtm (tb : List (Jc F)) (k : List Int) : Nat → Jc F
  | 0 => (0, 0, 0)
  | i + 1 => jby tb (jtm tb k i) (k.getD i 0)

variable {b : F} (hb : b ≠ 0)
include hb
end
end Cr
/- g1: Sum, Add, Neg, On. -/
namespace Go.Proofs.YtbeeaekepmnfhaaGreatDoor.g1
set_option maxRecDepth 100000
open Go Go.Eng Go.RowKit Cr Go.Proofs.YtbeeaekepmnfhaaGreatDoor

abbrev bc (s : Fp × Fp × Fp) : List Cell := [.row .fp 1 [s.1], .row .fp 1 [s.2.1], .row .fp 1 [s.2.2]]
abbrev pc (s : Fp × Fp) : List Cell := [.row .fp 1 [s.1], .row .fp 1 [s.2]]
end Go.Proofs.YtbeeaekepmnfhaaGreatDoor.g1
/- g1: Times. -/
namespace Go.Proofs.YtbeeaekepmnfhaaGreatDoor.g1
set_option maxRecDepth 100000
open Go Go.Eng Go.RowKit Cr Go.Proofs.YtbeeaekepmnfhaaGreatDoor

abbrev Jp := Fp × Fp × Fp
noncomputable def tmI (k : List Int) (o : Jp) (g : Int × List Jp) : St := mkSt Tryz.f82.ntmps 64 [(1, .is (.one (.ro (.int .u8) k))), (4, .is (.one (.ptr 8 0))), (5, .is (.one (.ptr 16 0))), (6, .is (.one (.ptr 40 0))), (15, sI .i64 g.1)] [(40, bc o), (16, [.row bk 16 g.2]), (8, pc (0, 0))]
noncomputable def tmS (k : List Int) (tb : List Jp) (s : Jp) (nx : Nat) (xs : List (Nat × SV)) : St := mkSt Tryz.f82.ntmps nx ([(4, .is (.one (.ptr 8 0))), (5, .is (.one (.ptr 16 0))), (8, .is (.one (.ptr 64 0))), (27, .is (.one (.ro (.int .u8) k))), (28, sI .i64 k.length)] ++ xs) [(64, bc s), (16, [.row bk 16 tb]), (8, pc (0, 0))]
noncomputable abbrev tmJ (k : List Int) (tb : List Jp) (g : Int × Jp) : St := tmS k tb g.2 96 [(29, sI .i64 g.1)]
noncomputable abbrev tmK (k : List Int) (tb : List Jp) (i : Int) (ds : List Int) (g : Int × Jp) : St := tmS k tb g.2 168 [(29, sI .i64 i), (37, .is (.agg [.ints .u8 2 ds])), (38, sI .i64 g.1)]
noncomputable abbrev tmL (k : List Int) (tb : List Jp) (i : Int) (ds : List Int) (j d : Int) (g : Int × Jp) : St := tmS k tb g.2 184 [(29, sI .i64 i), (37, .is (.agg [.ints .u8 2 ds])), (38, sI .i64 j), (12, sI .u8 d), (41, sI .i64 g.1)]

theorem ent_times : enters Tryz.prog 82 Tryz.f82 := enters_mk (by kernel_rfl) (by kernel_rfl) (by kernel_rfl)
abbrev preTimes : HL [pt1, .sl (.int .u8)] → Prop := fun (_, k, _) => Bs k ∧ List.length k < 4611686018427387904
noncomputable abbrev outTimes : HL [pt1, .sl (.int .u8)] → HO [.val pt1] := fun (p, k, _) => (jpoint (F := Fp) (jtm (tabAt (jt (jlift (F := Fp) p)) (0, 0, 0) 15) k (List.length k)), ())
theorem fn_times : FnOk Tryz.prog 82 [pt1, .sl (.int .u8)] [.val pt1] noG preTimes outTimes := by
  have hsp : SpecsOk Tryz.prog (sps [spLift, spAdd, spPoint, spDouble]) := sps_cons (fnSpec_ok fn_lift) (sps_cons (fnSpec_ok fn_add) (sps_cons (fnSpec_ok fn_point) (sps_cons (fnSpec_ok fn_double) sps_nil)))
  refine fn_of_tr (sp := sps [spLift, spAdd, spPoint, spDouble]) ent_times (by decide) (by decide) (by kernel_rfl) ?_
  rintro w M0 ⟨p, k, ⟨⟩⟩
  revert p k
  intro (p : Fp × Fp) (k : List Int) _ hp
  obtain ⟨hk, hl⟩ := hp
  have hk : Bs k := hk
  have hl : k.length < 4611686018427387904 := hl
  show Tr _ _ _ _ _ _ _
  refine tr_cut hsp mixed 4 (tmI k (jlift (F := Fp) p) (0, tabAt (jt (jlift (F := Fp) p)) (0, 0, 0) 0)) True ?_ (fun _ => ?_)
  · exact vcx (X := (True ∧ (tmI k (jlift (F := Fp) p) (0, tabAt (jt (jlift (F := Fp) p)) (0, 0, 0) 0)).triv True)) (by kernel_rfl) ⟨trivial, triv_intro trivial⟩
  generalize ho : jlift (F := Fp) p = o
  refine tr_count hsp mixed (tmI k o) (fun n => ((n : Int), tabAt (jt o) (0, 0, 0) n)) 15 (fun g => (IntKind.i64.wrap (g.1 + 1), g.2.set (IntKind.i64.wrap (g.1 + 1)).toNat (jadd (F := Fp) (g.2.getD g.1.toNat (0, 0, 0)) o))) (tmI k o) (c := nthC (codeOf Tryz.f82) 4) (by kernel_rfl) (by kernel_rfl) (le_of_proj (by kernel_rfl) (by kernel_rfl) trivial)
    (fun n hn => by
      show (_, _) = (_, _)
      rw [wrap_succ (by omega), Int.toNat_natCast, Int.toNat_natCast, tabAt_get _ _ _ (Nat.le_refl n) (by omega), show jadd (F := Fp) (jt o n) o = jt o (n + 1) from rfl, tabAt_set]) ?_ ?_
  · intro n hn
    generalize tabAt (jt o) (0, 0, 0) n = tb
    refine vcx (X := ((decide ((n : Int) < 15) = true → (0 ≤ (n : Int) ∧ (n : Int) < ((16 : Nat) : Int)) ∧ (n : Int).toNat < 16 ∧ True ∧ (0 ≤ IntKind.i64.wrap ((n : Int) + 1) ∧ IntKind.i64.wrap ((n : Int) + 1) < ((16 : Nat) : Int)) ∧ (IntKind.i64.wrap ((n : Int) + 1)).toNat < 16 ∧
        (tmI k o (IntKind.i64.wrap ((n : Int) + 1), tb.set (IntKind.i64.wrap ((n : Int) + 1)).toNat (jadd (F := Fp) (tb.getD (n : Int).toNat (0, 0, 0)) o))).triv (n < 15)) ∧
      (decide ((n : Int) < 15) = false → (tmI k o ((n : Int), tb)).triv (n = 15)))) (by kernel_rfl) ?_
    refine ⟨fun h => ?_, fun h => triv_intro (by have := dec_ge h; omega)⟩
    have hlt : n < 15 := by have := dec_lt h; omega
    rw [wrap_succ (by omega)]
    exact ⟨⟨by omega, by omega⟩, by omega, trivial, ⟨by omega, by omega⟩, by omega, triv_intro hlt⟩
  subst ho
  show Tr _ _ _ _ _ _ _
  generalize htb : tabAt (jt (jlift (F := Fp) p)) (0, 0, 0) 15 = tb
  refine tr_cut hsp mixed 2 (tmJ k tb (0, jtm tb k 0)) True ?_ (fun _ => ?_)
  · exact vcx (X := (tmJ k tb (0, jtm tb k 0)).triv True) (by kernel_rfl) (triv_intro trivial)
  refine tr_countT (tmJ k tb) (fun i => ((i : Int), jtm tb k i)) k.length (fun g => (IntKind.i64.wrap (g.1 + 1), jby tb g.2 (k.getD g.1.toNat 0))) (tmJ k tb) (c := nthC (codeOf Tryz.f82) 7) (by kernel_rfl) (by kernel_rfl) (le_of_proj (by kernel_rfl) (by kernel_rfl) trivial)
    (fun i hi => by show (_, _) = (_, _); rw [wrap_succ (by omega), Int.toNat_natCast]; rfl) ?_ ?_
  · intro i hi
    generalize jtm tb k i = s
    refine tr_cut hsp mixed 2 (tmJ k tb ((i : Int), s)) (i < k.length) ?_ (fun hlt => ?_)
    · refine vcx (X := ((decide ((i : Int) < (k.length : Int)) = true → (tmJ k tb ((i : Int), s)).triv (i < k.length)) ∧ (decide ((i : Int) < (k.length : Int)) = false → (tmJ k tb ((i : Int), s)).triv (i = k.length)))) (by kernel_rfl) ?_
      exact ⟨fun h => triv_intro (by have := dec_lt h; omega), fun h => triv_intro (by have := dec_ge h; omega)⟩
    have hb : 0 ≤ k.getD i 0 ∧ k.getD i 0 < 256 := by
      have : k.getD i 0 ∈ k := by rw [List.getD_eq_getElem?_getD, List.getElem?_eq_getElem hlt]; exact List.getElem_mem hlt
      exact hk _ this
    have hbi : k.getD (i : Int).toNat 0 = k.getD i 0 := by rw [Int.toNat_natCast]
    generalize hbb : k.getD i 0 = b at hb hbi
    obtain ⟨_, d1, d2⟩ := dh_ok hb.1 hb.2
    obtain ⟨_, d3, d4⟩ := dl_ok hb.1 hb.2
    refine tr_block (c := nthC (loopOf (nthC (codeOf Tryz.f82) 7)) 2) (by kernel_rfl) (by kernel_rfl) ?_
    refine tr_cut hsp mixed 2 (tmK k tb (i : Int) [dh (k.getD (i : Int).toNat 0), dl (k.getD (i : Int).toNat 0)] (0, jsd tb [dh b, dl b] s 0)) True ?_ (fun _ => ?_)
    · refine vcx (X := ((0 ≤ (i : Int) ∧ (i : Int) < (k.length : Int)) ∧ (i : Int).toNat < k.length ∧ (0 : Int) ≤ 4 ∧ (tmK k tb (i : Int) [dh (k.getD (i : Int).toNat 0), dl (k.getD (i : Int).toNat 0)] (0, jsd tb [dh b, dl b] s 0)).triv True)) (by kernel_rfl) ?_
      exact ⟨⟨by omega, by omega⟩, by omega, by decide, triv_intro trivial⟩
    rw [hbi]
    generalize hds : [dh b, dl b] = ds
    have hdd : ∀ j, j < 2 → 0 ≤ ds.getD j 0 ∧ ds.getD j 0 < 16 := by
      intro j hj
      subst hds
      match j, hj with
      | 0, _ => exact ⟨d1, d2⟩
      | 1, _ => exact ⟨d3, d4⟩
    refine tr_countT (tmK k tb (i : Int) ds) (fun j => ((j : Int), jsd tb ds s j)) 2 (fun g => (IntKind.i64.wrap (g.1 + 1), jst tb g.2 (ds.getD g.1.toNat 0))) (tmK k tb (i : Int) ds) (c := nthC (bodyOf (nthC (loopOf (nthC (codeOf Tryz.f82) 7)) 2)) 2) (by kernel_rfl) (by kernel_rfl) (le_of_proj (by kernel_rfl) (by kernel_rfl) trivial)
      (fun j hj => by show (_, _) = (_, _); rw [wrap_succ (by omega), Int.toNat_natCast]; rfl) ?_ ?_
    · intro j hj
      generalize jsd tb ds s j = y
      refine tr_cut hsp mixed 2 (tmK k tb (i : Int) ds ((j : Int), y)) (j < 2) ?_ (fun hj2 => ?_)
      · refine vcx (X := ((decide ((j : Int) < 2) = true → (tmK k tb (i : Int) ds ((j : Int), y)).triv (j < 2)) ∧ (decide ((j : Int) < 2) = false → (tmK k tb (i : Int) ds ((j : Int), y)).triv (j = 2)))) (by kernel_rfl) ?_
        exact ⟨fun h => triv_intro (by have := dec_lt h; omega), fun h => triv_intro (by have := dec_ge h; omega)⟩
      have hd := hdd j hj2
      have hdj : ds.getD (j : Int).toNat 0 = ds.getD j 0 := by rw [Int.toNat_natCast]
      generalize ds.getD j 0 = d at hd hdj
      refine tr_block (c := nthC (loopOf (nthC (bodyOf (nthC (loopOf (nthC (codeOf Tryz.f82) 7)) 2)) 2)) 2) (by kernel_rfl) (by kernel_rfl) ?_
      refine tr_cut hsp mixed 2 (tmL k tb (i : Int) ds (j : Int) (ds.getD (j : Int).toNat 0) (0, jdn y 0)) True ?_ (fun _ => ?_)
      · refine vcx (X := ((0 ≤ (j : Int) ∧ (j : Int) < ((2 : Nat) : Int)) ∧ (tmL k tb (i : Int) ds (j : Int) (ds.getD (j : Int).toNat 0) (0, jdn y 0)).triv True)) (by kernel_rfl) ?_
        exact ⟨⟨by omega, by omega⟩, triv_intro trivial⟩
      rw [hdj]
      refine tr_count hsp mixed (tmL k tb (i : Int) ds (j : Int) d) (fun n => ((n : Int), jdn y n)) 4 (fun g => (IntKind.i64.wrap (g.1 + 1), jdbl (F := Fp) g.2)) (tmL k tb (i : Int) ds (j : Int) d) (c := nthC (bodyOf (nthC (loopOf (nthC (bodyOf (nthC (loopOf (nthC (codeOf Tryz.f82) 7)) 2)) 2)) 2)) 2) (by kernel_rfl) (by kernel_rfl) (le_of_proj (by kernel_rfl) (by kernel_rfl) trivial)
        (fun n hn => by show (_, _) = (_, _); rw [wrap_succ (by omega)]; rfl) ?_ ?_
      · intro n hn
        generalize jdn y n = z
        refine vcx (X := ((decide ((n : Int) < 4) = true → True ∧ (tmL k tb (i : Int) ds (j : Int) d (IntKind.i64.wrap ((n : Int) + 1), jdbl (F := Fp) z)).triv (n < 4)) ∧ (decide ((n : Int) < 4) = false → (tmL k tb (i : Int) ds (j : Int) d ((n : Int), z)).triv (n = 4)))) (by kernel_rfl) ?_
        exact ⟨fun h => ⟨trivial, triv_intro (by have := dec_lt h; omega)⟩, fun h => triv_intro (by have := dec_ge h; omega)⟩
      refine tr_cut hsp mixed 1 (tmK k tb (i : Int) ds ((j : Int), jst tb y d)) True ?_ (fun _ => ?_)
      · refine vcx (X := ((0 ≤ d ∧ d < ((16 : Nat) : Int)) ∧ d.toNat < 16 ∧ True ∧ (tmK k tb (i : Int) ds ((j : Int), jst tb y d)).triv True)) (by kernel_rfl) ?_
        exact ⟨⟨hd.1, by omega⟩, by omega, trivial, triv_intro trivial⟩
      refine tr_nil ?_
      refine tr_vc hsp mixed _ _ ?_
      exact vcx (X := (tmK k tb (i : Int) ds (IntKind.i64.wrap ((j : Int) + 1), jst tb y d)).triv (j < 2)) (by kernel_rfl) (triv_intro hj2)
    refine tr_nil ?_
    refine tr_vc hsp mixed _ _ ?_
    have ey : jby tb s b = jsd tb ds s 2 := by unfold jby; rw [hds]
    show VC _ _ _ (fun σ' => σ'.le _ (tmJ k tb (IntKind.i64.wrap ((i : Int) + 1), jby tb s b)) (i < k.length)) _ _
    rw [ey]
    generalize jsd tb ds s 2 = z
    exact vcx (X := (tmJ k tb (IntKind.i64.wrap ((i : Int) + 1), z)).triv (i < k.length)) (by kernel_rfl) (triv_intro hlt)
  · refine tr_vc hsp mixed _ _ ?_
    refine vcx (X := (True ∧ (jpoint (F := Fp) (jtm tb k k.length), ()) = outTimes (p, k, ()))) (by kernel_rfl) ⟨trivial, ?_⟩
    show _ = (jpoint (F := Fp) (jtm (tabAt (jt (jlift (F := Fp) p)) (0, 0, 0) 15) k k.length), ())
    rw [htb]
noncomputable def spTimes : Nat × Eng.Spec := (82, fnSpec [pt1, .sl (.int .u8)] [.val pt1] preTimes outTimes)
end Go.Proofs.YtbeeaekepmnfhaaGreatDoor.g1
/- g1: Mul. -/
namespace Go.Proofs.YtbeeaekepmnfhaaGreatDoor.g1
set_option maxRecDepth 100000
open Go Go.Eng Go.RowKit Cr Go.Proofs.YtbeeaekepmnfhaaGreatDoor
noncomputable def tms (p : Fp × Fp) (k : List Int) : Fp × Fp := jpoint (F := Fp) (jtm (tabAt (jt (jlift (F := Fp) p)) (0, 0, 0) 15) k (List.length k))
noncomputable def pml (p : Fp × Fp) (k : Fr) : Fp × Fp := tms p (bytesN 32 k.v)
theorem ent_pmul : enters Tryz.prog 42 Tryz.f42 := enters_mk (by kernel_rfl) (by kernel_rfl) (by kernel_rfl)
noncomputable abbrev outPMul : HL [pt1, .fr] → HO [.val pt1] := fun (p, k, _) => (pml p k, ())
theorem fn_pmul : FnOk Tryz.prog 42 [pt1, .fr] [.val pt1] noG (fun _ => True) outPMul := by
  refine fn_of_vc (sp := sps [fr.spBytes, spTimes]) (sps_cons (fnSpec_ok fr.fn_bytes) (sps_cons (fnSpec_ok fn_times) sps_nil)) mixed ent_pmul (by decide) (by decide) ?_
  rintro w M0 ⟨p, k, ⟨⟩⟩
  revert p k
  intro (p : Fp × Fp) (k : Fr) _ _
  refine vcx (X := (True ∧ (0 : Nat) + 32 ≤ 32 ∧ preTimes (p, (bytesN 32 k.v).take 32, ()) ∧ (tms p ((bytesN 32 k.v).take 32), ()) = outPMul (p, k, ()))) (by kernel_rfl) ?_
  rw [List.take_of_length_le (by rw [bytesN_length]; exact Nat.le_refl _)]
  exact ⟨trivial, by decide, ⟨bytesN_Bs _ _, by show (bytesN 32 k.v).length < _; rw [bytesN_length]; decide⟩, rfl⟩
end Go.Proofs.YtbeeaekepmnfhaaGreatDoor.g1
/- The references' Copy; law07: scalar, long. -/
namespace Go.Proofs.YtbeeaekepmnfhaaGreatDoor.ref01
set_option maxRecDepth 100000
open Go Go.Eng Go.RowKit Cr Go.Proofs.YtbeeaekepmnfhaaGreatDoor

end Go.Proofs.YtbeeaekepmnfhaaGreatDoor.ref01
namespace Go.Eng
/-- The same; nothing unfolds it. -/
noncomputable def opq {α : Type} (x : α) : α := Classical.choose (⟨x, rfl⟩ : ∃ y, y = x)
theorem opq_eq {α : Type} (x : α) : opq x = x := Classical.choose_spec (⟨x, rfl⟩ : ∃ y, y = x)
end Go.Eng
