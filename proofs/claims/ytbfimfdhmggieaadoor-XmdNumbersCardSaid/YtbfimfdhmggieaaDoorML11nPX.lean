/- ref11: digests laid over digests, as bytes and as words. -/
import Derived.Test.YtbfimfdhmggieaaDoorML11nPW
/- ref01: mul, turn, Square, Cube. -/
namespace Go.Proofs.YtbfimfdhmggieaaDoor.ref01
set_option maxRecDepth 100000
open Go Go.Eng Go.RowKit Cr Go.Proofs.YtbfimfdhmggieaaDoor
abbrev q64 : Kd := .int .u64
abbrev q32 : Kd := .int .u32
def mlL (a b : Int) : Int := IntKind.u64.wrap (bitOp .and .u64 a 4294967295 * bitOp .and .u64 b 4294967295)
def mlM (a b : Int) : Int := IntKind.u64.wrap (IntKind.u64.wrap (a.fdiv (2 ^ min (32 : Nat) IntKind.u64.bits) * bitOp .and .u64 b 4294967295) + (mlL a b).fdiv (2 ^ min (32 : Nat) IntKind.u64.bits))
def mlN (a b : Int) : Int := IntKind.u64.wrap (IntKind.u64.wrap (bitOp .and .u64 a 4294967295 * b.fdiv (2 ^ min (32 : Nat) IntKind.u64.bits)) + bitOp .and .u64 (mlM a b) 4294967295)
def mlH (a b : Int) : Int := IntKind.u64.wrap (IntKind.u64.wrap (IntKind.u64.wrap (a.fdiv (2 ^ min (32 : Nat) IntKind.u64.bits) * b.fdiv (2 ^ min (32 : Nat) IntKind.u64.bits)) + (mlM a b).fdiv (2 ^ min (32 : Nat) IntKind.u64.bits)) + (mlN a b).fdiv (2 ^ min (32 : Nat) IntKind.u64.bits))
def mlO (a b : Int) : Int := bitOp .or .u64 (IntKind.u64.wrap (mlN a b * 2 ^ min (32 : Nat) IntKind.u64.bits)) (bitOp .and .u64 (mlL a b) 4294967295)
noncomputable def mlo (a b : Int) : Int × Int := opq (mlH a b, mlO a b)
theorem ent_mul : enters Tryd.prog 134 Tryd.f134 := enters_mk (by kernel_rfl) (by kernel_rfl) (by kernel_rfl)
theorem fn_mul : FnOk Tryd.prog 134 [q64, q64] [.val q64, .val q64] noG (fun _ => True) (fun (a, b, _) => ((mlo a b).1, (mlo a b).2, ())) := by
  refine fn_of_vc (sp := sps []) sps_nil mixed ent_mul (by decide) (by decide) ?_
  rintro w M0 ⟨a, b, ⟨⟩⟩
  revert a b
  intro (a : Int) (b : Int) _ _
  refine vcx (X := ((0 : Int) ≤ (32 : Int) ∧ (0 : Int) ≤ (32 : Int) ∧ (0 : Int) ≤ (32 : Int) ∧ (0 : Int) ≤ (32 : Int) ∧ (0 : Int) ≤ (32 : Int) ∧ (0 : Int) ≤ (32 : Int) ∧ (IntKind.u64.wrap (IntKind.u64.wrap (IntKind.u64.wrap (a.fdiv ((2 : Int) ^ min (32 : Nat) IntKind.u64.bits) * b.fdiv ((2 : Int) ^ min (32 : Nat) IntKind.u64.bits)) + (IntKind.u64.wrap (IntKind.u64.wrap (a.fdiv ((2 : Int) ^ min (32 : Nat) IntKind.u64.bits) * bitOp BinOp.and IntKind.u64 b (4294967295 : Int)) + (IntKind.u64.wrap (bitOp BinOp.and IntKind.u64 a (4294967295 : Int) * bitOp BinOp.and IntKind.u64 b (4294967295 : Int))).fdiv ((2 : Int) ^ min (32 : Nat) IntKind.u64.bits))).fdiv ((2 : Int) ^ min (32 : Nat) IntKind.u64.bits)) + (IntKind.u64.wrap (IntKind.u64.wrap (bitOp BinOp.and IntKind.u64 a (4294967295 : Int) * b.fdiv ((2 : Int) ^ min (32 : Nat) IntKind.u64.bits)) + bitOp BinOp.and IntKind.u64 (IntKind.u64.wrap (IntKind.u64.wrap (a.fdiv ((2 : Int) ^ min (32 : Nat) IntKind.u64.bits) * bitOp BinOp.and IntKind.u64 b (4294967295 : Int)) + (IntKind.u64.wrap (bitOp BinOp.and IntKind.u64 a (4294967295 : Int) * bitOp BinOp.and IntKind.u64 b (4294967295 : Int))).fdiv ((2 : Int) ^ min (32 : Nat) IntKind.u64.bits))) (4294967295 : Int))).fdiv ((2 : Int) ^ min (32 : Nat) IntKind.u64.bits)), bitOp BinOp.or IntKind.u64 (IntKind.u64.wrap (IntKind.u64.wrap (IntKind.u64.wrap (bitOp BinOp.and IntKind.u64 a (4294967295 : Int) * b.fdiv ((2 : Int) ^ min (32 : Nat) IntKind.u64.bits)) + bitOp BinOp.and IntKind.u64 (IntKind.u64.wrap (IntKind.u64.wrap (a.fdiv ((2 : Int) ^ min (32 : Nat) IntKind.u64.bits) * bitOp BinOp.and IntKind.u64 b (4294967295 : Int)) + (IntKind.u64.wrap (bitOp BinOp.and IntKind.u64 a (4294967295 : Int) * bitOp BinOp.and IntKind.u64 b (4294967295 : Int))).fdiv ((2 : Int) ^ min (32 : Nat) IntKind.u64.bits))) (4294967295 : Int)) * (2 : Int) ^ min (32 : Nat) IntKind.u64.bits)) (bitOp BinOp.and IntKind.u64 (IntKind.u64.wrap (bitOp BinOp.and IntKind.u64 a (4294967295 : Int) * bitOp BinOp.and IntKind.u64 b (4294967295 : Int))) (4294967295 : Int)), ()) = ((mlo a b).fst, (mlo a b).snd, ()))) (by kernel_rfl) ?_
  rw [mlo, opq_eq]
  exact ⟨by decide, by decide, by decide, by decide, by decide, by decide, rfl⟩
noncomputable def spMul : Nat × Eng.Spec := (134, fnSpec [q64, q64] [.val q64, .val q64] (fun _ => True) (fun (a, b, _) => ((mlo a b).1, (mlo a b).2, ())))
theorem ent_turn : enters Tryd.prog 98 Tryd.f98 := enters_mk (by kernel_rfl) (by kernel_rfl) (by kernel_rfl)
theorem dT {c : Prop} [Decidable c] (h : decide c = true) : c := of_decide_eq_true h
theorem dF {c : Prop} [Decidable c] (h : decide c = false) : ¬ c := of_decide_eq_false h
theorem bT {a b : Int} (h : (a == b) = true) : a = b := eq_of_beq h
theorem bF {a b : Int} (h : (a == b) = false) : ¬ a = b := fun e => by rw [e, beq_self_eq_true] at h; cases h
def tnF (x n : Int) : Int := bitOp .or .u32 (x.fdiv (2 ^ min n.toNat IntKind.u32.bits)) (IntKind.u32.wrap (x * 2 ^ min (32 - n).toNat IntKind.u32.bits))
noncomputable def tno (x n : Int) : Int := opq (tnF x n)
theorem fn_turn : FnOk Tryd.prog 98 [q32, q64] [.val q32] noG (fun (_, n, _) => (0 : Int) ≤ n ∧ n ≤ (32 : Int)) (fun (x, n, _) => (tno x n, ())) := by
  refine fn_of_vc (sp := sps []) sps_nil mixed ent_turn (by decide) (by decide) ?_
  rintro w M0 ⟨x, n, ⟨⟩⟩
  revert x n
  intro (x : Int) (n : Int) _ hp
  have hp : 0 ≤ n ∧ n ≤ 32 := hp
  refine vcx (X := ((0 : Int) ≤ n ∧ (0 : Int) ≤ IntKind.u64.wrap ((32 : Int) - n) ∧ (bitOp BinOp.or IntKind.u32 (x.fdiv ((2 : Int) ^ min n.toNat IntKind.u32.bits)) (IntKind.u32.wrap (x * (2 : Int) ^ min (IntKind.u64.wrap ((32 : Int) - n)).toNat IntKind.u32.bits)), ()) = (tno x n, ()))) (by kernel_rfl) ?_
  have e : IntKind.u64.wrap (32 - n) = 32 - n := wrap_u64 (by omega) (by omega)
  rw [e, tno, opq_eq]
  exact ⟨hp.1, by omega, rfl⟩
noncomputable def spTurn : Nat × Eng.Spec := (98, fnSpec [q32, q64] [.val q32] (fun (_, n, _) => (0 : Int) ≤ n ∧ n ≤ (32 : Int)) (fun (x, n, _) => (tno x n, ())))
theorem ent_square : enters Tryd.prog 97 Tryd.f97 := enters_mk (by kernel_rfl) (by kernel_rfl) (by kernel_rfl)
def sqY (x : Int) (t : Nat) : Int := bitOp .or .u64 x (IntKind.u64.wrap (1 * 2 ^ min t IntKind.u64.bits))
noncomputable def sqS (p : Int) (k : Nat) (x : Int) : Int := if (mlo (sqY x (40 - k)) (sqY x (40 - k))).1 < p ∨ ((mlo (sqY x (40 - k)) (sqY x (40 - k))).1 = p ∧ (mlo (sqY x (40 - k)) (sqY x (40 - k))).2 = 0) then sqY x (40 - k) else x
noncomputable def sqK (p : Int) (k : Nat) : Int := it (sqS p) 0 k
noncomputable def sqo (p : Int) : Int := opq (IntKind.u32.wrap (sqK p 41))
noncomputable def sqI (p : Int) (g : Int × Int) : St := mkSt Tryd.f97.ntmps 24 [(0, sI .u64 p), (3, sI .u64 g.2), (4, sI .i64 g.1)] []
theorem fn_square : FnOk Tryd.prog 97 [q64] [.val q32] noG (fun _ => True) (fun (p, _) => (sqo p, ())) := by
  have hsp : SpecsOk Tryd.prog (sps [spMul]) := sps_cons (fnSpec_ok fn_mul) sps_nil
  refine fn_of_tr (sp := sps [spMul]) ent_square (by decide) (by decide) (by kernel_rfl) ?_
  rintro w M0 ⟨p, ⟨⟩⟩
  revert p
  intro (p : Int) _ _
  show Tr _ _ _ _ _ _ _
  refine tr_cut hsp mixed 3 (sqI p (40, 0)) True ?_ (fun _ => ?_)
  · refine vcx (X := ((sqI p ((40 : Int), (0 : Int))).triv True)) (by kernel_rfl) ?_
    exact triv_intro trivial
  refine tr_while hsp mixed noSw (fun σ => (rdS (.int .i64) 4 σ, rdS (.int .u64) 3 σ)) (sqI p) (fun g => ∃ k : Nat, k ≤ 41 ∧ g.1 = 40 - (k : Int) ∧ g.2 = sqK p k) (fun g => (g.1 + 1).toNat)
    (fun σ => (rdS (.int .i64) 4 σ, rdS (.int .u64) 3 σ)) (sqI p) (fun g => g.2 = sqK p 41) (40, 0) (c := nthC (codeOf Tryd.f97) 3) (by kernel_rfl) (by kernel_rfl) (le_of_proj (by kernel_rfl) (by kernel_rfl) ?_) ?_ ?_
  · exact ⟨0, by decide, rfl, rfl⟩
  · rintro ⟨i, x⟩ hj
    revert i x
    intro (i : Int) (x : Int) ⟨k, hk, ei, ex⟩
    have ki : i = 40 - (k : Int) := ei
    have kx : x = sqK p k := ex
    refine vcx (X := ((decide (i ≥ (0 : Int)) = true → (0 : Int) ≤ IntKind.u64.wrap i ∧ True ∧ (decide ((mlo (bitOp BinOp.or IntKind.u64 x (IntKind.u64.wrap ((1 : Int) * (2 : Int) ^ min (IntKind.u64.wrap i).toNat IntKind.u64.bits))) (bitOp BinOp.or IntKind.u64 x (IntKind.u64.wrap ((1 : Int) * (2 : Int) ^ min (IntKind.u64.wrap i).toNat IntKind.u64.bits)))).fst < p) = true → (sqI p (IntKind.i64.wrap (i - (1 : Int)), bitOp BinOp.or IntKind.u64 x (IntKind.u64.wrap ((1 : Int) * (2 : Int) ^ min (IntKind.u64.wrap i).toNat IntKind.u64.bits)))).triv ((∃ k, k ≤ (41 : Nat) ∧ IntKind.i64.wrap (i - (1 : Int)) = (40 : Car (Kd.int IntKind.i64)) - (↑k : Int) ∧ bitOp BinOp.or IntKind.u64 x (IntKind.u64.wrap ((1 : Int) * (2 : Int) ^ min (IntKind.u64.wrap i).toNat IntKind.u64.bits)) = sqK p k) ∧ Int.toNat (IntKind.i64.wrap (i - (1 : Int)) + (1 : Car (Kd.int IntKind.i64))) < Int.toNat (i + (1 : Car (Kd.int IntKind.i64))))) ∧ (decide ((mlo (bitOp BinOp.or IntKind.u64 x (IntKind.u64.wrap ((1 : Int) * (2 : Int) ^ min (IntKind.u64.wrap i).toNat IntKind.u64.bits))) (bitOp BinOp.or IntKind.u64 x (IntKind.u64.wrap ((1 : Int) * (2 : Int) ^ min (IntKind.u64.wrap i).toNat IntKind.u64.bits)))).fst < p) = false → (((mlo (bitOp BinOp.or IntKind.u64 x (IntKind.u64.wrap ((1 : Int) * (2 : Int) ^ min (IntKind.u64.wrap i).toNat IntKind.u64.bits))) (bitOp BinOp.or IntKind.u64 x (IntKind.u64.wrap ((1 : Int) * (2 : Int) ^ min (IntKind.u64.wrap i).toNat IntKind.u64.bits)))).fst == p) = true → (((mlo (bitOp BinOp.or IntKind.u64 x (IntKind.u64.wrap ((1 : Int) * (2 : Int) ^ min (IntKind.u64.wrap i).toNat IntKind.u64.bits))) (bitOp BinOp.or IntKind.u64 x (IntKind.u64.wrap ((1 : Int) * (2 : Int) ^ min (IntKind.u64.wrap i).toNat IntKind.u64.bits)))).snd == (0 : Int)) = true → (sqI p (IntKind.i64.wrap (i - (1 : Int)), bitOp BinOp.or IntKind.u64 x (IntKind.u64.wrap ((1 : Int) * (2 : Int) ^ min (IntKind.u64.wrap i).toNat IntKind.u64.bits)))).triv ((∃ k, k ≤ (41 : Nat) ∧ IntKind.i64.wrap (i - (1 : Int)) = (40 : Car (Kd.int IntKind.i64)) - (↑k : Int) ∧ bitOp BinOp.or IntKind.u64 x (IntKind.u64.wrap ((1 : Int) * (2 : Int) ^ min (IntKind.u64.wrap i).toNat IntKind.u64.bits)) = sqK p k) ∧ Int.toNat (IntKind.i64.wrap (i - (1 : Int)) + (1 : Car (Kd.int IntKind.i64))) < Int.toNat (i + (1 : Car (Kd.int IntKind.i64))))) ∧ (((mlo (bitOp BinOp.or IntKind.u64 x (IntKind.u64.wrap ((1 : Int) * (2 : Int) ^ min (IntKind.u64.wrap i).toNat IntKind.u64.bits))) (bitOp BinOp.or IntKind.u64 x (IntKind.u64.wrap ((1 : Int) * (2 : Int) ^ min (IntKind.u64.wrap i).toNat IntKind.u64.bits)))).snd == (0 : Int)) = false → (sqI p (IntKind.i64.wrap (i - (1 : Int)), x)).triv ((∃ k, k ≤ (41 : Nat) ∧ IntKind.i64.wrap (i - (1 : Int)) = (40 : Car (Kd.int IntKind.i64)) - (↑k : Int) ∧ x = sqK p k) ∧ Int.toNat (IntKind.i64.wrap (i - (1 : Int)) + (1 : Car (Kd.int IntKind.i64))) < Int.toNat (i + (1 : Car (Kd.int IntKind.i64)))))) ∧ (((mlo (bitOp BinOp.or IntKind.u64 x (IntKind.u64.wrap ((1 : Int) * (2 : Int) ^ min (IntKind.u64.wrap i).toNat IntKind.u64.bits))) (bitOp BinOp.or IntKind.u64 x (IntKind.u64.wrap ((1 : Int) * (2 : Int) ^ min (IntKind.u64.wrap i).toNat IntKind.u64.bits)))).fst == p) = false → (sqI p (IntKind.i64.wrap (i - (1 : Int)), x)).triv ((∃ k, k ≤ (41 : Nat) ∧ IntKind.i64.wrap (i - (1 : Int)) = (40 : Car (Kd.int IntKind.i64)) - (↑k : Int) ∧ x = sqK p k) ∧ Int.toNat (IntKind.i64.wrap (i - (1 : Int)) + (1 : Car (Kd.int IntKind.i64))) < Int.toNat (i + (1 : Car (Kd.int IntKind.i64))))))) ∧ (decide (i ≥ (0 : Int)) = false → (sqI p (i, x)).triv (x = sqK p (41 : Nat))))) (by kernel_rfl) ?_
    refine ⟨fun h => ?_, fun h => triv_intro ?_⟩
    · have h0 : 0 ≤ i := dT h
      have hlt : k ≤ 40 := by omega
      have ew : IntKind.u64.wrap i = i := wrap_u64 (by omega) (by omega)
      have et : i.toNat = 40 - k := by omega
      have en : IntKind.i64.wrap (i - 1) = 40 - ((k + 1 : Nat) : Int) := by rw [wrap_i64' (by omega) (by omega)]; omega
      have ey : bitOp BinOp.or IntKind.u64 x (IntKind.u64.wrap (1 * 2 ^ min (40 - k) IntKind.u64.bits)) = sqY x (40 - k) := rfl
      rw [ew, et, en, ey]
      have nx : ∀ z, sqS p k x = z → (∃ k' : Nat, k' ≤ 41 ∧ 40 - ((k + 1 : Nat) : Int) = 40 - (k' : Int) ∧ z = sqK p k') ∧ (40 - ((k + 1 : Nat) : Int) + 1).toNat < (i + 1).toNat := by
        intro z hz
        refine ⟨⟨k + 1, by omega, rfl, ?_⟩, by omega⟩
        show z = sqS p k (sqK p k)
        rw [← hz, kx]
      refine ⟨by omega, trivial, fun h1 => triv_intro (nx _ ?_), fun h1 => ⟨fun h2 => ⟨fun h3 => triv_intro (nx _ ?_), fun h3 => triv_intro (nx _ ?_)⟩, fun h2 => triv_intro (nx _ ?_)⟩⟩
      · rw [sqS, if_pos (.inl (dT h1))]
      · rw [sqS, if_pos (.inr ⟨bT h2, bT h3⟩)]
      · rw [sqS, if_neg (fun c => c.elim (dF h1) fun c => bF h3 c.2)]
      · rw [sqS, if_neg (fun c => c.elim (dF h1) fun c => bF h2 c.1)]
    · have hk2 : k = 41 := by have := dF h; omega
      rw [kx, hk2]
  rintro ⟨i, x⟩ hj
  revert i x
  intro (i : Int) (x : Int) (hj : x = sqK p 41)
  refine tr_vc hsp mixed _ _ ?_
  refine vcx (X := ((IntKind.u32.wrap x, ()) = (sqo p, ()))) (by kernel_rfl) ?_
  rw [hj, sqo, opq_eq]
noncomputable def spSquare : Nat × Eng.Spec := (97, fnSpec [q64] [.val q32] (fun _ => True) (fun (p, _) => (sqo p, ())))
theorem ent_cube : enters Tryd.prog 96 Tryd.f96 := enters_mk (by kernel_rfl) (by kernel_rfl) (by kernel_rfl)
noncomputable def cuM (y : Int) : Int := IntKind.u64.wrap ((mlo (mlo y y).1 y).2 + (mlo (mlo y y).2 y).1)
noncomputable def cuC (y : Int) : Int := if cuM y < (mlo (mlo y y).1 y).2 then IntKind.u64.wrap ((mlo (mlo y y).1 y).1 + 1) else (mlo (mlo y y).1 y).1
noncomputable def cuS (p : Int) (k : Nat) (x : Int) : Int := if cuC (sqY x (36 - k)) = 0 ∧ (cuM (sqY x (36 - k)) < IntKind.u64.wrap (p * 2 ^ min 32 IntKind.u64.bits) ∨ (cuM (sqY x (36 - k)) = IntKind.u64.wrap (p * 2 ^ min 32 IntKind.u64.bits) ∧ (mlo (mlo (sqY x (36 - k)) (sqY x (36 - k))).2 (sqY x (36 - k))).2 = 0)) then sqY x (36 - k) else x
noncomputable def cuK (p : Int) (k : Nat) : Int := it (cuS p) 0 k
noncomputable def cuo (p : Int) : Int := opq (IntKind.u32.wrap (cuK p 37))
noncomputable def cuI (p : Int) (g : Int × Int) : St := mkSt Tryd.f96.ntmps 24 [(0, sI .u64 p), (3, sI .u64 g.2), (4, sI .i64 g.1)] []
theorem fn_cube : FnOk Tryd.prog 96 [q64] [.val q32] noG (fun _ => True) (fun (p, _) => (cuo p, ())) := by
  have hsp : SpecsOk Tryd.prog (sps [spMul]) := sps_cons (fnSpec_ok fn_mul) sps_nil
  refine fn_of_tr (sp := sps [spMul]) ent_cube (by decide) (by decide) (by kernel_rfl) ?_
  rintro w M0 ⟨p, ⟨⟩⟩
  revert p
  intro (p : Int) _ _
  show Tr _ _ _ _ _ _ _
  refine tr_cut hsp mixed 3 (cuI p (36, 0)) True ?_ (fun _ => ?_)
  · refine vcx (X := ((cuI p ((36 : Int), (0 : Int))).triv True)) (by kernel_rfl) ?_
    exact triv_intro trivial
  refine tr_while hsp mixed noSw (fun σ => (rdS (.int .i64) 4 σ, rdS (.int .u64) 3 σ)) (cuI p) (fun g => ∃ k : Nat, k ≤ 37 ∧ g.1 = 36 - (k : Int) ∧ g.2 = cuK p k) (fun g => (g.1 + 1).toNat)
    (fun σ => (rdS (.int .i64) 4 σ, rdS (.int .u64) 3 σ)) (cuI p) (fun g => g.2 = cuK p 37) (36, 0) (c := nthC (codeOf Tryd.f96) 3) (by kernel_rfl) (by kernel_rfl) (le_of_proj (by kernel_rfl) (by kernel_rfl) ?_) ?_ ?_
  · exact ⟨0, by decide, rfl, rfl⟩
  · rintro ⟨i, x⟩ hj
    revert i x
    intro (i : Int) (x : Int) ⟨k, hk, ei, ex⟩
    have ki : i = 36 - (k : Int) := ei
    have kx : x = cuK p k := ex
    refine vcx (X := ((decide (i ≥ (0 : Int)) = true → (0 : Int) ≤ IntKind.u64.wrap i ∧ True ∧ True ∧ True ∧ (decide (IntKind.u64.wrap ((mlo (mlo (bitOp BinOp.or IntKind.u64 x (IntKind.u64.wrap ((1 : Int) * (2 : Int) ^ min (IntKind.u64.wrap i).toNat IntKind.u64.bits))) (bitOp BinOp.or IntKind.u64 x (IntKind.u64.wrap ((1 : Int) * (2 : Int) ^ min (IntKind.u64.wrap i).toNat IntKind.u64.bits)))).fst (bitOp BinOp.or IntKind.u64 x (IntKind.u64.wrap ((1 : Int) * (2 : Int) ^ min (IntKind.u64.wrap i).toNat IntKind.u64.bits)))).snd + (mlo (mlo (bitOp BinOp.or IntKind.u64 x (IntKind.u64.wrap ((1 : Int) * (2 : Int) ^ min (IntKind.u64.wrap i).toNat IntKind.u64.bits))) (bitOp BinOp.or IntKind.u64 x (IntKind.u64.wrap ((1 : Int) * (2 : Int) ^ min (IntKind.u64.wrap i).toNat IntKind.u64.bits)))).snd (bitOp BinOp.or IntKind.u64 x (IntKind.u64.wrap ((1 : Int) * (2 : Int) ^ min (IntKind.u64.wrap i).toNat IntKind.u64.bits)))).fst) < (mlo (mlo (bitOp BinOp.or IntKind.u64 x (IntKind.u64.wrap ((1 : Int) * (2 : Int) ^ min (IntKind.u64.wrap i).toNat IntKind.u64.bits))) (bitOp BinOp.or IntKind.u64 x (IntKind.u64.wrap ((1 : Int) * (2 : Int) ^ min (IntKind.u64.wrap i).toNat IntKind.u64.bits)))).fst (bitOp BinOp.or IntKind.u64 x (IntKind.u64.wrap ((1 : Int) * (2 : Int) ^ min (IntKind.u64.wrap i).toNat IntKind.u64.bits)))).snd) = true → ((IntKind.u64.wrap ((mlo (mlo (bitOp BinOp.or IntKind.u64 x (IntKind.u64.wrap ((1 : Int) * (2 : Int) ^ min (IntKind.u64.wrap i).toNat IntKind.u64.bits))) (bitOp BinOp.or IntKind.u64 x (IntKind.u64.wrap ((1 : Int) * (2 : Int) ^ min (IntKind.u64.wrap i).toNat IntKind.u64.bits)))).fst (bitOp BinOp.or IntKind.u64 x (IntKind.u64.wrap ((1 : Int) * (2 : Int) ^ min (IntKind.u64.wrap i).toNat IntKind.u64.bits)))).fst + (1 : Int)) == (0 : Int)) = true → (0 : Int) ≤ (32 : Int) ∧ (decide (IntKind.u64.wrap ((mlo (mlo (bitOp BinOp.or IntKind.u64 x (IntKind.u64.wrap ((1 : Int) * (2 : Int) ^ min (IntKind.u64.wrap i).toNat IntKind.u64.bits))) (bitOp BinOp.or IntKind.u64 x (IntKind.u64.wrap ((1 : Int) * (2 : Int) ^ min (IntKind.u64.wrap i).toNat IntKind.u64.bits)))).fst (bitOp BinOp.or IntKind.u64 x (IntKind.u64.wrap ((1 : Int) * (2 : Int) ^ min (IntKind.u64.wrap i).toNat IntKind.u64.bits)))).snd + (mlo (mlo (bitOp BinOp.or IntKind.u64 x (IntKind.u64.wrap ((1 : Int) * (2 : Int) ^ min (IntKind.u64.wrap i).toNat IntKind.u64.bits))) (bitOp BinOp.or IntKind.u64 x (IntKind.u64.wrap ((1 : Int) * (2 : Int) ^ min (IntKind.u64.wrap i).toNat IntKind.u64.bits)))).snd (bitOp BinOp.or IntKind.u64 x (IntKind.u64.wrap ((1 : Int) * (2 : Int) ^ min (IntKind.u64.wrap i).toNat IntKind.u64.bits)))).fst) < IntKind.u64.wrap (p * (2 : Int) ^ min (32 : Nat) IntKind.u64.bits)) = true → (cuI p (IntKind.i64.wrap (i - (1 : Int)), bitOp BinOp.or IntKind.u64 x (IntKind.u64.wrap ((1 : Int) * (2 : Int) ^ min (IntKind.u64.wrap i).toNat IntKind.u64.bits)))).triv ((∃ k, k ≤ (37 : Nat) ∧ IntKind.i64.wrap (i - (1 : Int)) = (36 : Car (Kd.int IntKind.i64)) - (↑k : Int) ∧ bitOp BinOp.or IntKind.u64 x (IntKind.u64.wrap ((1 : Int) * (2 : Int) ^ min (IntKind.u64.wrap i).toNat IntKind.u64.bits)) = cuK p k) ∧ Int.toNat (IntKind.i64.wrap (i - (1 : Int)) + (1 : Car (Kd.int IntKind.i64))) < Int.toNat (i + (1 : Car (Kd.int IntKind.i64))))) ∧ (decide (IntKind.u64.wrap ((mlo (mlo (bitOp BinOp.or IntKind.u64 x (IntKind.u64.wrap ((1 : Int) * (2 : Int) ^ min (IntKind.u64.wrap i).toNat IntKind.u64.bits))) (bitOp BinOp.or IntKind.u64 x (IntKind.u64.wrap ((1 : Int) * (2 : Int) ^ min (IntKind.u64.wrap i).toNat IntKind.u64.bits)))).fst (bitOp BinOp.or IntKind.u64 x (IntKind.u64.wrap ((1 : Int) * (2 : Int) ^ min (IntKind.u64.wrap i).toNat IntKind.u64.bits)))).snd + (mlo (mlo (bitOp BinOp.or IntKind.u64 x (IntKind.u64.wrap ((1 : Int) * (2 : Int) ^ min (IntKind.u64.wrap i).toNat IntKind.u64.bits))) (bitOp BinOp.or IntKind.u64 x (IntKind.u64.wrap ((1 : Int) * (2 : Int) ^ min (IntKind.u64.wrap i).toNat IntKind.u64.bits)))).snd (bitOp BinOp.or IntKind.u64 x (IntKind.u64.wrap ((1 : Int) * (2 : Int) ^ min (IntKind.u64.wrap i).toNat IntKind.u64.bits)))).fst) < IntKind.u64.wrap (p * (2 : Int) ^ min (32 : Nat) IntKind.u64.bits)) = false → (0 : Int) ≤ (32 : Int) ∧ ((IntKind.u64.wrap ((mlo (mlo (bitOp BinOp.or IntKind.u64 x (IntKind.u64.wrap ((1 : Int) * (2 : Int) ^ min (IntKind.u64.wrap i).toNat IntKind.u64.bits))) (bitOp BinOp.or IntKind.u64 x (IntKind.u64.wrap ((1 : Int) * (2 : Int) ^ min (IntKind.u64.wrap i).toNat IntKind.u64.bits)))).fst (bitOp BinOp.or IntKind.u64 x (IntKind.u64.wrap ((1 : Int) * (2 : Int) ^ min (IntKind.u64.wrap i).toNat IntKind.u64.bits)))).snd + (mlo (mlo (bitOp BinOp.or IntKind.u64 x (IntKind.u64.wrap ((1 : Int) * (2 : Int) ^ min (IntKind.u64.wrap i).toNat IntKind.u64.bits))) (bitOp BinOp.or IntKind.u64 x (IntKind.u64.wrap ((1 : Int) * (2 : Int) ^ min (IntKind.u64.wrap i).toNat IntKind.u64.bits)))).snd (bitOp BinOp.or IntKind.u64 x (IntKind.u64.wrap ((1 : Int) * (2 : Int) ^ min (IntKind.u64.wrap i).toNat IntKind.u64.bits)))).fst) == IntKind.u64.wrap (p * (2 : Int) ^ min (32 : Nat) IntKind.u64.bits)) = true → (((mlo (mlo (bitOp BinOp.or IntKind.u64 x (IntKind.u64.wrap ((1 : Int) * (2 : Int) ^ min (IntKind.u64.wrap i).toNat IntKind.u64.bits))) (bitOp BinOp.or IntKind.u64 x (IntKind.u64.wrap ((1 : Int) * (2 : Int) ^ min (IntKind.u64.wrap i).toNat IntKind.u64.bits)))).snd (bitOp BinOp.or IntKind.u64 x (IntKind.u64.wrap ((1 : Int) * (2 : Int) ^ min (IntKind.u64.wrap i).toNat IntKind.u64.bits)))).snd == (0 : Int)) = true → (cuI p (IntKind.i64.wrap (i - (1 : Int)), bitOp BinOp.or IntKind.u64 x (IntKind.u64.wrap ((1 : Int) * (2 : Int) ^ min (IntKind.u64.wrap i).toNat IntKind.u64.bits)))).triv ((∃ k, k ≤ (37 : Nat) ∧ IntKind.i64.wrap (i - (1 : Int)) = (36 : Car (Kd.int IntKind.i64)) - (↑k : Int) ∧ bitOp BinOp.or IntKind.u64 x (IntKind.u64.wrap ((1 : Int) * (2 : Int) ^ min (IntKind.u64.wrap i).toNat IntKind.u64.bits)) = cuK p k) ∧ Int.toNat (IntKind.i64.wrap (i - (1 : Int)) + (1 : Car (Kd.int IntKind.i64))) < Int.toNat (i + (1 : Car (Kd.int IntKind.i64))))) ∧ (((mlo (mlo (bitOp BinOp.or IntKind.u64 x (IntKind.u64.wrap ((1 : Int) * (2 : Int) ^ min (IntKind.u64.wrap i).toNat IntKind.u64.bits))) (bitOp BinOp.or IntKind.u64 x (IntKind.u64.wrap ((1 : Int) * (2 : Int) ^ min (IntKind.u64.wrap i).toNat IntKind.u64.bits)))).snd (bitOp BinOp.or IntKind.u64 x (IntKind.u64.wrap ((1 : Int) * (2 : Int) ^ min (IntKind.u64.wrap i).toNat IntKind.u64.bits)))).snd == (0 : Int)) = false → (cuI p (IntKind.i64.wrap (i - (1 : Int)), x)).triv ((∃ k, k ≤ (37 : Nat) ∧ IntKind.i64.wrap (i - (1 : Int)) = (36 : Car (Kd.int IntKind.i64)) - (↑k : Int) ∧ x = cuK p k) ∧ Int.toNat (IntKind.i64.wrap (i - (1 : Int)) + (1 : Car (Kd.int IntKind.i64))) < Int.toNat (i + (1 : Car (Kd.int IntKind.i64)))))) ∧ ((IntKind.u64.wrap ((mlo (mlo (bitOp BinOp.or IntKind.u64 x (IntKind.u64.wrap ((1 : Int) * (2 : Int) ^ min (IntKind.u64.wrap i).toNat IntKind.u64.bits))) (bitOp BinOp.or IntKind.u64 x (IntKind.u64.wrap ((1 : Int) * (2 : Int) ^ min (IntKind.u64.wrap i).toNat IntKind.u64.bits)))).fst (bitOp BinOp.or IntKind.u64 x (IntKind.u64.wrap ((1 : Int) * (2 : Int) ^ min (IntKind.u64.wrap i).toNat IntKind.u64.bits)))).snd + (mlo (mlo (bitOp BinOp.or IntKind.u64 x (IntKind.u64.wrap ((1 : Int) * (2 : Int) ^ min (IntKind.u64.wrap i).toNat IntKind.u64.bits))) (bitOp BinOp.or IntKind.u64 x (IntKind.u64.wrap ((1 : Int) * (2 : Int) ^ min (IntKind.u64.wrap i).toNat IntKind.u64.bits)))).snd (bitOp BinOp.or IntKind.u64 x (IntKind.u64.wrap ((1 : Int) * (2 : Int) ^ min (IntKind.u64.wrap i).toNat IntKind.u64.bits)))).fst) == IntKind.u64.wrap (p * (2 : Int) ^ min (32 : Nat) IntKind.u64.bits)) = false → (cuI p (IntKind.i64.wrap (i - (1 : Int)), x)).triv ((∃ k, k ≤ (37 : Nat) ∧ IntKind.i64.wrap (i - (1 : Int)) = (36 : Car (Kd.int IntKind.i64)) - (↑k : Int) ∧ x = cuK p k) ∧ Int.toNat (IntKind.i64.wrap (i - (1 : Int)) + (1 : Car (Kd.int IntKind.i64))) < Int.toNat (i + (1 : Car (Kd.int IntKind.i64))))))) ∧ ((IntKind.u64.wrap ((mlo (mlo (bitOp BinOp.or IntKind.u64 x (IntKind.u64.wrap ((1 : Int) * (2 : Int) ^ min (IntKind.u64.wrap i).toNat IntKind.u64.bits))) (bitOp BinOp.or IntKind.u64 x (IntKind.u64.wrap ((1 : Int) * (2 : Int) ^ min (IntKind.u64.wrap i).toNat IntKind.u64.bits)))).fst (bitOp BinOp.or IntKind.u64 x (IntKind.u64.wrap ((1 : Int) * (2 : Int) ^ min (IntKind.u64.wrap i).toNat IntKind.u64.bits)))).fst + (1 : Int)) == (0 : Int)) = false → (cuI p (IntKind.i64.wrap (i - (1 : Int)), x)).triv ((∃ k, k ≤ (37 : Nat) ∧ IntKind.i64.wrap (i - (1 : Int)) = (36 : Car (Kd.int IntKind.i64)) - (↑k : Int) ∧ x = cuK p k) ∧ Int.toNat (IntKind.i64.wrap (i - (1 : Int)) + (1 : Car (Kd.int IntKind.i64))) < Int.toNat (i + (1 : Car (Kd.int IntKind.i64)))))) ∧ (decide (IntKind.u64.wrap ((mlo (mlo (bitOp BinOp.or IntKind.u64 x (IntKind.u64.wrap ((1 : Int) * (2 : Int) ^ min (IntKind.u64.wrap i).toNat IntKind.u64.bits))) (bitOp BinOp.or IntKind.u64 x (IntKind.u64.wrap ((1 : Int) * (2 : Int) ^ min (IntKind.u64.wrap i).toNat IntKind.u64.bits)))).fst (bitOp BinOp.or IntKind.u64 x (IntKind.u64.wrap ((1 : Int) * (2 : Int) ^ min (IntKind.u64.wrap i).toNat IntKind.u64.bits)))).snd + (mlo (mlo (bitOp BinOp.or IntKind.u64 x (IntKind.u64.wrap ((1 : Int) * (2 : Int) ^ min (IntKind.u64.wrap i).toNat IntKind.u64.bits))) (bitOp BinOp.or IntKind.u64 x (IntKind.u64.wrap ((1 : Int) * (2 : Int) ^ min (IntKind.u64.wrap i).toNat IntKind.u64.bits)))).snd (bitOp BinOp.or IntKind.u64 x (IntKind.u64.wrap ((1 : Int) * (2 : Int) ^ min (IntKind.u64.wrap i).toNat IntKind.u64.bits)))).fst) < (mlo (mlo (bitOp BinOp.or IntKind.u64 x (IntKind.u64.wrap ((1 : Int) * (2 : Int) ^ min (IntKind.u64.wrap i).toNat IntKind.u64.bits))) (bitOp BinOp.or IntKind.u64 x (IntKind.u64.wrap ((1 : Int) * (2 : Int) ^ min (IntKind.u64.wrap i).toNat IntKind.u64.bits)))).fst (bitOp BinOp.or IntKind.u64 x (IntKind.u64.wrap ((1 : Int) * (2 : Int) ^ min (IntKind.u64.wrap i).toNat IntKind.u64.bits)))).snd) = false → (((mlo (mlo (bitOp BinOp.or IntKind.u64 x (IntKind.u64.wrap ((1 : Int) * (2 : Int) ^ min (IntKind.u64.wrap i).toNat IntKind.u64.bits))) (bitOp BinOp.or IntKind.u64 x (IntKind.u64.wrap ((1 : Int) * (2 : Int) ^ min (IntKind.u64.wrap i).toNat IntKind.u64.bits)))).fst (bitOp BinOp.or IntKind.u64 x (IntKind.u64.wrap ((1 : Int) * (2 : Int) ^ min (IntKind.u64.wrap i).toNat IntKind.u64.bits)))).fst == (0 : Int)) = true → (0 : Int) ≤ (32 : Int) ∧ (decide (IntKind.u64.wrap ((mlo (mlo (bitOp BinOp.or IntKind.u64 x (IntKind.u64.wrap ((1 : Int) * (2 : Int) ^ min (IntKind.u64.wrap i).toNat IntKind.u64.bits))) (bitOp BinOp.or IntKind.u64 x (IntKind.u64.wrap ((1 : Int) * (2 : Int) ^ min (IntKind.u64.wrap i).toNat IntKind.u64.bits)))).fst (bitOp BinOp.or IntKind.u64 x (IntKind.u64.wrap ((1 : Int) * (2 : Int) ^ min (IntKind.u64.wrap i).toNat IntKind.u64.bits)))).snd + (mlo (mlo (bitOp BinOp.or IntKind.u64 x (IntKind.u64.wrap ((1 : Int) * (2 : Int) ^ min (IntKind.u64.wrap i).toNat IntKind.u64.bits))) (bitOp BinOp.or IntKind.u64 x (IntKind.u64.wrap ((1 : Int) * (2 : Int) ^ min (IntKind.u64.wrap i).toNat IntKind.u64.bits)))).snd (bitOp BinOp.or IntKind.u64 x (IntKind.u64.wrap ((1 : Int) * (2 : Int) ^ min (IntKind.u64.wrap i).toNat IntKind.u64.bits)))).fst) < IntKind.u64.wrap (p * (2 : Int) ^ min (32 : Nat) IntKind.u64.bits)) = true → (cuI p (IntKind.i64.wrap (i - (1 : Int)), bitOp BinOp.or IntKind.u64 x (IntKind.u64.wrap ((1 : Int) * (2 : Int) ^ min (IntKind.u64.wrap i).toNat IntKind.u64.bits)))).triv ((∃ k, k ≤ (37 : Nat) ∧ IntKind.i64.wrap (i - (1 : Int)) = (36 : Car (Kd.int IntKind.i64)) - (↑k : Int) ∧ bitOp BinOp.or IntKind.u64 x (IntKind.u64.wrap ((1 : Int) * (2 : Int) ^ min (IntKind.u64.wrap i).toNat IntKind.u64.bits)) = cuK p k) ∧ Int.toNat (IntKind.i64.wrap (i - (1 : Int)) + (1 : Car (Kd.int IntKind.i64))) < Int.toNat (i + (1 : Car (Kd.int IntKind.i64))))) ∧ (decide (IntKind.u64.wrap ((mlo (mlo (bitOp BinOp.or IntKind.u64 x (IntKind.u64.wrap ((1 : Int) * (2 : Int) ^ min (IntKind.u64.wrap i).toNat IntKind.u64.bits))) (bitOp BinOp.or IntKind.u64 x (IntKind.u64.wrap ((1 : Int) * (2 : Int) ^ min (IntKind.u64.wrap i).toNat IntKind.u64.bits)))).fst (bitOp BinOp.or IntKind.u64 x (IntKind.u64.wrap ((1 : Int) * (2 : Int) ^ min (IntKind.u64.wrap i).toNat IntKind.u64.bits)))).snd + (mlo (mlo (bitOp BinOp.or IntKind.u64 x (IntKind.u64.wrap ((1 : Int) * (2 : Int) ^ min (IntKind.u64.wrap i).toNat IntKind.u64.bits))) (bitOp BinOp.or IntKind.u64 x (IntKind.u64.wrap ((1 : Int) * (2 : Int) ^ min (IntKind.u64.wrap i).toNat IntKind.u64.bits)))).snd (bitOp BinOp.or IntKind.u64 x (IntKind.u64.wrap ((1 : Int) * (2 : Int) ^ min (IntKind.u64.wrap i).toNat IntKind.u64.bits)))).fst) < IntKind.u64.wrap (p * (2 : Int) ^ min (32 : Nat) IntKind.u64.bits)) = false → (0 : Int) ≤ (32 : Int) ∧ ((IntKind.u64.wrap ((mlo (mlo (bitOp BinOp.or IntKind.u64 x (IntKind.u64.wrap ((1 : Int) * (2 : Int) ^ min (IntKind.u64.wrap i).toNat IntKind.u64.bits))) (bitOp BinOp.or IntKind.u64 x (IntKind.u64.wrap ((1 : Int) * (2 : Int) ^ min (IntKind.u64.wrap i).toNat IntKind.u64.bits)))).fst (bitOp BinOp.or IntKind.u64 x (IntKind.u64.wrap ((1 : Int) * (2 : Int) ^ min (IntKind.u64.wrap i).toNat IntKind.u64.bits)))).snd + (mlo (mlo (bitOp BinOp.or IntKind.u64 x (IntKind.u64.wrap ((1 : Int) * (2 : Int) ^ min (IntKind.u64.wrap i).toNat IntKind.u64.bits))) (bitOp BinOp.or IntKind.u64 x (IntKind.u64.wrap ((1 : Int) * (2 : Int) ^ min (IntKind.u64.wrap i).toNat IntKind.u64.bits)))).snd (bitOp BinOp.or IntKind.u64 x (IntKind.u64.wrap ((1 : Int) * (2 : Int) ^ min (IntKind.u64.wrap i).toNat IntKind.u64.bits)))).fst) == IntKind.u64.wrap (p * (2 : Int) ^ min (32 : Nat) IntKind.u64.bits)) = true → (((mlo (mlo (bitOp BinOp.or IntKind.u64 x (IntKind.u64.wrap ((1 : Int) * (2 : Int) ^ min (IntKind.u64.wrap i).toNat IntKind.u64.bits))) (bitOp BinOp.or IntKind.u64 x (IntKind.u64.wrap ((1 : Int) * (2 : Int) ^ min (IntKind.u64.wrap i).toNat IntKind.u64.bits)))).snd (bitOp BinOp.or IntKind.u64 x (IntKind.u64.wrap ((1 : Int) * (2 : Int) ^ min (IntKind.u64.wrap i).toNat IntKind.u64.bits)))).snd == (0 : Int)) = true → (cuI p (IntKind.i64.wrap (i - (1 : Int)), bitOp BinOp.or IntKind.u64 x (IntKind.u64.wrap ((1 : Int) * (2 : Int) ^ min (IntKind.u64.wrap i).toNat IntKind.u64.bits)))).triv ((∃ k, k ≤ (37 : Nat) ∧ IntKind.i64.wrap (i - (1 : Int)) = (36 : Car (Kd.int IntKind.i64)) - (↑k : Int) ∧ bitOp BinOp.or IntKind.u64 x (IntKind.u64.wrap ((1 : Int) * (2 : Int) ^ min (IntKind.u64.wrap i).toNat IntKind.u64.bits)) = cuK p k) ∧ Int.toNat (IntKind.i64.wrap (i - (1 : Int)) + (1 : Car (Kd.int IntKind.i64))) < Int.toNat (i + (1 : Car (Kd.int IntKind.i64))))) ∧ (((mlo (mlo (bitOp BinOp.or IntKind.u64 x (IntKind.u64.wrap ((1 : Int) * (2 : Int) ^ min (IntKind.u64.wrap i).toNat IntKind.u64.bits))) (bitOp BinOp.or IntKind.u64 x (IntKind.u64.wrap ((1 : Int) * (2 : Int) ^ min (IntKind.u64.wrap i).toNat IntKind.u64.bits)))).snd (bitOp BinOp.or IntKind.u64 x (IntKind.u64.wrap ((1 : Int) * (2 : Int) ^ min (IntKind.u64.wrap i).toNat IntKind.u64.bits)))).snd == (0 : Int)) = false → (cuI p (IntKind.i64.wrap (i - (1 : Int)), x)).triv ((∃ k, k ≤ (37 : Nat) ∧ IntKind.i64.wrap (i - (1 : Int)) = (36 : Car (Kd.int IntKind.i64)) - (↑k : Int) ∧ x = cuK p k) ∧ Int.toNat (IntKind.i64.wrap (i - (1 : Int)) + (1 : Car (Kd.int IntKind.i64))) < Int.toNat (i + (1 : Car (Kd.int IntKind.i64)))))) ∧ ((IntKind.u64.wrap ((mlo (mlo (bitOp BinOp.or IntKind.u64 x (IntKind.u64.wrap ((1 : Int) * (2 : Int) ^ min (IntKind.u64.wrap i).toNat IntKind.u64.bits))) (bitOp BinOp.or IntKind.u64 x (IntKind.u64.wrap ((1 : Int) * (2 : Int) ^ min (IntKind.u64.wrap i).toNat IntKind.u64.bits)))).fst (bitOp BinOp.or IntKind.u64 x (IntKind.u64.wrap ((1 : Int) * (2 : Int) ^ min (IntKind.u64.wrap i).toNat IntKind.u64.bits)))).snd + (mlo (mlo (bitOp BinOp.or IntKind.u64 x (IntKind.u64.wrap ((1 : Int) * (2 : Int) ^ min (IntKind.u64.wrap i).toNat IntKind.u64.bits))) (bitOp BinOp.or IntKind.u64 x (IntKind.u64.wrap ((1 : Int) * (2 : Int) ^ min (IntKind.u64.wrap i).toNat IntKind.u64.bits)))).snd (bitOp BinOp.or IntKind.u64 x (IntKind.u64.wrap ((1 : Int) * (2 : Int) ^ min (IntKind.u64.wrap i).toNat IntKind.u64.bits)))).fst) == IntKind.u64.wrap (p * (2 : Int) ^ min (32 : Nat) IntKind.u64.bits)) = false → (cuI p (IntKind.i64.wrap (i - (1 : Int)), x)).triv ((∃ k, k ≤ (37 : Nat) ∧ IntKind.i64.wrap (i - (1 : Int)) = (36 : Car (Kd.int IntKind.i64)) - (↑k : Int) ∧ x = cuK p k) ∧ Int.toNat (IntKind.i64.wrap (i - (1 : Int)) + (1 : Car (Kd.int IntKind.i64))) < Int.toNat (i + (1 : Car (Kd.int IntKind.i64))))))) ∧ (((mlo (mlo (bitOp BinOp.or IntKind.u64 x (IntKind.u64.wrap ((1 : Int) * (2 : Int) ^ min (IntKind.u64.wrap i).toNat IntKind.u64.bits))) (bitOp BinOp.or IntKind.u64 x (IntKind.u64.wrap ((1 : Int) * (2 : Int) ^ min (IntKind.u64.wrap i).toNat IntKind.u64.bits)))).fst (bitOp BinOp.or IntKind.u64 x (IntKind.u64.wrap ((1 : Int) * (2 : Int) ^ min (IntKind.u64.wrap i).toNat IntKind.u64.bits)))).fst == (0 : Int)) = false → (cuI p (IntKind.i64.wrap (i - (1 : Int)), x)).triv ((∃ k, k ≤ (37 : Nat) ∧ IntKind.i64.wrap (i - (1 : Int)) = (36 : Car (Kd.int IntKind.i64)) - (↑k : Int) ∧ x = cuK p k) ∧ Int.toNat (IntKind.i64.wrap (i - (1 : Int)) + (1 : Car (Kd.int IntKind.i64))) < Int.toNat (i + (1 : Car (Kd.int IntKind.i64))))))) ∧ (decide (i ≥ (0 : Int)) = false → (cuI p (i, x)).triv (x = cuK p (37 : Nat))))) (by kernel_rfl) ?_
    refine ⟨fun h => ?_, fun h => triv_intro ?_⟩
    · have h0 : 0 ≤ i := dT h
      have hlt : k ≤ 36 := by omega
      have ew : IntKind.u64.wrap i = i := wrap_u64 (by omega) (by omega)
      have et : i.toNat = 36 - k := by omega
      have en : IntKind.i64.wrap (i - 1) = 36 - ((k + 1 : Nat) : Int) := by rw [wrap_i64' (by omega) (by omega)]; omega
      have ey : bitOp BinOp.or IntKind.u64 x (IntKind.u64.wrap (1 * 2 ^ min (36 - k) IntKind.u64.bits)) = sqY x (36 - k) := rfl
      rw [ew, et, en, ey]
      have nx : ∀ z, cuS p k x = z → (∃ k' : Nat, k' ≤ 37 ∧ 36 - ((k + 1 : Nat) : Int) = 36 - (k' : Int) ∧ z = cuK p k') ∧ (36 - ((k + 1 : Nat) : Int) + 1).toNat < (i + 1).toNat := by
        intro z hz
        refine ⟨⟨k + 1, by omega, rfl, ?_⟩, by omega⟩
        show z = cuS p k (cuK p k)
        rw [← hz, kx]
      obtain ⟨y, hy⟩ : ∃ y, y = sqY x (36 - k) := ⟨_, rfl⟩
      rw [← hy]
      have em : IntKind.u64.wrap ((mlo (mlo y y).1 y).2 + (mlo (mlo y y).2 y).1) = cuM y := rfl
      rw [em]
      obtain ⟨W, hW⟩ : ∃ W, W = IntKind.u64.wrap (p * 2 ^ min 32 IntKind.u64.bits) := ⟨_, rfl⟩
      rw [← hW]
      have c1 : cuM y < (mlo (mlo y y).1 y).2 → cuC y = IntKind.u64.wrap ((mlo (mlo y y).1 y).1 + 1) := fun h => by rw [cuC, if_pos h]
      have c2 : ¬ cuM y < (mlo (mlo y y).1 y).2 → cuC y = (mlo (mlo y y).1 y).1 := fun h => by rw [cuC, if_neg h]
      have pos : cuC y = 0 → (cuM y < W ∨ (cuM y = W ∧ (mlo (mlo y y).2 y).2 = 0)) → cuS p k x = y := fun a b => by rw [cuS, ← hy, ← hW, if_pos ⟨a, b⟩]
      have neg : ¬ (cuC y = 0 ∧ (cuM y < W ∨ (cuM y = W ∧ (mlo (mlo y y).2 y).2 = 0))) → cuS p k x = x := fun a => by rw [cuS, ← hy, ← hW, if_neg a]
      refine ⟨by omega, trivial, trivial, trivial, fun h1 => ⟨fun h2 => ⟨by decide, fun h3 => triv_intro (nx _ (pos ((c1 (dT h1)).trans (bT h2)) (.inl (dT h3)))), fun h3 => ⟨by decide, fun h4 => ⟨fun h5 => triv_intro (nx _ (pos ((c1 (dT h1)).trans (bT h2)) (.inr ⟨bT h4, bT h5⟩))), fun h5 => triv_intro (nx _ (neg fun c => c.2.elim (dF h3) fun d => bF h5 d.2))⟩, fun h4 => triv_intro (nx _ (neg fun c => c.2.elim (dF h3) fun d => bF h4 d.1))⟩⟩, fun h2 => triv_intro (nx _ (neg fun c => bF h2 ((c1 (dT h1)).symm.trans c.1)))⟩,
        fun h1 => ⟨fun h2 => ⟨by decide, fun h3 => triv_intro (nx _ (pos ((c2 (dF h1)).trans (bT h2)) (.inl (dT h3)))), fun h3 => ⟨by decide, fun h4 => ⟨fun h5 => triv_intro (nx _ (pos ((c2 (dF h1)).trans (bT h2)) (.inr ⟨bT h4, bT h5⟩))), fun h5 => triv_intro (nx _ (neg fun c => c.2.elim (dF h3) fun d => bF h5 d.2))⟩, fun h4 => triv_intro (nx _ (neg fun c => c.2.elim (dF h3) fun d => bF h4 d.1))⟩⟩, fun h2 => triv_intro (nx _ (neg fun c => bF h2 ((c2 (dF h1)).symm.trans c.1)))⟩⟩
    · have hk2 : k = 37 := by have := dF h; omega
      rw [kx, hk2]
  rintro ⟨i, x⟩ hj
  revert i x
  intro (i : Int) (x : Int) (hj : x = cuK p 37)
  refine tr_vc hsp mixed _ _ ?_
  refine vcx (X := ((IntKind.u32.wrap x, ()) = (cuo p, ()))) (by kernel_rfl) ?_
  rw [hj, cuo, opq_eq]
noncomputable def spCube : Nat × Eng.Spec := (96, fnSpec [q64] [.val q32] (fun _ => True) (fun (p, _) => (cuo p, ())))
end Go.Proofs.YtbfimfdhmggieaaDoor.ref01
/- ref01: Primes. -/
namespace Go.Proofs.YtbfimfdhmggieaaDoor.ref01
set_option maxRecDepth 100000
open Go Go.Eng Go.RowKit Cr Go.Proofs.YtbfimfdhmggieaaDoor
/-- Is a number divided by none of these? -/
def prA (x : Int) (l : List Int) : Bool := l.all fun y => !decide (x.tmod y = 0)
def prS (k : Nat) (l : List Int) : List Int := match prA ((k : Int) + 2) l with
  | true => l ++ [(k : Int) + 2]
  | false => l
def prK (k : Nat) : List Int := it prS [] k
noncomputable def prC (k : Nat) : List Int := itC prS [] k
def p64 : List Int := [2, 3, 5, 7, 11, 13, 17, 19, 23, 29, 31, 37, 41, 43, 47, 53, 59, 61, 67, 71, 73, 79, 83, 89, 97, 101, 103, 107, 109, 113, 127, 131, 137, 139, 149, 151, 157, 163, 167, 173, 179, 181, 191, 193, 197, 199, 211, 223, 227, 229, 233, 239, 241, 251, 257, 263, 269, 271, 277, 281, 283, 293, 307, 311]
theorem prC_eq (k : Nat) : prC k = prK k := itC_eq _ _ _
theorem prK_309 : (prK 309).length = 63 := by
  rw [← prC_eq]; exact of_decide_eq_true (by kernel_rfl)
theorem prK_310 : prK 310 = p64 := by
  rw [← prC_eq]; exact of_decide_eq_true (by kernel_rfl)
theorem prK_mono (k : Nat) : (prK k).length ≤ (prK (k + 1)).length := by
  show _ ≤ (prS k (prK k)).length
  unfold prS
  split
  · rw [List.length_append]; omega
  · exact Nat.le_refl _
theorem prK_le {j k : Nat} (h : j ≤ k) : (prK j).length ≤ (prK k).length := by
  induction k with
  | zero => have : j = 0 := by omega
            rw [this]; exact Nat.le_refl _
  | succ k ih =>
    by_cases e : j = k + 1
    · rw [e]; exact Nat.le_refl _
    · exact Nat.le_trans (ih (by omega)) (prK_mono k)
theorem prK_bd : ∀ k, ∀ y ∈ prK k, 2 ≤ y ∧ y < (k : Int) + 2
  | 0 => fun y hy => by cases hy
  | k + 1 => by
    intro y hy
    have h : y ∈ prS k (prK k) := hy
    unfold prS at h
    split at h
    · rcases List.mem_append.1 h with h | h
      · have := prK_bd k y h; omega
      · have h : y = (k : Int) + 2 := by simpa using h
        omega
    · have := prK_bd k y h; omega
theorem prA_snoc (x y : Int) (l : List Int) : prA x (l ++ [y]) = (prA x l && !decide (x.tmod y = 0)) := by
  unfold prA
  rw [List.all_append]
  simp
theorem ent_primes : enters Tryd.prog 95 Tryd.f95 := enters_mk (by kernel_rfl) (by kernel_rfl) (by kernel_rfl)
noncomputable def prI (g : Int × Nat × List Int) : St := mkSt Tryd.f95.ntmps 32 [(0, sI .i64 64), (3, .is (.one (.sl 8 0 0 g.2.1 1))), (4, sI .u64 g.1)] [(8, [.ints .u64 g.2.1 g.2.2])]
noncomputable def prN (x : Int) (L : Nat) (l : List Int) (g : Int × Bool) : St := mkSt Tryd.f95.ntmps 32 [(0, sI .i64 64), (3, .is (.one (.sl 8 0 0 L 1))), (4, sI .u64 x), (5, .is (.one (.v (.bool g.2)))), (15, sI .i64 L), (16, sI .i64 g.1)] [(8, [.ints .u64 L l])]
theorem fn_primes : FnOk Tryd.prog 95 [.int .i64] [.own q64] noG (fun (n, _) => n = (64 : Int)) (fun _ => (p64, ())) := by
  have hsp : SpecsOk Tryd.prog (sps []) := sps_nil
  refine fn_of_tr (sp := sps []) ent_primes (by decide) (by decide) (by kernel_rfl) ?_
  rintro w M0 ⟨n, ⟨⟩⟩
  revert n
  intro (n : Int) _ hn
  have hn : n = 64 := hn
  subst hn
  show Tr _ _ _ _ _ _ _
  refine tr_cut hsp mixed 3 (prI (2, 0, [])) True ?_ (fun _ => ?_)
  · refine vcx (X := ((prI ((2 : Int), (0 : Nat), [])).triv True)) (by kernel_rfl) ?_
    exact triv_intro trivial
  refine tr_whileT (fun σ => [(8, rdI 3 σ)]) (fun σ => (rdS (.int .u64) 4 σ, rdL 3 σ, rdR q64 8 σ)) prI (fun g => ∃ k : Nat, k ≤ 310 ∧ g.1 = (k : Int) + 2 ∧ g.2.1 = (prK k).length ∧ g.2.2 = prK k) (fun g => 312 - g.1.toNat)
    (fun σ => (rdS (.int .u64) 4 σ, rdL 3 σ, rdR q64 8 σ)) prI (fun g => g.2.1 = 64 ∧ g.2.2 = p64) (2, 0, []) (c := nthC (codeOf Tryd.f95) 3) (by kernel_rfl) (by kernel_rfl) (le_of_proj (by kernel_rfl) (by kernel_rfl) ?_) ?_ ?_
  · exact ⟨0, by decide, rfl, rfl, rfl⟩
  · rintro ⟨x, L, l⟩ hj
    revert x l
    intro (x : Int) (l : List Int) ⟨k, hk, ex, eL, el⟩
    have kx : x = (k : Int) + 2 := ex
    have kL : L = (prK k).length := eL
    have kl : l = prK k := el
    refine tr_cut hsp mixed 2 (prI (x, L, l)) (k < 310) ?_ (fun hlt => ?_)
    · refine vcx (X := ((decide ((↑L : Int) < (64 : Int)) = true → (prI (x, L, l)).triv (k < (310 : Nat))) ∧ (decide ((↑L : Int) < (64 : Int)) = false → (prI (x, L, l)).triv (L = (64 : Nat) ∧ l = p64)))) (by kernel_rfl) ?_
      have hl1 := prK_le (show k ≤ 310 by omega)
      rw [prK_310] at hl1
      have h64 : (p64).length = 64 := rfl
      refine ⟨fun h => triv_intro ?_, fun h => triv_intro ?_⟩
      · have h1 : (L : Int) < 64 := dT h
        by_cases e : k = 310
        · rw [e, prK_310, h64] at kL; omega
        · omega
      · have h1 : ¬ (L : Int) < 64 := dF h
        have e : k = 310 := by
          by_cases e : k = 310
          · exact e
          · have h2 := prK_le (show k ≤ 309 by omega)
            rw [prK_309] at h2; omega
        exact ⟨by omega, by rw [kl, e, prK_310]⟩
    refine tr_block (c := nthC (loopOf (nthC (codeOf Tryd.f95) 3)) 2) (by kernel_rfl) (by kernel_rfl) ?_
    refine tr_cutB hsp mixed 2 5 (fun σ => rdS .bool 5 σ) (fun b => prN x L l (0, b)) (fun b => b = true) ?_ ?_
    · refine vcx (X := ((prN x L l ((0 : Int), true)).triv (true = true))) (by kernel_rfl) ?_
      exact triv_intro rfl
    rintro b0 hb0
    revert b0
    intro (b0 : Bool) (hb0 : b0 = true)
    refine tr_whileT noSw (fun σ => (rdS (.int .i64) 16 σ, rdS .bool 5 σ)) (prN x L l) (fun g => ∃ j : Nat, j ≤ L ∧ g.1 = (j : Int) ∧ g.2 = prA x (l.take j)) (fun g => L - g.1.toNat)
      (fun σ => (rdS (.int .i64) 16 σ, rdS .bool 5 σ)) (prN x L l) (fun g => g.2 = prA x l) (0, b0) (c := nthC (bodyOf (nthC (loopOf (nthC (codeOf Tryd.f95) 3)) 2)) 2) (by kernel_rfl) (by kernel_rfl) (le_of_proj (by kernel_rfl) (by kernel_rfl) ?_) ?_ ?_
    · exact ⟨0, Nat.zero_le _, rfl, hb0⟩
    · rintro ⟨j, b⟩ hj
      revert j b
      intro (j : Int) (b : Bool) ⟨t, ht, ej, eb⟩
      have kj : j = (t : Int) := ej
      have kb : b = prA x (l.take t) := eb
      subst kj
      refine tr_cut hsp mixed 2 (prN x L l ((t : Int), b)) (t < L) ?_ (fun hlt2 => ?_)
      · refine vcx (X := ((decide ((↑t : Int) < (↑L : Int)) = true → (prN x L l ((↑t : Int), b)).triv (t < L)) ∧ (decide ((↑t : Int) < (↑L : Int)) = false → (prN x L l ((↑t : Int), b)).triv (b = prA x l)))) (by kernel_rfl) ?_
        refine ⟨fun h => triv_intro (by have := dT h; omega), fun h => triv_intro ?_⟩
        have e : t = L := by have := dF h; omega
        rw [kb, e, kL, kl, List.take_length]
      refine tr_block (c := nthC (loopOf (nthC (bodyOf (nthC (loopOf (nthC (codeOf Tryd.f95) 3)) 2)) 2)) 2) (by kernel_rfl) (by kernel_rfl) ?_
      refine tr_cutB hsp mixed 3 5 (fun σ => rdS .bool 5 σ) (fun b => prN x L l ((t : Int), b)) (fun b => b = prA x (l.take (t + 1))) ?_ ?_
      · refine vcx (X := (((0 : Int) ≤ (↑t : Int) ∧ (↑t : Int) < (↑L : Int)) ∧ (↑t : Int).toNat < L ∧ (l.getD (↑t : Int).toNat (0 : Int) = (0 : Int) → False) ∧ ((x.tmod (l.getD (↑t : Int).toNat (0 : Int)) == (0 : Int)) = true → (prN x L l ((↑t : Int), false)).triv (false = prA x (List.take (t + (1 : Nat)) l))) ∧ ((x.tmod (l.getD (↑t : Int).toNat (0 : Int)) == (0 : Int)) = false → (prN x L l ((↑t : Int), b)).triv (b = prA x (List.take (t + (1 : Nat)) l))))) (by kernel_rfl) ?_
        simp only [Int.toNat_natCast]
        have hlen : t < l.length := by rw [kl]; omega
        obtain ⟨y, hy⟩ : ∃ y, y = l.getD t 0 := ⟨_, rfl⟩
        have ey : l.getD t 0 = l[t] := by rw [List.getD_eq_getElem?_getD, List.getElem?_eq_getElem hlen]; rfl
        have ybd : 2 ≤ y := (prK_bd k y (by rw [hy, ey, ← kl]; exact List.getElem_mem hlen)).1
        have es : l.take (t + 1) = l.take t ++ [y] := by rw [List.take_succ_eq_append_getElem hlen, hy, ey]
        rw [← hy, es, prA_snoc, ← kb]
        refine ⟨⟨by omega, by omega⟩, hlt2, by omega, fun h => triv_intro ?_, fun h => triv_intro ?_⟩
        · rw [decide_eq_true (bT h)]; simp
        · rw [decide_eq_false (bF h)]; simp
      rintro b1 hb1
      revert b1
      intro (b1 : Bool) (hb1 : b1 = prA x (l.take (t + 1)))
      refine tr_nil ?_
      refine tr_vc hsp mixed _ _ ?_
      refine vcx (X := ((prN x L l (IntKind.i64.wrap ((↑t : Int) + (1 : Int)), b1)).triv ((∃ j, j ≤ L ∧ IntKind.i64.wrap ((↑t : Int) + (1 : Int)) = (↑j : Int) ∧ b1 = prA x (List.take j l)) ∧ L - (IntKind.i64.wrap ((↑t : Int) + (1 : Int))).toNat < L - (↑t : Int).toNat))) (by kernel_rfl) ?_
      rw [wrap_succ (by have := prK_le (show k ≤ 310 by omega); rw [prK_310] at this; have h64 : (p64).length = 64 := rfl; omega)]
      refine triv_intro ⟨⟨t + 1, hlt2, rfl, hb1⟩, ?_⟩
      rw [Int.toNat_natCast, Int.toNat_natCast]; omega
    rintro ⟨j, b⟩ hj
    revert j b
    intro (j : Int) (b : Bool) (hb : b = prA x l)
    refine tr_cutSF hsp mixed 2 (fun σ => [(8, rdI 3 σ)]) (fun σ => (rdL 3 σ, rdR q64 8 σ)) (fun g => prI (x, g.1, g.2)) (fun g => g.1 = (prK (k + 1)).length ∧ g.2 = prK (k + 1)) ?_ ?_
    · refine vcx (X := ((b = true → (0 : Nat) + (1 : Nat) ≤ (1 : Nat) ∧ L ≤ L ∧ (L + (1 : Nat)) * (8 : Nat) ≤ (140737488355328 : Nat) ∧ L + (1 : Nat) ≤ (4611686018427387904 : Nat) ∧ (prI (x, (L + (1 : Nat), List.take L l ++ List.take (1 : Nat) [x]).fst, (L + (1 : Nat), List.take L l ++ List.take (1 : Nat) [x]).snd)).triv (L + (1 : Nat) = (prK (k + (1 : Nat))).length ∧ List.take L l ++ List.take (1 : Nat) [x] = prK (k + (1 : Nat)))) ∧ (b = false → (prI (x, (L, l).fst, (L, l).snd)).triv (L = (prK (k + (1 : Nat))).length ∧ l = prK (k + (1 : Nat)))))) (by kernel_rfl) ?_
      have h64 : (p64).length = 64 := rfl
      have hl1 := prK_le (show k ≤ 310 by omega)
      rw [prK_310] at hl1
      have ll : l.length = L := by rw [kl, kL]
      have nx : prK (k + 1) = prS k (prK k) := rfl
      refine ⟨fun h => ⟨Nat.le_refl _, Nat.le_refl _, by omega, by omega, triv_intro ?_⟩, fun h => triv_intro ?_⟩
      · have e : prK (k + 1) = l ++ [x] := by
          rw [nx, prS, ← kl, ← kx, ← hb, h]
        rw [e, List.take_of_length_le (by omega)]
        exact ⟨by rw [List.length_append, ll]; rfl, rfl⟩
      · have e : prK (k + 1) = l := by
          rw [nx, prS, ← kl, ← kx, ← hb, h]
        rw [e]
        exact ⟨ll.symm, rfl⟩
    rintro ⟨L2, l2⟩ hj
    revert l2
    intro (l2 : List Int) ⟨hL2, hl2⟩
    have hL2 : L2 = (prK (k + 1)).length := hL2
    have hl2 : l2 = prK (k + 1) := hl2
    refine tr_nil ?_
    refine tr_vc hsp mixed _ _ ?_
    refine vcx (X := ((prI (IntKind.u64.wrap (x + (1 : Int)), L2, l2)).triv ((∃ k, k ≤ (310 : Nat) ∧ IntKind.u64.wrap (x + (1 : Int)) = (↑k : Int) + (2 : Car (Kd.int IntKind.u64)) ∧ L2 = (prK k).length ∧ l2 = prK k) ∧ (312 : Nat) - (IntKind.u64.wrap (x + (1 : Int))).toNat < (312 : Nat) - x.toNat))) (by kernel_rfl) ?_
    have ew : IntKind.u64.wrap (x + 1) = ((k + 1 : Nat) : Int) + 2 := by rw [wrap_u64 (by omega) (by omega)]; omega
    rw [ew]
    exact triv_intro ⟨⟨k + 1, hlt, rfl, hL2, hl2⟩, by omega⟩
  rintro ⟨x, L, l⟩ hj
  revert x l
  intro (x : Int) (l : List Int) ⟨hL, hl⟩
  have hL : L = 64 := hL
  have hl : l = p64 := hl
  refine tr_vc hsp mixed _ _ ?_
  refine vcx (X := ((0 : Nat) + L ≤ L ∧ (List.take L l, ()) = (p64, ()))) (by kernel_rfl) ?_
  rw [hl, hL]
  exact ⟨by decide, rfl⟩
end Go.Proofs.YtbfimfdhmggieaaDoor.ref01
/- ref01: its constants are the package's; words, rotations. -/
namespace Go.Proofs.YtbfimfdhmggieaaDoor.ref01
set_option maxRecDepth 100000
open Go Go.Eng Go.RowKit Cr Go.Proofs.YtbfimfdhmggieaaDoor Go.Proofs.YtbfimfdhmggieaaDoor.sha
noncomputable def itI (f : Nat → Int → Int) (s : Int) : Nat → Int
  | 0 => s
  | k + 1 => fi (itI f s k) fun x => fi (f k x) fun y => y
theorem itI_eq (f : Nat → Int → Int) (s : Int) : ∀ k, itI f s k = it f s k
  | 0 => rfl
  | k + 1 => by show fi _ _ = f k _; rw [fi_eq, fi_eq, itI_eq f s k]
noncomputable def sqC (p : Int) (k : Nat) (x : Int) : Int := fi (sqY x (40 - k)) fun y => fi (mlH y y) fun h => fi (mlO y y) fun l => bif decide (h < p) || (decide (h = p) && decide (l = 0)) then y else x
theorem sqC_eq (p : Int) (k : Nat) (x : Int) : sqC p k x = sqS p k x := by
  rw [sqC, sqS]
  simp only [fi_eq, mlo, opq_eq]
  by_cases h : mlH (sqY x (40 - k)) (sqY x (40 - k)) < p ∨ mlH (sqY x (40 - k)) (sqY x (40 - k)) = p ∧ mlO (sqY x (40 - k)) (sqY x (40 - k)) = 0
  · rw [if_pos h]
    have e : (decide (mlH (sqY x (40 - k)) (sqY x (40 - k)) < p) || (decide (mlH (sqY x (40 - k)) (sqY x (40 - k)) = p) && decide (mlO (sqY x (40 - k)) (sqY x (40 - k)) = 0))) = true := by simpa using h
    rw [e]; rfl
  · rw [if_neg h]
    have e : (decide (mlH (sqY x (40 - k)) (sqY x (40 - k)) < p) || (decide (mlH (sqY x (40 - k)) (sqY x (40 - k)) = p) && decide (mlO (sqY x (40 - k)) (sqY x (40 - k)) = 0))) = false := by simpa using h
    rw [e]; rfl
theorem sqo_eq (p : Int) : sqo p = IntKind.u32.wrap (itI (sqC p) 0 41) := by
  have e : sqC p = sqS p := by funext k x; exact sqC_eq p k x
  rw [sqo, opq_eq, sqK, e, itI_eq]
noncomputable def cuT (p : Int) (k : Nat) (x : Int) : Int := fi (sqY x (36 - k)) fun y => fi (mlH y y) fun h => fi (mlO y y) fun l => fi (mlH l y) fun a => fi (mlO l y) fun b => fi (mlH h y) fun c => fi (mlO h y) fun d => fi (IntKind.u64.wrap (d + a)) fun m => fi (bif decide (m < d) then IntKind.u64.wrap (c + 1) else c) fun c => fi (IntKind.u64.wrap (p * 2 ^ min 32 IntKind.u64.bits)) fun W =>
  bif decide (c = 0) && (decide (m < W) || (decide (m = W) && decide (b = 0))) then y else x
theorem bif_if {c : Prop} [Decidable c] (x y : Int) : (bif decide c then x else y) = if c then x else y := by
  by_cases h : c
  · rw [if_pos h, decide_eq_true h]; rfl
  · rw [if_neg h, decide_eq_false h]; rfl
theorem cuT_eq (p : Int) (k : Nat) (x : Int) : cuT p k x = cuS p k x := by
  rw [cuT, cuS, cuC, cuM]
  simp only [fi_eq, mlo, opq_eq, bif_if]
  generalize sqY x (36 - k) = y
  generalize (if IntKind.u64.wrap (mlO (mlH y y) y + mlH (mlO y y) y) < mlO (mlH y y) y then IntKind.u64.wrap (mlH (mlH y y) y + 1) else mlH (mlH y y) y) = c
  by_cases h : c = 0 ∧ (IntKind.u64.wrap (mlO (mlH y y) y + mlH (mlO y y) y) < IntKind.u64.wrap (p * 2 ^ min 32 IntKind.u64.bits) ∨ IntKind.u64.wrap (mlO (mlH y y) y + mlH (mlO y y) y) = IntKind.u64.wrap (p * 2 ^ min 32 IntKind.u64.bits) ∧ mlO (mlO y y) y = 0)
  · rw [if_pos h]
    have e : (decide (c = 0) && (decide (IntKind.u64.wrap (mlO (mlH y y) y + mlH (mlO y y) y) < IntKind.u64.wrap (p * 2 ^ min 32 IntKind.u64.bits)) || (decide (IntKind.u64.wrap (mlO (mlH y y) y + mlH (mlO y y) y) = IntKind.u64.wrap (p * 2 ^ min 32 IntKind.u64.bits)) && decide (mlO (mlO y y) y = 0)))) = true := by simpa using h
    rw [e]; rfl
  · rw [if_neg h]
    have e : (decide (c = 0) && (decide (IntKind.u64.wrap (mlO (mlH y y) y + mlH (mlO y y) y) < IntKind.u64.wrap (p * 2 ^ min 32 IntKind.u64.bits)) || (decide (IntKind.u64.wrap (mlO (mlH y y) y + mlH (mlO y y) y) = IntKind.u64.wrap (p * 2 ^ min 32 IntKind.u64.bits)) && decide (mlO (mlO y y) y = 0)))) = false := by
      rw [Bool.eq_false_iff]
      intro e
      exact h (by simpa using e)
    rw [e]; rfl
theorem cuo_eq (p : Int) : cuo p = IntKind.u32.wrap (itI (cuT p) 0 37) := by
  have e : cuT p = cuS p := by funext k x; exact cuT_eq p k x
  rw [cuo, opq_eq, cuK, e, itI_eq]
theorem k_all : p64.map (fun p => IntKind.u32.wrap (itI (cuT p) 0 37)) = rootsL := of_decide_eq_true (by kernel_rfl)
theorem h_all : (p64.take 8).map (fun p => IntKind.u32.wrap (itI (sqC p) 0 41)) = firstL := of_decide_eq_true (by kernel_rfl)
theorem roots_p : p64.map cuo = rootsL := by
  rw [← k_all]; exact List.map_congr_left fun p _ => cuo_eq p
theorem first_p : (p64.take 8).map sqo = firstL := by
  rw [← h_all]; exact List.map_congr_left fun p _ => sqo_eq p
theorem or_cm (a b : Int) : bitOp .or .u32 a b = bitOp .or .u32 b a := by
  show IntKind.u32.wrap ((BitVec.ofInt IntKind.u32.bits a ||| BitVec.ofInt IntKind.u32.bits b).toNat : Int) = IntKind.u32.wrap ((BitVec.ofInt IntKind.u32.bits b ||| BitVec.ofInt IntKind.u32.bits a).toNat : Int)
  rw [BitVec.or_comm]
theorem tn_2 (x : Int) : tno x 2 = rot x (-2) := by rw [tno, opq_eq, tnF, or_cm, rot, opq_eq]; rfl
theorem tn_6 (x : Int) : tno x 6 = rot x (-6) := by rw [tno, opq_eq, tnF, or_cm, rot, opq_eq]; rfl
theorem tn_7 (x : Int) : tno x 7 = rot x (-7) := by rw [tno, opq_eq, tnF, or_cm, rot, opq_eq]; rfl
theorem tn_11 (x : Int) : tno x 11 = rot x (-11) := by rw [tno, opq_eq, tnF, or_cm, rot, opq_eq]; rfl
theorem tn_13 (x : Int) : tno x 13 = rot x (-13) := by rw [tno, opq_eq, tnF, or_cm, rot, opq_eq]; rfl
theorem tn_17 (x : Int) : tno x 17 = rot x (-17) := by rw [tno, opq_eq, tnF, or_cm, rot, opq_eq]; rfl
theorem tn_18 (x : Int) : tno x 18 = rot x (-18) := by rw [tno, opq_eq, tnF, or_cm, rot, opq_eq]; rfl
theorem tn_19 (x : Int) : tno x 19 = rot x (-19) := by rw [tno, opq_eq, tnF, or_cm, rot, opq_eq]; rfl
theorem tn_22 (x : Int) : tno x 22 = rot x (-22) := by rw [tno, opq_eq, tnF, or_cm, rot, opq_eq]; rfl
theorem tn_25 (x : Int) : tno x 25 = rot x (-25) := by rw [tno, opq_eq, tnF, or_cm, rot, opq_eq]; rfl
end Go.Proofs.YtbfimfdhmggieaaDoor.ref01
/- ref01: words of a block. -/
namespace Go.Proofs.YtbfimfdhmggieaaDoor.ref01
set_option maxRecDepth 100000
open Go Go.Eng Go.RowKit Cr Go.Proofs.YtbfimfdhmggieaaDoor Go.Proofs.YtbfimfdhmggieaaDoor.sha
theorem w32 {a : Int} (h0 : 0 ≤ a) (h1 : a < 4294967296) : IntKind.u32.wrap a = a := by
  simp [IntKind.wrap, IntKind.signed, IntKind.bits]; omega
theorem w32_mod (a : Int) : IntKind.u32.wrap a = a % 4294967296 := by
  simp [IntKind.wrap, IntKind.signed, IntKind.bits]
theorem or_add (x b k P : Nat) (hP : 2 ^ k = P) (hb : b < P) (h : x * P + b < 4294967296) : bitOp .or .u32 ((x * P : Nat) : Int) (b : Int) = ((x * P + b : Nat) : Int) := by
  subst hP
  show IntKind.u32.wrap ((BitVec.ofInt IntKind.u32.bits ((x * 2 ^ k : Nat) : Int) ||| BitVec.ofInt IntKind.u32.bits (b : Int)).toNat : Int) = _
  have e1 : BitVec.ofInt IntKind.u32.bits ((x * 2 ^ k : Nat) : Int) = BitVec.ofNat IntKind.u32.bits (x * 2 ^ k) := BitVec.ofInt_natCast _ _
  have e2 : BitVec.ofInt IntKind.u32.bits (b : Int) = BitVec.ofNat IntKind.u32.bits b := BitVec.ofInt_natCast _ _
  rw [e1, e2, BitVec.toNat_or, BitVec.toNat_ofNat, BitVec.toNat_ofNat, Nat.mod_eq_of_lt (show x * 2 ^ k < 2 ^ IntKind.u32.bits by show _ < 4294967296; omega), Nat.mod_eq_of_lt (show b < 2 ^ IntKind.u32.bits by show _ < 4294967296; omega)]
  have e3 : x * 2 ^ k ||| b = x * 2 ^ k + b := by
    rw [Nat.mul_comm]; exact (Nat.two_pow_add_eq_or_of_lt hb x).symm
  rw [e3, w32 (by omega) (by omega)]
/-- A byte behind a word. -/
def chS (x y : Int) : Int := bitOp .or .u32 (IntKind.u32.wrap (x * 2 ^ min (8 : Nat) IntKind.u32.bits)) (IntKind.u32.wrap y)
theorem chS_n (x y : Nat) (hx : x < 16777216) (hy : y < 256) : chS (x : Int) (y : Int) = ((x * 256 + y : Nat) : Int) := by
  unfold chS
  have e1 : IntKind.u32.wrap ((x : Int) * 2 ^ min (8 : Nat) IntKind.u32.bits) = ((x * 256 : Nat) : Int) := by
    show IntKind.u32.wrap ((x : Int) * 256) = _
    rw [w32 (by omega) (by omega)]; omega
  rw [e1, w32 (by omega) (by omega), or_add x y 8 256 (by decide) hy (by omega)]
/-- The reference's word. -/
def rwd (b0 b1 b2 b3 : Int) : Int := bitOp .or .u32 (bitOp .or .u32 (bitOp .or .u32 (IntKind.u32.wrap (IntKind.u32.wrap b0 * 2 ^ min (24 : Nat) IntKind.u32.bits)) (IntKind.u32.wrap (IntKind.u32.wrap b1 * 2 ^ min (16 : Nat) IntKind.u32.bits))) (IntKind.u32.wrap (IntKind.u32.wrap b2 * 2 ^ min (8 : Nat) IntKind.u32.bits))) (IntKind.u32.wrap b3)
theorem rwd_n (a b c d : Nat) (ha : a < 256) (hb : b < 256) (hc : c < 256) (hd : d < 256) : rwd (a : Int) (b : Int) (c : Int) (d : Int) = (((a * 256 + b) * 256 + c) * 256 + d : Nat) := by
  unfold rwd
  have e1 : IntKind.u32.wrap (IntKind.u32.wrap (a : Int) * 2 ^ min (24 : Nat) IntKind.u32.bits) = ((a * 16777216 : Nat) : Int) := by
    rw [w32 (a := (a : Int)) (by omega) (by omega)]
    show IntKind.u32.wrap ((a : Int) * 16777216) = _
    rw [w32 (by omega) (by omega)]; omega
  have e2 : IntKind.u32.wrap (IntKind.u32.wrap (b : Int) * 2 ^ min (16 : Nat) IntKind.u32.bits) = ((b * 65536 : Nat) : Int) := by
    rw [w32 (a := (b : Int)) (by omega) (by omega)]
    show IntKind.u32.wrap ((b : Int) * 65536) = _
    rw [w32 (by omega) (by omega)]; omega
  have e3 : IntKind.u32.wrap (IntKind.u32.wrap (c : Int) * 2 ^ min (8 : Nat) IntKind.u32.bits) = ((c * 256 : Nat) : Int) := by
    rw [w32 (a := (c : Int)) (by omega) (by omega)]
    show IntKind.u32.wrap ((c : Int) * 256) = _
    rw [w32 (by omega) (by omega)]; omega
  rw [e1, e2, e3, w32 (a := (d : Int)) (by omega) (by omega), or_add a (b * 65536) 24 16777216 (by decide) (by omega) (by omega)]
  have f2 : a * 16777216 + b * 65536 = (a * 256 + b) * 65536 := by omega
  rw [f2, or_add (a * 256 + b) (c * 256) 16 65536 (by decide) (by omega) (by omega)]
  have f3 : ∀ y : Nat, y * 65536 + c * 256 = (y * 256 + c) * 256 := fun y => by rw [Nat.add_mul, Nat.mul_assoc]
  rw [f3 (a * 256 + b), or_add ((a * 256 + b) * 256 + c) d 8 256 (by decide) (by omega) (by omega)]
theorem getD_set (l : List Int) (i t : Nat) (v : Int) : (l.set i v).getD t 0 = if i = t ∧ t < l.length then v else l.getD t 0 := by
  rw [List.getD_eq_getElem?_getD, List.getElem?_set, List.getD_eq_getElem?_getD]
  by_cases h : i = t
  · subst h
    rw [if_pos rfl]
    by_cases h2 : i < l.length
    · rw [if_pos h2, if_pos ⟨rfl, h2⟩]; rfl
    · rw [if_neg h2, if_neg (fun c => h2 c.2)]
      simp [h2]
  · rw [if_neg h, if_neg (fun c => h c.1)]
theorem wBk_get (p : List Int) (i : Nat) (w : List Int) (hi : i < w.length) (h0 : w.getD i 0 = 0) (t : Nat) : (wBk p i w 4).getD t 0 = if i = t then chS (chS (chS (chS 0 (p.getD (4 * i) 0)) (p.getD (4 * i + 1) 0)) (p.getD (4 * i + 2) 0)) (p.getD (4 * i + 3) 0) else w.getD t 0 := by
  have st : ∀ (w : List Int) (j t : Nat), i < w.length → (wB p i j w).getD t 0 = if i = t then chS (w.getD i 0) (p.getD (4 * i + j) 0) else w.getD t 0 := by
    intro w j t hi
    rw [wB, getD_set]
    by_cases h : i = t
    · subst h; rw [if_pos ⟨rfl, hi⟩, if_pos rfl]; rfl
    · rw [if_neg (fun c => h c.1), if_neg h]
  show (wB p i 3 (wB p i 2 (wB p i 1 (wB p i 0 w)))).getD t 0 = _
  have l0 : ∀ (w : List Int) (j : Nat), (wB p i j w).length = w.length := fun w j => by rw [wB, List.length_set]
  rw [st _ _ _ (by rw [l0, l0, l0]; exact hi), st _ _ _ (by rw [l0, l0]; exact hi), st _ _ _ (by rw [l0]; exact hi), st _ _ _ hi, if_pos rfl, if_pos rfl, if_pos rfl, h0]
  by_cases h : i = t
  · rw [if_pos h, if_pos h]; rfl
  · rw [if_neg h, if_neg h, st _ _ _ (by rw [l0, l0]; exact hi), if_neg h, st _ _ _ (by rw [l0]; exact hi), if_neg h, st _ _ _ hi, if_neg h]
theorem wAk_get {p : List Int} (hp : Bs p) (hl : p.length = 64) : ∀ k, k ≤ 16 → ∀ t, (wAk p k).getD t 0 = if t < k then rwd (p.getD (4 * t) 0) (p.getD (4 * t + 1) 0) (p.getD (4 * t + 2) 0) (p.getD (4 * t + 3) 0) else 0
  | 0, _, t => by
    rw [if_neg (by omega)]
    show (List.replicate 64 (0 : Int)).getD t 0 = 0
    rw [List.getD_eq_getElem?_getD, List.getElem?_replicate]
    split <;> rfl
  | k + 1, hk, t => by
    have ih := wAk_get hp hl k (by omega)
    have hz : (wAk p k).getD k 0 = 0 := by rw [ih k, if_neg (by omega)]
    show (wBk p k (wAk p k) 4).getD t 0 = _
    rw [wBk_get p k _ (by rw [wAk_len]; omega) hz]
    by_cases h : k = t
    · subst h
      rw [if_pos rfl, if_pos (by omega)]
      have by1 : ∀ j, j < 64 → ∃ n : Nat, p.getD j 0 = (n : Int) ∧ n < 256 := by
        intro j hj
        have hj2 : j < p.length := by omega
        have e : p.getD j 0 = p[j] := by rw [List.getD_eq_getElem?_getD, List.getElem?_eq_getElem hj2]; rfl
        have hb := hp _ (List.getElem_mem hj2)
        exact ⟨p[j].toNat, by rw [e]; omega, by omega⟩
      obtain ⟨a, ea, ha⟩ := by1 (4 * k) (by omega)
      obtain ⟨b, eb, hb⟩ := by1 (4 * k + 1) (by omega)
      obtain ⟨c, ec, hc⟩ := by1 (4 * k + 2) (by omega)
      obtain ⟨d, ed, hd⟩ := by1 (4 * k + 3) (by omega)
      rw [ea, eb, ec, ed, rwd_n a b c d ha hb hc hd]
      have z : (0 : Int) = ((0 : Nat) : Int) := rfl
      rw [z, chS_n 0 a (by omega) ha, chS_n _ b (by omega) hb, chS_n _ c (by omega) hc, chS_n _ d (by omega) hd]
      congr 1; omega
    · rw [if_neg h, ih t]
      by_cases h2 : t < k
      · rw [if_pos h2, if_pos (by omega)]
      · rw [if_neg h2, if_neg (by omega)]
theorem take_get (l : List Int) {m t : Nat} (h : t < m) : (l.take m).getD t 0 = l.getD t 0 := by
  rw [List.getD_eq_getElem?_getD, List.getD_eq_getElem?_getD, List.getElem?_take, if_pos h]
theorem take_succ_get (l : List Int) {n : Nat} (h : n < l.length) : l.take (n + 1) = l.take n ++ [l.getD n 0] := by
  rw [List.take_succ_eq_append_getElem h, List.getD_eq_getElem?_getD, List.getElem?_eq_getElem h]; rfl
theorem take_set_succ (l : List Int) {n : Nat} (v : Int) (h : n < l.length) : (l.set n v).take (n + 1) = l.take n ++ [v] := by
  rw [take_succ_get _ (by rw [List.length_set]; exact h), getD_set, if_pos ⟨rfl, h⟩, List.take_set_of_le (Nat.le_refl _)]
end Go.Proofs.YtbfimfdhmggieaaDoor.ref01
/- ref01: Sum. -/
namespace Go.Proofs.YtbfimfdhmggieaaDoor.ref01
set_option maxRecDepth 100000
open Go Go.Eng Go.RowKit Cr Go.Proofs.YtbfimfdhmggieaaDoor Go.Proofs.YtbfimfdhmggieaaDoor.sha
theorem fr_primes : FnOk Tryd.prog 95 [.int .i64] [.val (.sl q64)] noG (fun (n, _) => n = (64 : Int)) (fun _ => (p64, ())) := fn_primes.frz
noncomputable def srPrimes : Nat × Eng.Spec := (95, fnSpec [.int .i64] [.val (.sl q64)] (fun (n, _) => n = (64 : Int)) (fun _ => (p64, ())))
noncomputable def kL (k : Nat) : List Int := (p64.take k).map cuo
noncomputable def hL (k : Nat) : List Int := ((p64.take k).take 8).map sqo
theorem kL_64 : kL 64 = rootsL := by
  have e : p64.take 64 = p64 := rfl
  rw [kL, e, roots_p]
theorem hL_64 : hL 64 = firstL := by
  have e : p64.take 64 = p64 := rfl
  rw [hL, e, first_p]
theorem p64_len : p64.length = 64 := rfl
theorem kL_succ {k : Nat} (h : k < 64) : kL (k + 1) = kL k ++ [cuo (p64.getD k 0)] := by
  have h1 : k < p64.length := h
  unfold kL
  rw [List.take_succ_eq_append_getElem h1, List.map_append]
  simp [List.getD_eq_getElem?_getD, h1]
theorem hL_lt {k : Nat} (h : k < 8) : hL (k + 1) = hL k ++ [sqo (p64.getD k 0)] := by
  have h1 : k < p64.length := by show k < 64; omega
  unfold hL
  rw [List.take_take, List.take_take, Nat.min_eq_right (by omega), Nat.min_eq_right (by omega), List.take_succ_eq_append_getElem h1, List.map_append]
  simp [List.getD_eq_getElem?_getD, h1]
theorem hL_ge {k : Nat} (h : ¬ k < 8) : hL (k + 1) = hL k := by
  unfold hL
  rw [List.take_take, List.take_take, Nat.min_eq_left (by omega), Nat.min_eq_left (by omega)]
theorem kL_len {k : Nat} (h : k ≤ 64) : (kL k).length = k := by
  rw [kL, List.length_map, List.length_take, p64_len]; omega
theorem hL_len {k : Nat} (h : k ≤ 64) : (hL k).length = min 8 k := by
  rw [hL, List.length_map, List.length_take, List.length_take, p64_len]; omega
/-- The last bytes: the size. -/
def szB (n k : Nat) : List Int := (List.range k).map fun i => ((n : Int) * 8) / 2 ^ (56 - 8 * i) % 256
theorem szB_succ (n k : Nat) : szB n (k + 1) = szB n k ++ [((n : Int) * 8) / 2 ^ (56 - 8 * k) % 256] := by
  unfold szB
  rw [List.range_succ, List.map_append]; rfl
theorem szB_8 (n : Nat) : szB n 8 = (List.range 8).map fun i => ((n : Int) * 8) / 2 ^ (56 - 8 * i) % 256 := rfl
theorem padB_Bs (n : Nat) : Bs (padB n) := by
  intro y hy
  have hy : y ∈ (128 : Int) :: (List.replicate ((64 + 55 - n % 64) % 64) 0 ++ (List.range 8).map fun i => ((n : Int) * 8) / 2 ^ (56 - 8 * i) % 256) := hy
  rcases List.mem_cons.1 hy with h | h
  · omega
  · rcases List.mem_append.1 h with h | h
    · have := List.eq_of_mem_replicate h; omega
    · obtain ⟨i, _, rfl⟩ := List.mem_map.1 h
      generalize ((n : Int) * 8) / 2 ^ (56 - 8 * i) = z
      omega
theorem absK_8 (L : List Int) : ∀ n, (absK tko firstL L n).length = 8
  | 0 => rfl
  | n + 1 => by show (tko _ _).length = 8; rw [tko_len, absK_8 L n]
theorem ent_sum : enters Tryd.prog 43 Tryd.f43 := enters_mk (by kernel_rfl) (by kernel_rfl) (by kernel_rfl)
noncomputable def suA (b : List Int) (g : Int × (Nat × List Int) × (Nat × List Int)) : St := mkSt Tryd.f43.ntmps 64 [(0, .is (.one (.ro bK b))), (3, .is (.one (.ro q64 p64))), (4, .is (.one (.sl 24 0 0 g.2.1.1 1))), (5, .is (.one (.sl 40 0 0 g.2.2.1 1))), (6, sI .i64 g.1)] [(40, [.ints .u32 g.2.2.1 g.2.2.2]), (24, [.ints .u32 g.2.1.1 g.2.1.2])]
noncomputable def suB (b : List Int) (g : Nat × List Int) : St := mkSt Tryd.f43.ntmps 104 [(0, .is (.one (.ro bK b))), (4, .is (.one (.ro uK rootsL))), (5, .is (.one (.sl 40 0 0 8 1))), (7, .is (.one (.sl 88 0 0 g.1 1)))] [(88, [.ints .u8 g.1 g.2]), (40, [.ints .u32 8 firstL])]
noncomputable def suC (z : Int) (g : Int × Nat × List Int) : St := mkSt Tryd.f43.ntmps 104 [(4, .is (.one (.ro uK rootsL))), (5, .is (.one (.sl 40 0 0 8 1))), (7, .is (.one (.sl 88 0 0 g.2.1 1))), (8, sI .u64 z), (9, sI .i64 g.1)] [(88, [.ints .u8 g.2.1 g.2.2]), (40, [.ints .u32 8 firstL])]
noncomputable def suD (m : List Int) (g : Int × List Int) : St := mkSt Tryd.f43.ntmps 104 [(4, .is (.one (.ro uK rootsL))), (5, .is (.one (.sl 40 0 0 8 1))), (7, .is (.one (.ro bK m))), (10, sI .i64 g.1)] [(40, [.ints .u32 8 g.2])]
noncomputable def suE (m hs : List Int) (t : Int) (g : Int × Nat × List Int) : St := mkSt Tryd.f43.ntmps 128 [(4, .is (.one (.ro uK rootsL))), (5, .is (.one (.sl 40 0 0 8 1))), (7, .is (.one (.ro bK m))), (10, sI .i64 t), (11, .is (.one (.sl 104 0 0 g.2.1 1))), (12, sI .i64 g.1)] [(104, [.ints .u32 g.2.1 g.2.2]), (40, [.ints .u32 8 hs])]
noncomputable def suF (m hs : List Int) (t : Int) (g : Int × Nat × List Int) : St := mkSt Tryd.f43.ntmps 128 [(4, .is (.one (.ro uK rootsL))), (5, .is (.one (.sl 40 0 0 8 1))), (7, .is (.one (.ro bK m))), (10, sI .i64 t), (11, .is (.one (.sl 104 0 0 g.2.1 1))), (14, sI .i64 g.1)] [(104, [.ints .u32 g.2.1 g.2.2]), (40, [.ints .u32 8 hs])]
noncomputable def suG (m hs ws : List Int) (t : Int) (g : Int × List Int) : St := mkSt Tryd.f43.ntmps 160 [(4, .is (.one (.ro uK rootsL))), (5, .is (.one (.sl 40 0 0 8 1))), (7, .is (.one (.ro bK m))), (10, sI .i64 t), (11, .is (.one (.sl 104 0 0 64 1))), (17, .is (.one (.sl 144 0 0 8 1))), (18, sI .i64 g.1)] [(144, [.ints .u32 8 g.2]), (104, [.ints .u32 64 ws]), (40, [.ints .u32 8 hs])]
noncomputable def suH (m vs : List Int) (t : Int) (g : Int × List Int) : St := mkSt Tryd.f43.ntmps 160 [(4, .is (.one (.ro uK rootsL))), (5, .is (.one (.sl 40 0 0 8 1))), (7, .is (.one (.ro bK m))), (10, sI .i64 t), (17, .is (.one (.sl 144 0 0 8 1))), (21, sI .i64 g.1)] [(144, [.ints .u32 8 vs]), (40, [.ints .u32 8 g.2])]
noncomputable def suO (hs : List Int) (g : Int × Nat × List Int) : St := mkSt Tryd.f43.ntmps 120 [(5, .is (.one (.sl 40 0 0 8 1))), (22, .is (.one (.sl 104 0 0 g.2.1 1))), (23, sI .i64 g.1)] [(104, [.ints .u8 g.2.1 g.2.2]), (40, [.ints .u32 8 hs])]
set_option maxHeartbeats 8000000 in
theorem fn_sum : FnOk Tryd.prog 43 [.sl bK] [.own bK] noG (fun (b, _) => Bs b ∧ List.length b ≤ 1099511627776) (fun (b, _) => (dig b, ())) := by
  have hsp : SpecsOk Tryd.prog (sps [srPrimes, spCube, spSquare, ref01.spCopy, spTurn]) := sps_cons (fnSpec_ok fr_primes) (sps_cons (fnSpec_ok fn_cube) (sps_cons (fnSpec_ok fn_square) (sps_cons (fnSpec_ok ref01.fn_copy) (sps_cons (fnSpec_ok fn_turn) sps_nil))))
  refine fn_of_tr (sp := sps [srPrimes, spCube, spSquare, ref01.spCopy, spTurn]) ent_sum (by decide) (by decide) (by kernel_rfl) ?_
  rintro w M0 ⟨b, ⟨⟩⟩
  revert b
  intro (b : List Int) _ hp
  obtain ⟨hb, hlb⟩ := hp
  have hlb : b.length ≤ 1099511627776 := hlb
  show Tr _ _ _ _ _ _ _
  refine tr_cut hsp mixed 5 (suA b (0, (0, []), (0, []))) True ?_ (fun _ => ?_)
  · refine vcx (X := ((64 : Int) = (64 : Int) ∧ (suA b ((0 : Int), ((0 : Nat), []), (0 : Nat), [])).triv True)) (by kernel_rfl) ?_
    exact ⟨rfl, triv_intro trivial⟩
  refine tr_while hsp mixed (fun σ => [(24, rdI 4 σ), (40, rdI 5 σ)]) (fun σ => (rdS (.int .i64) 6 σ, (rdL 4 σ, rdR uK 24 σ), (rdL 5 σ, rdR uK 40 σ))) (suA b) (fun g => ∃ k : Nat, k ≤ 64 ∧ g.1 = (k : Int) ∧ (g.2.1.1 = k ∧ g.2.1.2 = kL k) ∧ g.2.2.1 = (hL k).length ∧ g.2.2.2 = hL k) (fun g => 64 - g.1.toNat)
    (fun σ => (rdS (.int .i64) 6 σ, (rdL 4 σ, rdR uK 24 σ), (rdL 5 σ, rdR uK 40 σ))) (suA b) (fun g => (g.2.1.1 = 64 ∧ g.2.1.2 = kL 64) ∧ g.2.2.1 = 8 ∧ g.2.2.2 = hL 64) (0, (0, []), (0, [])) (c := nthC (codeOf Tryd.f43) 5) (by kernel_rfl) (by kernel_rfl) (le_of_proj (by kernel_rfl) (by kernel_rfl) ?_) ?_ ?_
  · exact ⟨0, by decide, rfl, ⟨rfl, rfl⟩, rfl, rfl⟩
  · rintro ⟨i, ⟨K, ks⟩, ⟨H, hs⟩⟩ hj
    revert i ks hs
    intro (i : Int) (ks : List Int) (hs : List Int) ⟨k, hk, ei, ⟨eK, ek⟩, eH, eh⟩
    have ki : i = (k : Int) := ei
    have kK : K = k := eK
    have kk : ks = kL k := ek
    have kH : H = (hL k).length := eH
    have kh : hs = hL k := eh
    subst ki
    refine vcx (X := ((decide ((↑k : Int) < (64 : Int)) = true → ((0 : Int) ≤ (↑k : Int) ∧ (↑k : Int) < (↑p64.length : Int)) ∧ (↑k : Int).toNat < p64.length ∧ True ∧ (0 : Nat) + (1 : Nat) ≤ (1 : Nat) ∧ K ≤ K ∧ (K + (1 : Nat)) * (4 : Nat) ≤ (140737488355328 : Nat) ∧ K + (1 : Nat) ≤ (4611686018427387904 : Nat) ∧ (decide ((↑k : Int) < (8 : Int)) = true → ((0 : Int) ≤ (↑k : Int) ∧ (↑k : Int) < (↑p64.length : Int)) ∧ (↑k : Int).toNat < p64.length ∧ True ∧ (0 : Nat) + (1 : Nat) ≤ (1 : Nat) ∧ H ≤ H ∧ (H + (1 : Nat)) * (4 : Nat) ≤ (140737488355328 : Nat) ∧ H + (1 : Nat) ≤ (4611686018427387904 : Nat) ∧ (suA b (IntKind.i64.wrap ((↑k : Int) + (1 : Int)), (K + (1 : Nat), List.take K ks ++ List.take (1 : Nat) [(cuo (p64.getD (↑k : Int).toNat (0 : Int)), ()).fst]), H + (1 : Nat), List.take H hs ++ List.take (1 : Nat) [(sqo (p64.getD (↑k : Int).toNat (0 : Int)), ()).fst])).triv ((∃ k_1, k_1 ≤ (64 : Nat) ∧ IntKind.i64.wrap ((↑k : Int) + (1 : Int)) = (↑k_1 : Int) ∧ (K + (1 : Nat) = k_1 ∧ List.take K ks ++ List.take (1 : Nat) [cuo (p64.getD (↑k : Int).toNat (0 : Int))] = kL k_1) ∧ H + (1 : Nat) = (hL k_1).length ∧ List.take H hs ++ List.take (1 : Nat) [sqo (p64.getD (↑k : Int).toNat (0 : Int))] = hL k_1) ∧ (64 : Nat) - (IntKind.i64.wrap ((↑k : Int) + (1 : Int))).toNat < (64 : Nat) - (↑k : Int).toNat)) ∧ (decide ((↑k : Int) < (8 : Int)) = false → (suA b (IntKind.i64.wrap ((↑k : Int) + (1 : Int)), (K + (1 : Nat), List.take K ks ++ List.take (1 : Nat) [(cuo (p64.getD (↑k : Int).toNat (0 : Int)), ()).fst]), H, hs)).triv ((∃ k_1, k_1 ≤ (64 : Nat) ∧ IntKind.i64.wrap ((↑k : Int) + (1 : Int)) = (↑k_1 : Int) ∧ (K + (1 : Nat) = k_1 ∧ List.take K ks ++ List.take (1 : Nat) [cuo (p64.getD (↑k : Int).toNat (0 : Int))] = kL k_1) ∧ H = (hL k_1).length ∧ hs = hL k_1) ∧ (64 : Nat) - (IntKind.i64.wrap ((↑k : Int) + (1 : Int))).toNat < (64 : Nat) - (↑k : Int).toNat))) ∧ (decide ((↑k : Int) < (64 : Int)) = false → (suA b ((↑k : Int), (K, ks), H, hs)).triv ((K = (64 : Nat) ∧ ks = kL (64 : Nat)) ∧ H = (8 : Nat) ∧ hs = hL (64 : Nat))))) (by kernel_rfl) ?_
    simp only [Int.toNat_natCast]
    have hk0 : k < 64 → k < p64.length := fun h => h
    have hlen := hL_len hk
    have e1 : List.take K ks = ks := List.take_of_length_le (by rw [kk, kL_len hk]; omega)
    have e2 : List.take H hs = hs := List.take_of_length_le (by rw [kh]; omega)
    have e3 : ∀ y : Int, List.take 1 [y] = [y] := fun _ => rfl
    rw [e1, e2, e3, e3]
    refine ⟨fun h => ?_, fun h => triv_intro ?_⟩
    · have hlt : k < 64 := by have := dT h; omega
      have hp64 : (p64.length : Int) = 64 := rfl
      rw [wrap_succ (by omega)]
      refine ⟨⟨by omega, by omega⟩, hlt, trivial, Nat.le_refl _, Nat.le_refl _, by omega, by omega, fun h8 => ⟨⟨by omega, by omega⟩, hlt, trivial, Nat.le_refl _, Nat.le_refl _, by omega, by omega, triv_intro ⟨⟨k + 1, hlt, rfl, ⟨by omega, by rw [kk, kL_succ hlt]⟩, ?_, ?_⟩, ?_⟩⟩, fun h8 => triv_intro ⟨⟨k + 1, hlt, rfl, ⟨by omega, by rw [kk, kL_succ hlt]⟩, ?_, ?_⟩, ?_⟩⟩
      · rw [hL_lt (by have := dT h8; omega), List.length_append, kH]; rfl
      · rw [hL_lt (by have := dT h8; omega), kh]
      · rw [Int.toNat_natCast]; omega
      · rw [hL_ge (by have := dF h8; omega), kH]
      · rw [hL_ge (by have := dF h8; omega), kh]
      · rw [Int.toNat_natCast]; omega
    · have hk2 : k = 64 := by have := dF h; omega
      rw [hk2] at kK kk kH kh hlen
      exact ⟨⟨kK, kk⟩, by rw [kH, hlen]; rfl, kh⟩
  rintro ⟨i, ⟨K, ks⟩, ⟨H, hs⟩⟩ hj
  revert i ks hs
  intro (i : Int) (ks : List Int) (hs : List Int) ⟨⟨eK, ek⟩, eH, eh⟩
  have eK : K = 64 := eK
  have ek : ks = rootsL := (show ks = kL 64 from ek).trans kL_64
  have eH : H = 8 := eH
  have eh : hs = firstL := (show hs = hL 64 from eh).trans hL_64
  rw [eK, ek, eH, eh]
  refine tr_frzI 4 24 64 1 .u32 rootsL (by kernel_rfl) (by kernel_rfl) rfl ?_
  refine tr_cutF hsp mixed 1 (fun σ => (rdL 7 σ, rdR bK 88 σ)) (suB b) (fun g => g.1 = b.length + 1 ∧ g.2 = b ++ [128]) ?_ ?_
  · refine vcx (X := (preCopy (b, ()) ∧ (0 : Nat) + (1 : Nat) ≤ (1 : Nat) ∧ b.length ≤ b.length ∧ (b.length + (1 : Nat)) * (1 : Nat) ≤ (140737488355328 : Nat) ∧ b.length + (1 : Nat) ≤ (4611686018427387904 : Nat) ∧ (suB b (b.length + (1 : Nat), List.take b.length b ++ List.take (1 : Nat) [(128 : Int)])).triv (b.length + (1 : Nat) = b.length + (1 : Nat) ∧ List.take b.length b ++ List.take (1 : Nat) [(128 : Int)] = b ++ [(128 : Int)]))) (by kernel_rfl) ?_
    rw [List.take_length]
    exact ⟨by show b.length ≤ _; omega, Nat.le_refl _, Nat.le_refl _, by omega, by omega, triv_intro ⟨rfl, rfl⟩⟩
  rintro ⟨L0, m0⟩ hj
  revert m0
  intro (m0 : List Int) ⟨e0, e1⟩
  have e0 : L0 = b.length + 1 := e0
  have e1 : m0 = b ++ [128] := e1
  refine tr_while hsp mixed (fun σ => [(88, rdI 7 σ)]) (fun σ => (rdL 7 σ, rdR bK 88 σ)) (suB b) (fun g => ∃ z : Nat, z ≤ (64 + 55 - b.length % 64) % 64 ∧ g.1 = b.length + 1 + z ∧ g.2 = b ++ 128 :: List.replicate z 0) (fun g => b.length + 65 - g.1)
    (fun σ => (rdL 7 σ, rdR bK 88 σ)) (suB b) (fun g => g.1 = b.length + 1 + (64 + 55 - b.length % 64) % 64 ∧ g.2 = b ++ 128 :: List.replicate ((64 + 55 - b.length % 64) % 64) 0) (L0, m0) (c := nthC (codeOf Tryd.f43) 7) (by kernel_rfl) (by kernel_rfl) (le_of_proj (by kernel_rfl) (by kernel_rfl) ?_) ?_ ?_
  · exact ⟨0, Nat.zero_le _, e0, e1⟩
  · rintro ⟨L, m⟩ hj
    revert m
    intro (m : List Int) ⟨z, hz, eL, em⟩
    have kL : L = b.length + 1 + z := eL
    have km : m = b ++ 128 :: List.replicate z 0 := em
    have lm : m.length = L := by rw [km, List.length_append, List.length_cons, List.length_replicate]; omega
    have t1 : List.take L m = m := List.take_of_length_le (by omega)
    have t2 : ((L : Int).tmod 64) = ((L % 64 : Nat) : Int) := by rw [Int.tmod_eq_emod_of_nonneg (by omega)]; rfl
    refine vcx (X := (((64 : Int) = (0 : Int) → False) ∧ (((↑L : Int).tmod (64 : Int) != (56 : Int)) = true → (0 : Nat) + (1 : Nat) ≤ (1 : Nat) ∧ L ≤ L ∧ (L + (1 : Nat)) * (1 : Nat) ≤ (140737488355328 : Nat) ∧ L + (1 : Nat) ≤ (4611686018427387904 : Nat) ∧ (suB b (L + (1 : Nat), List.take L m ++ List.take (1 : Nat) [(0 : Int)])).triv ((∃ z, z ≤ ((64 : Nat) + (55 : Nat) - b.length % (64 : Nat)) % (64 : Nat) ∧ L + (1 : Nat) = b.length + (1 : Nat) + z ∧ List.take L m ++ List.take (1 : Nat) [(0 : Int)] = b ++ (128 : Int) :: List.replicate z (0 : Int)) ∧ b.length + (65 : Nat) - (L + (1 : Nat)) < b.length + (65 : Nat) - L)) ∧ (((↑L : Int).tmod (64 : Int) != (56 : Int)) = false → (suB b (L, m)).triv (L = b.length + (1 : Nat) + ((64 : Nat) + (55 : Nat) - b.length % (64 : Nat)) % (64 : Nat) ∧ m = b ++ (128 : Int) :: List.replicate (((64 : Nat) + (55 : Nat) - b.length % (64 : Nat)) % (64 : Nat)) (0 : Int))))) (by kernel_rfl) ?_
    rw [t1, t2]
    refine ⟨by decide, fun h => ⟨Nat.le_refl _, Nat.le_refl _, by omega, by omega, triv_intro ⟨⟨z + 1, ?_, by omega, ?_⟩, ?_⟩⟩, fun h => triv_intro ?_⟩
    · have h1 : ¬ ((L % 64 : Nat) : Int) = 56 := by simpa using h
      omega
    · rw [km, List.append_assoc, List.replicate_succ']; rfl
    · have h1 : ¬ ((L % 64 : Nat) : Int) = 56 := by simpa using h
      omega
    · have h1 : ((L % 64 : Nat) : Int) = 56 := by simpa using h
      have hz2 : z = (64 + 55 - b.length % 64) % 64 := by omega
      exact ⟨by omega, by rw [km, hz2]⟩
  rintro ⟨L1, m1⟩ hj
  revert m1
  intro (m1 : List Int) ⟨e2, e3⟩
  have e2 : L1 = b.length + 1 + (64 + 55 - b.length % 64) % 64 := e2
  have e3 : m1 = b ++ 128 :: List.replicate ((64 + 55 - b.length % 64) % 64) 0 := e3
  have ez : IntKind.u64.wrap (IntKind.u64.wrap (b.length : Int) * 8) = (b.length : Int) * 8 := by
    rw [wrap_u64 (a := (b.length : Int)) (by omega) (by omega), wrap_u64 (by omega) (by omega)]
  refine tr_cut hsp mixed 2 (suC ((b.length : Int) * 8) (7, L1, m1)) True ?_ (fun _ => ?_)
  · rw [← ez]
    refine vcx (X := ((suC (IntKind.u64.wrap (IntKind.u64.wrap (↑b.length : Int) * (8 : Int))) ((7 : Int), L1, m1)).triv True)) (by kernel_rfl) ?_
    exact triv_intro trivial
  refine tr_while hsp mixed (fun σ => [(88, rdI 7 σ)]) (fun σ => (rdS (.int .i64) 9 σ, rdL 7 σ, rdR bK 88 σ)) (suC ((b.length : Int) * 8)) (fun g => ∃ k : Nat, k ≤ 8 ∧ g.1 = 7 - (k : Int) ∧ g.2.1 = L1 + k ∧ g.2.2 = m1 ++ szB b.length k) (fun g => (g.1 + 1).toNat)
    (fun σ => (rdS (.int .i64) 9 σ, rdL 7 σ, rdR bK 88 σ)) (suC ((b.length : Int) * 8)) (fun g => g.2.1 = L1 + 8 ∧ g.2.2 = m1 ++ szB b.length 8) (7, L1, m1) (c := nthC (codeOf Tryd.f43) 10) (by kernel_rfl) (by kernel_rfl) (le_of_proj (by kernel_rfl) (by kernel_rfl) ?_) ?_ ?_
  · exact ⟨0, by decide, rfl, rfl, by show m1 = m1 ++ []; rw [List.append_nil]⟩
  · rintro ⟨i, L, m⟩ hj
    revert i m
    intro (i : Int) (m : List Int) ⟨k, hk, ei, eL, em⟩
    have ki : i = 7 - (k : Int) := ei
    have kL : L = L1 + k := eL
    have km : m = m1 ++ szB b.length k := em
    have lm1 : m1.length = L1 := by rw [e3, List.length_append, List.length_cons, List.length_replicate]; omega
    have lm : m.length = L := by rw [km, List.length_append, lm1, szB, List.length_map, List.length_range]; omega
    have t1 : List.take L m = m := List.take_of_length_le (by omega)
    refine vcx (X := ((decide (i ≥ (0 : Int)) = true → (0 : Int) ≤ IntKind.u64.wrap (IntKind.i64.wrap ((8 : Int) * i)) ∧ (0 : Nat) + (1 : Nat) ≤ (1 : Nat) ∧ L ≤ L ∧ (L + (1 : Nat)) * (1 : Nat) ≤ (140737488355328 : Nat) ∧ L + (1 : Nat) ≤ (4611686018427387904 : Nat) ∧ (suC ((↑b.length : Int) * (8 : Int)) (IntKind.i64.wrap (i - (1 : Int)), L + (1 : Nat), List.take L m ++ List.take (1 : Nat) [IntKind.u8.wrap (((↑b.length : Int) * (8 : Int)).fdiv ((2 : Int) ^ min (IntKind.u64.wrap (IntKind.i64.wrap ((8 : Int) * i))).toNat IntKind.u64.bits))])).triv ((∃ k, k ≤ (8 : Nat) ∧ IntKind.i64.wrap (i - (1 : Int)) = (7 : Car (Kd.int IntKind.i64)) - (↑k : Int) ∧ L + (1 : Nat) = L1 + k ∧ List.take L m ++ List.take (1 : Nat) [IntKind.u8.wrap (((↑b.length : Int) * (8 : Int)).fdiv ((2 : Int) ^ min (IntKind.u64.wrap (IntKind.i64.wrap ((8 : Int) * i))).toNat IntKind.u64.bits))] = m1 ++ szB b.length k) ∧ Int.toNat (IntKind.i64.wrap (i - (1 : Int)) + (1 : Car (Kd.int IntKind.i64))) < Int.toNat (i + (1 : Car (Kd.int IntKind.i64))))) ∧ (decide (i ≥ (0 : Int)) = false → (suC ((↑b.length : Int) * (8 : Int)) (i, L, m)).triv (L = L1 + (8 : Nat) ∧ m = m1 ++ szB b.length (8 : Nat))))) (by kernel_rfl) ?_
    rw [t1]
    refine ⟨fun h => ?_, fun h => triv_intro ?_⟩
    · have h0 : 0 ≤ i := dT h
      have hk7 : k ≤ 7 := by omega
      have ew : IntKind.u64.wrap (IntKind.i64.wrap (8 * i)) = ((56 - 8 * k : Nat) : Int) := by
        rw [wrap_i64' (by omega) (by omega), wrap_u64 (by omega) (by omega)]; omega
      have en : IntKind.i64.wrap (i - 1) = 7 - ((k + 1 : Nat) : Int) := by rw [wrap_i64' (by omega) (by omega)]; omega
      have hm : min (56 - 8 * k) IntKind.u64.bits = 56 - 8 * k := Nat.min_eq_left (show 56 - 8 * k ≤ 64 by omega)
      have eb : IntKind.u8.wrap (((b.length : Int) * 8).fdiv (2 ^ (56 - 8 * k))) = ((b.length : Int) * 8) / 2 ^ (56 - 8 * k) % 256 := by
        rw [Int.fdiv_eq_ediv_of_nonneg _ (Int.le_of_lt (Int.pow_pos (by decide)))]
        generalize ((b.length : Int) * 8) / 2 ^ (56 - 8 * k) = y
        simp [IntKind.wrap, IntKind.signed, IntKind.bits]
      rw [ew, en]
      simp only [Int.toNat_natCast]
      rw [hm, eb]
      refine ⟨by omega, Nat.le_refl _, Nat.le_refl _, by omega, by omega, triv_intro ⟨⟨k + 1, by omega, rfl, by omega, ?_⟩, by omega⟩⟩
      rw [km, szB_succ, List.append_assoc]; rfl
    · have hk2 : k = 8 := by have := dF h; omega
      exact ⟨by omega, by rw [km, hk2]⟩
  rintro ⟨i, L2, m2⟩ hj
  revert i m2
  intro (i : Int) (m2 : List Int) ⟨e4, e5⟩
  have e4 : L2 = L1 + 8 := e4
  have e5 : m2 = m1 ++ szB b.length 8 := e5
  have em2 : m2 = b ++ padB b.length := by
    rw [e5, e3, szB_8, padB, List.append_assoc]; rfl
  have lm2 : m2.length = L2 := by
    rw [e5, e3, szB, List.length_append, List.length_append, List.length_cons, List.length_replicate, List.length_map, List.length_range]; omega
  have hbm : Bs m2 := by
    rw [em2]
    intro y hy
    rcases List.mem_append.1 hy with h | h
    · exact hb y h
    · exact padB_Bs _ y h
  obtain ⟨NB, hNB⟩ : ∃ NB, m2.length = 64 * NB := ⟨m2.length / 64, by omega⟩
  refine tr_frzI 7 88 L2 1 .u8 m2 (by kernel_rfl) (by kernel_rfl) lm2 ?_
  refine tr_cut hsp mixed 1 (suD m2 (0, firstL)) True ?_ (fun _ => ?_)
  · refine vcx (X := ((suD m2 ((0 : Int), firstL)).triv True)) (by kernel_rfl) ?_
    exact triv_intro trivial
  refine tr_whileT noSw (fun σ => (rdS (.int .i64) 10 σ, rdR uK 40 σ)) (suD m2) (fun g => ∃ n : Nat, n ≤ NB ∧ g.1 = ((64 * n : Nat) : Int) ∧ g.2 = absK tko firstL m2 n) (fun g => m2.length - g.1.toNat)
    (fun σ => (rdS (.int .i64) 10 σ, rdR uK 40 σ)) (suD m2) (fun g => g.2 = absK tko firstL m2 NB) (0, firstL) (c := nthC (codeOf Tryd.f43) 12) (by kernel_rfl) (by kernel_rfl) (le_of_proj (by kernel_rfl) (by kernel_rfl) ?_) ?_ ?_
  · exact ⟨0, Nat.zero_le _, rfl, rfl⟩
  · rintro ⟨i, hs⟩ hj
    revert i hs
    intro (i : Int) (hs : List Int) ⟨n, hn, ei, eh⟩
    have ki : i = ((64 * n : Nat) : Int) := ei
    have kh : hs = absK tko firstL m2 n := eh
    subst ki
    refine tr_cut hsp mixed 2 (suD m2 (((64 * n : Nat) : Int), hs)) (n < NB) ?_ (fun hlt => ?_)
    · refine vcx (X := ((decide ((↑((64 : Nat) * n) : Int) < (↑m2.length : Int)) = true → (suD m2 ((↑((64 : Nat) * n) : Int), hs)).triv (n < NB)) ∧ (decide ((↑((64 : Nat) * n) : Int) < (↑m2.length : Int)) = false → (suD m2 ((↑((64 : Nat) * n) : Int), hs)).triv (hs = absK tko firstL m2 NB)))) (by kernel_rfl) ?_
      refine ⟨fun h => triv_intro (by have := dT h; omega), fun h => triv_intro ?_⟩
      have e : n = NB := by have := dF h; omega
      rw [kh, e]
    refine tr_block (c := nthC (loopOf (nthC (codeOf Tryd.f43) 12)) 2) (by kernel_rfl) (by kernel_rfl) ?_
    obtain ⟨p, hpd⟩ : ∃ p, p = (m2.drop (64 * n)).take 64 := ⟨_, rfl⟩
    have pl : p.length = 64 := by rw [hpd, List.length_take, List.length_drop]; omega
    have pB : Bs p := by
      rw [hpd]
      exact fun y hy => hbm y (List.mem_of_mem_drop (List.mem_of_mem_take hy))
    refine tr_cut hsp mixed 2 (suE m2 hs ((64 * n : Nat) : Int) (0, 0, [])) True ?_ (fun _ => ?_)
    · refine vcx (X := ((suE m2 hs (↑((64 : Nat) * n) : Int) ((0 : Int), (0 : Nat), [])).triv True)) (by kernel_rfl) ?_
      exact triv_intro trivial
    refine tr_while hsp mixed (fun σ => [(104, rdI 11 σ)]) (fun σ => (rdS (.int .i64) 12 σ, rdL 11 σ, rdR uK 104 σ)) (suE m2 hs ((64 * n : Nat) : Int)) (fun g => ∃ j : Nat, j ≤ 16 ∧ g.1 = (j : Int) ∧ g.2.1 = j ∧ g.2.2 = (wAk p 16).take j) (fun g => 16 - g.1.toNat)
      (fun σ => (rdS (.int .i64) 12 σ, rdL 11 σ, rdR uK 104 σ)) (suE m2 hs ((64 * n : Nat) : Int)) (fun g => g.2.1 = 16 ∧ g.2.2 = (wAk p 16).take 16) (0, 0, []) (c := nthC (bodyOf (nthC (loopOf (nthC (codeOf Tryd.f43) 12)) 2)) 2) (by kernel_rfl) (by kernel_rfl) (le_of_proj (by kernel_rfl) (by kernel_rfl) ?_) ?_ ?_
    · exact ⟨0, by decide, rfl, rfl, rfl⟩
    · rintro ⟨j, L, ws⟩ hj
      revert j ws
      intro (j : Int) (ws : List Int) ⟨t, ht, ej, eL, ew⟩
      have kj : j = (t : Int) := ej
      have kL : L = t := eL
      have kw : ws = (wAk p 16).take t := ew
      subst kj
      refine vcx (X := ((decide ((↑t : Int) < (16 : Int)) = true → ((0 : Int) ≤ IntKind.i64.wrap ((↑((64 : Nat) * n) : Int) + IntKind.i64.wrap ((4 : Int) * (↑t : Int))) ∧ IntKind.i64.wrap ((↑((64 : Nat) * n) : Int) + IntKind.i64.wrap ((4 : Int) * (↑t : Int))) < (↑m2.length : Int)) ∧ (IntKind.i64.wrap ((↑((64 : Nat) * n) : Int) + IntKind.i64.wrap ((4 : Int) * (↑t : Int)))).toNat < m2.length ∧ (0 : Int) ≤ (24 : Int) ∧ ((0 : Int) ≤ IntKind.i64.wrap (IntKind.i64.wrap ((↑((64 : Nat) * n) : Int) + IntKind.i64.wrap ((4 : Int) * (↑t : Int))) + (1 : Int)) ∧ IntKind.i64.wrap (IntKind.i64.wrap ((↑((64 : Nat) * n) : Int) + IntKind.i64.wrap ((4 : Int) * (↑t : Int))) + (1 : Int)) < (↑m2.length : Int)) ∧ (IntKind.i64.wrap (IntKind.i64.wrap ((↑((64 : Nat) * n) : Int) + IntKind.i64.wrap ((4 : Int) * (↑t : Int))) + (1 : Int))).toNat < m2.length ∧ (0 : Int) ≤ (16 : Int) ∧ ((0 : Int) ≤ IntKind.i64.wrap (IntKind.i64.wrap ((↑((64 : Nat) * n) : Int) + IntKind.i64.wrap ((4 : Int) * (↑t : Int))) + (2 : Int)) ∧ IntKind.i64.wrap (IntKind.i64.wrap ((↑((64 : Nat) * n) : Int) + IntKind.i64.wrap ((4 : Int) * (↑t : Int))) + (2 : Int)) < (↑m2.length : Int)) ∧ (IntKind.i64.wrap (IntKind.i64.wrap ((↑((64 : Nat) * n) : Int) + IntKind.i64.wrap ((4 : Int) * (↑t : Int))) + (2 : Int))).toNat < m2.length ∧ (0 : Int) ≤ (8 : Int) ∧ ((0 : Int) ≤ IntKind.i64.wrap (IntKind.i64.wrap ((↑((64 : Nat) * n) : Int) + IntKind.i64.wrap ((4 : Int) * (↑t : Int))) + (3 : Int)) ∧ IntKind.i64.wrap (IntKind.i64.wrap ((↑((64 : Nat) * n) : Int) + IntKind.i64.wrap ((4 : Int) * (↑t : Int))) + (3 : Int)) < (↑m2.length : Int)) ∧ (IntKind.i64.wrap (IntKind.i64.wrap ((↑((64 : Nat) * n) : Int) + IntKind.i64.wrap ((4 : Int) * (↑t : Int))) + (3 : Int))).toNat < m2.length ∧ (0 : Nat) + (1 : Nat) ≤ (1 : Nat) ∧ L ≤ L ∧ (L + (1 : Nat)) * (4 : Nat) ≤ (140737488355328 : Nat) ∧ L + (1 : Nat) ≤ (4611686018427387904 : Nat) ∧ (suE m2 hs (↑((64 : Nat) * n) : Int) (IntKind.i64.wrap ((↑t : Int) + (1 : Int)), L + (1 : Nat), List.take L ws ++ List.take (1 : Nat) [bitOp BinOp.or IntKind.u32 (bitOp BinOp.or IntKind.u32 (bitOp BinOp.or IntKind.u32 (IntKind.u32.wrap (IntKind.u32.wrap (m2.getD (IntKind.i64.wrap ((↑((64 : Nat) * n) : Int) + IntKind.i64.wrap ((4 : Int) * (↑t : Int)))).toNat (0 : Int)) * (2 : Int) ^ min (24 : Nat) IntKind.u32.bits)) (IntKind.u32.wrap (IntKind.u32.wrap (m2.getD (IntKind.i64.wrap (IntKind.i64.wrap ((↑((64 : Nat) * n) : Int) + IntKind.i64.wrap ((4 : Int) * (↑t : Int))) + (1 : Int))).toNat (0 : Int)) * (2 : Int) ^ min (16 : Nat) IntKind.u32.bits))) (IntKind.u32.wrap (IntKind.u32.wrap (m2.getD (IntKind.i64.wrap (IntKind.i64.wrap ((↑((64 : Nat) * n) : Int) + IntKind.i64.wrap ((4 : Int) * (↑t : Int))) + (2 : Int))).toNat (0 : Int)) * (2 : Int) ^ min (8 : Nat) IntKind.u32.bits))) (IntKind.u32.wrap (m2.getD (IntKind.i64.wrap (IntKind.i64.wrap ((↑((64 : Nat) * n) : Int) + IntKind.i64.wrap ((4 : Int) * (↑t : Int))) + (3 : Int))).toNat (0 : Int)))])).triv ((∃ j, j ≤ (16 : Nat) ∧ IntKind.i64.wrap ((↑t : Int) + (1 : Int)) = (↑j : Int) ∧ L + (1 : Nat) = j ∧ List.take L ws ++ List.take (1 : Nat) [bitOp BinOp.or IntKind.u32 (bitOp BinOp.or IntKind.u32 (bitOp BinOp.or IntKind.u32 (IntKind.u32.wrap (IntKind.u32.wrap (m2.getD (IntKind.i64.wrap ((↑((64 : Nat) * n) : Int) + IntKind.i64.wrap ((4 : Int) * (↑t : Int)))).toNat (0 : Int)) * (2 : Int) ^ min (24 : Nat) IntKind.u32.bits)) (IntKind.u32.wrap (IntKind.u32.wrap (m2.getD (IntKind.i64.wrap (IntKind.i64.wrap ((↑((64 : Nat) * n) : Int) + IntKind.i64.wrap ((4 : Int) * (↑t : Int))) + (1 : Int))).toNat (0 : Int)) * (2 : Int) ^ min (16 : Nat) IntKind.u32.bits))) (IntKind.u32.wrap (IntKind.u32.wrap (m2.getD (IntKind.i64.wrap (IntKind.i64.wrap ((↑((64 : Nat) * n) : Int) + IntKind.i64.wrap ((4 : Int) * (↑t : Int))) + (2 : Int))).toNat (0 : Int)) * (2 : Int) ^ min (8 : Nat) IntKind.u32.bits))) (IntKind.u32.wrap (m2.getD (IntKind.i64.wrap (IntKind.i64.wrap ((↑((64 : Nat) * n) : Int) + IntKind.i64.wrap ((4 : Int) * (↑t : Int))) + (3 : Int))).toNat (0 : Int)))] = List.take j (wAk p (16 : Nat))) ∧ (16 : Nat) - (IntKind.i64.wrap ((↑t : Int) + (1 : Int))).toNat < (16 : Nat) - (↑t : Int).toNat)) ∧ (decide ((↑t : Int) < (16 : Int)) = false → (suE m2 hs (↑((64 : Nat) * n) : Int) ((↑t : Int), L, ws)).triv (L = (16 : Nat) ∧ ws = List.take (16 : Nat) (wAk p (16 : Nat)))))) (by kernel_rfl) ?_
      have lm3 : m2.length ≤ 1099511627904 := by omega
      have q0 : IntKind.i64.wrap (4 * (t : Int)) = ((4 * t : Nat) : Int) := by rw [wrap_i64' (by omega) (by omega)]; omega
      have q1 : IntKind.i64.wrap (((64 * n : Nat) : Int) + ((4 * t : Nat) : Int)) = ((64 * n + 4 * t : Nat) : Int) := by rw [wrap_i64' (by omega) (by omega)]; omega
      have q2 : IntKind.i64.wrap (((64 * n + 4 * t : Nat) : Int) + 1) = ((64 * n + (4 * t + 1) : Nat) : Int) := by rw [wrap_i64' (by omega) (by omega)]; omega
      have q3 : IntKind.i64.wrap (((64 * n + 4 * t : Nat) : Int) + 2) = ((64 * n + (4 * t + 2) : Nat) : Int) := by rw [wrap_i64' (by omega) (by omega)]; omega
      have q4 : IntKind.i64.wrap (((64 * n + 4 * t : Nat) : Int) + 3) = ((64 * n + (4 * t + 3) : Nat) : Int) := by rw [wrap_i64' (by omega) (by omega)]; omega
      have pg : ∀ j, j < 64 → m2.getD (64 * n + j) 0 = p.getD j 0 := by
        intro j hj
        rw [hpd, take_get _ hj, List.getD_eq_getElem?_getD, List.getD_eq_getElem?_getD, List.getElem?_drop]
      have lw : ws.length = L := by rw [kw, List.length_take, wAk_len]; omega
      rw [q0, q1, q2, q3, q4]
      simp only [Int.toNat_natCast]
      refine ⟨fun h => ?_, fun h => triv_intro ?_⟩
      · have h16 : t < 16 := by have := dT h; omega
        rw [pg (4 * t) (by omega), pg (4 * t + 1) (by omega), pg (4 * t + 2) (by omega), pg (4 * t + 3) (by omega), wrap_succ (by omega), List.take_of_length_le (Nat.le_of_eq lw)]
        repeat refine ⟨by omega, ?_⟩
        refine triv_intro ⟨⟨t + 1, h16, rfl, by omega, ?_⟩, by omega⟩
        rw [take_succ_get (wAk p 16) (n := t) (by rw [wAk_len]; omega), wAk_get pB pl 16 (Nat.le_refl _) t, if_pos h16, kw]; rfl
      · have e : t = 16 := by have := dF h; omega
        exact ⟨by omega, by rw [kw, e]⟩
    rintro ⟨j, L, ws⟩ hj
    revert j ws
    intro (j : Int) (ws : List Int) ⟨eL, ew⟩
    have kL : L = 16 := eL
    have kw : ws = (wAk p 16).take 16 := ew
    refine tr_cut hsp mixed 1 (suF m2 hs ((64 * n : Nat) : Int) (16, L, ws)) True ?_ (fun _ => ?_)
    · refine vcx (X := ((suF m2 hs (↑((64 : Nat) * n) : Int) ((16 : Int), L, ws)).triv True)) (by kernel_rfl) ?_
      exact triv_intro trivial
    refine tr_while hsp mixed (fun σ => [(104, rdI 11 σ)]) (fun σ => (rdS (.int .i64) 14 σ, rdL 11 σ, rdR uK 104 σ)) (suF m2 hs ((64 * n : Nat) : Int)) (fun g => ∃ j : Nat, j ≤ 48 ∧ g.1 = ((16 + j : Nat) : Int) ∧ g.2.1 = 16 + j ∧ g.2.2 = (wCk (wAk p 16) j).take (16 + j)) (fun g => 64 - g.1.toNat)
      (fun σ => (rdS (.int .i64) 14 σ, rdL 11 σ, rdR uK 104 σ)) (suF m2 hs ((64 * n : Nat) : Int)) (fun g => g.2.1 = 64 ∧ g.2.2 = wCk (wAk p 16) 48) (16, L, ws) (c := nthC (bodyOf (nthC (loopOf (nthC (codeOf Tryd.f43) 12)) 2)) 4) (by kernel_rfl) (by kernel_rfl) (le_of_proj (by kernel_rfl) (by kernel_rfl) ?_) ?_ ?_
    · exact ⟨0, by decide, rfl, kL, kw⟩
    · rintro ⟨j, L, ws⟩ hj
      revert j ws
      intro (j : Int) (ws : List Int) ⟨t, ht, ej, eL, ew⟩
      have kj : j = ((16 + t : Nat) : Int) := ej
      have kL2 : L = 16 + t := eL
      have kw2 : ws = (wCk (wAk p 16) t).take (16 + t) := ew
      subst kj
      refine vcx (X := ((decide ((↑((16 : Nat) + t) : Int) < (64 : Int)) = true → ((0 : Int) ≤ IntKind.i64.wrap ((↑((16 : Nat) + t) : Int) - (15 : Int)) ∧ IntKind.i64.wrap ((↑((16 : Nat) + t) : Int) - (15 : Int)) < (↑L : Int)) ∧ (IntKind.i64.wrap ((↑((16 : Nat) + t) : Int) - (15 : Int))).toNat < L ∧ ((0 : Int) ≤ (7 : Int) ∧ (7 : Int) ≤ (32 : Int)) ∧ ((0 : Int) ≤ IntKind.i64.wrap ((↑((16 : Nat) + t) : Int) - (15 : Int)) ∧ IntKind.i64.wrap ((↑((16 : Nat) + t) : Int) - (15 : Int)) < (↑L : Int)) ∧ (IntKind.i64.wrap ((↑((16 : Nat) + t) : Int) - (15 : Int))).toNat < L ∧ ((0 : Int) ≤ (18 : Int) ∧ (18 : Int) ≤ (32 : Int)) ∧ ((0 : Int) ≤ IntKind.i64.wrap ((↑((16 : Nat) + t) : Int) - (15 : Int)) ∧ IntKind.i64.wrap ((↑((16 : Nat) + t) : Int) - (15 : Int)) < (↑L : Int)) ∧ (IntKind.i64.wrap ((↑((16 : Nat) + t) : Int) - (15 : Int))).toNat < L ∧ (0 : Int) ≤ (3 : Int) ∧ ((0 : Int) ≤ IntKind.i64.wrap ((↑((16 : Nat) + t) : Int) - (2 : Int)) ∧ IntKind.i64.wrap ((↑((16 : Nat) + t) : Int) - (2 : Int)) < (↑L : Int)) ∧ (IntKind.i64.wrap ((↑((16 : Nat) + t) : Int) - (2 : Int))).toNat < L ∧ ((0 : Int) ≤ (17 : Int) ∧ (17 : Int) ≤ (32 : Int)) ∧ ((0 : Int) ≤ IntKind.i64.wrap ((↑((16 : Nat) + t) : Int) - (2 : Int)) ∧ IntKind.i64.wrap ((↑((16 : Nat) + t) : Int) - (2 : Int)) < (↑L : Int)) ∧ (IntKind.i64.wrap ((↑((16 : Nat) + t) : Int) - (2 : Int))).toNat < L ∧ ((0 : Int) ≤ (19 : Int) ∧ (19 : Int) ≤ (32 : Int)) ∧ ((0 : Int) ≤ IntKind.i64.wrap ((↑((16 : Nat) + t) : Int) - (2 : Int)) ∧ IntKind.i64.wrap ((↑((16 : Nat) + t) : Int) - (2 : Int)) < (↑L : Int)) ∧ (IntKind.i64.wrap ((↑((16 : Nat) + t) : Int) - (2 : Int))).toNat < L ∧ (0 : Int) ≤ (10 : Int) ∧ ((0 : Int) ≤ IntKind.i64.wrap ((↑((16 : Nat) + t) : Int) - (16 : Int)) ∧ IntKind.i64.wrap ((↑((16 : Nat) + t) : Int) - (16 : Int)) < (↑L : Int)) ∧ (IntKind.i64.wrap ((↑((16 : Nat) + t) : Int) - (16 : Int))).toNat < L ∧ ((0 : Int) ≤ IntKind.i64.wrap ((↑((16 : Nat) + t) : Int) - (7 : Int)) ∧ IntKind.i64.wrap ((↑((16 : Nat) + t) : Int) - (7 : Int)) < (↑L : Int)) ∧ (IntKind.i64.wrap ((↑((16 : Nat) + t) : Int) - (7 : Int))).toNat < L ∧ (0 : Nat) + (1 : Nat) ≤ (1 : Nat) ∧ L ≤ L ∧ (L + (1 : Nat)) * (4 : Nat) ≤ (140737488355328 : Nat) ∧ L + (1 : Nat) ≤ (4611686018427387904 : Nat) ∧ (suF m2 hs (↑((64 : Nat) * n) : Int) (IntKind.i64.wrap ((↑((16 : Nat) + t) : Int) + (1 : Int)), L + (1 : Nat), List.take L ws ++ List.take (1 : Nat) [IntKind.u32.wrap (IntKind.u32.wrap (IntKind.u32.wrap (ws.getD (IntKind.i64.wrap ((↑((16 : Nat) + t) : Int) - (16 : Int))).toNat (0 : Int) + bitOp BinOp.xor IntKind.u32 (bitOp BinOp.xor IntKind.u32 (tno (ws.getD (IntKind.i64.wrap ((↑((16 : Nat) + t) : Int) - (15 : Int))).toNat (0 : Int)) (7 : Int), ()).fst (tno (ws.getD (IntKind.i64.wrap ((↑((16 : Nat) + t) : Int) - (15 : Int))).toNat (0 : Int)) (18 : Int), ()).fst) ((ws.getD (IntKind.i64.wrap ((↑((16 : Nat) + t) : Int) - (15 : Int))).toNat (0 : Int)).fdiv ((2 : Int) ^ min (3 : Nat) IntKind.u32.bits))) + ws.getD (IntKind.i64.wrap ((↑((16 : Nat) + t) : Int) - (7 : Int))).toNat (0 : Int)) + bitOp BinOp.xor IntKind.u32 (bitOp BinOp.xor IntKind.u32 (tno (ws.getD (IntKind.i64.wrap ((↑((16 : Nat) + t) : Int) - (2 : Int))).toNat (0 : Int)) (17 : Int), ()).fst (tno (ws.getD (IntKind.i64.wrap ((↑((16 : Nat) + t) : Int) - (2 : Int))).toNat (0 : Int)) (19 : Int), ()).fst) ((ws.getD (IntKind.i64.wrap ((↑((16 : Nat) + t) : Int) - (2 : Int))).toNat (0 : Int)).fdiv ((2 : Int) ^ min (10 : Nat) IntKind.u32.bits)))])).triv ((∃ j, j ≤ (48 : Nat) ∧ IntKind.i64.wrap ((↑((16 : Nat) + t) : Int) + (1 : Int)) = (↑((16 : Nat) + j) : Int) ∧ L + (1 : Nat) = (16 : Nat) + j ∧ List.take L ws ++ List.take (1 : Nat) [IntKind.u32.wrap (IntKind.u32.wrap (IntKind.u32.wrap (ws.getD (IntKind.i64.wrap ((↑((16 : Nat) + t) : Int) - (16 : Int))).toNat (0 : Int) + bitOp BinOp.xor IntKind.u32 (bitOp BinOp.xor IntKind.u32 (tno (ws.getD (IntKind.i64.wrap ((↑((16 : Nat) + t) : Int) - (15 : Int))).toNat (0 : Int)) (7 : Int)) (tno (ws.getD (IntKind.i64.wrap ((↑((16 : Nat) + t) : Int) - (15 : Int))).toNat (0 : Int)) (18 : Int))) ((ws.getD (IntKind.i64.wrap ((↑((16 : Nat) + t) : Int) - (15 : Int))).toNat (0 : Int)).fdiv ((2 : Int) ^ min (3 : Nat) IntKind.u32.bits))) + ws.getD (IntKind.i64.wrap ((↑((16 : Nat) + t) : Int) - (7 : Int))).toNat (0 : Int)) + bitOp BinOp.xor IntKind.u32 (bitOp BinOp.xor IntKind.u32 (tno (ws.getD (IntKind.i64.wrap ((↑((16 : Nat) + t) : Int) - (2 : Int))).toNat (0 : Int)) (17 : Int)) (tno (ws.getD (IntKind.i64.wrap ((↑((16 : Nat) + t) : Int) - (2 : Int))).toNat (0 : Int)) (19 : Int))) ((ws.getD (IntKind.i64.wrap ((↑((16 : Nat) + t) : Int) - (2 : Int))).toNat (0 : Int)).fdiv ((2 : Int) ^ min (10 : Nat) IntKind.u32.bits)))] = List.take ((16 : Nat) + j) (wCk (wAk p (16 : Nat)) j)) ∧ (64 : Nat) - (IntKind.i64.wrap ((↑((16 : Nat) + t) : Int) + (1 : Int))).toNat < (64 : Nat) - (↑((16 : Nat) + t) : Int).toNat)) ∧ (decide ((↑((16 : Nat) + t) : Int) < (64 : Int)) = false → (suF m2 hs (↑((64 : Nat) * n) : Int) ((↑((16 : Nat) + t) : Int), L, ws)).triv (L = (64 : Nat) ∧ ws = wCk (wAk p (16 : Nat)) (48 : Nat))))) (by kernel_rfl) ?_
      have lW : (wCk (wAk p 16) t).length = 64 := by rw [wCk_len, wAk_len]
      have lw : ws.length = L := by rw [kw2, List.length_take, lW]; omega
      have wg : ∀ j, j < 16 + t → ws.getD j 0 = (wCk (wAk p 16) t).getD j 0 := fun j hj => by rw [kw2, take_get _ hj]
      have r1 : IntKind.i64.wrap (((16 + t : Nat) : Int) - 15) = ((t + 1 : Nat) : Int) := by rw [wrap_i64' (by omega) (by omega)]; omega
      have r2 : IntKind.i64.wrap (((16 + t : Nat) : Int) - 2) = ((t + 14 : Nat) : Int) := by rw [wrap_i64' (by omega) (by omega)]; omega
      have r3 : IntKind.i64.wrap (((16 + t : Nat) : Int) - 16) = ((t : Nat) : Int) := by rw [wrap_i64' (by omega) (by omega)]; omega
      have r4 : IntKind.i64.wrap (((16 + t : Nat) : Int) - 7) = ((t + 9 : Nat) : Int) := by rw [wrap_i64' (by omega) (by omega)]; omega
      have r5 : IntKind.i64.wrap (((16 + t : Nat) : Int) + 1) = ((16 + (t + 1) : Nat) : Int) := by rw [wrap_i64' (by omega) (by omega)]; omega
      rw [r1, r2, r3, r4, r5]
      simp only [Int.toNat_natCast]
      refine ⟨fun h => ?_, fun h => triv_intro ?_⟩
      · have h48 : t < 48 := by have := dT h; omega
        rw [wg (t + 1) (by omega), wg (t + 14) (by omega), wg t (by omega), wg (t + 9) (by omega), tn_7, tn_18, tn_17, tn_19, List.take_of_length_le (Nat.le_of_eq lw)]
        repeat refine ⟨by omega, ?_⟩
        refine triv_intro ⟨⟨t + 1, h48, rfl, by omega, ?_⟩, by omega⟩
        show _ = (wC (wCk (wAk p 16) t) t).take (16 + (t + 1))
        have e16 : 16 + (t + 1) = (t + 16) + 1 := by omega
        rw [e16, wC, take_set_succ (wCk (wAk p 16) t) _ (by omega), kw2, show 16 + t = t + 16 from Nat.add_comm _ _]
        rfl
      · have e : t = 48 := by have := dF h; omega
        refine ⟨by omega, ?_⟩
        rw [kw2, e]
        exact List.take_of_length_le (by rw [wCk_len, wAk_len]; exact Nat.le_refl _)
    rintro ⟨j, L, ws⟩ hj
    revert j ws
    intro (j : Int) (ws : List Int) ⟨eL, ew⟩
    have kL3 : L = 64 := eL
    have kw3 : ws = wCk (wAk p 16) 48 := ew
    rw [kL3]
    refine tr_cutF hsp mixed 2 (fun σ => rdR uK 144 σ) (fun vs => suG m2 hs ws ((64 * n : Nat) : Int) (0, vs)) (fun vs => vs = hs) ?_ ?_
    · refine vcx (X := ((0 : Nat) + (8 : Nat) ≤ (8 : Nat) ∧ (0 : Nat) ≤ (0 : Nat) ∧ ((0 : Nat) + (8 : Nat)) * (4 : Nat) ≤ (140737488355328 : Nat) ∧ (0 : Nat) + (8 : Nat) ≤ (4611686018427387904 : Nat) ∧ (suG m2 hs ws (↑((64 : Nat) * n) : Int) ((0 : Int), List.take (0 : Nat) [] ++ List.take (8 : Nat) hs)).triv (List.take (0 : Nat) [] ++ List.take (8 : Nat) hs = hs))) (by kernel_rfl) ?_
      have lh : hs.length = 8 := by rw [kh]; exact absK_8 _ _
      have e0 : List.take 0 ([] : List Int) ++ List.take 8 hs = hs := by
        rw [List.take_of_length_le (Nat.le_of_eq lh)]; rfl
      rw [e0]
      exact ⟨by omega, by omega, by omega, by omega, triv_intro rfl⟩
    rintro vs0 hvs
    revert vs0
    intro (vs0 : List Int) (hvs : vs0 = hs)
    have lhs : hs.length = 8 := by rw [kh]; exact absK_8 _ _
    refine tr_while hsp mixed (fun σ => [(144, rdI 17 σ)]) (fun σ => (rdS (.int .i64) 18 σ, rdR uK 144 σ)) (suG m2 hs ws ((64 * n : Nat) : Int)) (fun g => ∃ j : Nat, j ≤ 64 ∧ g.1 = (j : Int) ∧ g.2 = vCk ws hs j) (fun g => 64 - g.1.toNat)
      (fun σ => (rdS (.int .i64) 18 σ, rdR uK 144 σ)) (suG m2 hs ws ((64 * n : Nat) : Int)) (fun g => g.2 = vCk ws hs 64) (0, vs0) (c := nthC (bodyOf (nthC (loopOf (nthC (codeOf Tryd.f43) 12)) 2)) 7) (by kernel_rfl) (by kernel_rfl) (le_of_proj (by kernel_rfl) (by kernel_rfl) ?_) ?_ ?_
    · exact ⟨0, by decide, rfl, hvs⟩
    · rintro ⟨j, vs⟩ hj
      revert j vs
      intro (j : Int) (vs : List Int) ⟨t, ht, ej, ev⟩
      have kj : j = (t : Int) := ej
      have kv : vs = vCk ws hs t := ev
      subst kj
      obtain ⟨v0, v1, v2, v3, v4, v5, v6, v7, e8⟩ := eight (vCk_len ws lhs t)
      rw [kv, e8]
      refine vcx (X := ((decide ((↑t : Int) < (64 : Int)) = true → ((0 : Int) ≤ (7 : Int) ∧ (7 : Int) < (↑(8 : Nat) : Int)) ∧ (7 : Nat) < (8 : Nat) ∧ ((0 : Int) ≤ (4 : Int) ∧ (4 : Int) < (↑(8 : Nat) : Int)) ∧ (4 : Nat) < (8 : Nat) ∧ ((0 : Int) ≤ (6 : Int) ∧ (6 : Int) ≤ (32 : Int)) ∧ ((0 : Int) ≤ (4 : Int) ∧ (4 : Int) < (↑(8 : Nat) : Int)) ∧ (4 : Nat) < (8 : Nat) ∧ ((0 : Int) ≤ (11 : Int) ∧ (11 : Int) ≤ (32 : Int)) ∧ ((0 : Int) ≤ (4 : Int) ∧ (4 : Int) < (↑(8 : Nat) : Int)) ∧ (4 : Nat) < (8 : Nat) ∧ ((0 : Int) ≤ (25 : Int) ∧ (25 : Int) ≤ (32 : Int)) ∧ ((0 : Int) ≤ (4 : Int) ∧ (4 : Int) < (↑(8 : Nat) : Int)) ∧ (4 : Nat) < (8 : Nat) ∧ ((0 : Int) ≤ (5 : Int) ∧ (5 : Int) < (↑(8 : Nat) : Int)) ∧ (5 : Nat) < (8 : Nat) ∧ ((0 : Int) ≤ (4 : Int) ∧ (4 : Int) < (↑(8 : Nat) : Int)) ∧ (4 : Nat) < (8 : Nat) ∧ ((0 : Int) ≤ (6 : Int) ∧ (6 : Int) < (↑(8 : Nat) : Int)) ∧ (6 : Nat) < (8 : Nat) ∧ ((0 : Int) ≤ (↑t : Int) ∧ (↑t : Int) < (↑rootsL.length : Int)) ∧ (↑t : Int).toNat < rootsL.length ∧ ((0 : Int) ≤ (↑t : Int) ∧ (↑t : Int) < (↑(64 : Nat) : Int)) ∧ (↑t : Int).toNat < (64 : Nat) ∧ ((0 : Int) ≤ (0 : Int) ∧ (0 : Int) < (↑(8 : Nat) : Int)) ∧ (0 : Nat) < (8 : Nat) ∧ ((0 : Int) ≤ (2 : Int) ∧ (2 : Int) ≤ (32 : Int)) ∧ ((0 : Int) ≤ (0 : Int) ∧ (0 : Int) < (↑(8 : Nat) : Int)) ∧ (0 : Nat) < (8 : Nat) ∧ ((0 : Int) ≤ (13 : Int) ∧ (13 : Int) ≤ (32 : Int)) ∧ ((0 : Int) ≤ (0 : Int) ∧ (0 : Int) < (↑(8 : Nat) : Int)) ∧ (0 : Nat) < (8 : Nat) ∧ ((0 : Int) ≤ (22 : Int) ∧ (22 : Int) ≤ (32 : Int)) ∧ ((0 : Int) ≤ (0 : Int) ∧ (0 : Int) < (↑(8 : Nat) : Int)) ∧ (0 : Nat) < (8 : Nat) ∧ ((0 : Int) ≤ (1 : Int) ∧ (1 : Int) < (↑(8 : Nat) : Int)) ∧ (1 : Nat) < (8 : Nat) ∧ ((0 : Int) ≤ (0 : Int) ∧ (0 : Int) < (↑(8 : Nat) : Int)) ∧ (0 : Nat) < (8 : Nat) ∧ ((0 : Int) ≤ (2 : Int) ∧ (2 : Int) < (↑(8 : Nat) : Int)) ∧ (2 : Nat) < (8 : Nat) ∧ ((0 : Int) ≤ (1 : Int) ∧ (1 : Int) < (↑(8 : Nat) : Int)) ∧ (1 : Nat) < (8 : Nat) ∧ ((0 : Int) ≤ (2 : Int) ∧ (2 : Int) < (↑(8 : Nat) : Int)) ∧ (2 : Nat) < (8 : Nat) ∧ ((0 : Int) ≤ (0 : Int) ∧ (0 : Int) < (↑(8 : Nat) : Int)) ∧ (0 : Nat) < (8 : Nat) ∧ ((0 : Int) ≤ (1 : Int) ∧ (1 : Int) < (↑(8 : Nat) : Int)) ∧ (1 : Nat) < (8 : Nat) ∧ ((0 : Int) ≤ (2 : Int) ∧ (2 : Int) < (↑(8 : Nat) : Int)) ∧ (2 : Nat) < (8 : Nat) ∧ ((0 : Int) ≤ (3 : Int) ∧ (3 : Int) < (↑(8 : Nat) : Int)) ∧ (3 : Nat) < (8 : Nat) ∧ ((0 : Int) ≤ (4 : Int) ∧ (4 : Int) < (↑(8 : Nat) : Int)) ∧ (4 : Nat) < (8 : Nat) ∧ ((0 : Int) ≤ (5 : Int) ∧ (5 : Int) < (↑(8 : Nat) : Int)) ∧ (5 : Nat) < (8 : Nat) ∧ ((0 : Int) ≤ (6 : Int) ∧ (6 : Int) < (↑(8 : Nat) : Int)) ∧ (6 : Nat) < (8 : Nat) ∧ (suG m2 hs ws (↑((64 : Nat) * n) : Int) (IntKind.i64.wrap ((↑t : Int) + (1 : Int)), [IntKind.u32.wrap (IntKind.u32.wrap (IntKind.u32.wrap (IntKind.u32.wrap (IntKind.u32.wrap (v7 + bitOp BinOp.xor IntKind.u32 (bitOp BinOp.xor IntKind.u32 (tno v4 (6 : Int), ()).fst (tno v4 (11 : Int), ()).fst) (tno v4 (25 : Int), ()).fst) + bitOp BinOp.xor IntKind.u32 (bitOp BinOp.and IntKind.u32 v4 v5) (bitOp BinOp.and IntKind.u32 (bitOp BinOp.xor IntKind.u32 (if IntKind.u32.signed = true then (-1 : Int) else IntKind.u32.max) v4) v6)) + rootsL.getD (↑t : Int).toNat (0 : Int)) + ws.getD (↑t : Int).toNat (0 : Int)) + IntKind.u32.wrap (bitOp BinOp.xor IntKind.u32 (bitOp BinOp.xor IntKind.u32 (tno v0 (2 : Int), ()).fst (tno v0 (13 : Int), ()).fst) (tno v0 (22 : Int), ()).fst + bitOp BinOp.xor IntKind.u32 (bitOp BinOp.xor IntKind.u32 (bitOp BinOp.and IntKind.u32 v0 v1) (bitOp BinOp.and IntKind.u32 v0 v2)) (bitOp BinOp.and IntKind.u32 v1 v2))), v0, v1, v2, IntKind.u32.wrap (v3 + IntKind.u32.wrap (IntKind.u32.wrap (IntKind.u32.wrap (IntKind.u32.wrap (v7 + bitOp BinOp.xor IntKind.u32 (bitOp BinOp.xor IntKind.u32 (tno v4 (6 : Int), ()).fst (tno v4 (11 : Int), ()).fst) (tno v4 (25 : Int), ()).fst) + bitOp BinOp.xor IntKind.u32 (bitOp BinOp.and IntKind.u32 v4 v5) (bitOp BinOp.and IntKind.u32 (bitOp BinOp.xor IntKind.u32 (if IntKind.u32.signed = true then (-1 : Int) else IntKind.u32.max) v4) v6)) + rootsL.getD (↑t : Int).toNat (0 : Int)) + ws.getD (↑t : Int).toNat (0 : Int))), v4, v5, v6])).triv ((∃ j, j ≤ (64 : Nat) ∧ IntKind.i64.wrap ((↑t : Int) + (1 : Int)) = (↑j : Int) ∧ [IntKind.u32.wrap (IntKind.u32.wrap (IntKind.u32.wrap (IntKind.u32.wrap (IntKind.u32.wrap (v7 + bitOp BinOp.xor IntKind.u32 (bitOp BinOp.xor IntKind.u32 (tno v4 (6 : Int)) (tno v4 (11 : Int))) (tno v4 (25 : Int))) + bitOp BinOp.xor IntKind.u32 (bitOp BinOp.and IntKind.u32 v4 v5) (bitOp BinOp.and IntKind.u32 (bitOp BinOp.xor IntKind.u32 (if IntKind.u32.signed = true then (-1 : Int) else IntKind.u32.max) v4) v6)) + rootsL.getD (↑t : Int).toNat (0 : Int)) + ws.getD (↑t : Int).toNat (0 : Int)) + IntKind.u32.wrap (bitOp BinOp.xor IntKind.u32 (bitOp BinOp.xor IntKind.u32 (tno v0 (2 : Int)) (tno v0 (13 : Int))) (tno v0 (22 : Int)) + bitOp BinOp.xor IntKind.u32 (bitOp BinOp.xor IntKind.u32 (bitOp BinOp.and IntKind.u32 v0 v1) (bitOp BinOp.and IntKind.u32 v0 v2)) (bitOp BinOp.and IntKind.u32 v1 v2))), v0, v1, v2, IntKind.u32.wrap (v3 + IntKind.u32.wrap (IntKind.u32.wrap (IntKind.u32.wrap (IntKind.u32.wrap (v7 + bitOp BinOp.xor IntKind.u32 (bitOp BinOp.xor IntKind.u32 (tno v4 (6 : Int)) (tno v4 (11 : Int))) (tno v4 (25 : Int))) + bitOp BinOp.xor IntKind.u32 (bitOp BinOp.and IntKind.u32 v4 v5) (bitOp BinOp.and IntKind.u32 (bitOp BinOp.xor IntKind.u32 (if IntKind.u32.signed = true then (-1 : Int) else IntKind.u32.max) v4) v6)) + rootsL.getD (↑t : Int).toNat (0 : Int)) + ws.getD (↑t : Int).toNat (0 : Int))), v4, v5, v6] = vCk ws hs j) ∧ (64 : Nat) - (IntKind.i64.wrap ((↑t : Int) + (1 : Int))).toNat < (64 : Nat) - (↑t : Int).toNat)) ∧ (decide ((↑t : Int) < (64 : Int)) = false → (suG m2 hs ws (↑((64 : Nat) * n) : Int) ((↑t : Int), [v0, v1, v2, v3, v4, v5, v6, v7])).triv ([v0, v1, v2, v3, v4, v5, v6, v7] = vCk ws hs (64 : Nat))))) (by kernel_rfl) ?_
      have hrl : rootsL.length = 64 := rfl
      rw [hrl]
      simp only [Int.toNat_natCast]
      refine ⟨fun h => ?_, fun h => triv_intro ?_⟩
      · have h64 : t < 64 := by have := dT h; omega
        rw [tn_6, tn_11, tn_25, tn_2, tn_13, tn_22, wrap_succ (by omega)]
        repeat refine ⟨by omega, ?_⟩
        refine triv_intro ⟨⟨t + 1, h64, rfl, ?_⟩, by omega⟩
        show _ = vC ws (vCk ws hs t) t
        rw [e8, vC]
        have et : ∀ S C R W : Int, IntKind.u32.wrap (IntKind.u32.wrap (IntKind.u32.wrap (IntKind.u32.wrap (v7 + S) + C) + R) + W) = IntKind.u32.wrap (IntKind.u32.wrap (v7 + S) + IntKind.u32.wrap (IntKind.u32.wrap (C + R) + W)) := fun S C R W => by
          simp only [w32_mod]; omega
        rw [et]; rfl
      · have e : t = 64 := by have := dF h; omega
        rw [← e8, e]
    rintro ⟨j, vs⟩ hj
    revert j vs
    intro (j : Int) (vs : List Int) (kv : vs = vCk ws hs 64)
    refine tr_cut hsp mixed 1 (suH m2 vs ((64 * n : Nat) : Int) (0, hs)) True ?_ (fun _ => ?_)
    · refine vcx (X := ((suH m2 vs (↑((64 : Nat) * n) : Int) ((0 : Int), hs)).triv True)) (by kernel_rfl) ?_
      exact triv_intro trivial
    refine tr_while hsp mixed noSw (fun σ => (rdS (.int .i64) 21 σ, rdR uK 40 σ)) (suH m2 vs ((64 * n : Nat) : Int)) (fun g => ∃ j : Nat, j ≤ 8 ∧ g.1 = (j : Int) ∧ g.2 = fCk vs hs j) (fun g => 8 - g.1.toNat)
      (fun σ => (rdS (.int .i64) 21 σ, rdR uK 40 σ)) (suH m2 vs ((64 * n : Nat) : Int)) (fun g => g.2 = fCk vs hs 8) (0, hs) (c := nthC (bodyOf (nthC (loopOf (nthC (codeOf Tryd.f43) 12)) 2)) 9) (by kernel_rfl) (by kernel_rfl) (le_of_proj (by kernel_rfl) (by kernel_rfl) ?_) ?_ ?_
    · exact ⟨0, by decide, rfl, rfl⟩
    · rintro ⟨j, fs⟩ hj
      revert j fs
      intro (j : Int) (fs : List Int) ⟨t, ht, ej, ef⟩
      have kj : j = (t : Int) := ej
      have kf : fs = fCk vs hs t := ef
      subst kj
      refine vcx (X := ((decide ((↑t : Int) < (8 : Int)) = true → ((0 : Int) ≤ (↑t : Int) ∧ (↑t : Int) < (↑(8 : Nat) : Int)) ∧ (↑t : Int).toNat < (8 : Nat) ∧ ((0 : Int) ≤ (↑t : Int) ∧ (↑t : Int) < (↑(8 : Nat) : Int)) ∧ (↑t : Int).toNat < (8 : Nat) ∧ ((0 : Int) ≤ (↑t : Int) ∧ (↑t : Int) < (↑(8 : Nat) : Int)) ∧ (↑t : Int).toNat < (8 : Nat) ∧ (suH m2 vs (↑((64 : Nat) * n) : Int) (IntKind.i64.wrap ((↑t : Int) + (1 : Int)), fs.set (↑t : Int).toNat (IntKind.u32.wrap (fs.getD (↑t : Int).toNat (0 : Int) + vs.getD (↑t : Int).toNat (0 : Int))))).triv ((∃ j, j ≤ (8 : Nat) ∧ IntKind.i64.wrap ((↑t : Int) + (1 : Int)) = (↑j : Int) ∧ fs.set (↑t : Int).toNat (IntKind.u32.wrap (fs.getD (↑t : Int).toNat (0 : Int) + vs.getD (↑t : Int).toNat (0 : Int))) = fCk vs hs j) ∧ (8 : Nat) - (IntKind.i64.wrap ((↑t : Int) + (1 : Int))).toNat < (8 : Nat) - (↑t : Int).toNat)) ∧ (decide ((↑t : Int) < (8 : Int)) = false → (suH m2 vs (↑((64 : Nat) * n) : Int) ((↑t : Int), fs)).triv (fs = fCk vs hs (8 : Nat))))) (by kernel_rfl) ?_
      simp only [Int.toNat_natCast]
      refine ⟨fun h => ?_, fun h => triv_intro ?_⟩
      · have h8 : t < 8 := by have := dT h; omega
        rw [wrap_succ (by omega)]
        repeat refine ⟨by omega, ?_⟩
        refine triv_intro ⟨⟨t + 1, h8, rfl, ?_⟩, by omega⟩
        rw [kf]; rfl
      · have e : t = 8 := by have := dF h; omega
        rw [kf, e]
    rintro ⟨j, fs⟩ hj
    revert j fs
    intro (j : Int) (fs : List Int) (kf : fs = fCk vs hs 8)
    refine tr_nil ?_
    refine tr_vc hsp mixed _ _ ?_
    refine vcx (X := ((suD m2 (IntKind.i64.wrap ((↑((64 : Nat) * n) : Int) + (64 : Int)), fs)).triv ((∃ n_1, n_1 ≤ NB ∧ IntKind.i64.wrap ((↑((64 : Nat) * n) : Int) + (64 : Int)) = (↑((64 : Nat) * n_1) : Int) ∧ fs = absK tko firstL m2 n_1) ∧ m2.length - (IntKind.i64.wrap ((↑((64 : Nat) * n) : Int) + (64 : Int))).toNat < m2.length - (↑((64 : Nat) * n) : Int).toNat))) (by kernel_rfl) ?_
    have lm3 : m2.length ≤ 1099511627904 := by omega
    have en : IntKind.i64.wrap (((64 * n : Nat) : Int) + 64) = ((64 * (n + 1) : Nat) : Int) := by rw [wrap_i64' (by omega) (by omega)]; omega
    rw [en]
    refine triv_intro ⟨⟨n + 1, hlt, rfl, ?_⟩, by omega⟩
    show fs = tko (absK tko firstL m2 n) ((m2.drop (64 * n)).take 64)
    rw [← kh, ← hpd, tko, opq_eq, takeF, kf, kv, kw3]
  rintro ⟨i, hs⟩ hj
  revert i hs
  intro (i : Int) (hs : List Int) (kh : hs = absK tko firstL m2 NB)
  refine tr_cut hsp mixed 2 (suO hs (0, 0, [])) True ?_ (fun _ => ?_)
  · refine vcx (X := ((suO hs ((0 : Int), (0 : Nat), [])).triv True)) (by kernel_rfl) ?_
    exact triv_intro trivial
  refine tr_while hsp mixed (fun σ => [(104, rdI 22 σ)]) (fun σ => (rdS (.int .i64) 23 σ, rdL 22 σ, rdR bK 104 σ)) (suO hs) (fun g => ∃ j : Nat, j ≤ 8 ∧ g.1 = (j : Int) ∧ g.2.1 = 4 * j ∧ g.2.2 = (outB hs).take (4 * j)) (fun g => 8 - g.1.toNat)
    (fun σ => (rdS (.int .i64) 23 σ, rdL 22 σ, rdR bK 104 σ)) (suO hs) (fun g => g.2.1 = 32 ∧ g.2.2 = outB hs) (0, 0, []) (c := nthC (codeOf Tryd.f43) 15) (by kernel_rfl) (by kernel_rfl) (le_of_proj (by kernel_rfl) (by kernel_rfl) ?_) ?_ ?_
  · exact ⟨0, by decide, rfl, rfl, rfl⟩
  · rintro ⟨j, L, os⟩ hj
    revert j os
    intro (j : Int) (os : List Int) ⟨t, ht, ej, eL, eo⟩
    have kj : j = (t : Int) := ej
    have kL : L = 4 * t := eL
    have ko : os = (outB hs).take (4 * t) := eo
    subst kj
    refine vcx (X := ((decide ((↑t : Int) < (8 : Int)) = true → ((0 : Int) ≤ (↑t : Int) ∧ (↑t : Int) < (↑(8 : Nat) : Int)) ∧ (↑t : Int).toNat < (8 : Nat) ∧ (0 : Int) ≤ (24 : Int) ∧ ((0 : Int) ≤ (↑t : Int) ∧ (↑t : Int) < (↑(8 : Nat) : Int)) ∧ (↑t : Int).toNat < (8 : Nat) ∧ (0 : Int) ≤ (16 : Int) ∧ ((0 : Int) ≤ (↑t : Int) ∧ (↑t : Int) < (↑(8 : Nat) : Int)) ∧ (↑t : Int).toNat < (8 : Nat) ∧ (0 : Int) ≤ (8 : Int) ∧ ((0 : Int) ≤ (↑t : Int) ∧ (↑t : Int) < (↑(8 : Nat) : Int)) ∧ (↑t : Int).toNat < (8 : Nat) ∧ (0 : Nat) + (4 : Nat) ≤ (4 : Nat) ∧ L ≤ L ∧ (L + (4 : Nat)) * (1 : Nat) ≤ (140737488355328 : Nat) ∧ L + (4 : Nat) ≤ (4611686018427387904 : Nat) ∧ (suO hs (IntKind.i64.wrap ((↑t : Int) + (1 : Int)), L + (4 : Nat), List.take L os ++ List.take (4 : Nat) [IntKind.u8.wrap ((hs.getD (↑t : Int).toNat (0 : Int)).fdiv ((2 : Int) ^ min (24 : Nat) IntKind.u32.bits)), IntKind.u8.wrap ((hs.getD (↑t : Int).toNat (0 : Int)).fdiv ((2 : Int) ^ min (16 : Nat) IntKind.u32.bits)), IntKind.u8.wrap ((hs.getD (↑t : Int).toNat (0 : Int)).fdiv ((2 : Int) ^ min (8 : Nat) IntKind.u32.bits)), IntKind.u8.wrap (hs.getD (↑t : Int).toNat (0 : Int))])).triv ((∃ j, j ≤ (8 : Nat) ∧ IntKind.i64.wrap ((↑t : Int) + (1 : Int)) = (↑j : Int) ∧ L + (4 : Nat) = (4 : Nat) * j ∧ List.take L os ++ List.take (4 : Nat) [IntKind.u8.wrap ((hs.getD (↑t : Int).toNat (0 : Int)).fdiv ((2 : Int) ^ min (24 : Nat) IntKind.u32.bits)), IntKind.u8.wrap ((hs.getD (↑t : Int).toNat (0 : Int)).fdiv ((2 : Int) ^ min (16 : Nat) IntKind.u32.bits)), IntKind.u8.wrap ((hs.getD (↑t : Int).toNat (0 : Int)).fdiv ((2 : Int) ^ min (8 : Nat) IntKind.u32.bits)), IntKind.u8.wrap (hs.getD (↑t : Int).toNat (0 : Int))] = List.take ((4 : Nat) * j) (outB hs)) ∧ (8 : Nat) - (IntKind.i64.wrap ((↑t : Int) + (1 : Int))).toNat < (8 : Nat) - (↑t : Int).toNat)) ∧ (decide ((↑t : Int) < (8 : Int)) = false → (suO hs ((↑t : Int), L, os)).triv (L = (32 : Nat) ∧ os = outB hs)))) (by kernel_rfl) ?_
    have lo : os.length = L := by rw [ko, List.length_take, outB_len]; omega
    simp only [Int.toNat_natCast]
    refine ⟨fun h => ?_, fun h => triv_intro ?_⟩
    · have h8 : t < 8 := by have := dT h; omega
      have og : ∀ j, j < 4 → (outB hs).getD (4 * t + j) 0 = IntKind.u8.wrap ((hs.getD t 0).fdiv (2 ^ (24 - 8 * j))) := by
        intro j hj
        have hi : 4 * t + j < (outB hs).length := by rw [outB_len]; omega
        rw [List.getD_eq_getElem?_getD, List.getElem?_eq_getElem hi]
        show (outB hs)[4 * t + j] = _
        have hd1 : (4 * t + j) / 4 = t := by omega
        have hd2 : (4 * t + j) % 4 = j := by omega
        simp only [outB, List.getElem_map, List.getElem_range]
        rw [hd1, hd2]
      have lO := outB_len hs
      rw [wrap_succ (by omega), List.take_of_length_le (Nat.le_of_eq lo)]
      repeat refine ⟨by omega, ?_⟩
      refine triv_intro ⟨⟨t + 1, h8, rfl, by omega, ?_⟩, by omega⟩
      have e4 : 4 * (t + 1) = 4 * t + 3 + 1 := by omega
      rw [e4, take_succ_get (outB hs) (n := 4 * t + 3) (by omega), take_succ_get (outB hs) (n := 4 * t + 2) (by omega), take_succ_get (outB hs) (n := 4 * t + 1) (by omega), take_succ_get (outB hs) (n := 4 * t) (by omega), og 3 (by omega), og 2 (by omega), og 1 (by omega), ko]
      have o0 := og 0 (by omega)
      rw [Nat.add_zero] at o0
      rw [o0, List.append_assoc, List.append_assoc, List.append_assoc]
      congr 1
      show [_, _, _, _] = [_, _, _, _]
      have f1 : (hs.getD t 0).fdiv (2 ^ (24 - 8 * 3)) = hs.getD t 0 := by
        show (hs.getD t 0).fdiv 1 = _
        rw [Int.fdiv_eq_ediv_of_nonneg _ (by decide)]; omega
      rw [f1]; rfl
    · have e : t = 8 := by have := dF h; omega
      exact ⟨by omega, by rw [ko, e]; exact List.take_of_length_le (by rw [outB_len]; decide)⟩
  rintro ⟨j, L, os⟩ hj
  revert j os
  intro (j : Int) (os : List Int) ⟨eL, eo⟩
  have kL : L = 32 := eL
  have ko : os = outB hs := eo
  refine tr_vc hsp mixed _ _ ?_
  refine vcx (X := ((0 : Nat) + L ≤ L ∧ (List.take L os, ()) = (dig b, ()))) (by kernel_rfl) ?_
  have lo : os.length = L := by rw [ko, outB_len, kL]
  rw [List.take_of_length_le (Nat.le_of_eq lo), ko, dig, opq_eq, digF, Hs, ← em2, kh]
  have e : m2.length / 64 = NB := by omega
  rw [e]
  exact ⟨Nat.le_of_eq (Nat.zero_add _), rfl⟩
end Go.Proofs.YtbfimfdhmggieaaDoor.ref01
namespace Go.Proofs.YtbfimfdhmggieaaDoor.ref01
set_option maxRecDepth 100000
open Go Go.Eng Go.RowKit Cr Go.Proofs.YtbfimfdhmggieaaDoor Go.Proofs.YtbfimfdhmggieaaDoor.sha Go.Proofs.YtbfimfdhmggieaaDoor.xmd
theorem sBk_w (d : List Int) (i : Nat) (w : List Int) : sBk d i w 4 = wBk d i w 4 := rfl
/-- A word of four bytes. -/
def wd4 (d : List Int) (t : Nat) : Nat := (((d.getD (4 * t) 0).toNat * 256 + (d.getD (4 * t + 1) 0).toNat) * 256 + (d.getD (4 * t + 2) 0).toNat) * 256 + (d.getD (4 * t + 3) 0).toNat
theorem byt1 {d : List Int} (hd : Bs d) (j : Nat) : ∃ n : Nat, d.getD j 0 = (n : Int) ∧ n < 256 := by
  by_cases hj : j < d.length
  · have e : d.getD j 0 = d[j] := by rw [List.getD_eq_getElem?_getD, List.getElem?_eq_getElem hj]; rfl
    have hb := hd _ (List.getElem_mem hj)
    exact ⟨d[j].toNat, by rw [e]; omega, by omega⟩
  · refine ⟨0, ?_, by decide⟩
    rw [List.getD_eq_getElem?_getD, List.getElem?_eq_none (by omega)]; rfl
theorem sAk_get {d : List Int} (hd : Bs d) : ∀ k, k ≤ 8 → ∀ t, (sAk d k).getD t 0 = if t < k then (wd4 d t : Int) else 0
  | 0, _, t => by
    rw [if_neg (by omega)]
    show (List.replicate 8 (0 : Int)).getD t 0 = 0
    rw [List.getD_eq_getElem?_getD, List.getElem?_replicate]
    split <;> rfl
  | k + 1, hk, t => by
    have ih := sAk_get hd k (by omega)
    have hz : (sAk d k).getD k 0 = 0 := by rw [ih k, if_neg (by omega)]
    show (sBk d k (sAk d k) 4).getD t 0 = _
    rw [sBk_w, wBk_get d k _ (by rw [sAk_len]; omega) hz]
    by_cases h : k = t
    · subst h
      rw [if_pos rfl, if_pos (by omega)]
      obtain ⟨a, ea, ha⟩ := byt1 hd (4 * k)
      obtain ⟨b, eb, hb⟩ := byt1 hd (4 * k + 1)
      obtain ⟨c, ec, hc⟩ := byt1 hd (4 * k + 2)
      obtain ⟨e, ee, he⟩ := byt1 hd (4 * k + 3)
      unfold wd4
      rw [ea, eb, ec, ee]
      have z : (0 : Int) = ((0 : Nat) : Int) := rfl
      rw [z, chS_n 0 a (by omega) ha, chS_n _ b (by omega) hb, chS_n _ c (by omega) hc, chS_n _ e (by omega) he]
      simp only [Int.toNat_natCast, Nat.zero_mul, Nat.zero_add]
    · rw [if_neg h, ih t]
      by_cases h2 : t < k
      · rw [if_pos h2, if_pos (by omega)]
      · rw [if_neg h2, if_neg (by omega)]
theorem spl_get {d : List Int} (hd : Bs d) {t : Nat} (ht : t < 8) : (spl d).getD t 0 = (wd4 d t : Int) := by
  rw [spl, opq_eq, sAk_get hd 8 (Nat.le_refl _), if_pos ht]
theorem ovr_get (a b : List Int) (ha : a.length = 8) {t : Nat} (ht : t < 8) : (ovr a b).getD t 0 = bitOp .xor .u32 (a.getD t 0) (b.getD t 0) := by
  have key : ∀ k, k ≤ 8 → ∀ s, (oAk a b k).getD s 0 = if s < k then bitOp .xor .u32 (a.getD s 0) (b.getD s 0) else a.getD s 0 := by
    intro k
    induction k with
    | zero => intro _ s; rw [if_neg (by omega)]; rfl
    | succ k ih =>
      intro hk s
      show (oA b k (oAk a b k)).getD s 0 = _
      rw [oA, getD_set]
      by_cases h : k = s
      · subst h
        rw [if_pos ⟨rfl, by rw [oAk_len]; omega⟩, if_pos (by omega), ih (by omega) k, if_neg (by omega)]
      · rw [if_neg (fun c => h c.1), ih (by omega) s]
        by_cases h2 : s < k
        · rw [if_pos h2, if_pos (by omega)]
        · rw [if_neg h2, if_neg (by omega)]
  rw [ovr, opq_eq, key 8 (Nat.le_refl _), if_pos ht]
theorem bBk_get (w : List Int) (i : Nat) (d : List Int) (hi : 4 * i + 3 < d.length) (x : Nat) : (bBk w i d 4).getD x 0 = if 4 * i ≤ x ∧ x < 4 * i + 4 then IntKind.u8.wrap ((w.getD i 0).fdiv (2 ^ min (24 - 8 * (x - 4 * i)) IntKind.u32.bits)) else d.getD x 0 := by
  have key : ∀ j, j ≤ 4 → ∀ x, (bBk w i d j).getD x 0 = if 4 * i ≤ x ∧ x < 4 * i + j then IntKind.u8.wrap ((w.getD i 0).fdiv (2 ^ min (24 - 8 * (x - 4 * i)) IntKind.u32.bits)) else d.getD x 0 := by
    intro j
    induction j with
    | zero => intro _ x; rw [if_neg (by omega)]; rfl
    | succ j ih =>
      intro hj x
      show (bB w i j (bBk w i d j)).getD x 0 = _
      rw [bB, getD_set]
      by_cases h : 4 * i + j = x
      · rw [if_pos ⟨h, by rw [bBk_len]; omega⟩, if_pos (by omega), show x - 4 * i = j by omega]
      · rw [if_neg (fun c => h c.1), ih (by omega) x]
        by_cases h2 : 4 * i ≤ x ∧ x < 4 * i + j
        · rw [if_pos h2, if_pos (by omega)]
        · rw [if_neg h2, if_neg (by omega)]
  exact key 4 (Nat.le_refl _) x
theorem byt_get (w : List Int) {x : Nat} (hx : x < 32) : (byt w).getD x 0 = IntKind.u8.wrap ((w.getD (x / 4) 0).fdiv (2 ^ min (24 - 8 * (x % 4)) IntKind.u32.bits)) := by
  have key : ∀ k, k ≤ 8 → ∀ x, x < 4 * k → (bAk w k).getD x 0 = IntKind.u8.wrap ((w.getD (x / 4) 0).fdiv (2 ^ min (24 - 8 * (x % 4)) IntKind.u32.bits)) := by
    intro k
    induction k with
    | zero => intro _ x hx; omega
    | succ k ih =>
      intro hk x hx
      show (bBk w k (bAk w k) 4).getD x 0 = _
      rw [bBk_get w k _ (by rw [bAk_len]; omega)]
      by_cases h : 4 * k ≤ x ∧ x < 4 * k + 4
      · rw [if_pos h, show x / 4 = k by omega, show x % 4 = x - 4 * k by omega]
      · rw [if_neg h, ih (by omega) x (by omega)]
  rw [byt, opq_eq]
  exact key 8 (Nat.le_refl _) x (by omega)
theorem xor_byte (A B s : Nat) (hA : A < 4294967296) (hB : B < 4294967296) : IntKind.u8.wrap ((bitOp .xor .u32 (A : Int) (B : Int)).fdiv (2 ^ s)) = (((A / 2 ^ s % 256) ^^^ (B / 2 ^ s % 256) : Nat) : Int) := by
  have e0 : bitOp .xor .u32 (A : Int) (B : Int) = ((A ^^^ B : Nat) : Int) := by
    show IntKind.u32.wrap ((BitVec.ofInt IntKind.u32.bits (A : Int) ^^^ BitVec.ofInt IntKind.u32.bits (B : Int)).toNat : Int) = _
    have e1 : BitVec.ofInt IntKind.u32.bits (A : Int) = BitVec.ofNat IntKind.u32.bits A := BitVec.ofInt_natCast _ _
    have e2 : BitVec.ofInt IntKind.u32.bits (B : Int) = BitVec.ofNat IntKind.u32.bits B := BitVec.ofInt_natCast _ _
    rw [e1, e2, BitVec.toNat_xor, BitVec.toNat_ofNat, BitVec.toNat_ofNat, Nat.mod_eq_of_lt (show A < 2 ^ IntKind.u32.bits from hA), Nat.mod_eq_of_lt (show B < 2 ^ IntKind.u32.bits from hB)]
    have h : A ^^^ B < 2 ^ 32 := Nat.xor_lt_two_pow (show A < 2 ^ 32 from hA) (show B < 2 ^ 32 from hB)
    exact w32 (by omega) (by have : (2 : Nat) ^ 32 = 4294967296 := by decide
                             omega)
  rw [e0, Int.fdiv_eq_ediv_of_nonneg _ (Int.le_of_lt (Int.pow_pos (by decide)))]
  have e3 : ((A ^^^ B : Nat) : Int) / 2 ^ s = (((A ^^^ B) / 2 ^ s : Nat) : Int) := by simp
  rw [e3]
  have e4 : IntKind.u8.wrap (((A ^^^ B) / 2 ^ s : Nat) : Int) = (((A ^^^ B) / 2 ^ s % 256 : Nat) : Int) := by
    simp [IntKind.wrap, IntKind.signed, IntKind.bits]
  rw [e4]
  congr 1
  have e5 : (A ^^^ B) / 2 ^ s = A / 2 ^ s ^^^ B / 2 ^ s := by
    rw [← Nat.shiftRight_eq_div_pow, ← Nat.shiftRight_eq_div_pow, ← Nat.shiftRight_eq_div_pow, Nat.shiftRight_xor_distrib]
  have e6 := Nat.xor_mod_two_pow (a := A / 2 ^ s) (b := B / 2 ^ s) (n := 8)
  rw [e5]
  exact e6
theorem xor8 (a b : Nat) (ha : a < 256) (hb : b < 256) : bitOp .xor .u8 (a : Int) (b : Int) = ((a ^^^ b : Nat) : Int) := by
  show IntKind.u8.wrap ((BitVec.ofInt IntKind.u8.bits (a : Int) ^^^ BitVec.ofInt IntKind.u8.bits (b : Int)).toNat : Int) = _
  have e1 : BitVec.ofInt IntKind.u8.bits (a : Int) = BitVec.ofNat IntKind.u8.bits a := BitVec.ofInt_natCast _ _
  have e2 : BitVec.ofInt IntKind.u8.bits (b : Int) = BitVec.ofNat IntKind.u8.bits b := BitVec.ofInt_natCast _ _
  rw [e1, e2, BitVec.toNat_xor, BitVec.toNat_ofNat, BitVec.toNat_ofNat, Nat.mod_eq_of_lt (show a < 2 ^ IntKind.u8.bits from ha), Nat.mod_eq_of_lt (show b < 2 ^ IntKind.u8.bits from hb)]
  have h : a ^^^ b < 2 ^ 8 := Nat.xor_lt_two_pow (show a < 2 ^ 8 from ha) (show b < 2 ^ 8 from hb)
  have h2 : (2 : Nat) ^ 8 = 256 := by decide
  simp [IntKind.wrap, IntKind.signed, IntKind.bits]
  omega
/-- LAID OVER: byte by byte. -/
def xoL (a b : List Int) (k : Nat) : List Int := (List.range k).map fun i => bitOp .xor .u8 (a.getD i 0) (b.getD i 0)
theorem byt_ovr {a b : List Int} (ha : Bs a) (hb : Bs b) : byt (ovr (spl a) (spl b)) = xoL a b 32 := by
  refine List.ext_getElem (by rw [byt_len, xoL, List.length_map, List.length_range]) fun x h1 h2 => ?_
  have hx : x < 32 := by rw [byt_len] at h1; exact h1
  have e1 : (byt (ovr (spl a) (spl b)))[x] = (byt (ovr (spl a) (spl b))).getD x 0 := by
    rw [List.getD_eq_getElem?_getD, List.getElem?_eq_getElem h1]; rfl
  rw [e1, byt_get _ hx, ovr_get _ _ (spl_len a) (by omega), spl_get ha (by omega), spl_get hb (by omega)]
  simp only [xoL, List.getElem_map, List.getElem_range]
  have bd : ∀ {d : List Int}, Bs d → ∀ t, wd4 d t < 4294967296 ∧ ∀ j, j < 4 → ((wd4 d t / 2 ^ (24 - 8 * j) % 256 : Nat) : Int) = d.getD (4 * t + j) 0 := by
    intro d hd t
    obtain ⟨p, ep, hp⟩ := byt1 hd (4 * t)
    obtain ⟨q, eq, hq⟩ := byt1 hd (4 * t + 1)
    obtain ⟨r, er, hr⟩ := byt1 hd (4 * t + 2)
    obtain ⟨s, es, hs⟩ := byt1 hd (4 * t + 3)
    have ew : wd4 d t = ((p * 256 + q) * 256 + r) * 256 + s := by unfold wd4; rw [ep, eq, er, es]; simp only [Int.toNat_natCast]
    rw [ew]
    refine ⟨by omega, fun j hj => ?_⟩
    have hj4 : j = 0 ∨ j = 1 ∨ j = 2 ∨ j = 3 := by omega
    rcases hj4 with rfl | rfl | rfl | rfl
    · rw [Nat.add_zero, ep]; show (((((p * 256 + q) * 256 + r) * 256 + s) / 16777216 % 256 : Nat) : Int) = _; omega
    · rw [eq]; show (((((p * 256 + q) * 256 + r) * 256 + s) / 65536 % 256 : Nat) : Int) = _; omega
    · rw [er]; show (((((p * 256 + q) * 256 + r) * 256 + s) / 256 % 256 : Nat) : Int) = _; omega
    · rw [es]; show (((((p * 256 + q) * 256 + r) * 256 + s) / 1 % 256 : Nat) : Int) = _; omega
  obtain ⟨a1, a2⟩ := bd ha (x / 4)
  obtain ⟨b1, b2⟩ := bd hb (x / 4)
  have hm : min (24 - 8 * (x % 4)) IntKind.u32.bits = 24 - 8 * (x % 4) := Nat.min_eq_left (show 24 - 8 * (x % 4) ≤ 32 by omega)
  rw [hm, xor_byte _ _ _ a1 b1]
  have ex : 4 * (x / 4) + x % 4 = x := by omega
  have a3 := a2 (x % 4) (by omega)
  have b3 := b2 (x % 4) (by omega)
  rw [ex] at a3 b3
  rw [← a3, ← b3, xor8 _ _ (Nat.mod_lt _ (by decide)) (Nat.mod_lt _ (by decide))]
theorem spl_0 : spl (List.replicate 32 0) = List.replicate 8 0 := by
  rw [spl, opq_eq]; exact of_decide_eq_true (by kernel_rfl)
end Go.Proofs.YtbfimfdhmggieaaDoor.ref01
