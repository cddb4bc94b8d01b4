/- pairing: by computation in natural numbers. -/
import Derived.Test.YtbfimfdhmggieaaGreatMLPckPW
/- tower: Power. -/
namespace Go.Proofs.YtbfimfdhmggieaaGreat.tower
set_option maxRecDepth 100000
open Go Go.Eng Go.RowKit Cr Go.Proofs.YtbfimfdhmggieaaGreat Go.Proofs.YtbfimfdhmggieaaGreat.fp2
theorem ent_power : enters Tryz.prog 54 Tryz.f54 := enters_mk (by kernel_rfl) (by kernel_rfl) (by kernel_rfl)
/-- A number, that many times itself. -/
noncomputable def pwo (x : F12) (n : Nat) : F12 := opq (pwn x n)
theorem pwo_zero (x : F12) : pwo x 0 = 1 := opq_eq _
theorem pwo_sq (x : F12) (n : Nat) : pwo x n * pwo x n = pwo x (2 * n) := by
  rw [pwo, pwo, opq_eq, opq_eq, ← pwn_add, show n + n = 2 * n by omega]
theorem pwo_succ (x : F12) (n : Nat) : pwo x n * x = pwo x (n + 1) := by
  rw [pwo, pwo, opq_eq, opq_eq]; rfl
abbrev prePow : HL [f12k, .sl (.int .u8)] → Prop := fun (_, e, _) => Bs e ∧ List.length e ≤ 1048576
noncomputable abbrev outPower : HL [f12k, .sl (.int .u8)] → HO [.val f12k] := fun (x, e, _) => (pwo x (num e).toNat, ())
abbrev c12 (x : F12) : List Cell := cellsOf f12k x
noncomputable def pwA (x : F12) (e : List Int) (g : Int × F12 × Bool) : St := mkSt Tryz.f54.ntmps 72 [(2, .is (.one (.ptr 0 0))), (4, .is (.one (.ptr 8 0))), (5, .is (.one (.ptr 24 0))), (6, .is (.one (.v (.bool g.2.2)))), (11, .is (.one (.ro (.int .u8) e))), (12, sI .i64 e.length), (13, sI .i64 g.1)] [(24, c12 g.2.1), (8, c12 0), (0, c12 x)]
noncomputable def pwB (x : F12) (e : List Int) (i b : Int) (g : Int × F12 × Bool) : St := mkSt Tryz.f54.ntmps 72 [(2, .is (.one (.ptr 0 0))), (4, .is (.one (.ptr 8 0))), (5, .is (.one (.ptr 24 0))), (6, .is (.one (.v (.bool g.2.2)))), (8, sI .u8 b), (11, .is (.one (.ro (.int .u8) e))), (12, sI .i64 e.length), (13, sI .i64 i), (17, sI .i64 g.1)] [(24, c12 g.2.1), (8, c12 0), (0, c12 x)]
def pwJ (x : F12) (n : Nat) (y : F12) (bg : Bool) : Prop := y = pwo x n ∧ (bg = false → n = 0)
theorem and_u8 (n : Nat) (hn : n < 256) : bitOp .and .u8 (n : Int) 1 = ((n % 2 : Nat) : Int) := by
  have e : ((BitVec.ofInt 8 (n : Int) &&& BitVec.ofInt 8 1 : BitVec 8).toNat) = n % 2 := by
    rw [BitVec.toNat_and, BitVec.toNat_ofInt, BitVec.toNat_ofInt]
    have h1 : ((n : Int) % ((2 ^ 8 : Nat) : Int)).toNat = n := by omega
    have h2 : ((1 : Int) % ((2 ^ 8 : Nat) : Int)).toNat = 1 := by omega
    rw [h1, h2, Nat.and_one_is_mod]
  show IntKind.u8.wrap (((BitVec.ofInt 8 (n : Int) &&& BitVec.ofInt 8 1 : BitVec 8).toNat : Nat) : Int) = _
  rw [e]
  simp only [IntKind.wrap, IntKind.signed, IntKind.bits]
  simp; omega
theorem fn_power : FnOk Tryz.prog 54 [f12k, .sl (.int .u8)] [.val f12k] noG prePow outPower := by
  have hsp : SpecsOk Tryz.prog (sps [spOne, spSquare, spMul]) := sps_cons (fnSpec_ok fn_one) (sps_cons (fnSpec_ok fn_square) (sps_cons (fnSpec_ok fn_mul) sps_nil))
  refine fn_of_tr (sp := sps [spOne, spSquare, spMul]) ent_power (by decide) (by decide) (by kernel_rfl) ?_
  rintro w M0 ⟨x, e, ⟨⟩⟩
  revert x e
  intro (x : F12) (e : List Int) _ hp
  have hbs : Bs e := hp.1
  have hel : e.length ≤ 1048576 := hp.2
  show Tr _ _ _ _ _ _ _
  refine tr_cutB hsp mixed 3 6 (fun σ => rdS .bool 6 σ) (fun bg => pwA x e (0, 1, bg)) (fun bg => bg = false) ?_ ?_
  · refine vcx (X := (True ∧ (pwA x e ((0 : Int), (1 : F12), false)).triv (false = false))) (by kernel_rfl) ?_
    exact ⟨trivial, triv_intro rfl⟩
  intro (bg0 : Bool) (hbg0 : bg0 = false)
  subst hbg0
  refine tr_whileT noSw (fun σ => (rdS (.int .i64) 13 σ, rdB f12k 24 σ, rdS .bool 6 σ)) (pwA x e) (fun g => ∃ k : Nat, k ≤ e.length ∧ g.1 = (k : Int) ∧ pwJ x (num (e.take k)).toNat g.2.1 g.2.2) (fun g => e.length - g.1.toNat)
    (fun σ => (rdS (.int .i64) 13 σ, rdB f12k 24 σ, rdS .bool 6 σ)) (pwA x e) (fun g => g.2.1 = pwo x (num e).toNat) (0, 1, false) (c := nthC (codeOf Tryz.f54) 3) (by kernel_rfl) (by kernel_rfl) (le_of_proj (by kernel_rfl) (by kernel_rfl) ?_) ?_ ?_
  · exact ⟨0, Nat.zero_le _, rfl, (pwo_zero x).symm, fun _ => rfl⟩
  · rintro ⟨i, y, bg⟩ hj
    revert i y bg
    intro (i : Int) (y : F12) (bg : Bool) ⟨k, hk, ei, hy⟩
    have ei : i = (k : Int) := ei
    subst ei
    have hy : pwJ x (num (e.take k)).toNat y bg := hy
    have hbd := num_bd (l := e.take k) (fun z hz => hbs z (List.mem_of_mem_take hz))
    refine tr_cut hsp mixed 2 (pwA x e ((k : Int), y, bg)) (k < e.length) ?_ (fun hlt => ?_)
    · refine vcx (X := ((decide ((↑k : Int) < (↑e.length : Int)) = true → (pwA x e ((↑k : Int), y, bg)).triv (k < e.length)) ∧ (decide ((↑k : Int) < (↑e.length : Int)) = false → (pwA x e ((↑k : Int), y, bg)).triv (y = pwo x (num e).toNat)))) (by kernel_rfl) ?_
      refine ⟨fun h => triv_intro (by have := of_decide_eq_true h; omega), fun h => triv_intro ?_⟩
      have ek : k = e.length := by have := of_decide_eq_false h; omega
      rw [ek, List.take_length] at hy
      exact hy.1
    refine tr_block (c := nthC (loopOf (nthC (codeOf Tryz.f54) 3)) 2) (by kernel_rfl) (by kernel_rfl) ?_
    refine tr_cutF hsp mixed 2 (fun σ => rdS (.int .u8) 8 σ) (fun b => pwB x e k b (0, y, bg)) (fun b => b = e.getD k 0) ?_ ?_
    · refine vcx (X := (((0 : Int) ≤ (↑k : Int) ∧ (↑k : Int) < (↑e.length : Int)) ∧ (↑k : Int).toNat < e.length ∧ (pwB x e (↑k : Int) (e.getD (↑k : Int).toNat (0 : Int)) ((0 : Int), y, bg)).triv (e.getD (↑k : Int).toNat (0 : Int) = e.getD k (0 : Int)))) (by kernel_rfl) ?_
      simp only [Int.toNat_natCast]
      exact ⟨⟨by omega, by omega⟩, hlt, triv_intro (by first | exact trivial | rfl)⟩
    intro (b : Int) (hb : b = e.getD k 0)
    have hb0 : 0 ≤ b ∧ b < 256 := by
      rw [hb]; simp only [List.getD_eq_getElem?_getD, List.getElem?_eq_getElem hlt, Option.getD_some]
      exact hbs _ (List.getElem_mem hlt)
    obtain ⟨d, hd⟩ := Int.eq_ofNat_of_zero_le hb0.1
    refine tr_whileT noSw (fun σ => (rdS (.int .i64) 17 σ, rdB f12k 24 σ, rdS .bool 6 σ)) (pwB x e k b) (fun g => ∃ j : Nat, j ≤ 8 ∧ g.1 = (j : Int) ∧ pwJ x ((num (e.take k)).toNat * 2 ^ j + d / 2 ^ (8 - j)) g.2.1 g.2.2) (fun g => 8 - g.1.toNat)
      (fun σ => (rdB f12k 24 σ, rdS .bool 6 σ)) (fun g => pwA x e ((k : Int), g.1, g.2)) (fun g => pwJ x ((num (e.take k)).toNat * 256 + d) g.1 g.2) (0, y, bg) (c := nthC (bodyOf (nthC (loopOf (nthC (codeOf Tryz.f54) 3)) 2)) 2) (by kernel_rfl) (by kernel_rfl) (le_of_proj (by kernel_rfl) (by kernel_rfl) ?_) ?_ ?_
    · refine ⟨0, by decide, rfl, ?_⟩
      rw [Nat.pow_zero, Nat.mul_one, show 8 - 0 = 8 from rfl, show (2 : Nat) ^ 8 = 256 from rfl, Nat.div_eq_of_lt (by omega), Nat.add_zero]
      exact hy
    · rintro ⟨j, y1, b1⟩ hj
      revert j y1 b1
      intro (j : Int) (y1 : F12) (b1 : Bool) ⟨t, ht, ej, hy1⟩
      have ej : j = (t : Int) := ej
      subst ej
      have ht : t ≤ 8 := ht
      have hy1 : pwJ x ((num (e.take k)).toNat * 2 ^ t + d / 2 ^ (8 - t)) y1 b1 := hy1
      generalize (num (e.take k)).toNat = q at *
      refine tr_cut hsp mixed 2 (pwB x e k b ((t : Int), y1, b1)) (t < 8) ?_ (fun h8 => ?_)
      · refine vcx (X := ((decide ((↑t : Int) < (8 : Int)) = true → (pwB x e (↑k : Int) b ((↑t : Int), y1, b1)).triv (t < (8 : Nat))) ∧ (decide ((↑t : Int) < (8 : Int)) = false → (pwA x e ((↑k : Int), (y1, b1).fst, (y1, b1).snd)).triv (pwJ x (q * (256 : Nat) + d) y1 b1)))) (by kernel_rfl) ?_
        refine ⟨fun h => triv_intro (by have := of_decide_eq_true h; omega), fun h => triv_intro ?_⟩
        have et : t = 8 := by have := of_decide_eq_false h; omega
        rw [et] at hy1
        simpa using hy1
      refine tr_block (c := nthC (loopOf (nthC (bodyOf (nthC (loopOf (nthC (codeOf Tryz.f54) 3)) 2)) 2)) 2) (by kernel_rfl) (by kernel_rfl) ?_
      have e3 : d / 2 ^ (8 - t) = d / 2 ^ (7 - t) / 2 := by
        rw [Nat.div_div_eq_div_mul, ← Nat.pow_succ, show (7 - t).succ = 8 - t by omega]
      have e5 : 8 - (t + 1) = 7 - t := by omega
      have eN : q * 2 ^ (t + 1) + d / 2 ^ (8 - (t + 1)) = 2 * (q * 2 ^ t + d / 2 ^ (8 - t)) + d / 2 ^ (7 - t) % 2 := by
        rw [e5, e3, Nat.pow_succ, ← Nat.mul_assoc]; omega
      refine tr_cutB hsp mixed 5 6 (fun σ => (rdB f12k 24 σ, rdS .bool 6 σ)) (fun g => pwB x e k b ((t : Int), g.1, g.2)) (fun g => pwJ x (q * 2 ^ (t + 1) + d / 2 ^ (8 - (t + 1))) g.1 g.2) ?_ ?_
      · refine vcx (X := ((b1 = true → True ∧ (0 : Int) ≤ IntKind.i64.wrap ((7 : Int) - (↑t : Int)) ∧ ((bitOp BinOp.and IntKind.u8 (b.fdiv ((2 : Int) ^ min (IntKind.i64.wrap ((7 : Int) - (↑t : Int))).toNat IntKind.u8.bits)) (1 : Int) == (1 : Int)) = true → True ∧ (pwB x e (↑k : Int) b ((↑t : Int), (y1 * y1 * x, true).fst, (y1 * y1 * x, true).snd)).triv (pwJ x (q * (2 : Nat) ^ (t + (1 : Nat)) + d / (2 : Nat) ^ ((8 : Nat) - (t + (1 : Nat)))) (y1 * y1 * x) true)) ∧ ((bitOp BinOp.and IntKind.u8 (b.fdiv ((2 : Int) ^ min (IntKind.i64.wrap ((7 : Int) - (↑t : Int))).toNat IntKind.u8.bits)) (1 : Int) == (1 : Int)) = false → (pwB x e (↑k : Int) b ((↑t : Int), (y1 * y1, b1).fst, (y1 * y1, b1).snd)).triv (pwJ x (q * (2 : Nat) ^ (t + (1 : Nat)) + d / (2 : Nat) ^ ((8 : Nat) - (t + (1 : Nat)))) (y1 * y1) b1))) ∧ (b1 = false → (0 : Int) ≤ IntKind.i64.wrap ((7 : Int) - (↑t : Int)) ∧ ((bitOp BinOp.and IntKind.u8 (b.fdiv ((2 : Int) ^ min (IntKind.i64.wrap ((7 : Int) - (↑t : Int))).toNat IntKind.u8.bits)) (1 : Int) == (1 : Int)) = true → True ∧ (pwB x e (↑k : Int) b ((↑t : Int), (y1 * x, true).fst, (y1 * x, true).snd)).triv (pwJ x (q * (2 : Nat) ^ (t + (1 : Nat)) + d / (2 : Nat) ^ ((8 : Nat) - (t + (1 : Nat)))) (y1 * x) true)) ∧ ((bitOp BinOp.and IntKind.u8 (b.fdiv ((2 : Int) ^ min (IntKind.i64.wrap ((7 : Int) - (↑t : Int))).toNat IntKind.u8.bits)) (1 : Int) == (1 : Int)) = false → (pwB x e (↑k : Int) b ((↑t : Int), (y1, b1).fst, (y1, b1).snd)).triv (pwJ x (q * (2 : Nat) ^ (t + (1 : Nat)) + d / (2 : Nat) ^ ((8 : Nat) - (t + (1 : Nat)))) y1 b1))))) (by kernel_rfl) ?_
        have e0 : 0 ≤ IntKind.i64.wrap (7 - (t : Int)) := by rw [wrap_i64' (by omega) (by omega)]; omega
        have e1 : (IntKind.i64.wrap (7 - (t : Int))).toNat = 7 - t := by rw [wrap_i64' (by omega) (by omega)]; omega
        have hm : min (7 - t) IntKind.u8.bits = 7 - t := Nat.min_eq_left (show 7 - t ≤ 8 by omega)
        have e2 : b.fdiv (2 ^ (7 - t)) = ((d / 2 ^ (7 - t) : Nat) : Int) := by
          rw [Int.fdiv_eq_ediv_of_nonneg _ (Int.le_of_lt (Int.pow_pos (by decide))), hd]
          simp
        have hdl : d / 2 ^ (7 - t) < 256 := Nat.lt_of_le_of_lt (Nat.div_le_self _ _) (by omega)
        rw [e1, hm, e2, and_u8 _ hdl, eN]
        obtain ⟨hy1, hb1⟩ := hy1
        generalize q * 2 ^ t + d / 2 ^ (8 - t) = Q at *
        have hbit1 : (((d / 2 ^ (7 - t) % 2 : Nat) : Int) == 1) = true → d / 2 ^ (7 - t) % 2 = 1 := fun h => by
          have h : ((d / 2 ^ (7 - t) % 2 : Nat) : Int) = 1 := by simpa using h
          omega
        have hbit0 : (((d / 2 ^ (7 - t) % 2 : Nat) : Int) == 1) = false → d / 2 ^ (7 - t) % 2 = 0 := fun h => by
          have h : ¬ ((d / 2 ^ (7 - t) % 2 : Nat) : Int) = 1 := by simpa using h
          omega
        refine ⟨fun hb => ⟨trivial, e0, fun h => ⟨trivial, triv_intro ⟨?_, fun h => by cases h⟩⟩, fun h => triv_intro ⟨?_, fun h2 => ?_⟩⟩, fun hb => ⟨e0, fun h => ⟨trivial, triv_intro ⟨?_, fun h => by cases h⟩⟩, fun h => triv_intro ⟨?_, fun _ => ?_⟩⟩⟩
        · rw [hbit1 h, hy1, pwo_sq, pwo_succ]
        · rw [hbit0 h, hy1, pwo_sq]; rfl
        · rw [hb] at h2; cases h2
        · have hQ := hb1 hb
          rw [hbit1 h, hy1, pwo_succ, hQ]
        · have hQ := hb1 hb
          rw [hbit0 h, hy1, hQ]
        · have hQ := hb1 hb
          rw [hbit0 h, hQ]
      rintro ⟨y2, b2⟩ hy2
      revert y2 b2
      intro (y2 : F12) (b2 : Bool) (hy2 : pwJ x (q * 2 ^ (t + 1) + d / 2 ^ (8 - (t + 1))) y2 b2)
      refine tr_nil ?_
      refine tr_vc hsp mixed _ _ ?_
      refine vcx (X := ((pwB x e (↑k : Int) b (IntKind.i64.wrap ((↑t : Int) + (1 : Int)), y2, b2)).triv ((∃ j, j ≤ (8 : Nat) ∧ IntKind.i64.wrap ((↑t : Int) + (1 : Int)) = (↑j : Int) ∧ pwJ x (q * (2 : Nat) ^ j + d / (2 : Nat) ^ ((8 : Nat) - j)) y2 b2) ∧ (8 : Nat) - (IntKind.i64.wrap ((↑t : Int) + (1 : Int))).toNat < (8 : Nat) - (↑t : Int).toNat))) (by kernel_rfl) ?_
      rw [wrap_succ (by omega)]
      exact triv_intro ⟨⟨t + 1, h8, rfl, hy2⟩, by rw [Int.toNat_natCast, Int.toNat_natCast]; omega⟩
    rintro ⟨y2, b2⟩ hy2
    revert y2 b2
    intro (y2 : F12) (b2 : Bool) (hy2 : pwJ x ((num (e.take k)).toNat * 256 + d) y2 b2)
    refine tr_nil ?_
    refine tr_vc hsp mixed _ _ ?_
    refine vcx (X := ((pwA x e (IntKind.i64.wrap ((↑k : Int) + (1 : Int)), y2, b2)).triv ((∃ k_1, k_1 ≤ e.length ∧ IntKind.i64.wrap ((↑k : Int) + (1 : Int)) = (↑k_1 : Int) ∧ pwJ x (num (List.take k_1 e)).toNat y2 b2) ∧ e.length - (IntKind.i64.wrap ((↑k : Int) + (1 : Int))).toNat < e.length - (↑k : Int).toNat))) (by kernel_rfl) ?_
    have hns := num_take_succ hlt
    rw [← hb] at hns
    have en : (num (e.take (k + 1))).toNat = (num (e.take k)).toNat * 256 + d := by rw [hns, hd]; omega
    rw [wrap_succ (by omega)]
    exact triv_intro ⟨⟨k + 1, hlt, rfl, by rw [en]; exact hy2⟩, by rw [Int.toNat_natCast, Int.toNat_natCast]; omega⟩
  rintro ⟨i, y, bg⟩ hy
  revert i y bg
  intro (i : Int) (y : F12) (bg : Bool) (hy : y = pwo x (num e).toNat)
  refine tr_vc hsp mixed _ _ ?_
  refine vcx (X := ((y, ()) = outPower (x, e, ()))) (by kernel_rfl) ?_
  rw [hy]
noncomputable def spPower : Nat × Eng.Spec := (54, fnSpec [f12k, .sl (.int .u8)] [.val f12k] prePow outPower)
end Go.Proofs.YtbfimfdhmggieaaGreat.tower
/- pairing: tangents and chords; tower: Frob. -/
namespace Go.Proofs.YtbfimfdhmggieaaGreat.fp2
set_option maxRecDepth 100000
open Go Go.Eng Go.RowKit Cr Go.Proofs.YtbfimfdhmggieaaGreat
theorem ent_double : enters Tryz.prog 89 Tryz.f89 := enters_mk (by kernel_rfl) (by kernel_rfl) (by kernel_rfl)
noncomputable abbrev outDouble : HL [f2] → HO [.val f2] := fun (x, _) => ((x : F2) + x, ())
theorem fn_double : FnOk Tryz.prog 89 [f2] [.val f2] noG (fun _ => True) outDouble := by
  refine fn_of_vc (sp := sps [spAdd]) (sps_cons (fnSpec_ok fn_add) sps_nil) mixed ent_double (by decide) (by decide) ?_
  rintro w M0 ⟨x, ⟨⟩⟩
  revert x
  intro (x : F2) _ _
  refine vcx (X := (True ∧ (x + x, ()) = outDouble (x, ()))) (by kernel_rfl) ?_
  repeat refine ⟨trivial, ?_⟩
  rfl
noncomputable def spDouble : Nat × Eng.Spec := (89, fnSpec [f2] [.val f2] (fun _ => True) outDouble)
end Go.Proofs.YtbfimfdhmggieaaGreat.fp2
namespace Go.Proofs.YtbfimfdhmggieaaGreat.tower
set_option maxRecDepth 100000
open Go Go.Eng Go.RowKit Cr Go.Proofs.YtbfimfdhmggieaaGreat Go.Proofs.YtbfimfdhmggieaaGreat.fp2
noncomputable def rt1 : F2 := (rootK, -rootK)
noncomputable def cj (x : F2) : F2 := (x.1, -x.2)
/-- The power p, by its parts. -/
noncomputable def frobF (x : F12) : F12 := ((cj x.1.1, cj x.1.2.1 * (rt1 * rt1), cj x.1.2.2 * (rt1 * rt1 * (rt1 * rt1))), (cj x.2.1 * rt1, cj x.2.2.1 * (rt1 * rt1 * rt1), cj x.2.2.2 * (rt1 * rt1 * (rt1 * rt1) * rt1)))
theorem ent_frob : enters Tryz.prog 52 Tryz.f52 := enters_mk (by kernel_rfl) (by kernel_rfl) (by kernel_rfl)
noncomputable def spRoot : Nat × Eng.Spec := (87, fnSpec [] [.val f2] (fun _ => True) (fun _ => (rt1, ())))
theorem fn_frob : FnOk Tryz.prog 52 [f12k] [.val f12k] noG (fun _ => True) (fun (x, _) => (frobF x, ())) := by
  refine fn_of_vc (sp := sps [spRoot, fp2.spSquare, fp2.spMul, fp2.spConj]) (sps_cons (fnSpec_ok fn_root) (sps_cons (fnSpec_ok fp2.fn_square) (sps_cons (fnSpec_ok fp2.fn_mul) (sps_cons (fnSpec_ok fp2.fn_conj) sps_nil)))) mixed ent_frob (by decide) (by decide) ?_
  rintro w M0 ⟨x, ⟨⟩⟩
  revert x
  intro (x : F12) _ _
  refine vcx (X := (True ∧ True ∧ True ∧ True ∧ True ∧ True ∧ True ∧ True ∧ True ∧ True ∧ True ∧ True ∧ True ∧ True ∧ True ∧ True ∧ ((((x.fst.fst.fst, -x.fst.fst.snd), (x.fst.snd.fst.fst, -x.fst.snd.fst.snd) * ((rootK, -rootK) * (rootK, -rootK)), (x.fst.snd.snd.fst, -x.fst.snd.snd.snd) * ((rootK, -rootK) * (rootK, -rootK) * ((rootK, -rootK) * (rootK, -rootK)))), (x.snd.fst.fst, -x.snd.fst.snd) * (rootK, -rootK), (x.snd.snd.fst.fst, -x.snd.snd.fst.snd) * ((rootK, -rootK) * (rootK, -rootK) * (rootK, -rootK)), (x.snd.snd.snd.fst, -x.snd.snd.snd.snd) * ((rootK, -rootK) * (rootK, -rootK) * ((rootK, -rootK) * (rootK, -rootK)) * (rootK, -rootK))), ()) = (frobF x, ()))) (by kernel_rfl) ?_
  repeat refine ⟨trivial, ?_⟩
  rfl
end Go.Proofs.YtbfimfdhmggieaaGreat.tower
namespace Go.Proofs.YtbfimfdhmggieaaGreat.pairing
set_option maxRecDepth 100000
open Go Go.Eng Go.RowKit Cr Go.Proofs.YtbfimfdhmggieaaGreat Go.Proofs.YtbfimfdhmggieaaGreat.fp2 Go.Proofs.YtbfimfdhmggieaaGreat.tower
abbrev pt1 : Kd := .pair .fp .fp
abbrev pt2 : Kd := .pair f2 f2
abbrev plk : Kd := .pair f2 (.pair f2 f2)
def sk (x : F2) (k : Fp) : F2 := (x.1 * k, x.2 * k)
/-- The place doubled, and the tangent's three numbers at p. -/
noncomputable def twF (t : F2 × F2 × F2) (p : Fp × Fp) : (F2 × F2 × F2) × (F2 × F2 × F2) :=
  let xx := t.1 * t.1; let yy := t.2.1 * t.2.1; let zz := t.2.2 * t.2.2; let slope := xx + xx + xx
  let d0 := yy * yy; let d1 := d0 + d0; let d2 := d1 + d1; let eight := d2 + d2
  let f0 := t.1 * yy; let f1 := f0 + f0; let four := f1 + f1
  let x := slope * slope - (four + four); let y := slope * (four - x) - eight; let z := t.2.1 * t.2.2 + t.2.1 * t.2.2
  ((x, y, z), (slope * t.1 - (yy + yy), -(sk (slope * zz) p.1), sk (z * zz) p.2))
noncomputable def two (t : F2 × F2 × F2) (p : Fp × Fp) : (F2 × F2 × F2) × (F2 × F2 × F2) := opq (twF t p)
/-- The place and q, the chord's three numbers at p. -/
noncomputable def plF (t : F2 × F2 × F2) (q : F2 × F2) (p : Fp × Fp) : (F2 × F2 × F2) × (F2 × F2 × F2) :=
  let zz := t.2.2 * t.2.2; let wide := q.1 * zz - t.1; let high := q.2 * (zz * t.2.2) - t.2.1
  let square := wide * wide; let cube := square * wide; let part := t.1 * square
  let x := high * high - cube - (part + part); let y := high * (part - x) - t.2.1 * cube; let z := t.2.2 * wide
  ((x, y, z), (high * q.1 - z * q.2, -(sk high p.1), sk z p.2))
noncomputable def plo (t : F2 × F2 × F2) (q : F2 × F2) (p : Fp × Fp) : (F2 × F2 × F2) × (F2 × F2 × F2) := opq (plF t q p)
theorem ent_twice : enters Tryz.prog 57 Tryz.f57 := enters_mk (by kernel_rfl) (by kernel_rfl) (by kernel_rfl)
theorem fn_twice : FnOk Tryz.prog 57 [plk, pt1] [.val plk, .val plk] noG (fun _ => True) (fun (t, p, _) => ((two t p).1, (two t p).2, ())) := by
  refine fn_of_vc (sp := sps [fp2.spSquare, fp2.spMul, fp2.spAdd, fp2.spSub, fp2.spDouble, fp2.spScale, fp2.spNeg]) (sps_cons (fnSpec_ok fp2.fn_square) (sps_cons (fnSpec_ok fp2.fn_mul) (sps_cons (fnSpec_ok fp2.fn_add) (sps_cons (fnSpec_ok fp2.fn_sub) (sps_cons (fnSpec_ok fp2.fn_double) (sps_cons (fnSpec_ok fp2.fn_scale) (sps_cons (fnSpec_ok fp2.fn_neg) sps_nil))))))) mixed ent_twice (by decide) (by decide) ?_
  rintro w M0 ⟨t, p, ⟨⟩⟩
  revert t p
  intro (t : F2 × F2 × F2) (p : Fp × Fp) _ _
  refine vcx (X := (True ∧ True ∧ True ∧ True ∧ True ∧ True ∧ True ∧ True ∧ True ∧ True ∧ True ∧ True ∧ True ∧ True ∧ True ∧ True ∧ True ∧ True ∧ True ∧ True ∧ True ∧ True ∧ True ∧ True ∧ True ∧ True ∧ True ∧ True ∧ (((t.fst * t.fst + t.fst * t.fst + t.fst * t.fst) * (t.fst * t.fst + t.fst * t.fst + t.fst * t.fst) - (t.fst * (t.snd.fst * t.snd.fst) + t.fst * (t.snd.fst * t.snd.fst) + (t.fst * (t.snd.fst * t.snd.fst) + t.fst * (t.snd.fst * t.snd.fst)) + (t.fst * (t.snd.fst * t.snd.fst) + t.fst * (t.snd.fst * t.snd.fst) + (t.fst * (t.snd.fst * t.snd.fst) + t.fst * (t.snd.fst * t.snd.fst)))), (t.fst * t.fst + t.fst * t.fst + t.fst * t.fst) * (t.fst * (t.snd.fst * t.snd.fst) + t.fst * (t.snd.fst * t.snd.fst) + (t.fst * (t.snd.fst * t.snd.fst) + t.fst * (t.snd.fst * t.snd.fst)) - ((t.fst * t.fst + t.fst * t.fst + t.fst * t.fst) * (t.fst * t.fst + t.fst * t.fst + t.fst * t.fst) - (t.fst * (t.snd.fst * t.snd.fst) + t.fst * (t.snd.fst * t.snd.fst) + (t.fst * (t.snd.fst * t.snd.fst) + t.fst * (t.snd.fst * t.snd.fst)) + (t.fst * (t.snd.fst * t.snd.fst) + t.fst * (t.snd.fst * t.snd.fst) + (t.fst * (t.snd.fst * t.snd.fst) + t.fst * (t.snd.fst * t.snd.fst)))))) - (t.snd.fst * t.snd.fst * (t.snd.fst * t.snd.fst) + t.snd.fst * t.snd.fst * (t.snd.fst * t.snd.fst) + (t.snd.fst * t.snd.fst * (t.snd.fst * t.snd.fst) + t.snd.fst * t.snd.fst * (t.snd.fst * t.snd.fst)) + (t.snd.fst * t.snd.fst * (t.snd.fst * t.snd.fst) + t.snd.fst * t.snd.fst * (t.snd.fst * t.snd.fst) + (t.snd.fst * t.snd.fst * (t.snd.fst * t.snd.fst) + t.snd.fst * t.snd.fst * (t.snd.fst * t.snd.fst)))), t.snd.fst * t.snd.snd + t.snd.fst * t.snd.snd), ((t.fst * t.fst + t.fst * t.fst + t.fst * t.fst) * t.fst - (t.snd.fst * t.snd.fst + t.snd.fst * t.snd.fst), -(((t.fst * t.fst + t.fst * t.fst + t.fst * t.fst) * (t.snd.snd * t.snd.snd)).fst * p.fst, ((t.fst * t.fst + t.fst * t.fst + t.fst * t.fst) * (t.snd.snd * t.snd.snd)).snd * p.fst), ((t.snd.fst * t.snd.snd + t.snd.fst * t.snd.snd) * (t.snd.snd * t.snd.snd)).fst * p.snd, ((t.snd.fst * t.snd.snd + t.snd.fst * t.snd.snd) * (t.snd.snd * t.snd.snd)).snd * p.snd), ()) = ((two t p).fst, (two t p).snd, ()))) (by kernel_rfl) ?_
  repeat refine ⟨trivial, ?_⟩
  rw [two, opq_eq]
  rfl
noncomputable def spTwice : Nat × Eng.Spec := (57, fnSpec [plk, pt1] [.val plk, .val plk] (fun _ => True) (fun (t, p, _) => ((two t p).1, (two t p).2, ())))
theorem ent_plus : enters Tryz.prog 59 Tryz.f59 := enters_mk (by kernel_rfl) (by kernel_rfl) (by kernel_rfl)
theorem fn_plus : FnOk Tryz.prog 59 [plk, pt2, pt1] [.val plk, .val plk] noG (fun _ => True) (fun (t, q, p, _) => ((plo t q p).1, (plo t q p).2, ())) := by
  refine fn_of_vc (sp := sps [fp2.spSquare, fp2.spMul, fp2.spAdd, fp2.spSub, fp2.spDouble, fp2.spScale, fp2.spNeg]) (sps_cons (fnSpec_ok fp2.fn_square) (sps_cons (fnSpec_ok fp2.fn_mul) (sps_cons (fnSpec_ok fp2.fn_add) (sps_cons (fnSpec_ok fp2.fn_sub) (sps_cons (fnSpec_ok fp2.fn_double) (sps_cons (fnSpec_ok fp2.fn_scale) (sps_cons (fnSpec_ok fp2.fn_neg) sps_nil))))))) mixed ent_plus (by decide) (by decide) ?_
  rintro w M0 ⟨t, q, p, ⟨⟩⟩
  revert t q p
  intro (t : F2 × F2 × F2) (q : F2 × F2) (p : Fp × Fp) _ _
  refine vcx (X := (True ∧ True ∧ True ∧ True ∧ True ∧ True ∧ True ∧ True ∧ True ∧ True ∧ True ∧ True ∧ True ∧ True ∧ True ∧ True ∧ True ∧ True ∧ True ∧ True ∧ True ∧ True ∧ True ∧ True ∧ (((q.snd * (t.snd.snd * t.snd.snd * t.snd.snd) - t.snd.fst) * (q.snd * (t.snd.snd * t.snd.snd * t.snd.snd) - t.snd.fst) - (q.fst * (t.snd.snd * t.snd.snd) - t.fst) * (q.fst * (t.snd.snd * t.snd.snd) - t.fst) * (q.fst * (t.snd.snd * t.snd.snd) - t.fst) - (t.fst * ((q.fst * (t.snd.snd * t.snd.snd) - t.fst) * (q.fst * (t.snd.snd * t.snd.snd) - t.fst)) + t.fst * ((q.fst * (t.snd.snd * t.snd.snd) - t.fst) * (q.fst * (t.snd.snd * t.snd.snd) - t.fst))), (q.snd * (t.snd.snd * t.snd.snd * t.snd.snd) - t.snd.fst) * (t.fst * ((q.fst * (t.snd.snd * t.snd.snd) - t.fst) * (q.fst * (t.snd.snd * t.snd.snd) - t.fst)) - ((q.snd * (t.snd.snd * t.snd.snd * t.snd.snd) - t.snd.fst) * (q.snd * (t.snd.snd * t.snd.snd * t.snd.snd) - t.snd.fst) - (q.fst * (t.snd.snd * t.snd.snd) - t.fst) * (q.fst * (t.snd.snd * t.snd.snd) - t.fst) * (q.fst * (t.snd.snd * t.snd.snd) - t.fst) - (t.fst * ((q.fst * (t.snd.snd * t.snd.snd) - t.fst) * (q.fst * (t.snd.snd * t.snd.snd) - t.fst)) + t.fst * ((q.fst * (t.snd.snd * t.snd.snd) - t.fst) * (q.fst * (t.snd.snd * t.snd.snd) - t.fst))))) - t.snd.fst * ((q.fst * (t.snd.snd * t.snd.snd) - t.fst) * (q.fst * (t.snd.snd * t.snd.snd) - t.fst) * (q.fst * (t.snd.snd * t.snd.snd) - t.fst)), t.snd.snd * (q.fst * (t.snd.snd * t.snd.snd) - t.fst)), ((q.snd * (t.snd.snd * t.snd.snd * t.snd.snd) - t.snd.fst) * q.fst - t.snd.snd * (q.fst * (t.snd.snd * t.snd.snd) - t.fst) * q.snd, -((q.snd * (t.snd.snd * t.snd.snd * t.snd.snd) - t.snd.fst).fst * p.fst, (q.snd * (t.snd.snd * t.snd.snd * t.snd.snd) - t.snd.fst).snd * p.fst), (t.snd.snd * (q.fst * (t.snd.snd * t.snd.snd) - t.fst)).fst * p.snd, (t.snd.snd * (q.fst * (t.snd.snd * t.snd.snd) - t.fst)).snd * p.snd), ()) = ((plo t q p).fst, (plo t q p).snd, ()))) (by kernel_rfl) ?_
  repeat refine ⟨trivial, ?_⟩
  rw [plo, opq_eq]
  rfl
noncomputable def spPlus : Nat × Eng.Spec := (59, fnSpec [plk, pt2, pt1] [.val plk, .val plk] (fun _ => True) (fun (t, q, p, _) => ((plo t q p).1, (plo t q p).2, ())))
end Go.Proofs.YtbfimfdhmggieaaGreat.pairing
/- pairing: bytes, finish. -/
namespace Go.Proofs.YtbfimfdhmggieaaGreat.pairing
set_option maxRecDepth 100000
open Go Go.Eng Go.RowKit Cr Go.Proofs.YtbfimfdhmggieaaGreat Go.Proofs.YtbfimfdhmggieaaGreat.fp2 Go.Proofs.YtbfimfdhmggieaaGreat.tower
theorem ent_bytes : enters Tryz.prog 53 Tryz.f53 := enters_mk (by kernel_rfl) (by kernel_rfl) (by kernel_rfl)
def byE (n : Int) (i : Nat) : Int := IntKind.u8.wrap (n.fdiv (2 ^ (56 - 8 * i)))
def byK (n : Int) (k : Nat) : List Int := (List.range k).map (byE n) ++ List.replicate (8 - k) 0
/-- A number in eight bytes. -/
noncomputable def byo (n : Int) : List Int := opq (byK n 8)
noncomputable def byS (n : Int) (g : Int × List Int) : St := mkSt Tryz.f53.ntmps 48 [(0, sI .u64 n), (3, .is (.one (.sl 8 0 0 8 1))), (7, sI .i64 8), (8, sI .i64 g.1)] [(8, [.ints .u8 8 g.2])]
theorem byK_len (n : Int) (k : Nat) (h : k ≤ 8) : (byK n k).length = 8 := by simp [byK]; omega
theorem byo_len (n : Int) : (byo n).length = 8 := by rw [byo, opq_eq, byK_len n 8 (by decide)]
theorem byK_set (n : Int) (k : Nat) (h : k < 8) : (byK n k).set k (byE n k) = byK n (k + 1) := by
  unfold byK
  rw [List.set_append_right _ _ (by simp), show 8 - k = (8 - (k + 1)) + 1 by omega, List.replicate_succ]
  rw [show k - ((List.range k).map (byE n)).length = 0 by simp, List.set_cons_zero, List.range_succ, List.map_append, List.append_assoc]
  rfl
theorem fn_bytes : FnOk Tryz.prog 53 [.int .u64] [.own (.int .u8)] noG (fun _ => True) (fun (n, _) => (byo n, ())) := by
  have hsp : SpecsOk Tryz.prog (sps []) := sps_nil
  refine fn_of_tr (sp := sps []) ent_bytes (by decide) (by decide) (by kernel_rfl) ?_
  rintro w M0 ⟨n, ⟨⟩⟩
  revert n
  intro (n : Int) _ _
  show Tr _ _ _ _ _ _ _
  refine tr_cut hsp mixed 3 (byS n (0, List.replicate 8 0)) True ?_ (fun _ => ?_)
  · refine vcx (X := (((0 : Int) ≤ (8 : Int) ∧ (8 : Int) ≤ (8 : Int) ∧ (↑(1 : Nat) : Int) * (8 : Int) ≤ (281474976710656 : Int) ∧ (8 : Int) ≤ (9223372036854775807 : Int)) ∧ (byS n ((0 : Int), List.replicate (8 : Nat) (0 : Int))).triv True)) (by kernel_rfl) ?_
    exact ⟨⟨by decide, by decide, by decide, by decide⟩, triv_intro trivial⟩
  refine tr_while hsp mixed noSw (fun σ => (rdS (.int .i64) 8 σ, rdR (.int .u8) 8 σ)) (byS n) (fun g => ∃ k : Nat, k ≤ 8 ∧ g.1 = (k : Int) ∧ g.2 = byK n k) (fun g => 8 - g.1.toNat)
    (fun σ => (rdS (.int .i64) 8 σ, rdR (.int .u8) 8 σ)) (byS n) (fun g => g.2 = byK n 8) (0, List.replicate 8 0) (c := nthC (codeOf Tryz.f53) 3) (by kernel_rfl) (by kernel_rfl) (le_of_proj (by kernel_rfl) (by kernel_rfl) ?_) ?_ ?_
  · exact ⟨0, by decide, rfl, rfl⟩
  · rintro ⟨i, l⟩ hj
    revert i l
    intro (i : Int) (l : List Int) ⟨k, hk, ei, el⟩
    have ei : i = (k : Int) := ei
    have kl : l = byK n k := el
    subst ei
    refine vcx (X := ((decide ((↑k : Int) < (8 : Int)) = true → (0 : Int) ≤ IntKind.i64.wrap ((56 : Int) - IntKind.i64.wrap ((8 : Int) * (↑k : Int))) ∧ ((0 : Int) ≤ (↑k : Int) ∧ (↑k : Int) < (↑(8 : Nat) : Int)) ∧ (↑k : Int).toNat < (8 : Nat) ∧ (byS n (IntKind.i64.wrap ((↑k : Int) + (1 : Int)), l.set (↑k : Int).toNat (IntKind.u8.wrap (n.fdiv ((2 : Int) ^ min (IntKind.i64.wrap ((56 : Int) - IntKind.i64.wrap ((8 : Int) * (↑k : Int)))).toNat IntKind.u64.bits))))).triv ((∃ k_1, k_1 ≤ (8 : Nat) ∧ IntKind.i64.wrap ((↑k : Int) + (1 : Int)) = (↑k_1 : Int) ∧ l.set (↑k : Int).toNat (IntKind.u8.wrap (n.fdiv ((2 : Int) ^ min (IntKind.i64.wrap ((56 : Int) - IntKind.i64.wrap ((8 : Int) * (↑k : Int)))).toNat IntKind.u64.bits))) = byK n k_1) ∧ (8 : Nat) - (IntKind.i64.wrap ((↑k : Int) + (1 : Int))).toNat < (8 : Nat) - (↑k : Int).toNat)) ∧ (decide ((↑k : Int) < (8 : Int)) = false → (byS n ((↑k : Int), l)).triv (l = byK n (8 : Nat))))) (by kernel_rfl) ?_
    refine ⟨fun h => ?_, fun h => triv_intro ?_⟩
    · have h8 : k < 8 := by have := of_decide_eq_true h; omega
      have e0 : IntKind.i64.wrap (56 - IntKind.i64.wrap (8 * (k : Int))) = ((56 - 8 * k : Nat) : Int) := by
        rw [wrap_i64' (a := 8 * (k : Int)) (by omega) (by omega), wrap_i64' (by omega) (by omega)]; omega
      have hm : min (56 - 8 * k) IntKind.u64.bits = 56 - 8 * k := Nat.min_eq_left (show 56 - 8 * k ≤ 64 by omega)
      rw [e0, wrap_succ (by omega)]
      simp only [Int.toNat_natCast]
      rw [hm]
      exact ⟨by omega, ⟨by omega, by omega⟩, h8, triv_intro ⟨⟨k + 1, h8, rfl, by rw [kl]; exact byK_set n k h8⟩, by omega⟩⟩
    · have h8 : k = 8 := by have := of_decide_eq_false h; omega
      rw [kl, h8]
  rintro ⟨i, l⟩ hl
  revert i l
  intro (i : Int) (l : List Int) (hl : l = byK n 8)
  refine tr_vc hsp mixed _ _ ?_
  refine vcx (X := ((0 : Nat) + (8 : Nat) ≤ (8 : Nat) ∧ (List.take (8 : Nat) l, ()) = (byo n, ()))) (by kernel_rfl) ?_
  refine ⟨by decide, ?_⟩
  rw [hl, byo, opq_eq, List.take_of_length_le (by rw [byK_len n 8 (by decide)]; decide)]
noncomputable def spBytes : Nat × Eng.Spec := (53, fnSpec [.int .u64] [.own (.int .u8)] (fun _ => True) (fun (n, _) => (byo n, ())))
theorem wrap_u8' (x : Int) : IntKind.u8.wrap x = x % 256 := by
  simp only [IntKind.wrap, IntKind.signed, IntKind.bits]
  simp
theorem byo_Bs (n : Int) : Bs (byo n) := by
  intro x hx
  rw [byo, opq_eq, byK] at hx
  simp only [Nat.sub_self, List.replicate_zero, List.append_nil, List.mem_map] at hx
  obtain ⟨i, _, rfl⟩ := hx
  rw [byE, wrap_u8']
  omega
noncomputable def frb (x : F12) : F12 := opq (tower.frobF x)
noncomputable def cjo (x : F12) : F12 := opq (conj12 x)
noncomputable def ivo (x : F12) : F12 := opq (Fd.inv x)
theorem fo_frob : FnOk Tryz.prog 52 [f12k] [.val f12k] noG (fun _ => True) (fun (x, _) => (frb x, ())) := tower.fn_frob.out (by rintro ⟨x, ⟨⟩⟩; show (frb x, ()) = (tower.frobF x, ()); rw [frb, opq_eq])
theorem fo_conj : FnOk Tryz.prog 49 [f12k] [.val f12k] noG (fun _ => True) (fun (x, _) => (cjo x, ())) := tower.fn_conj.out (by rintro ⟨x, ⟨⟩⟩; show (cjo x, ()) = (conj12 x, ()); rw [cjo, opq_eq])
theorem fo_inv : FnOk Tryz.prog 51 [f12k] [.val f12k] noG (fun _ => True) (fun (x, _) => (ivo x, ())) := tower.fn_inv.out (by rintro ⟨x, ⟨⟩⟩; show (ivo x, ()) = (Fd.inv (x : F12), ()); rw [ivo, opq_eq])
noncomputable def soFrob : Nat × Eng.Spec := (52, fnSpec [f12k] [.val f12k] (fun _ => True) (fun (x, _) => (frb x, ())))
noncomputable def soConj : Nat × Eng.Spec := (49, fnSpec [f12k] [.val f12k] (fun _ => True) (fun (x, _) => (cjo x, ())))
noncomputable def soInv : Nat × Eng.Spec := (51, fnSpec [f12k] [.val f12k] (fun _ => True) (fun (x, _) => (ivo x, ())))
/-- To the last power. -/
noncomputable def finE (f : F12) : F12 := frb (frb (cjo f * ivo f)) * (cjo f * ivo f)
noncomputable def pw8 (x : F12) (n : Int) : F12 := pwo x (num (byo n)).toNat
noncomputable def finA (f : F12) : F12 := pw8 (pw8 f 15132376222941642753) 15132376222941642753
noncomputable def finB (a : F12) : F12 := cjo (pw8 a 15132376222941642752) * frb a
noncomputable def finC (b : F12) : F12 := pw8 (pw8 b 15132376222941642752) 15132376222941642752 * frb (frb b) * cjo b
noncomputable def finF (f : F12) : F12 := finC (finB (finA (finE f))) * (finE f * finE f) * finE f
noncomputable def fino (f : F12) : F12 := opq (finF f)
theorem ent_finish : enters Tryz.prog 28 Tryz.f28 := enters_mk (by kernel_rfl) (by kernel_rfl) (by kernel_rfl)
theorem fn_finish : FnOk Tryz.prog 28 [f12k] [.val f12k] noG (fun _ => True) (fun (f, _) => (fino f, ())) := by
  refine fn_of_vc (sp := sps [soConj, soInv, tower.spMul, soFrob, spBytes, tower.spPower, tower.spSquare]) (sps_cons (fnSpec_ok fo_conj) (sps_cons (fnSpec_ok fo_inv) (sps_cons (fnSpec_ok tower.fn_mul) (sps_cons (fnSpec_ok fo_frob) (sps_cons (fnSpec_ok fn_bytes) (sps_cons (fnSpec_ok tower.fn_power) (sps_cons (fnSpec_ok tower.fn_square) sps_nil))))))) mixed ent_finish (by decide) (by decide) ?_
  rintro w M0 ⟨f, ⟨⟩⟩
  revert f
  intro (f : F12) _ _
  refine vcx (X := (True ∧ True ∧ True ∧ True ∧ True ∧ True ∧ True ∧ True ∧ (0 : Nat) + (byo (15132376222941642753 : Int)).length ≤ (byo (15132376222941642753 : Int)).length ∧ prePow (frb (frb (cjo f * ivo f)) * (cjo f * ivo f), List.take (byo (15132376222941642753 : Int)).length (byo (15132376222941642753 : Int)), ()) ∧ (0 : Nat) + (byo (15132376222941642753 : Int)).length ≤ (byo (15132376222941642753 : Int)).length ∧ prePow (pwo (frb (frb (cjo f * ivo f)) * (cjo f * ivo f)) (num (List.take (byo (15132376222941642753 : Int)).length (byo (15132376222941642753 : Int)))).toNat, List.take (byo (15132376222941642753 : Int)).length (byo (15132376222941642753 : Int)), ()) ∧ (0 : Nat) + (byo (15132376222941642752 : Int)).length ≤ (byo (15132376222941642752 : Int)).length ∧ prePow (pwo (pwo (frb (frb (cjo f * ivo f)) * (cjo f * ivo f)) (num (List.take (byo (15132376222941642753 : Int)).length (byo (15132376222941642753 : Int)))).toNat) (num (List.take (byo (15132376222941642753 : Int)).length (byo (15132376222941642753 : Int)))).toNat, List.take (byo (15132376222941642752 : Int)).length (byo (15132376222941642752 : Int)), ()) ∧ True ∧ True ∧ True ∧ (0 : Nat) + (byo (15132376222941642752 : Int)).length ≤ (byo (15132376222941642752 : Int)).length ∧ prePow (cjo (pwo (pwo (pwo (frb (frb (cjo f * ivo f)) * (cjo f * ivo f)) (num (List.take (byo (15132376222941642753 : Int)).length (byo (15132376222941642753 : Int)))).toNat) (num (List.take (byo (15132376222941642753 : Int)).length (byo (15132376222941642753 : Int)))).toNat) (num (List.take (byo (15132376222941642752 : Int)).length (byo (15132376222941642752 : Int)))).toNat) * frb (pwo (pwo (frb (frb (cjo f * ivo f)) * (cjo f * ivo f)) (num (List.take (byo (15132376222941642753 : Int)).length (byo (15132376222941642753 : Int)))).toNat) (num (List.take (byo (15132376222941642753 : Int)).length (byo (15132376222941642753 : Int)))).toNat), List.take (byo (15132376222941642752 : Int)).length (byo (15132376222941642752 : Int)), ()) ∧ (0 : Nat) + (byo (15132376222941642752 : Int)).length ≤ (byo (15132376222941642752 : Int)).length ∧ prePow (pwo (cjo (pwo (pwo (pwo (frb (frb (cjo f * ivo f)) * (cjo f * ivo f)) (num (List.take (byo (15132376222941642753 : Int)).length (byo (15132376222941642753 : Int)))).toNat) (num (List.take (byo (15132376222941642753 : Int)).length (byo (15132376222941642753 : Int)))).toNat) (num (List.take (byo (15132376222941642752 : Int)).length (byo (15132376222941642752 : Int)))).toNat) * frb (pwo (pwo (frb (frb (cjo f * ivo f)) * (cjo f * ivo f)) (num (List.take (byo (15132376222941642753 : Int)).length (byo (15132376222941642753 : Int)))).toNat) (num (List.take (byo (15132376222941642753 : Int)).length (byo (15132376222941642753 : Int)))).toNat)) (num (List.take (byo (15132376222941642752 : Int)).length (byo (15132376222941642752 : Int)))).toNat, List.take (byo (15132376222941642752 : Int)).length (byo (15132376222941642752 : Int)), ()) ∧ True ∧ True ∧ True ∧ True ∧ True ∧ True ∧ True ∧ True ∧ (pwo (pwo (cjo (pwo (pwo (pwo (frb (frb (cjo f * ivo f)) * (cjo f * ivo f)) (num (List.take (byo (15132376222941642753 : Int)).length (byo (15132376222941642753 : Int)))).toNat) (num (List.take (byo (15132376222941642753 : Int)).length (byo (15132376222941642753 : Int)))).toNat) (num (List.take (byo (15132376222941642752 : Int)).length (byo (15132376222941642752 : Int)))).toNat) * frb (pwo (pwo (frb (frb (cjo f * ivo f)) * (cjo f * ivo f)) (num (List.take (byo (15132376222941642753 : Int)).length (byo (15132376222941642753 : Int)))).toNat) (num (List.take (byo (15132376222941642753 : Int)).length (byo (15132376222941642753 : Int)))).toNat)) (num (List.take (byo (15132376222941642752 : Int)).length (byo (15132376222941642752 : Int)))).toNat) (num (List.take (byo (15132376222941642752 : Int)).length (byo (15132376222941642752 : Int)))).toNat * frb (frb (cjo (pwo (pwo (pwo (frb (frb (cjo f * ivo f)) * (cjo f * ivo f)) (num (List.take (byo (15132376222941642753 : Int)).length (byo (15132376222941642753 : Int)))).toNat) (num (List.take (byo (15132376222941642753 : Int)).length (byo (15132376222941642753 : Int)))).toNat) (num (List.take (byo (15132376222941642752 : Int)).length (byo (15132376222941642752 : Int)))).toNat) * frb (pwo (pwo (frb (frb (cjo f * ivo f)) * (cjo f * ivo f)) (num (List.take (byo (15132376222941642753 : Int)).length (byo (15132376222941642753 : Int)))).toNat) (num (List.take (byo (15132376222941642753 : Int)).length (byo (15132376222941642753 : Int)))).toNat))) * cjo (cjo (pwo (pwo (pwo (frb (frb (cjo f * ivo f)) * (cjo f * ivo f)) (num (List.take (byo (15132376222941642753 : Int)).length (byo (15132376222941642753 : Int)))).toNat) (num (List.take (byo (15132376222941642753 : Int)).length (byo (15132376222941642753 : Int)))).toNat) (num (List.take (byo (15132376222941642752 : Int)).length (byo (15132376222941642752 : Int)))).toNat) * frb (pwo (pwo (frb (frb (cjo f * ivo f)) * (cjo f * ivo f)) (num (List.take (byo (15132376222941642753 : Int)).length (byo (15132376222941642753 : Int)))).toNat) (num (List.take (byo (15132376222941642753 : Int)).length (byo (15132376222941642753 : Int)))).toNat)) * (frb (frb (cjo f * ivo f)) * (cjo f * ivo f) * (frb (frb (cjo f * ivo f)) * (cjo f * ivo f))) * (frb (frb (cjo f * ivo f)) * (cjo f * ivo f)), ()) = (fino f, ()))) (by kernel_rfl) ?_
  have l1 := byo_len 15132376222941642753
  have l2 := byo_len 15132376222941642752
  have b1 := byo_Bs 15132376222941642753
  have b2 := byo_Bs 15132376222941642752
  have p1 : ∀ x : F12, prePow (x, byo 15132376222941642753, ()) := fun _ => ⟨b1, by show (byo 15132376222941642753).length ≤ _; omega⟩
  have p2 : ∀ x : F12, prePow (x, byo 15132376222941642752, ()) := fun _ => ⟨b2, by show (byo 15132376222941642752).length ≤ _; omega⟩
  rw [List.take_length, List.take_length]
  repeat first | refine ⟨trivial, ?_⟩ | refine ⟨p1 _, ?_⟩ | refine ⟨p2 _, ?_⟩ | refine ⟨by omega, ?_⟩
  rw [fino, opq_eq]
  rfl
noncomputable def spFinish : Nat × Eng.Spec := (28, fnSpec [f12k] [.val f12k] (fun _ => True) (fun (f, _) => (fino f, ())))
end Go.Proofs.YtbfimfdhmggieaaGreat.pairing
/- pairing: Len64 of the parameter. -/
namespace Go.Proofs.YtbfimfdhmggieaaGreat.pairing
set_option maxRecDepth 100000
open Go Go.Eng Go.RowKit Cr Go.Proofs.YtbfimfdhmggieaaGreat Go.Proofs.YtbfimfdhmggieaaGreat.fp2 Go.Proofs.YtbfimfdhmggieaaGreat.tower
def balPrn0 : ByteArray := (ByteArray.mk ((([(0 : UInt8), (1 : UInt8), (2 : UInt8), (2 : UInt8), (3 : UInt8), (3 : UInt8), (3 : UInt8), (3 : UInt8), (4 : UInt8), (4 : UInt8), (4 : UInt8), (4 : UInt8), (4 : UInt8), (4 : UInt8), (4 : UInt8), (4 : UInt8), (5 : UInt8), (5 : UInt8), (5 : UInt8), (5 : UInt8), (5 : UInt8), (5 : UInt8), (5 : UInt8), (5 : UInt8), (5 : UInt8), (5 : UInt8), (5 : UInt8), (5 : UInt8), (5 : UInt8), (5 : UInt8), (5 : UInt8), (5 : UInt8), (6 : UInt8), (6 : UInt8), (6 : UInt8), (6 : UInt8), (6 : UInt8), (6 : UInt8), (6 : UInt8), (6 : UInt8), (6 : UInt8), (6 : UInt8), (6 : UInt8), (6 : UInt8), (6 : UInt8), (6 : UInt8), (6 : UInt8), (6 : UInt8), (6 : UInt8), (6 : UInt8), (6 : UInt8), (6 : UInt8), (6 : UInt8), (6 : UInt8), (6 : UInt8), (6 : UInt8), (6 : UInt8), (6 : UInt8), (6 : UInt8), (6 : UInt8), (6 : UInt8), (6 : UInt8), (6 : UInt8), (6 : UInt8)].append [(7 : UInt8), (7 : UInt8), (7 : UInt8), (7 : UInt8), (7 : UInt8), (7 : UInt8), (7 : UInt8), (7 : UInt8), (7 : UInt8), (7 : UInt8), (7 : UInt8), (7 : UInt8), (7 : UInt8), (7 : UInt8), (7 : UInt8), (7 : UInt8), (7 : UInt8), (7 : UInt8), (7 : UInt8), (7 : UInt8), (7 : UInt8), (7 : UInt8), (7 : UInt8), (7 : UInt8), (7 : UInt8), (7 : UInt8), (7 : UInt8), (7 : UInt8), (7 : UInt8), (7 : UInt8), (7 : UInt8), (7 : UInt8), (7 : UInt8), (7 : UInt8), (7 : UInt8), (7 : UInt8), (7 : UInt8), (7 : UInt8), (7 : UInt8), (7 : UInt8), (7 : UInt8), (7 : UInt8), (7 : UInt8), (7 : UInt8), (7 : UInt8), (7 : UInt8), (7 : UInt8), (7 : UInt8), (7 : UInt8), (7 : UInt8), (7 : UInt8), (7 : UInt8), (7 : UInt8), (7 : UInt8), (7 : UInt8), (7 : UInt8), (7 : UInt8), (7 : UInt8), (7 : UInt8), (7 : UInt8), (7 : UInt8), (7 : UInt8), (7 : UInt8), (7 : UInt8)]).append ([(8 : UInt8), (8 : UInt8), (8 : UInt8), (8 : UInt8), (8 : UInt8), (8 : UInt8), (8 : UInt8), (8 : UInt8), (8 : UInt8), (8 : UInt8), (8 : UInt8), (8 : UInt8), (8 : UInt8), (8 : UInt8), (8 : UInt8), (8 : UInt8), (8 : UInt8), (8 : UInt8), (8 : UInt8), (8 : UInt8), (8 : UInt8), (8 : UInt8), (8 : UInt8), (8 : UInt8), (8 : UInt8), (8 : UInt8), (8 : UInt8), (8 : UInt8), (8 : UInt8), (8 : UInt8), (8 : UInt8), (8 : UInt8), (8 : UInt8), (8 : UInt8), (8 : UInt8), (8 : UInt8), (8 : UInt8), (8 : UInt8), (8 : UInt8), (8 : UInt8), (8 : UInt8), (8 : UInt8), (8 : UInt8), (8 : UInt8), (8 : UInt8), (8 : UInt8), (8 : UInt8), (8 : UInt8), (8 : UInt8), (8 : UInt8), (8 : UInt8), (8 : UInt8), (8 : UInt8), (8 : UInt8), (8 : UInt8), (8 : UInt8), (8 : UInt8), (8 : UInt8), (8 : UInt8), (8 : UInt8), (8 : UInt8), (8 : UInt8), (8 : UInt8), (8 : UInt8)].append [(8 : UInt8), (8 : UInt8), (8 : UInt8), (8 : UInt8), (8 : UInt8), (8 : UInt8), (8 : UInt8), (8 : UInt8), (8 : UInt8), (8 : UInt8), (8 : UInt8), (8 : UInt8), (8 : UInt8), (8 : UInt8), (8 : UInt8), (8 : UInt8), (8 : UInt8), (8 : UInt8), (8 : UInt8), (8 : UInt8), (8 : UInt8), (8 : UInt8), (8 : UInt8), (8 : UInt8), (8 : UInt8), (8 : UInt8), (8 : UInt8), (8 : UInt8), (8 : UInt8), (8 : UInt8), (8 : UInt8), (8 : UInt8), (8 : UInt8), (8 : UInt8), (8 : UInt8), (8 : UInt8), (8 : UInt8), (8 : UInt8), (8 : UInt8), (8 : UInt8), (8 : UInt8), (8 : UInt8), (8 : UInt8), (8 : UInt8), (8 : UInt8), (8 : UInt8), (8 : UInt8), (8 : UInt8), (8 : UInt8), (8 : UInt8), (8 : UInt8), (8 : UInt8), (8 : UInt8), (8 : UInt8), (8 : UInt8), (8 : UInt8), (8 : UInt8), (8 : UInt8), (8 : UInt8), (8 : UInt8), (8 : UInt8), (8 : UInt8), (8 : UInt8), (8 : UInt8)])).toArray ))
theorem ent_len64 : enters Tryz.prog 56 Tryz.f56 := enters_mk (by kernel_rfl) (by kernel_rfl) (by kernel_rfl)
theorem fn_len64 : FnOk Tryz.prog 56 [.int .u64] [.val (.int .i64)] noG (fun (n, _) => n = (15132376222941642752 : Int)) (fun _ => ((64 : Int), ())) := by
  refine fn_of_vc (sp := sps []) sps_nil mixed ent_len64 (by decide) (by decide) ?_
  rintro w M0 ⟨n, ⟨⟩⟩
  revert n
  intro (n : Int) _ hn
  have hn : n = (15132376222941642752 : Int) := hn
  subst hn
  refine vcx (X := ((decide ((15132376222941642752 : Int) ≥ (4294967296 : Int)) = true → (0 : Int) ≤ (32 : Int) ∧ (decide (Int.fdiv (15132376222941642752 : Int) ((2 : Int) ^ min (32 : Nat) IntKind.u64.bits) ≥ (65536 : Int)) = true → (0 : Int) ≤ (16 : Int) ∧ (decide ((Int.fdiv (15132376222941642752 : Int) ((2 : Int) ^ min (32 : Nat) IntKind.u64.bits)).fdiv ((2 : Int) ^ min (16 : Nat) IntKind.u64.bits) ≥ (256 : Int)) = true → (0 : Int) ≤ (8 : Int) ∧ ((0 : Int) ≤ IntKind.u8.wrap (((Int.fdiv (15132376222941642752 : Int) ((2 : Int) ^ min (32 : Nat) IntKind.u64.bits)).fdiv ((2 : Int) ^ min (16 : Nat) IntKind.u64.bits)).fdiv ((2 : Int) ^ min (8 : Nat) IntKind.u64.bits)) ∧ IntKind.u8.wrap (((Int.fdiv (15132376222941642752 : Int) ((2 : Int) ^ min (32 : Nat) IntKind.u64.bits)).fdiv ((2 : Int) ^ min (16 : Nat) IntKind.u64.bits)).fdiv ((2 : Int) ^ min (8 : Nat) IntKind.u64.bits)) < (↑balPrn0.size : Int)) ∧ (IntKind.i64.wrap (IntKind.i64.wrap (IntKind.i64.wrap ((32 : Int) + (16 : Int)) + (8 : Int)) + IntKind.i64.wrap (↑(UInt8.toNat (8 : UInt8)) : Int)), ()) = ((64 : Int), ())) ∧ (decide ((Int.fdiv (15132376222941642752 : Int) ((2 : Int) ^ min (32 : Nat) IntKind.u64.bits)).fdiv ((2 : Int) ^ min (16 : Nat) IntKind.u64.bits) ≥ (256 : Int)) = false → ((0 : Int) ≤ IntKind.u8.wrap ((Int.fdiv (15132376222941642752 : Int) ((2 : Int) ^ min (32 : Nat) IntKind.u64.bits)).fdiv ((2 : Int) ^ min (16 : Nat) IntKind.u64.bits)) ∧ IntKind.u8.wrap ((Int.fdiv (15132376222941642752 : Int) ((2 : Int) ^ min (32 : Nat) IntKind.u64.bits)).fdiv ((2 : Int) ^ min (16 : Nat) IntKind.u64.bits)) < (↑balPrn0.size : Int)) ∧ (IntKind.i64.wrap (IntKind.i64.wrap ((32 : Int) + (16 : Int)) + IntKind.i64.wrap (↑(UInt8.toNat (1 : UInt8)) : Int)), ()) = ((64 : Int), ()))) ∧ (decide (Int.fdiv (15132376222941642752 : Int) ((2 : Int) ^ min (32 : Nat) IntKind.u64.bits) ≥ (65536 : Int)) = false → (decide (Int.fdiv (15132376222941642752 : Int) ((2 : Int) ^ min (32 : Nat) IntKind.u64.bits) ≥ (256 : Int)) = true → (0 : Int) ≤ (8 : Int) ∧ ((0 : Int) ≤ IntKind.u8.wrap ((Int.fdiv (15132376222941642752 : Int) ((2 : Int) ^ min (32 : Nat) IntKind.u64.bits)).fdiv ((2 : Int) ^ min (8 : Nat) IntKind.u64.bits)) ∧ IntKind.u8.wrap ((Int.fdiv (15132376222941642752 : Int) ((2 : Int) ^ min (32 : Nat) IntKind.u64.bits)).fdiv ((2 : Int) ^ min (8 : Nat) IntKind.u64.bits)) < (↑balPrn0.size : Int)) ∧ (IntKind.i64.wrap (IntKind.i64.wrap ((32 : Int) + (8 : Int)) + IntKind.i64.wrap (↑(UInt8.toNat (0 : UInt8)) : Int)), ()) = ((64 : Int), ())) ∧ (decide (Int.fdiv (15132376222941642752 : Int) ((2 : Int) ^ min (32 : Nat) IntKind.u64.bits) ≥ (256 : Int)) = false → ((0 : Int) ≤ IntKind.u8.wrap (Int.fdiv (15132376222941642752 : Int) ((2 : Int) ^ min (32 : Nat) IntKind.u64.bits)) ∧ IntKind.u8.wrap (Int.fdiv (15132376222941642752 : Int) ((2 : Int) ^ min (32 : Nat) IntKind.u64.bits)) < (↑balPrn0.size : Int)) ∧ (IntKind.i64.wrap ((32 : Int) + IntKind.i64.wrap (↑(UInt8.toNat (0 : UInt8)) : Int)), ()) = ((64 : Int), ())))) ∧ (decide ((15132376222941642752 : Int) ≥ (4294967296 : Int)) = false → (decide ((15132376222941642752 : Int) ≥ (65536 : Int)) = true → (0 : Int) ≤ (16 : Int) ∧ (decide (Int.fdiv (15132376222941642752 : Int) ((2 : Int) ^ min (16 : Nat) IntKind.u64.bits) ≥ (256 : Int)) = true → (0 : Int) ≤ (8 : Int) ∧ ((0 : Int) ≤ IntKind.u8.wrap ((Int.fdiv (15132376222941642752 : Int) ((2 : Int) ^ min (16 : Nat) IntKind.u64.bits)).fdiv ((2 : Int) ^ min (8 : Nat) IntKind.u64.bits)) ∧ IntKind.u8.wrap ((Int.fdiv (15132376222941642752 : Int) ((2 : Int) ^ min (16 : Nat) IntKind.u64.bits)).fdiv ((2 : Int) ^ min (8 : Nat) IntKind.u64.bits)) < (↑balPrn0.size : Int)) ∧ (IntKind.i64.wrap (IntKind.i64.wrap (IntKind.i64.wrap ((0 : Int) + (16 : Int)) + (8 : Int)) + IntKind.i64.wrap (↑(UInt8.toNat (0 : UInt8)) : Int)), ()) = ((64 : Int), ())) ∧ (decide (Int.fdiv (15132376222941642752 : Int) ((2 : Int) ^ min (16 : Nat) IntKind.u64.bits) ≥ (256 : Int)) = false → ((0 : Int) ≤ IntKind.u8.wrap (Int.fdiv (15132376222941642752 : Int) ((2 : Int) ^ min (16 : Nat) IntKind.u64.bits)) ∧ IntKind.u8.wrap (Int.fdiv (15132376222941642752 : Int) ((2 : Int) ^ min (16 : Nat) IntKind.u64.bits)) < (↑balPrn0.size : Int)) ∧ (IntKind.i64.wrap (IntKind.i64.wrap ((0 : Int) + (16 : Int)) + IntKind.i64.wrap (↑(UInt8.toNat (1 : UInt8)) : Int)), ()) = ((64 : Int), ()))) ∧ (decide ((15132376222941642752 : Int) ≥ (65536 : Int)) = false → (decide ((15132376222941642752 : Int) ≥ (256 : Int)) = true → (0 : Int) ≤ (8 : Int) ∧ ((0 : Int) ≤ IntKind.u8.wrap (Int.fdiv (15132376222941642752 : Int) ((2 : Int) ^ min (8 : Nat) IntKind.u64.bits)) ∧ IntKind.u8.wrap (Int.fdiv (15132376222941642752 : Int) ((2 : Int) ^ min (8 : Nat) IntKind.u64.bits)) < (↑balPrn0.size : Int)) ∧ (IntKind.i64.wrap (IntKind.i64.wrap ((0 : Int) + (8 : Int)) + IntKind.i64.wrap (↑(UInt8.toNat (0 : UInt8)) : Int)), ()) = ((64 : Int), ())) ∧ (decide ((15132376222941642752 : Int) ≥ (256 : Int)) = false → ((0 : Int) ≤ IntKind.u8.wrap (15132376222941642752 : Int) ∧ IntKind.u8.wrap (15132376222941642752 : Int) < (↑balPrn0.size : Int)) ∧ (IntKind.i64.wrap ((0 : Int) + IntKind.i64.wrap (↑(UInt8.toNat (0 : UInt8)) : Int)), ()) = ((64 : Int), ())))))) (by kernel_rfl) ?_
  refine ⟨fun _ => ⟨by decide, fun _ => ⟨by decide, fun _ => ⟨by decide, ⟨by decide, by decide⟩, ?_⟩, fun h => absurd h (by decide)⟩, fun h => absurd h (by decide)⟩, fun h => absurd h (by decide)⟩
  decide
noncomputable def spLen64 : Nat × Eng.Spec := (56, fnSpec [.int .u64] [.val (.int .i64)] (fun (n, _) => n = (15132376222941642752 : Int)) (fun _ => ((64 : Int), ())))
end Go.Proofs.YtbfimfdhmggieaaGreat.pairing
/- Values forced one by one, for computation. No program here. -/
namespace Cr
def fcn {α : Type} (n : Nat) (k : Nat → α) : α := Nat.rec (k 0) (fun m _ => k (m + 1)) n
noncomputable def fi {α : Type} (x : Int) (k : Int → α) : α := Int.rec (fun n => fcn n fun m => k (Int.ofNat m)) (fun n => fcn n fun m => k (Int.negSucc m)) x
noncomputable def fl {α : Type} (l : List Int) (k : List Int → α) : α := List.rec (motive := fun _ => (List Int → α) → α) (fun k => k []) (fun x _ ih k => fi x fun x' => ih fun l' => k (x' :: l')) l k
/-- So many steps. -/
def it {α : Type} (f : Nat → α → α) (s : α) : Nat → α
  | 0 => s
  | k + 1 => f k (it f s k)
end Cr
/- pairing: lines. -/
namespace Go.Proofs.YtbfimfdhmggieaaGreat.pairing
set_option maxRecDepth 100000
open Go Go.Eng Go.RowKit Cr Go.Proofs.YtbfimfdhmggieaaGreat Go.Proofs.YtbfimfdhmggieaaGreat.fp2 Go.Proofs.YtbfimfdhmggieaaGreat.tower
abbrev zzPrl : (Fp × Fp) × (F2 × F2) × (F2 × F2 × F2) := (((0 : Fp), (0 : Fp)), (((0 : Fp), (0 : Fp)), (0 : Fp), (0 : Fp)), ((0 : Fp), (0 : Fp)), ((0 : Fp), (0 : Fp)), (0 : Fp), (0 : Fp))
abbrev prk : Kd := .pair pt1 (.pair pt2 plk)
abbrev Pr := (Fp × Fp) × ((F2 × F2) × (F2 × F2 × F2))
/-- A pair that counts, or none. -/
noncomputable def pr1 (p : Fp × Fp) (q : F2 × F2) (l : List Pr) : List Pr := match !eqC pt1 p ((0 : Fp), (0 : Fp)), !eqC pt2 q (((0 : Fp), (0 : Fp)), (0 : Fp), (0 : Fp)) with
  | true, true => l ++ [(p, (q, (q.1, q.2, (1 : F2))))]
  | _, _ => l
noncomputable def prs (ps : List (Fp × Fp)) (qs : List (F2 × F2)) (k : Nat) : List Pr := it (fun i l => pr1 (ps.getD i ((0 : Fp), (0 : Fp))) (qs.getD i (((0 : Fp), (0 : Fp)), (0 : Fp), (0 : Fp))) l) [] k
theorem pr1_len (p : Fp × Fp) (q : F2 × F2) (l : List Pr) : (pr1 p q l).length ≤ l.length + 1 := by
  unfold pr1
  split
  · simp
  · omega
theorem prs_len (ps : List (Fp × Fp)) (qs : List (F2 × F2)) : ∀ k, (prs ps qs k).length ≤ k
  | 0 => Nat.zero_le _
  | k + 1 => Nat.le_trans (pr1_len _ _ _) (Nat.succ_le_succ (prs_len ps qs k))
theorem ent_lines : enters Tryz.prog 29 Tryz.f29 := enters_mk (by kernel_rfl) (by kernel_rfl) (by kernel_rfl)
abbrev preLin : HL [.sl pt1, .sl pt2] → Prop := fun (ps, qs, _) => List.length ps ≤ List.length qs ∧ List.length ps ≤ 1048576
noncomputable def liA (o : F2) (ps : List (Fp × Fp)) (qs : List (F2 × F2)) (g : Int × Nat × Nat × List Pr) : St := mkSt Tryz.f29.ntmps 88 [(1, .is (.one (.ro pt2 qs))), (4, .is (.one (.ptr 0 0))), (5, .is (.one (.ptr 16 0))), (6, .is (.one (.sl 48 0 0 g.2.1 72))), (19, .is (.one (.ro pt1 ps))), (20, sI .i64 ps.length), (21, sI .i64 g.1)] [(48, [.row prk g.2.2.1 g.2.2.2]), (16, cellsOf f2 o), (0, cellsOf f12k (0 : F12))]
noncomputable def liO (g : Nat × Nat × List Pr) : St := mkSt Tryz.f29.ntmps 88 [(4, .is (.one (.ptr 0 0))), (6, .is (.one (.sl 48 0 0 g.1 72)))] [(48, [.row prk g.2.1 g.2.2]), (0, cellsOf f12k (0 : F12))]
/-- The parameter's bit. -/
def pbit (b : Int) : Bool := bitOp .and .u64 (Int.fdiv 15132376222941642752 (2 ^ min b.toNat IntKind.u64.bits)) 1 == 1
/-- One pair's round. -/
noncomputable def stF (b : Bool) (f : F12) (k : Pr) : F12 × Pr := match b with
  | false => (f * line12 (two k.2.2 k.1).2.1 (two k.2.2 k.1).2.2.1 (two k.2.2 k.1).2.2.2, (k.1, (k.2.1, (two k.2.2 k.1).1)))
  | true => (f * line12 (two k.2.2 k.1).2.1 (two k.2.2 k.1).2.2.1 (two k.2.2 k.1).2.2.2 * line12 (plo (two k.2.2 k.1).1 k.2.1 k.1).2.1 (plo (two k.2.2 k.1).1 k.2.1 k.1).2.2.1 (plo (two k.2.2 k.1).1 k.2.1 k.1).2.2.2, (k.1, (k.2.1, (plo (two k.2.2 k.1).1 k.2.1 k.1).1)))
noncomputable def inK (b : Bool) (s : F12 × List Pr) (i : Nat) : F12 × List Pr := it (fun i s => ((stF b s.1 (s.2.getD i (zeroOf prk))).1, s.2.set i (stF b s.1 (s.2.getD i (zeroOf prk))).2)) s i
theorem inK_len (b : Bool) (s : F12 × List Pr) : ∀ i, (inK b s i).2.length = s.2.length
  | 0 => rfl
  | i + 1 => by show (List.set _ _ _).length = _; rw [List.length_set]; exact inK_len b s i
noncomputable def ouK (l : List Pr) (j : Nat) : F12 × List Pr := it (fun j s => inK (pbit (62 - (j : Int))) (s.1 * s.1, s.2) l.length) (1, l) j
theorem ouK_len (l : List Pr) : ∀ j, (ouK l j).2.length = l.length
  | 0 => rfl
  | j + 1 => by show (inK _ _ _).2.length = _; rw [inK_len]; exact ouK_len l j
noncomputable def liM (L N : Nat) (g : Int × F12 × List Pr) : St := mkSt Tryz.f29.ntmps 160 [(4, .is (.one (.ptr 0 0))), (6, .is (.one (.sl 48 0 0 L 72))), (10, .is (.one (.ptr 96 0))), (11, sI .i64 g.1)] [(48, [.row prk N g.2.2]), (96, c12 g.2.1), (0, cellsOf f12k (0 : F12))]
noncomputable def liN (L N : Nat) (b : Int) (g : Int × F12 × List Pr) : St := mkSt Tryz.f29.ntmps 160 [(4, .is (.one (.ptr 0 0))), (6, .is (.one (.sl 48 0 0 L 72))), (10, .is (.one (.ptr 96 0))), (11, sI .i64 b), (65, sI .i64 L), (66, sI .i64 g.1)] [(48, [.row prk N g.2.2]), (96, c12 g.2.1), (0, cellsOf f12k (0 : F12))]
noncomputable def liF (ps : List (Fp × Fp)) (qs : List (F2 × F2)) : F12 := match (prs ps qs ps.length).length with
  | 0 => 1
  | _ + 1 => cjo (ouK (prs ps qs ps.length) 63).1
noncomputable def lino (ps : List (Fp × Fp)) (qs : List (F2 × F2)) : F12 := opq (liF ps qs)
theorem fn_lines : FnOk Tryz.prog 29 [.sl pt1, .sl pt2] [.val f12k] noG preLin (fun (ps, qs, _) => (lino ps qs, ())) := by
  have hsp : SpecsOk Tryz.prog (sps [fp2.spSmall, tower.spOne, spLen64, tower.spSquare, spTwice, spPlus, tower.spLine, soConj]) := sps_cons (fnSpec_ok fp2.fn_small) (sps_cons (fnSpec_ok tower.fn_one) (sps_cons (fnSpec_ok fn_len64) (sps_cons (fnSpec_ok tower.fn_square) (sps_cons (fnSpec_ok fn_twice) (sps_cons (fnSpec_ok fn_plus) (sps_cons (fnSpec_ok tower.fn_line) (sps_cons (fnSpec_ok fo_conj) sps_nil)))))))
  refine fn_of_tr (sp := sps [fp2.spSmall, tower.spOne, spLen64, tower.spSquare, spTwice, spPlus, tower.spLine, soConj]) ent_lines (by decide) (by decide) (by kernel_rfl) ?_
  rintro w M0 ⟨ps, qs, ⟨⟩⟩
  revert ps qs
  intro (ps : List (Fp × Fp)) (qs : List (F2 × F2)) _ hp
  have hpq : ps.length ≤ qs.length := hp.1
  have hpl : ps.length ≤ 1048576 := hp.2
  show Tr _ _ _ _ _ _ _
  refine tr_cutF hsp mixed 4 (fun σ => (rdB f2 16 σ, rdN 48 σ, rdR prk 48 σ)) (fun g => liA g.1 ps qs (0, 0, g.2.1, g.2.2)) (fun g => g.1 = (1 : F2)) ?_ ?_
  · refine vcx (X := ((U64 (1 : Int) ∧ U64 (0 : Int)) ∧ ((0 : Int) ≤ (0 : Int) ∧ (0 : Int) ≤ (↑ps.length : Int) ∧ (↑(576 : Nat) : Int) * (↑ps.length : Int) ≤ (281474976710656 : Int) ∧ (↑ps.length : Int) ≤ (9223372036854775807 : Int)) ∧ (liA ((zmp (1 : Int), zmp (0 : Int)), (↑ps.length : Int).toNat, List.replicate (↑ps.length : Int).toNat zzPrl).fst ps qs ((0 : Int), (0 : Nat), ((zmp (1 : Int), zmp (0 : Int)), (↑ps.length : Int).toNat, List.replicate (↑ps.length : Int).toNat zzPrl).snd.fst, ((zmp (1 : Int), zmp (0 : Int)), (↑ps.length : Int).toNat, List.replicate (↑ps.length : Int).toNat zzPrl).snd.snd)).triv ((zmp (1 : Int), zmp (0 : Int)) = (1 : F2)))) (by kernel_rfl) ?_
    refine ⟨⟨⟨by decide, by decide⟩, ⟨by decide, by decide⟩⟩, ⟨by decide, by omega, by omega, by omega⟩, triv_intro ?_⟩
    have h1 : zmp 1 = (1 : Fp) := Zm.ext (by decide)
    have h0 : zmp 0 = (0 : Fp) := Zm.ext (by decide)
    rw [h1, h0]; rfl
  rintro ⟨o, N0, x0⟩ ho
  revert o x0
  intro (o : F2) (x0 : List Pr) (ho : o = (1 : F2))
  refine tr_while hsp mixed (fun σ => [(48, rdI 6 σ)]) (fun σ => (rdS (.int .i64) 21 σ, rdL 6 σ, rdN 48 σ, rdR prk 48 σ)) (liA o ps qs) (fun g => ∃ k : Nat, k ≤ ps.length ∧ g.1 = (k : Int) ∧ g.2.1 ≤ g.2.2.1 ∧ g.2.2.2.take g.2.1 = prs ps qs k ∧ g.2.1 = (prs ps qs k).length) (fun g => ps.length - g.1.toNat)
    (fun σ => (rdL 6 σ, rdN 48 σ, rdR prk 48 σ)) liO (fun g => g.1 ≤ g.2.1 ∧ g.2.2.take g.1 = prs ps qs ps.length ∧ g.1 = (prs ps qs ps.length).length) (0, 0, N0, x0) (c := nthC (codeOf Tryz.f29) 4) (by kernel_rfl) (by kernel_rfl) (le_of_proj (by kernel_rfl) (by kernel_rfl) ?_) ?_ ?_
  · exact ⟨0, Nat.zero_le _, rfl, Nat.zero_le _, rfl, rfl⟩
  · rintro ⟨i, L, N, xs⟩ hj
    revert i xs
    intro (i : Int) (xs : List Pr) ⟨k, hk, ei, hLN, hx, hL⟩
    have ei : i = (k : Int) := ei
    subst ei
    have hLN : L ≤ N := hLN
    have hx : xs.take L = prs ps qs k := hx
    have hL : L = (prs ps qs k).length := hL
    refine vcx (X := ((decide ((↑k : Int) < (↑ps.length : Int)) = true → ((0 : Int) ≤ (↑k : Int) ∧ (↑k : Int) < (↑ps.length : Int)) ∧ (↑k : Int).toNat < ps.length ∧ ((0 : Int) ≤ (↑k : Int) ∧ (↑k : Int) < (↑qs.length : Int)) ∧ (↑k : Int).toNat < qs.length ∧ ((!eqC (Kd.fp.pair Kd.fp) (ps.getD (↑k : Int).toNat ((0 : Fp), (0 : Fp))) ((0 : Fp), (0 : Fp))) = true → ((!eqC ((Kd.fp.pair Kd.fp).pair (Kd.fp.pair Kd.fp)) (qs.getD (↑k : Int).toNat (((0 : Fp), (0 : Fp)), (0 : Fp), (0 : Fp))) (((0 : Fp), (0 : Fp)), (0 : Fp), (0 : Fp))) = true → (0 : Nat) + (1 : Nat) ≤ (1 : Nat) ∧ L ≤ N ∧ (L + (1 : Nat)) * (576 : Nat) ≤ (140737488355328 : Nat) ∧ L + (1 : Nat) ≤ (4611686018427387904 : Nat) ∧ (liA o ps qs (IntKind.i64.wrap ((↑k : Int) + (1 : Int)), L + (1 : Nat), L + (1 : Nat), List.take L xs ++ List.take (1 : Nat) [(ps.getD (↑k : Int).toNat ((0 : Fp), (0 : Fp)), qs.getD (↑k : Int).toNat (((0 : Fp), (0 : Fp)), (0 : Fp), (0 : Fp)), (qs.getD (↑k : Int).toNat (((0 : Fp), (0 : Fp)), (0 : Fp), (0 : Fp))).fst, (qs.getD (↑k : Int).toNat (((0 : Fp), (0 : Fp)), (0 : Fp), (0 : Fp))).snd, o)])).triv ((∃ k_1, k_1 ≤ ps.length ∧ IntKind.i64.wrap ((↑k : Int) + (1 : Int)) = (↑k_1 : Int) ∧ L + (1 : Nat) ≤ L + (1 : Nat) ∧ List.take (L + (1 : Nat)) (List.take L xs ++ List.take (1 : Nat) [(ps.getD (↑k : Int).toNat ((0 : Fp), (0 : Fp)), qs.getD (↑k : Int).toNat (((0 : Fp), (0 : Fp)), (0 : Fp), (0 : Fp)), (qs.getD (↑k : Int).toNat (((0 : Fp), (0 : Fp)), (0 : Fp), (0 : Fp))).fst, (qs.getD (↑k : Int).toNat (((0 : Fp), (0 : Fp)), (0 : Fp), (0 : Fp))).snd, o)]) = prs ps qs k_1 ∧ L + (1 : Nat) = (prs ps qs k_1).length) ∧ ps.length - (IntKind.i64.wrap ((↑k : Int) + (1 : Int))).toNat < ps.length - (↑k : Int).toNat)) ∧ ((!eqC ((Kd.fp.pair Kd.fp).pair (Kd.fp.pair Kd.fp)) (qs.getD (↑k : Int).toNat (((0 : Fp), (0 : Fp)), (0 : Fp), (0 : Fp))) (((0 : Fp), (0 : Fp)), (0 : Fp), (0 : Fp))) = false → (liA o ps qs (IntKind.i64.wrap ((↑k : Int) + (1 : Int)), L, N, xs)).triv ((∃ k_1, k_1 ≤ ps.length ∧ IntKind.i64.wrap ((↑k : Int) + (1 : Int)) = (↑k_1 : Int) ∧ L ≤ N ∧ List.take L xs = prs ps qs k_1 ∧ L = (prs ps qs k_1).length) ∧ ps.length - (IntKind.i64.wrap ((↑k : Int) + (1 : Int))).toNat < ps.length - (↑k : Int).toNat))) ∧ ((!eqC (Kd.fp.pair Kd.fp) (ps.getD (↑k : Int).toNat ((0 : Fp), (0 : Fp))) ((0 : Fp), (0 : Fp))) = false → (liA o ps qs (IntKind.i64.wrap ((↑k : Int) + (1 : Int)), L, N, xs)).triv ((∃ k_1, k_1 ≤ ps.length ∧ IntKind.i64.wrap ((↑k : Int) + (1 : Int)) = (↑k_1 : Int) ∧ L ≤ N ∧ List.take L xs = prs ps qs k_1 ∧ L = (prs ps qs k_1).length) ∧ ps.length - (IntKind.i64.wrap ((↑k : Int) + (1 : Int))).toNat < ps.length - (↑k : Int).toNat))) ∧ (decide ((↑k : Int) < (↑ps.length : Int)) = false → (liO (L, N, xs)).triv (L ≤ N ∧ List.take L xs = prs ps qs ps.length ∧ L = (prs ps qs ps.length).length)))) (by kernel_rfl) ?_
    have hstep : prs ps qs (k + 1) = pr1 (ps.getD k ((0 : Fp), (0 : Fp))) (qs.getD k (((0 : Fp), (0 : Fp)), (0 : Fp), (0 : Fp))) (prs ps qs k) := rfl
    have hle := prs_len ps qs k
    refine ⟨fun h => ?_, fun h => triv_intro ?_⟩
    · have hlt : k < ps.length := by have := of_decide_eq_true h; omega
      rw [wrap_succ (by omega)]
      simp only [Int.toNat_natCast]
      refine ⟨⟨by omega, by omega⟩, hlt, ⟨by omega, by omega⟩, by omega, fun h1 => ⟨fun h2 => ⟨by decide, hLN, by omega, by omega, triv_intro ⟨⟨k + 1, hlt, rfl, Nat.le_refl _, ?_, ?_⟩, by omega⟩⟩, fun h2 => triv_intro ⟨⟨k + 1, hlt, rfl, hLN, ?_, ?_⟩, by omega⟩⟩, fun h1 => triv_intro ⟨⟨k + 1, hlt, rfl, hLN, ?_, ?_⟩, by omega⟩⟩
      · rw [hstep, pr1, h1, h2, hx, List.take_of_length_le (by rw [List.length_append, ← hL]; exact Nat.le_refl _), ho]; rfl
      · rw [hstep, pr1, h1, h2]
        show L + 1 = (prs ps qs k ++ [_]).length
        rw [List.length_append, ← hL]; rfl
      · rw [hstep, pr1, h1, h2, hx]
      · rw [hstep, pr1, h1, h2, hL]
      · rw [hstep, pr1, h1, hx]
      · rw [hstep, pr1, h1, hL]
    · have hk2 : k = ps.length := by have := of_decide_eq_false h; omega
      rw [hk2] at hx hL
      exact ⟨hLN, hx, hL⟩
  rintro ⟨L, N, xs⟩ hj
  revert xs
  intro (xs : List Pr) ⟨hLN, hx, hL⟩
  have hLN : L ≤ N := hLN
  have hx : xs.take L = prs ps qs ps.length := hx
  have hL : L = (prs ps qs ps.length).length := hL
  refine tr_cutF hsp mixed 4 (fun σ => rdB f12k 96 σ) (fun f => liM L N (62, f, xs)) (fun f => f = (1 : F12) ∧ 0 < L) ?_ ?_
  · refine vcx (X := (True ∧ (((↑L : Int) == (0 : Int)) = true → (((((1 : Fp), (0 : Fp)), ((0 : Fp), (0 : Fp)), (0 : Fp), (0 : Fp)), ((0 : Fp), (0 : Fp)), ((0 : Fp), (0 : Fp)), (0 : Fp), (0 : Fp)), ()) = (lino ps qs, ())) ∧ (((↑L : Int) == (0 : Int)) = false → (15132376222941642752 : Int) = (15132376222941642752 : Int) ∧ (liM L N ((62 : Int), ((((1 : Fp), (0 : Fp)), ((0 : Fp), (0 : Fp)), (0 : Fp), (0 : Fp)), ((0 : Fp), (0 : Fp)), ((0 : Fp), (0 : Fp)), (0 : Fp), (0 : Fp)), xs)).triv (((((1 : Fp), (0 : Fp)), ((0 : Fp), (0 : Fp)), (0 : Fp), (0 : Fp)), ((0 : Fp), (0 : Fp)), ((0 : Fp), (0 : Fp)), (0 : Fp), (0 : Fp)) = (1 : F12) ∧ (0 : Nat) < L)))) (by kernel_rfl) ?_
    refine ⟨trivial, fun h => ?_, fun h => ⟨rfl, triv_intro ⟨rfl, ?_⟩⟩⟩
    · have h0 : L = 0 := by have : (L : Int) = 0 := by simpa using h
                            omega
      rw [lino, opq_eq, liF, ← hL, h0]; rfl
    · have h0 : ¬ (L : Int) = 0 := by simpa using h
      omega
  rintro f0 ⟨hf0, hL0⟩
  revert f0
  intro (f0 : F12) (hf0 : f0 = 1)
  refine tr_whileT noSw (fun σ => (rdS (.int .i64) 11 σ, rdB f12k 96 σ, rdR prk 48 σ)) (liM L N) (fun g => ∃ j : Nat, j ≤ 63 ∧ g.1 = 62 - (j : Int) ∧ (g.2.1, g.2.2.take L) = ouK (prs ps qs ps.length) j) (fun g => (g.1 + 1).toNat)
    (fun σ => (rdS (.int .i64) 11 σ, rdB f12k 96 σ, rdR prk 48 σ)) (liM L N) (fun g => g.2.1 = (ouK (prs ps qs ps.length) 63).1) (62, f0, xs) (c := nthC (codeOf Tryz.f29) 9) (by kernel_rfl) (by kernel_rfl) (le_of_proj (by kernel_rfl) (by kernel_rfl) ?_) ?_ ?_
  · refine ⟨0, by decide, rfl, ?_⟩
    show (f0, xs.take L) = (1, prs ps qs ps.length)
    rw [hf0, hx]
  · rintro ⟨b, f, ys⟩ hj
    revert b f ys
    intro (b : Int) (f : F12) (ys : List Pr) ⟨j, hj, eb, es⟩
    have hj : j ≤ 63 := hj
    have eb : b = 62 - (j : Int) := eb
    have es : (f, ys.take L) = ouK (prs ps qs ps.length) j := es
    refine tr_cut hsp mixed 2 (liM L N (b, f, ys)) (j < 63) ?_ (fun hj63 => ?_)
    · refine vcx (X := ((decide (b ≥ (0 : Int)) = true → (liM L N (b, f, ys)).triv (j < (63 : Nat))) ∧ (decide (b ≥ (0 : Int)) = false → (liM L N (b, f, ys)).triv (f = (ouK (prs ps qs ps.length) (63 : Nat)).fst)))) (by kernel_rfl) ?_
      refine ⟨fun h => triv_intro (by have h : b ≥ 0 := of_decide_eq_true h
                                      omega), fun h => triv_intro ?_⟩
      have h : ¬ b ≥ 0 := of_decide_eq_false h
      have ej : j = 63 := by omega
      rw [← ej, ← es]
    refine tr_block (c := nthC (loopOf (nthC (codeOf Tryz.f29) 9)) 2) (by kernel_rfl) (by kernel_rfl) ?_
    refine tr_cutF hsp mixed 2 (fun σ => rdB f12k 96 σ) (fun f2 => liN L N b (0, f2, ys)) (fun f2 => f2 = f * f) ?_ ?_
    · refine vcx (X := (True ∧ (liN L N b ((0 : Int), f * f, ys)).triv (f * f = f * f))) (by kernel_rfl) ?_
      exact ⟨trivial, triv_intro (by first | exact trivial | rfl)⟩
    intro (f2 : F12) (hf2 : f2 = f * f)
    refine tr_while hsp mixed noSw (fun σ => (rdS (.int .i64) 66 σ, rdB f12k 96 σ, rdR prk 48 σ)) (liN L N b) (fun g => ∃ i : Nat, i ≤ L ∧ g.1 = (i : Int) ∧ (g.2.1, g.2.2.take L) = inK (pbit b) (f * f, ys.take L) i) (fun g => L - g.1.toNat)
      (fun σ => (rdB f12k 96 σ, rdR prk 48 σ)) (fun g => liM L N (b, g.1, g.2)) (fun g => (g.1, g.2.take L) = inK (pbit b) (f * f, ys.take L) L) (0, f2, ys) (c := nthC (bodyOf (nthC (loopOf (nthC (codeOf Tryz.f29) 9)) 2)) 2) (by kernel_rfl) (by kernel_rfl) (le_of_proj (by kernel_rfl) (by kernel_rfl) ?_) ?_ ?_
    · exact ⟨0, Nat.zero_le _, rfl, by rw [hf2]; rfl⟩
    · rintro ⟨i, f3, zs⟩ hi
      revert i f3 zs
      intro (i : Int) (f3 : F12) (zs : List Pr) ⟨t, ht, ei, es3⟩
      have ei : i = (t : Int) := ei
      subst ei
      have ht : t ≤ L := ht
      have es3 : (f3, zs.take L) = inK (pbit b) (f * f, ys.take L) t := es3
      refine vcx (X := ((decide ((↑t : Int) < (↑L : Int)) = true → ((0 : Int) ≤ (↑t : Int) ∧ (↑t : Int) < (↑L : Int)) ∧ (↑t : Int).toNat < N ∧ (↑t : Int).toNat < N ∧ True ∧ (↑t : Int).toNat < N ∧ True ∧ (0 : Int) ≤ b ∧ ((bitOp BinOp.and IntKind.u64 (Int.fdiv (15132376222941642752 : Int) ((2 : Int) ^ min b.toNat IntKind.u64.bits)) (1 : Int) == (1 : Int)) = true → (↑t : Int).toNat < N ∧ (↑t : Int).toNat < N ∧ (↑t : Int).toNat < N ∧ True ∧ (↑t : Int).toNat < N ∧ True ∧ (liN L N b (IntKind.i64.wrap ((↑t : Int) + (1 : Int)), f3 * line12 (two (zs.getD (↑t : Int).toNat zzPrl).snd.snd (zs.getD (↑t : Int).toNat zzPrl).fst).snd.fst (two (zs.getD (↑t : Int).toNat zzPrl).snd.snd (zs.getD (↑t : Int).toNat zzPrl).fst).snd.snd.fst (two (zs.getD (↑t : Int).toNat zzPrl).snd.snd (zs.getD (↑t : Int).toNat zzPrl).fst).snd.snd.snd * line12 (plo ((zs.set (↑t : Int).toNat ((zs.getD (↑t : Int).toNat zzPrl).fst, (zs.getD (↑t : Int).toNat zzPrl).snd.fst, (two (zs.getD (↑t : Int).toNat zzPrl).snd.snd (zs.getD (↑t : Int).toNat zzPrl).fst).fst)).getD (↑t : Int).toNat zzPrl).snd.snd ((zs.set (↑t : Int).toNat ((zs.getD (↑t : Int).toNat zzPrl).fst, (zs.getD (↑t : Int).toNat zzPrl).snd.fst, (two (zs.getD (↑t : Int).toNat zzPrl).snd.snd (zs.getD (↑t : Int).toNat zzPrl).fst).fst)).getD (↑t : Int).toNat zzPrl).snd.fst ((zs.set (↑t : Int).toNat ((zs.getD (↑t : Int).toNat zzPrl).fst, (zs.getD (↑t : Int).toNat zzPrl).snd.fst, (two (zs.getD (↑t : Int).toNat zzPrl).snd.snd (zs.getD (↑t : Int).toNat zzPrl).fst).fst)).getD (↑t : Int).toNat zzPrl).fst).snd.fst (plo ((zs.set (↑t : Int).toNat ((zs.getD (↑t : Int).toNat zzPrl).fst, (zs.getD (↑t : Int).toNat zzPrl).snd.fst, (two (zs.getD (↑t : Int).toNat zzPrl).snd.snd (zs.getD (↑t : Int).toNat zzPrl).fst).fst)).getD (↑t : Int).toNat zzPrl).snd.snd ((zs.set (↑t : Int).toNat ((zs.getD (↑t : Int).toNat zzPrl).fst, (zs.getD (↑t : Int).toNat zzPrl).snd.fst, (two (zs.getD (↑t : Int).toNat zzPrl).snd.snd (zs.getD (↑t : Int).toNat zzPrl).fst).fst)).getD (↑t : Int).toNat zzPrl).snd.fst ((zs.set (↑t : Int).toNat ((zs.getD (↑t : Int).toNat zzPrl).fst, (zs.getD (↑t : Int).toNat zzPrl).snd.fst, (two (zs.getD (↑t : Int).toNat zzPrl).snd.snd (zs.getD (↑t : Int).toNat zzPrl).fst).fst)).getD (↑t : Int).toNat zzPrl).fst).snd.snd.fst (plo ((zs.set (↑t : Int).toNat ((zs.getD (↑t : Int).toNat zzPrl).fst, (zs.getD (↑t : Int).toNat zzPrl).snd.fst, (two (zs.getD (↑t : Int).toNat zzPrl).snd.snd (zs.getD (↑t : Int).toNat zzPrl).fst).fst)).getD (↑t : Int).toNat zzPrl).snd.snd ((zs.set (↑t : Int).toNat ((zs.getD (↑t : Int).toNat zzPrl).fst, (zs.getD (↑t : Int).toNat zzPrl).snd.fst, (two (zs.getD (↑t : Int).toNat zzPrl).snd.snd (zs.getD (↑t : Int).toNat zzPrl).fst).fst)).getD (↑t : Int).toNat zzPrl).snd.fst ((zs.set (↑t : Int).toNat ((zs.getD (↑t : Int).toNat zzPrl).fst, (zs.getD (↑t : Int).toNat zzPrl).snd.fst, (two (zs.getD (↑t : Int).toNat zzPrl).snd.snd (zs.getD (↑t : Int).toNat zzPrl).fst).fst)).getD (↑t : Int).toNat zzPrl).fst).snd.snd.snd, (zs.set (↑t : Int).toNat ((zs.getD (↑t : Int).toNat zzPrl).fst, (zs.getD (↑t : Int).toNat zzPrl).snd.fst, (two (zs.getD (↑t : Int).toNat zzPrl).snd.snd (zs.getD (↑t : Int).toNat zzPrl).fst).fst)).set (↑t : Int).toNat (((zs.set (↑t : Int).toNat ((zs.getD (↑t : Int).toNat zzPrl).fst, (zs.getD (↑t : Int).toNat zzPrl).snd.fst, (two (zs.getD (↑t : Int).toNat zzPrl).snd.snd (zs.getD (↑t : Int).toNat zzPrl).fst).fst)).getD (↑t : Int).toNat zzPrl).fst, ((zs.set (↑t : Int).toNat ((zs.getD (↑t : Int).toNat zzPrl).fst, (zs.getD (↑t : Int).toNat zzPrl).snd.fst, (two (zs.getD (↑t : Int).toNat zzPrl).snd.snd (zs.getD (↑t : Int).toNat zzPrl).fst).fst)).getD (↑t : Int).toNat zzPrl).snd.fst, (plo ((zs.set (↑t : Int).toNat ((zs.getD (↑t : Int).toNat zzPrl).fst, (zs.getD (↑t : Int).toNat zzPrl).snd.fst, (two (zs.getD (↑t : Int).toNat zzPrl).snd.snd (zs.getD (↑t : Int).toNat zzPrl).fst).fst)).getD (↑t : Int).toNat zzPrl).snd.snd ((zs.set (↑t : Int).toNat ((zs.getD (↑t : Int).toNat zzPrl).fst, (zs.getD (↑t : Int).toNat zzPrl).snd.fst, (two (zs.getD (↑t : Int).toNat zzPrl).snd.snd (zs.getD (↑t : Int).toNat zzPrl).fst).fst)).getD (↑t : Int).toNat zzPrl).snd.fst ((zs.set (↑t : Int).toNat ((zs.getD (↑t : Int).toNat zzPrl).fst, (zs.getD (↑t : Int).toNat zzPrl).snd.fst, (two (zs.getD (↑t : Int).toNat zzPrl).snd.snd (zs.getD (↑t : Int).toNat zzPrl).fst).fst)).getD (↑t : Int).toNat zzPrl).fst).fst))).triv ((∃ i, i ≤ L ∧ IntKind.i64.wrap ((↑t : Int) + (1 : Int)) = (↑i : Int) ∧ (f3 * line12 (two (zs.getD (↑t : Int).toNat zzPrl).snd.snd (zs.getD (↑t : Int).toNat zzPrl).fst).snd.fst (two (zs.getD (↑t : Int).toNat zzPrl).snd.snd (zs.getD (↑t : Int).toNat zzPrl).fst).snd.snd.fst (two (zs.getD (↑t : Int).toNat zzPrl).snd.snd (zs.getD (↑t : Int).toNat zzPrl).fst).snd.snd.snd * line12 (plo ((zs.set (↑t : Int).toNat ((zs.getD (↑t : Int).toNat zzPrl).fst, (zs.getD (↑t : Int).toNat zzPrl).snd.fst, (two (zs.getD (↑t : Int).toNat zzPrl).snd.snd (zs.getD (↑t : Int).toNat zzPrl).fst).fst)).getD (↑t : Int).toNat zzPrl).snd.snd ((zs.set (↑t : Int).toNat ((zs.getD (↑t : Int).toNat zzPrl).fst, (zs.getD (↑t : Int).toNat zzPrl).snd.fst, (two (zs.getD (↑t : Int).toNat zzPrl).snd.snd (zs.getD (↑t : Int).toNat zzPrl).fst).fst)).getD (↑t : Int).toNat zzPrl).snd.fst ((zs.set (↑t : Int).toNat ((zs.getD (↑t : Int).toNat zzPrl).fst, (zs.getD (↑t : Int).toNat zzPrl).snd.fst, (two (zs.getD (↑t : Int).toNat zzPrl).snd.snd (zs.getD (↑t : Int).toNat zzPrl).fst).fst)).getD (↑t : Int).toNat zzPrl).fst).snd.fst (plo ((zs.set (↑t : Int).toNat ((zs.getD (↑t : Int).toNat zzPrl).fst, (zs.getD (↑t : Int).toNat zzPrl).snd.fst, (two (zs.getD (↑t : Int).toNat zzPrl).snd.snd (zs.getD (↑t : Int).toNat zzPrl).fst).fst)).getD (↑t : Int).toNat zzPrl).snd.snd ((zs.set (↑t : Int).toNat ((zs.getD (↑t : Int).toNat zzPrl).fst, (zs.getD (↑t : Int).toNat zzPrl).snd.fst, (two (zs.getD (↑t : Int).toNat zzPrl).snd.snd (zs.getD (↑t : Int).toNat zzPrl).fst).fst)).getD (↑t : Int).toNat zzPrl).snd.fst ((zs.set (↑t : Int).toNat ((zs.getD (↑t : Int).toNat zzPrl).fst, (zs.getD (↑t : Int).toNat zzPrl).snd.fst, (two (zs.getD (↑t : Int).toNat zzPrl).snd.snd (zs.getD (↑t : Int).toNat zzPrl).fst).fst)).getD (↑t : Int).toNat zzPrl).fst).snd.snd.fst (plo ((zs.set (↑t : Int).toNat ((zs.getD (↑t : Int).toNat zzPrl).fst, (zs.getD (↑t : Int).toNat zzPrl).snd.fst, (two (zs.getD (↑t : Int).toNat zzPrl).snd.snd (zs.getD (↑t : Int).toNat zzPrl).fst).fst)).getD (↑t : Int).toNat zzPrl).snd.snd ((zs.set (↑t : Int).toNat ((zs.getD (↑t : Int).toNat zzPrl).fst, (zs.getD (↑t : Int).toNat zzPrl).snd.fst, (two (zs.getD (↑t : Int).toNat zzPrl).snd.snd (zs.getD (↑t : Int).toNat zzPrl).fst).fst)).getD (↑t : Int).toNat zzPrl).snd.fst ((zs.set (↑t : Int).toNat ((zs.getD (↑t : Int).toNat zzPrl).fst, (zs.getD (↑t : Int).toNat zzPrl).snd.fst, (two (zs.getD (↑t : Int).toNat zzPrl).snd.snd (zs.getD (↑t : Int).toNat zzPrl).fst).fst)).getD (↑t : Int).toNat zzPrl).fst).snd.snd.snd, List.take L ((zs.set (↑t : Int).toNat ((zs.getD (↑t : Int).toNat zzPrl).fst, (zs.getD (↑t : Int).toNat zzPrl).snd.fst, (two (zs.getD (↑t : Int).toNat zzPrl).snd.snd (zs.getD (↑t : Int).toNat zzPrl).fst).fst)).set (↑t : Int).toNat (((zs.set (↑t : Int).toNat ((zs.getD (↑t : Int).toNat zzPrl).fst, (zs.getD (↑t : Int).toNat zzPrl).snd.fst, (two (zs.getD (↑t : Int).toNat zzPrl).snd.snd (zs.getD (↑t : Int).toNat zzPrl).fst).fst)).getD (↑t : Int).toNat zzPrl).fst, ((zs.set (↑t : Int).toNat ((zs.getD (↑t : Int).toNat zzPrl).fst, (zs.getD (↑t : Int).toNat zzPrl).snd.fst, (two (zs.getD (↑t : Int).toNat zzPrl).snd.snd (zs.getD (↑t : Int).toNat zzPrl).fst).fst)).getD (↑t : Int).toNat zzPrl).snd.fst, (plo ((zs.set (↑t : Int).toNat ((zs.getD (↑t : Int).toNat zzPrl).fst, (zs.getD (↑t : Int).toNat zzPrl).snd.fst, (two (zs.getD (↑t : Int).toNat zzPrl).snd.snd (zs.getD (↑t : Int).toNat zzPrl).fst).fst)).getD (↑t : Int).toNat zzPrl).snd.snd ((zs.set (↑t : Int).toNat ((zs.getD (↑t : Int).toNat zzPrl).fst, (zs.getD (↑t : Int).toNat zzPrl).snd.fst, (two (zs.getD (↑t : Int).toNat zzPrl).snd.snd (zs.getD (↑t : Int).toNat zzPrl).fst).fst)).getD (↑t : Int).toNat zzPrl).snd.fst ((zs.set (↑t : Int).toNat ((zs.getD (↑t : Int).toNat zzPrl).fst, (zs.getD (↑t : Int).toNat zzPrl).snd.fst, (two (zs.getD (↑t : Int).toNat zzPrl).snd.snd (zs.getD (↑t : Int).toNat zzPrl).fst).fst)).getD (↑t : Int).toNat zzPrl).fst).fst))) = inK (pbit b) (f * f, List.take L ys) i) ∧ L - (IntKind.i64.wrap ((↑t : Int) + (1 : Int))).toNat < L - (↑t : Int).toNat)) ∧ ((bitOp BinOp.and IntKind.u64 (Int.fdiv (15132376222941642752 : Int) ((2 : Int) ^ min b.toNat IntKind.u64.bits)) (1 : Int) == (1 : Int)) = false → (liN L N b (IntKind.i64.wrap ((↑t : Int) + (1 : Int)), f3 * line12 (two (zs.getD (↑t : Int).toNat zzPrl).snd.snd (zs.getD (↑t : Int).toNat zzPrl).fst).snd.fst (two (zs.getD (↑t : Int).toNat zzPrl).snd.snd (zs.getD (↑t : Int).toNat zzPrl).fst).snd.snd.fst (two (zs.getD (↑t : Int).toNat zzPrl).snd.snd (zs.getD (↑t : Int).toNat zzPrl).fst).snd.snd.snd, zs.set (↑t : Int).toNat ((zs.getD (↑t : Int).toNat zzPrl).fst, (zs.getD (↑t : Int).toNat zzPrl).snd.fst, (two (zs.getD (↑t : Int).toNat zzPrl).snd.snd (zs.getD (↑t : Int).toNat zzPrl).fst).fst))).triv ((∃ i, i ≤ L ∧ IntKind.i64.wrap ((↑t : Int) + (1 : Int)) = (↑i : Int) ∧ (f3 * line12 (two (zs.getD (↑t : Int).toNat zzPrl).snd.snd (zs.getD (↑t : Int).toNat zzPrl).fst).snd.fst (two (zs.getD (↑t : Int).toNat zzPrl).snd.snd (zs.getD (↑t : Int).toNat zzPrl).fst).snd.snd.fst (two (zs.getD (↑t : Int).toNat zzPrl).snd.snd (zs.getD (↑t : Int).toNat zzPrl).fst).snd.snd.snd, List.take L (zs.set (↑t : Int).toNat ((zs.getD (↑t : Int).toNat zzPrl).fst, (zs.getD (↑t : Int).toNat zzPrl).snd.fst, (two (zs.getD (↑t : Int).toNat zzPrl).snd.snd (zs.getD (↑t : Int).toNat zzPrl).fst).fst))) = inK (pbit b) (f * f, List.take L ys) i) ∧ L - (IntKind.i64.wrap ((↑t : Int) + (1 : Int))).toNat < L - (↑t : Int).toNat))) ∧ (decide ((↑t : Int) < (↑L : Int)) = false → (liM L N (b, (f3, zs).fst, (f3, zs).snd)).triv ((f3, List.take L zs) = inK (pbit b) (f * f, List.take L ys) L)))) (by kernel_rfl) ?_
      have hkl : (zs.take L).length = L := by
        have h1 := congrArg (fun s : F12 × List Pr => s.2.length) es3
        have h2 := congrArg (fun s : F12 × List Pr => s.2.length) es
        simp only [inK_len, ouK_len] at h1 h2
        rw [h1, h2, ← hL]
      have hzL : L ≤ zs.length := by rw [List.length_take] at hkl; omega
      refine ⟨fun h => ?_, fun h => triv_intro ?_⟩
      · have htL : t < L := by have := of_decide_eq_true h; omega
        have hd : zs.getD t (zeroOf prk) = (zs.take L).getD t (zeroOf prk) := by
          simp only [List.getD_eq_getElem?_getD, List.getElem?_take, htL, if_true]
        obtain ⟨Z, hZ⟩ : ∃ Z, Z = zs.getD t (zeroOf prk) := ⟨_, rfl⟩
        have hZ1 : zs.getD t zzPrl = Z := hZ.symm
        have hs : ∀ v : Pr, (zs.set t v).getD t zzPrl = v := fun v => by
          simp [show t < zs.length by omega]
        have hT : ∀ v : Pr, (zs.set t v).take L = (zs.take L).set t v := fun v => by rw [List.take_set]
        have hb0 : 0 ≤ b := by omega
        have hLp := prs_len ps qs ps.length
        have hLb : L ≤ 1048576 := by omega
        have hin : inK (pbit b) (f * f, ys.take L) (t + 1) = ((stF (pbit b) f3 Z).1, (zs.take L).set t (stF (pbit b) f3 Z).2) := by
          show ((stF (pbit b) (inK (pbit b) (f * f, ys.take L) t).1 ((inK (pbit b) (f * f, ys.take L) t).2.getD t (zeroOf prk))).1, (inK (pbit b) (f * f, ys.take L) t).2.set t (stF (pbit b) (inK (pbit b) (f * f, ys.take L) t).1 ((inK (pbit b) (f * f, ys.take L) t).2.getD t (zeroOf prk))).2) = _
          rw [← es3, hZ, hd]
        rw [wrap_succ (by omega)]
        simp only [Int.toNat_natCast]
        rw [hZ1]
        simp only [hs, List.set_set]
        have htN : t < N := by omega
        refine ⟨⟨by omega, by omega⟩, htN, htN, trivial, htN, trivial, hb0, fun h1 => ?_, fun h1 => ?_⟩
        · have hp1 : pbit b = true := h1
          refine ⟨htN, htN, htN, trivial, htN, trivial, triv_intro ⟨⟨t + 1, htL, rfl, ?_⟩, by omega⟩⟩
          rw [hin, hp1, ← hT]; rfl
        · have hp1 : pbit b = false := h1
          refine triv_intro ⟨⟨t + 1, htL, rfl, ?_⟩, by omega⟩
          rw [hin, hp1, ← hT]; rfl
      · have htL : t = L := by have := of_decide_eq_false h; omega
        rw [htL] at es3
        exact es3
    rintro ⟨f4, zs⟩ h4
    revert f4 zs
    intro (f4 : F12) (zs : List Pr) (h4 : (f4, zs.take L) = inK (pbit b) (f * f, ys.take L) L)
    refine tr_nil ?_
    refine tr_vc hsp mixed _ _ ?_
    refine vcx (X := ((liM L N (IntKind.i64.wrap (b - (1 : Int)), f4, zs)).triv ((∃ j, j ≤ (63 : Nat) ∧ IntKind.i64.wrap (b - (1 : Int)) = (62 : Car (Kd.int IntKind.i64)) - (↑j : Int) ∧ (f4, List.take L zs) = ouK (prs ps qs ps.length) j) ∧ Int.toNat (IntKind.i64.wrap (b - (1 : Int)) + (1 : Car (Kd.int IntKind.i64))) < Int.toNat (b + (1 : Car (Kd.int IntKind.i64)))))) (by kernel_rfl) ?_
    have hw : IntKind.i64.wrap (b - 1) = b - 1 := wrap_i64' (by omega) (by omega)
    refine triv_intro ⟨⟨j + 1, hj63, ?_, ?_⟩, ?_⟩
    · show IntKind.i64.wrap (b - 1) = 62 - ((j + 1 : Nat) : Int)
      rw [hw]; omega
    · show (f4, zs.take L) = inK (pbit (62 - (j : Int))) ((ouK (prs ps qs ps.length) j).1 * (ouK (prs ps qs ps.length) j).1, (ouK (prs ps qs ps.length) j).2) (prs ps qs ps.length).length
      rw [← es, ← hL, ← eb]; exact h4
    · show (IntKind.i64.wrap (b - 1) + 1).toNat < (b + 1).toNat
      rw [hw]; omega
  rintro ⟨b, f, ys⟩ hf
  revert b f ys
  intro (b : Int) (f : F12) (ys : List Pr) (hf : f = (ouK (prs ps qs ps.length) 63).1)
  refine tr_vc hsp mixed _ _ ?_
  refine vcx (X := (True ∧ (cjo f, ()) = (lino ps qs, ()))) (by kernel_rfl) ?_
  refine ⟨trivial, ?_⟩
  obtain ⟨m, hm⟩ : ∃ m, L = m + 1 := ⟨L - 1, by omega⟩
  rw [lino, opq_eq, liF, ← hL, hm, hf]
noncomputable def spLines : Nat × Eng.Spec := (29, fnSpec [.sl pt1, .sl pt2] [.val f12k] preLin (fun (ps, qs, _) => (lino ps qs, ())))
end Go.Proofs.YtbfimfdhmggieaaGreat.pairing
/- pairing: Pair, Check. -/
namespace Go.Proofs.YtbfimfdhmggieaaGreat.pairing
set_option maxRecDepth 100000
open Go Go.Eng Go.RowKit Cr Go.Proofs.YtbfimfdhmggieaaGreat Go.Proofs.YtbfimfdhmggieaaGreat.fp2 Go.Proofs.YtbfimfdhmggieaaGreat.tower
theorem ent_pair : enters Tryz.prog 15 Tryz.f15 := enters_mk (by kernel_rfl) (by kernel_rfl) (by kernel_rfl)
theorem fn_pair : FnOk Tryz.prog 15 [pt1, pt2] [.val f12k] noG (fun _ => True) (fun (p, q, _) => (fino (lino [p] [q]), ())) := by
  refine fn_of_vc (sp := sps [spLines, spFinish]) (sps_cons (fnSpec_ok fn_lines) (sps_cons (fnSpec_ok fn_finish) sps_nil)) mixed ent_pair (by decide) (by decide) ?_
  rintro w M0 ⟨p, q, ⟨⟩⟩
  revert p q
  intro (p : Fp × Fp) (q : F2 × F2) _ _
  refine vcx (X := ((0 : Nat) + (1 : Nat) ≤ (1 : Nat) ∧ (0 : Nat) + (1 : Nat) ≤ (1 : Nat) ∧ preLin (List.take (1 : Nat) [p], List.take (1 : Nat) [q], ()) ∧ True ∧ (fino (lino (List.take (1 : Nat) [p]) (List.take (1 : Nat) [q])), ()) = (fino (lino [p] [q]), ()))) (by kernel_rfl) ?_
  exact ⟨by decide, by decide, ⟨Nat.le_refl 1, (by decide : (1 : Nat) ≤ 1048576)⟩, trivial, rfl⟩
noncomputable def spPair : Nat × Eng.Spec := (15, fnSpec [pt1, pt2] [.val f12k] (fun _ => True) (fun (p, q, _) => (fino (lino [p] [q]), ())))
theorem ent_check : enters Tryz.prog 12 Tryz.f12 := enters_mk (by kernel_rfl) (by kernel_rfl) (by kernel_rfl)
noncomputable def chkF (ps : List (Fp × Fp)) (qs : List (F2 × F2)) : Bool := match decide (ps.length = qs.length) with
  | true => eqC f12k (fino (lino ps qs)) (1 : F12)
  | false => false
noncomputable def cnt (ps : List (Fp × Fp)) : Nat := opq ps.length
abbrev preChk : HL [.sl pt1, .sl pt2] → Prop := fun (ps, _) => cnt ps ≤ 1048576
theorem fn_check : FnOk Tryz.prog 12 [.sl pt1, .sl pt2] [.val .bool] noG preChk (fun (ps, qs, _) => (chkF ps qs, ())) := by
  refine fn_of_vc (sp := sps [spLines, spFinish, tower.spOne]) (sps_cons (fnSpec_ok fn_lines) (sps_cons (fnSpec_ok fn_finish) (sps_cons (fnSpec_ok tower.fn_one) sps_nil))) mixed ent_check (by decide) (by decide) ?_
  rintro w M0 ⟨ps, qs, ⟨⟩⟩
  revert ps qs
  intro (ps : List (Fp × Fp)) (qs : List (F2 × F2)) _ hp
  have hp : cnt ps ≤ 1048576 := hp
  rw [cnt, opq_eq] at hp
  refine vcx (X := ((((↑ps.length : Int) != (↑qs.length : Int)) = true → (false, ()) = (chkF ps qs, ())) ∧ (((↑ps.length : Int) != (↑qs.length : Int)) = false → preLin (ps, qs, ()) ∧ True ∧ True ∧ (eqC (((Kd.fp.pair Kd.fp).pair ((Kd.fp.pair Kd.fp).pair (Kd.fp.pair Kd.fp))).pair ((Kd.fp.pair Kd.fp).pair ((Kd.fp.pair Kd.fp).pair (Kd.fp.pair Kd.fp)))) (fino (lino ps qs)) ((((1 : Fp), (0 : Fp)), ((0 : Fp), (0 : Fp)), (0 : Fp), (0 : Fp)), ((0 : Fp), (0 : Fp)), ((0 : Fp), (0 : Fp)), (0 : Fp), (0 : Fp)), ()) = (chkF ps qs, ())))) (by kernel_rfl) ?_
  refine ⟨fun h => ?_, fun h => ?_⟩
  · have h1 : ¬ ps.length = qs.length := by simp at h; omega
    rw [chkF, decide_eq_false h1]
  · have h1 : ps.length = qs.length := by simp at h; omega
    refine ⟨⟨by show ps.length ≤ qs.length; omega, hp⟩, trivial, trivial, ?_⟩
    rw [chkF, decide_eq_true h1]; rfl
noncomputable def spCheck : Nat × Eng.Spec := (12, fnSpec [.sl pt1, .sl pt2] [.val .bool] preChk (fun (ps, qs, _) => (chkF ps qs, ())))
end Go.Proofs.YtbfimfdhmggieaaGreat.pairing
/- The power p in the fields of p^2 and of p^12. No program here. -/
namespace Cr
open Rg Fd Go.Eng
theorem neg_z {F : Type} [Rg F] : (-0 : F) = 0 := by have h := Rg.neg_add (0 : F); rwa [add_zero] at h
theorem sub_z {F : Type} [Rg F] (x : F) : x - 0 = x := by rw [Rg.sub_def, neg_z, add_zero]
theorem zpow_pwn {M : Int} [Md M] (x : Zm M) : ∀ n, zpow x n = pwn x n
  | 0 => rfl
  | n + 1 => by show zpow x n * x = pwn x n * x; rw [zpow_pwn x n]
theorem nc_v : ∀ n : Nat, (nc n : Fp).v = (n : Int) % Mp
  | 0 => by rw [Int.natCast_zero, Int.zero_emod]; rfl
  | n + 1 => by
    show ((nc n : Fp) + 1).v = _
    rw [add_v, nc_v n, one_v, Int.emod_add_emod]
    rfl
theorem nc_2 : ∀ n : Nat, (nc n : F2) = ((nc n : Fp), (0 : Fp))
  | 0 => rfl
  | n + 1 => by
    show (nc n : F2) + 1 = ((nc n : Fp) + 1, (0 : Fp))
    rw [nc_2 n, F2.add_def]
    exact F2.ext rfl (zero_add _)
theorem nc_p {p : Nat} (hp : p = fpP) : (nc p : Fp) = 0 := by
  refine Zm.ext ?_
  rw [nc_v, hp]
  exact of_decide_eq_true (by kernel_rfl)
theorem nc_p2 {p : Nat} (hp : p = fpP) : (nc p : F2) = 0 := by rw [nc_2, nc_p hp]; rfl
theorem prm_q {p : Nat} (hp : p = fpP) : Prm p := by rw [hp]; exact prm_p
theorem pw_fp {p : Nat} (hp : p = fpP) (x : Fp) : pwn x p = x := by
  obtain ⟨q, hq⟩ : ∃ q, p = q + 1 := ⟨fpP - 1, hp.trans (of_decide_eq_true (by kernel_rfl))⟩
  by_cases hx : x = 0
  · rw [hq, hx]; show _ * (0 : Fp) = 0; rw [mul_zero]
  · have h1 := fp_fermat hx
    have h2 : fpP - 1 = q := by rw [← hp, hq]; rfl
    rw [h2, zpow_pwn] at h1
    rw [hq]; show pwn x q * x = x; rw [h1, one_mul]
theorem pw_2 (a : Fp) : ∀ n, pwn ((a, 0) : F2) n = (pwn a n, 0)
  | 0 => rfl
  | n + 1 => by
    show pwn ((a, 0) : F2) n * (a, 0) = (pwn a n * a, 0)
    rw [pw_2 a n, F2.mul_def]
    refine F2.ext ?_ ?_
    · show pwn a n * a - 0 * 0 = _
      rw [zero_mul, sub_z]
    · show pwn a n * 0 + 0 * a = 0
      rw [mul_zero, zero_mul, zero_add]
def ii : F2 := ((0 : Fp), (1 : Fp))
theorem ii_sq : ii * ii = (-1 : F2) := by
  rw [F2.mul_def, F2.neg_def]
  refine F2.ext ?_ ?_
  · show (0 : Fp) * 0 - 1 * 1 = -1
    rw [zero_mul, one_mul, Rg.sub_def, zero_add]
  · show (0 : Fp) * 1 + 1 * 0 = -0
    rw [zero_mul, mul_zero, zero_add]
    exact Zm.ext (of_decide_eq_true (by kernel_rfl))
theorem pw_ii {p : Nat} (hp : p = fpP) : pwn ii p = -ii := by
  obtain ⟨q, hq⟩ : ∃ q, p = 2 * (2 * q) + 2 + 1 := ⟨fpP / 4, hp.trans (of_decide_eq_true (by kernel_rfl))⟩
  have h2 : pwn ii 2 = (-1 : F2) := by show 1 * ii * ii = _; rw [one_mul, ii_sq]
  have h3 : pwn (-1 : F2) 2 = 1 := by show 1 * (-1 : F2) * -1 = 1; rw [one_mul, neg_mul, one_mul, neg_neg]
  have h4 : pwn ii (2 * (2 * q)) = 1 := by rw [pwn_mul, h2, pwn_mul, h3, pwn_one]
  rw [hq]
  show pwn ii (2 * (2 * q) + 2) * ii = _
  rw [pwn_add, h4, h2, one_mul, neg_mul, one_mul]
/-- The power p in the field of p^2. -/
theorem pw_f2 {p : Nat} (hp : p = fpP) (x : F2) : pwn x p = (x.1, -x.2) := by
  have h1 : x = (x.1, 0) + (x.2, 0) * ii := by
    rw [F2.mul_def, F2.add_def]
    refine F2.ext ?_ ?_
    · show x.1 = x.1 + (x.2 * 0 - 0 * 1)
      rw [mul_zero, zero_mul, sub_z, add_zero]
    · show x.2 = 0 + (x.2 * 1 + 0 * 0)
      rw [mul_one, mul_zero, add_zero, zero_add]
  have h2 : pwn x p = pwn ((x.1, 0) + (x.2, 0) * ii) p := congrArg (fun t => pwn t p) h1
  rw [h2, pwn_sum (prm_q hp) (nc_p2 hp), pwn_prod, pw_2, pw_2, pw_fp hp, pw_fp hp, pw_ii hp, F2.neg_def, F2.mul_def, F2.add_def]
  refine F2.ext ?_ ?_
  · show x.1 + (x.2 * -0 - 0 * -1) = x.1
    rw [neg_z, mul_zero, zero_mul, sub_z, add_zero]
  · show 0 + (x.2 * -1 + 0 * -0) = -x.2
    rw [neg_z, mul_zero, add_zero, zero_add, mul_comm, neg_mul, one_mul]
end Cr
/- The power p in the field of p^12. No program here. -/
namespace Cr
open Rg Fd Go.Eng
theorem fr_2 {F : Type} [Rg F] (r c : F) : r * (r * c) = c * (r * r) :=
  rid [r, c] ((fun (r c : PE) => (r * (r * c))) (.v 0) (.v 1)) ((fun (r c : PE) => (c * (r * r))) (.v 0) (.v 1)) (by kernel_rfl)
theorem fr_3 {F : Type} [Rg F] (r c : F) : r * (r * (r * c)) = c * (r * r * r) :=
  rid [r, c] ((fun (r c : PE) => (r * (r * (r * c)))) (.v 0) (.v 1)) ((fun (r c : PE) => (c * (r * r * r))) (.v 0) (.v 1)) (by kernel_rfl)
theorem fr_4 {F : Type} [Rg F] (r c : F) : r * (r * (r * (r * c))) = c * (r * r * (r * r)) :=
  rid [r, c] ((fun (r c : PE) => (r * (r * (r * (r * c))))) (.v 0) (.v 1)) ((fun (r c : PE) => (c * (r * r * (r * r)))) (.v 0) (.v 1)) (by kernel_rfl)
theorem fr_5 {F : Type} [Rg F] (r c : F) : r * (r * (r * (r * (r * c)))) = c * (r * r * (r * r) * r) :=
  rid [r, c] ((fun (r c : PE) => (r * (r * (r * (r * (r * c)))))) (.v 0) (.v 1)) ((fun (r c : PE) => (c * (r * r * (r * r) * r))) (.v 0) (.v 1)) (by kernel_rfl)
/-- A number of the field of p^2 in that of p^12. -/
def e2 (c : F2) : F12 := ((c, (0 : F2), (0 : F2)), (0 : F2), (0 : F2), (0 : F2))
def e6 (c : F2) : F6 := (c, (0 : F2), (0 : F2))
def ww : F12 := (((0 : F2), (0 : F2), (0 : F2)), (1 : F2), (0 : F2), (0 : F2))
theorem e6_mul (c : F2) (x : F6) : e6 c * x = (c * x.1, c * x.2.1, c * x.2.2) := by
  rw [F6.mul_def]
  refine F6.ext ?_ ?_ ?_
  · show c * x.1 + xi * (0 * x.2.2 + 0 * x.2.1) = c * x.1
    rw [zero_mul, zero_mul, add_zero, mul_zero, add_zero]
  · show c * x.2.1 + 0 * x.1 + xi * (0 * x.2.2) = c * x.2.1
    rw [zero_mul, zero_mul, mul_zero, add_zero, add_zero]
  · show c * x.2.2 + 0 * x.2.1 + 0 * x.1 = c * x.2.2
    rw [zero_mul, zero_mul, add_zero, add_zero]
theorem e2_mul (c : F2) (x : F12) : e2 c * x = ((c * x.1.1, c * x.1.2.1, c * x.1.2.2), c * x.2.1, c * x.2.2.1, c * x.2.2.2) := by
  rw [F12.mul_def]
  refine F12.ext ?_ ?_
  · show e6 c * x.1 + vv * ((0 : F6) * x.2) = _
    rw [zero_mul, mul_zero, add_zero, e6_mul]
  · show e6 c * x.2 + (0 : F6) * x.1 = _
    rw [zero_mul, add_zero, e6_mul]
theorem ww_mul (x : F12) : ww * x = ((xi * x.2.2.2, x.2.1, x.2.2.1), x.1) := by
  rw [F12.mul_def]
  refine F12.ext ?_ ?_
  · show (0 : F6) * x.1 + vv * ((1 : F6) * x.2) = _
    rw [zero_mul, zero_add, one_mul, vv_mul]
  · show (0 : F6) * x.2 + (1 : F6) * x.1 = x.1
    rw [zero_mul, zero_add, one_mul]
theorem e2_one : e2 1 = (1 : F12) := rfl
theorem e2_pw (c : F2) : ∀ n, pwn (e2 c) n = e2 (pwn c n)
  | 0 => rfl
  | n + 1 => by
    show pwn (e2 c) n * e2 c = e2 (pwn c n * c)
    rw [e2_pw c n, e2_mul]
    show ((pwn c n * c, pwn c n * 0, pwn c n * 0), pwn c n * 0, pwn c n * 0, pwn c n * 0) = _
    rw [mul_zero]; rfl
theorem ww_six : ww * (ww * (ww * (ww * (ww * ww)))) = e2 xi := by
  simp only [ww_mul]
  show ((xi * (1 : F2), xi * (0 : F2), xi * (0 : F2)), xi * (0 : F2), xi * (0 : F2), (0 : F2)) = _
  rw [mul_one, mul_zero]; rfl
theorem ww_six' : pwn ww 6 = e2 xi := by
  show (1 : F12) * ww * ww * ww * ww * ww * ww = _
  rw [one_mul, mul_assoc, mul_assoc, mul_assoc, mul_assoc]
  exact ww_six
theorem pw_ww {p q : Nat} (hq : p = 6 * q + 1) : pwn ww p = e2 (pwn xi q) * ww := by
  rw [hq]
  show pwn ww (6 * q) * ww = _
  rw [pwn_mul, ww_six', e2_pw]
theorem e2_add (c : F2) (x : F12) : e2 c + x = ((c + x.1.1, x.1.2.1, x.1.2.2), x.2) := by
  rw [F12.add_def]
  refine F12.ext ?_ ?_
  · rw [F6.add_def]
    refine F6.ext rfl ?_ ?_
    · exact zero_add _
    · exact zero_add _
  · exact zero_add x.2
theorem horner (a b c d e f : F2) : (((a, c, e), b, d, f) : F12) = e2 a + ww * (e2 b + ww * (e2 c + ww * (e2 d + ww * (e2 e + ww * e2 f)))) := by
  simp only [ww_mul, e2_add]
  show _ = ((a + xi * (0 : F2), c + xi * (0 : F2), e + xi * (0 : F2)), b + xi * (0 : F2), d + xi * (0 : F2), f)
  simp only [mul_zero, add_zero]
theorem nc_12 : ∀ n : Nat, (nc n : F12) = e2 (nc n)
  | 0 => rfl
  | n + 1 => by
    show (nc n : F12) + 1 = e2 ((nc n : F2) + 1)
    rw [nc_12 n, e2_add]; rfl
theorem nc_p12 {p : Nat} (hp : p = fpP) : (nc p : F12) = 0 := by rw [nc_12, nc_p2 hp]; rfl
def cjg (x : F2) : F2 := (x.1, -x.2)
/-- The power p, by its parts; r is xi to the power (p - 1) / 6. -/
noncomputable def frg (r : F2) (x : F12) : F12 := ((cjg x.1.1, cjg x.1.2.1 * (r * r), cjg x.1.2.2 * (r * r * (r * r))), (cjg x.2.1 * r, cjg x.2.2.1 * (r * r * r), cjg x.2.2.2 * (r * r * (r * r) * r)))
theorem pw_st {p q : Nat} (hp : p = fpP) (hq : p = 6 * q + 1) (a : F2) (Y : F12) : pwn (e2 a + ww * Y) p = e2 (cjg a) + e2 (pwn xi q) * (ww * pwn Y p) := by
  rw [pwn_sum (prm_q hp) (nc_p12 hp), pwn_prod, e2_pw, pw_f2 hp, pw_ww hq, mul_assoc]; rfl
theorem pw_f12 {p q : Nat} (hp : p = fpP) (hq : p = 6 * q + 1) (x : F12) : pwn x p = frg (pwn xi q) x := by
  obtain ⟨⟨a, c, e⟩, b, d, f⟩ := x
  obtain ⟨r, hr⟩ : ∃ r, r = pwn xi q := ⟨_, rfl⟩
  have h1 := horner a b c d e f
  have h2 := congrArg (fun t : F12 => pwn t p) h1
  refine h2.trans ?_
  show pwn (e2 a + ww * (e2 b + ww * (e2 c + ww * (e2 d + ww * (e2 e + ww * e2 f))))) p = _
  rw [pw_st hp hq, pw_st hp hq, pw_st hp hq, pw_st hp hq, pw_st hp hq, e2_pw, pw_f2 hp, ← hr]
  show e2 (cjg a) + e2 r * (ww * (e2 (cjg b) + e2 r * (ww * (e2 (cjg c) + e2 r * (ww * (e2 (cjg d) + e2 r * (ww * (e2 (cjg e) + e2 r * (ww * e2 (cjg f)))))))))) = _
  simp only [ww_mul, e2_add, e2_mul]
  refine F12.ext (F6.ext ?_ ?_ ?_) (F6.ext ?_ ?_ ?_)
  · show cjg a + r * (xi * (r * (r * (r * (r * (0 : F2)))))) = cjg a
    simp only [mul_zero, add_zero]
  · show r * (r * (cjg c + r * (xi * (r * (r * (0 : F2)))))) = cjg c * (r * r)
    simp only [mul_zero, add_zero]; exact fr_2 r _
  · show r * (r * (r * (r * (cjg e + r * (xi * (0 : F2)))))) = cjg e * (r * r * (r * r))
    simp only [mul_zero, add_zero]; exact fr_4 r _
  · show r * (cjg b + r * (xi * (r * (r * (r * (0 : F2)))))) = cjg b * r
    simp only [mul_zero, add_zero]; exact mul_comm _ _
  · show r * (r * (r * (cjg d + r * (xi * (r * (0 : F2)))))) = cjg d * (r * r * r)
    simp only [mul_zero, add_zero]; exact fr_3 r _
  · exact fr_5 r (cjg f)
theorem xi_two : xi * xi = (((1 : Fp) + 1, (0 : Fp)) : F2) * ii := by
  rw [F2.mul_def, F2.mul_def]
  refine F2.ext ?_ ?_
  · show (1 : Fp) * 1 - 1 * 1 = (1 + 1) * 0 - 0 * 1
    rw [mul_zero, one_mul, zero_mul, sub_z, Rg.sub_def, add_comm, Rg.neg_add]
  · show (1 : Fp) * 1 + 1 * 1 = (1 + 1) * 1 + 0 * 0
    rw [mul_one, mul_one, mul_zero, add_zero]
theorem xi_pw {q m t : Nat} (hq : q = 2 * m + 1) (hm : m = 2 * (2 * t) + 2 + 1) : pwn xi q = (pwn ((1 : Fp) + 1) m, -pwn ((1 : Fp) + 1) m) := by
  have h2 : pwn ii 2 = (-1 : F2) := by show 1 * ii * ii = _; rw [one_mul, ii_sq]
  have h3 : pwn (-1 : F2) 2 = 1 := by show 1 * (-1 : F2) * -1 = 1; rw [one_mul, neg_mul, one_mul, neg_neg]
  have h4 : pwn ii (2 * (2 * t)) = 1 := by rw [pwn_mul, h2, pwn_mul, h3, pwn_one]
  have h5 : pwn ii m = -ii := by
    rw [hm]; show pwn ii (2 * (2 * t) + 2) * ii = _
    rw [pwn_add, h4, h2, one_mul, neg_mul, one_mul]
  have h6 : pwn xi 2 = (((1 : Fp) + 1, (0 : Fp)) : F2) * ii := by show 1 * xi * xi = _; rw [one_mul, xi_two]
  rw [hq]
  show pwn xi (2 * m) * xi = _
  rw [pwn_mul, h6, pwn_prod, pw_2, h5, F2.neg_def, F2.mul_def, F2.mul_def]
  obtain ⟨u, hu⟩ : ∃ u, u = pwn ((1 : Fp) + 1) m := ⟨_, rfl⟩
  rw [← hu]
  refine F2.ext ?_ ?_
  · show (u * -0 - 0 * -1) * 1 - (u * -1 + 0 * -0) * 1 = u
    rw [neg_z, mul_zero, zero_mul, mul_zero, sub_z, add_zero, mul_one, mul_one, mul_comm, neg_mul, one_mul, Rg.sub_def, zero_add, neg_neg]
  · show (u * -0 - 0 * -1) * 1 + (u * -1 + 0 * -0) * 1 = -u
    rw [neg_z, mul_zero, zero_mul, mul_zero, sub_z, add_zero, mul_one, mul_one, mul_comm, neg_mul, one_mul, zero_add]
end Cr
/- The power p^12 - 1 is one. No program here. -/
namespace Cr
open Rg Fd Go.Eng
theorem pw_it {F : Type} [Rg F] (x : F) (p k : Nat) : pwn x (p ^ (k + 1)) = pwn (pwn x (p ^ k)) p := by rw [Nat.pow_succ, pwn_mul]
theorem pw_1 {F : Type} [Rg F] (x : F) : pwn x 1 = x := one_mul x
theorem pw_sumk {p : Nat} (hp : p = fpP) (x y : F12) : ∀ k, pwn (x + y) (p ^ k) = pwn x (p ^ k) + pwn y (p ^ k)
  | 0 => by rw [Nat.pow_zero, pw_1, pw_1, pw_1]
  | k + 1 => by rw [pw_it, pw_it, pw_it, pw_sumk hp x y k, pwn_sum (prm_q hp) (nc_p12 hp)]
theorem pw_2k {p : Nat} (hp : p = fpP) (c : F2) : pwn c (p ^ 2) = c := by
  rw [pw_it c p 1, Nat.pow_one, pw_f2 hp, pw_f2 hp]
  exact F2.ext rfl (neg_neg c.2)
theorem pw_2n {p : Nat} (hp : p = fpP) (c : F2) : ∀ n, pwn c ((p ^ 2) ^ n) = c
  | 0 => by rw [Nat.pow_zero, pw_1]
  | n + 1 => by rw [pw_it, pw_2n hp c n, pw_2k hp]
theorem pw_x12 {p : Nat} (hp : p = fpP) (c : F2) : pwn c (p ^ 12) = c := by
  rw [show p ^ 12 = (p ^ 2) ^ 6 by rw [← Nat.pow_mul]]; exact pw_2n hp c 6
theorem xi_ne : xi ≠ 0 := fun h => xi_sq (s := 0) (by rw [h, mul_zero])
theorem pw_xi {p n : Nat} (hp : p = fpP) (hn : p ^ 2 = n + 1) : pwn xi n = 1 := by
  have h1 := pw_2k hp xi
  rw [hn] at h1
  have h2 : pwn xi n * xi = xi := h1
  have h3 : pwn xi n * (xi * inv xi) = xi * inv xi := by rw [← mul_assoc, h2]
  rwa [mul_inv _ xi_ne, mul_one] at h3
theorem pw_ww12 {p : Nat} (hp : p = fpP) : pwn ww (p ^ 12) = ww := by
  obtain ⟨n, hn⟩ : ∃ n, n = fpP ^ 2 - 1 := ⟨_, rfl⟩
  obtain ⟨s, hs⟩ : ∃ s, s = (fpP ^ 12 - 1) / 6 / (fpP ^ 2 - 1) := ⟨_, rfl⟩
  have h1 : p ^ 2 = n + 1 := by rw [hp, hn]; exact of_decide_eq_true (by kernel_rfl)
  have h2 : p ^ 12 = 6 * (n * s) + 1 := by rw [hp, hn, hs]; exact of_decide_eq_true (by kernel_rfl)
  rw [h2]
  show pwn ww (6 * (n * s)) * ww = ww
  rw [pwn_mul, ww_six', pwn_mul, e2_pw, pw_xi hp h1, e2_one, pwn_one, one_mul]
theorem pw_s12 {p : Nat} (hp : p = fpP) (a : F2) (Y : F12) : pwn (e2 a + ww * Y) (p ^ 12) = e2 a + ww * pwn Y (p ^ 12) := by
  rw [pw_sumk hp, pwn_prod, e2_pw, pw_x12 hp, pw_ww12 hp]
theorem pw_12 {p : Nat} (hp : p = fpP) (x : F12) : pwn x (p ^ 12) = x := by
  obtain ⟨⟨a, c, e⟩, b, d, f⟩ := x
  have h1 := horner a b c d e f
  have h2 := congrArg (fun t : F12 => pwn t (p ^ 12)) h1
  refine h2.trans (Eq.trans ?_ h1.symm)
  show pwn (e2 a + ww * (e2 b + ww * (e2 c + ww * (e2 d + ww * (e2 e + ww * e2 f))))) (p ^ 12) = _
  rw [pw_s12 hp, pw_s12 hp, pw_s12 hp, pw_s12 hp, pw_s12 hp, e2_pw, pw_x12 hp]
/-- What is not nought, to the power p^12 - 1, is one. -/
theorem pw_one {n : Nat} (hn : fpP ^ 12 = n + 1) {x : F12} (hx : x ≠ 0) : pwn x n = 1 := by
  have h1 := pw_12 rfl x
  rw [hn] at h1
  have h2 : pwn x n * x = x := h1
  have h3 : pwn x n * (x * inv x) = x * inv x := by rw [← mul_assoc, h2]
  rwa [mul_inv _ hx, mul_one] at h3
theorem npm_two {n : Nat} (hn : n < 2 ^ 384) (h : npm fpP 2 384 n = fpP - 1) : pwn (1 + 1 : Fp) n = -1 := by
  rw [← zpow_pwn]
  refine Zm.ext ?_
  rw [zpow_two_v, ← npm_eq fpP 2 (of_decide_eq_true (by kernel_rfl)) 384 n hn, h]
  exact of_decide_eq_true (by kernel_rfl)
theorem pw_hf {p n : Nat} (hp : p = fpP) (hn : n = (fpP - 1) / 2) : pwn xi ((p + 1) * n) = -1 := by
  rw [pwn_mul]
  have h1 : pwn xi (p + 1) = (((1 + 1 : Fp), (0 : Fp)) : F2) := by
    show pwn xi p * xi = _
    rw [pw_f2 hp, F2.mul_def]
    refine F2.ext ?_ ?_
    · show (1 : Fp) * 1 - -1 * 1 = 1 + 1
      rw [mul_one, mul_one, Rg.sub_def, neg_neg]
    · show (1 : Fp) * 1 + -1 * 1 = 0
      rw [mul_one, mul_one, add_comm, Rg.neg_add]
  have h2 : n < 2 ^ 384 := by rw [hn]; exact of_decide_eq_true (by kernel_rfl)
  have h3 : npm fpP 2 384 n = fpP - 1 := by rw [hn]; exact two_sq
  rw [h1, pw_2, npm_two h2 h3, F2.neg_def]
  exact F2.ext rfl neg_z.symm
theorem pw_ww6 {p : Nat} (hp : p = fpP) : pwn ww (p ^ 6) = -ww := by
  obtain ⟨n, hn⟩ : ∃ n, n = (fpP - 1) / 2 := ⟨_, rfl⟩
  obtain ⟨s, hs⟩ : ∃ s, s = (fpP ^ 6 - 1) / 6 / ((fpP + 1) * ((fpP - 1) / 2)) / 2 := ⟨_, rfl⟩
  have h2 : p ^ 6 = 6 * ((p + 1) * n * (2 * s + 1)) + 1 := by rw [hp, hn, hs]; exact of_decide_eq_true (by kernel_rfl)
  have h3 : pwn (-1 : F2) 2 = 1 := by show 1 * (-1 : F2) * -1 = 1; rw [one_mul, neg_mul, one_mul, neg_neg]
  have h4 : pwn (-1 : F2) (2 * s + 1) = -1 := by
    show pwn (-1 : F2) (2 * s) * -1 = -1
    rw [pwn_mul, h3, pwn_one, one_mul]
  rw [h2]
  show pwn ww (6 * ((p + 1) * n * (2 * s + 1))) * ww = -ww
  rw [pwn_mul, ww_six', e2_pw, pwn_mul, pw_hf hp hn, h4]
  have h5 : e2 (-1) = -(1 : F12) := by
    rw [F12.neg_def]
    refine F12.ext ?_ ?_
    · show e6 (-1) = -(1 : F6)
      rw [F6.neg_def]
      exact F6.ext rfl neg_z.symm neg_z.symm
    · exact neg_z.symm
  rw [h5, neg_mul, one_mul]
theorem pw_2h {p : Nat} (hp : p = fpP) (c : F2) : pwn c (p ^ 6) = c := by
  rw [show p ^ 6 = (p ^ 2) ^ 3 by rw [← Nat.pow_mul]]; exact pw_2n hp c 3
theorem pw_s6 {p : Nat} (hp : p = fpP) (a : F2) (Y : F12) : pwn (e2 a + ww * Y) (p ^ 6) = e2 a + ww * -pwn Y (p ^ 6) := by
  rw [pw_sumk hp, pwn_prod, e2_pw, pw_2h hp, pw_ww6 hp, neg_mul, mul_comm ww (-_), neg_mul, mul_comm ww]
theorem e2_neg (c : F2) : -e2 c = e2 (-c) := by
  rw [F12.neg_def]
  refine F12.ext ?_ ?_
  · show -(e6 c) = e6 (-c)
    rw [F6.neg_def]
    exact F6.ext rfl neg_z neg_z
  · exact neg_z
theorem hs_1 (b : F2) (Z : F12) : -(e2 b + ww * -Z) = e2 (-b) + ww * Z := by
  have h1 : (e2 b + ww * -Z) + (e2 (-b) + ww * Z) = 0 := by
    rw [← e2_neg, mul_comm ww (-Z), neg_mul, mul_comm Z, add_assoc, ← add_assoc (-(ww * Z)), add_comm (-(ww * Z)), add_assoc, Rg.neg_add, add_zero, add_comm, Rg.neg_add]
  have h2 : -(e2 b + ww * -Z) + ((e2 b + ww * -Z) + (e2 (-b) + ww * Z)) = -(e2 b + ww * -Z) := by rw [h1, add_zero]
  rw [← add_assoc, Rg.neg_add, zero_add] at h2
  exact h2.symm
theorem pw_6 {p : Nat} (hp : p = fpP) (x : F12) : pwn x (p ^ 6) = (x.1, -x.2) := by
  obtain ⟨⟨a, c, e⟩, b, d, f⟩ := x
  have h1 := horner a b c d e f
  have h2 := congrArg (fun t : F12 => pwn t (p ^ 6)) h1
  refine h2.trans ?_
  show pwn (e2 a + ww * (e2 b + ww * (e2 c + ww * (e2 d + ww * (e2 e + ww * e2 f))))) (p ^ 6) = _
  rw [pw_s6 hp, pw_s6 hp, pw_s6 hp, pw_s6 hp, pw_s6 hp, e2_pw, pw_2h hp, hs_1, hs_1, e2_neg, ← horner]
  refine F12.ext rfl ?_
  show ((-b, -d, -f) : F6) = -((b, d, f) : F6)
  rw [F6.neg_def]
end Cr
/- pairing: what the parts compute, as powers. -/
namespace Go.Proofs.YtbfimfdhmggieaaGreat.tower
set_option maxRecDepth 100000
open Go Go.Eng Go.RowKit Cr Go.Proofs.YtbfimfdhmggieaaGreat Go.Proofs.YtbfimfdhmggieaaGreat.fp2
theorem rt1_eq {q : Nat} (hq : q = fpP / 6) : rt1 = pwn xi q := by
  obtain ⟨m, hm⟩ : ∃ m, m = (num rBs / 12).toNat := ⟨_, rfl⟩
  have hm2 : m = fpP / 12 := hm.trans (of_decide_eq_true (by kernel_rfl))
  have h1 : q = 2 * m + 1 := by rw [hq, hm2]; exact of_decide_eq_true (by kernel_rfl)
  have h2 : m = 2 * (2 * (fpP / 48)) + 2 + 1 := hm2.trans (of_decide_eq_true (by kernel_rfl))
  rw [xi_pw h1 h2, ← zpow_pwn]
  show (zpow _ _, -zpow _ _) = _
  rw [← hm]
theorem frobF_eq {p : Nat} (hp : p = fpP) (x : F12) : frobF x = pwn x p := by
  have hq : p = 6 * (fpP / 6) + 1 := hp.trans (of_decide_eq_true (by kernel_rfl))
  rw [pw_f12 hp hq, ← rt1_eq rfl]; rfl
end Go.Proofs.YtbfimfdhmggieaaGreat.tower
namespace Go.Proofs.YtbfimfdhmggieaaGreat.pairing
set_option maxRecDepth 100000
open Go Go.Eng Go.RowKit Cr Go.Proofs.YtbfimfdhmggieaaGreat Go.Proofs.YtbfimfdhmggieaaGreat.fp2 Go.Proofs.YtbfimfdhmggieaaGreat.tower
theorem frb_eq {p : Nat} (hp : p = fpP) (x : F12) : frb x = pwn x p := by rw [frb, opq_eq, frobF_eq hp]
theorem cjo_eq {p : Nat} (hp : p = fpP) (x : F12) : cjo x = pwn x (p ^ 6) := by rw [cjo, opq_eq, pw_6 hp]; rfl
theorem finE_eq {p n : Nat} (hp : p = fpP) (h6 : p ^ 6 = n + 1) {f : F12} (hf : f ≠ 0) : finE f = pwn f (n * (p * p + 1)) := by
  have h1 : cjo f * ivo f = pwn f n := by
    rw [cjo_eq hp, ivo, opq_eq, h6]
    show pwn f n * f * Fd.inv f = _
    rw [Rg.mul_assoc, Fd.mul_inv _ hf, Rg.mul_one]
  rw [finE, h1, frb_eq hp, frb_eq hp, pwn_mul f n, pwn_add _ (p * p) 1, pwn_mul _ p p, pw_1]
theorem pw8_1 {v : Nat} (hv : v = 15132376222941642753) (x : F12) : pw8 x 15132376222941642753 = pwn x v := by
  have h : (num (byo 15132376222941642753)).toNat = v := by rw [hv, byo, opq_eq]; exact of_decide_eq_true (by kernel_rfl)
  rw [pw8, pwo, opq_eq, h]
theorem pw8_2 {v : Nat} (hv : v = 15132376222941642752) (x : F12) : pw8 x 15132376222941642752 = pwn x v := by
  have h : (num (byo 15132376222941642752)).toNat = v := by rw [hv, byo, opq_eq]; exact of_decide_eq_true (by kernel_rfl)
  rw [pw8, pwo, opq_eq, h]
/-- The last power: n is p^6 - 1, v the parameter and one, u the parameter. -/
def finN (p n v u : Nat) : Nat := n * (p * p + 1) * (v * v * (u * p ^ 6 + p) * (u * u + p * p + p ^ 6) + 2 + 1)
theorem fino_eq {p n v u : Nat} (hp : p = fpP) (h6 : p ^ 6 = n + 1) (hv : v = 15132376222941642753) (hu : u = 15132376222941642752) {f : F12} (hf : f ≠ 0) : fino f = pwn f (finN p n v u) := by
  have hA : ∀ x, finA x = pwn x (v * v) := fun x => by rw [finA, pw8_1 hv, pw8_1 hv, pwn_mul]
  have hB : ∀ x, finB x = pwn x (u * p ^ 6 + p) := fun x => by rw [finB, cjo_eq hp, frb_eq hp, pw8_2 hu, pwn_add, pwn_mul]
  have hC : ∀ x, finC x = pwn x (u * u + p * p + p ^ 6) := fun x => by rw [finC, cjo_eq hp, frb_eq hp, frb_eq hp, pw8_2 hu, pw8_2 hu, pwn_add, pwn_add, pwn_mul, pwn_mul]
  rw [fino, opq_eq, finF, hA, hB, hC, finE_eq hp h6 hf]
  obtain ⟨g, hg⟩ : ∃ g, g = pwn f (n * (p * p + 1)) := ⟨_, rfl⟩
  rw [finN, pwn_mul f (n * (p * p + 1)), ← hg, pwn_add g _ 1, pwn_add g _ 2, pwn_mul, pwn_mul, pw_1]
  show _ = _ * (1 * g * g) * g
  rw [Rg.one_mul, pwn_mul g (v * v), pwn_mul g v v]
/-- The last power takes the field of p^6 to one. -/
theorem kill6 {p n v u : Nat} (hp : p = fpP) (h6 : p ^ 6 = n + 1) {x : F12} (hx : x ≠ 0) (h2 : x.2 = 0) : pwn x (finN p n v u) = 1 := by
  have h1 : pwn x (n + 1) = x := by rw [← h6, pw_6 hp, h2, neg_z, ← h2]
  have h3 : pwn x n * x = x := h1
  have h4 : pwn x n * (x * Fd.inv x) = x * Fd.inv x := by rw [← Rg.mul_assoc, h3]
  rw [Fd.mul_inv _ hx, Rg.mul_one] at h4
  rw [finN, Nat.mul_assoc, pwn_mul, h4, pwn_one]
/-- The r-th power of a last power is one. -/
theorem fin_r {p n v u r m : Nat} (hm : r * finN p n v u = m * (fpP ^ 12 - 1)) {x : F12} (hx : x ≠ 0) : pwn (pwn x (finN p n v u)) r = 1 := by
  obtain ⟨k, hk⟩ : ∃ k, k = fpP ^ 12 - 1 := ⟨_, rfl⟩
  have h1 : fpP ^ 12 = k + 1 := by rw [hk]; exact of_decide_eq_true (by kernel_rfl)
  rw [← pwn_mul, Nat.mul_comm, hm, ← hk, Nat.mul_comm, pwn_mul, pw_one h1 hx, pwn_one]
/-- The order of the groups. -/
def rrN : Nat := 52435875175126190479447740508185965837690552500527637822603658699938581184513
theorem fin_mul : ∃ m, rrN * finN fpP (fpP ^ 6 - 1) 15132376222941642753 15132376222941642752 = m * (fpP ^ 12 - 1) := ⟨rrN * finN fpP (fpP ^ 6 - 1) 15132376222941642753 15132376222941642752 / (fpP ^ 12 - 1), of_decide_eq_true (by kernel_rfl)⟩
end Go.Proofs.YtbfimfdhmggieaaGreat.pairing
/- Lines laid over one another: a cocycle; the reciprocity of two lines. No program here. -/
namespace Cr
open Rg Fd

theorem i_lvt {F : Type} [Rg F] (x x1 y1 u l : F) : y1 + l * (x - x1) = - -(y1 + l * (u - x1)) + l * (x - u) :=
  rid [x, x1, y1, u, l] ((fun (x x1 y1 u l : PE) => (y1 + l * (x - x1))) (.v 0) (.v 1) (.v 2) (.v 3) (.v 4)) ((fun (x x1 y1 u l : PE) => (- -(y1 + l * (u - x1)) + l * (x - u))) (.v 0) (.v 1) (.v 2) (.v 3) (.v 4)) (by kernel_rfl)
theorem i_two {F : Type} [Rg F] (x y u v l m b : F) : (y - (-v + l * (x - u))) * (y - (v + m * (x - u))) - (x - u) * (x * x + (u + l * m) * x + (u * u - l * m * u + (l - m) * v) - (l + m) * y) = 1 * (y * y - (x * x * x + b)) + (-1) * (v * v - (u * u * u + b)) :=
  rid [x, y, u, v, l, m, b] ((fun (x y u v l m b : PE) => ((y - (-v + l * (x - u))) * (y - (v + m * (x - u))) - (x - u) * (x * x + (u + l * m) * x + (u * u - l * m * u + (l - m) * v) - (l + m) * y))) (.v 0) (.v 1) (.v 2) (.v 3) (.v 4) (.v 5) (.v 6)) ((fun (x y u v l m b : PE) => (1 * (y * y - (x * x * x + b)) + (-1) * (v * v - (u * u * u + b)))) (.v 0) (.v 1) (.v 2) (.v 3) (.v 4) (.v 5) (.v 6)) (by kernel_rfl)
theorem i_nl {F : Type} [Rg F] (y a : F) : (y - a) * (y - -a) = y * y - a * a :=
  rid [y, a] ((fun (y a : PE) => ((y - a) * (y - -a))) (.v 0) (.v 1)) ((fun (y a : PE) => (y * y - a * a)) (.v 0) (.v 1)) (by kernel_rfl)
theorem i_nl2 {F : Type} [Rg F] (y1 l x x1 : F) : -y1 + -l * (x - x1) = -(y1 + l * (x - x1)) :=
  rid [y1, l, x, x1] ((fun (y1 l x x1 : PE) => (-y1 + -l * (x - x1))) (.v 0) (.v 1) (.v 2) (.v 3)) ((fun (y1 l x x1 : PE) => (-(y1 + l * (x - x1)))) (.v 0) (.v 1) (.v 2) (.v 3)) (by kernel_rfl)
theorem i_e2 {F : Type} [Rg F] (x1 y1 x2 y2 m : F) : (x1 * x2 + (x1 + x2) * (m * m - x1 - x2)) - -((y1 - m * x1) + (y1 - m * x1)) * m = 1 * (m * (y1 + y2) - (x1 * x1 + x1 * x2 + x2 * x2)) + m * (m * (x2 - x1) - (y2 - y1)) :=
  rid [x1, y1, x2, y2, m] ((fun (x1 y1 x2 y2 m : PE) => ((x1 * x2 + (x1 + x2) * (m * m - x1 - x2)) - -((y1 - m * x1) + (y1 - m * x1)) * m)) (.v 0) (.v 1) (.v 2) (.v 3) (.v 4)) ((fun (x1 y1 x2 y2 m : PE) => (1 * (m * (y1 + y2) - (x1 * x1 + x1 * x2 + x2 * x2)) + m * (m * (x2 - x1) - (y2 - y1)))) (.v 0) (.v 1) (.v 2) (.v 3) (.v 4)) (by kernel_rfl)
theorem i_e3 {F : Type} [Rg F] (x1 y1 x2 y2 m b : F) : (x1 * x2 * (m * m - x1 - x2)) - ((y1 - m * x1) * (y1 - m * x1) - b) = (-1) * (y1 * y1 - (x1 * x1 * x1 + b)) + x1 * (m * (y1 + y2) - (x1 * x1 + x1 * x2 + x2 * x2)) + (m * x1) * (m * (x2 - x1) - (y2 - y1)) :=
  rid [x1, y1, x2, y2, m, b] ((fun (x1 y1 x2 y2 m b : PE) => ((x1 * x2 * (m * m - x1 - x2)) - ((y1 - m * x1) * (y1 - m * x1) - b))) (.v 0) (.v 1) (.v 2) (.v 3) (.v 4) (.v 5)) ((fun (x1 y1 x2 y2 m b : PE) => ((-1) * (y1 * y1 - (x1 * x1 * x1 + b)) + x1 * (m * (y1 + y2) - (x1 * x1 + x1 * x2 + x2 * x2)) + (m * x1) * (m * (x2 - x1) - (y2 - y1)))) (.v 0) (.v 1) (.v 2) (.v 3) (.v 4) (.v 5)) (by kernel_rfl)
theorem i_p3 {F : Type} [Rg F] (x1 x2 x3 d e : F) : (d * x1 + e) * (d * x2 + e) * (d * x3 + e) = d * d * d * (x1 * x2 * x3) + d * d * e * (x1 * x2 + (x1 + x2) * x3) + d * e * e * (x1 + x2 + x3) + e * e * e :=
  rid [x1, x2, x3, d, e] ((fun (x1 x2 x3 d e : PE) => ((d * x1 + e) * (d * x2 + e) * (d * x3 + e))) (.v 0) (.v 1) (.v 2) (.v 3) (.v 4)) ((fun (x1 x2 x3 d e : PE) => (d * d * d * (x1 * x2 * x3) + d * d * e * (x1 * x2 + (x1 + x2) * x3) + d * e * e * (x1 + x2 + x3) + e * e * e)) (.v 0) (.v 1) (.v 2) (.v 3) (.v 4)) (by kernel_rfl)
theorem i_e1 {F : Type} [Rg F] (x1 x2 m : F) : x1 + x2 + (m * m - x1 - x2) = m * m :=
  rid [x1, x2, m] ((fun (x1 x2 m : PE) => (x1 + x2 + (m * m - x1 - x2))) (.v 0) (.v 1) (.v 2)) ((fun (x1 x2 m : PE) => (m * m)) (.v 0) (.v 1) (.v 2)) (by kernel_rfl)
theorem i_rc {F : Type} [Rg F] (m l n k b : F) : (m - l) * (m - l) * (m - l) * (k * k - b) + (m - l) * (m - l) * (k - n) * (-(k + k) * m) + (m - l) * (k - n) * (k - n) * (m * m) + (k - n) * (k - n) * (k - n) = -((l - m) * (l - m) * (l - m) * (n * n - b) + (l - m) * (l - m) * (n - k) * (-(n + n) * l) + (l - m) * (n - k) * (n - k) * (l * l) + (n - k) * (n - k) * (n - k)) :=
  rid [m, l, n, k, b] ((fun (m l n k b : PE) => ((m - l) * (m - l) * (m - l) * (k * k - b) + (m - l) * (m - l) * (k - n) * (-(k + k) * m) + (m - l) * (k - n) * (k - n) * (m * m) + (k - n) * (k - n) * (k - n))) (.v 0) (.v 1) (.v 2) (.v 3) (.v 4)) ((fun (m l n k b : PE) => (-((l - m) * (l - m) * (l - m) * (n * n - b) + (l - m) * (l - m) * (n - k) * (-(n + n) * l) + (l - m) * (n - k) * (n - k) * (l * l) + (n - k) * (n - k) * (n - k)))) (.v 0) (.v 1) (.v 2) (.v 3) (.v 4)) (by kernel_rfl)
theorem i_lvd {F : Type} [Rg F] (x y a c xA yA xC yC l m : F) : (y - (yA + l * (x - xA))) - ((m - l) * x + ((yC - m * xC) - (yA - l * xA))) = (-1) * (m * (x - xC) - (y - yC)) :=
  rid [x, y, a, c, xA, yA, xC, yC, l, m] ((fun (x y a c xA yA xC yC l m : PE) => ((y - (yA + l * (x - xA))) - ((m - l) * x + ((yC - m * xC) - (yA - l * xA))))) (.v 0) (.v 1) (.v 2) (.v 3) (.v 4) (.v 5) (.v 6) (.v 7) (.v 8) (.v 9)) ((fun (x y a c xA yA xC yC l m : PE) => ((-1) * (m * (x - xC) - (y - yC)))) (.v 0) (.v 1) (.v 2) (.v 3) (.v 4) (.v 5) (.v 6) (.v 7) (.v 8) (.v 9)) (by kernel_rfl)
theorem i_sw {F : Type} [Rg F] (x1 y1 x2 y2 l x : F) : (y1 + l * (x - x1)) - (y2 + l * (x - x2)) = 1 * (l * (x2 - x1) - (y2 - y1)) :=
  rid [x1, y1, x2, y2, l, x] ((fun (x1 y1 x2 y2 l x : PE) => ((y1 + l * (x - x1)) - (y2 + l * (x - x2)))) (.v 0) (.v 1) (.v 2) (.v 3) (.v 4) (.v 5)) ((fun (x1 y1 x2 y2 l x : PE) => (1 * (l * (x2 - x1) - (y2 - y1)))) (.v 0) (.v 1) (.v 2) (.v 3) (.v 4) (.v 5)) (by kernel_rfl)
theorem i_nrm {F : Type} [Rg F] (x y x1 y1 x2 y2 l b : F) : (y * y - (y1 + l * (x - x1)) * (y1 + l * (x - x1))) - (x - x1) * (x - x2) * (x - (l * l - x1 - x2)) = 1 * (y * y - (x * x * x + b)) + (-1) * (y1 * y1 - (x1 * x1 * x1 + b)) + (-1) * (x - x1) * (l * (y1 + y2) - (x1 * x1 + x1 * x2 + x2 * x2)) + (-1) * (x - x1) * l * (l * (x2 - x1) - (y2 - y1)) :=
  rid [x, y, x1, y1, x2, y2, l, b] ((fun (x y x1 y1 x2 y2 l b : PE) => ((y * y - (y1 + l * (x - x1)) * (y1 + l * (x - x1))) - (x - x1) * (x - x2) * (x - (l * l - x1 - x2)))) (.v 0) (.v 1) (.v 2) (.v 3) (.v 4) (.v 5) (.v 6) (.v 7)) ((fun (x y x1 y1 x2 y2 l b : PE) => (1 * (y * y - (x * x * x + b)) + (-1) * (y1 * y1 - (x1 * x1 * x1 + b)) + (-1) * (x - x1) * (l * (y1 + y2) - (x1 * x1 + x1 * x2 + x2 * x2)) + (-1) * (x - x1) * l * (l * (x2 - x1) - (y2 - y1)))) (.v 0) (.v 1) (.v 2) (.v 3) (.v 4) (.v 5) (.v 6) (.v 7)) (by kernel_rfl)
theorem i_sw3 {F : Type} [Rg F] (a b c : F) : a * c * b = b * c * a :=
  rid [a, b, c] ((fun (a b c : PE) => (a * c * b)) (.v 0) (.v 1) (.v 2)) ((fun (a b c : PE) => (b * c * a)) (.v 0) (.v 1) (.v 2)) (by kernel_rfl)
theorem i_sw4 {F : Type} [Rg F] (a b c d : F) : a * b * c * d = a * b * d * c :=
  rid [a, b, c, d] ((fun (a b c d : PE) => (a * b * c * d)) (.v 0) (.v 1) (.v 2) (.v 3)) ((fun (a b c d : PE) => (a * b * d * c)) (.v 0) (.v 1) (.v 2) (.v 3)) (by kernel_rfl)
theorem i_sw5 {F : Type} [Rg F] (a b c : F) : a * b * c = a * c * b :=
  rid [a, b, c] ((fun (a b c : PE) => (a * b * c)) (.v 0) (.v 1) (.v 2)) ((fun (a b c : PE) => (a * c * b)) (.v 0) (.v 1) (.v 2)) (by kernel_rfl)
theorem i_sw6 {F : Type} [Rg F] (a b c : F) : a * b * c = b * c * a :=
  rid [a, b, c] ((fun (a b c : PE) => (a * b * c)) (.v 0) (.v 1) (.v 2)) ((fun (a b c : PE) => (b * c * a)) (.v 0) (.v 1) (.v 2)) (by kernel_rfl)
theorem i_mm {F : Type} [Rg F] (y a : F) : -y - a = -(y - -a) :=
  rid [y, a] ((fun (y a : PE) => (-y - a)) (.v 0) (.v 1)) ((fun (y a : PE) => (-(y - -a))) (.v 0) (.v 1)) (by kernel_rfl)
theorem i_ns {F : Type} [Rg F] (a c : F) : a - c = -(c - a) :=
  rid [a, c] ((fun (a c : PE) => (a - c)) (.v 0) (.v 1)) ((fun (a c : PE) => (-(c - a))) (.v 0) (.v 1)) (by kernel_rfl)
theorem i_sw7 {F : Type} [Rg F] (a b c : F) : a * b * c = c * b * a :=
  rid [a, b, c] ((fun (a b c : PE) => (a * b * c)) (.v 0) (.v 1) (.v 2)) ((fun (a b c : PE) => (c * b * a)) (.v 0) (.v 1) (.v 2)) (by kernel_rfl)
theorem i_sw8 {F : Type} [Rg F] (a b c : F) : a * b * c = c * a * b :=
  rid [a, b, c] ((fun (a b c : PE) => (a * b * c)) (.v 0) (.v 1) (.v 2)) ((fun (a b c : PE) => (c * a * b)) (.v 0) (.v 1) (.v 2)) (by kernel_rfl)
theorem i_z1 {F : Type} [Rg F] (m x y : F) : m * (x - x) = y - y :=
  rid [m, x, y] ((fun (m x y : PE) => (m * (x - x))) (.v 0) (.v 1) (.v 2)) ((fun (m x y : PE) => (y - y)) (.v 0) (.v 1) (.v 2)) (by kernel_rfl)

section
variable {F : Type} [Fd F] {b : F}
/-- A line's function at a point. -/
def lv (A : F × F) (l : F) (R : F × F) : F := R.2 - (A.2 + l * (R.1 - A.1))
theorem lv_third (P : F × F) (l u : F) (R : F × F) : lv P l R = R.2 - (- -(P.2 + l * (u - P.1)) + l * (R.1 - u)) := by
  unfold lv; rw [i_lvt R.1 P.1 P.2 u l]
theorem lv_two {P Q D R : F × F} {l m : F} (hl : LnP P Q l) (hD : D = (sx P.1 Q.1 l, sy P.1 P.2 Q.1 l)) (oP : OnF b P) (oR : OnF b R) : lv P l R * lv D m R = (R.1 - D.1) * fn D.1 D.2 l m R.1 R.2 := by
  have oD : OnF b D := by rw [hD]; exact hl.sum_on oP
  have e1 : lv P l R = R.2 - (-D.2 + l * (R.1 - D.1)) := by rw [lv_third P l D.1 R, hD]; rfl
  rw [e1]
  exact lc2 _ _ (i_two R.1 R.2 D.1 D.2 l m b) oR oD
/-- A line, its value on the points of another. -/
theorem lv_d {A C : F × F} {l m x y : F} (h : m * (x - C.1) = y - C.2) : lv A l (x, y) = (m - l) * x + ((C.2 - m * C.1) - (A.2 - l * A.1)) := lc1 _ (i_lvd x y 0 0 A.1 A.2 C.1 C.2 l m) h
theorem lv_prod {A C D : F × F} {l m : F} (h : LnP C D m) (oC : OnF b C) : lv A l C * lv A l D * lv A l (sx C.1 D.1 m, -sy C.1 C.2 D.1 m) =
    (m - l) * (m - l) * (m - l) * ((C.2 - m * C.1) * (C.2 - m * C.1) - b) + (m - l) * (m - l) * ((C.2 - m * C.1) - (A.2 - l * A.1)) * (-((C.2 - m * C.1) + (C.2 - m * C.1)) * m) + (m - l) * ((C.2 - m * C.1) - (A.2 - l * A.1)) * ((C.2 - m * C.1) - (A.2 - l * A.1)) * (m * m) + ((C.2 - m * C.1) - (A.2 - l * A.1)) * ((C.2 - m * C.1) - (A.2 - l * A.1)) * ((C.2 - m * C.1) - (A.2 - l * A.1)) := by
  have h1 : lv A l C = _ := lv_d (A := A) (C := C) (l := l) (m := m) (x := C.1) (y := C.2) (i_z1 m C.1 C.2)
  have h2 : lv A l D = _ := lv_d (A := A) (C := C) (l := l) (m := m) (x := D.1) (y := D.2) h.1
  have h3 := lv_d (A := A) (C := C) (l := l) (m := m) (x := sx C.1 D.1 m) (y := -sy C.1 C.2 D.1 m) h.third.1
  rw [h1, h2, h3, i_p3]
  have g3 : C.1 * D.1 * sx C.1 D.1 m = (C.2 - m * C.1) * (C.2 - m * C.1) - b := lc3 _ _ _ (i_e3 C.1 C.2 D.1 D.2 m b) oC h.2 h.1
  have g2 : C.1 * D.1 + (C.1 + D.1) * sx C.1 D.1 m = -((C.2 - m * C.1) + (C.2 - m * C.1)) * m := lc2 _ _ (i_e2 C.1 C.2 D.1 D.2 m) h.2 h.1
  have g1 : C.1 + D.1 + sx C.1 D.1 m = m * m := i_e1 C.1 D.1 m
  rw [g1, g2, g3]
/-- THE RECIPROCITY of two lines. -/
theorem lv_rec {A B C D : F × F} {l m : F} (h : LnP A B l) (k : LnP C D m) (oA : OnF b A) (oC : OnF b C) :
    lv A l C * lv A l D * lv A l (sx C.1 D.1 m, -sy C.1 C.2 D.1 m) = -(lv C m A * lv C m B * lv C m (sx A.1 B.1 l, -sy A.1 A.2 B.1 l)) := by
  rw [lv_prod k oC, lv_prod h oA]
  exact i_rc m l (A.2 - l * A.1) (C.2 - m * C.1) b

variable (hb : b ≠ 0)
include hb
/-- The third sums make one function. -/
theorem fn_same {xP yP xQ yQ xR yR l m u v l' m' : F} (oP : On b xP yP) (oR : On b xR yR) (hl : Ln xP yP xQ yQ l) (hm : Ln (sx xP xQ l) (sy xP yP xQ l) xR yR m)
    (T2 : xP + xQ + (u + l' * m') = (l' + m') * l) (f2P : fn u v l' m' xP yP = 0) (f2R : fn u v l' m' xR yR = 0) (h1 : xR ≠ xP) (h2 : xR ≠ xQ) (x y : F) :
    fn (sx xP xQ l) (sy xP yP xQ l) l m x y = fn u v l' m' x y := by
  have f1P : fn (sx xP xQ l) (sy xP yP xQ l) l m xP yP = 0 := fn1 hl.third
  have f1R : fn (sx xP xQ l) (sy xP yP xQ l) l m xR yR = 0 := fn2 hm
  have T1 : xP + xQ + (sx xP xQ l + l * m) = (l + m) * l := i_T1 xP xQ l m
  have hne : yR ≠ yP + l * (xR - xP) := by
    intro hy
    rcases hl.which oP oR hy with e | e | e
    · exact h1 e
    · exact h2 e
    · refine hm.not_neg hb (hl.sum_on oP) ⟨e.symm, ?_⟩
      unfold sy
      rw [neg_neg, ← e]
      exact hy
  obtain ⟨e1, e2, e3⟩ := same f1P f1R f2P f2R T1 T2 hne
  unfold fn
  rw [e1, e2, e3]
end

section
variable {F : Type} [Fd F] {b : F}
/-- The vertical through a point. -/
noncomputable def Vt (A R : F × F) : F := if A = O2 then 1 else R.1 - A.1
/-- The line through two points. -/
noncomputable def Lt (A B R : F × F) : F := if A = O2 then Vt B R else if B = O2 then Vt A R else if A.1 = B.1 ∧ B.2 = -A.2 then R.1 - A.1 else lv A (slope A.1 A.2 B.1 B.2) R
theorem Vt_O (R : F × F) : Vt (O2 : F × F) R = 1 := by unfold Vt; rw [if_pos rfl]
theorem Vt_on {A : F × F} (o : OnF b A) (hb : b ≠ 0) (R : F × F) : Vt A R = R.1 - A.1 := by unfold Vt; rw [if_neg (on_ne hb o)]
theorem Vt_neg (A R : F × F) : Vt (pneg A) R = Vt A R := by
  unfold Vt
  by_cases h : A = O2
  · subst h; rw [pneg_O]
  · rw [if_neg h, if_neg (fun e => h (by have := congrArg pneg e; rwa [pneg_pneg, pneg_O] at this))]; rfl
theorem Lt_O (B R : F × F) : Lt O2 B R = Vt B R := by unfold Lt; rw [if_pos rfl]
theorem Lt_O' (A R : F × F) : Lt A O2 R = Vt A R := by
  unfold Lt
  split
  · rename_i h; rw [h]
  · rw [if_pos rfl]
variable (hb : b ≠ 0)
include hb
theorem Lt_ln {A B : F × F} {l : F} (oA : OnF b A) (oB : OnF b B) (h : LnP A B l) (R : F × F) : Lt A B R = lv A l R := by
  have hn := h.not_neg hb oA
  unfold Lt
  rw [if_neg (on_ne hb oA), if_neg (on_ne hb oB), if_neg hn]
  rw [Ln.unique hb (slope_ln oA oB hn) h oA]
omit hb in
theorem Lt_neg (A R : F × F) : Lt A (pneg A) R = Vt A R := by
  by_cases h : A = O2
  · subst h; rw [pneg_O, Lt_O]
  · unfold Lt Vt
    rw [if_neg h, if_neg (fun e => h (by have := congrArg pneg e; rwa [pneg_pneg, pneg_O] at this)), if_pos ⟨rfl, rfl⟩, if_neg h]
omit hb in
theorem lv_symm {A B : F × F} {l : F} (h : LnP A B l) (R : F × F) : lv A l R = lv B l R := by
  have e : A.2 + l * (R.1 - A.1) = B.2 + l * (R.1 - B.1) := lc1 1 (i_sw A.1 A.2 B.1 B.2 l R.1) h.1
  unfold lv; rw [e]
theorem Lt_comm {A B : F × F} (oA : OnP b A) (oB : OnP b B) (R : F × F) : Lt A B R = Lt B A R := by
  rcases oA with rfl | oA
  · rw [Lt_O, Lt_O']
  rcases oB with rfl | oB
  · rw [Lt_O, Lt_O']
  rcases ln_or oA oB with rfl | ⟨l, h⟩
  · rw [Lt_neg]
    have := Lt_neg (pneg A) R
    rw [pneg_pneg] at this
    rw [this, Vt_neg]
  · rw [Lt_ln hb oA oB h, Lt_ln hb oB oA h.symm, lv_symm h]
/-- A line and its mirror image. -/
theorem Lt_norm {A B R : F × F} (oA : OnP b A) (oB : OnP b B) (oR : OnF b R) : Lt A B R * Lt (pneg A) (padd A B) R = Vt A R * Vt B R * Vt (padd A B) R := by
  rcases oA with rfl | oA
  · rw [pneg_O, O_add, Lt_O, Vt_O, one_mul]
  rcases oB with rfl | oB
  · rw [add_O, Lt_O', Vt_O, mul_one]
    have := Lt_neg (pneg A) R
    rw [pneg_pneg] at this
    rw [this, Vt_neg]
  rcases ln_or oA oB with rfl | ⟨l, h⟩
  · rw [add_neg_self, Lt_neg, Lt_O', Vt_O, Vt_neg, mul_one]
  · have ht := h.third
    have hn : LnP (pneg A) (sx A.1 B.1 l, sy A.1 A.2 B.1 l) (-l) := ⟨lc1 _ (i_n1 A.1 A.2 _ _ l) ht.1, lc1 _ (i_n2 A.1 A.2 _ _ l) ht.2⟩
    have oS : OnF b (sx A.1 B.1 l, sy A.1 A.2 B.1 l) := h.sum_on oA
    rw [padd_ln hb oA oB h, Lt_ln hb oA oB h, Lt_ln hb (pneg_on oA) oS hn, Vt_on oA hb, Vt_on oB hb, Vt_on oS hb]
    have e1 : lv (pneg A) (-l) R = R.2 - -(A.2 + l * (R.1 - A.1)) := by
      show R.2 - (-A.2 + -l * (R.1 - A.1)) = _
      rw [i_nl2]
    rw [e1]
    show (R.2 - (A.2 + l * (R.1 - A.1))) * _ = _
    rw [i_nl]
    have := i_on A.1 A.2 B.1 B.2 l R.1 b
    exact lc4 _ _ _ _ (i_nrm R.1 R.2 A.1 A.2 B.1 B.2 l b) oR oA h.2 h.1
/-- A line, by its other points. -/
theorem Lt_turn {A B R : F × F} (oA : OnP b A) (oB : OnP b B) : Lt A B R = Lt B (pneg (padd A B)) R := by
  rcases oA with rfl | oA
  · rw [O_add, Lt_O, Lt_neg]
  rcases oB with rfl | oB
  · rw [add_O, Lt_O, Lt_O', Vt_neg]
  rcases ln_or oA oB with rfl | ⟨l, h⟩
  · rw [add_neg_self, pneg_O, Lt_O', Lt_neg, Vt_neg]
  · have oS : OnF b (sx A.1 B.1 l, sy A.1 A.2 B.1 l) := h.sum_on oA
    rw [padd_ln hb oA oB h, Lt_ln hb oA oB h, lv_symm h]
    exact (Lt_ln hb oB (pneg_on oS) h.third' R).symm
theorem cyc_two {P R T : F × F} (oP : OnF b P) (oR : OnF b R) (oT : OnF b T) (h1 : R.1 ≠ P.1) {l m l' m' : F} (hl : LnP P P l) (hm : LnP (sx P.1 P.1 l, sy P.1 P.2 P.1 l) R m) (hl' : LnP P R l') (hm' : LnP P (sx P.1 R.1 l', sy P.1 P.2 R.1 l') m') :
    Lt P P T * Lt (padd P P) R T * Vt (padd P R) T = Lt P R T * Lt P (padd P R) T * Vt (padd P P) T := by
  have oU : OnF b (sx P.1 P.1 l, sy P.1 P.2 P.1 l) := hl.sum_on oP
  have oV : OnF b (sx P.1 R.1 l', sy P.1 P.2 R.1 l') := hl'.sum_on oP
  rw [padd_ln hb oP oP hl, padd_ln hb oP oR hl', Lt_ln hb oP oP hl, Lt_ln hb oU oR hm, Lt_ln hb oP oR hl', Lt_ln hb oP oV hm', lv_symm hm', lv_two hl rfl oP oT, lv_two hl' rfl oP oT, Vt_on oV hb, Vt_on oU hb]
  have hV : sx P.1 R.1 l' ≠ P.1 := by
    intro e
    have hn := hm'.not_neg hb oP
    have e2 : sy P.1 P.2 R.1 l' = P.2 := by
      have : (sy P.1 P.2 R.1 l' - P.2) * (sy P.1 P.2 R.1 l' + P.2) = 0 := by
        have oV : sy P.1 P.2 R.1 l' * sy P.1 P.2 R.1 l' = _ := oV
        have oP : P.2 * P.2 = P.1 * P.1 * P.1 + b := oP
        rw [i_dsq, oV, oP]
        show sx P.1 R.1 l' * sx P.1 R.1 l' * sx P.1 R.1 l' + b - _ = 0
        rw [e, sub_self]
      rcases mul_eq_zero this with h | h
      · exact eq_of_sub h
      · exact absurd ⟨e.symm, (neg_eq (by rw [add_comm]; exact h)).symm⟩ hn
    have hc := cancel hb (.inr oP) (.inr oR)
    rw [padd_ln hb oP oR hl', e, e2] at hc
    have : padd (pneg P) P = R := hc
    rw [neg_add_self] at this
    exact on_ne hb oR this.symm
  have T2 : P.1 + P.1 + (sx P.1 R.1 l' + l' * m') = (l' + m') * l := by
    have e := lc4 _ _ _ _ (i_t3 P.1 P.2 (sx P.1 R.1 l') (sy P.1 P.2 R.1 l') l' m' l) hl'.third.1 hm'.1 hl'.third.2 hl.2
    exact eq_of_sub ((mul_eq_zero e).resolve_left (sub_ne hV))
  have e := fn_same (u := sx P.1 R.1 l') (v := sy P.1 P.2 R.1 l') (l' := l') (m' := m') hb oP oR hl hm T2 (fn1 hl'.third) (fn1 hl'.third') h1 h1 T.1 T.2
  show _ * fn (sx P.1 P.1 l) (sy P.1 P.2 P.1 l) l m T.1 T.2 * _ = _ * fn (sx P.1 R.1 l') (sy P.1 P.2 R.1 l') l' m' T.1 T.2 * _
  rw [e]
  exact i_sw3 _ _ _
theorem cyc_three {P Q R T : F × F} (oP : OnF b P) (oQ : OnF b Q) (oR : OnF b R) (oT : OnF b T) (h0 : Q.1 ≠ P.1) (h1 : R.1 ≠ P.1) (h2 : R.1 ≠ Q.1) {l m l' m' : F} (hl : LnP P Q l) (hm : LnP (sx P.1 Q.1 l, sy P.1 P.2 Q.1 l) R m) (hl' : LnP Q R l') (hm' : LnP P (sx Q.1 R.1 l', sy Q.1 Q.2 R.1 l') m') :
    Lt P Q T * Lt (padd P Q) R T * Vt (padd Q R) T = Lt Q R T * Lt P (padd Q R) T * Vt (padd P Q) T := by
  have oU : OnF b (sx P.1 Q.1 l, sy P.1 P.2 Q.1 l) := hl.sum_on oP
  have oV : OnF b (sx Q.1 R.1 l', sy Q.1 Q.2 R.1 l') := hl'.sum_on oQ
  rw [padd_ln hb oP oQ hl, padd_ln hb oQ oR hl', Lt_ln hb oP oQ hl, Lt_ln hb oU oR hm, Lt_ln hb oQ oR hl', Lt_ln hb oP oV hm', lv_symm hm', lv_two hl rfl oP oT, lv_two hl' rfl oQ oT, Vt_on oV hb, Vt_on oU hb]
  have f2P : fn (sx Q.1 R.1 l') (sy Q.1 Q.2 R.1 l') l' m' P.1 P.2 = 0 := fn2 hm'.symm
  have f2Q : fn (sx Q.1 R.1 l') (sy Q.1 Q.2 R.1 l') l' m' Q.1 Q.2 = 0 := fn1 hl'.third
  have T2 : P.1 + Q.1 + (sx Q.1 R.1 l' + l' * m') = (l' + m') * l := by
    have e := lc3 _ _ _ (i_t2 P.1 Q.1 (sx Q.1 R.1 l' + l' * m') (l' + m') l P.2 Q.2 _) f2Q f2P hl.1
    exact eq_of_sub ((mul_eq_zero e).resolve_left (sub_ne h0))
  have e := fn_same (u := sx Q.1 R.1 l') (v := sy Q.1 Q.2 R.1 l') (l' := l') (m' := m') hb oP oR hl hm T2 f2P (fn1 hl'.third') h1 h2 T.1 T.2
  show _ * fn (sx P.1 Q.1 l) (sy P.1 P.2 Q.1 l) l m T.1 T.2 * _ = _ * fn (sx Q.1 R.1 l') (sy Q.1 Q.2 R.1 l') l' m' T.1 T.2 * _
  rw [e]
  exact i_sw3 _ _ _
/-- THE COCYCLE. -/
theorem cyc {P Q R T : F × F} (oP : OnP b P) (oQ : OnP b Q) (oR : OnP b R) (oT : OnF b T) : Lt P Q T * Lt (padd P Q) R T * Vt (padd Q R) T = Lt Q R T * Lt P (padd Q R) T * Vt (padd P Q) T := by
  have oPQ := padd_on hb oP oQ
  have oQR := padd_on hb oQ oR
  by_cases c1 : Q = pneg P
  · subst c1
    rw [Lt_neg, add_neg_self, Lt_O, Vt_O, mul_one]
    have n := Lt_norm hb (pneg_onP oP) oR oT
    rw [pneg_pneg, Vt_neg] at n
    exact n.symm
  by_cases c2 : R = pneg Q
  · subst c2
    rw [Lt_neg, add_neg_self, Lt_O', Vt_O, mul_one]
    have n := Lt_norm hb oQ oP oT
    rw [Lt_comm hb oPQ (pneg_onP oQ), Lt_comm hb oP oQ, padd_comm hb oP oQ]
    exact n
  by_cases c3 : R = P
  · subst c3
    rw [Lt_comm hb oPQ oR, padd_comm hb oR oQ, Lt_comm hb oR oQ]
  by_cases c4 : R = pneg P
  · subst c4
    have n1 := Lt_norm hb oP oQ oT
    have n2 := Lt_norm hb (pneg_onP oP) oQ oT
    rw [pneg_pneg, Vt_neg] at n2
    rw [Lt_comm hb oPQ (pneg_onP oP), n1, padd_comm hb oQ (pneg_onP oP), Lt_comm hb oQ (pneg_onP oP), n2]
    exact i_sw4 _ _ _ _
  by_cases c5 : R = pneg (padd P Q)
  · have k := turn hb oP oQ c5
    rw [k, Vt_neg, Lt_neg, c5, Lt_neg, ← Lt_turn hb oP oQ]
    exact i_sw5 _ _ _
  by_cases c6 : padd Q R = pneg P
  · exfalso
    refine c5 ?_
    have h1 : P = pneg (padd Q R) := by rw [c6, pneg_pneg]
    have h2 : padd R P = pneg Q := turn hb oQ oR h1
    have h4 : Q = pneg (padd R P) := by rw [h2, pneg_pneg]
    have h5 : padd P Q = pneg R := turn hb oR oP h4
    rw [h5, pneg_pneg]
  rcases oP with rfl | oP
  · rw [O_add, Lt_O, Lt_O]
    exact i_sw6 _ _ _
  rcases oQ with rfl | oQ
  · rw [O_add, add_O, Lt_O', Lt_O]
    exact i_sw7 _ _ _
  rcases oR with rfl | oR
  · rw [add_O, Lt_O', Lt_O']
    exact i_sw8 _ _ _
  obtain ⟨l, hl⟩ := (ln_or oP oQ).resolve_left c1
  obtain ⟨l', hl'⟩ := (ln_or oQ oR).resolve_left c2
  have eU := padd_ln hb oP oQ hl
  have eV := padd_ln hb oQ oR hl'
  have oU : OnF b (padd P Q) := by rw [eU]; exact hl.sum_on oP
  have oV : OnF b (padd Q R) := by rw [eV]; exact hl'.sum_on oQ
  obtain ⟨m, hm⟩ := (ln_or oU oR).resolve_left c5
  obtain ⟨m', hm'⟩ := (ln_or oP oV).resolve_left c6
  rw [eU] at hm
  rw [eV] at hm'
  have n1 : R.1 ≠ P.1 := x_ne oP oR c3 c4
  by_cases c7 : Q = P
  · subst c7
    exact cyc_two hb oP oR oT n1 hl hm hl' hm'
  by_cases c8 : R = Q
  · subst c8
    have k := hl.symm
    rw [Lt_comm hb oPQ (.inr oR), padd_comm hb (.inr oP) (.inr oR), Lt_comm hb (.inr oP) (.inr oR), Lt_comm hb (.inr oP) oQR]
    have n2 : P.1 ≠ R.1 := fun e => n1 e.symm
    refine (cyc_two hb oR oP oT n2 (m := m') (m' := m) hl' hm'.symm k ?_).symm
    have hm := hm.symm
    rw [sx_symm P.1, sy_symm hl] at hm
    exact hm
  exact cyc_three hb oP oQ oR oT (x_ne oP oQ c7 c1) n1 (x_ne oQ oR c8 c2) hl hm hl' hm'
end
end Cr
/- The Miller loop: additive on either side, but for what a last power makes 1. No program here. -/
namespace Cr
open Rg Fd

section
variable {F : Type} [Fd F] {b : F}
instance mulAssoc : Std.Associative (α := F) (fun x y => x * y) := ⟨mul_assoc⟩
instance mulComm : Std.Commutative (α := F) (fun x y => x * y) := ⟨mul_comm⟩
theorem dbl_ne {A : F × F} (h : padd A A ≠ O2) : A ≠ O2 := by rintro rfl; exact h (O_add _)
/-- What a last power is. -/
structure Kill (F : Type) [Fd F] where
  χ : F → F
  mul : ∀ x y, χ (x * y) = χ x * χ y
  one : χ 1 = 1
  neg : χ (-1) = 1
theorem Kill.neg' (K : Kill F) (x : F) : K.χ (-x) = K.χ x := by
  have e : -x = -1 * x := by rw [neg_mul, one_mul]
  rw [e, K.mul, K.neg, one_mul]
noncomputable def mlS (Q R : F × F) (s : F × (F × F)) : Bool → F × (F × F)
  | false => (s.1 * s.1 * Lt s.2 s.2 R, padd s.2 s.2)
  | true => (s.1 * s.1 * Lt s.2 s.2 R * Lt (padd s.2 s.2) Q R, padd (padd s.2 s.2) Q)
/-- Lines laid over one another, bit by bit. -/
noncomputable def ml (Q R : F × F) (l : List Bool) : F × (F × F) := l.foldl (mlS Q R) (1, Q)
def mpwS (x c : F) : Bool → F
  | false => c * c
  | true => c * c * x
def mpw (x : F) (l : List Bool) : F := l.foldl (mpwS x) x
variable (K : Kill F)
/-- Points whose verticals are killed. -/
structure Grp (b : F) (K : Kill F) (R : F × F) (S : F × F → Prop) : Prop where
  on : ∀ A, S A → OnP b A
  add : ∀ A B, S A → S B → S (padd A B)
  vt : ∀ A, S A → K.χ (Vt A R) = 1
variable {R : F × F} {S : F × F → Prop} (hb : b ≠ 0) (oR : OnF b R) (g : Grp b K R S)
include hb
theorem padd_med {A B C D : F × F} (a : OnP b A) (c : OnP b B) (d : OnP b C) (e : OnP b D) : padd (padd A B) (padd C D) = padd (padd A C) (padd B D) := by
  rw [padd_assoc hb a c (padd_on hb d e), padd_assoc hb a d (padd_on hb c e), ← padd_assoc hb c d e, ← padd_assoc hb d c e, padd_comm hb c d]
include oR g
theorem la_cyc {P Q T : F × F} (sP : S P) (sQ : S Q) (sT : S T) : K.χ (Lt P Q R) * K.χ (Lt (padd P Q) T R) = K.χ (Lt Q T R) * K.χ (Lt P (padd Q T) R) := by
  have h := congrArg K.χ (cyc hb (g.on _ sP) (g.on _ sQ) (g.on _ sT) oR)
  rw [K.mul, K.mul, K.mul, K.mul, g.vt _ (g.add _ _ sQ sT), g.vt _ (g.add _ _ sP sQ), mul_one, mul_one] at h
  exact h
omit oR in
theorem la_comm {P Q : F × F} (sP : S P) (sQ : S Q) : K.χ (Lt P Q R) = K.χ (Lt Q P R) := by
  show K.χ _ = K.χ _
  rw [Lt_comm hb (g.on _ sP) (g.on _ sQ)]
theorem la_four1 {X Y A B : F × F} (sX : S X) (sY : S Y) (sA : S A) (sB : S B) : K.χ (Lt X Y R) * K.χ (Lt A B R) * K.χ (Lt (padd X Y) (padd A B) R) = K.χ (Lt Y A R) * K.χ (Lt X (padd Y A) R) * K.χ (Lt (padd X (padd Y A)) B R) := by
  have h1 := la_cyc K hb oR g sX sY (g.add _ _ sA sB)
  have h2 := la_cyc K hb oR g sY sA sB
  have h3 := la_cyc K hb oR g sX (g.add _ _ sY sA) sB
  rw [padd_assoc hb (g.on _ sY) (g.on _ sA) (g.on _ sB)] at h3
  have e1 : K.χ (Lt X Y R) * K.χ (Lt A B R) * K.χ (Lt (padd X Y) (padd A B) R) = K.χ (Lt X Y R) * K.χ (Lt (padd X Y) (padd A B) R) * K.χ (Lt A B R) := by ac_rfl
  rw [e1, h1]
  have e2 : K.χ (Lt Y (padd A B) R) * K.χ (Lt X (padd Y (padd A B)) R) * K.χ (Lt A B R) = K.χ (Lt A B R) * K.χ (Lt Y (padd A B) R) * K.χ (Lt X (padd Y (padd A B)) R) := by ac_rfl
  rw [e2, ← h2]
  have e3 : K.χ (Lt Y A R) * K.χ (Lt (padd Y A) B R) * K.χ (Lt X (padd Y (padd A B)) R) = K.χ (Lt Y A R) * (K.χ (Lt (padd Y A) B R) * K.χ (Lt X (padd Y (padd A B)) R)) := by ac_rfl
  rw [e3, ← h3]
  ac_rfl
theorem la_four {X Y A B : F × F} (sX : S X) (sY : S Y) (sA : S A) (sB : S B) : K.χ (Lt X Y R) * K.χ (Lt A B R) * K.χ (Lt (padd X Y) (padd A B) R) = K.χ (Lt X A R) * K.χ (Lt Y B R) * K.χ (Lt (padd X A) (padd Y B) R) := by
  rw [la_four1 K hb oR g sX sY sA sB, la_four1 K hb oR g sX sA sY sB, la_comm K hb g sY sA, padd_comm hb (g.on _ sY) (g.on _ sA)]
/-- What holds along the loop of a sum. -/
def InvQ (K : Kill F) (R : F × F) (S : F × F → Prop) (sS sA sB : F × (F × F)) (c : F) : Prop :=
  S sA.2 ∧ S sB.2 ∧ sS.2 = padd sA.2 sB.2 ∧ K.χ sS.1 * c = K.χ sA.1 * K.χ sB.1 * K.χ (Lt sA.2 sB.2 R)
theorem invQ_dbl {sS sA sB : F × (F × F)} {c : F} (A B : F × F) (x : F) (h : InvQ K R S sS sA sB c) : InvQ K R S (mlS (padd A B) R sS false) (mlS A R sA false) (mlS B R sB false) (mpwS x c false) := by
  obtain ⟨h1, h2, h3, h4⟩ := h
  refine ⟨g.add _ _ h1 h1, g.add _ _ h2 h2, ?_, ?_⟩
  · show padd sS.2 sS.2 = padd (padd sA.2 sA.2) (padd sB.2 sB.2)
    rw [h3]; exact padd_med hb (g.on _ h1) (g.on _ h2) (g.on _ h1) (g.on _ h2)
  · show K.χ (sS.1 * sS.1 * Lt sS.2 sS.2 R) * (c * c) = K.χ (sA.1 * sA.1 * Lt sA.2 sA.2 R) * K.χ (sB.1 * sB.1 * Lt sB.2 sB.2 R) * K.χ (Lt (padd sA.2 sA.2) (padd sB.2 sB.2) R)
    have f := la_four K hb oR g h1 h2 h1 h2
    rw [K.mul, K.mul, K.mul, K.mul, K.mul, K.mul, h3]
    have e : K.χ sS.1 * K.χ sS.1 * K.χ (Lt (padd sA.2 sB.2) (padd sA.2 sB.2) R) * (c * c) = (K.χ sS.1 * c) * (K.χ sS.1 * c) * K.χ (Lt (padd sA.2 sB.2) (padd sA.2 sB.2) R) := by ac_rfl
    rw [e, h4]
    have e2 : K.χ sA.1 * K.χ sB.1 * K.χ (Lt sA.2 sB.2 R) * (K.χ sA.1 * K.χ sB.1 * K.χ (Lt sA.2 sB.2 R)) * K.χ (Lt (padd sA.2 sB.2) (padd sA.2 sB.2) R) = K.χ sA.1 * K.χ sB.1 * (K.χ sA.1 * K.χ sB.1) * (K.χ (Lt sA.2 sB.2 R) * K.χ (Lt sA.2 sB.2 R) * K.χ (Lt (padd sA.2 sB.2) (padd sA.2 sB.2) R)) := by ac_rfl
    rw [e2, f]
    ac_rfl
theorem invQ_add {A B : F × F} {sS sA sB : F × (F × F)} {c : F} (sa : S A) (sb : S B) (h : InvQ K R S sS sA sB c) :
    InvQ K R S (sS.1 * Lt sS.2 (padd A B) R, padd sS.2 (padd A B)) (sA.1 * Lt sA.2 A R, padd sA.2 A) (sB.1 * Lt sB.2 B R, padd sB.2 B) (c * K.χ (Lt A B R)) := by
  obtain ⟨h1, h2, h3, h4⟩ := h
  refine ⟨g.add _ _ h1 sa, g.add _ _ h2 sb, ?_, ?_⟩
  · show padd sS.2 (padd A B) = padd (padd sA.2 A) (padd sB.2 B)
    rw [h3]; exact padd_med hb (g.on _ h1) (g.on _ h2) (g.on _ sa) (g.on _ sb)
  · show K.χ (sS.1 * Lt sS.2 (padd A B) R) * (c * K.χ (Lt A B R)) = K.χ (sA.1 * Lt sA.2 A R) * K.χ (sB.1 * Lt sB.2 B R) * K.χ (Lt (padd sA.2 A) (padd sB.2 B) R)
    have f := la_four K hb oR g h1 h2 sa sb
    rw [K.mul, K.mul, K.mul, h3]
    have e : K.χ sS.1 * K.χ (Lt (padd sA.2 sB.2) (padd A B) R) * (c * K.χ (Lt A B R)) = (K.χ sS.1 * c) * (K.χ (Lt A B R) * K.χ (Lt (padd sA.2 sB.2) (padd A B) R)) := by ac_rfl
    rw [e, h4]
    have e2 : K.χ sA.1 * K.χ sB.1 * K.χ (Lt sA.2 sB.2 R) * (K.χ (Lt A B R) * K.χ (Lt (padd sA.2 sB.2) (padd A B) R)) = K.χ sA.1 * K.χ sB.1 * (K.χ (Lt sA.2 sB.2 R) * K.χ (Lt A B R) * K.χ (Lt (padd sA.2 sB.2) (padd A B) R)) := by ac_rfl
    rw [e2, f]
    ac_rfl
theorem invQ_step {A B : F × F} {sS sA sB : F × (F × F)} {c : F} (sa : S A) (sb : S B) (x : Bool) (h : InvQ K R S sS sA sB c) : InvQ K R S (mlS (padd A B) R sS x) (mlS A R sA x) (mlS B R sB x) (mpwS (K.χ (Lt A B R)) c x) := by
  cases x with
  | false => exact invQ_dbl K hb oR g A B _ h
  | true => exact invQ_add K hb oR g sa sb (invQ_dbl K hb oR g A B 1 h)
/-- The loop of a sum of the running points. -/
theorem ml_sumQ {A B : F × F} (sa : S A) (sb : S B) (l : List Bool) : InvQ K R S (ml (padd A B) R l) (ml A R l) (ml B R l) (mpw (K.χ (Lt A B R)) l) := by
  have key : ∀ (l : List Bool) (sS sA sB : F × (F × F)) (c : F), InvQ K R S sS sA sB c → InvQ K R S (l.foldl (mlS (padd A B) R) sS) (l.foldl (mlS A R) sA) (l.foldl (mlS B R) sB) (l.foldl (mpwS (K.χ (Lt A B R))) c) := by
    intro l
    induction l with
    | nil => intro sS sA sB c h; exact h
    | cons x l ih => intro sS sA sB c h; exact ih _ _ _ _ (invQ_step K hb oR g sa sb x h)
  refine key l _ _ _ _ ⟨sa, sb, rfl, ?_⟩
  show K.χ 1 * _ = K.χ 1 * K.χ 1 * _
  rw [K.one, one_mul, one_mul, one_mul]
/-- A sum and its mirror image. -/
theorem la_neg {A B : F × F} (sa : S A) (sb : S B) : K.χ (Lt A B R) * K.χ (Lt (pneg A) (pneg B) R) = 1 := by
  have oa := g.on _ sa
  have ob := g.on _ sb
  have n := congrArg K.χ (Lt_norm hb ob oa oR)
  have t := Lt_turn (R := R) hb (pneg_onP oa) (pneg_onP ob)
  rw [← pneg_add hb oa ob, pneg_pneg] at t
  rw [K.mul, K.mul, K.mul, g.vt _ sa, g.vt _ sb, g.vt _ (g.add _ _ sb sa), mul_one, mul_one, padd_comm hb ob oa, Lt_comm hb ob oa] at n
  show K.χ _ * K.χ _ = 1
  rw [t]; exact n
end

section
variable {F : Type} [Fd F] {b : F} (K : Kill F)
/-- No nought on the way. -/
def okc (Q : F × F) : List Bool → F × F → Prop
  | [], _ => True
  | false :: l, T => padd T T ≠ O2 ∧ okc Q l (padd T T)
  | true :: l, T => padd T T ≠ O2 ∧ padd (padd T T) Q ≠ O2 ∧ okc Q l (padd (padd T T) Q)
variable (hb : b ≠ 0)
include hb
omit hb in
theorem lv_mirror {A B R : F × F} {l : F} (h : LnP A B l) (oA : OnF b A) (oR : OnF b R) : lv A l R * lv A l (pneg R) = -((R.1 - A.1) * (R.1 - B.1) * (R.1 - sx A.1 B.1 l)) := by
  have e : lv A l (pneg R) = -(R.2 - -(A.2 + l * (R.1 - A.1))) := by
    show -R.2 - (A.2 + l * (R.1 - A.1)) = _
    exact i_mm _ _
  rw [e, mul_neg]
  congr 1
  show (R.2 - (A.2 + l * (R.1 - A.1))) * _ = _
  rw [i_nl]
  exact lc4 _ _ _ _ (i_nrm R.1 R.2 A.1 A.2 B.1 B.2 l b) oR oA h.2 h.1
/-- Points of two kinds, which see each other by verticals that are killed. -/
structure Two (b : F) (K : Kill F) (S T : F × F → Prop) : Prop where
  onS : ∀ A, S A → OnP b A
  addS : ∀ A B, S A → S B → S (padd A B)
  onT : ∀ A, T A → OnP b A
  addT : ∀ A B, T A → T B → T (padd A B)
  vt : ∀ A R, S A → T R → A ≠ O2 → R ≠ O2 → K.χ (R.1 - A.1) = 1
variable {S T : F × F → Prop} (g : Two b K S T)
include g
omit hb in
theorem Two.vt' {A R : F × F} (hA : S A) (hR : T R) (nA : A ≠ O2) (nR : R ≠ O2) : K.χ (A.1 - R.1) = 1 := by
  have e : A.1 - R.1 = -(R.1 - A.1) := i_ns _ _
  rw [e, K.neg', g.vt _ _ hA hR nA nR]
theorem la_mirror {A B R : F × F} (sA : S A) (sB : S B) (tR : T R) (nA : A ≠ O2) (nB : B ≠ O2) (nAB : padd A B ≠ O2) (nR : R ≠ O2) : K.χ (Lt A B R) * K.χ (Lt A B (pneg R)) = 1 := by
  have oA := (g.onS _ sA).resolve_left nA
  have oB := (g.onS _ sB).resolve_left nB
  have oR := (g.onT _ tR).resolve_left nR
  rcases ln_or oA oB with rfl | ⟨l, h⟩
  · exact absurd (add_neg_self A) nAB
  · have eS := padd_ln hb oA oB h
    rw [Lt_ln hb oA oB h, Lt_ln hb oA oB h, ← K.mul, lv_mirror h oA oR, K.neg', K.mul, K.mul, g.vt _ _ sA tR nA nR, g.vt _ _ sB tR nB nR]
    have := g.vt _ _ (g.addS _ _ sA sB) tR nAB nR
    rw [eS] at this
    rw [this, mul_one, mul_one]
/-- The reciprocity. -/
theorem la_rec {A B P Q : F × F} (sA : S A) (sB : S B) (tP : T P) (tQ : T Q) (nA : A ≠ O2) (nB : B ≠ O2) (nAB : padd A B ≠ O2) (nP : P ≠ O2) (nQ : Q ≠ O2) (nPQ : padd P Q ≠ O2) :
    K.χ (Lt A B P) * K.χ (Lt A B Q) * K.χ (Lt P Q (padd A B)) = K.χ (Lt P Q A) * K.χ (Lt P Q B) * K.χ (Lt A B (padd P Q)) := by
  have oA := (g.onS _ sA).resolve_left nA
  have oB := (g.onS _ sB).resolve_left nB
  have oP := (g.onT _ tP).resolve_left nP
  have oQ := (g.onT _ tQ).resolve_left nQ
  have g' : Two b K T S := ⟨g.onT, g.addT, g.onS, g.addS, fun X Y hX hY nX nY => g.vt' K hY hX nY nX⟩
  have m1 := la_mirror K hb g sA sB (g.addT _ _ tP tQ) nA nB nAB nPQ
  have m2 := la_mirror K hb g' tP tQ (g.addS _ _ sA sB) nP nQ nPQ nAB
  rcases ln_or oA oB with rfl | ⟨l, h⟩
  · exact absurd (add_neg_self A) nAB
  rcases ln_or oP oQ with rfl | ⟨m, k⟩
  · exact absurd (add_neg_self P) nPQ
  have r := congrArg K.χ (lv_rec h k oA oP)
  have e1 : (sx P.1 Q.1 m, -sy P.1 P.2 Q.1 m) = pneg (padd P Q) := by rw [padd_ln hb oP oQ k]; rfl
  have e2 : (sx A.1 B.1 l, -sy A.1 A.2 B.1 l) = pneg (padd A B) := by rw [padd_ln hb oA oB h]; rfl
  rw [e1, e2, K.neg', K.mul, K.mul, K.mul, K.mul] at r
  have f : ∀ R, Lt A B R = lv A l R := Lt_ln hb oA oB h
  have f' : ∀ R, Lt P Q R = lv P m R := Lt_ln hb oP oQ k
  rw [← f, ← f, ← f, ← f', ← f', ← f'] at r
  generalize K.χ (Lt A B P) = a1 at *
  generalize K.χ (Lt A B Q) = a2 at *
  generalize K.χ (Lt A B (padd P Q)) = a3 at *
  generalize K.χ (Lt A B (pneg (padd P Q))) = a4 at *
  generalize K.χ (Lt P Q A) = c1 at *
  generalize K.χ (Lt P Q B) = c2 at *
  generalize K.χ (Lt P Q (padd A B)) = c3 at *
  generalize K.χ (Lt P Q (pneg (padd A B))) = c4 at *
  have h1 : a1 * a2 * c3 = a1 * a2 * a4 * (a3 * c3) := by
    have : a1 * a2 * a4 * (a3 * c3) = a1 * a2 * c3 * (a3 * a4) := by ac_rfl
    rw [this, m1, mul_one]
  have h2 : c1 * c2 * c4 * (a3 * c3) = c1 * c2 * a3 := by
    have : c1 * c2 * c4 * (a3 * c3) = c1 * c2 * a3 * (c3 * c4) := by ac_rfl
    rw [this, m2, mul_one]
  rw [h1, r, h2]
def InvP (K : Kill F) (S : F × F → Prop) (P Q : F × F) (s1 s2 s3 : F × (F × F)) (c : F) : Prop :=
  S s1.2 ∧ s2.2 = s1.2 ∧ s3.2 = s1.2 ∧ K.χ s1.1 * K.χ s2.1 * K.χ (Lt P Q s1.2) = K.χ s3.1 * c
theorem invP_add {A P Q : F × F} {s1 s2 s3 : F × (F × F)} {c : F} (tP : T P) (tQ : T Q) (nP : P ≠ O2) (nQ : Q ≠ O2) (nPQ : padd P Q ≠ O2) (sA : S A) (nA : A ≠ O2) (n1 : s1.2 ≠ O2) (nS : padd s1.2 A ≠ O2) (h : InvP K S P Q s1 s2 s3 c) :
    InvP K S P Q (s1.1 * Lt s1.2 A P, padd s1.2 A) (s2.1 * Lt s2.2 A Q, padd s2.2 A) (s3.1 * Lt s3.2 A (padd P Q), padd s3.2 A) (c * K.χ (Lt P Q A)) := by
  obtain ⟨h1, h2, h3, h4⟩ := h
  have r := la_rec K hb g h1 sA tP tQ n1 nA nS nP nQ nPQ
  refine ⟨g.addS _ _ h1 sA, by show padd _ _ = padd _ _; rw [h2], by show padd _ _ = padd _ _; rw [h3], ?_⟩
  show K.χ (s1.1 * Lt s1.2 A P) * K.χ (s2.1 * Lt s2.2 A Q) * K.χ (Lt P Q (padd s1.2 A)) = K.χ (s3.1 * Lt s3.2 A (padd P Q)) * (c * K.χ (Lt P Q A))
  rw [h2, h3, K.mul, K.mul, K.mul]
  have e : K.χ s1.1 * K.χ (Lt s1.2 A P) * (K.χ s2.1 * K.χ (Lt s1.2 A Q)) * K.χ (Lt P Q (padd s1.2 A)) = K.χ s1.1 * K.χ s2.1 * (K.χ (Lt s1.2 A P) * K.χ (Lt s1.2 A Q) * K.χ (Lt P Q (padd s1.2 A))) := by ac_rfl
  rw [e, r]
  have e2 : K.χ s1.1 * K.χ s2.1 * (K.χ (Lt P Q s1.2) * K.χ (Lt P Q A) * K.χ (Lt s1.2 A (padd P Q))) = K.χ s1.1 * K.χ s2.1 * K.χ (Lt P Q s1.2) * (K.χ (Lt P Q A) * K.χ (Lt s1.2 A (padd P Q))) := by ac_rfl
  rw [e2, h4]
  ac_rfl
theorem invP_dbl {P Q : F × F} {s1 s2 s3 : F × (F × F)} {c : F} (tP : T P) (tQ : T Q) (nP : P ≠ O2) (nQ : Q ≠ O2) (nPQ : padd P Q ≠ O2) (n1 : s1.2 ≠ O2) (nS : padd s1.2 s1.2 ≠ O2) (h : InvP K S P Q s1 s2 s3 c) :
    InvP K S P Q (s1.1 * s1.1 * Lt s1.2 s1.2 P, padd s1.2 s1.2) (s2.1 * s2.1 * Lt s2.2 s2.2 Q, padd s2.2 s2.2) (s3.1 * s3.1 * Lt s3.2 s3.2 (padd P Q), padd s3.2 s3.2) (c * c) := by
  obtain ⟨h1, h2, h3, h4⟩ := h
  have r := la_rec K hb g h1 h1 tP tQ n1 n1 nS nP nQ nPQ
  refine ⟨g.addS _ _ h1 h1, by show padd _ _ = padd _ _; rw [h2], by show padd _ _ = padd _ _; rw [h3], ?_⟩
  show K.χ (s1.1 * s1.1 * Lt s1.2 s1.2 P) * K.χ (s2.1 * s2.1 * Lt s2.2 s2.2 Q) * K.χ (Lt P Q (padd s1.2 s1.2)) = K.χ (s3.1 * s3.1 * Lt s3.2 s3.2 (padd P Q)) * (c * c)
  rw [h2, h3, K.mul, K.mul, K.mul, K.mul, K.mul, K.mul]
  have e : K.χ s1.1 * K.χ s1.1 * K.χ (Lt s1.2 s1.2 P) * (K.χ s2.1 * K.χ s2.1 * K.χ (Lt s1.2 s1.2 Q)) * K.χ (Lt P Q (padd s1.2 s1.2)) = K.χ s1.1 * K.χ s2.1 * (K.χ s1.1 * K.χ s2.1) * (K.χ (Lt s1.2 s1.2 P) * K.χ (Lt s1.2 s1.2 Q) * K.χ (Lt P Q (padd s1.2 s1.2))) := by ac_rfl
  rw [e, r]
  have e2 : K.χ s1.1 * K.χ s2.1 * (K.χ s1.1 * K.χ s2.1) * (K.χ (Lt P Q s1.2) * K.χ (Lt P Q s1.2) * K.χ (Lt s1.2 s1.2 (padd P Q))) = (K.χ s1.1 * K.χ s2.1 * K.χ (Lt P Q s1.2)) * (K.χ s1.1 * K.χ s2.1 * K.χ (Lt P Q s1.2)) * K.χ (Lt s1.2 s1.2 (padd P Q)) := by ac_rfl
  rw [e2, h4]
  ac_rfl
/-- The loop at a sum. -/
theorem ml_sumP {A P Q : F × F} (sA : S A) (nA : A ≠ O2) (tP : T P) (tQ : T Q) (nP : P ≠ O2) (nQ : Q ≠ O2) (nPQ : padd P Q ≠ O2) (l : List Bool) (ok : okc A l A) :
    InvP K S P Q (ml A P l) (ml A Q l) (ml A (padd P Q) l) (mpw (K.χ (Lt P Q A)) l) := by
  have key : ∀ (l : List Bool) (s1 s2 s3 : F × (F × F)) (c : F), okc A l s1.2 → InvP K S P Q s1 s2 s3 c → InvP K S P Q (l.foldl (mlS A P) s1) (l.foldl (mlS A Q) s2) (l.foldl (mlS A (padd P Q)) s3) (l.foldl (mpwS (K.χ (Lt P Q A))) c) := by
    intro l
    induction l with
    | nil => intro s1 s2 s3 c _ h; exact h
    | cons x l ih =>
      intro s1 s2 s3 c ok h
      cases x with
      | false =>
        obtain ⟨o1, o2⟩ := ok
        exact ih _ _ _ _ o2 (invP_dbl K hb g tP tQ nP nQ nPQ (dbl_ne o1) o1 h)
      | true =>
        obtain ⟨o1, o2, o3⟩ := ok
        exact ih _ _ _ _ o3 (invP_add K hb g tP tQ nP nQ nPQ sA nA o1 o2 (invP_dbl K hb g tP tQ nP nQ nPQ (dbl_ne o1) o1 h))
  refine key l _ _ _ _ ok ⟨sA, rfl, rfl, ?_⟩
  show K.χ 1 * K.χ 1 * _ = K.χ 1 * _
  rw [K.one, one_mul]
/-- The loop at a negative. -/
theorem ml_negP {A P : F × F} (sA : S A) (nA : A ≠ O2) (tP : T P) (nP : P ≠ O2) (l : List Bool) (ok : okc A l A) : K.χ (ml A P l).1 * K.χ (ml A (pneg P) l).1 = 1 := by
  have key : ∀ (l : List Bool) (s1 s2 : F × (F × F)), okc A l s1.2 → S s1.2 → s2.2 = s1.2 → K.χ s1.1 * K.χ s2.1 = 1 → K.χ (l.foldl (mlS A P) s1).1 * K.χ (l.foldl (mlS A (pneg P)) s2).1 = 1 := by
    intro l
    induction l with
    | nil => intro s1 s2 _ _ _ h; exact h
    | cons x l ih =>
      intro s1 s2 ok hs h2 h
      have d : padd s1.2 s1.2 ≠ O2 → K.χ (s1.1 * s1.1 * Lt s1.2 s1.2 P) * K.χ (s2.1 * s2.1 * Lt s2.2 s2.2 (pneg P)) = 1 := by
        intro o1
        have m := la_mirror K hb g hs hs tP (dbl_ne o1) (dbl_ne o1) o1 nP
        rw [h2, K.mul, K.mul, K.mul, K.mul]
        have e : K.χ s1.1 * K.χ s1.1 * K.χ (Lt s1.2 s1.2 P) * (K.χ s2.1 * K.χ s2.1 * K.χ (Lt s1.2 s1.2 (pneg P))) = (K.χ s1.1 * K.χ s2.1) * (K.χ s1.1 * K.χ s2.1) * (K.χ (Lt s1.2 s1.2 P) * K.χ (Lt s1.2 s1.2 (pneg P))) := by ac_rfl
        rw [e, h, m, one_mul, one_mul]
      cases x with
      | false =>
        obtain ⟨o1, o2⟩ := ok
        exact ih _ _ o2 (g.addS _ _ hs hs) (by show padd _ _ = padd _ _; rw [h2]) (d o1)
      | true =>
        obtain ⟨o1, o2, o3⟩ := ok
        refine ih _ _ o3 (g.addS _ _ (g.addS _ _ hs hs) sA) (by show padd (padd _ _) _ = padd (padd _ _) _; rw [h2]) ?_
        have m := la_mirror K hb g (g.addS _ _ hs hs) sA tP o1 nA o2 nP
        have dd := d o1
        show K.χ (s1.1 * s1.1 * Lt s1.2 s1.2 P * Lt (padd s1.2 s1.2) A P) * K.χ (s2.1 * s2.1 * Lt s2.2 s2.2 (pneg P) * Lt (padd s2.2 s2.2) A (pneg P)) = 1
        rw [K.mul (s1.1 * s1.1 * Lt s1.2 s1.2 P), K.mul (s2.1 * s2.1 * Lt s2.2 s2.2 (pneg P)), h2]
        rw [h2] at dd
        generalize K.χ (s1.1 * s1.1 * Lt s1.2 s1.2 P) = u at *
        generalize K.χ (s2.1 * s2.1 * Lt s1.2 s1.2 (pneg P)) = v at *
        generalize K.χ (Lt (padd s1.2 s1.2) A P) = w at *
        generalize K.χ (Lt (padd s1.2 s1.2) A (pneg P)) = z at *
        have e : u * w * (v * z) = (u * v) * (w * z) := by ac_rfl
        rw [e, dd, m, one_mul]
  refine key l _ _ ok sA rfl ?_
  show K.χ 1 * K.χ 1 = 1
  rw [K.one, one_mul]
end
end Cr
/- Points of a curve, carried by a map of fields and a scale. No program here. -/
namespace Cr
open Rg Fd

theorem u_on {F : Type} [Rg F] (x y b u : F) : y * (u * u * u) * (y * (u * u * u)) - (x * (u * u) * (x * (u * u)) * (x * (u * u)) + b * (u * u * u * (u * u * u))) = (u * u * u * (u * u * u)) * (y * y - (x * x * x + b)) :=
  rid [x, y, b, u] ((fun (x y b u : PE) => (y * (u * u * u) * (y * (u * u * u)) - (x * (u * u) * (x * (u * u)) * (x * (u * u)) + b * (u * u * u * (u * u * u))))) (.v 0) (.v 1) (.v 2) (.v 3)) ((fun (x y b u : PE) => ((u * u * u * (u * u * u)) * (y * y - (x * x * x + b)))) (.v 0) (.v 1) (.v 2) (.v 3)) (by kernel_rfl)
theorem u_l1 {F : Type} [Rg F] (x1 y1 x2 y2 l u : F) : l * u * (x2 * (u * u) - x1 * (u * u)) - (y2 * (u * u * u) - y1 * (u * u * u)) = (u * u * u) * (l * (x2 - x1) - (y2 - y1)) :=
  rid [x1, y1, x2, y2, l, u] ((fun (x1 y1 x2 y2 l u : PE) => (l * u * (x2 * (u * u) - x1 * (u * u)) - (y2 * (u * u * u) - y1 * (u * u * u)))) (.v 0) (.v 1) (.v 2) (.v 3) (.v 4) (.v 5)) ((fun (x1 y1 x2 y2 l u : PE) => ((u * u * u) * (l * (x2 - x1) - (y2 - y1)))) (.v 0) (.v 1) (.v 2) (.v 3) (.v 4) (.v 5)) (by kernel_rfl)
theorem u_l2 {F : Type} [Rg F] (x1 y1 x2 y2 l u : F) : l * u * (y1 * (u * u * u) + y2 * (u * u * u)) - (x1 * (u * u) * (x1 * (u * u)) + x1 * (u * u) * (x2 * (u * u)) + x2 * (u * u) * (x2 * (u * u))) = (u * u * u * u) * (l * (y1 + y2) - (x1 * x1 + x1 * x2 + x2 * x2)) :=
  rid [x1, y1, x2, y2, l, u] ((fun (x1 y1 x2 y2 l u : PE) => (l * u * (y1 * (u * u * u) + y2 * (u * u * u)) - (x1 * (u * u) * (x1 * (u * u)) + x1 * (u * u) * (x2 * (u * u)) + x2 * (u * u) * (x2 * (u * u))))) (.v 0) (.v 1) (.v 2) (.v 3) (.v 4) (.v 5)) ((fun (x1 y1 x2 y2 l u : PE) => ((u * u * u * u) * (l * (y1 + y2) - (x1 * x1 + x1 * x2 + x2 * x2)))) (.v 0) (.v 1) (.v 2) (.v 3) (.v 4) (.v 5)) (by kernel_rfl)
theorem u_sx {F : Type} [Rg F] (x1 x2 l u : F) : l * u * (l * u) - x1 * (u * u) - x2 * (u * u) = (l * l - x1 - x2) * (u * u) :=
  rid [x1, x2, l, u] ((fun (x1 x2 l u : PE) => (l * u * (l * u) - x1 * (u * u) - x2 * (u * u))) (.v 0) (.v 1) (.v 2) (.v 3)) ((fun (x1 x2 l u : PE) => ((l * l - x1 - x2) * (u * u))) (.v 0) (.v 1) (.v 2) (.v 3)) (by kernel_rfl)
theorem u_sy {F : Type} [Rg F] (x1 y1 s l u : F) : -(y1 * (u * u * u) + l * u * (s * (u * u) - x1 * (u * u))) = -(y1 + l * (s - x1)) * (u * u * u) :=
  rid [x1, y1, s, l, u] ((fun (x1 y1 s l u : PE) => (-(y1 * (u * u * u) + l * u * (s * (u * u) - x1 * (u * u))))) (.v 0) (.v 1) (.v 2) (.v 3) (.v 4)) ((fun (x1 y1 s l u : PE) => (-(y1 + l * (s - x1)) * (u * u * u))) (.v 0) (.v 1) (.v 2) (.v 3) (.v 4)) (by kernel_rfl)
theorem u_ng {F : Type} [Rg F] (y u : F) : -y * (u * u * u) = -(y * (u * u * u)) :=
  rid [y, u] ((fun (y u : PE) => (-y * (u * u * u))) (.v 0) (.v 1)) ((fun (y u : PE) => (-(y * (u * u * u)))) (.v 0) (.v 1)) (by kernel_rfl)
theorem u_11 {F : Type} [Rg F] (x : F) : x * (1 * 1) = x :=
  rid [x] ((fun (x : PE) => (x * (1 * 1))) (.v 0)) ((fun (x : PE) => (x)) (.v 0)) (by kernel_rfl)
theorem u_12 {F : Type} [Rg F] (x : F) : x * (1 * 1 * 1) = x :=
  rid [x] ((fun (x : PE) => (x * (1 * 1 * 1))) (.v 0)) ((fun (x : PE) => (x)) (.v 0)) (by kernel_rfl)
theorem u_13 {F : Type} [Rg F] (x : F) : x * 1 = x :=
  rid [x] ((fun (x : PE) => (x * 1)) (.v 0)) ((fun (x : PE) => (x)) (.v 0)) (by kernel_rfl)
theorem u_b1 {F : Type} [Rg F] (b : F) : b * (1 * 1 * 1 * (1 * 1 * 1)) = b :=
  rid [b] ((fun (b : PE) => (b * (1 * 1 * 1 * (1 * 1 * 1)))) (.v 0)) ((fun (b : PE) => (b)) (.v 0)) (by kernel_rfl)

section
variable {F G : Type} [Fd F] [Fd G]
/-- A map of fields. -/
structure Hm (f : F → G) : Prop where
  add : ∀ x y, f (x + y) = f x + f y
  mul : ∀ x y, f (x * y) = f x * f y
  neg : ∀ x, f (-x) = -f x
  one : f 1 = 1
  inj : ∀ x, f x = 0 → x = 0
variable {f : F → G} (H : Hm f)
include H
theorem Hm.zero : f 0 = 0 := by
  have h := H.add 0 0
  rw [add_zero] at h
  have h2 : f 0 + f 0 = f 0 + 0 := by rw [add_zero]; exact h.symm
  exact add_left h2
theorem Hm.sub (x y : F) : f (x - y) = f x - f y := by rw [Rg.sub_def, Rg.sub_def, H.add, H.neg]
theorem Hm.eq {x y : F} (h : f x = f y) : x = y := eq_of_sub (H.inj _ (by rw [H.sub, h, sub_self]))
omit H in
def tws (f : F → G) (u : G) (A : F × F) : G × G := (f A.1 * (u * u), f A.2 * (u * u * u))
variable {u : G}
theorem tws_O : tws f u O2 = O2 := by
  show (f 0 * (u * u), f 0 * (u * u * u)) = _
  rw [H.zero, zero_mul, zero_mul]
theorem tws_neg (A : F × F) : tws f u (pneg A) = pneg (tws f u A) := by
  show (f A.1 * (u * u), f (-A.2) * (u * u * u)) = (f A.1 * (u * u), -(f A.2 * (u * u * u)))
  rw [H.neg, u_ng]
theorem tws_ne (hu : u ≠ 0) {A : F × F} (h : A ≠ O2) : tws f u A ≠ O2 := by
  intro e
  have e1 : f A.1 * (u * u) = 0 := congrArg Prod.fst e
  have e2 : f A.2 * (u * u * u) = 0 := congrArg Prod.snd e
  have n1 : A.1 = 0 := H.inj _ ((mul_eq_zero e1).resolve_right (mul_ne hu hu))
  have n2 : A.2 = 0 := H.inj _ ((mul_eq_zero e2).resolve_right (mul_ne (mul_ne hu hu) hu))
  exact h (Prod.ext n1 n2)
variable {b : F} {b' : G} (eb : b' = f b * (u * u * u * (u * u * u)))
include eb
theorem tws_on {A : F × F} (h : OnF b A) : OnF b' (tws f u A) := by
  have h1 : A.2 * A.2 = A.1 * A.1 * A.1 + b := h
  have h2 := congrArg f h1
  rw [H.mul, H.add, H.mul, H.mul] at h2
  show f A.2 * (u * u * u) * (f A.2 * (u * u * u)) = f A.1 * (u * u) * (f A.1 * (u * u)) * (f A.1 * (u * u)) + b'
  rw [eb]
  exact lc1 _ (u_on _ _ _ _) h2
theorem tws_onP {A : F × F} (h : OnP b A) : OnP b' (tws f u A) := by
  rcases h with rfl | h
  · exact .inl (tws_O H)
  · exact .inr (tws_on H eb h)
omit eb in
theorem tws_ln {A B : F × F} {l : F} (h : LnP A B l) : LnP (tws f u A) (tws f u B) (f l * u) := by
  have h1 := congrArg f h.1
  have h2 := congrArg f h.2
  rw [H.mul, H.sub, H.sub] at h1
  rw [H.mul, H.add, H.add, H.add, H.mul, H.mul, H.mul] at h2
  exact ⟨lc1 _ (u_l1 _ _ _ _ _ _) h1, lc1 _ (u_l2 _ _ _ _ _ _) h2⟩
variable (hb : b ≠ 0) (hb' : b' ≠ 0)
include hb hb'
theorem tws_add {A B : F × F} (oA : OnP b A) (oB : OnP b B) : tws f u (padd A B) = padd (tws f u A) (tws f u B) := by
  rcases oA with rfl | oA
  · rw [tws_O H, O_add, O_add]
  rcases oB with rfl | oB
  · rw [tws_O H, add_O, add_O]
  rcases ln_or oA oB with rfl | ⟨l, h⟩
  · rw [tws_neg H, add_neg_self, add_neg_self, tws_O H]
  · rw [padd_ln hb oA oB h, padd_ln hb' (tws_on H eb oA) (tws_on H eb oB) (tws_ln H h)]
    have e1 : f (sx A.1 B.1 l) * (u * u) = sx (f A.1 * (u * u)) (f B.1 * (u * u)) (f l * u) := by
      show f (l * l - A.1 - B.1) * (u * u) = f l * u * (f l * u) - f A.1 * (u * u) - f B.1 * (u * u)
      rw [H.sub, H.sub, H.mul]; exact (u_sx _ _ _ _).symm
    refine Prod.ext e1 ?_
    show f (-(A.2 + l * (sx A.1 B.1 l - A.1))) * (u * u * u) = -(f A.2 * (u * u * u) + f l * u * (sx (f A.1 * (u * u)) (f B.1 * (u * u)) (f l * u) - f A.1 * (u * u)))
    rw [← e1, H.neg, H.add, H.mul, H.sub]; exact (u_sy _ _ _ _ _).symm
theorem tws_nmul {A : F × F} (oA : OnP b A) (n : Nat) : tws f u (nmul A n) = nmul (tws f u A) n := by
  induction n with
  | zero => exact tws_O H
  | succ n ih =>
    show tws f u (padd (nmul A n) A) = padd (nmul (tws f u A) n) (tws f u A)
    rw [tws_add H eb hb hb' (nmul_on hb oA n) oA, ih]
end

section
variable {F G : Type} [Fd F] [Fd G] {f : F → G} (H : Hm f) {b : F} {b' : G} (eb : b' = f b) (hb : b ≠ 0) (hb' : b' ≠ 0)
def hmp (f : F → G) (A : F × F) : G × G := (f A.1, f A.2)
omit [Fd F] in
theorem tws_1 (A : F × F) : tws f 1 A = hmp f A := by
  show (f A.1 * (1 * 1), f A.2 * (1 * 1 * 1)) = _
  rw [u_11, u_12]; rfl
theorem hmp_neg (H : Hm f) (A : F × F) : hmp f (pneg A) = pneg (hmp f A) := by rw [← tws_1, ← tws_1, tws_neg H]
include H in
theorem hmp_O : hmp f O2 = O2 := by rw [← tws_1, tws_O H]
include H eb in
theorem hmp_on {A : F × F} (h : OnF b A) : OnF b' (hmp f A) := by
  rw [← tws_1]; exact tws_on (u := 1) H (by rw [u_b1, eb]) h
include H eb in
theorem hmp_onP {A : F × F} (h : OnP b A) : OnP b' (hmp f A) := by
  rw [← tws_1]; exact tws_onP (u := 1) H (by rw [u_b1, eb]) h
include H in
theorem hmp_ln {A B : F × F} {l : F} (h : LnP A B l) : LnP (hmp f A) (hmp f B) (f l) := by
  have := tws_ln (u := 1) H h
  rwa [tws_1, tws_1, u_13] at this
include H in
theorem hmp_lv (A : F × F) (l : F) (R : F × F) : lv (hmp f A) (f l) (hmp f R) = f (lv A l R) := by
  show f R.2 - (f A.2 + f l * (f R.1 - f A.1)) = f (R.2 - (A.2 + l * (R.1 - A.1)))
  rw [H.sub, H.add, H.mul, H.sub]
include H eb hb hb'
theorem hmp_Vt {A : F × F} (oA : OnP b A) (R : F × F) : Vt (hmp f A) (hmp f R) = f (Vt A R) := by
  rcases oA with rfl | oA
  · rw [hmp_O H, Vt_O, Vt_O, H.one]
  · rw [Vt_on (hmp_on H eb oA) hb', Vt_on oA hb, H.sub]; rfl
theorem hmp_add {A B : F × F} (oA : OnP b A) (oB : OnP b B) : hmp f (padd A B) = padd (hmp f A) (hmp f B) := by
  rw [← tws_1, ← tws_1, ← tws_1]; exact tws_add (u := 1) H (by rw [u_b1, eb]) hb hb' oA oB
theorem hmp_nmul {A : F × F} (oA : OnP b A) (n : Nat) : hmp f (nmul A n) = nmul (hmp f A) n := by
  rw [← tws_1, ← tws_1]; exact tws_nmul (u := 1) H (by rw [u_b1, eb]) hb hb' oA n
theorem hmp_Lt {A B : F × F} (oA : OnP b A) (oB : OnP b B) (R : F × F) : Lt (hmp f A) (hmp f B) (hmp f R) = f (Lt A B R) := by
  rcases oA with rfl | oA
  · rw [hmp_O H, Lt_O, Lt_O]; exact hmp_Vt H eb hb hb' oB R
  rcases oB with rfl | oB
  · rw [hmp_O H, Lt_O', Lt_O']; exact hmp_Vt H eb hb hb' (.inr oA) R
  rcases ln_or oA oB with rfl | ⟨l, h⟩
  · rw [hmp_neg H, Lt_neg, Lt_neg]; exact hmp_Vt H eb hb hb' (.inr oA) R
  · rw [Lt_ln hb' (hmp_on H eb oA) (hmp_on H eb oB) (hmp_ln H h), Lt_ln hb oA oB h, hmp_lv H]
end
end Cr
/- A line's three numbers by the powers of w. No program here. -/
namespace Cr
open Rg Fd Go.Eng
theorem line12_ww (a b c : F2) : line12 a b c = e2 a + ww * (ww * (e2 b + ww * e2 c)) := by
  have h := horner a 0 b c 0 0
  have h0 : e2 0 = (0 : F12) := rfl
  rw [h0, mul_zero, add_zero, mul_zero, add_zero, zero_add] at h
  exact h
end Cr
/- The two groups in the field of p^12; what the last power makes 1. No program here. -/
namespace Cr
open Rg Fd Go.Eng

theorem up_6 {F : Type} [Rg F] (w i : F) : w * i * (w * i) * (w * i) * (w * i * (w * i) * (w * i)) = w * (w * (w * (w * (w * w)))) * (i * i * i * (i * i * i)) :=
  rid [w, i] ((fun (w i : PE) => (w * i * (w * i) * (w * i) * (w * i * (w * i) * (w * i)))) (.v 0) (.v 1)) ((fun (w i : PE) => (w * (w * (w * (w * (w * w)))) * (i * i * i * (i * i * i)))) (.v 0) (.v 1)) (by kernel_rfl)
theorem up_2 {F : Type} [Rg F] (w i k : F) : w * i * (w * i) * k = w * (w * k) * (i * i) :=
  rid [w, i, k] ((fun (w i k : PE) => (w * i * (w * i) * k)) (.v 0) (.v 1) (.v 2)) ((fun (w i k : PE) => (w * (w * k) * (i * i))) (.v 0) (.v 1) (.v 2)) (by kernel_rfl)
theorem up_b {F : Type} [Rg F] (b x v : F) : b * x * v = b * (x * v) :=
  rid [b, x, v] ((fun (b x v : PE) => (b * x * v)) (.v 0) (.v 1) (.v 2)) ((fun (b x v : PE) => (b * (x * v))) (.v 0) (.v 1) (.v 2)) (by kernel_rfl)
theorem e2_add' (c d : F2) : e2 (c + d) = e2 c + e2 d := by rw [e2_add]; rfl
theorem e2_mul' (c d : F2) : e2 (c * d) = e2 c * e2 d := by
  rw [e2_mul]
  show _ = ((c * d, c * (0 : F2), c * (0 : F2)), c * (0 : F2), c * (0 : F2), c * (0 : F2))
  rw [mul_zero]; rfl
theorem hm_e2 : Hm e2 := ⟨e2_add', e2_mul', fun x => (e2_neg x).symm, rfl, fun _ h => congrArg (fun t : F12 => t.1.1) h⟩
def e0 (x : Fp) : F2 := (x, (0 : Fp))
theorem hm_e0 : Hm e0 := by
  refine ⟨fun x y => ?_, fun x y => ?_, fun x => ?_, rfl, fun _ h => congrArg (fun t : F2 => t.1) h⟩
  · rw [F2.add_def]; refine F2.ext rfl ?_
    show (0 : Fp) = 0 + 0
    rw [add_zero]
  · rw [F2.mul_def]; refine F2.ext ?_ ?_
    · show x * y = x * y - 0 * 0
      rw [mul_zero, sub_z]
    · show (0 : Fp) = x * 0 + 0 * y
      rw [mul_zero, zero_mul, add_zero]
  · rw [F2.neg_def]; exact F2.ext rfl neg_z.symm
theorem Hm.comp {F G E : Type} [Fd F] [Fd G] [Fd E] {f : F → G} {g : G → E} (H : Hm f) (K : Hm g) : Hm (fun x => g (f x)) :=
  ⟨fun x y => by rw [H.add, K.add], fun x y => by rw [H.mul, K.mul], fun x => by rw [H.neg, K.neg], by rw [H.one, K.one], fun x h => H.inj _ (K.inj _ h)⟩
def e1 (x : Fp) : F12 := e2 (e0 x)
theorem hm_e1 : Hm e1 := hm_e0.comp hm_e2
theorem pwn_ne {F : Type} [Fd F] {x : F} (hx : x ≠ 0) : ∀ n, pwn x n ≠ 0
  | 0 => one_ne
  | n + 1 => mul_ne (pwn_ne hx n) hx
theorem pwn_zr {F : Type} [Rg F] {n : Nat} (h : 0 < n) : pwn (0 : F) n = 0 := by
  obtain ⟨m, rfl⟩ : ∃ m, n = m + 1 := ⟨n - 1, by omega⟩
  exact mul_zero _
noncomputable def fro (p : Nat) (x : F12) : F12 := pwn x p
theorem hm_fro {p : Nat} (hp : p = fpP) : Hm (fro p) := by
  have ha : ∀ x y : F12, fro p (x + y) = fro p x + fro p y := fun x y => pwn_sum (prm_q hp) (nc_p12 hp) x y
  refine ⟨ha, fun x y => pwn_prod x y p, fun x => ?_, pwn_one p, fun x h => ?_⟩
  · have h0 : fro p (-x) + fro p x = 0 := by
      rw [← ha, Rg.neg_add]
      have hz : 0 < p := by rw [hp]; exact of_decide_eq_true (by kernel_rfl)
      exact pwn_zr hz
    rw [add_comm] at h0
    exact (neg_eq h0).symm
  · by_cases hx : x = 0
    · exact hx
    · exact absurd h (pwn_ne hx p)
theorem fro_e1 {p : Nat} (hp : p = fpP) (x : Fp) : fro p (e1 x) = e1 x := by
  show pwn (e2 (e0 x)) p = e2 (e0 x)
  rw [e2_pw, pw_f2 hp]
  show e2 (x, -(0 : Fp)) = e2 (x, 0)
  rw [neg_z]
theorem hmp_fro {p : Nat} (hp : p = fpP) (P : Fp × Fp) : hmp (fro p) (hmp e1 P) = hmp e1 P := Prod.ext (fro_e1 hp P.1) (fro_e1 hp P.2)

noncomputable def wi : F12 := inv ww
theorem ww_ne : ww ≠ 0 := fun h => absurd (congrArg (fun t : F12 => t.2.1) h) one_ne
theorem ww_wi : ww * wi = 1 := mul_inv ww ww_ne
theorem wi_ne : wi ≠ 0 := fun h => by
  have e := ww_wi
  rw [h, mul_zero] at e
  exact one_ne e.symm
theorem wi_six : e2 xi * (wi * wi * wi * (wi * wi * wi)) = 1 := by
  rw [← ww_six, ← up_6, ww_wi]; simp only [mul_one]
noncomputable def k2 : F12 := (((0 : F2), (0 : F2), inv xi), (0 : F2), (0 : F2), (0 : F2))
theorem wi_two : wi * wi = k2 := by
  have h1 : ww * (ww * k2) = 1 := by
    rw [ww_mul, ww_mul]
    show ((xi * inv xi, (0 : F2), (0 : F2)), xi * (0 : F2), (0 : F2), (0 : F2)) = _
    rw [mul_zero, mul_inv xi xi_ne]; rfl
  have h2 : ww * wi * (ww * wi) * k2 = ww * (ww * k2) * (wi * wi) := up_2 _ _ _
  rw [ww_wi, h1, mul_one, one_mul, one_mul] at h2
  exact h2.symm
/-- A vertical. -/
theorem ver_two (a c : F2) : (e2 a - e2 c * (wi * wi)).2 = 0 ∧ (e2 a - e2 c * (wi * wi)).1.2.2 = -(c * inv xi) := by
  rw [wi_two, e2_mul, F12.sub_def]
  refine ⟨?_, ?_⟩
  · show (0 : F6) - (c * (0 : F2), c * (0 : F2), c * (0 : F2)) = 0
    rw [mul_zero]; exact sub_self (0 : F6)
  · show ((e6 a) - (c * (0 : F2), c * (0 : F2), c * inv xi) : F6).2.2 = _
    rw [F6.sub_def]
    show (0 : F2) - c * inv xi = _
    rw [Rg.sub_def, zero_add]
theorem ver_ne {c : F2} (a : F2) (hc : c ≠ 0) : e2 a - e2 c * (wi * wi) ≠ 0 := fun h => by
  have h1 := (ver_two a c).2
  rw [h] at h1
  have h2 : (0 : F2) = -(c * inv xi) := h1
  have h3 : c * inv xi = 0 := by rw [← neg_neg (c * inv xi), ← h2, neg_z]
  have h4 : inv xi ≠ 0 := fun e => by
    have := mul_inv xi xi_ne
    rw [e, mul_zero] at this
    exact one_ne this.symm
  exact (mul_eq_zero h3).elim hc h4
/-- A factor of a line's number. -/
theorem fac_one (c : F2) : (e2 c * (ww * (ww * ww))).1 = 0 ∧ (e2 c * (ww * (ww * ww))).2.2.1 = c := by
  rw [ww_mul ww, ww_mul, e2_mul]
  refine ⟨?_, ?_⟩
  · show (c * (xi * (0 : F2)), c * (0 : F2), c * (0 : F2)) = (0 : F6)
    rw [mul_zero, mul_zero]; rfl
  · show c * (1 : F2) = c
    exact mul_one c

structure LastP (N p u r : Nat) : Prop where
  pp : p = fpP
  six : ∀ x : F12, x ≠ 0 → x.2 = 0 → pwn x N = 1
  odd : ∀ x : F12, x ≠ 0 → x.1 = 0 → pwn x N = 1
  ord : ∀ x : F12, x ≠ 0 → pwn (pwn x N) r = 1
  np : ∃ s, u + p = r * s
  pos : 0 < N
section
variable {N p u r : Nat} (L : LastP N p u r)
include L
theorem LastP.up {x : F12} (hx : x ≠ 0) : pwn (pwn x N) u * pwn (pwn x N) p = 1 := by
  obtain ⟨s, hs⟩ := L.np
  rw [← pwn_add, hs, pwn_mul, L.ord x hx, pwn_one]
theorem LastP.neg : pwn (-1 : F12) N = 1 := by
  refine L.six _ ?_ ?_
  · intro h
    have h1 : (1 : F12) = 0 := by rw [← neg_neg (1 : F12), h, neg_z]
    exact one_ne h1
  · rw [F12.neg_def]; exact neg_z (F := F6)
noncomputable def kil : Kill F12 := ⟨fun x => pwn x N, fun x y => pwn_prod x y N, pwn_one N, L.neg⟩
theorem kil_ne {x y : F12} (h : (kil L).χ x * y = 1) : x ≠ 0 := by
  rintro rfl
  have h1 : pwn (0 : F12) N * y = 1 := h
  rw [pwn_zr L.pos, zero_mul] at h1
  exact one_ne h1.symm
theorem kil_up {x : F12} (hx : x ≠ 0) : pwn ((kil L).χ x) u * pwn ((kil L).χ x) p = 1 := L.up hx
theorem kil_fro (x : F12) : (kil L).χ (fro p x) = pwn ((kil L).χ x) p := by
  show pwn (pwn x p) N = pwn (pwn x N) p
  rw [← pwn_mul, ← pwn_mul, Nat.mul_comm]
theorem kil_fac {c : F2} (hc : c ≠ 0) : (kil L).χ (e2 c * (ww * (ww * ww))) = 1 := by
  refine L.odd _ ?_ (fac_one c).1
  intro h
  have h1 := (fac_one c).2
  rw [h] at h1
  exact hc h1.symm
variable {b1 : Fp} {b2 : F2} (hb1 : b1 ≠ 0) (hb2 : b2 ≠ 0) (hns : ∀ y : F2, y * y = b2 → False) (he : b2 = e0 b1 * xi)
omit L in
theorem bb_2 (he : b2 = e0 b1 * xi) : e1 b1 = e2 b2 * (wi * wi * wi * (wi * wi * wi)) := by
  rw [he, e2_mul', up_b, wi_six, mul_one]; rfl
omit L in
theorem bb_ne (hb1 : b1 ≠ 0) : e1 b1 ≠ 0 := fun h => hb1 (hm_e1.inj _ h)
/-- The places of the first group. -/
def TT (b1 : Fp) (R : F12 × F12) : Prop := ∃ P, OnP b1 P ∧ R = hmp e1 P
/-- The places of the second group, untwisted. -/
def SS (b2 : F2) (A : F12 × F12) : Prop := ∃ Q, OnP b2 Q ∧ A = tws e2 wi Q
include hb1 hb2 hns he
theorem two12 : Two (e1 b1) (kil L) (SS b2) (TT b1) where
  onS := by
    rintro _ ⟨Q, o, rfl⟩
    exact tws_onP hm_e2 (bb_2 he) o
  addS := by
    rintro _ _ ⟨Q, o, rfl⟩ ⟨Q', o', rfl⟩
    exact ⟨padd Q Q', padd_on hb2 o o', (tws_add hm_e2 (bb_2 he) hb2 (bb_ne hb1) o o').symm⟩
  onT := by
    rintro _ ⟨P, o, rfl⟩
    exact hmp_onP hm_e1 rfl o
  addT := by
    rintro _ _ ⟨P, o, rfl⟩ ⟨P', o', rfl⟩
    exact ⟨padd P P', padd_on hb1 o o', (hmp_add hm_e1 rfl hb1 (bb_ne hb1) o o').symm⟩
  vt := by
    rintro _ _ ⟨Q, o, rfl⟩ ⟨P, o', rfl⟩ nA nR
    have oQ : OnF b2 Q := o.resolve_left (fun e => nA (by rw [e]; exact tws_O hm_e2))
    have hq : Q.1 ≠ 0 := fun e => by
      have h : Q.2 * Q.2 = Q.1 * Q.1 * Q.1 + b2 := oQ
      rw [e, mul_zero, zero_add] at h
      exact hns _ h
    show (kil L).χ (e2 (e0 P.1) - e2 Q.1 * (wi * wi)) = 1
    exact L.six _ (ver_ne _ hq) (ver_two _ _).1
theorem grp12 {P : Fp × Fp} (oP : OnP b1 P) (nP : P ≠ O2) : Grp (e1 b1) (kil L) (hmp e1 P) (SS b2) where
  on := (two12 L hb1 hb2 hns he).onS
  add := (two12 L hb1 hb2 hns he).addS
  vt := by
    intro A sA
    have g := two12 L hb1 hb2 hns he
    by_cases h : A = O2
    · rw [h, Vt_O, (kil L).one]
    · have oA := (g.onS A sA).resolve_left h
      rw [Vt_on oA (bb_ne hb1)]
      refine g.vt A (hmp e1 P) sA ⟨P, oP, rfl⟩ h ?_
      rw [← tws_1]
      exact tws_ne hm_e1 one_ne nP
end
end Cr
/- The value of two points: additive on either side. No program here. -/
namespace Cr
open Rg Fd Go.Eng

def bst (n : Nat) : Bool → Nat
  | false => n + n
  | true => n + n + 1
def bval (l : List Bool) (m : Nat) : Nat := l.foldl bst m
theorem bval_le (l : List Bool) : ∀ m, m ≤ bval l m := by
  induction l with
  | nil => exact fun m => Nat.le_refl m
  | cons x l ih =>
    intro m
    refine Nat.le_trans ?_ (ih (bst m x))
    cases x
    · show m ≤ m + m; omega
    · show m ≤ m + m + 1; omega
section
variable {F : Type} [Fd F] {b : F}
theorem pw_val (x : F) (l : List Bool) : ∀ m, l.foldl (mpwS x) (pwn x m) = pwn x (bval l m) := by
  induction l with
  | nil => exact fun m => rfl
  | cons y l ih =>
    intro m
    have e : mpwS x (pwn x m) y = pwn x (bst m y) := by
      cases y
      · show pwn x m * pwn x m = pwn x (m + m); rw [pwn_add]
      · show pwn x m * pwn x m * x = pwn x (m + m) * x; rw [pwn_add]
    show l.foldl (mpwS x) (mpwS x (pwn x m) y) = pwn x (bval l (bst m y))
    rw [e]; exact ih _
theorem pw_eq (x : F) (l : List Bool) : mpw x l = pwn x (bval l 1) := by
  rw [← pw_val]
  show l.foldl (mpwS x) x = l.foldl (mpwS x) (1 * x)
  rw [one_mul]
variable (hb : b ≠ 0)
include hb
theorem ml_val {Q : F × F} (oQ : OnP b Q) (R : F × F) (l : List Bool) : ∀ f m, (l.foldl (mlS Q R) (f, nmul Q m)).2 = nmul Q (bval l m) := by
  induction l with
  | nil => exact fun f m => rfl
  | cons y l ih =>
    intro f m
    obtain ⟨g, hg⟩ : ∃ g, mlS Q R (f, nmul Q m) y = (g, nmul Q (bst m y)) := by
      cases y
      · refine ⟨_, Prod.ext rfl ?_⟩
        show padd (nmul Q m) (nmul Q m) = nmul Q (m + m)
        rw [nmul_add hb oQ]
      · refine ⟨_, Prod.ext rfl ?_⟩
        show padd (padd (nmul Q m) (nmul Q m)) Q = padd (nmul Q (m + m)) Q
        rw [nmul_add hb oQ]
    show (l.foldl (mlS Q R) (mlS Q R (f, nmul Q m) y)).2 = nmul Q (bval l (bst m y))
    rw [hg]; exact ih _ _
theorem ml_pnt {Q : F × F} (oQ : OnP b Q) (R : F × F) (l : List Bool) : (ml Q R l).2 = nmul Q (bval l 1) := by
  rw [← ml_val hb oQ R l 1 1, nmul_one]; rfl
theorem okc_val {Q : F × F} (oQ : OnP b Q) (l : List Bool) : ∀ m, 0 < m → (∀ k, 0 < k → k ≤ bval l m → nmul Q k ≠ O2) → okc Q l (nmul Q m) := by
  induction l with
  | nil => exact fun m _ _ => trivial
  | cons y l ih =>
    intro m hm hk
    have hle := bval_le l (bst m y)
    have hk : ∀ k, 0 < k → k ≤ bval l (bst m y) → nmul Q k ≠ O2 := hk
    cases y
    · have hle : m + m ≤ bval l (bst m false) := hle
      refine ⟨?_, ?_⟩
      · rw [← nmul_add hb oQ]; exact hk _ (by omega) hle
      · rw [← nmul_add hb oQ]; exact ih (m + m) (by omega) hk
    · have hle : m + m + 1 ≤ bval l (bst m true) := hle
      refine ⟨?_, ?_, ?_⟩
      · rw [← nmul_add hb oQ]; exact hk _ (by omega) (by omega)
      · rw [← nmul_add hb oQ]; exact hk (m + m + 1) (by omega) hle
      · rw [← nmul_add hb oQ]; exact ih (m + m + 1) (by omega) hk
omit hb in
theorem ml_O (R : F × F) (l : List Bool) : ml O2 R l = (1, O2) := by
  have key : ∀ l : List Bool, l.foldl (mlS O2 R) ((1 : F), O2) = (1, O2) := by
    intro l
    induction l with
    | nil => rfl
    | cons y l ih =>
      have e : mlS O2 R ((1 : F), O2) y = (1, O2) := by
        cases y
        · show ((1 : F) * 1 * Lt O2 O2 R, padd O2 O2) = _
          rw [Lt_O, Vt_O, one_mul, one_mul, O_add]
        · show ((1 : F) * 1 * Lt O2 O2 R * Lt (padd O2 O2) O2 R, padd (padd O2 O2) O2) = _
          rw [O_add, Lt_O, Vt_O, one_mul, one_mul, one_mul, O_add]
      show l.foldl (mlS O2 R) (mlS O2 R (1, O2) y) = _
      rw [e]; exact ih
  exact key l
end

section
variable {N p u r : Nat} (L : LastP N p u r) {b1 : Fp} {b2 : F2} (hb1 : b1 ≠ 0) (hb2 : b2 ≠ 0) (hns : ∀ y : F2, y * y = b2 → False) (he : b2 = e0 b1 * xi)
/-- A point of the second group: its order, and what the power p of its places is. -/
structure GQ (p u r : Nat) (b2 : F2) (Q : F2 × F2) : Prop where
  on : OnP b2 Q
  fro : hmp (fro p) (tws e2 wi Q) = pneg (tws e2 wi (nmul Q u))
  ord : nmul Q r = O2
  small : Q = O2 ∨ ∀ k, 0 < k → k ≤ u → nmul Q k ≠ O2
/-- The loop at two points, taken to the last power. -/
noncomputable def ev0 (L : LastP N p u r) (bl : List Bool) (P : Fp × Fp) (Q : F2 × F2) : F12 := (kil L).χ (ml (tws e2 wi Q) (hmp e1 P) bl).1
include hb1 hb2 hns he
theorem up_lt {P : Fp × Fp} (oP : OnP b1 P) (nP : P ≠ O2) {A B : F2 × F2} (hA : GQ p u r b2 A) (hB : GQ p u r b2 B) :
    (kil L).χ (Lt (tws e2 wi (nmul A u)) (tws e2 wi (nmul B u)) (hmp e1 P)) = pwn ((kil L).χ (Lt (tws e2 wi A) (tws e2 wi B) (hmp e1 P))) u ∧ (kil L).χ (Lt (tws e2 wi A) (tws e2 wi B) (hmp e1 P)) ≠ 0 := by
  have g := grp12 L hb1 hb2 hns he oP nP
  have hB12 := bb_ne hb1
  have oR : OnF (e1 b1) (hmp e1 P) := hmp_on hm_e1 rfl (oP.resolve_left nP)
  have sA : SS b2 (tws e2 wi A) := ⟨A, hA.on, rfl⟩
  have sB : SS b2 (tws e2 wi B) := ⟨B, hB.on, rfl⟩
  have sA' : SS b2 (tws e2 wi (nmul A u)) := ⟨_, nmul_on hb2 hA.on u, rfl⟩
  have sB' : SS b2 (tws e2 wi (nmul B u)) := ⟨_, nmul_on hb2 hB.on u, rfl⟩
  have h1 := la_neg (kil L) hB12 oR g sA sB
  have h2 := la_neg (kil L) hB12 oR g sA' sB'
  rw [← hA.fro, ← hB.fro] at h2
  have hf := hmp_Lt (f := fro p) (b' := e1 b1) (hm_fro L.pp) (fro_e1 L.pp b1).symm hB12 hB12 (g.on _ sA) (g.on _ sB) (hmp e1 P)
  rw [hmp_fro L.pp] at hf
  rw [hf, kil_fro] at h2
  have n0 : Lt (tws e2 wi A) (tws e2 wi B) (hmp e1 P) ≠ 0 := kil_ne L h1
  have h3 := kil_up L n0
  obtain ⟨c, hc⟩ : ∃ c, c = (kil L).χ (Lt (tws e2 wi A) (tws e2 wi B) (hmp e1 P)) := ⟨_, rfl⟩
  obtain ⟨d, hd⟩ : ∃ d, d = (kil L).χ (Lt (tws e2 wi (nmul A u)) (tws e2 wi (nmul B u)) (hmp e1 P)) := ⟨_, rfl⟩
  rw [← hc] at h1 h2 h3 ⊢
  rw [← hd] at h2 ⊢
  refine ⟨?_, ?_⟩
  · have h4 : d * (pwn c u * pwn c p) = pwn c u * (d * pwn c p) := by rw [← mul_assoc, mul_comm d, mul_assoc]
    rw [h3, h2, mul_one, mul_one] at h4
    exact h4
  · rintro rfl
    rw [zero_mul] at h1
    exact one_ne h1.symm
variable {bl : List Bool} (hbl : bval bl 1 = u)
include hbl
/-- Sums in the second place. -/
theorem ev0_Q {P : Fp × Fp} (oP : OnP b1 P) (nP : P ≠ O2) {A B : F2 × F2} (hA : GQ p u r b2 A) (hB : GQ p u r b2 B) : ev0 L bl P (padd A B) = ev0 L bl P A * ev0 L bl P B := by
  have g := grp12 L hb1 hb2 hns he oP nP
  have hB12 := bb_ne hb1
  have oR : OnF (e1 b1) (hmp e1 P) := hmp_on hm_e1 rfl (oP.resolve_left nP)
  have sA : SS b2 (tws e2 wi A) := ⟨A, hA.on, rfl⟩
  have sB : SS b2 (tws e2 wi B) := ⟨B, hB.on, rfl⟩
  obtain ⟨_, _, _, h⟩ := ml_sumQ (kil L) hB12 oR g sA sB bl
  obtain ⟨k, n0⟩ := up_lt L hb1 hb2 hns he oP nP hA hB
  rw [ml_pnt hB12 (g.on _ sA), ml_pnt hB12 (g.on _ sB), hbl, ← tws_nmul hm_e2 (bb_2 he) hb2 hB12 hA.on, ← tws_nmul hm_e2 (bb_2 he) hb2 hB12 hB.on, k, pw_eq, hbl, ← tws_add hm_e2 (bb_2 he) hb2 hB12 hA.on hB.on] at h
  have n1 := pwn_ne n0 u
  rw [mul_comm, mul_comm ((kil L).χ _ * (kil L).χ _)] at h
  exact mul_left n1 h
omit hb1 hb2 hns he hbl in
theorem ev0_O (P : Fp × Fp) : ev0 L bl P O2 = 1 := by
  rw [ev0, tws_O hm_e2, ml_O]; exact (kil L).one
omit hns in
theorem okc_12 {A : F2 × F2} (hA : GQ p u r b2 A) (nA : A ≠ O2) : okc (tws e2 wi A) bl (tws e2 wi A) := by
  have hB12 := bb_ne hb1
  have h := okc_val hB12 (tws_onP hm_e2 (bb_2 he) hA.on) bl 1 Nat.one_pos
  rw [nmul_one] at h
  refine h fun k h0 h1 => ?_
  rw [← tws_nmul hm_e2 (bb_2 he) hb2 hB12 hA.on]
  rw [hbl] at h1
  exact tws_ne hm_e2 wi_ne ((hA.small.resolve_left nA) k h0 h1)
/-- Sums in the first place. -/
theorem ev0_P {P P' : Fp × Fp} (oP : OnP b1 P) (oP' : OnP b1 P') (nP : P ≠ O2) (nP' : P' ≠ O2) (nS : padd P P' ≠ O2) {A : F2 × F2} (hA : GQ p u r b2 A) (nA : A ≠ O2) (hu : 0 < u) : ev0 L bl (padd P P') A = ev0 L bl P A * ev0 L bl P' A := by
  have g := two12 L hb1 hb2 hns he
  have hB12 := bb_ne hb1
  have sA : SS b2 (tws e2 wi A) := ⟨A, hA.on, rfl⟩
  have sU : SS b2 (tws e2 wi (nmul A u)) := ⟨_, nmul_on hb2 hA.on u, rfl⟩
  have nA' := tws_ne hm_e2 wi_ne nA
  have nU : tws e2 wi (nmul A u) ≠ O2 := tws_ne hm_e2 wi_ne ((hA.small.resolve_left nA) u hu (Nat.le_refl u))
  have tP : TT b1 (hmp e1 P) := ⟨P, oP, rfl⟩
  have tP' : TT b1 (hmp e1 P') := ⟨P', oP', rfl⟩
  have ne1 : ∀ {P : Fp × Fp}, P ≠ O2 → hmp e1 P ≠ O2 := fun h => by rw [← tws_1]; exact tws_ne hm_e1 one_ne h
  have eS : hmp e1 (padd P P') = padd (hmp e1 P) (hmp e1 P') := hmp_add hm_e1 rfl hb1 hB12 oP oP'
  have nS' : padd (hmp e1 P) (hmp e1 P') ≠ O2 := by rw [← eS]; exact ne1 nS
  obtain ⟨_, _, _, h⟩ := ml_sumP (kil L) hB12 g sA nA' tP tP' (ne1 nP) (ne1 nP') nS' bl (okc_12 hb1 hb2 he hbl hA nA)
  have g' : Two (e1 b1) (kil L) (TT b1) (SS b2) := ⟨g.onT, g.addT, g.onS, g.addS, fun X Y hX hY nX nY => g.vt' (kil L) hY hX nY nX⟩
  have m1 := la_mirror (kil L) hB12 g' tP tP' sA (ne1 nP) (ne1 nP') nS' nA'
  have m2 := la_mirror (kil L) hB12 g' tP tP' sU (ne1 nP) (ne1 nP') nS' nU
  have hf := hmp_Lt (f := fro p) (b' := e1 b1) (hm_fro L.pp) (fro_e1 L.pp b1).symm hB12 hB12 (g.onT _ tP) (g.onT _ tP') (tws e2 wi A)
  rw [hmp_fro L.pp, hmp_fro L.pp, hA.fro] at hf
  rw [hf, kil_fro] at m2
  have n0 := kil_ne L m1
  have h3 := kil_up L n0
  rw [ml_pnt hB12 (g.onS _ sA), hbl, ← tws_nmul hm_e2 (bb_2 he) hb2 hB12 hA.on, pw_eq, hbl, ← eS] at h
  obtain ⟨c, hc⟩ : ∃ c, c = (kil L).χ (Lt (hmp e1 P) (hmp e1 P') (tws e2 wi A)) := ⟨_, rfl⟩
  obtain ⟨d, hd⟩ : ∃ d, d = (kil L).χ (Lt (hmp e1 P) (hmp e1 P') (tws e2 wi (nmul A u))) := ⟨_, rfl⟩
  rw [← hc] at m1 m2 h3 h
  rw [← hd] at m2 h
  have k : d = pwn c u := by
    have h4 : d * (pwn c u * pwn c p) = pwn c u * (d * pwn c p) := by rw [← mul_assoc, mul_comm d, mul_assoc]
    rw [h3, m2, mul_one, mul_one] at h4
    exact h4
  have n1 : c ≠ 0 := by
    rintro rfl
    rw [zero_mul] at m1
    exact one_ne m1.symm
  rw [k, mul_comm, mul_comm ((kil L).χ (ml _ (hmp e1 (padd P P')) bl).1)] at h
  exact (mul_left (pwn_ne n1 u) h).symm
theorem ev0_neg {P : Fp × Fp} (oP : OnP b1 P) (nP : P ≠ O2) {A : F2 × F2} (hA : GQ p u r b2 A) (nA : A ≠ O2) : ev0 L bl P A * ev0 L bl (pneg P) A = 1 := by
  have g := two12 L hb1 hb2 hns he
  have hB12 := bb_ne hb1
  have h := ml_negP (kil L) hB12 g (A := tws e2 wi A) (P := hmp e1 P) ⟨A, hA.on, rfl⟩ (tws_ne hm_e2 wi_ne nA) ⟨P, oP, rfl⟩ (by rw [← tws_1]; exact tws_ne hm_e1 one_ne nP) bl (okc_12 hb1 hb2 he hbl hA nA)
  rw [← hmp_neg hm_e1] at h
  exact h
omit hb1 hb2 hns he hbl in
/-- The value of two points. -/
noncomputable def ev (L : LastP N p u r) (bl : List Bool) (P : Fp × Fp) (Q : F2 × F2) : F12 := if P = O2 then 1 else ev0 L bl P Q
theorem ev_addQ {P : Fp × Fp} (oP : OnP b1 P) {A B : F2 × F2} (hA : GQ p u r b2 A) (hB : GQ p u r b2 B) : ev L bl P (padd A B) = ev L bl P A * ev L bl P B := by
  unfold ev
  split
  · rw [mul_one]
  · rename_i h; exact ev0_Q L hb1 hb2 hns he hbl oP h hA hB
omit hb1 hb2 hns he hbl in
theorem ev_OP (Q : F2 × F2) : ev L bl O2 Q = 1 := by unfold ev; rw [if_pos rfl]
omit hb1 hb2 hns he hbl in
theorem ev_OQ (P : Fp × Fp) : ev L bl P O2 = 1 := by
  unfold ev
  split
  · rfl
  · exact ev0_O L P
theorem ev_addP {P P' : Fp × Fp} (oP : OnP b1 P) (oP' : OnP b1 P') {A : F2 × F2} (hA : GQ p u r b2 A) (hu : 0 < u) : ev L bl (padd P P') A = ev L bl P A * ev L bl P' A := by
  by_cases nA : A = O2
  · rw [nA, ev_OQ L, ev_OQ L, ev_OQ L, mul_one]
  by_cases nP : P = O2
  · rw [nP, O_add, ev_OP, one_mul]
  by_cases nP' : P' = O2
  · rw [nP', add_O, ev_OP, mul_one]
  by_cases nS : padd P P' = O2
  · have e : P' = pneg P := by
      have h := cancel hb1 oP oP'
      rw [nS, add_O] at h
      exact h.symm
    rw [nS, ev_OP]
    unfold ev
    rw [if_neg nP, if_neg nP', e]
    exact (ev0_neg L hb1 hb2 hns he hbl oP nP hA nA).symm
  · unfold ev
    rw [if_neg nS, if_neg nP, if_neg nP']
    exact ev0_P L hb1 hb2 hns he hbl oP oP' nP nP' nS hA nA hu
include L in
/-- Not nought on the way. -/
theorem ev_ne {P : Fp × Fp} (oP : OnP b1 P) (nP : P ≠ O2) {A : F2 × F2} (hA : GQ p u r b2 A) (nA : A ≠ O2) : (ml (tws e2 wi A) (hmp e1 P) bl).1 ≠ 0 := kil_ne L (ev0_neg L hb1 hb2 hns he hbl oP nP hA nA)
theorem ev_r {P : Fp × Fp} (oP : OnP b1 P) {A : F2 × F2} (hA : GQ p u r b2 A) : pwn (ev L bl P A) r = 1 := by
  by_cases nA : A = O2
  · rw [nA, ev_OQ L, pwn_one]
  unfold ev
  split
  · exact pwn_one r
  · rename_i nP; exact L.ord _ (ev_ne L hb1 hb2 hns he hbl oP nP hA nA)
theorem ev_mulP {P : Fp × Fp} (oP : OnP b1 P) {A : F2 × F2} (hA : GQ p u r b2 A) (hu : 0 < u) : ∀ n, ev L bl (nmul P n) A = pwn (ev L bl P A) n
  | 0 => ev_OP L A
  | n + 1 => by
    show ev L bl (padd (nmul P n) P) A = pwn (ev L bl P A) n * ev L bl P A
    rw [ev_addP L hb1 hb2 hns he hbl (nmul_on hb1 oP n) oP hA hu, ev_mulP oP hA hu n]
end
end Cr
/- pairing: the loop of one pair, against lines laid over one another. -/
namespace Cr
open Rg
theorem tl_a {F : Type} [Rg F] (x y z l : F) : (x * (z * z) * (x * (z * z)) + x * (z * z) * (x * (z * z)) + x * (z * z) * (x * (z * z))) * (x * (z * z)) - (y * (z * (z * z)) * (y * (z * (z * z))) + y * (z * (z * z)) * (y * (z * (z * z)))) - (y * (z * (z * z)) * z + y * (z * (z * z)) * z) * (z * z) * (l * x - y) = (-(z * z * z * z * z * z * x)) * (l * (y + y) - (x * x + x * x + x * x)) :=
  rid [x, y, z, l] ((fun (x y z l : PE) => ((x * (z * z) * (x * (z * z)) + x * (z * z) * (x * (z * z)) + x * (z * z) * (x * (z * z))) * (x * (z * z)) - (y * (z * (z * z)) * (y * (z * (z * z))) + y * (z * (z * z)) * (y * (z * (z * z)))) - (y * (z * (z * z)) * z + y * (z * (z * z)) * z) * (z * z) * (l * x - y))) (.v 0) (.v 1) (.v 2) (.v 3)) ((fun (x y z l : PE) => ((-(z * z * z * z * z * z * x)) * (l * (y + y) - (x * x + x * x + x * x)))) (.v 0) (.v 1) (.v 2) (.v 3)) (by kernel_rfl)
theorem tl_b {F : Type} [Rg F] (x y z l : F) : (x * (z * z) * (x * (z * z)) + x * (z * z) * (x * (z * z)) + x * (z * z) * (x * (z * z))) * (z * z) - (y * (z * (z * z)) * z + y * (z * (z * z)) * z) * (z * z) * l = (-(z * z * z * z * z * z)) * (l * (y + y) - (x * x + x * x + x * x)) :=
  rid [x, y, z, l] ((fun (x y z l : PE) => ((x * (z * z) * (x * (z * z)) + x * (z * z) * (x * (z * z)) + x * (z * z) * (x * (z * z))) * (z * z) - (y * (z * (z * z)) * z + y * (z * (z * z)) * z) * (z * z) * l)) (.v 0) (.v 1) (.v 2) (.v 3)) ((fun (x y z l : PE) => ((-(z * z * z * z * z * z)) * (l * (y + y) - (x * x + x * x + x * x)))) (.v 0) (.v 1) (.v 2) (.v 3)) (by kernel_rfl)
theorem cl_b {F : Type} [Rg F] (x y z u v l : F) : v * (z * z * z) - y * (z * (z * z)) - z * (u * (z * z) - x * (z * z)) * l = (-(z * z * z)) * (l * (u - x) - (v - y)) :=
  rid [x, y, z, u, v, l] ((fun (x y z u v l : PE) => (v * (z * z * z) - y * (z * (z * z)) - z * (u * (z * z) - x * (z * z)) * l)) (.v 0) (.v 1) (.v 2) (.v 3) (.v 4) (.v 5)) ((fun (x y z u v l : PE) => ((-(z * z * z)) * (l * (u - x) - (v - y)))) (.v 0) (.v 1) (.v 2) (.v 3) (.v 4) (.v 5)) (by kernel_rfl)
theorem cl_a {F : Type} [Rg F] (d l u v : F) : d * l * u - d * v = d * (l * u - v) :=
  rid [d, l, u, v] ((fun (d l u v : PE) => (d * l * u - d * v)) (.v 0) (.v 1) (.v 2) (.v 3)) ((fun (d l u v : PE) => (d * (l * u - v))) (.v 0) (.v 1) (.v 2) (.v 3)) (by kernel_rfl)
theorem cl_w {F : Type} [Rg F] (x u z : F) : u * (z * z) - x * (z * z) = (u - x) * (z * z) :=
  rid [x, u, z] ((fun (x u z : PE) => (u * (z * z) - x * (z * z))) (.v 0) (.v 1) (.v 2)) ((fun (x u z : PE) => ((u - x) * (z * z))) (.v 0) (.v 1) (.v 2)) (by kernel_rfl)
theorem tj_x {F : Type} [Rg F] (x y s : F) : s * s - (x * (y * y) + x * (y * y) + (x * (y * y) + x * (y * y)) + (x * (y * y) + x * (y * y) + (x * (y * y) + x * (y * y)))) = s * s - (x * (y * y) + x * (y * y) + (x * (y * y) + x * (y * y))) - (x * (y * y) + x * (y * y) + (x * (y * y) + x * (y * y))) :=
  rid [x, y, s] ((fun (x y s : PE) => (s * s - (x * (y * y) + x * (y * y) + (x * (y * y) + x * (y * y)) + (x * (y * y) + x * (y * y) + (x * (y * y) + x * (y * y)))))) (.v 0) (.v 1) (.v 2)) ((fun (x y s : PE) => (s * s - (x * (y * y) + x * (y * y) + (x * (y * y) + x * (y * y))) - (x * (y * y) + x * (y * y) + (x * (y * y) + x * (y * y))))) (.v 0) (.v 1) (.v 2)) (by kernel_rfl)
theorem tj_y {F : Type} [Rg F] (y s f x : F) : s * (f - x) - (y * y * (y * y) + y * y * (y * y) + (y * y * (y * y) + y * y * (y * y)) + (y * y * (y * y) + y * y * (y * y) + (y * y * (y * y) + y * y * (y * y)))) = s * (f - x) - (y * y + y * y) * (y * y + y * y) - (y * y + y * y) * (y * y + y * y) :=
  rid [y, s, f, x] ((fun (y s f x : PE) => (s * (f - x) - (y * y * (y * y) + y * y * (y * y) + (y * y * (y * y) + y * y * (y * y)) + (y * y * (y * y) + y * y * (y * y) + (y * y * (y * y) + y * y * (y * y)))))) (.v 0) (.v 1) (.v 2) (.v 3)) ((fun (y s f x : PE) => (s * (f - x) - (y * y + y * y) * (y * y + y * y) - (y * y + y * y) * (y * y + y * y))) (.v 0) (.v 1) (.v 2) (.v 3)) (by kernel_rfl)
theorem pj_w {F : Type} [Rg F] (q x z : F) : q * (z * z) - x * (1 * 1) = q * (z * z) - x :=
  rid [q, x, z] ((fun (q x z : PE) => (q * (z * z) - x * (1 * 1))) (.v 0) (.v 1) (.v 2)) ((fun (q x z : PE) => (q * (z * z) - x)) (.v 0) (.v 1) (.v 2)) (by kernel_rfl)
theorem pj_h {F : Type} [Rg F] (q y z : F) : q * (z * z) * z - y * (1 * 1) * 1 = q * (z * z * z) - y :=
  rid [q, y, z] ((fun (q y z : PE) => (q * (z * z) * z - y * (1 * 1) * 1)) (.v 0) (.v 1) (.v 2)) ((fun (q y z : PE) => (q * (z * z * z) - y)) (.v 0) (.v 1) (.v 2)) (by kernel_rfl)
theorem pj_x {F : Type} [Rg F] (h w x : F) : h * h - w * w * w - x * (1 * 1) * (w * w) - x * (1 * 1) * (w * w) = h * h - w * w * w - (x * (w * w) + x * (w * w)) :=
  rid [h, w, x] ((fun (h w x : PE) => (h * h - w * w * w - x * (1 * 1) * (w * w) - x * (1 * 1) * (w * w))) (.v 0) (.v 1) (.v 2)) ((fun (h w x : PE) => (h * h - w * w * w - (x * (w * w) + x * (w * w)))) (.v 0) (.v 1) (.v 2)) (by kernel_rfl)
theorem pj_y {F : Type} [Rg F] (h w x y t : F) : h * (x * (1 * 1) * (w * w) - t) - y * (1 * 1) * 1 * (w * w * w) = h * (x * (w * w) - t) - y * (w * w * w) :=
  rid [h, w, x, y, t] ((fun (h w x y t : PE) => (h * (x * (1 * 1) * (w * w) - t) - y * (1 * 1) * 1 * (w * w * w))) (.v 0) (.v 1) (.v 2) (.v 3) (.v 4)) ((fun (h w x y t : PE) => (h * (x * (w * w) - t) - y * (w * w * w))) (.v 0) (.v 1) (.v 2) (.v 3) (.v 4)) (by kernel_rfl)
theorem pj_z {F : Type} [Rg F] (z w : F) : z * 1 * w = z * w :=
  rid [z, w] ((fun (z w : PE) => (z * 1 * w)) (.v 0) (.v 1)) ((fun (z w : PE) => (z * w)) (.v 0) (.v 1)) (by kernel_rfl)
theorem up_l1 {F : Type} [Rg F] (D w i y l px py x : F) : D * (w * (w * w)) * (py - (y * (i * i * i) + l * i * (px - x * (i * i)))) = D * py * (w * w * w) - D * y * (w * i * (w * i) * (w * i)) - D * l * (w * i) * (w * w) * px + D * l * x * (w * i * (w * i) * (w * i)) :=
  rid [D, w, i, y, l, px, py, x] ((fun (D w i y l px py x : PE) => (D * (w * (w * w)) * (py - (y * (i * i * i) + l * i * (px - x * (i * i)))))) (.v 0) (.v 1) (.v 2) (.v 3) (.v 4) (.v 5) (.v 6) (.v 7)) ((fun (D w i y l px py x : PE) => (D * py * (w * w * w) - D * y * (w * i * (w * i) * (w * i)) - D * l * (w * i) * (w * w) * px + D * l * x * (w * i * (w * i) * (w * i)))) (.v 0) (.v 1) (.v 2) (.v 3) (.v 4) (.v 5) (.v 6) (.v 7)) (by kernel_rfl)
theorem up_l2 {F : Type} [Rg F] (D w y l px py x : F) : D * (l * x - y) + w * (w * (-(D * l * px) + w * (D * py))) = D * py * (w * w * w) - D * y * (1 * 1 * 1) - D * l * 1 * (w * w) * px + D * l * x * (1 * 1 * 1) :=
  rid [D, w, y, l, px, py, x] ((fun (D w y l px py x : PE) => (D * (l * x - y) + w * (w * (-(D * l * px) + w * (D * py))))) (.v 0) (.v 1) (.v 2) (.v 3) (.v 4) (.v 5) (.v 6)) ((fun (D w y l px py x : PE) => (D * py * (w * w * w) - D * y * (1 * 1 * 1) - D * l * 1 * (w * w) * px + D * l * x * (1 * 1 * 1))) (.v 0) (.v 1) (.v 2) (.v 3) (.v 4) (.v 5) (.v 6)) (by kernel_rfl)
theorem pm_1 {F : Type} [Rg F] (a b c d : F) : a * b * (c * d) = a * c * (b * d) :=
  rid [a, b, c, d] ((fun (a b c d : PE) => (a * b * (c * d))) (.v 0) (.v 1) (.v 2) (.v 3)) ((fun (a b c d : PE) => (a * c * (b * d))) (.v 0) (.v 1) (.v 2) (.v 3)) (by kernel_rfl)
theorem pm_2 {F : Type} [Rg F] (f a b : F) : f * a * b = f * (a * b) :=
  rid [f, a, b] ((fun (f a b : PE) => (f * a * b)) (.v 0) (.v 1) (.v 2)) ((fun (f a b : PE) => (f * (a * b))) (.v 0) (.v 1) (.v 2)) (by kernel_rfl)
end Cr
namespace Go.Proofs.YtbfimfdhmggieaaGreat.pairing
set_option maxRecDepth 100000
open Go Go.Eng Go.RowKit Cr Go.Proofs.YtbfimfdhmggieaaGreat Go.Proofs.YtbfimfdhmggieaaGreat.fp2 Go.Proofs.YtbfimfdhmggieaaGreat.tower

theorem sk_e0 (x : F2) (k : Fp) : sk x k = x * e0 k := by
  rw [F2.mul_def]
  refine F2.ext ?_ ?_
  · show x.1 * k = x.1 * k - x.2 * 0
    rw [Rg.mul_zero, sub_z]
  · show x.2 * k = x.1 * 0 + x.2 * k
    rw [Rg.mul_zero, Rg.zero_add]
/-- A line's number is its value at untwisted places, but for a factor. -/
theorem ln12 (D l x y : F2) (P : Fp × Fp) : line12 (D * (l * x - y)) (-(sk (D * l) P.1)) (sk D P.2) = e2 D * (ww * (ww * ww)) * lv (tws e2 wi (x, y)) (e2 l * wi) (hmp e1 P) := by
  rw [line12_ww, sk_e0, sk_e0, hm_e2.mul, hm_e2.sub, hm_e2.mul, hm_e2.neg, hm_e2.mul, hm_e2.mul, hm_e2.mul]
  show e2 D * (e2 l * e2 x - e2 y) + ww * (ww * (-(e2 D * e2 l * e1 P.1) + ww * (e2 D * e1 P.2))) = e2 D * (ww * (ww * ww)) * (e1 P.2 - (e2 y * (wi * wi * wi) + e2 l * wi * (e1 P.1 - e2 x * (wi * wi))))
  rw [up_l1, ww_wi]
  exact up_l2 _ _ _ _ _ _ _
section
variable {b : F2} (hb : b ≠ 0)
include hb
theorem tw_rep {T : F2 × F2 × F2} {t : F2 × F2} (h : Rep b T t) (hz : T.2.2 ≠ 0) (P : Fp × Fp) : Rep b (twF T P).1 (padd t t) := by
  have e : (twF T P).1 = jdbl T := by
    unfold jdbl
    rw [if_neg hz]
    unfold jdbN jdX
    refine Prod.ext ?_ (Prod.ext ?_ rfl)
    · exact tj_x T.1 T.2.1 _
    · refine Eq.trans ?_ (tj_y T.2.1 _ _ _)
      show _ * (_ - (_ - _)) - _ = _
      rw [tj_x T.1 T.2.1]
  rw [e]; exact rep_dbl hb h
theorem pl_rep {T : F2 × F2 × F2} {t q : F2 × F2} (h : Rep b T t) (hz : T.2.2 ≠ 0) (oq : OnF b q) (hw : q.1 * (T.2.2 * T.2.2) - T.1 ≠ 0) (P : Fp × Fp) : Rep b (plF T q P).1 (padd t q) := by
  have k : Rep b ((q.1, q.2, (1 : F2)) : Jc F2) q := .inr ⟨Fd.one_ne, by show q.1 = q.1 * (1 * 1); rw [Rg.mul_one, Rg.mul_one], by show q.2 = q.2 * (1 * (1 * 1)); rw [Rg.mul_one, Rg.mul_one, Rg.mul_one], oq⟩
  have e : (plF T q P).1 = jadd T (q.1, q.2, 1) := by
    unfold jadd
    rw [if_neg hz, if_neg (show ¬ (1 : F2) = 0 from Fd.one_ne)]
    show _ = (if q.1 * (T.2.2 * T.2.2) - T.1 * (1 * 1) = 0 then _ else jfin (q.1 * (T.2.2 * T.2.2) - T.1 * (1 * 1)) (q.2 * (T.2.2 * T.2.2) * T.2.2 - T.2.1 * (1 * 1) * 1) (T.1 * (1 * 1)) (T.2.1 * (1 * 1) * 1) T.2.2 1)
    rw [pj_w, pj_h, if_neg hw]
    unfold jfin jaX
    refine Prod.ext (pj_x _ _ _).symm (Prod.ext ?_ (pj_z _ _).symm)
    rw [pj_x, pj_y]; rfl
  rw [e]; exact rep_add hb h k
omit hb in
/-- The tangent. -/
theorem tw_ln {T : F2 × F2 × F2} {t : F2 × F2} (h : Rep b T t) (hz : T.2.2 ≠ 0) {l : F2} (hl : LnP t t l) (P : Fp × Fp) :
    line12 (twF T P).2.1 (twF T P).2.2.1 (twF T P).2.2.2 = e2 ((T.2.1 * T.2.2 + T.2.1 * T.2.2) * (T.2.2 * T.2.2)) * (ww * (ww * ww)) * lv (tws e2 wi t) (e2 l * wi) (hmp e1 P) := by
  obtain ⟨_, e1', e2', _⟩ := h.resolve_left (fun e => hz e.1)
  obtain ⟨X, Y, Z⟩ := T
  obtain ⟨x, y⟩ := t
  simp only at e1' e2' ⊢
  subst e1' e2'
  have h1 := lc1 _ (tl_a x y Z l) hl.2
  have h2 := lc1 _ (tl_b x y Z l) hl.2
  rw [← ln12, ← h1, ← h2]; rfl
omit hb in
/-- The chord. -/
theorem pl_ln {T : F2 × F2 × F2} {t q : F2 × F2} (h : Rep b T t) (hz : T.2.2 ≠ 0) {l : F2} (hl : LnP t q l) (P : Fp × Fp) :
    line12 (plF T q P).2.1 (plF T q P).2.2.1 (plF T q P).2.2.2 = e2 (T.2.2 * (q.1 * (T.2.2 * T.2.2) - T.1)) * (ww * (ww * ww)) * lv (tws e2 wi t) (e2 l * wi) (hmp e1 P) := by
  obtain ⟨_, e1', e2', _⟩ := h.resolve_left (fun e => hz e.1)
  obtain ⟨X, Y, Z⟩ := T
  obtain ⟨x, y⟩ := t
  obtain ⟨u, v⟩ := q
  simp only at e1' e2' ⊢
  subst e1' e2'
  have h2 := lc1 _ (cl_b x y Z u v l) hl.1
  have h3 : lv (tws e2 wi (x, y)) (e2 l * wi) (hmp e1 P) = lv (tws e2 wi (u, v)) (e2 l * wi) (hmp e1 P) := lv_symm (tws_ln hm_e2 hl) _
  rw [h3, ← ln12, ← cl_a, ← h2]; rfl
end

/-- One bit of one pair. -/
noncomputable def sgS (b : Bool) (s : F12 × Pr) : F12 × Pr := (s.1 * s.1 * (stF b 1 s.2).1, (stF b 1 s.2).2)
noncomputable def sg (k : Pr) (l : List Bool) : F12 × Pr := l.foldl (fun s b => sgS b s) (1, k)
section
variable {N p u r : Nat} (L : LastP N p u r) {b1 : Fp} {b2 : F2} (hb1 : b1 ≠ 0) (hb2 : b2 ≠ 0) (hns : ∀ y : F2, y * y = b2 → False) (he : b2 = e0 b1 * xi)
theorem kil_line {c : F2} (hc : c ≠ 0) (x : F12) : (kil L).χ (e2 c * (ww * (ww * ww)) * x) = (kil L).χ x := by rw [(kil L).mul, kil_fac L hc, Rg.one_mul]
include hb1 hb2 he
theorem sg_key {P : Fp × Fp} {Q : F2 × F2} (oQ : OnF b2 Q) (l : List Bool) : ∀ m, 0 < m → (∀ k, 0 < k → k ≤ bval l m → nmul Q k ≠ O2) → ∀ (f : F12) (T : F2 × F2 × F2) (g : F12), Rep b2 T (nmul Q m) → (kil L).χ f = (kil L).χ g →
    (kil L).χ (l.foldl (fun s b => sgS b s) (f, (P, (Q, T)))).1 = (kil L).χ (l.foldl (mlS (tws e2 wi Q) (hmp e1 P)) (g, tws e2 wi (nmul Q m))).1 := by
  have hB12 := bb_ne hb1
  have oQ' : OnP b2 Q := .inr oQ
  have on' := tws_on hm_e2 (bb_2 he) (A := Q) oQ
  -- the tangent
  have dbl : ∀ (m : Nat), 0 < m → nmul Q m ≠ O2 → nmul Q (m + m) ≠ O2 → ∀ (f : F12) (T : F2 × F2 × F2) (g : F12), Rep b2 T (nmul Q m) → (kil L).χ f = (kil L).χ g →
      Rep b2 (twF T P).1 (nmul Q (m + m)) ∧ (kil L).χ (f * f * line12 (twF T P).2.1 (twF T P).2.2.1 (twF T P).2.2.2) = (kil L).χ (g * g * Lt (tws e2 wi (nmul Q m)) (tws e2 wi (nmul Q m)) (hmp e1 P)) := by
    intro m hm n1 n2 f T g hT hf
    have hz : T.2.2 ≠ 0 := by
      rcases hT with ⟨_, e⟩ | ⟨h, _⟩
      · exact absurd e n1
      · exact h
    have ot : OnF b2 (nmul Q m) := (nmul_on hb2 oQ' m).resolve_left n1
    have hd : nmul Q (m + m) = padd (nmul Q m) (nmul Q m) := nmul_add hb2 oQ' m m
    have hr := tw_rep hb2 hT hz P
    rw [← hd] at hr
    refine ⟨hr, ?_⟩
    have hnn : ¬ nmul Q m = pneg (nmul Q m) := by
      intro e
      refine n2 ?_
      have h0 := add_neg_self (nmul Q m)
      rw [← e] at h0
      rw [hd]; exact h0
    obtain ⟨l, hl⟩ := (ln_or ot ot).resolve_left hnn
    have hz2 : (twF T P).1.2.2 ≠ 0 := by
      rcases hr with ⟨_, e⟩ | ⟨h, _⟩
      · exact absurd e n2
      · exact h
    have hD : (T.2.1 * T.2.2 + T.2.1 * T.2.2) * (T.2.2 * T.2.2) ≠ 0 := Fd.mul_ne hz2 (Fd.mul_ne hz hz)
    have oA := tws_on hm_e2 (bb_2 he) ot
    rw [tw_ln hT hz hl P, Lt_ln hB12 oA oA (tws_ln hm_e2 hl), (kil L).mul (f * f), kil_line L hD, (kil L).mul (g * g), (kil L).mul f f, (kil L).mul g g, hf]
  have add : ∀ (m : Nat), 0 < m → nmul Q m ≠ O2 → nmul Q (m + 1) ≠ O2 → nmul Q m ≠ Q → ∀ (f : F12) (T : F2 × F2 × F2) (g : F12), Rep b2 T (nmul Q m) → (kil L).χ f = (kil L).χ g →
      Rep b2 (plF T Q P).1 (nmul Q (m + 1)) ∧ (kil L).χ (f * line12 (plF T Q P).2.1 (plF T Q P).2.2.1 (plF T Q P).2.2.2) = (kil L).χ (g * Lt (tws e2 wi (nmul Q m)) (tws e2 wi Q) (hmp e1 P)) := by
    intro m hm n1 n2 n3 f T g hT hf
    have hz : T.2.2 ≠ 0 := by
      rcases hT with ⟨_, e⟩ | ⟨h, _⟩
      · exact absurd e n1
      · exact h
    have ot : OnF b2 (nmul Q m) := (nmul_on hb2 oQ' m).resolve_left n1
    have n4 : Q ≠ pneg (nmul Q m) := by
      intro e
      refine n2 ?_
      have h0 := add_neg_self (nmul Q m)
      rw [← e] at h0
      exact h0
    have hx : Q.1 ≠ (nmul Q m).1 := x_ne ot oQ (fun e => n3 e.symm) n4
    have hw : Q.1 * (T.2.2 * T.2.2) - T.1 ≠ 0 := by
      obtain ⟨_, e, _⟩ := hT.resolve_left (fun e => hz e.1)
      rw [e, cl_w]
      exact Fd.mul_ne (Fd.sub_ne hx) (Fd.mul_ne hz hz)
    refine ⟨pl_rep hb2 hT hz oQ hw P, ?_⟩
    obtain ⟨l, hl⟩ := (ln_or ot oQ).resolve_left n4
    have hD : T.2.2 * (Q.1 * (T.2.2 * T.2.2) - T.1) ≠ 0 := Fd.mul_ne hz hw
    rw [pl_ln hT hz hl P, Lt_ln hB12 (tws_on hm_e2 (bb_2 he) ot) on' (tws_ln hm_e2 hl), (kil L).mul f, kil_line L hD, (kil L).mul g, hf]
  induction l with
  | nil => intro m hm hk f T g hT hf; exact hf
  | cons y l ih =>
    intro m hm hk f T g hT hf
    have hle := bval_le l (bst m y)
    have hk : ∀ k, 0 < k → k ≤ bval l (bst m y) → nmul Q k ≠ O2 := hk
    have ea := tws_add hm_e2 (bb_2 he) hb2 hB12 (nmul_on hb2 oQ' m) (nmul_on hb2 oQ' m)
    rw [← nmul_add hb2 oQ'] at ea
    cases y
    · have hle : m + m ≤ bval l (bst m false) := hle
      obtain ⟨h1, h2⟩ := dbl m hm (hk m hm (by omega)) (hk (m + m) (by omega) (by omega)) f T g hT hf
      have i := ih (m + m) (by omega) hk _ _ _ h1 h2
      have e1 : sgS false (f, (P, (Q, T))) = (f * f * line12 (twF T P).2.1 (twF T P).2.2.1 (twF T P).2.2.2, (P, (Q, (twF T P).1))) := by
        show (f * f * (1 * line12 (two T P).2.1 (two T P).2.2.1 (two T P).2.2.2), (P, (Q, (two T P).1))) = _
        rw [Rg.one_mul, two, opq_eq]
      have e2 : mlS (tws Cr.e2 wi Q) (hmp Cr.e1 P) (g, tws Cr.e2 wi (nmul Q m)) false = (g * g * Lt (tws Cr.e2 wi (nmul Q m)) (tws Cr.e2 wi (nmul Q m)) (hmp Cr.e1 P), tws Cr.e2 wi (nmul Q (m + m))) := by
        rw [ea]; rfl
      rw [List.foldl_cons, List.foldl_cons, e1, e2]
      exact i
    · have hle : m + m + 1 ≤ bval l (bst m true) := hle
      obtain ⟨h1, h2⟩ := dbl m hm (hk m hm (by omega)) (hk (m + m) (by omega) (by omega)) f T g hT hf
      have n3 : nmul Q (m + m) ≠ Q := fun e => by
        obtain ⟨j, hj⟩ : ∃ j, m + m = j + 1 := ⟨m + m - 1, by omega⟩
        have h0 := hk j (by omega) (by omega)
        have oj := nmul_on hb2 oQ' j
        rw [hj] at e
        have e : padd (nmul Q j) Q = Q := e
        have c := cancel' hb2 oj oQ'
        rw [e, add_neg_self] at c
        exact h0 c.symm
      obtain ⟨h3, h4⟩ := add (m + m) (by omega) (hk (m + m) (by omega) (by omega)) (hk (m + m + 1) (by omega) hle) n3 _ _ _ h1 h2
      have i := ih (m + m + 1) (by omega) hk _ _ _ h3 h4
      have eb := tws_add hm_e2 (bb_2 he) hb2 hB12 (nmul_on hb2 oQ' (m + m)) oQ'
      have eb : tws Cr.e2 wi (nmul Q (m + m + 1)) = padd (tws Cr.e2 wi (nmul Q (m + m))) (tws Cr.e2 wi Q) := eb
      have e1 : sgS true (f, (P, (Q, T))) = (f * f * line12 (twF T P).2.1 (twF T P).2.2.1 (twF T P).2.2.2 * line12 (plF (twF T P).1 Q P).2.1 (plF (twF T P).1 Q P).2.2.1 (plF (twF T P).1 Q P).2.2.2, (P, (Q, (plF (twF T P).1 Q P).1))) := by
        show (f * f * (1 * line12 (two T P).2.1 (two T P).2.2.1 (two T P).2.2.2 * line12 (plo (two T P).1 Q P).2.1 (plo (two T P).1 Q P).2.2.1 (plo (two T P).1 Q P).2.2.2), (P, (Q, (plo (two T P).1 Q P).1))) = _
        rw [Rg.one_mul, two, opq_eq, plo, opq_eq, ← Rg.mul_assoc]
      have e2 : mlS (tws Cr.e2 wi Q) (hmp Cr.e1 P) (g, tws Cr.e2 wi (nmul Q m)) true = (g * g * Lt (tws Cr.e2 wi (nmul Q m)) (tws Cr.e2 wi (nmul Q m)) (hmp Cr.e1 P) * Lt (tws Cr.e2 wi (nmul Q (m + m))) (tws Cr.e2 wi Q) (hmp Cr.e1 P), tws Cr.e2 wi (nmul Q (m + m + 1))) := by
        rw [eb, ea]; rfl
      rw [List.foldl_cons, List.foldl_cons, e1, e2]
      exact i
end
end Go.Proofs.YtbfimfdhmggieaaGreat.pairing
/- pairing: what the product of some pairs computes: the product of their values. -/
namespace Go.Proofs.YtbfimfdhmggieaaGreat.pairing
set_option maxRecDepth 100000
open Go Go.Eng Go.RowKit Cr Go.Proofs.YtbfimfdhmggieaaGreat Go.Proofs.YtbfimfdhmggieaaGreat.fp2 Go.Proofs.YtbfimfdhmggieaaGreat.tower

noncomputable def prodl : List F12 → F12
  | [] => 1
  | x :: l => x * prodl l
theorem prodl_snoc (x : F12) : ∀ l, prodl (l ++ [x]) = prodl l * x
  | [] => by show x * 1 = 1 * x; rw [Rg.mul_one, Rg.one_mul]
  | y :: l => by show y * prodl (l ++ [x]) = y * prodl l * x; rw [prodl_snoc x l, Rg.mul_assoc]
theorem prodl_sq {α : Type} (X A : α → F12) : ∀ l : List α, prodl (l.map X) * prodl (l.map X) * prodl (l.map A) = prodl (l.map fun k => X k * X k * A k)
  | [] => by show (1 : F12) * 1 * 1 = 1; rw [Rg.one_mul, Rg.one_mul]
  | k :: l => by
    show X k * prodl (l.map X) * (X k * prodl (l.map X)) * (A k * prodl (l.map A)) = X k * X k * A k * prodl (l.map fun k => X k * X k * A k)
    rw [← prodl_sq X A l, pm_1 (X k), pm_1 (X k * X k)]
theorem stF_mul (b : Bool) (f : F12) (k : Pr) : stF b f k = (f * (stF b 1 k).1, (stF b 1 k).2) := by
  cases b
  · refine Prod.ext ?_ rfl
    show f * _ = f * (1 * _)
    rw [Rg.one_mul]
  · refine Prod.ext ?_ rfl
    show f * _ * _ = f * (1 * _ * _)
    rw [Rg.one_mul, pm_2]
theorem set_mid {α : Type} (A B : List α) (x y d : α) : (A ++ x :: B).getD A.length d = x ∧ (A ++ x :: B).set A.length y = A ++ y :: B := by
  constructor
  · simp [List.getD_eq_getElem?_getD]
  · simp
theorem inK_eq (b : Bool) (f : F12) (l : List Pr) : ∀ i, i ≤ l.length → inK b (f, l) i = (f * prodl ((l.take i).map fun k => (stF b 1 k).1), (l.take i).map (fun k => (stF b 1 k).2) ++ l.drop i)
  | 0, _ => by
    show (f, l) = (f * 1, l)
    rw [Rg.mul_one]
  | i + 1, hi => by
    show ((stF b (inK b (f, l) i).1 ((inK b (f, l) i).2.getD i (zeroOf prk))).1, (inK b (f, l) i).2.set i (stF b (inK b (f, l) i).1 ((inK b (f, l) i).2.getD i (zeroOf prk))).2) = _
    rw [inK_eq b f l i (by omega)]
    have hi : i < l.length := hi
    have hd : l.drop i = l[i] :: l.drop (i + 1) := List.drop_eq_getElem_cons hi
    have ht : l.take (i + 1) = l.take i ++ [l[i]] := List.take_succ_eq_append_getElem hi
    have hl : ((l.take i).map (fun k => (stF b 1 k).2)).length = i := by rw [List.length_map, List.length_take]; omega
    obtain ⟨A, hA⟩ : ∃ A, A = (l.take i).map (fun k => (stF b 1 k).2) := ⟨_, rfl⟩
    rw [← hA] at hl ⊢
    have hg : ∀ d : Pr, (A ++ l[i] :: l.drop (i + 1)).getD i d = l[i] := fun d => by
      have := (set_mid A (l.drop (i + 1)) l[i] l[i] d).1
      rwa [hl] at this
    have hs : ∀ y : Pr, (A ++ l[i] :: l.drop (i + 1)).set i y = A ++ y :: l.drop (i + 1) := fun y => by
      have := (set_mid A (l.drop (i + 1)) l[i] y y).2
      rwa [hl] at this
    simp only
    rw [hd, hg, hs, stF_mul, ht, List.map_append, List.map_append, ← hA, List.map_cons, List.map_cons, List.map_nil, List.map_nil, prodl_snoc, Rg.mul_assoc, List.append_assoc]; rfl
/-- The parameter's first bits but the highest. -/
def bls (j : Nat) : List Bool := (List.range j).map fun (j : Nat) => pbit (62 - (j : Int))
theorem sg_succ (k : Pr) (j : Nat) : sg k (bls (j + 1)) = sgS (pbit (62 - (j : Int))) (sg k (bls j)) := by
  unfold sg bls
  rw [List.range_succ, List.map_append, List.foldl_append]; rfl
theorem ouK_eq (l : List Pr) : ∀ j, ouK l j = (prodl (l.map fun k => (sg k (bls j)).1), l.map fun k => (sg k (bls j)).2)
  | 0 => by
    have h1 : ∀ l : List Pr, prodl (l.map fun k => (sg k (bls 0)).1) = 1 := by
      intro l
      induction l with
      | nil => rfl
      | cons k l ih => show 1 * prodl _ = 1; rw [Rg.one_mul]; exact ih
    have h2 : (l.map fun k => (sg k (bls 0)).2) = l := List.map_id l
    rw [h1, h2]; rfl
  | j + 1 => by
    show inK (pbit (62 - (j : Int))) ((ouK l j).1 * (ouK l j).1, (ouK l j).2) l.length = _
    rw [ouK_eq l j]
    obtain ⟨M, hM⟩ : ∃ M, M = (l.map fun k => (sg k (bls j)).2) := ⟨_, rfl⟩
    have hl : l.length = M.length := by rw [hM, List.length_map]
    rw [← hM, hl, inK_eq _ _ _ _ (Nat.le_refl _), List.take_length, List.drop_length, List.append_nil, hM, List.map_map, List.map_map, prodl_sq]
    refine Prod.ext ?_ ?_
    · refine congrArg prodl (List.map_congr_left fun k _ => ?_)
      rw [sg_succ]; rfl
    · refine List.map_congr_left fun k _ => ?_
      rw [sg_succ]; rfl
theorem conj_one : conj12 (1 : F12) = 1 := F12.ext rfl neg_z
theorem liF_eq (ps : List (Fp × Fp)) (qs : List (F2 × F2)) : liF ps qs = cjo (prodl ((prs ps qs ps.length).map fun k => (sg k (bls 63)).1)) := by
  rw [liF]
  cases h : prs ps qs ps.length with
  | nil => show (1 : F12) = cjo 1; rw [cjo, opq_eq, conj_one]
  | cons k l =>
    show cjo (ouK (k :: l) 63).1 = _
    rw [ouK_eq]
section
variable {N p u r : Nat} (L : LastP N p u r) {b1 : Fp} {b2 : F2} (hb1 : b1 ≠ 0) (hb2 : b2 ≠ 0) (hns : ∀ y : F2, y * y = b2 → False) (he : b2 = e0 b1 * xi)
/-- The product of the values of the first pairs. -/
noncomputable def evl (L : LastP N p u r) (bl : List Bool) (ps : List (Fp × Fp)) (qs : List (F2 × F2)) (k : Nat) : F12 := it (fun i x => x * ev L bl (ps.getD i ((0 : Fp), (0 : Fp))) (qs.getD i (((0 : Fp), (0 : Fp)), (0 : Fp), (0 : Fp)))) 1 k
variable (hu : 0 < u) (hbl : bval (bls 63) 1 = u)
include hb1 hb2 hns he hu hbl
omit hns hu in
theorem sg_ev {P : Fp × Fp} {Q : F2 × F2} (nP : P ≠ O2) (nQ : Q ≠ O2) (hQ : GQ p u r b2 Q) : (kil L).χ (sg (P, (Q, (Q.1, Q.2, (1 : F2)))) (bls 63)).1 = ev L (bls 63) P Q := by
  have oQ : OnF b2 Q := hQ.on.resolve_left nQ
  have k : Rep b2 ((Q.1, Q.2, (1 : F2)) : Jc F2) (nmul Q 1) := by
    rw [nmul_one]
    exact .inr ⟨Fd.one_ne, by show Q.1 = Q.1 * (1 * 1); rw [Rg.mul_one, Rg.mul_one], by show Q.2 = Q.2 * (1 * (1 * 1)); rw [Rg.mul_one, Rg.mul_one, Rg.mul_one], oQ⟩
  have h := sg_key L hb1 hb2 he (P := P) oQ (bls 63) 1 Nat.one_pos (fun j h0 h1 => (hQ.small.resolve_left nQ) j h0 (by rw [hbl] at h1; exact h1)) 1 (Q.1, Q.2, (1 : F2)) 1 k rfl
  rw [nmul_one] at h
  unfold ev
  rw [if_neg nP]
  exact h
omit hns in
omit hu in
theorem evl_key {ps : List (Fp × Fp)} {qs : List (F2 × F2)} : ∀ k, (∀ i, i < k → OnP b1 (ps.getD i ((0 : Fp), (0 : Fp)))) → (∀ i, i < k → GQ p u r b2 (qs.getD i (((0 : Fp), (0 : Fp)), (0 : Fp), (0 : Fp)))) →
    (kil L).χ (prodl ((prs ps qs k).map fun k => (sg k (bls 63)).1)) = evl L (bls 63) ps qs k
  | 0, _, _ => (kil L).one
  | k + 1, h1, h2 => by
    have ih := evl_key (ps := ps) (qs := qs) k (fun i hi => h1 i (by omega)) (fun i hi => h2 i (by omega))
    have hP := h1 k (by omega)
    have hQ := h2 k (by omega)
    show (kil L).χ (prodl ((pr1 (ps.getD k ((0 : Fp), (0 : Fp))) (qs.getD k (((0 : Fp), (0 : Fp)), (0 : Fp), (0 : Fp))) (prs ps qs k)).map fun k => (sg k (bls 63)).1)) = evl L (bls 63) ps qs k * ev L (bls 63) (ps.getD k ((0 : Fp), (0 : Fp))) (qs.getD k (((0 : Fp), (0 : Fp)), (0 : Fp), (0 : Fp)))
    obtain ⟨P, eP⟩ : ∃ P, P = ps.getD k ((0 : Fp), (0 : Fp)) := ⟨_, rfl⟩
    obtain ⟨Q, eQ⟩ : ∃ Q, Q = qs.getD k (((0 : Fp), (0 : Fp)), (0 : Fp), (0 : Fp)) := ⟨_, rfl⟩
    rw [← eP] at hP ⊢
    rw [← eQ] at hQ ⊢
    unfold pr1
    by_cases nP : P = O2
    · rw [(eqC_iff (e := pt1) P ((0 : Fp), (0 : Fp))).2 nP, nP, ev_OP, Rg.mul_one]; exact ih
    by_cases nQ : Q = O2
    · rw [(eqC_iff (e := pt2) Q (((0 : Fp), (0 : Fp)), (0 : Fp), (0 : Fp))).2 nQ, nQ, ev_OQ L, Rg.mul_one]
      split
      · rename_i h; cases h
      · exact ih
    · have c1 : eqC pt1 P ((0 : Fp), (0 : Fp)) = false := Bool.eq_false_iff.2 fun h => nP ((eqC_iff (e := pt1) _ _).1 h)
      have c2 : eqC pt2 Q (((0 : Fp), (0 : Fp)), (0 : Fp), (0 : Fp)) = false := Bool.eq_false_iff.2 fun h => nQ ((eqC_iff (e := pt2) _ _).1 h)
      rw [c1, c2]
      show (kil L).χ (prodl ((prs ps qs k ++ [(P, (Q, (Q.1, Q.2, (1 : F2))))]).map fun k => (sg k (bls 63)).1)) = _
      rw [List.map_append, List.map_cons, List.map_nil, prodl_snoc, (kil L).mul, ih, sg_ev L hb1 hb2 he hbl nP nQ hQ]
omit hu in
theorem evl_r {ps : List (Fp × Fp)} {qs : List (F2 × F2)} : ∀ k, (∀ i, i < k → OnP b1 (ps.getD i ((0 : Fp), (0 : Fp)))) → (∀ i, i < k → GQ p u r b2 (qs.getD i (((0 : Fp), (0 : Fp)), (0 : Fp), (0 : Fp)))) → pwn (evl L (bls 63) ps qs k) r = 1
  | 0, _, _ => pwn_one r
  | k + 1, h1, h2 => by
    show pwn (evl L (bls 63) ps qs k * ev L (bls 63) _ _) r = 1
    rw [pwn_prod, evl_r k (fun i hi => h1 i (by omega)) (fun i hi => h2 i (by omega)), ev_r L hb1 hb2 hns he hbl (h1 k (by omega)) (h2 k (by omega)), Rg.one_mul]
omit hu in
/-- What Check and Pair compute. -/
theorem fino_lino {n : Nat} (hr : 0 < r) (h6 : p ^ 6 = n + 1) {v : Nat} (hN : N = finN p n v u) (hv : v = 15132376222941642753) (hu2 : u = 15132376222941642752) {ps : List (Fp × Fp)} {qs : List (F2 × F2)} (h1 : ∀ i, i < ps.length → OnP b1 (ps.getD i ((0 : Fp), (0 : Fp)))) (h2 : ∀ i, i < ps.length → GQ p u r b2 (qs.getD i (((0 : Fp), (0 : Fp)), (0 : Fp), (0 : Fp)))) :
    fino (lino ps qs) = cjo (evl L (bls 63) ps qs ps.length) := by
  have k := evl_key L hb1 hb2 he hbl ps.length h1 h2
  have kr := evl_r L hb1 hb2 hns he hbl ps.length h1 h2
  rw [lino, opq_eq, liF_eq]
  obtain ⟨X, hX⟩ : ∃ X, X = prodl ((prs ps qs ps.length).map fun k => (sg k (bls 63)).1) := ⟨_, rfl⟩
  rw [← hX] at k ⊢
  have nX : X ≠ 0 := by
    intro e
    rw [← k, e] at kr
    have h0 : pwn (pwn (0 : F12) N) r = 1 := kr
    rw [pwn_zr L.pos, pwn_zr hr] at h0
    exact Fd.one_ne h0.symm
  have nC : cjo X ≠ 0 := by rw [cjo_eq L.pp]; exact pwn_ne nX _
  rw [fino_eq L.pp h6 hv hu2 nC, ← hN, ← k, cjo_eq L.pp, cjo_eq L.pp]
  show pwn (pwn X (p ^ 6)) N = pwn (pwn X N) (p ^ 6)
  rw [← pwn_mul, ← pwn_mul, Nat.mul_comm]
end
end Go.Proofs.YtbfimfdhmggieaaGreat.pairing
/- The second generator's order, by computation. No program here. -/
namespace Cr
open Rg Fd
def addN2 (a b : Nat) : Nat := (a + b) % pN
def subN2 (a b : Nat) : Nat := (a + (pN - b % pN)) % pN
def mulN2 (a b : Nat) : Nat := (a * b) % pN
theorem addN2_φ (a b : Nat) : (zm ((addN2 a b : Nat) : Int) : Fp) = zm (a : Int) + zm (b : Int) := evP1.add_φ a b
theorem subN2_φ (a b : Nat) : (zm ((subN2 a b : Nat) : Int) : Fp) = zm (a : Int) - zm (b : Int) := evP1.sub_φ a b
theorem mulN2_φ (a b : Nat) : (zm ((mulN2 a b : Nat) : Int) : Fp) = zm (a : Int) * zm (b : Int) := evP1.mul_φ a b
noncomputable def evP2 : Ev F2 where
  V := Nat × Nat
  φ n := (zm (n.1 : Int), zm (n.2 : Int))
  add a b := (addN2 a.1 b.1, addN2 a.2 b.2)
  sub a b := (subN2 a.1 b.1, subN2 a.2 b.2)
  mul a b := (subN2 (a.1 * b.1) (a.2 * b.2), addN2 (a.1 * b.2) (a.2 * b.1))
  isz a := Nat.beq (a.1 % pN) 0 && Nat.beq (a.2 % pN) 0
  zero := (0, 0)
  force a k := fc a.1 fun x => fc a.2 fun y => k (x, y)
  add_φ a b := by rw [F2.add_def, addN2_φ, addN2_φ]
  sub_φ a b := by rw [F2.sub_def, subN2_φ, subN2_φ]
  mul_φ a b := by
    rw [F2.mul_def, addN2_φ, subN2_φ]
    simp only [Int.natCast_mul, ← zm_mul]
  isz_φ a := by
    rw [Bool.and_eq_true]
    have h1 := evP1.isz_φ a.1
    have h2 := evP1.isz_φ a.2
    constructor
    · rintro ⟨e1, e2⟩
      exact F2.ext (h1.1 e1) (h2.1 e2)
    · intro e
      exact ⟨h1.2 (congrArg Prod.fst e), h2.2 (congrArg Prod.snd e)⟩
  zero_φ := rfl
  force_eq a k := by rw [fc_eq, fc_eq]
def qxA : Nat := 0x024aa2b2f08f0a91260805272dc51051c6e47ad4fa403b02b4510b647ae3d1770bac0326a805bbefd48056c8c121bdb8
def qxB : Nat := 0x13e02b6052719f607dacd3a088274f65596bd0d09920b61ab5da61bbdc7f5049334cf11213945d57e5ac7d055d042b7e
def qyA : Nat := 0x0ce5d527727d6e118cc9cdc6da2e351aadfd9baa8cbdd3a76d429a695160d12c923ac9cc3baca289e193548608b82801
def qyB : Nat := 0x0606c4a02ea734cc32acd2b02bc28b99cb3e287e85a763af267492ab572e99ab3f370d275cec1da1aaa9075ff05f79be
theorem ord2_z : evP2.isz (evP2.mul2 ((qxA, qxB), (qyA, qyB), ((1 : Nat), (0 : Nat))) 256 52435875175126190479447740508185965837690552500527637822603658699938581184513).2.2 = true := by kernel_rfl
end Cr
/- The field of p^12 by natural numbers. No program here. -/
namespace Cr
open Rg Fd Go.Eng
abbrev V2 := Nat × Nat
abbrev V6 := V2 × V2 × V2
abbrev V12 := V6 × V6
noncomputable def q2 (a : V2) : F2 := evP2.φ a
noncomputable def q6 (a : V6) : F6 := (q2 a.1, q2 a.2.1, q2 a.2.2)
noncomputable def q12 (a : V12) : F12 := (q6 a.1, q6 a.2)
def fo2 {α : Type} (a : V2) (k : V2 → α) : α := fc a.1 fun x => fc a.2 fun y => k (x, y)
theorem fo2_eq {α : Type} (a : V2) (k : V2 → α) : fo2 a k = k a := by rw [fo2, fc_eq, fc_eq]
def fo6 {α : Type} (a : V6) (k : V6 → α) : α := fo2 a.1 fun x => fo2 a.2.1 fun y => fo2 a.2.2 fun z => k (x, y, z)
theorem fo6_eq {α : Type} (a : V6) (k : V6 → α) : fo6 a k = k a := by rw [fo6, fo2_eq, fo2_eq, fo2_eq]
def fo12 {α : Type} (a : V12) (k : V12 → α) : α := fo6 a.1 fun x => fo6 a.2 fun y => k (x, y)
theorem fo12_eq {α : Type} (a : V12) (k : V12 → α) : fo12 a k = k a := by rw [fo12, fo6_eq, fo6_eq]
def vadd (a b : V2) : V2 := (addN2 a.1 b.1, addN2 a.2 b.2)
def vsub (a b : V2) : V2 := (subN2 a.1 b.1, subN2 a.2 b.2)
def vmul (a b : V2) : V2 := (subN2 (a.1 * b.1) (a.2 * b.2), addN2 (a.1 * b.2) (a.2 * b.1))
def vxi (a : V2) : V2 := (subN2 a.1 a.2, addN2 a.1 a.2)
def vneg (a : V2) : V2 := vsub (0, 0) a
def vcj (a : V2) : V2 := (a.1, subN2 0 a.2)
theorem q2_add (a b : V2) : q2 (vadd a b) = q2 a + q2 b := evP2.add_φ a b
theorem q2_sub (a b : V2) : q2 (vsub a b) = q2 a - q2 b := evP2.sub_φ a b
theorem q2_mul (a b : V2) : q2 (vmul a b) = q2 a * q2 b := evP2.mul_φ a b
theorem q2_xi (a : V2) : q2 (vxi a) = xi * q2 a := by
  rw [xi_mul]
  show (zm ((subN2 a.1 a.2 : Nat) : Int), zm ((addN2 a.1 a.2 : Nat) : Int)) = _
  rw [addN2_φ, subN2_φ]; rfl
theorem q2_zero : q2 (0, 0) = 0 := rfl
theorem q2_neg (a : V2) : q2 (vneg a) = -q2 a := by rw [vneg, q2_sub, q2_zero, zero_sub']
theorem q2_cj (a : V2) : q2 (vcj a) = ((q2 a).1, -(q2 a).2) := by
  refine F2.ext rfl ?_
  show (zm ((subN2 0 a.2 : Nat) : Int) : Fp) = -zm (a.2 : Int)
  rw [subN2_φ]
  show (0 : Fp) - _ = _
  rw [zero_sub']
def v6add (x y : V6) : V6 := (vadd x.1 y.1, vadd x.2.1 y.2.1, vadd x.2.2 y.2.2)
def v6sub (x y : V6) : V6 := (vsub x.1 y.1, vsub x.2.1 y.2.1, vsub x.2.2 y.2.2)
def v6vv (x : V6) : V6 := (vxi x.2.2, x.1, x.2.1)
def v6mul (x y : V6) : V6 :=
  fo2 (vmul x.1 y.1) fun a => fo2 (vmul x.2.1 y.2.1) fun b => fo2 (vmul x.2.2 y.2.2) fun c =>
  fo2 (vadd x.2.1 x.2.2) fun s1 => fo2 (vadd y.2.1 y.2.2) fun t1 => fo2 (vadd x.1 x.2.1) fun s2 => fo2 (vadd y.1 y.2.1) fun t2 => fo2 (vadd x.1 x.2.2) fun s3 => fo2 (vadd y.1 y.2.2) fun t3 =>
  fo2 (vsub (vsub (vmul s1 t1) b) c) fun d => fo2 (vsub (vsub (vmul s2 t2) a) b) fun e => fo2 (vsub (vsub (vmul s3 t3) a) c) fun f =>
  (vadd a (vxi d), vadd e (vxi c), vadd f b)
theorem q6_add (x y : V6) : q6 (v6add x y) = q6 x + q6 y := by
  rw [F6.add_def]; simp only [q6, v6add, q2_add]
theorem q6_sub (x y : V6) : q6 (v6sub x y) = q6 x - q6 y := by
  rw [F6.sub_def]; simp only [q6, v6sub, q2_sub]
theorem q6_vv (x : V6) : q6 (v6vv x) = vv * q6 x := by
  rw [vv_mul]; simp only [q6, v6vv, q2_xi]
theorem q6_mul (x y : V6) : q6 (v6mul x y) = q6 x * q6 y := by
  rw [← tw_mul]
  simp only [v6mul, fo2_eq, q6, q2_add, q2_sub, q2_mul, q2_xi]
def v12mul (x y : V12) : V12 :=
  fo6 (v6mul x.1 y.1) fun a => fo6 (v6mul x.2 y.2) fun b => fo6 (v6add x.1 x.2) fun s => fo6 (v6add y.1 y.2) fun t =>
  fo6 (v6mul s t) fun m => fo6 (v6add a (v6vv b)) fun c => fo6 (v6sub (v6sub m a) b) fun d => (c, d)
def v12sq (x : V12) : V12 :=
  fo6 (v6mul x.1 x.2) fun a => fo6 (v6vv a) fun b => fo6 (v6add x.1 x.2) fun s => fo6 (v6add x.1 (v6vv x.2)) fun t =>
  fo6 (v6mul s t) fun m => fo6 (v6sub (v6sub m a) b) fun c => fo6 (v6add a a) fun d => (c, d)
theorem q12_mul (x y : V12) : q12 (v12mul x y) = q12 x * q12 y := by
  rw [← tw_emul]
  simp only [v12mul, fo6_eq, q12, q6_add, q6_sub, q6_mul, q6_vv]
theorem q12_sq (x : V12) : q12 (v12sq x) = q12 x * q12 x := by
  rw [← tw_esq]
  simp only [v12sq, fo6_eq, q12, q6_add, q6_sub, q6_mul, q6_vv]
def v6neg (x : V6) : V6 := v6sub ((0, 0), (0, 0), (0, 0)) x
theorem q6_neg (x : V6) : q6 (v6neg x) = -q6 x := by
  rw [v6neg, q6_sub]
  show (0 : F6) - _ = _
  rw [zero_sub']
def v12cj (x : V12) : V12 := fo6 (v6neg x.2) fun y => (x.1, y)
theorem q12_cj (x : V12) : q12 (v12cj x) = conj12 (q12 x) := by
  simp only [v12cj, fo6_eq, q12, q6_neg]; rfl
def vone : V12 := (((1, 0), (0, 0), (0, 0)), (0, 0), (0, 0), (0, 0))
theorem q12_one : q12 vone = 1 := rfl
/-- Powers: 2 n, 2 n + 1. -/
def v12pw (x : V12) : Nat → Nat → V12
  | 0, _ => vone
  | f + 1, n => match Nat.beq n 0 with
    | true => vone
    | false => fo12 (v12pw x f (n / 2)) fun y => fo12 (v12sq y) fun z => match Nat.beq (n % 2) 1 with
      | true => v12mul z x
      | false => z
theorem q12_pw (x : V12) : ∀ f n, n < 2 ^ f → q12 (v12pw x f n) = pwn (q12 x) n
  | 0, n, h => by
    have : n = 0 := by simp at h; exact h
    subst this; exact q12_one
  | f + 1, n, h => by
    unfold v12pw
    split
    · rename_i hn; have := Nat.eq_of_beq_eq_true hn; subst this; exact q12_one
    · have ih := q12_pw x f (n / 2) (by rw [Nat.pow_succ] at h; omega)
      rw [fo12_eq, fo12_eq]
      split
      · rename_i hn
        have h1 := Nat.eq_of_beq_eq_true hn
        have h2 : n = n / 2 + n / 2 + 1 := by omega
        rw [q12_mul, q12_sq, ih]
        conv => rhs; rw [h2]
        show _ = pwn (q12 x) (n / 2 + n / 2) * q12 x
        rw [pwn_add]
      · rename_i hn
        have h1 : n % 2 ≠ 1 := fun e => by rw [e] at hn; cases hn
        have h2 : n = n / 2 + n / 2 := by omega
        rw [q12_sq, ih]
        conv => rhs; rw [h2]
        rw [pwn_add]
/-- The power p; r is the root. -/
def v12fr (r : V2) (x : V12) : V12 :=
  fo2 (vmul r r) fun r2 => fo2 (vmul r2 r2) fun r4 => fo2 (vmul r2 r) fun r3 => fo2 (vmul r4 r) fun r5 =>
  ((vcj x.1.1, vmul (vcj x.1.2.1) r2, vmul (vcj x.1.2.2) r4), (vmul (vcj x.2.1) r, vmul (vcj x.2.2.1) r3, vmul (vcj x.2.2.2) r5))
end Cr
namespace Go.Proofs.YtbfimfdhmggieaaGreat.pairing
set_option maxRecDepth 100000
open Go Go.Eng Go.RowKit Cr Go.Proofs.YtbfimfdhmggieaaGreat Go.Proofs.YtbfimfdhmggieaaGreat.fp2 Go.Proofs.YtbfimfdhmggieaaGreat.tower
def rtN : Nat := 3850754370037169011952147076051364057158807420970682438676050522613628423219637725072182697113062777891589506424760
theorem q12_fr {r : V2} (hr : q2 r = rt1) (x : V12) : q12 (v12fr r x) = frobF (q12 x) := by
  simp only [v12fr, fo2_eq, q12, q6, q2_mul, q2_cj, hr]; rfl
def vsk (a : V2) (k : Nat) : V2 := (mulN2 a.1 k, mulN2 a.2 k)
theorem q2_sk (a : V2) (k : Nat) : q2 (vsk a k) = sk (q2 a) (zm (k : Int)) := by
  show (zm ((mulN2 a.1 k : Nat) : Int), zm ((mulN2 a.2 k : Nat) : Int)) = _
  rw [mulN2_φ, mulN2_φ]; rfl
abbrev V3 := V2 × V2 × V2
noncomputable def q3 (t : V3) : F2 × F2 × F2 := (q2 t.1, q2 t.2.1, q2 t.2.2)
def vtw (t : V3) (px py : Nat) : V3 × V3 :=
  fo2 (vmul t.1 t.1) fun xx => fo2 (vmul t.2.1 t.2.1) fun yy => fo2 (vmul t.2.2 t.2.2) fun zz => fo2 (vadd (vadd xx xx) xx) fun sl =>
  fo2 (vmul yy yy) fun d0 => fo2 (vadd d0 d0) fun d1 => fo2 (vadd d1 d1) fun d2 => fo2 (vadd d2 d2) fun e8 =>
  fo2 (vmul t.1 yy) fun f0 => fo2 (vadd f0 f0) fun f1 => fo2 (vadd f1 f1) fun f4 =>
  fo2 (vsub (vmul sl sl) (vadd f4 f4)) fun x => fo2 (vsub f4 x) fun fx => fo2 (vsub (vmul sl fx) e8) fun y => fo2 (vmul t.2.1 t.2.2) fun z1 => fo2 (vadd z1 z1) fun z =>
  fo2 (vsub (vmul sl t.1) (vadd yy yy)) fun a => fo2 (vmul sl zz) fun b1 => fo2 (vneg (vsk b1 px)) fun b => fo2 (vmul z zz) fun c1 => fo2 (vsk c1 py) fun c =>
  ((x, y, z), (a, b, c))
theorem q_vtw (t : V3) (px py : Nat) : (q3 (vtw t px py).1, q3 (vtw t px py).2) = twF (q3 t) (zm (px : Int), zm (py : Int)) := by
  simp only [vtw, fo2_eq, q3, q2_mul, q2_add, q2_sub, q2_neg, q2_sk]; rfl
def vpl (t : V3) (q : V2 × V2) (px py : Nat) : V3 × V3 :=
  fo2 (vmul t.2.2 t.2.2) fun zz => fo2 (vsub (vmul q.1 zz) t.1) fun wide => fo2 (vmul zz t.2.2) fun z3 => fo2 (vsub (vmul q.2 z3) t.2.1) fun high =>
  fo2 (vmul wide wide) fun square => fo2 (vmul square wide) fun cube => fo2 (vmul t.1 square) fun part =>
  fo2 (vsub (vsub (vmul high high) cube) (vadd part part)) fun x => fo2 (vsub part x) fun fx => fo2 (vsub (vmul high fx) (vmul t.2.1 cube)) fun y => fo2 (vmul t.2.2 wide) fun z =>
  fo2 (vsub (vmul high q.1) (vmul z q.2)) fun a => fo2 (vneg (vsk high px)) fun b => fo2 (vsk z py) fun c =>
  ((x, y, z), (a, b, c))
theorem q_vpl (t : V3) (q : V2 × V2) (px py : Nat) : (q3 (vpl t q px py).1, q3 (vpl t q px py).2) = plF (q3 t) (q2 q.1, q2 q.2) (zm (px : Int), zm (py : Int)) := by
  simp only [vpl, fo2_eq, q3, q2_mul, q2_add, q2_sub, q2_neg, q2_sk]; rfl
def vln (l : V3) : V12 := ((l.1, l.2.1, (0, 0)), ((0, 0), l.2.2, (0, 0)))
theorem q_vln (l : V3) : q12 (vln l) = line12 (q2 l.1) (q2 l.2.1) (q2 l.2.2) := rfl
def fo3 {α : Type} (a : V12 × V3) (k : V12 → V3 → α) : α := fo12 a.1 fun f => fo6 a.2 fun t => k f t
theorem fo3_eq {α : Type} (a : V12 × V3) (k : V12 → V3 → α) : fo3 a k = k a.1 a.2 := by rw [fo3, fo12_eq, fo6_eq]
/-- One bit. -/
def vst (q : V2 × V2) (px py : Nat) (s : V12 × V3) : Bool → V12 × V3
  | false => fo12 (v12sq s.1) fun f => fo6 (vtw s.2 px py).1 fun t => fo6 (vtw s.2 px py).2 fun l => fo12 (v12mul f (vln l)) fun g => (g, t)
  | true => fo12 (v12sq s.1) fun f => fo6 (vtw s.2 px py).1 fun t => fo6 (vtw s.2 px py).2 fun l => fo12 (v12mul f (vln l)) fun g =>
    fo6 (vpl t q px py).1 fun t2 => fo6 (vpl t q px py).2 fun l2 => fo12 (v12mul g (vln l2)) fun g2 => (g2, t2)
def vlp (q : V2 × V2) (px py : Nat) : List Bool → V12 → V3 → V12
  | [], f, _ => f
  | b :: l, f, t => fo3 (vst q px py (f, t) b) fun f t => vlp q px py l f t
theorem q_vst (q : V2 × V2) (px py : Nat) (f : V12) (t : V3) (b : Bool) : sgS b (q12 f, ((zm (px : Int), zm (py : Int)), ((q2 q.1, q2 q.2), q3 t))) = (q12 (vst q px py (f, t) b).1, ((zm (px : Int), zm (py : Int)), ((q2 q.1, q2 q.2), q3 (vst q px py (f, t) b).2))) := by
  have h1 := q_vtw t px py
  have h1a := congrArg Prod.fst h1
  have h1b := congrArg Prod.snd h1
  simp only at h1a h1b
  cases b
  · show (q12 f * q12 f * (1 * line12 (two (q3 t) (zm (px : Int), zm (py : Int))).2.1 (two (q3 t) (zm (px : Int), zm (py : Int))).2.2.1 (two (q3 t) (zm (px : Int), zm (py : Int))).2.2.2), (_, (_, (two (q3 t) (zm (px : Int), zm (py : Int))).1))) = _
    rw [Rg.one_mul, two, opq_eq, ← h1a, ← h1b]
    simp only [vst, fo12_eq, fo6_eq, q12_mul, q12_sq, q_vln]; rfl
  · have h2 := q_vpl (vtw t px py).1 q px py
    rw [h1a] at h2
    have h2a := congrArg Prod.fst h2
    have h2b := congrArg Prod.snd h2
    simp only at h2a h2b
    show (q12 f * q12 f * (1 * line12 (two (q3 t) (zm (px : Int), zm (py : Int))).2.1 (two (q3 t) (zm (px : Int), zm (py : Int))).2.2.1 (two (q3 t) (zm (px : Int), zm (py : Int))).2.2.2 * line12 (plo (two (q3 t) (zm (px : Int), zm (py : Int))).1 (q2 q.1, q2 q.2) (zm (px : Int), zm (py : Int))).2.1 (plo (two (q3 t) (zm (px : Int), zm (py : Int))).1 (q2 q.1, q2 q.2) (zm (px : Int), zm (py : Int))).2.2.1 (plo (two (q3 t) (zm (px : Int), zm (py : Int))).1 (q2 q.1, q2 q.2) (zm (px : Int), zm (py : Int))).2.2.2), (_, (_, (plo (two (q3 t) (zm (px : Int), zm (py : Int))).1 (q2 q.1, q2 q.2) (zm (px : Int), zm (py : Int))).1))) = _
    rw [Rg.one_mul, two, opq_eq, plo, opq_eq, ← h2a, ← h2b, ← h1b, ← Rg.mul_assoc]
    simp only [vst, fo12_eq, fo6_eq, q12_mul, q12_sq, q_vln]; rfl
theorem q_vlp (q : V2 × V2) (px py : Nat) : ∀ (l : List Bool) (f : V12) (t : V3), (l.foldl (fun s b => sgS b s) (q12 f, ((zm (px : Int), zm (py : Int)), ((q2 q.1, q2 q.2), q3 t)))).1 = q12 (vlp q px py l f t)
  | [], f, t => rfl
  | b :: l, f, t => by
    show (l.foldl (fun s b => sgS b s) (sgS b (q12 f, _))).1 = q12 (fo3 (vst q px py (f, t) b) fun f t => vlp q px py l f t)
    rw [q_vst, fo3_eq, q_vlp q px py l]
/-- What is left of the last power behind p^6 - 1. -/
def vfin (r : V2) (x : V12) : V12 :=
  fo12 (v12fr r x) fun x1 => fo12 (v12fr r x1) fun x2 => fo12 (v12mul x2 x) fun g =>
  fo12 (v12pw g 64 15132376222941642753) fun a1 => fo12 (v12pw a1 64 15132376222941642753) fun a =>
  fo12 (v12pw a 64 15132376222941642752) fun b1 => fo12 (v12fr r a) fun b2 => fo12 (v12cj b1) fun b3 => fo12 (v12mul b3 b2) fun b =>
  fo12 (v12pw b 64 15132376222941642752) fun c1 => fo12 (v12pw c1 64 15132376222941642752) fun c2 => fo12 (v12fr r b) fun c3 => fo12 (v12fr r c3) fun c4 => fo12 (v12mul c2 c4) fun c5 => fo12 (v12cj b) fun c6 => fo12 (v12mul c5 c6) fun c =>
  fo12 (v12sq g) fun g2 => fo12 (v12mul c g2) fun d => v12mul d g
theorem q_vfin {r : V2} (hr : q2 r = rt1) {p v u : Nat} (hp : p = fpP) (hv : v = 15132376222941642753) (hu : u = 15132376222941642752) (x : V12) : q12 (vfin r x) = pwn (q12 x) ((p * p + 1) * (v * v * (u * p ^ 6 + p) * (u * u + p * p + p ^ 6) + 2 + 1)) := by
  have hV : v < 2 ^ 64 := by rw [hv]; exact of_decide_eq_true (by kernel_rfl)
  have hU : u < 2 ^ 64 := by rw [hu]; exact of_decide_eq_true (by kernel_rfl)
  have hc : ∀ x : F12, conj12 x = pwn x (p ^ 6) := fun x => (pw_6 hp x).symm
  unfold vfin
  rw [← hv, ← hu]
  simp only [fo12_eq, q12_mul, q12_sq, q12_cj, q12_fr hr, q12_pw _ 64 v hV, q12_pw _ 64 u hU, frobF_eq hp, hc]
  obtain ⟨X, hX⟩ : ∃ X, X = q12 x := ⟨_, rfl⟩
  rw [← hX]
  have e1 : pwn (pwn X p) p * X = pwn X (p * p + 1) := by rw [← pwn_mul]; rfl
  rw [e1, pwn_mul X (p * p + 1)]
  obtain ⟨g, hg⟩ : ∃ g, g = pwn X (p * p + 1) := ⟨_, rfl⟩
  rw [← hg, pwn_add g _ 1, pwn_add g _ 2, pwn_mul g _ (u * u + p * p + p ^ 6), pwn_mul g (v * v), pwn_mul g v v, pw_1]
  show _ = _ * (1 * g * g) * g
  rw [Rg.one_mul]
  obtain ⟨a, ha⟩ : ∃ a, a = pwn (pwn g v) v := ⟨_, rfl⟩
  rw [← ha, pwn_add a, pwn_mul a]
  obtain ⟨b, hb⟩ : ∃ b, b = pwn (pwn a u) (p ^ 6) * pwn a p := ⟨_, rfl⟩
  rw [← hb, pwn_add b, pwn_add b, pwn_mul b u u, pwn_mul b p p]
end Go.Proofs.YtbfimfdhmggieaaGreat.pairing
