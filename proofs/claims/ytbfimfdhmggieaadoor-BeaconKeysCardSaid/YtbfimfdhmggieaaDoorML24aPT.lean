/- poly: Public.At, Fits, Plus, Weights. -/
import Derived.Test.YtbfimfdhmggieaaDoorML24aPS
/- What rows ask of their arguments. -/
namespace Go.Proofs.YtbfimfdhmggieaaDoor
open Go Go.Eng Cr
abbrev bsl : Kd := .sl (.int .u8)
/-- Bytes of an input. -/
abbrev preB (b : List Int) : Prop := Bs b ∧ List.length b ≤ 281474976710656
abbrev preI (x : Int) : Prop := -9223372036854775808 ≤ x ∧ x < 9223372036854775808
end Go.Proofs.YtbfimfdhmggieaaDoor
/- Helpers of laws. -/
namespace Go.Proofs.YtbfimfdhmggieaaDoor
open Go Go.Eng Cr
theorem eqP (a b : Fp × Fp) : eqC (.pair .fp .fp) a b = decide (a = b) := by
  have h := eqC_iff (e := .pair .fp .fp) a b
  rw [Bool.eq_iff_iff, h, decide_eq_true_iff]
abbrev ok (b : Bool) : Prop := ((b, ()) : Bool × Unit) = (true, ())
end Go.Proofs.YtbfimfdhmggieaaDoor
/- fp2.Bytes, fp2.Large; codec: part. -/
namespace Go.Proofs.YtbfimfdhmggieaaDoor.fp2
set_option maxRecDepth 100000
open Go Go.Eng Go.RowKit Cr Go.Proofs.YtbfimfdhmggieaaDoor
end Go.Proofs.YtbfimfdhmggieaaDoor.fp2
namespace Go.Proofs.YtbfimfdhmggieaaDoor.codec
set_option maxRecDepth 100000
open Go Go.Eng Go.RowKit Cr Go.Proofs.YtbfimfdhmggieaaDoor
theorem ent_part : enters Tryd.prog 77 Tryd.f77 := enters_mk (by kernel_rfl) (by kernel_rfl) (by kernel_rfl)
/-- The marks, the bytes without them. -/
def brs (b : List Int) : Int := bitOp .and .u8 (b.getD 0 0) 224
def bdy (b : List Int) : List Int := b.set 0 (bitOp .andNot .u8 (b.getD 0 0) 224)
def shT (b : List Int) : Bool := bitOp .and .u8 (brs b) 128 != 0
def inF (b : List Int) : Bool := bitOp .and .u8 (brs b) 64 != 0
def lgE (b : List Int) : Bool := bitOp .and .u8 (brs b) 32 != 0
/-- What part answers. -/
def partF (b : List Int) (n : Int) : List Int × Int × Int :=
  if (b.length : Int) ≠ n ∧ (b.length : Int) ≠ 2 * n then ([], 0, 10)
  else if shT b ≠ decide ((b.length : Int) = n) then ([], 0, 11)
  else if lgE b = true ∧ (shT b = false ∨ inF b = true) then ([], 0, 11)
  else if inF b = true ∧ ∃ v ∈ bdy b, v ≠ 0 then ([], 0, 11)
  else (bdy b, brs b, 0)
abbrev prePart : HL [.sl (.int .u8), .int .i64] → Prop := fun (b, n, _) => (Bs b ∧ List.length b ≤ 1000000) ∧ 1 ≤ (n : Int) ∧ (n : Int) ≤ 1000
abbrev outPart : HL [.sl (.int .u8), .int .i64] → HO [.own (.int .u8), .val (.int .u8), .val (.int .i64)] := fun (b, n, _) => ((partF b n).1, (partF b n).2.1, (partF b n).2.2, ())
noncomputable def paC (b : List Int) (n : Int) (g : Int × List Int) : St := mkSt Tryd.f77.ntmps 200 [(0, .is (.one (.ro (.int .u8) b))), (1, sI .i64 n), (4, .is (.one (.v (.slice none 0 0)))), (5, sI .u8 0), (6, sI .i64 0), (7, .is (.one (.sl 120 0 0 b.length 1))), (8, sI .u8 g.1)] [(120, [.ints .u8 b.length g.2])]
def paK (b : List Int) (n : Int) (g : Int × List Int) : Prop := g.1 = brs b ∧ g.2 = bdy b ∧ 1 ≤ b.length ∧ ((b.length : Int) = n ∨ (b.length : Int) = 2 * n)
noncomputable def paD (b : List Int) (br : Int) (bd : List Int) : St := mkSt Tryd.f77.ntmps 392 [(4, .is (.one (.v (.slice none 0 0)))), (5, sI .u8 0), (6, sI .i64 0), (7, .is (.one (.sl 120 0 0 b.length 1))), (8, sI .u8 br), (56, .is (.one (.v (.bool (bitOp .and .u8 br 64 != 0)))))] [(120, [.ints .u8 b.length bd])]
noncomputable def paE (b : List Int) (br : Int) (bd : List Int) (g : Int) : St := mkSt Tryd.f77.ntmps 416 [(4, .is (.one (.v (.slice none 0 0)))), (5, sI .u8 0), (6, sI .i64 0), (7, .is (.one (.sl 120 0 0 b.length 1))), (8, sI .u8 br), (57, .is (.one (.sl 120 0 0 b.length 1))), (58, sI .i64 b.length), (59, sI .i64 g)] [(120, [.ints .u8 b.length bd])]
def paJ (bd : List Int) (g : Int) : Prop := ∃ k : Nat, k ≤ bd.length ∧ g = (k : Int) ∧ ∀ t, t < k → bd.getD t 0 = 0
theorem fn_part : FnOk Tryd.prog 77 [.sl (.int .u8), .int .i64] [.own (.int .u8), .val (.int .u8), .val (.int .i64)] noG prePart outPart := by
  have hsp : SpecsOk Tryd.prog (sps []) := sps_nil
  refine fn_of_tr (sp := sps []) ent_part (by decide) (by decide) (by kernel_rfl) ?_
  rintro w M0 ⟨b, n, ⟨⟩⟩
  revert b n
  intro (b : List Int) (n : Int) _ hp
  obtain ⟨⟨hb, hl⟩, hn1, hn2⟩ := hp
  have hl : b.length ≤ 1000000 := hl
  have hn1 : 1 ≤ n := hn1
  have hn2 : n ≤ 1000 := hn2
  show Tr _ _ _ _ _ _ _
  have e2n : IntKind.i64.wrap (2 * n) = 2 * n := wrap_i64' (by omega) (by omega)
  refine tr_cutF hsp mixed 6 (fun σ => (rdS (.int .u8) 8 σ, rdR (.int .u8) 120 σ)) (paC b n) (paK b n) ?_ ?_
  · refine vcx (X := ((((↑b.length : Int) != n) = true → (((↑b.length : Int) != IntKind.i64.wrap ((2 : Int) * n)) = true → ([], (0 : Int), (10 : Int), ()) = outPart (b, n, ())) ∧ (((↑b.length : Int) != IntKind.i64.wrap ((2 : Int) * n)) = false → b.length * (1 : Nat) ≤ (140737488355328 : Nat) ∧ b.length ≤ (4611686018427387904 : Nat) ∧ ((0 : Int) ≤ (0 : Int) ∧ (0 : Int) < (↑b.length : Int)) ∧ (0 : Nat) < b.length ∧ ((0 : Int) ≤ (0 : Int) ∧ (0 : Int) < (↑b.length : Int)) ∧ (0 : Nat) < b.length ∧ ((0 : Int) ≤ (0 : Int) ∧ (0 : Int) < (↑b.length : Int)) ∧ (0 : Nat) < b.length ∧ (paC b n (bitOp BinOp.and IntKind.u8 (b.getD (0 : Nat) (0 : Int)) (224 : Int), b.set (0 : Nat) (bitOp BinOp.andNot IntKind.u8 (b.getD (0 : Nat) (0 : Int)) (224 : Int)))).triv (paK b n (bitOp BinOp.and IntKind.u8 (b.getD (0 : Nat) (0 : Int)) (224 : Int), b.set (0 : Nat) (bitOp BinOp.andNot IntKind.u8 (b.getD (0 : Nat) (0 : Int)) (224 : Int)))))) ∧ (((↑b.length : Int) != n) = false → b.length * (1 : Nat) ≤ (140737488355328 : Nat) ∧ b.length ≤ (4611686018427387904 : Nat) ∧ ((0 : Int) ≤ (0 : Int) ∧ (0 : Int) < (↑b.length : Int)) ∧ (0 : Nat) < b.length ∧ ((0 : Int) ≤ (0 : Int) ∧ (0 : Int) < (↑b.length : Int)) ∧ (0 : Nat) < b.length ∧ ((0 : Int) ≤ (0 : Int) ∧ (0 : Int) < (↑b.length : Int)) ∧ (0 : Nat) < b.length ∧ (paC b n (bitOp BinOp.and IntKind.u8 (b.getD (0 : Nat) (0 : Int)) (224 : Int), b.set (0 : Nat) (bitOp BinOp.andNot IntKind.u8 (b.getD (0 : Nat) (0 : Int)) (224 : Int)))).triv (paK b n (bitOp BinOp.and IntKind.u8 (b.getD (0 : Nat) (0 : Int)) (224 : Int), b.set (0 : Nat) (bitOp BinOp.andNot IntKind.u8 (b.getD (0 : Nat) (0 : Int)) (224 : Int))))))) (by kernel_rfl) ?_
    rw [e2n]
    have bl : ∀ h : 1 ≤ b.length, b.length * 1 ≤ 140737488355328 ∧ b.length ≤ 4611686018427387904 ∧ ((0 : Int) ≤ 0 ∧ (0 : Int) < (b.length : Int)) ∧ 0 < b.length := fun h => ⟨by omega, by omega, ⟨by omega, by omega⟩, by omega⟩
    refine ⟨fun h => ⟨fun h' => ?_, fun h' => ?_⟩, fun h => ?_⟩
    · show _ = ((partF b n).1, (partF b n).2.1, (partF b n).2.2, ())
      rw [partF, if_pos ⟨by simpa using h, by simpa using h'⟩]
    · have h' : (b.length : Int) = 2 * n := by simpa using h'
      have hb1 : 1 ≤ b.length := by omega
      obtain ⟨c1, c2, c3, c4⟩ := bl hb1
      exact ⟨c1, c2, c3, c4, c3, c4, c3, c4, triv_intro ⟨rfl, rfl, hb1, .inr h'⟩⟩
    · have h : (b.length : Int) = n := by simpa using h
      have hb1 : 1 ≤ b.length := by omega
      obtain ⟨c1, c2, c3, c4⟩ := bl hb1
      exact ⟨c1, c2, c3, c4, c3, c4, c3, c4, triv_intro ⟨rfl, rfl, hb1, .inl h⟩⟩
  rintro ⟨br, bd⟩ hK
  revert br bd
  intro (br : Int) (bd : List Int) ⟨k1, k2, k3, k4⟩
  have k1 : br = brs b := k1
  have k2 : bd = bdy b := k2
  have hlen : ¬ ((b.length : Int) ≠ n ∧ (b.length : Int) ≠ 2 * n) := by omega
  refine tr_cut hsp mixed 5 (paD b br bd) (shT b = decide ((b.length : Int) = n) ∧ ¬ (lgE b = true ∧ (shT b = false ∨ inF b = true))) ?_ (fun hk => ?_)
  · refine vcx (X := (((!(bitOp BinOp.and IntKind.u8 br (128 : Int) != (0 : Int)) == ((↑b.length : Int) == n)) = true → ([], (0 : Int), (11 : Int), ()) = outPart (b, n, ())) ∧ ((!(bitOp BinOp.and IntKind.u8 br (128 : Int) != (0 : Int)) == ((↑b.length : Int) == n)) = false → ((bitOp BinOp.and IntKind.u8 br (32 : Int) != (0 : Int)) = true → ((bitOp BinOp.and IntKind.u8 br (128 : Int) == (0 : Int)) = true → ([], (0 : Int), (11 : Int), ()) = outPart (b, n, ())) ∧ ((bitOp BinOp.and IntKind.u8 br (128 : Int) == (0 : Int)) = false → ((bitOp BinOp.and IntKind.u8 br (64 : Int) != (0 : Int)) = true → ([], (0 : Int), (11 : Int), ()) = outPart (b, n, ())) ∧ ((bitOp BinOp.and IntKind.u8 br (64 : Int) != (0 : Int)) = false → (paD b br bd).triv (shT b = decide ((↑b.length : Int) = n) ∧ ¬(lgE b = true ∧ (shT b = false ∨ inF b = true)))))) ∧ ((bitOp BinOp.and IntKind.u8 br (32 : Int) != (0 : Int)) = false → (paD b br bd).triv (shT b = decide ((↑b.length : Int) = n) ∧ ¬(lgE b = true ∧ (shT b = false ∨ inF b = true))))))) (by kernel_rfl) ?_
    have s1 : shT b = (bitOp .and .u8 br 128 != 0) := by rw [shT, k1]
    have s2 : inF b = (bitOp .and .u8 br 64 != 0) := by rw [inF, k1]
    have s3 : lgE b = (bitOp .and .u8 br 32 != 0) := by rw [lgE, k1]
    have s4 : (bitOp .and .u8 br 128 == 0) = !shT b := by rw [s1]; cases h : (bitOp .and .u8 br 128 == 0) <;> simp [bne, h]
    have s5 : ((b.length : Int) == n) = decide ((b.length : Int) = n) := rfl
    rw [s4, ← s1, ← s2, ← s3, s5]
    show ((!(shT b == decide ((b.length : Int) = n))) = true → _ = ((partF b n).1, (partF b n).2.1, (partF b n).2.2, ())) ∧ _
    refine ⟨fun h => ?_, fun h => ⟨fun h2 => ⟨fun h3 => ?_, fun h3 => ⟨fun h4 => ?_, fun h4 => triv_intro ⟨by simpa using h, ?_⟩⟩⟩, fun h2 => triv_intro ⟨by simpa using h, ?_⟩⟩⟩
    · rw [partF, if_neg hlen, if_pos (by simpa using h)]
    · show _ = ((partF b n).1, (partF b n).2.1, (partF b n).2.2, ())
      rw [partF, if_neg hlen, if_neg (by simpa using h), if_pos ⟨h2, .inl (by simpa using h3)⟩]
    · show _ = ((partF b n).1, (partF b n).2.1, (partF b n).2.2, ())
      rw [partF, if_neg hlen, if_neg (by simpa using h), if_pos ⟨h2, .inr h4⟩]
    · rintro ⟨_, h5 | h5⟩
      · rw [h5] at h3; cases h3
      · rw [h5] at h4; cases h4
    · rintro ⟨h5, _⟩
      rw [h5] at h2; cases h2
  obtain ⟨ha, hb2⟩ := hk
  have hbl : bd.length = b.length := by rw [k2, bdy, List.length_set]
  have s2 : inF b = (bitOp .and .u8 br 64 != 0) := by rw [inF, k1]
  refine tr_cond (c := nthC (codeOf Tryd.f77) 11) (bitOp .and .u8 br 64 != 0) (by kernel_rfl) (by kernel_rfl) (by kernel_rfl) (fun ht => ?_) (fun ht => ?_)
  · refine tr_cut hsp mixed 1 (paE b br bd 0) True ?_ (fun _ => ?_)
    · refine vcx (X := ((paE b br bd (0 : Int)).triv True)) (by kernel_rfl) ?_
      exact triv_intro trivial
    refine tr_while hsp mixed noSw (fun σ => rdS (.int .i64) 59 σ) (paE b br bd) (paJ bd) (fun g => b.length - g.toNat)
      (fun σ => rdS (.int .i64) 59 σ) (paE b br bd) (fun _ => ∀ v ∈ bd, v = 0) 0 (c := nthC (thenOf (nthC (codeOf Tryd.f77) 11)) 1) (by kernel_rfl) (by kernel_rfl) (le_of_proj (by kernel_rfl) (by kernel_rfl) ?_) ?_ ?_
    · exact ⟨0, Nat.zero_le _, rfl, fun t h => absurd h (Nat.not_lt_zero _)⟩
    · intro (i : Int) ⟨k, hk, ei, hz⟩
      subst ei
      refine vcx (X := ((decide ((↑k : Int) < (↑b.length : Int)) = true → ((0 : Int) ≤ (↑k : Int) ∧ (↑k : Int) < (↑b.length : Int)) ∧ (↑k : Int).toNat < b.length ∧ ((bd.getD (↑k : Int).toNat (0 : Int) != (0 : Int)) = true → ([], (0 : Int), (11 : Int), ()) = outPart (b, n, ())) ∧ ((bd.getD (↑k : Int).toNat (0 : Int) != (0 : Int)) = false → (paE b br bd (IntKind.i64.wrap ((↑k : Int) + (1 : Int)))).triv (paJ bd (IntKind.i64.wrap ((↑k : Int) + (1 : Int))) ∧ b.length - (IntKind.i64.wrap ((↑k : Int) + (1 : Int))).toNat < b.length - (↑k : Int).toNat))) ∧ (decide ((↑k : Int) < (↑b.length : Int)) = false → (paE b br bd (↑k : Int)).triv (∀ (v : Int), v ∈ bd → v = (0 : Int))))) (by kernel_rfl) ?_
      rw [Int.toNat_natCast]
      refine ⟨fun h => ?_, fun h => triv_intro ?_⟩
      · have hlt : k < b.length := by have := dec_lt h; omega
        have hg : bd.getD k 0 = bd[k] := by rw [List.getD_eq_getElem?_getD, List.getElem?_eq_getElem (by omega), Option.getD_some]
        rw [wrap_succ (by omega)]
        refine ⟨⟨by omega, by omega⟩, hlt, fun h2 => ?_, fun h2 => triv_intro ⟨⟨k + 1, by omega, rfl, fun t ht2 => ?_⟩, by rw [Int.toNat_natCast]; omega⟩⟩
        · have h2 : bd.getD k 0 ≠ 0 := by simpa using h2
          show _ = ((partF b n).1, (partF b n).2.1, (partF b n).2.2, ())
          rw [partF, if_neg hlen, if_neg (by simpa using ha), if_neg hb2, if_pos ⟨by rw [s2, ht], bd[k], by rw [← k2]; exact List.getElem_mem _, by rw [← hg]; exact h2⟩]
        · by_cases htk : t = k
          · subst htk; simpa using h2
          · exact hz t (by omega)
      · have : k = b.length := by have := dec_ge h; omega
        intro v hv
        obtain ⟨t, ht1, ht2⟩ := List.mem_iff_getElem.1 hv
        have := hz t (by omega)
        rw [List.getD_eq_getElem?_getD, List.getElem?_eq_getElem ht1, Option.getD_some, ht2] at this
        exact this
    intro (i : Int) (hz : ∀ v ∈ bd, v = 0)
    refine tr_vc hsp mixed _ _ ?_
    refine vcx (X := ((0 : Nat) + b.length ≤ b.length ∧ (List.take b.length bd, br, (0 : Int), ()) = outPart (b, n, ()))) (by kernel_rfl) ?_
    refine ⟨by omega, ?_⟩
    show _ = ((partF b n).1, (partF b n).2.1, (partF b n).2.2, ())
    rw [partF, if_neg hlen, if_neg (by simpa using ha), if_neg hb2, if_neg (by rintro ⟨_, v, hv, hne⟩; exact hne (hz v (by rw [k2]; exact hv))), k1, k2, List.take_of_length_le (by rw [bdy, List.length_set]; exact Nat.le_refl _)]
  · refine tr_vc hsp mixed _ _ ?_
    refine vcx (X := ((0 : Nat) + b.length ≤ b.length ∧ (List.take b.length bd, br, (0 : Int), ()) = outPart (b, n, ()))) (by kernel_rfl) ?_
    refine ⟨by omega, ?_⟩
    show _ = ((partF b n).1, (partF b n).2.1, (partF b n).2.2, ())
    rw [partF, if_neg hlen, if_neg (by simpa using ha), if_neg hb2, if_neg (by rw [s2, ht]; simp), k1, k2, List.take_of_length_le (by rw [bdy, List.length_set]; exact Nat.le_refl _)]
noncomputable def spPart : Nat × Eng.Spec := (77, fnSpec [.sl (.int .u8), .int .i64] [.own (.int .u8), .val (.int .u8), .val (.int .i64)] prePart outPart)
end Go.Proofs.YtbfimfdhmggieaaDoor.codec
/- codec: ReadG1. -/
namespace Go.Proofs.YtbfimfdhmggieaaDoor.codec
set_option maxRecDepth 100000
open Go Go.Eng Go.RowKit Cr Go.Proofs.YtbfimfdhmggieaaDoor
theorem ent_readG1 : enters Tryd.prog 33 Tryd.f33 := enters_mk (by kernel_rfl) (by kernel_rfl) (by kernel_rfl)
/-- Is a point one of the group? -/
noncomputable def chk1 (p : Fp × Fp) : (Fp × Fp) × Int := if p = (0, 0) then ((0, 0), 13) else if g1.gon p = true then (if g1.gin p = true then (p, 0) else ((0, 0), 14)) else ((0, 0), 13)
/-- The right one of two roots. -/
def sgn1 (y : Fp) (l : Bool) : Fp := if decide ((-y).v < y.v) = l then y else -y
noncomputable def root1 (x : Fp) : Fp := (fp.fpSqrt (x * x * x + zm 4)).1
noncomputable def rg1 (b : List Int) : (Fp × Fp) × Int :=
  if (partF b 48).2.2 = 0 then
    if inF b = true then ((0, 0), 0)
    else if (fp.rdFp ((bdy b).take 48)).2 = 0 then
      if shT b = true then chk1 ((fp.rdFp ((bdy b).take 48)).1, sgn1 (root1 (fp.rdFp ((bdy b).take 48)).1) (lgE b))
      else if (fp.rdFp ((bdy b).drop 48)).2 = 0 then chk1 ((fp.rdFp ((bdy b).take 48)).1, (fp.rdFp ((bdy b).drop 48)).1)
      else ((0, 0), 12)
    else ((0, 0), 12)
  else ((0, 0), (partF b 48).2.2)
abbrev preRG : HL [.sl (.int .u8)] → Prop := fun (b, _) => Bs b ∧ List.length b ≤ 1000000
noncomputable abbrev outRG1 : HL [.sl (.int .u8)] → HO [.val pt1, .val (.int .i64)] := fun (b, _) => ((rg1 b).1, (rg1 b).2, ())
noncomputable def rgC (g : Int × List Int) : St := mkSt Tryd.f33.ntmps 144 [(2, .is (.one (.ptr 0 0))), (3, sI .i64 0), (4, .is (.one (.sl 24 0 0 g.2.length 1))), (5, sI .u8 g.1)] [(0, g1.pc (0, 0)), (24, [.ints .u8 g.2.length g.2])]
def rgK (b : List Int) (n : Int) (g : Int × List Int) : Prop := g.1 = brs b ∧ g.2 = bdy b ∧ (partF b n).2.2 = 0 ∧ inF b = false
theorem part_ok {b : List Int} {n : Int} (h : (partF b n).2.2 = 0) : partF b n = (bdy b, brs b, 0) ∧ shT b = decide ((b.length : Int) = n) ∧ ((b.length : Int) = n ∨ (b.length : Int) = 2 * n) := by
  unfold partF at h ⊢
  split at h
  · cases h
  · rename_i h1
    rw [if_neg h1]
    split at h
    · cases h
    · rename_i h2
      rw [if_neg h2]
      split at h
      · cases h
      · rename_i h3
        rw [if_neg h3]
        split at h
        · cases h
        · rename_i h4
          rw [if_neg h4]
          refine ⟨rfl, by simpa using h2, by omega⟩
noncomputable def rgD (p : Fp × Fp) : St := mkSt Tryd.f33.ntmps 352 [(2, .is (.one (.ptr 0 0))), (3, sI .i64 0), (7, .is (.one (.ptr 144 0)))] [(0, g1.pc (0, 0)), (144, g1.pc p)]
theorem set_Bs {b : List Int} (h : Bs b) {x : Int} (hx : 0 ≤ x ∧ x < 256) : Bs (b.set 0 x) := by
  intro y hy
  rcases List.mem_or_eq_of_mem_set hy with hy | hy
  · exact h y hy
  · rw [hy]; exact hx
theorem andNot_ok {a : Int} : 0 ≤ bitOp .andNot .u8 a 224 ∧ bitOp .andNot .u8 a 224 < 256 := by
  show 0 ≤ IntKind.u8.wrap _ ∧ IntKind.u8.wrap _ < 256
  simp only [IntKind.wrap, IntKind.signed, IntKind.bits]
  simp
  omega
theorem bdy_Bs {b : List Int} (h : Bs b) : Bs (bdy b) := set_Bs h andNot_ok
theorem bdy_len (b : List Int) : (bdy b).length = b.length := by rw [bdy, List.length_set]
theorem fn_readG1 : FnOk Tryd.prog 33 [.sl (.int .u8)] [.val pt1, .val (.int .i64)] noG preRG outRG1 := by
  have hsp : SpecsOk Tryd.prog (sps [spPart, fp.spRead, fp.spSquare, fp.spMul, fp.spAdd, fp.spOf, fp.spSqrt, fp.spLarge, fp.spNeg, g1.soOn, g1.soIn]) := (sps_cons (fnSpec_ok fn_part) (sps_cons (fnSpec_ok fp.fn_read) (sps_cons (fnSpec_ok fp.fn_square) (sps_cons (fnSpec_ok fp.fn_mul) (sps_cons (fnSpec_ok fp.fn_add) (sps_cons (fnSpec_ok fp.fn_of) (sps_cons (fnSpec_ok fp.fn_sqrt) (sps_cons (fnSpec_ok fp.fn_large) (sps_cons (fnSpec_ok fp.fn_neg) (sps_cons (fnSpec_ok g1.fo_on) (sps_cons (fnSpec_ok g1.fo_in) sps_nil)))))))))))
  refine fn_of_tr (sp := sps [spPart, fp.spRead, fp.spSquare, fp.spMul, fp.spAdd, fp.spOf, fp.spSqrt, fp.spLarge, fp.spNeg, g1.soOn, g1.soIn]) ent_readG1 (by decide) (by decide) (by kernel_rfl) ?_
  rintro w M0 ⟨b, ⟨⟩⟩
  revert b
  intro (b : List Int) _ hp
  obtain ⟨hb, hl⟩ := hp
  have hl : b.length ≤ 1000000 := hl
  show Tr _ _ _ _ _ _ _
  have pp : prePart (b, 48, ()) := ⟨⟨hb, hl⟩, by decide, by decide⟩
  refine tr_cutF hsp mixed 4 (fun σ => (rdS (.int .u8) 5 σ, rdR (.int .u8) 24 σ)) rgC (rgK b 48) ?_ ?_
  · refine vcx (X := (prePart (b, (48 : Int), ()) ∧ (((partF b (48 : Int)).snd.snd != (0 : Int)) = true → (((0 : Fp), (0 : Fp)), (partF b (48 : Int)).snd.snd, ()) = outRG1 (b, ())) ∧ (((partF b (48 : Int)).snd.snd != (0 : Int)) = false → ((bitOp BinOp.and IntKind.u8 (partF b (48 : Int)).snd.fst (64 : Int) != (0 : Int)) = true → (((0 : Fp), (0 : Fp)), (partF b (48 : Int)).snd.snd, ()) = outRG1 (b, ())) ∧ ((bitOp BinOp.and IntKind.u8 (partF b (48 : Int)).snd.fst (64 : Int) != (0 : Int)) = false → (rgC ((partF b (48 : Int)).snd.fst, (partF b (48 : Int)).fst)).triv (rgK b (48 : Int) ((partF b (48 : Int)).snd.fst, (partF b (48 : Int)).fst)))))) (by kernel_rfl) ?_
    have s2 : (partF b 48).2.2 = 0 → (bitOp .and .u8 (partF b 48).2.1 64 != 0) = inF b := fun h => by rw [(part_ok h).1]; rfl
    refine ⟨pp, fun h => ?_, fun h => ?_⟩
    · have h : ¬ (partF b 48).2.2 = 0 := by simpa using h
      show _ = ((rg1 b).1, (rg1 b).2, ())
      rw [rg1, if_neg h]
    · have h : (partF b 48).2.2 = 0 := by simpa using h
      rw [s2 h]
      refine ⟨fun h2 => ?_, fun h2 => triv_intro ⟨?_, ?_, h, h2⟩⟩
      · show _ = ((rg1 b).1, (rg1 b).2, ())
        rw [rg1, if_pos h, if_pos h2, h]
      · show (partF b 48).2.1 = brs b
        rw [(part_ok h).1]
      · show (partF b 48).1 = bdy b
        rw [(part_ok h).1]
  rintro ⟨br, bd⟩ hK
  revert br bd
  intro (br : Int) (bd : List Int) ⟨k1, k2, k3, k4⟩
  have k1 : br = brs b := k1
  have k2 : bd = bdy b := k2
  obtain ⟨_, ha, hlen⟩ := part_ok k3
  have hbl : bd.length = b.length := by rw [k2, bdy_len]
  have hbs : Bs bd := by rw [k2]; exact bdy_Bs hb
  have s1 : (bitOp .and .u8 br 128 == 0) = !shT b := by rw [shT, k1]; cases h : (bitOp .and .u8 (brs b) 128 == 0) <;> simp [bne, h]
  have s3 : (bitOp .and .u8 br 32 != 0) = lgE b := by rw [lgE, k1]
  refine tr_cutF hsp mixed 6 (fun σ => rdB pt1 144 σ) rgD (fun p => rg1 b = chk1 p) ?_ ?_
  · refine vcx (X := (((0 : Int) ≤ (48 : Int) ∧ (48 : Int) ≤ (↑bd.length : Int)) ∧ (0 : Nat) + (48 : Nat) ≤ bd.length ∧ fp.preRead (List.take (48 : Nat) bd, ()) ∧ (((fp.rdFp (List.take (48 : Nat) bd)).snd != (0 : Int)) = true → (((0 : Fp), (0 : Fp)), (12 : Int), ()) = outRG1 (b, ())) ∧ (((fp.rdFp (List.take (48 : Nat) bd)).snd != (0 : Int)) = false → ((bitOp BinOp.and IntKind.u8 br (128 : Int) == (0 : Int)) = true → ((0 : Int) ≤ (48 : Int) ∧ (48 : Int) ≤ (↑bd.length : Int)) ∧ (48 : Nat) + ((↑bd.length : Int) - (48 : Int)).toNat ≤ bd.length ∧ fp.preRead (List.take ((↑bd.length : Int) - (48 : Int)).toNat (List.drop (48 : Nat) bd), ()) ∧ (((fp.rdFp (List.take ((↑bd.length : Int) - (48 : Int)).toNat (List.drop (48 : Nat) bd))).snd != (0 : Int)) = true → (((0 : Fp), (0 : Fp)), (12 : Int), ()) = outRG1 (b, ())) ∧ (((fp.rdFp (List.take ((↑bd.length : Int) - (48 : Int)).toNat (List.drop (48 : Nat) bd))).snd != (0 : Int)) = false → (rgD ((fp.rdFp (List.take (48 : Nat) bd)).fst, (fp.rdFp (List.take ((↑bd.length : Int) - (48 : Int)).toNat (List.drop (48 : Nat) bd))).fst)).triv (rg1 b = chk1 ((fp.rdFp (List.take (48 : Nat) bd)).fst, (fp.rdFp (List.take ((↑bd.length : Int) - (48 : Int)).toNat (List.drop (48 : Nat) bd))).fst)))) ∧ ((bitOp BinOp.and IntKind.u8 br (128 : Int) == (0 : Int)) = false → True ∧ True ∧ U64 (4 : Int) ∧ True ∧ True ∧ True ∧ ((!decide ((-(fp.fpSqrt ((fp.rdFp (List.take (48 : Nat) bd)).fst * (fp.rdFp (List.take (48 : Nat) bd)).fst * (fp.rdFp (List.take (48 : Nat) bd)).fst + zmp (4 : Int))).fst).v < (fp.fpSqrt ((fp.rdFp (List.take (48 : Nat) bd)).fst * (fp.rdFp (List.take (48 : Nat) bd)).fst * (fp.rdFp (List.take (48 : Nat) bd)).fst + zmp (4 : Int))).fst.v) == (bitOp BinOp.and IntKind.u8 br (32 : Int) != (0 : Int))) = true → True ∧ (rgD ((fp.rdFp (List.take (48 : Nat) bd)).fst, -(fp.fpSqrt ((fp.rdFp (List.take (48 : Nat) bd)).fst * (fp.rdFp (List.take (48 : Nat) bd)).fst * (fp.rdFp (List.take (48 : Nat) bd)).fst + zmp (4 : Int))).fst)).triv (rg1 b = chk1 ((fp.rdFp (List.take (48 : Nat) bd)).fst, -(fp.fpSqrt ((fp.rdFp (List.take (48 : Nat) bd)).fst * (fp.rdFp (List.take (48 : Nat) bd)).fst * (fp.rdFp (List.take (48 : Nat) bd)).fst + zmp (4 : Int))).fst))) ∧ ((!decide ((-(fp.fpSqrt ((fp.rdFp (List.take (48 : Nat) bd)).fst * (fp.rdFp (List.take (48 : Nat) bd)).fst * (fp.rdFp (List.take (48 : Nat) bd)).fst + zmp (4 : Int))).fst).v < (fp.fpSqrt ((fp.rdFp (List.take (48 : Nat) bd)).fst * (fp.rdFp (List.take (48 : Nat) bd)).fst * (fp.rdFp (List.take (48 : Nat) bd)).fst + zmp (4 : Int))).fst.v) == (bitOp BinOp.and IntKind.u8 br (32 : Int) != (0 : Int))) = false → (rgD ((fp.rdFp (List.take (48 : Nat) bd)).fst, (fp.fpSqrt ((fp.rdFp (List.take (48 : Nat) bd)).fst * (fp.rdFp (List.take (48 : Nat) bd)).fst * (fp.rdFp (List.take (48 : Nat) bd)).fst + zmp (4 : Int))).fst)).triv (rg1 b = chk1 ((fp.rdFp (List.take (48 : Nat) bd)).fst, (fp.fpSqrt ((fp.rdFp (List.take (48 : Nat) bd)).fst * (fp.rdFp (List.take (48 : Nat) bd)).fst * (fp.rdFp (List.take (48 : Nat) bd)).fst + zmp (4 : Int))).fst))))))) (by kernel_rfl) ?_
    rw [s1, s3, show List.take ((bd.length : Int) - 48).toNat (List.drop 48 bd) = List.drop 48 bd from List.take_of_length_le (by simp; omega)]
    have er : rg1 b = if (fp.rdFp (bd.take 48)).2 = 0 then
        if shT b = true then chk1 ((fp.rdFp (bd.take 48)).1, sgn1 (root1 (fp.rdFp (bd.take 48)).1) (lgE b))
        else if (fp.rdFp (bd.drop 48)).2 = 0 then chk1 ((fp.rdFp (bd.take 48)).1, (fp.rdFp (bd.drop 48)).1)
        else ((0, 0), 12)
      else ((0, 0), 12) := by rw [rg1, if_pos k3, if_neg (by rw [k4]; decide), k2]
    have r1 : fp.preRead (bd.take 48, ()) := fun x hx => hbs x (List.mem_of_mem_take hx)
    have r2 : fp.preRead (bd.drop 48, ()) := fun x hx => hbs x (List.mem_of_mem_drop hx)
    generalize hX : (fp.rdFp (bd.take 48)) = X at *
    generalize hY : (fp.rdFp (bd.drop 48)) = Y at *
    rw [show (fp.fpSqrt (X.1 * X.1 * X.1 + zmp 4)).1 = root1 X.1 from rfl]
    refine ⟨⟨by decide, by omega⟩, by omega, r1, fun h => ?_, fun h => ⟨fun h2 => ⟨⟨by decide, by omega⟩, by omega, r2, fun h3 => ?_, fun h3 => triv_intro ?_⟩, fun h2 => ⟨trivial, trivial, ⟨by decide, by decide⟩, trivial, trivial, trivial, fun h3 => ⟨trivial, triv_intro ?_⟩, fun h3 => triv_intro ?_⟩⟩⟩
    · show _ = ((rg1 b).1, (rg1 b).2, ())
      rw [er, if_neg (by simpa using h)]
    · show _ = ((rg1 b).1, (rg1 b).2, ())
      rw [er, if_pos (by simpa using h), if_neg (by simpa using h2), if_neg (by simpa using h3)]
    · rw [er, if_pos (by simpa using h), if_neg (by simpa using h2), if_pos (by simpa using h3)]
    · rw [er, if_pos (by simpa using h), if_pos (by simpa using h2), sgn1, if_neg (by simpa using h3)]
    · rw [er, if_pos (by simpa using h), if_pos (by simpa using h2), sgn1, if_pos (by simpa using h3)]
  intro (p : Fp × Fp) (hp : rg1 b = chk1 p)
  refine tr_vc hsp mixed _ _ ?_
  refine vcx (X := ((eqC (Kd.fp.pair Kd.fp) p ((0 : Fp), (0 : Fp)) = true → (((0 : Fp), (0 : Fp)), (13 : Int), ()) = outRG1 (b, ())) ∧ (eqC (Kd.fp.pair Kd.fp) p ((0 : Fp), (0 : Fp)) = false → True ∧ ((!g1.gon p) = true → (((0 : Fp), (0 : Fp)), (13 : Int), ()) = outRG1 (b, ())) ∧ ((!g1.gon p) = false → True ∧ ((!g1.gin p) = true → (((0 : Fp), (0 : Fp)), (14 : Int), ()) = outRG1 (b, ())) ∧ ((!g1.gin p) = false → (p, (0 : Int), ()) = outRG1 (b, ())))))) (by kernel_rfl) ?_
  rw [eqP]
  refine ⟨fun h => ?_, fun h => ⟨trivial, fun h2 => ?_, fun h2 => ⟨trivial, fun h3 => ?_, fun h3 => ?_⟩⟩⟩
  all_goals show _ = ((rg1 b).1, (rg1 b).2, ())
  all_goals rw [hp, chk1]
  · rw [if_pos (of_decide_eq_true h)]
  · rw [if_neg (of_decide_eq_false h), if_neg (by simpa using h2)]
  · rw [if_neg (of_decide_eq_false h), if_pos (by simpa using h2), if_neg (by simpa using h3)]
  · rw [if_neg (of_decide_eq_false h), if_pos (by simpa using h2), if_pos (by simpa using h3)]
end Go.Proofs.YtbfimfdhmggieaaDoor.codec
/- Polynomials, and Lagrange's weights at 0. No program here. -/
namespace Cr
open Rg Fd
section
variable {F : Type} [Rg F]
end
section
variable {F : Type} [Fd F]
end
end Cr
/- A number's bytes without noughts ahead; Lagrange's sums of points. No program here. -/
namespace Cr
/-- The bytes of n above the lowest 8 - j, without noughts ahead. -/
def byL (n : Int) : Nat → List Int
  | 0 => []
  | j + 1 => if n / p256 (7 - j) = 0 then byL n j else byL n j ++ [n / p256 (7 - j) % 256]
theorem byL_ok {n : Int} (h0 : 0 ≤ n) (h1 : n < p256 8) : ∀ j, j ≤ 8 → Bs (byL n j) ∧ (byL n j).length ≤ j ∧ num (byL n j) = n / p256 (8 - j)
  | 0, _ => ⟨(fun x h => nomatch h), Nat.le_refl _, by
      show (0 : Int) = n / p256 8
      rw [Int.ediv_eq_zero_of_lt h0 h1]⟩
  | j + 1, hj => by
    obtain ⟨h2, h3, h4⟩ := byL_ok h0 h1 j (by omega)
    have e1 : 8 - j = (7 - j) + 1 := by omega
    have e2 : 8 - (j + 1) = 7 - j := by omega
    have hp := p256_pos (7 - j)
    have e3 : n / p256 (8 - j) = n / p256 (7 - j) / 256 := by
      rw [e1]
      show n / (256 * p256 (7 - j)) = _
      rw [Int.mul_comm, Int.ediv_ediv_of_nonneg (Int.le_of_lt hp)]
    have hq : 0 ≤ n / p256 (7 - j) := Int.ediv_nonneg h0 (Int.le_of_lt hp)
    rw [e2]
    unfold byL
    split
    · rename_i e
      refine ⟨h2, by omega, ?_⟩
      rw [h4, e3, e]; rfl
    · refine ⟨?_, by simp; omega, ?_⟩
      · intro x hx
        rcases List.mem_append.1 hx with hx | hx
        · exact h2 x hx
        · simp at hx; subst hx; exact ⟨Int.emod_nonneg _ (by decide), Int.emod_lt_of_pos _ (by decide)⟩
      · rw [num_snoc, h4, e3]
        omega
end Cr
/- poly: size, scalar, bytes, At, Commit. -/
namespace Go.Proofs.YtbfimfdhmggieaaDoor.poly
set_option maxRecDepth 100000
open Go Go.Eng Go.RowKit Cr Go.Proofs.YtbfimfdhmggieaaDoor
theorem ent_size : enters Tryd.prog 146 Tryd.f146 := enters_mk (by kernel_rfl) (by kernel_rfl) (by kernel_rfl)
abbrev pre1I : HL [.int .i64] → Prop := fun (x, _) => preI x
def szI (x : Int) : Int := if x < 0 then -x else x
abbrev outSize : HL [.int .i64] → HO [.val (.int .u64)] := fun (x, _) => (szI x, ())
theorem fn_size : FnOk Tryd.prog 146 [.int .i64] [.val (.int .u64)] noG pre1I outSize := by
  refine fn_of_vc (sp := sps []) sps_nil mixed ent_size (by decide) (by decide) ?_
  rintro w M0 ⟨x, ⟨⟩⟩
  revert x
  intro (x : Int) _ hx
  have hx : -9223372036854775808 ≤ x ∧ x < 9223372036854775808 := hx
  refine vcx (X := ((decide (x < (0 : Int)) = true → (IntKind.u64.wrap ((0 : Int) - IntKind.u64.wrap x), ()) = outSize (x, ())) ∧ (decide (x < (0 : Int)) = false → (IntKind.u64.wrap x, ()) = outSize (x, ())))) (by kernel_rfl) ?_
  refine ⟨fun h => ?_, fun h => ?_⟩
  · have h : x < 0 := of_decide_eq_true h
    show _ = (szI x, ())
    rw [szI, if_pos h, wrap_u64_mod, wrap_u64_mod]
    congr 1
    omega
  · have h : ¬ x < 0 := of_decide_eq_false h
    show _ = (szI x, ())
    rw [szI, if_neg h, wrap_u64 (by omega) (by omega)]
noncomputable def spSize : Nat × Eng.Spec := (146, fnSpec [.int .i64] [.val (.int .u64)] pre1I outSize)
theorem szI_ok {x : Int} (hx : preI x) : 0 ≤ szI x ∧ szI x ≤ 9223372036854775808 := by
  have hx : -9223372036854775808 ≤ x ∧ x < 9223372036854775808 := hx
  unfold szI; split <;> omega

theorem ent_bytes : enters Tryd.prog 138 Tryd.f138 := enters_mk (by kernel_rfl) (by kernel_rfl) (by kernel_rfl)
def bysI (x : Int) : List Int := byL (szI x) 8
abbrev outBytes : HL [.int .i64] → HO [.own (.int .u8)] := fun (x, _) => (bysI x, ())
noncomputable def byI (n : Int) (g : Int × Bool × Nat × List Int) : St := mkSt Tryd.f138.ntmps 48 [(3, bif g.2.1 then .is (.one (.v (.slice none 0 0))) else .is (.one (.sl 8 0 0 g.2.2.1 1))), (4, sI .u64 n), (5, sI .i64 g.1)] (bif g.2.1 then [] else [(8, [.ints .u8 g.2.2.1 g.2.2.2])])
def byJ (n : Int) (g : Int × Bool × Nat × List Int) : Prop := ∃ j : Nat, j ≤ 8 ∧ g.1 = 56 - 8 * (j : Int) ∧ g.2.2.2 = byL n j ∧ g.2.2.1 = g.2.2.2.length ∧ (g.2.1 = true → g.2.2.2 = [])
def byO (n : Int) (g : Int × Bool × Nat × List Int) : Prop := g.2.2.2 = byL n 8 ∧ g.2.2.1 = g.2.2.2.length ∧ (g.2.1 = true → g.2.2.2 = [])
theorem by_pow {j : Nat} (h : j ≤ 7) : (2 : Int) ^ min (Int.toNat (56 - 8 * (j : Int))) IntKind.u64.bits = p256 (7 - j) := by
  have : j = 0 ∨ j = 1 ∨ j = 2 ∨ j = 3 ∨ j = 4 ∨ j = 5 ∨ j = 6 ∨ j = 7 := by omega
  rcases this with rfl | rfl | rfl | rfl | rfl | rfl | rfl | rfl <;> rfl
theorem wrap_u8 (a : Int) : IntKind.u8.wrap a = a % 256 := by simp [IntKind.wrap, IntKind.signed, IntKind.bits]
/-- One round of bytes. -/
theorem by_step {n s : Int} {e : Bool} {m : Nat} {l : List Int} (hj : byJ n (s, e, m, l)) (hs : s ≥ 0) : IntKind.i64.wrap (s - 8) = s - 8 ∧
    (n.fdiv (2 ^ min (Int.toNat s) IntKind.u64.bits) ≠ 0 → byJ n (s - 8, false, m + 1, l ++ [IntKind.u8.wrap (n.fdiv (2 ^ min (Int.toNat s) IntKind.u64.bits))])) ∧
    (n.fdiv (2 ^ min (Int.toNat s) IntKind.u64.bits) = 0 → byJ n (s - 8, e, m, l)) := by
  obtain ⟨j, hj, h1, h2, h3, h4⟩ := hj
  have h1 : s = 56 - 8 * (j : Int) := h1
  have h2 : l = byL n j := h2
  have h3 : m = l.length := h3
  have hj7 : j ≤ 7 := by omega
  have ep : n.fdiv (2 ^ min (Int.toNat s) IntKind.u64.bits) = n / p256 (7 - j) := by
    rw [h1, by_pow hj7, Int.fdiv_eq_ediv_of_nonneg _ (Int.le_of_lt (p256_pos _))]
  rw [ep, wrap_u8]
  refine ⟨wrap_i64' (by omega) (by omega), fun h => ⟨j + 1, by omega, by show s - 8 = _; omega, ?_, by show m + 1 = _; simp [h3], fun h => nomatch h⟩, fun h => ⟨j + 1, by omega, by show s - 8 = _; omega, ?_, h3, h4⟩⟩
  · show l ++ _ = byL n (j + 1)
    rw [byL, if_neg h, h2]
  · show l = byL n (j + 1)
    rw [byL, if_pos h, h2]
theorem by_end {n s : Int} {e : Bool} {m : Nat} {l : List Int} (hj : byJ n (s, e, m, l)) (hs : ¬ s ≥ 0) : byO n (s, e, m, l) := by
  obtain ⟨j, hj, h1, h2, h3, h4⟩ := hj
  have h1 : s = 56 - 8 * (j : Int) := h1
  have : j = 8 := by omega
  subst this
  exact ⟨h2, h3, h4⟩
theorem fn_bytes : FnOk Tryd.prog 138 [.int .i64] [.own (.int .u8)] noG pre1I outBytes := by
  have hsp : SpecsOk Tryd.prog (sps [spSize]) := (sps_cons (fnSpec_ok fn_size) sps_nil)
  refine fn_of_tr (sp := sps [spSize]) ent_bytes (by decide) (by decide) (by kernel_rfl) ?_
  rintro w M0 ⟨x, ⟨⟩⟩
  revert x
  intro (x : Int) _ hx
  have hz := szI_ok hx
  show Tr _ _ _ _ _ _ _
  refine tr_cut hsp mixed 4 (byI (szI x) (56, true, 0, [])) True ?_ (fun _ => ?_)
  · refine vcx (X := (pre1I (x, ()) ∧ (byI (szI x) ((56 : Int), true, (0 : Nat), [])).triv True)) (by kernel_rfl) ?_
    exact ⟨hx, triv_intro trivial⟩
  refine tr_while hsp mixed (fun σ => [(8, rdI 3 σ)]) (fun σ => (rdS (.int .i64) 5 σ, rdE 3 σ, rdL 3 σ, rdR (.int .u8) 8 σ)) (byI (szI x)) (byJ (szI x)) (fun g => (g.1 + 8).toNat)
    (fun σ => (rdS (.int .i64) 5 σ, rdE 3 σ, rdL 3 σ, rdR (.int .u8) 8 σ)) (byI (szI x)) (byO (szI x)) (56, true, 0, []) (c := nthC (codeOf Tryd.f138) 4) (by kernel_rfl) (by kernel_rfl) (le_of_proj (by kernel_rfl) (by kernel_rfl) ?_) ?_ ?_
  · exact ⟨0, by decide, rfl, rfl, rfl, fun _ => rfl⟩
  · rintro ⟨s, e, m, l⟩ hj
    revert s l
    intro (s : Int) (l : List Int) hj
    have hjj := hj
    obtain ⟨j, hj8, h1, h2, h3, h4⟩ := hjj
    have h1 : s = 56 - 8 * (j : Int) := h1
    have k3 : m = l.length := h3
    have hm8 : m ≤ 8 := by
      have := (byL_ok hz.1 (show szI x < p256 8 from Int.lt_of_le_of_lt hz.2 (by decide)) j hj8).2.1
      have h2 : l = byL (szI x) j := h2
      rw [k3, h2]; omega
    cases e with
    | true =>
      have hl : l = [] := h4 rfl
      subst hl
      have hm : m = 0 := k3
      subst hm
      refine vcx (X := ((decide (s ≥ (0 : Int)) = true → (0 : Int) ≤ s ∧ (((szI x).fdiv ((2 : Int) ^ min s.toNat IntKind.u64.bits) != (0 : Int)) = true → (0 : Nat) + (1 : Nat) ≤ (1 : Nat) ∧ (1 : Nat) * (1 : Nat) ≤ (140737488355328 : Nat) ∧ (1 : Nat) ≤ (4611686018427387904 : Nat) ∧ (byI (szI x) (IntKind.i64.wrap (s - (8 : Int)), false, (1 : Nat), [IntKind.u8.wrap ((szI x).fdiv ((2 : Int) ^ min s.toNat IntKind.u64.bits))])).triv (byJ (szI x) (IntKind.i64.wrap (s - (8 : Int)), false, (1 : Nat), [IntKind.u8.wrap ((szI x).fdiv ((2 : Int) ^ min s.toNat IntKind.u64.bits))]) ∧ Int.toNat (IntKind.i64.wrap (s - (8 : Int)) + (8 : Car (Kd.int IntKind.i64))) < Int.toNat (s + (8 : Car (Kd.int IntKind.i64))))) ∧ (((szI x).fdiv ((2 : Int) ^ min s.toNat IntKind.u64.bits) != (0 : Int)) = false → (byI (szI x) (IntKind.i64.wrap (s - (8 : Int)), true, (0 : Nat), [])).triv (byJ (szI x) (IntKind.i64.wrap (s - (8 : Int)), true, (0 : Nat), []) ∧ Int.toNat (IntKind.i64.wrap (s - (8 : Int)) + (8 : Car (Kd.int IntKind.i64))) < Int.toNat (s + (8 : Car (Kd.int IntKind.i64)))))) ∧ (decide (s ≥ (0 : Int)) = false → (byI (szI x) (s, true, (0 : Nat), [])).triv (byO (szI x) (s, true, (0 : Nat), []))))) (by kernel_rfl) ?_
      refine ⟨fun h => ?_, fun h => triv_intro (by_end hj (of_decide_eq_false h))⟩
      have h : s ≥ 0 := of_decide_eq_true h
      obtain ⟨e1, e2, e3⟩ := by_step hj h
      rw [e1]
      refine ⟨h, fun h5 => ⟨by decide, by decide, by decide, triv_intro ⟨e2 (by simpa using h5), by show (s - 8 + 8).toNat < (s + 8).toNat; omega⟩⟩, fun h5 => triv_intro ⟨e3 (by simpa using h5), by show (s - 8 + 8).toNat < (s + 8).toNat; omega⟩⟩
    | false =>
      refine vcx (X := ((decide (s ≥ (0 : Int)) = true → (0 : Int) ≤ s ∧ (((szI x).fdiv ((2 : Int) ^ min s.toNat IntKind.u64.bits) != (0 : Int)) = true → (0 : Nat) + (1 : Nat) ≤ (1 : Nat) ∧ m ≤ m ∧ (m + (1 : Nat)) * (1 : Nat) ≤ (140737488355328 : Nat) ∧ m + (1 : Nat) ≤ (4611686018427387904 : Nat) ∧ (byI (szI x) (IntKind.i64.wrap (s - (8 : Int)), false, m + (1 : Nat), List.take m l ++ List.take (1 : Nat) [IntKind.u8.wrap ((szI x).fdiv ((2 : Int) ^ min s.toNat IntKind.u64.bits))])).triv (byJ (szI x) (IntKind.i64.wrap (s - (8 : Int)), false, m + (1 : Nat), List.take m l ++ List.take (1 : Nat) [IntKind.u8.wrap ((szI x).fdiv ((2 : Int) ^ min s.toNat IntKind.u64.bits))]) ∧ Int.toNat (IntKind.i64.wrap (s - (8 : Int)) + (8 : Car (Kd.int IntKind.i64))) < Int.toNat (s + (8 : Car (Kd.int IntKind.i64))))) ∧ (((szI x).fdiv ((2 : Int) ^ min s.toNat IntKind.u64.bits) != (0 : Int)) = false → (byI (szI x) (IntKind.i64.wrap (s - (8 : Int)), false, m, l)).triv (byJ (szI x) (IntKind.i64.wrap (s - (8 : Int)), false, m, l) ∧ Int.toNat (IntKind.i64.wrap (s - (8 : Int)) + (8 : Car (Kd.int IntKind.i64))) < Int.toNat (s + (8 : Car (Kd.int IntKind.i64)))))) ∧ (decide (s ≥ (0 : Int)) = false → (byI (szI x) (s, false, m, l)).triv (byO (szI x) (s, false, m, l))))) (by kernel_rfl) ?_
      refine ⟨fun h => ?_, fun h => triv_intro (by_end hj (of_decide_eq_false h))⟩
      have h : s ≥ 0 := of_decide_eq_true h
      obtain ⟨e1, e2, e3⟩ := by_step hj h
      rw [e1, show List.take m l = l by rw [k3, List.take_length]]
      refine ⟨h, fun h5 => ⟨by decide, Nat.le_refl _, by omega, by omega, triv_intro ⟨e2 (by simpa using h5), by show (s - 8 + 8).toNat < (s + 8).toNat; omega⟩⟩, fun h5 => triv_intro ⟨e3 (by simpa using h5), by show (s - 8 + 8).toNat < (s + 8).toNat; omega⟩⟩
  rintro ⟨s, e, m, l⟩ ho
  revert s l
  intro (s : Int) (l : List Int) ⟨h1, h2, h3⟩
  have k1 : l = byL (szI x) 8 := h1
  have k2 : m = l.length := h2
  refine tr_vc hsp mixed _ _ ?_
  cases e with
  | true =>
    have hl : l = [] := h3 rfl
    refine vcx (X := (([], ()) = outBytes (x, ()))) (by kernel_rfl) ?_
    show _ = (byL (szI x) 8, ())
    rw [← k1, hl]
  | false =>
    refine vcx (X := ((0 : Nat) + m ≤ m ∧ (List.take m l, ()) = outBytes (x, ()))) (by kernel_rfl) ?_
    rw [show List.take m l = l by rw [k2, List.take_length], k1]
    exact ⟨by omega, rfl⟩
noncomputable def spBytes : Nat × Eng.Spec := (138, fnSpec [.int .i64] [.own (.int .u8)] pre1I outBytes)

end Go.Proofs.YtbfimfdhmggieaaDoor.poly
namespace Go.Proofs.YtbfimfdhmggieaaDoor.poly
set_option maxRecDepth 100000
open Go Go.Eng Go.RowKit Cr Go.Proofs.YtbfimfdhmggieaaDoor
theorem ent_cat : enters Tryd.prog 116 Tryd.f116 := enters_mk (by kernel_rfl) (by kernel_rfl) (by kernel_rfl)
/-- What Public.At computes. -/
noncomputable def catS (x : Int) (s : Fp × Fp) : Fp × Fp := if x < 0 then g1.gneg (g1.gtms s (bysI x)) else g1.gtms s (bysI x)
noncomputable def catF (x : Int) : List (Fp × Fp) → Fp × Fp
  | [] => (0, 0)
  | p :: l => g1.gadd (catS x (catF x l)) p
abbrev preCat : HL [.sl pt1, .int .i64] → Prop := fun (c, x, _) => List.length c < 4611686018427387904 ∧ preI x
noncomputable abbrev outCat : HL [.sl pt1, .int .i64] → HO [.val pt1] := fun (c, x, _) => (catF x c, ())
noncomputable def catI (c : List (Fp × Fp)) (x : Int) (g : Int × (Fp × Fp)) : St := mkSt Tryd.f116.ntmps 72 [(0, .is (.one (.ro pt1 c))), (1, sI .i64 x), (4, .is (.one (.ptr 0 0))), (5, .is (.one (.sl 16 0 0 (bysI x).length 1))), (6, .is (.one (.ptr 32 0))), (7, sI .i64 g.1)] [(0, g1.pc (0, 0)), (16, [.ints .u8 (bysI x).length (bysI x)]), (32, g1.pc g.2)]
def catJ (c : List (Fp × Fp)) (x : Int) (g : Int × (Fp × Fp)) : Prop := ∃ k : Nat, k ≤ c.length ∧ g.1 = (k : Int) - 1 ∧ g.2 = catF x (c.drop k)
def catO (c : List (Fp × Fp)) (x : Int) (g : Int × (Fp × Fp)) : Prop := g.2 = catF x c
theorem bysI_ok {x : Int} (hx : preI x) : Bs (bysI x) ∧ (bysI x).length ≤ 8 ∧ num (bysI x) = szI x := by
  have hz := szI_ok hx
  have h := byL_ok hz.1 (show szI x < p256 8 from Int.lt_of_le_of_lt hz.2 (by decide)) 8 (by decide)
  refine ⟨h.1, h.2.1, ?_⟩
  rw [show num (bysI x) = szI x / p256 (8 - 8) from h.2.2]
  exact Int.ediv_one _
theorem fn_cat : FnOk Tryd.prog 116 [.sl pt1, .int .i64] [.val pt1] noG preCat outCat := by
  have hsp : SpecsOk Tryd.prog (sps [spBytes, g1.soTimes, g1.soNeg, g1.soAdd]) := (sps_cons (fnSpec_ok fn_bytes) (sps_cons (fnSpec_ok g1.fo_times) (sps_cons (fnSpec_ok g1.fo_neg) (sps_cons (fnSpec_ok g1.fo_add) sps_nil))))
  refine fn_of_tr (sp := sps [spBytes, g1.soTimes, g1.soNeg, g1.soAdd]) ent_cat (by decide) (by decide) (by kernel_rfl) ?_
  rintro w M0 ⟨c, x, ⟨⟩⟩
  revert c x
  intro (c : List (Fp × Fp)) (x : Int) _ hp
  obtain ⟨hl, hx⟩ := hp
  have hl : c.length < 4611686018427387904 := hl
  show Tr _ _ _ _ _ _ _
  obtain ⟨b1, b2, b3⟩ := bysI_ok hx
  have ew : IntKind.i64.wrap ((c.length : Int) - 1) = (c.length : Int) - 1 := wrap_i64' (by omega) (by omega)
  refine tr_cut hsp mixed 4 (catI c x (IntKind.i64.wrap ((c.length : Int) - 1), (0, 0))) True ?_ (fun _ => ?_)
  · refine vcx (X := (pre1I (x, ()) ∧ (catI c x (IntKind.i64.wrap ((↑c.length : Int) - (1 : Int)), (0 : Fp), (0 : Fp))).triv True)) (by kernel_rfl) ?_
    exact ⟨hx, triv_intro trivial⟩
  refine tr_while hsp mixed noSw (fun σ => (rdS (.int .i64) 7 σ, rdB pt1 32 σ)) (catI c x) (catJ c x) (fun g => (g.1 + 1).toNat)
    (fun σ => (rdS (.int .i64) 7 σ, rdB pt1 32 σ)) (catI c x) (catO c x) (IntKind.i64.wrap ((c.length : Int) - 1), (0, 0)) (c := nthC (codeOf Tryd.f116) 4) (by kernel_rfl) (by kernel_rfl) (le_of_proj (by kernel_rfl) (by kernel_rfl) ?_) ?_ ?_
  · refine ⟨c.length, Nat.le_refl _, ew, ?_⟩
    show (0, 0) = _
    rw [List.drop_length]; rfl
  · rintro ⟨i, s⟩ hj
    revert i s
    intro (i : Int) (s : Fp × Fp) ⟨k, hk, ei, es⟩
    have ei : i = (k : Int) - 1 := ei
    have es : s = catF x (c.drop k) := es
    refine vcx (X := ((decide (i ≥ (0 : Int)) = true → (0 : Nat) + (bysI x).length ≤ (bysI x).length ∧ g1.preTimes (s, List.take (bysI x).length (bysI x), ()) ∧ (decide (x < (0 : Int)) = true → True ∧ ((0 : Int) ≤ i ∧ i < (↑c.length : Int)) ∧ i.toNat < c.length ∧ True ∧ (catI c x (IntKind.i64.wrap (i - (1 : Int)), g1.gadd (g1.gneg (g1.gtms s (List.take (bysI x).length (bysI x)))) (c.getD i.toNat ((0 : Fp), (0 : Fp))))).triv (catJ c x (IntKind.i64.wrap (i - (1 : Int)), g1.gadd (g1.gneg (g1.gtms s (List.take (bysI x).length (bysI x)))) (c.getD i.toNat ((0 : Fp), (0 : Fp)))) ∧ Int.toNat (IntKind.i64.wrap (i - (1 : Int)) + (1 : Car (Kd.int IntKind.i64))) < Int.toNat (i + (1 : Car (Kd.int IntKind.i64))))) ∧ (decide (x < (0 : Int)) = false → ((0 : Int) ≤ i ∧ i < (↑c.length : Int)) ∧ i.toNat < c.length ∧ True ∧ (catI c x (IntKind.i64.wrap (i - (1 : Int)), g1.gadd (g1.gtms s (List.take (bysI x).length (bysI x))) (c.getD i.toNat ((0 : Fp), (0 : Fp))))).triv (catJ c x (IntKind.i64.wrap (i - (1 : Int)), g1.gadd (g1.gtms s (List.take (bysI x).length (bysI x))) (c.getD i.toNat ((0 : Fp), (0 : Fp)))) ∧ Int.toNat (IntKind.i64.wrap (i - (1 : Int)) + (1 : Car (Kd.int IntKind.i64))) < Int.toNat (i + (1 : Car (Kd.int IntKind.i64)))))) ∧ (decide (i ≥ (0 : Int)) = false → (catI c x (i, s)).triv (catO c x (i, s))))) (by kernel_rfl) ?_
    have pt : g1.preTimes (s, (bysI x).take (bysI x).length, ()) := by rw [List.take_length]; exact ⟨b1, by show (bysI x).length < _; omega⟩
    refine ⟨fun h => ?_, fun h => triv_intro ?_⟩
    · have h : i ≥ 0 := of_decide_eq_true h
      have hik : i = ((k - 1 : Nat) : Int) := by omega
      have hk1 : k - 1 < c.length := by omega
      have hd : c.drop (k - 1) = c[k - 1] :: c.drop k := by
        rw [List.drop_eq_getElem_cons hk1, show k - 1 + 1 = k by omega]
      have hg : c.getD i.toNat (0, 0) = c[k - 1] := by rw [hik, Int.toNat_natCast, List.getD_eq_getElem?_getD, List.getElem?_eq_getElem hk1, Option.getD_some]
      have ew' : IntKind.i64.wrap (i - 1) = i - 1 := wrap_i64' (by omega) (by omega)
      rw [ew', hg]
      rw [List.take_length] at pt ⊢
      refine ⟨by omega, pt, fun hx0 => ⟨trivial, ⟨h, by omega⟩, by omega, trivial, triv_intro ⟨⟨k - 1, by omega, by show i - 1 = _; omega, ?_⟩, by show (i - 1 + 1).toNat < (i + 1).toNat; omega⟩⟩, fun hx0 => ⟨⟨h, by omega⟩, by omega, trivial, triv_intro ⟨⟨k - 1, by omega, by show i - 1 = _; omega, ?_⟩, by show (i - 1 + 1).toNat < (i + 1).toNat; omega⟩⟩⟩
      · show g1.gadd _ _ = catF x (c.drop (k - 1))
        rw [hd, catF, catS, if_pos (of_decide_eq_true hx0), es]
      · show g1.gadd _ _ = catF x (c.drop (k - 1))
        rw [hd, catF, catS, if_neg (of_decide_eq_false hx0), es]
    · have h : ¬ i ≥ 0 := of_decide_eq_false h
      have : k = 0 := by omega
      subst this
      exact es
  rintro ⟨i, s⟩ hj
  revert i s
  intro (i : Int) (s : Fp × Fp) (hj : s = catF x c)
  refine tr_vc hsp mixed _ _ ?_
  refine vcx (X := ((s, ()) = outCat (c, x, ()))) (by kernel_rfl) ?_
  rw [hj]
noncomputable def spCat : Nat × Eng.Spec := (116, fnSpec [.sl pt1, .int .i64] [.val pt1] preCat outCat)
end Go.Proofs.YtbfimfdhmggieaaDoor.poly
