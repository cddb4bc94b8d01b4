/- CodecOneForm, for every input: true; the input reads as it did. No condition. -/
import Derived.Test.YtlhgcbmanifpiaaML09oPS
/- What rows ask of their arguments. -/
namespace Go.Proofs.Ytlhgcbmanifpiaa
open Go Go.Eng Cr
abbrev bsl : Kd := .sl (.int .u8)
/-- Bytes of an input. -/
abbrev preB (b : List Int) : Prop := Bs b ∧ List.length b ≤ 281474976710656
abbrev preBB (bs : List (List Int)) : Prop := (∀ b ∈ bs, preB b) ∧ List.length bs ≤ 281474976710656
abbrev preW (x : Int) : Prop := 0 ≤ x ∧ x < 65536
abbrev preY (x : Int) : Prop := 0 ≤ x ∧ x < 256
abbrev preI (x : Int) : Prop := -9223372036854775808 ≤ x ∧ x < 9223372036854775808
abbrev preL (_ : Bool) : Prop := True
abbrev preIS (xs : List Int) : Prop := (∀ x ∈ xs, preI x) ∧ List.length xs ≤ 17592186044416
end Go.Proofs.Ytlhgcbmanifpiaa
/- Helpers of laws. -/
namespace Go.Proofs.Ytlhgcbmanifpiaa
open Go Go.Eng Cr
abbrev eq2 (p q : Fp × Fp) : Bool := decide (p.1 = q.1) && decide (p.2 = q.2)
theorem eq2_eq (p q : Fp × Fp) : eq2 p q = decide (p = q) := dec_pair p q
theorem eq2_of {p q : Fp × Fp} (h : p = q) : eq2 p q = true := by rw [eq2_eq]; exact decide_eq_true h
theorem ne2_of {p q : Fp × Fp} (h : p ≠ q) : (!eq2 p q) = true := by rw [eq2_eq]; simp [h]
/-- A test that must hold: else the answer is false. -/
def Ck (c : Bool) (T : Prop) : Prop := (c = true → T) ∧ (c = false → ((false, ()) : Bool × Unit) = (true, ()))
theorem ck {c : Bool} {T : Prop} (h : c = true) (t : T) : Ck c T := ⟨fun _ => t, fun e => by rw [h] at e; cases e⟩
/-- A test that must fail: else the answer is false. -/
def Cn (c : Bool) (T : Prop) : Prop := (c = true → ((false, ()) : Bool × Unit) = (true, ())) ∧ (c = false → T)
theorem cn {c : Bool} {T : Prop} (h : c = false) (t : T) : Cn c T := ⟨fun e => absurd e (by rw [h]; decide), fun _ => t⟩
theorem eqP (a b : Fp × Fp) : eqC (.pair .fp .fp) a b = decide (a = b) := by
  have h := eqC_iff (e := .pair .fp .fp) a b
  rw [Bool.eq_iff_iff, h, decide_eq_true_iff]
theorem eqF (a b : Fp) : eqC .fp a b = decide (a = b) := rfl
theorem eqR (a b : Fr) : eqC .fr a b = decide (a = b) := rfl
abbrev ok (b : Bool) : Prop := ((b, ()) : Bool × Unit) = (true, ())
end Go.Proofs.Ytlhgcbmanifpiaa
/- fp2.Bytes, fp2.Large; codec: part. -/
namespace Go.Proofs.Ytlhgcbmanifpiaa.fp2
set_option maxRecDepth 100000
open Go Go.Eng Go.RowKit Cr Go.Proofs.Ytlhgcbmanifpiaa
theorem ent_bytes : enters Try.prog 124 Try.f124 := enters_mk (by kernel_rfl) (by kernel_rfl) (by kernel_rfl)
def by2 (x : F2) : List Int := bytesN 48 x.2.v ++ bytesN 48 x.1.v
abbrev outBytes : HL [f2] → HO [.val (.arr 96 (.int .u8))] := fun (x, _) => (by2 x, ())
theorem fn_bytes : FnOk Try.prog 124 [f2] [.val (.arr 96 (.int .u8))] noG (fun _ => True) outBytes := by
  refine fn_of_vc (sp := sps [fp.spBytes]) (sps_cons (fnSpec_ok fp.fn_bytes) sps_nil) mixed ent_bytes (by decide) (by decide) ?_
  rintro w M0 ⟨x, ⟨⟩⟩
  revert x
  intro (x : F2) _ _
  exact vcx (X := (True ∧ True ∧ ((0 : Int) ≤ 48 ∧ (48 : Int) ≤ ((96 : Nat) : Int)) ∧ (0 : Nat) + 48 ≤ 48 ∧ (0 : Nat) + 48 ≤ 96 ∧ ((0 : Int) ≤ 48 ∧ (48 : Int) ≤ ((96 : Nat) : Int)) ∧ (0 : Nat) + 48 ≤ 48 ∧ (48 : Nat) + 48 ≤ 96 ∧ ((by2 x, ()) : List Int × Unit) = outBytes (x, ()))) (by kernel_rfl) ⟨trivial, trivial, by decide, by decide, by decide, by decide, by decide, by decide, rfl⟩
noncomputable def spBytes : Nat × Eng.Spec := (124, fnSpec [f2] [.val (.arr 96 (.int .u8))] (fun _ => True) outBytes)
theorem ent_large : enters Try.prog 44 Try.f44 := enters_mk (by kernel_rfl) (by kernel_rfl) (by kernel_rfl)
def lg2 (x : F2) : Bool := if x.2 = 0 then decide ((-x.1).v < x.1.v) else decide ((-x.2).v < x.2.v)
abbrev outLarge : HL [f2] → HO [.val .bool] := fun (x, _) => (lg2 x, ())
theorem fn_large : FnOk Try.prog 44 [f2] [.val .bool] noG (fun _ => True) outLarge := by
  refine fn_of_vc (sp := sps [fp.spZero, fp.spLarge]) (sps_cons (fnSpec_ok fp.fn_zero) (sps_cons (fnSpec_ok fp.fn_large) sps_nil)) mixed ent_large (by decide) (by decide) ?_
  rintro w M0 ⟨x, ⟨⟩⟩
  revert x
  intro (x : F2) _ _
  refine vcx (X := (True ∧ (decide (x.snd = (0 : Zm Mp)) = true → True ∧ (decide ((-x.fst).v < x.fst.v), ()) = outLarge (x, ())) ∧ (decide (x.snd = (0 : Zm Mp)) = false → True ∧ (decide ((-x.snd).v < x.snd.v), ()) = outLarge (x, ())))) (by kernel_rfl) ?_
  refine ⟨trivial, fun h => ⟨trivial, ?_⟩, fun h => ⟨trivial, ?_⟩⟩
  · show _ = (lg2 x, ())
    rw [lg2, if_pos (of_decide_eq_true h)]
  · show _ = (lg2 x, ())
    rw [lg2, if_neg (of_decide_eq_false h)]
noncomputable def spLarge : Nat × Eng.Spec := (44, fnSpec [f2] [.val .bool] (fun _ => True) outLarge)
end Go.Proofs.Ytlhgcbmanifpiaa.fp2
namespace Go.Proofs.Ytlhgcbmanifpiaa.codec
set_option maxRecDepth 100000
open Go Go.Eng Go.RowKit Cr Go.Proofs.Ytlhgcbmanifpiaa
theorem ent_part : enters Try.prog 91 Try.f91 := enters_mk (by kernel_rfl) (by kernel_rfl) (by kernel_rfl)
/-- The marks, the bytes without them. -/
def brs (b : List Int) : Int := bitOp .and .u8 (b.getD 0 0) 224
def bdy (b : List Int) : List Int := b.set 0 (bitOp .andNot .u8 (b.getD 0 0) 224)
def shT (b : List Int) : Bool := bitOp .and .u8 (brs b) 128 != 0
def inF (b : List Int) : Bool := bitOp .and .u8 (brs b) 64 != 0
def lgE (b : List Int) : Bool := bitOp .and .u8 (brs b) 32 != 0
/-- What part answers. -/
def partF (b : List Int) (n : Int) : List Int × Int × Int :=
  if (b.length : Int) ≠ n ∧ (b.length : Int) ≠ 2 * n then ([], 0, 10)
  else if shT b ≠ decide ((b.length : Int) = n) then ([], 0, 11)
  else if lgE b = true ∧ (shT b = false ∨ inF b = true) then ([], 0, 11)
  else if inF b = true ∧ ∃ v ∈ bdy b, v ≠ 0 then ([], 0, 11)
  else (bdy b, brs b, 0)
abbrev prePart : HL [.sl (.int .u8), .int .i64] → Prop := fun (b, n, _) => (Bs b ∧ List.length b ≤ 1000000) ∧ 1 ≤ (n : Int) ∧ (n : Int) ≤ 1000
abbrev outPart : HL [.sl (.int .u8), .int .i64] → HO [.own (.int .u8), .val (.int .u8), .val (.int .i64)] := fun (b, n, _) => ((partF b n).1, (partF b n).2.1, (partF b n).2.2, ())
noncomputable def paC (b : List Int) (n : Int) (g : Int × List Int) : St := mkSt Try.f91.ntmps 200 [(0, .is (.one (.ro (.int .u8) b))), (1, sI .i64 n), (4, .is (.one (.v (.slice none 0 0)))), (5, sI .u8 0), (6, sI .i64 0), (7, .is (.one (.sl 120 0 0 b.length 1))), (8, sI .u8 g.1)] [(120, [.ints .u8 b.length g.2])]
def paK (b : List Int) (n : Int) (g : Int × List Int) : Prop := g.1 = brs b ∧ g.2 = bdy b ∧ 1 ≤ b.length ∧ ((b.length : Int) = n ∨ (b.length : Int) = 2 * n)
noncomputable def paD (b : List Int) (br : Int) (bd : List Int) : St := mkSt Try.f91.ntmps 392 [(4, .is (.one (.v (.slice none 0 0)))), (5, sI .u8 0), (6, sI .i64 0), (7, .is (.one (.sl 120 0 0 b.length 1))), (8, sI .u8 br), (56, .is (.one (.v (.bool (bitOp .and .u8 br 64 != 0)))))] [(120, [.ints .u8 b.length bd])]
noncomputable def paE (b : List Int) (br : Int) (bd : List Int) (g : Int) : St := mkSt Try.f91.ntmps 416 [(4, .is (.one (.v (.slice none 0 0)))), (5, sI .u8 0), (6, sI .i64 0), (7, .is (.one (.sl 120 0 0 b.length 1))), (8, sI .u8 br), (57, .is (.one (.sl 120 0 0 b.length 1))), (58, sI .i64 b.length), (59, sI .i64 g)] [(120, [.ints .u8 b.length bd])]
def paJ (bd : List Int) (g : Int) : Prop := ∃ k : Nat, k ≤ bd.length ∧ g = (k : Int) ∧ ∀ t, t < k → bd.getD t 0 = 0
theorem fn_part : FnOk Try.prog 91 [.sl (.int .u8), .int .i64] [.own (.int .u8), .val (.int .u8), .val (.int .i64)] noG prePart outPart := by
  have hsp : SpecsOk Try.prog (sps []) := sps_nil
  refine fn_of_tr (sp := sps []) ent_part (by decide) (by decide) (by kernel_rfl) ?_
  rintro w M0 ⟨b, n, ⟨⟩⟩
  revert b n
  intro (b : List Int) (n : Int) _ hp
  obtain ⟨⟨hb, hl⟩, hn1, hn2⟩ := hp
  have hl : b.length ≤ 1000000 := hl
  have hn1 : 1 ≤ n := hn1
  have hn2 : n ≤ 1000 := hn2
  show Tr _ _ _ _ _ _ _
  have e2n : IntKind.i64.wrap (2 * n) = 2 * n := wrap_i64' (by omega) (by omega)
  refine tr_cutF hsp mixed 6 (fun σ => (rdS (.int .u8) 8 σ, rdR (.int .u8) 120 σ)) (paC b n) (paK b n) ?_ ?_
  · refine vcx (X := ((((↑b.length : Int) != n) = true → (((↑b.length : Int) != IntKind.i64.wrap ((2 : Int) * n)) = true → ([], (0 : Int), (10 : Int), ()) = outPart (b, n, ())) ∧ (((↑b.length : Int) != IntKind.i64.wrap ((2 : Int) * n)) = false → b.length * (1 : Nat) ≤ (140737488355328 : Nat) ∧ b.length ≤ (4611686018427387904 : Nat) ∧ ((0 : Int) ≤ (0 : Int) ∧ (0 : Int) < (↑b.length : Int)) ∧ (0 : Nat) < b.length ∧ ((0 : Int) ≤ (0 : Int) ∧ (0 : Int) < (↑b.length : Int)) ∧ (0 : Nat) < b.length ∧ ((0 : Int) ≤ (0 : Int) ∧ (0 : Int) < (↑b.length : Int)) ∧ (0 : Nat) < b.length ∧ (paC b n (bitOp BinOp.and IntKind.u8 (b.getD (0 : Nat) (0 : Int)) (224 : Int), b.set (0 : Nat) (bitOp BinOp.andNot IntKind.u8 (b.getD (0 : Nat) (0 : Int)) (224 : Int)))).triv (paK b n (bitOp BinOp.and IntKind.u8 (b.getD (0 : Nat) (0 : Int)) (224 : Int), b.set (0 : Nat) (bitOp BinOp.andNot IntKind.u8 (b.getD (0 : Nat) (0 : Int)) (224 : Int)))))) ∧ (((↑b.length : Int) != n) = false → b.length * (1 : Nat) ≤ (140737488355328 : Nat) ∧ b.length ≤ (4611686018427387904 : Nat) ∧ ((0 : Int) ≤ (0 : Int) ∧ (0 : Int) < (↑b.length : Int)) ∧ (0 : Nat) < b.length ∧ ((0 : Int) ≤ (0 : Int) ∧ (0 : Int) < (↑b.length : Int)) ∧ (0 : Nat) < b.length ∧ ((0 : Int) ≤ (0 : Int) ∧ (0 : Int) < (↑b.length : Int)) ∧ (0 : Nat) < b.length ∧ (paC b n (bitOp BinOp.and IntKind.u8 (b.getD (0 : Nat) (0 : Int)) (224 : Int), b.set (0 : Nat) (bitOp BinOp.andNot IntKind.u8 (b.getD (0 : Nat) (0 : Int)) (224 : Int)))).triv (paK b n (bitOp BinOp.and IntKind.u8 (b.getD (0 : Nat) (0 : Int)) (224 : Int), b.set (0 : Nat) (bitOp BinOp.andNot IntKind.u8 (b.getD (0 : Nat) (0 : Int)) (224 : Int))))))) (by kernel_rfl) ?_
    rw [e2n]
    have bl : ∀ h : 1 ≤ b.length, b.length * 1 ≤ 140737488355328 ∧ b.length ≤ 4611686018427387904 ∧ ((0 : Int) ≤ 0 ∧ (0 : Int) < (b.length : Int)) ∧ 0 < b.length := fun h => ⟨by omega, by omega, ⟨by omega, by omega⟩, by omega⟩
    refine ⟨fun h => ⟨fun h' => ?_, fun h' => ?_⟩, fun h => ?_⟩
    · show _ = ((partF b n).1, (partF b n).2.1, (partF b n).2.2, ())
      rw [partF, if_pos ⟨by simpa using h, by simpa using h'⟩]
    · have h' : (b.length : Int) = 2 * n := by simpa using h'
      have hb1 : 1 ≤ b.length := by omega
      obtain ⟨c1, c2, c3, c4⟩ := bl hb1
      exact ⟨c1, c2, c3, c4, c3, c4, c3, c4, triv_intro ⟨rfl, rfl, hb1, .inr h'⟩⟩
    · have h : (b.length : Int) = n := by simpa using h
      have hb1 : 1 ≤ b.length := by omega
      obtain ⟨c1, c2, c3, c4⟩ := bl hb1
      exact ⟨c1, c2, c3, c4, c3, c4, c3, c4, triv_intro ⟨rfl, rfl, hb1, .inl h⟩⟩
  rintro ⟨br, bd⟩ hK
  revert br bd
  intro (br : Int) (bd : List Int) ⟨k1, k2, k3, k4⟩
  have k1 : br = brs b := k1
  have k2 : bd = bdy b := k2
  have hlen : ¬ ((b.length : Int) ≠ n ∧ (b.length : Int) ≠ 2 * n) := by omega
  refine tr_cut hsp mixed 5 (paD b br bd) (shT b = decide ((b.length : Int) = n) ∧ ¬ (lgE b = true ∧ (shT b = false ∨ inF b = true))) ?_ (fun hk => ?_)
  · refine vcx (X := (((!(bitOp BinOp.and IntKind.u8 br (128 : Int) != (0 : Int)) == ((↑b.length : Int) == n)) = true → ([], (0 : Int), (11 : Int), ()) = outPart (b, n, ())) ∧ ((!(bitOp BinOp.and IntKind.u8 br (128 : Int) != (0 : Int)) == ((↑b.length : Int) == n)) = false → ((bitOp BinOp.and IntKind.u8 br (32 : Int) != (0 : Int)) = true → ((bitOp BinOp.and IntKind.u8 br (128 : Int) == (0 : Int)) = true → ([], (0 : Int), (11 : Int), ()) = outPart (b, n, ())) ∧ ((bitOp BinOp.and IntKind.u8 br (128 : Int) == (0 : Int)) = false → ((bitOp BinOp.and IntKind.u8 br (64 : Int) != (0 : Int)) = true → ([], (0 : Int), (11 : Int), ()) = outPart (b, n, ())) ∧ ((bitOp BinOp.and IntKind.u8 br (64 : Int) != (0 : Int)) = false → (paD b br bd).triv (shT b = decide ((↑b.length : Int) = n) ∧ ¬(lgE b = true ∧ (shT b = false ∨ inF b = true)))))) ∧ ((bitOp BinOp.and IntKind.u8 br (32 : Int) != (0 : Int)) = false → (paD b br bd).triv (shT b = decide ((↑b.length : Int) = n) ∧ ¬(lgE b = true ∧ (shT b = false ∨ inF b = true))))))) (by kernel_rfl) ?_
    have s1 : shT b = (bitOp .and .u8 br 128 != 0) := by rw [shT, k1]
    have s2 : inF b = (bitOp .and .u8 br 64 != 0) := by rw [inF, k1]
    have s3 : lgE b = (bitOp .and .u8 br 32 != 0) := by rw [lgE, k1]
    have s4 : (bitOp .and .u8 br 128 == 0) = !shT b := by rw [s1]; cases h : (bitOp .and .u8 br 128 == 0) <;> simp [bne, h]
    have s5 : ((b.length : Int) == n) = decide ((b.length : Int) = n) := rfl
    rw [s4, ← s1, ← s2, ← s3, s5]
    show ((!(shT b == decide ((b.length : Int) = n))) = true → _ = ((partF b n).1, (partF b n).2.1, (partF b n).2.2, ())) ∧ _
    refine ⟨fun h => ?_, fun h => ⟨fun h2 => ⟨fun h3 => ?_, fun h3 => ⟨fun h4 => ?_, fun h4 => triv_intro ⟨by simpa using h, ?_⟩⟩⟩, fun h2 => triv_intro ⟨by simpa using h, ?_⟩⟩⟩
    · rw [partF, if_neg hlen, if_pos (by simpa using h)]
    · show _ = ((partF b n).1, (partF b n).2.1, (partF b n).2.2, ())
      rw [partF, if_neg hlen, if_neg (by simpa using h), if_pos ⟨h2, .inl (by simpa using h3)⟩]
    · show _ = ((partF b n).1, (partF b n).2.1, (partF b n).2.2, ())
      rw [partF, if_neg hlen, if_neg (by simpa using h), if_pos ⟨h2, .inr h4⟩]
    · rintro ⟨_, h5 | h5⟩
      · rw [h5] at h3; cases h3
      · rw [h5] at h4; cases h4
    · rintro ⟨h5, _⟩
      rw [h5] at h2; cases h2
  obtain ⟨ha, hb2⟩ := hk
  have hbl : bd.length = b.length := by rw [k2, bdy, List.length_set]
  have s2 : inF b = (bitOp .and .u8 br 64 != 0) := by rw [inF, k1]
  refine tr_cond (c := nthC (codeOf Try.f91) 11) (bitOp .and .u8 br 64 != 0) (by kernel_rfl) (by kernel_rfl) (by kernel_rfl) (fun ht => ?_) (fun ht => ?_)
  · refine tr_cut hsp mixed 1 (paE b br bd 0) True ?_ (fun _ => ?_)
    · refine vcx (X := ((paE b br bd (0 : Int)).triv True)) (by kernel_rfl) ?_
      exact triv_intro trivial
    refine tr_while hsp mixed noSw (fun σ => rdS (.int .i64) 59 σ) (paE b br bd) (paJ bd) (fun g => b.length - g.toNat)
      (fun σ => rdS (.int .i64) 59 σ) (paE b br bd) (fun _ => ∀ v ∈ bd, v = 0) 0 (c := nthC (thenOf (nthC (codeOf Try.f91) 11)) 1) (by kernel_rfl) (by kernel_rfl) (le_of_proj (by kernel_rfl) (by kernel_rfl) ?_) ?_ ?_
    · exact ⟨0, Nat.zero_le _, rfl, fun t h => absurd h (Nat.not_lt_zero _)⟩
    · intro (i : Int) ⟨k, hk, ei, hz⟩
      subst ei
      refine vcx (X := ((decide ((↑k : Int) < (↑b.length : Int)) = true → ((0 : Int) ≤ (↑k : Int) ∧ (↑k : Int) < (↑b.length : Int)) ∧ (↑k : Int).toNat < b.length ∧ ((bd.getD (↑k : Int).toNat (0 : Int) != (0 : Int)) = true → ([], (0 : Int), (11 : Int), ()) = outPart (b, n, ())) ∧ ((bd.getD (↑k : Int).toNat (0 : Int) != (0 : Int)) = false → (paE b br bd (IntKind.i64.wrap ((↑k : Int) + (1 : Int)))).triv (paJ bd (IntKind.i64.wrap ((↑k : Int) + (1 : Int))) ∧ b.length - (IntKind.i64.wrap ((↑k : Int) + (1 : Int))).toNat < b.length - (↑k : Int).toNat))) ∧ (decide ((↑k : Int) < (↑b.length : Int)) = false → (paE b br bd (↑k : Int)).triv (∀ (v : Int), v ∈ bd → v = (0 : Int))))) (by kernel_rfl) ?_
      rw [Int.toNat_natCast]
      refine ⟨fun h => ?_, fun h => triv_intro ?_⟩
      · have hlt : k < b.length := by have := dec_lt h; omega
        have hg : bd.getD k 0 = bd[k] := by rw [List.getD_eq_getElem?_getD, List.getElem?_eq_getElem (by omega), Option.getD_some]
        rw [wrap_succ (by omega)]
        refine ⟨⟨by omega, by omega⟩, hlt, fun h2 => ?_, fun h2 => triv_intro ⟨⟨k + 1, by omega, rfl, fun t ht2 => ?_⟩, by rw [Int.toNat_natCast]; omega⟩⟩
        · have h2 : bd.getD k 0 ≠ 0 := by simpa using h2
          show _ = ((partF b n).1, (partF b n).2.1, (partF b n).2.2, ())
          rw [partF, if_neg hlen, if_neg (by simpa using ha), if_neg hb2, if_pos ⟨by rw [s2, ht], bd[k], by rw [← k2]; exact List.getElem_mem _, by rw [← hg]; exact h2⟩]
        · by_cases htk : t = k
          · subst htk; simpa using h2
          · exact hz t (by omega)
      · have : k = b.length := by have := dec_ge h; omega
        intro v hv
        obtain ⟨t, ht1, ht2⟩ := List.mem_iff_getElem.1 hv
        have := hz t (by omega)
        rw [List.getD_eq_getElem?_getD, List.getElem?_eq_getElem ht1, Option.getD_some, ht2] at this
        exact this
    intro (i : Int) (hz : ∀ v ∈ bd, v = 0)
    refine tr_vc hsp mixed _ _ ?_
    refine vcx (X := ((0 : Nat) + b.length ≤ b.length ∧ (List.take b.length bd, br, (0 : Int), ()) = outPart (b, n, ()))) (by kernel_rfl) ?_
    refine ⟨by omega, ?_⟩
    show _ = ((partF b n).1, (partF b n).2.1, (partF b n).2.2, ())
    rw [partF, if_neg hlen, if_neg (by simpa using ha), if_neg hb2, if_neg (by rintro ⟨_, v, hv, hne⟩; exact hne (hz v (by rw [k2]; exact hv))), k1, k2, List.take_of_length_le (by rw [bdy, List.length_set]; exact Nat.le_refl _)]
  · refine tr_vc hsp mixed _ _ ?_
    refine vcx (X := ((0 : Nat) + b.length ≤ b.length ∧ (List.take b.length bd, br, (0 : Int), ()) = outPart (b, n, ()))) (by kernel_rfl) ?_
    refine ⟨by omega, ?_⟩
    show _ = ((partF b n).1, (partF b n).2.1, (partF b n).2.2, ())
    rw [partF, if_neg hlen, if_neg (by simpa using ha), if_neg hb2, if_neg (by rw [s2, ht]; simp), k1, k2, List.take_of_length_le (by rw [bdy, List.length_set]; exact Nat.le_refl _)]
noncomputable def spPart : Nat × Eng.Spec := (91, fnSpec [.sl (.int .u8), .int .i64] [.own (.int .u8), .val (.int .u8), .val (.int .i64)] prePart outPart)
end Go.Proofs.Ytlhgcbmanifpiaa.codec
/- codec: ReadG1. -/
namespace Go.Proofs.Ytlhgcbmanifpiaa.codec
set_option maxRecDepth 100000
open Go Go.Eng Go.RowKit Cr Go.Proofs.Ytlhgcbmanifpiaa
theorem ent_readG1 : enters Try.prog 59 Try.f59 := enters_mk (by kernel_rfl) (by kernel_rfl) (by kernel_rfl)
/-- Is a point one of the group? -/
noncomputable def chk1 (p : Fp × Fp) : (Fp × Fp) × Int := if p = (0, 0) then ((0, 0), 13) else if g1.gon p = true then (if g1.gin p = true then (p, 0) else ((0, 0), 14)) else ((0, 0), 13)
/-- The right one of two roots. -/
def sgn1 (y : Fp) (l : Bool) : Fp := if decide ((-y).v < y.v) = l then y else -y
noncomputable def root1 (x : Fp) : Fp := (fp.fpSqrt (x * x * x + zm 4)).1
noncomputable def rg1 (b : List Int) : (Fp × Fp) × Int :=
  if (partF b 48).2.2 = 0 then
    if inF b = true then ((0, 0), 0)
    else if (fp.rdFp ((bdy b).take 48)).2 = 0 then
      if shT b = true then chk1 ((fp.rdFp ((bdy b).take 48)).1, sgn1 (root1 (fp.rdFp ((bdy b).take 48)).1) (lgE b))
      else if (fp.rdFp ((bdy b).drop 48)).2 = 0 then chk1 ((fp.rdFp ((bdy b).take 48)).1, (fp.rdFp ((bdy b).drop 48)).1)
      else ((0, 0), 12)
    else ((0, 0), 12)
  else ((0, 0), (partF b 48).2.2)
abbrev preRG : HL [.sl (.int .u8)] → Prop := fun (b, _) => Bs b ∧ List.length b ≤ 1000000
noncomputable abbrev outRG1 : HL [.sl (.int .u8)] → HO [.val pt1, .val (.int .i64)] := fun (b, _) => ((rg1 b).1, (rg1 b).2, ())
noncomputable def rgC (g : Int × List Int) : St := mkSt Try.f59.ntmps 144 [(2, .is (.one (.ptr 0 0))), (3, sI .i64 0), (4, .is (.one (.sl 24 0 0 g.2.length 1))), (5, sI .u8 g.1)] [(0, g1.pc (0, 0)), (24, [.ints .u8 g.2.length g.2])]
def rgK (b : List Int) (n : Int) (g : Int × List Int) : Prop := g.1 = brs b ∧ g.2 = bdy b ∧ (partF b n).2.2 = 0 ∧ inF b = false
theorem part_ok {b : List Int} {n : Int} (h : (partF b n).2.2 = 0) : partF b n = (bdy b, brs b, 0) ∧ shT b = decide ((b.length : Int) = n) ∧ ((b.length : Int) = n ∨ (b.length : Int) = 2 * n) := by
  unfold partF at h ⊢
  split at h
  · cases h
  · rename_i h1
    rw [if_neg h1]
    split at h
    · cases h
    · rename_i h2
      rw [if_neg h2]
      split at h
      · cases h
      · rename_i h3
        rw [if_neg h3]
        split at h
        · cases h
        · rename_i h4
          rw [if_neg h4]
          refine ⟨rfl, by simpa using h2, by omega⟩
noncomputable def rgD (p : Fp × Fp) : St := mkSt Try.f59.ntmps 352 [(2, .is (.one (.ptr 0 0))), (3, sI .i64 0), (7, .is (.one (.ptr 144 0)))] [(0, g1.pc (0, 0)), (144, g1.pc p)]
theorem set_Bs {b : List Int} (h : Bs b) {x : Int} (hx : 0 ≤ x ∧ x < 256) : Bs (b.set 0 x) := by
  intro y hy
  rcases List.mem_or_eq_of_mem_set hy with hy | hy
  · exact h y hy
  · rw [hy]; exact hx
theorem andNot_ok {a : Int} : 0 ≤ bitOp .andNot .u8 a 224 ∧ bitOp .andNot .u8 a 224 < 256 := by
  show 0 ≤ IntKind.u8.wrap _ ∧ IntKind.u8.wrap _ < 256
  simp only [IntKind.wrap, IntKind.signed, IntKind.bits]
  simp
  omega
theorem bdy_Bs {b : List Int} (h : Bs b) : Bs (bdy b) := set_Bs h andNot_ok
theorem bdy_len (b : List Int) : (bdy b).length = b.length := by rw [bdy, List.length_set]
theorem fn_readG1 : FnOk Try.prog 59 [.sl (.int .u8)] [.val pt1, .val (.int .i64)] noG preRG outRG1 := by
  have hsp : SpecsOk Try.prog (sps [spPart, fp.spRead, fp.spSquare, fp.spMul, fp.spAdd, fp.spOf, fp.spSqrt, fp.spLarge, fp.spNeg, g1.soOn, g1.soIn]) := (sps_cons (fnSpec_ok fn_part) (sps_cons (fnSpec_ok fp.fn_read) (sps_cons (fnSpec_ok fp.fn_square) (sps_cons (fnSpec_ok fp.fn_mul) (sps_cons (fnSpec_ok fp.fn_add) (sps_cons (fnSpec_ok fp.fn_of) (sps_cons (fnSpec_ok fp.fn_sqrt) (sps_cons (fnSpec_ok fp.fn_large) (sps_cons (fnSpec_ok fp.fn_neg) (sps_cons (fnSpec_ok g1.fo_on) (sps_cons (fnSpec_ok g1.fo_in) sps_nil)))))))))))
  refine fn_of_tr (sp := sps [spPart, fp.spRead, fp.spSquare, fp.spMul, fp.spAdd, fp.spOf, fp.spSqrt, fp.spLarge, fp.spNeg, g1.soOn, g1.soIn]) ent_readG1 (by decide) (by decide) (by kernel_rfl) ?_
  rintro w M0 ⟨b, ⟨⟩⟩
  revert b
  intro (b : List Int) _ hp
  obtain ⟨hb, hl⟩ := hp
  have hl : b.length ≤ 1000000 := hl
  show Tr _ _ _ _ _ _ _
  have pp : prePart (b, 48, ()) := ⟨⟨hb, hl⟩, by decide, by decide⟩
  refine tr_cutF hsp mixed 4 (fun σ => (rdS (.int .u8) 5 σ, rdR (.int .u8) 24 σ)) rgC (rgK b 48) ?_ ?_
  · refine vcx (X := (prePart (b, (48 : Int), ()) ∧ (((partF b (48 : Int)).snd.snd != (0 : Int)) = true → (((0 : Fp), (0 : Fp)), (partF b (48 : Int)).snd.snd, ()) = outRG1 (b, ())) ∧ (((partF b (48 : Int)).snd.snd != (0 : Int)) = false → ((bitOp BinOp.and IntKind.u8 (partF b (48 : Int)).snd.fst (64 : Int) != (0 : Int)) = true → (((0 : Fp), (0 : Fp)), (partF b (48 : Int)).snd.snd, ()) = outRG1 (b, ())) ∧ ((bitOp BinOp.and IntKind.u8 (partF b (48 : Int)).snd.fst (64 : Int) != (0 : Int)) = false → (rgC ((partF b (48 : Int)).snd.fst, (partF b (48 : Int)).fst)).triv (rgK b (48 : Int) ((partF b (48 : Int)).snd.fst, (partF b (48 : Int)).fst)))))) (by kernel_rfl) ?_
    have s2 : (partF b 48).2.2 = 0 → (bitOp .and .u8 (partF b 48).2.1 64 != 0) = inF b := fun h => by rw [(part_ok h).1]; rfl
    refine ⟨pp, fun h => ?_, fun h => ?_⟩
    · have h : ¬ (partF b 48).2.2 = 0 := by simpa using h
      show _ = ((rg1 b).1, (rg1 b).2, ())
      rw [rg1, if_neg h]
    · have h : (partF b 48).2.2 = 0 := by simpa using h
      rw [s2 h]
      refine ⟨fun h2 => ?_, fun h2 => triv_intro ⟨?_, ?_, h, h2⟩⟩
      · show _ = ((rg1 b).1, (rg1 b).2, ())
        rw [rg1, if_pos h, if_pos h2, h]
      · show (partF b 48).2.1 = brs b
        rw [(part_ok h).1]
      · show (partF b 48).1 = bdy b
        rw [(part_ok h).1]
  rintro ⟨br, bd⟩ hK
  revert br bd
  intro (br : Int) (bd : List Int) ⟨k1, k2, k3, k4⟩
  have k1 : br = brs b := k1
  have k2 : bd = bdy b := k2
  obtain ⟨_, ha, hlen⟩ := part_ok k3
  have hbl : bd.length = b.length := by rw [k2, bdy_len]
  have hbs : Bs bd := by rw [k2]; exact bdy_Bs hb
  have s1 : (bitOp .and .u8 br 128 == 0) = !shT b := by rw [shT, k1]; cases h : (bitOp .and .u8 (brs b) 128 == 0) <;> simp [bne, h]
  have s3 : (bitOp .and .u8 br 32 != 0) = lgE b := by rw [lgE, k1]
  refine tr_cutF hsp mixed 6 (fun σ => rdB pt1 144 σ) rgD (fun p => rg1 b = chk1 p) ?_ ?_
  · refine vcx (X := (((0 : Int) ≤ (48 : Int) ∧ (48 : Int) ≤ (↑bd.length : Int)) ∧ (0 : Nat) + (48 : Nat) ≤ bd.length ∧ fp.preRead (List.take (48 : Nat) bd, ()) ∧ (((fp.rdFp (List.take (48 : Nat) bd)).snd != (0 : Int)) = true → (((0 : Fp), (0 : Fp)), (12 : Int), ()) = outRG1 (b, ())) ∧ (((fp.rdFp (List.take (48 : Nat) bd)).snd != (0 : Int)) = false → ((bitOp BinOp.and IntKind.u8 br (128 : Int) == (0 : Int)) = true → ((0 : Int) ≤ (48 : Int) ∧ (48 : Int) ≤ (↑bd.length : Int)) ∧ (48 : Nat) + ((↑bd.length : Int) - (48 : Int)).toNat ≤ bd.length ∧ fp.preRead (List.take ((↑bd.length : Int) - (48 : Int)).toNat (List.drop (48 : Nat) bd), ()) ∧ (((fp.rdFp (List.take ((↑bd.length : Int) - (48 : Int)).toNat (List.drop (48 : Nat) bd))).snd != (0 : Int)) = true → (((0 : Fp), (0 : Fp)), (12 : Int), ()) = outRG1 (b, ())) ∧ (((fp.rdFp (List.take ((↑bd.length : Int) - (48 : Int)).toNat (List.drop (48 : Nat) bd))).snd != (0 : Int)) = false → (rgD ((fp.rdFp (List.take (48 : Nat) bd)).fst, (fp.rdFp (List.take ((↑bd.length : Int) - (48 : Int)).toNat (List.drop (48 : Nat) bd))).fst)).triv (rg1 b = chk1 ((fp.rdFp (List.take (48 : Nat) bd)).fst, (fp.rdFp (List.take ((↑bd.length : Int) - (48 : Int)).toNat (List.drop (48 : Nat) bd))).fst)))) ∧ ((bitOp BinOp.and IntKind.u8 br (128 : Int) == (0 : Int)) = false → True ∧ True ∧ U64 (4 : Int) ∧ True ∧ True ∧ True ∧ ((!decide ((-(fp.fpSqrt ((fp.rdFp (List.take (48 : Nat) bd)).fst * (fp.rdFp (List.take (48 : Nat) bd)).fst * (fp.rdFp (List.take (48 : Nat) bd)).fst + zmp (4 : Int))).fst).v < (fp.fpSqrt ((fp.rdFp (List.take (48 : Nat) bd)).fst * (fp.rdFp (List.take (48 : Nat) bd)).fst * (fp.rdFp (List.take (48 : Nat) bd)).fst + zmp (4 : Int))).fst.v) == (bitOp BinOp.and IntKind.u8 br (32 : Int) != (0 : Int))) = true → True ∧ (rgD ((fp.rdFp (List.take (48 : Nat) bd)).fst, -(fp.fpSqrt ((fp.rdFp (List.take (48 : Nat) bd)).fst * (fp.rdFp (List.take (48 : Nat) bd)).fst * (fp.rdFp (List.take (48 : Nat) bd)).fst + zmp (4 : Int))).fst)).triv (rg1 b = chk1 ((fp.rdFp (List.take (48 : Nat) bd)).fst, -(fp.fpSqrt ((fp.rdFp (List.take (48 : Nat) bd)).fst * (fp.rdFp (List.take (48 : Nat) bd)).fst * (fp.rdFp (List.take (48 : Nat) bd)).fst + zmp (4 : Int))).fst))) ∧ ((!decide ((-(fp.fpSqrt ((fp.rdFp (List.take (48 : Nat) bd)).fst * (fp.rdFp (List.take (48 : Nat) bd)).fst * (fp.rdFp (List.take (48 : Nat) bd)).fst + zmp (4 : Int))).fst).v < (fp.fpSqrt ((fp.rdFp (List.take (48 : Nat) bd)).fst * (fp.rdFp (List.take (48 : Nat) bd)).fst * (fp.rdFp (List.take (48 : Nat) bd)).fst + zmp (4 : Int))).fst.v) == (bitOp BinOp.and IntKind.u8 br (32 : Int) != (0 : Int))) = false → (rgD ((fp.rdFp (List.take (48 : Nat) bd)).fst, (fp.fpSqrt ((fp.rdFp (List.take (48 : Nat) bd)).fst * (fp.rdFp (List.take (48 : Nat) bd)).fst * (fp.rdFp (List.take (48 : Nat) bd)).fst + zmp (4 : Int))).fst)).triv (rg1 b = chk1 ((fp.rdFp (List.take (48 : Nat) bd)).fst, (fp.fpSqrt ((fp.rdFp (List.take (48 : Nat) bd)).fst * (fp.rdFp (List.take (48 : Nat) bd)).fst * (fp.rdFp (List.take (48 : Nat) bd)).fst + zmp (4 : Int))).fst))))))) (by kernel_rfl) ?_
    rw [s1, s3, show List.take ((bd.length : Int) - 48).toNat (List.drop 48 bd) = List.drop 48 bd from List.take_of_length_le (by simp; omega)]
    have er : rg1 b = if (fp.rdFp (bd.take 48)).2 = 0 then
        if shT b = true then chk1 ((fp.rdFp (bd.take 48)).1, sgn1 (root1 (fp.rdFp (bd.take 48)).1) (lgE b))
        else if (fp.rdFp (bd.drop 48)).2 = 0 then chk1 ((fp.rdFp (bd.take 48)).1, (fp.rdFp (bd.drop 48)).1)
        else ((0, 0), 12)
      else ((0, 0), 12) := by rw [rg1, if_pos k3, if_neg (by rw [k4]; decide), k2]
    have r1 : fp.preRead (bd.take 48, ()) := fun x hx => hbs x (List.mem_of_mem_take hx)
    have r2 : fp.preRead (bd.drop 48, ()) := fun x hx => hbs x (List.mem_of_mem_drop hx)
    generalize hX : (fp.rdFp (bd.take 48)) = X at *
    generalize hY : (fp.rdFp (bd.drop 48)) = Y at *
    rw [show (fp.fpSqrt (X.1 * X.1 * X.1 + zmp 4)).1 = root1 X.1 from rfl]
    refine ⟨⟨by decide, by omega⟩, by omega, r1, fun h => ?_, fun h => ⟨fun h2 => ⟨⟨by decide, by omega⟩, by omega, r2, fun h3 => ?_, fun h3 => triv_intro ?_⟩, fun h2 => ⟨trivial, trivial, ⟨by decide, by decide⟩, trivial, trivial, trivial, fun h3 => ⟨trivial, triv_intro ?_⟩, fun h3 => triv_intro ?_⟩⟩⟩
    · show _ = ((rg1 b).1, (rg1 b).2, ())
      rw [er, if_neg (by simpa using h)]
    · show _ = ((rg1 b).1, (rg1 b).2, ())
      rw [er, if_pos (by simpa using h), if_neg (by simpa using h2), if_neg (by simpa using h3)]
    · rw [er, if_pos (by simpa using h), if_neg (by simpa using h2), if_pos (by simpa using h3)]
    · rw [er, if_pos (by simpa using h), if_pos (by simpa using h2), sgn1, if_neg (by simpa using h3)]
    · rw [er, if_pos (by simpa using h), if_pos (by simpa using h2), sgn1, if_pos (by simpa using h3)]
  intro (p : Fp × Fp) (hp : rg1 b = chk1 p)
  refine tr_vc hsp mixed _ _ ?_
  refine vcx (X := ((eqC (Kd.fp.pair Kd.fp) p ((0 : Fp), (0 : Fp)) = true → (((0 : Fp), (0 : Fp)), (13 : Int), ()) = outRG1 (b, ())) ∧ (eqC (Kd.fp.pair Kd.fp) p ((0 : Fp), (0 : Fp)) = false → True ∧ ((!g1.gon p) = true → (((0 : Fp), (0 : Fp)), (13 : Int), ()) = outRG1 (b, ())) ∧ ((!g1.gon p) = false → True ∧ ((!g1.gin p) = true → (((0 : Fp), (0 : Fp)), (14 : Int), ()) = outRG1 (b, ())) ∧ ((!g1.gin p) = false → (p, (0 : Int), ()) = outRG1 (b, ())))))) (by kernel_rfl) ?_
  rw [eqP]
  refine ⟨fun h => ?_, fun h => ⟨trivial, fun h2 => ?_, fun h2 => ⟨trivial, fun h3 => ?_, fun h3 => ?_⟩⟩⟩
  all_goals show _ = ((rg1 b).1, (rg1 b).2, ())
  all_goals rw [hp, chk1]
  · rw [if_pos (of_decide_eq_true h)]
  · rw [if_neg (of_decide_eq_false h), if_neg (by simpa using h2)]
  · rw [if_neg (of_decide_eq_false h), if_pos (by simpa using h2), if_neg (by simpa using h3)]
  · rw [if_neg (of_decide_eq_false h), if_pos (by simpa using h2), if_pos (by simpa using h3)]
noncomputable def spReadG1 : Nat × Eng.Spec := (59, fnSpec [.sl (.int .u8)] [.val pt1, .val (.int .i64)] preRG outRG1)
end Go.Proofs.Ytlhgcbmanifpiaa.codec
/- fp2.Read; g2: number, Gen. -/
namespace Go.Proofs.Ytlhgcbmanifpiaa.fp2
set_option maxRecDepth 100000
open Go Go.Eng Go.RowKit Cr Go.Proofs.Ytlhgcbmanifpiaa
/-- The number of bytes: b first. -/
def rdF2 (bs : List Int) : F2 × Int := if bs.length = 96 then (if (fp.rdFp (bs.take 48)).2 = 0 then (if (fp.rdFp (bs.drop 48)).2 = 0 then (((fp.rdFp (bs.drop 48)).1, (fp.rdFp (bs.take 48)).1), 0) else ((0, 0), (fp.rdFp (bs.drop 48)).2)) else ((0, 0), (fp.rdFp (bs.take 48)).2)) else ((0, 0), 10)
theorem ent_read : enters Try.prog 37 Try.f37 := enters_mk (by kernel_rfl) (by kernel_rfl) (by kernel_rfl)
abbrev preRead : HL [.sl (.int .u8)] → Prop := fun (bs, _) => Bs bs
abbrev outRead : HL [.sl (.int .u8)] → HO [.val f2, .val (.int .i64)] := fun (bs, _) => ((rdF2 bs).1, (rdF2 bs).2, ())
theorem fn_read : FnOk Try.prog 37 [.sl (.int .u8)] [.val f2, .val (.int .i64)] noG preRead outRead := by
  refine fn_of_vc (sp := sps [fp.spRead]) (sps_cons (fnSpec_ok fp.fn_read) sps_nil) mixed ent_read (by decide) (by decide) ?_
  rintro w M0 ⟨bs, ⟨⟩⟩
  revert bs
  intro (bs : List Int) _ hb
  have hb : Bs bs := hb
  refine vcx (X := ((((↑bs.length : Int) != (96 : Int)) = true → (((0 : Fp), (0 : Fp)), (10 : Int), ()) = outRead (bs, ())) ∧ (((↑bs.length : Int) != (96 : Int)) = false → ((0 : Int) ≤ (48 : Int) ∧ (48 : Int) ≤ (↑bs.length : Int)) ∧ fp.preRead (List.take (48 : Nat) bs, ()) ∧ (((fp.rdFp (List.take (48 : Nat) bs)).snd != (0 : Int)) = true → (((0 : Fp), (0 : Fp)), (fp.rdFp (List.take (48 : Nat) bs)).snd, ()) = outRead (bs, ())) ∧ (((fp.rdFp (List.take (48 : Nat) bs)).snd != (0 : Int)) = false → ((0 : Int) ≤ (48 : Int) ∧ (48 : Int) ≤ (↑bs.length : Int)) ∧ fp.preRead (List.take ((↑bs.length : Int) - (48 : Int)).toNat (List.drop (48 : Nat) bs), ()) ∧ (((fp.rdFp (List.take ((↑bs.length : Int) - (48 : Int)).toNat (List.drop (48 : Nat) bs))).snd != (0 : Int)) = true → (((0 : Fp), (0 : Fp)), (fp.rdFp (List.take ((↑bs.length : Int) - (48 : Int)).toNat (List.drop (48 : Nat) bs))).snd, ()) = outRead (bs, ())) ∧ (((fp.rdFp (List.take ((↑bs.length : Int) - (48 : Int)).toNat (List.drop (48 : Nat) bs))).snd != (0 : Int)) = false → (((fp.rdFp (List.take ((↑bs.length : Int) - (48 : Int)).toNat (List.drop (48 : Nat) bs))).fst, (fp.rdFp (List.take (48 : Nat) bs)).fst), (0 : Int), ()) = outRead (bs, ())))))) (by kernel_rfl) ?_
  refine ⟨fun h => ?_, fun h => ?_⟩
  · have hl : ¬ bs.length = 96 := by simp at h; omega
    show _ = ((rdF2 bs).1, (rdF2 bs).2, ())
    rw [rdF2, if_neg hl]
  have hl : bs.length = 96 := by simp at h; omega
  have e1 : List.take ((bs.length : Int) - 48).toNat (List.drop 48 bs) = bs.drop 48 := List.take_of_length_le (by simp; omega)
  rw [e1]
  refine ⟨⟨by omega, by omega⟩, fun x hx => hb x (List.mem_of_mem_take hx), fun h2 => ?_, fun h2 => ⟨⟨by omega, by omega⟩, fun x hx => hb x (List.mem_of_mem_drop hx), fun h3 => ?_, fun h3 => ?_⟩⟩
  · have h2 : ¬ (fp.rdFp (bs.take 48)).2 = 0 := by simpa using h2
    show _ = ((rdF2 bs).1, (rdF2 bs).2, ())
    rw [rdF2, if_pos hl, if_neg h2]
  · have h2 : (fp.rdFp (bs.take 48)).2 = 0 := by simpa using h2
    have h3 : ¬ (fp.rdFp (bs.drop 48)).2 = 0 := by simpa using h3
    show _ = ((rdF2 bs).1, (rdF2 bs).2, ())
    rw [rdF2, if_pos hl, if_pos h2, if_neg h3]
  · have h2 : (fp.rdFp (bs.take 48)).2 = 0 := by simpa using h2
    have h3 : (fp.rdFp (bs.drop 48)).2 = 0 := by simpa using h3
    show _ = ((rdF2 bs).1, (rdF2 bs).2, ())
    rw [rdF2, if_pos hl, if_pos h2, if_pos h3]
noncomputable def spRead : Nat × Eng.Spec := (37, fnSpec [.sl (.int .u8)] [.val f2, .val (.int .i64)] preRead outRead)
end Go.Proofs.Ytlhgcbmanifpiaa.fp2
namespace Go.Proofs.Ytlhgcbmanifpiaa.g2
set_option maxRecDepth 100000
open Go Go.Eng Go.RowKit Cr Go.Proofs.Ytlhgcbmanifpiaa Go.Proofs.Ytlhgcbmanifpiaa.fp2
/-- Points of the second curve: (0, 0) is infinity. -/
abbrev pt2 : Kd := .pair f2 f2
theorem ent_number : enters Try.prog 126 Try.f126 := enters_mk (by kernel_rfl) (by kernel_rfl) (by kernel_rfl)
abbrev outNumber : HL [.str] → HO [.val f2] := fun (s, _) => ((fp2.rdF2 (sbytes s)).1, ())
theorem fn_number : FnOk Try.prog 126 [.str] [.val f2] noG (fun _ => True) outNumber := by
  refine fn_of_vc (sp := sps [fp2.spRead]) (sps_cons (fnSpec_ok fp2.fn_read) sps_nil) mixed ent_number (by decide) (by decide) ?_
  rintro w M0 ⟨s, ⟨⟩⟩ _ _
  refine vcx (X := (0 + s.size ≤ s.size ∧ fp2.preRead ((sbytes s).take s.size, ()) ∧ ((fp2.rdF2 ((sbytes s).take s.size)).1, ()) = outNumber (s, ()))) (by kernel_rfl) ?_
  rw [List.take_of_length_le (by rw [sbytes_len]; exact Nat.le_refl _)]
  exact ⟨by omega, sbytes_Bs s, rfl⟩
noncomputable def spNumber : Nat × Eng.Spec := (126, fnSpec [.str] [.val f2] (fun _ => True) outNumber)

def gxA : Nat := 0x024aa2b2f08f0a91260805272dc51051c6e47ad4fa403b02b4510b647ae3d1770bac0326a805bbefd48056c8c121bdb8
def gxB : Nat := 0x13e02b6052719f607dacd3a088274f65596bd0d09920b61ab5da61bbdc7f5049334cf11213945d57e5ac7d055d042b7e
def gyA : Nat := 0x0ce5d527727d6e118cc9cdc6da2e351aadfd9baa8cbdd3a76d429a695160d12c923ac9cc3baca289e193548608b82801
def gyB : Nat := 0x0606c4a02ea734cc32acd2b02bc28b99cb3e287e85a763af267492ab572e99ab3f370d275cec1da1aaa9075ff05f79be
def gx : F2 := (zm (gxA : Int), zm (gxB : Int))
def gy : F2 := (zm (gyA : Int), zm (gyB : Int))
theorem ent_gen : enters Try.prog 73 Try.f73 := enters_mk (by kernel_rfl) (by kernel_rfl) (by kernel_rfl)
abbrev outGen : HL [] → HO [.val pt2] := fun _ => ((gx, gy), ())
theorem fn_gen : FnOk Try.prog 73 [] [.val pt2] noG (fun _ => True) outGen := by
  refine fn_of_vc (sp := sps [spNumber]) (sps_cons (fnSpec_ok fn_number) sps_nil) mixed ent_gen (by decide) (by decide) ?_
  rintro w M0 ⟨⟩ _ _
  exact vcx (X := (True ∧ True ∧ (((gx, gy), ()) : (F2 × F2) × Unit) = outGen ())) (by kernel_rfl) ⟨trivial, trivial, rfl⟩
noncomputable def spGen : Nat × Eng.Spec := (73, fnSpec [] [.val pt2] (fun _ => True) outGen)
end Go.Proofs.Ytlhgcbmanifpiaa.g2
/- g2: points without a division. -/
namespace Go.Proofs.Ytlhgcbmanifpiaa.g2
set_option maxRecDepth 100000
open Go Go.Eng Go.RowKit Cr Go.Proofs.Ytlhgcbmanifpiaa Go.Proofs.Ytlhgcbmanifpiaa.fp2
abbrev bk : Kd := .pair f2 (.pair f2 f2)
theorem eqP2 (a b : F2 × F2) : eqC (.pair (.pair .fp .fp) (.pair .fp .fp)) a b = decide (a = b) := by
  have h := eqC_iff (e := .pair (.pair .fp .fp) (.pair .fp .fp)) a b
  rw [Bool.eq_iff_iff, h, decide_eq_true_iff]

theorem ent_lift : enters Try.prog 156 Try.f156 := enters_mk (by kernel_rfl) (by kernel_rfl) (by kernel_rfl)
noncomputable abbrev outLift : HL [pt2] → HO [.val bk] := fun (p, _) => (jlift (F := F2) p, ())
theorem fn_lift : FnOk Try.prog 156 [pt2] [.val bk] noG (fun _ => True) outLift := by
  refine fn_of_vc (sp := sps [fp2.spSmall]) (sps_cons (fnSpec_ok fp2.fn_small) sps_nil) mixed ent_lift (by decide) (by decide) ?_
  rintro w M0 ⟨p, ⟨⟩⟩
  revert p
  intro (p : F2 × F2) _ _
  refine vcx (X := ((eqC ((Kd.fp.pair Kd.fp).pair (Kd.fp.pair Kd.fp)) p (((0 : Fp), (0 : Fp)), (0 : Fp), (0 : Fp)) = true → ((((0 : Fp), (0 : Fp)), ((0 : Fp), (0 : Fp)), (0 : Fp), (0 : Fp)), ()) = outLift (p, ())) ∧ (eqC ((Kd.fp.pair Kd.fp).pair (Kd.fp.pair Kd.fp)) p (((0 : Fp), (0 : Fp)), (0 : Fp), (0 : Fp)) = false → (U64 (1 : Int) ∧ U64 (0 : Int)) ∧ ((p.fst, p.snd, zmp (1 : Int), zmp (0 : Int)), ()) = outLift (p, ())))) (by kernel_rfl) ?_
  rw [eqP2]
  refine ⟨fun h => ?_, fun h => ⟨⟨by constructor <;> decide, by constructor <;> decide⟩, ?_⟩⟩
  · show _ = (jlift p, ())
    unfold jlift
    rw [if_pos (show p = O2 from of_decide_eq_true h)]; rfl
  · show _ = (jlift p, ())
    unfold jlift
    rw [if_neg (show ¬ p = O2 from of_decide_eq_false h)]; rfl
noncomputable def spLift : Nat × Eng.Spec := (156, fnSpec [pt2] [.val bk] (fun _ => True) outLift)

theorem ent_point : enters Try.prog 159 Try.f159 := enters_mk (by kernel_rfl) (by kernel_rfl) (by kernel_rfl)
noncomputable abbrev outPoint : HL [bk] → HO [.val pt2] := fun (a, _) => (jpoint (F := F2) a, ())
theorem fn_point : FnOk Try.prog 159 [bk] [.val pt2] noG (fun _ => True) outPoint := by
  refine fn_of_vc (sp := sps [fp2.spZero, fp2.spInv, fp2.spSquare, fp2.spMul]) (sps_cons (fnSpec_ok fp2.fn_zero) (sps_cons (fnSpec_ok fp2.fn_inv) (sps_cons (fnSpec_ok fp2.fn_square) (sps_cons (fnSpec_ok fp2.fn_mul) sps_nil)))) mixed ent_point (by decide) (by decide) ?_
  rintro w M0 ⟨a, ⟨⟩⟩
  revert a
  intro (a : F2 × F2 × F2) _ _
  refine vcx (X := (True ∧ (decide (a.2.2 = 0) = true → (((0 : F2), (0 : F2)), ()) = outPoint (a, ())) ∧ (decide (a.2.2 = 0) = false → Trs 5 (((a.1 * (inv2 a.2.2 * inv2 a.2.2), a.2.1 * (inv2 a.2.2 * inv2 a.2.2) * inv2 a.2.2), ()) = outPoint (a, ()))))) (by kernel_rfl) ?_
  refine ⟨trivial, fun h => ?_, fun h => trs ?_ _⟩
  · show _ = (jpoint a, ())
    unfold jpoint
    rw [if_pos (of_decide_eq_true h)]
  · show _ = (jpoint a, ())
    unfold jpoint
    rw [if_neg (of_decide_eq_false h)]
    rfl
noncomputable def spPoint : Nat × Eng.Spec := (159, fnSpec [bk] [.val pt2] (fun _ => True) outPoint)

theorem ent_double : enters Try.prog 158 Try.f158 := enters_mk (by kernel_rfl) (by kernel_rfl) (by kernel_rfl)
noncomputable abbrev outDouble : HL [bk] → HO [.val bk] := fun (a, _) => (jdbl (F := F2) a, ())
theorem fn_double : FnOk Try.prog 158 [bk] [.val bk] noG (fun _ => True) outDouble := by
  refine fn_of_vc (sp := sps [fp2.spZero, fp2.spAdd, fp2.spSub, fp2.spSquare, fp2.spMul]) (sps_cons (fnSpec_ok fp2.fn_zero) (sps_cons (fnSpec_ok fp2.fn_add) (sps_cons (fnSpec_ok fp2.fn_sub) (sps_cons (fnSpec_ok fp2.fn_square) (sps_cons (fnSpec_ok fp2.fn_mul) sps_nil))))) mixed ent_double (by decide) (by decide) ?_
  rintro w M0 ⟨a, ⟨⟩⟩
  revert a
  intro (a : F2 × F2 × F2) _ _
  refine vcx (X := (True ∧ (decide (a.2.2 = 0) = true → (((0 : F2), (0 : F2), (0 : F2)), ()) = outDouble (a, ())) ∧ (decide (a.2.2 = 0) = false → Trs 18 ((jdbN a, ()) = outDouble (a, ()))))) (by kernel_rfl) ?_
  refine ⟨trivial, fun h => ?_, fun h => trs ?_ _⟩
  · show _ = (jdbl a, ())
    unfold jdbl
    rw [if_pos (of_decide_eq_true h)]
  · show _ = (jdbl a, ())
    unfold jdbl
    rw [if_neg (of_decide_eq_false h)]
noncomputable def spDouble : Nat × Eng.Spec := (158, fnSpec [bk] [.val bk] (fun _ => True) outDouble)

theorem ent_add : enters Try.prog 157 Try.f157 := enters_mk (by kernel_rfl) (by kernel_rfl) (by kernel_rfl)
noncomputable abbrev outAdd : HL [bk, bk] → HO [.val bk] := fun (a, b, _) => (jadd (F := F2) a b, ())
noncomputable abbrev wd (a b : F2 × F2 × F2) : F2 := b.1 * (a.2.2 * a.2.2) - a.1 * (b.2.2 * b.2.2)
noncomputable abbrev rs (a b : F2 × F2 × F2) : F2 := b.2.1 * (a.2.2 * a.2.2) * a.2.2 - a.2.1 * (b.2.2 * b.2.2) * b.2.2
theorem fn_add : FnOk Try.prog 157 [bk, bk] [.val bk] noG (fun _ => True) outAdd := by
  refine fn_of_vc (sp := sps [fp2.spZero, fp2.spSub, fp2.spSquare, fp2.spMul, spDouble]) (sps_cons (fnSpec_ok fp2.fn_zero) (sps_cons (fnSpec_ok fp2.fn_sub) (sps_cons (fnSpec_ok fp2.fn_square) (sps_cons (fnSpec_ok fp2.fn_mul) (sps_cons (fnSpec_ok fn_double) sps_nil))))) mixed ent_add (by decide) (by decide) ?_
  rintro w M0 ⟨a, b, ⟨⟩⟩
  revert a b
  intro (a : F2 × F2 × F2) (b : F2 × F2 × F2) _ _
  refine vcx (X := (True ∧ (decide (a.2.2 = 0) = true → (b, ()) = outAdd (a, b, ())) ∧ (decide (a.2.2 = 0) = false → True ∧ (decide (b.2.2 = 0) = true → (a, ()) = outAdd (a, b, ())) ∧ (decide (b.2.2 = 0) = false →
    Trs 11 ((decide (wd a b = 0) = true → True ∧ (decide (rs a b = 0) = true → True ∧ (jdbl (F := F2) a, ()) = outAdd (a, b, ())) ∧ (decide (rs a b = 0) = false → (((0 : F2), (0 : F2), (0 : F2)), ()) = outAdd (a, b, ()))) ∧
      (decide (wd a b = 0) = false → Trs 13 ((jfin (F := F2) (wd a b) (rs a b) (a.1 * (b.2.2 * b.2.2)) (a.2.1 * (b.2.2 * b.2.2) * b.2.2) a.2.2 b.2.2, ()) = outAdd (a, b, ())))))))) (by kernel_rfl) ?_
  refine ⟨trivial, fun h => ?_, fun h => ⟨trivial, fun h2 => ?_, fun h2 => trs ⟨fun h3 => ⟨trivial, fun h4 => ⟨trivial, ?_⟩, fun h4 => ?_⟩, fun h3 => trs ?_ _⟩ _⟩⟩
  all_goals show _ = (jadd a b, ())
  all_goals unfold jadd
  · rw [if_pos (of_decide_eq_true h)]
  · rw [if_neg (of_decide_eq_false h), if_pos (of_decide_eq_true h2)]
  · rw [if_neg (of_decide_eq_false h), if_neg (of_decide_eq_false h2), if_pos (of_decide_eq_true h3), if_pos (of_decide_eq_true h4)]
  · rw [if_neg (of_decide_eq_false h), if_neg (of_decide_eq_false h2), if_pos (of_decide_eq_true h3), if_neg (of_decide_eq_false h4)]
  · rw [if_neg (of_decide_eq_false h), if_neg (of_decide_eq_false h2), if_neg (of_decide_eq_false h3)]
noncomputable def spAdd : Nat × Eng.Spec := (157, fnSpec [bk, bk] [.val bk] (fun _ => True) outAdd)
end Go.Proofs.Ytlhgcbmanifpiaa.g2
/- g2: Sum, Add, Neg, On. -/
namespace Go.Proofs.Ytlhgcbmanifpiaa.g2
set_option maxRecDepth 100000
open Go Go.Eng Go.RowKit Cr Go.Proofs.Ytlhgcbmanifpiaa Go.Proofs.Ytlhgcbmanifpiaa.fp2

abbrev bc (s : F2 × F2 × F2) : List Cell := [.row .fp 1 [s.1.1], .row .fp 1 [s.1.2], .row .fp 1 [s.2.1.1], .row .fp 1 [s.2.1.2], .row .fp 1 [s.2.2.1], .row .fp 1 [s.2.2.2]]
abbrev pc (s : F2 × F2) : List Cell := [.row .fp 1 [s.1.1], .row .fp 1 [s.1.2], .row .fp 1 [s.2.1], .row .fp 1 [s.2.2]]
noncomputable def sumN (ps : List (F2 × F2)) (g : Int × (F2 × F2 × F2)) : Int × (F2 × F2 × F2) := (IntKind.i64.wrap (g.1 + 1), jadd (F := F2) g.2 (jlift (F := F2) (ps.getD g.1.toNat (0, 0))))
abbrev preSum : HL [.sl pt2] → Prop := fun (ps, _) => List.length ps < 4611686018427387904
noncomputable abbrev outSum : HL [.sl pt2] → HO [.val pt2] := fun (ps, _) => (jpoint (F := F2) (jsm ps (List.length ps)), ())
noncomputable abbrev outPAdd : HL [pt2, pt2] → HO [.val pt2] := fun (p, q, _) => (jpoint (F := F2) (jsm [p, q] 2), ())
theorem ent_pneg : enters Try.prog 76 Try.f76 := enters_mk (by kernel_rfl) (by kernel_rfl) (by kernel_rfl)
noncomputable abbrev outPNeg : HL [pt2] → HO [.val pt2] := fun (p, _) => (pneg (F := F2) p, ())
theorem fn_pneg : FnOk Try.prog 76 [pt2] [.val pt2] noG (fun _ => True) outPNeg := by
  refine fn_of_vc (sp := sps [fp2.spNeg]) (sps_cons (fnSpec_ok fp2.fn_neg) sps_nil) mixed ent_pneg (by decide) (by decide) ?_
  rintro w M0 ⟨p, ⟨⟩⟩
  revert p
  intro (p : F2 × F2) _ _
  exact vcx (X := (True ∧ (((p.1, -p.2), ()) = outPNeg (p, ())))) (by kernel_rfl) ⟨trivial, rfl⟩
noncomputable def spPNeg : Nat × Eng.Spec := (76, fnSpec [pt2] [.val pt2] (fun _ => True) outPNeg)

/-- The curve: y^2 = x^3 + 4 + 4 i. -/
def b4 : F2 := (zm 4, zm 4)
theorem ent_on : enters Try.prog 71 Try.f71 := enters_mk (by kernel_rfl) (by kernel_rfl) (by kernel_rfl)
noncomputable def isOn (p : F2 × F2) : Bool := decide (p = ((0 : F2), (0 : F2))) || decide (p.2 * p.2 = p.1 * p.1 * p.1 + b4)
theorem isOn_iff (p : F2 × F2) : isOn p = true ↔ OnP b4 p := by
  unfold isOn OnP On
  simp
noncomputable abbrev outOn : HL [pt2] → HO [.val .bool] := fun (p, _) => (isOn p, ())
theorem fn_on : FnOk Try.prog 71 [pt2] [.val .bool] noG (fun _ => True) outOn := by
  refine fn_of_vc (sp := sps [fp2.spSquare, fp2.spMul, fp2.spSmall, fp2.spAdd]) (sps_cons (fnSpec_ok fp2.fn_square) (sps_cons (fnSpec_ok fp2.fn_mul) (sps_cons (fnSpec_ok fp2.fn_small) (sps_cons (fnSpec_ok fp2.fn_add) sps_nil)))) mixed ent_on (by decide) (by decide) ?_
  rintro w M0 ⟨p, ⟨⟩⟩
  revert p
  intro (p : F2 × F2) _ _
  refine vcx (X := ((eqC ((Kd.fp.pair Kd.fp).pair (Kd.fp.pair Kd.fp)) p (((0 : Fp), (0 : Fp)), (0 : Fp), (0 : Fp)) = true → (true, ()) = outOn (p, ())) ∧ (eqC ((Kd.fp.pair Kd.fp).pair (Kd.fp.pair Kd.fp)) p (((0 : Fp), (0 : Fp)), (0 : Fp), (0 : Fp)) = false → True ∧ True ∧ True ∧ (U64 (4 : Int) ∧ U64 (4 : Int)) ∧ True ∧ (eqC (Kd.fp.pair Kd.fp) (p.snd * p.snd) (p.fst * p.fst * p.fst + (zmp (4 : Int), zmp (4 : Int))), ()) = outOn (p, ())))) (by kernel_rfl) ?_
  rw [eqP2]
  refine ⟨fun h => ?_, fun h => ⟨trivial, trivial, trivial, ⟨by constructor <;> decide, by constructor <;> decide⟩, trivial, ?_⟩⟩
  · show _ = (isOn p, ())
    rw [isOn, show decide (p = ((0 : F2), (0 : F2))) = true from h, Bool.true_or]
  · show _ = (isOn p, ())
    rw [isOn, show decide (p = ((0 : F2), (0 : F2))) = false from h, Bool.false_or, eqF2]
    rfl
noncomputable def spOn : Nat × Eng.Spec := (71, fnSpec [pt2] [.val .bool] (fun _ => True) outOn)
end Go.Proofs.Ytlhgcbmanifpiaa.g2
/- g2: Times. -/
namespace Go.Proofs.Ytlhgcbmanifpiaa.g2
set_option maxRecDepth 100000
open Go Go.Eng Go.RowKit Cr Go.Proofs.Ytlhgcbmanifpiaa Go.Proofs.Ytlhgcbmanifpiaa.fp2

abbrev Jp := F2 × F2 × F2
noncomputable def tmI (k : List Int) (o : Jp) (g : Int × List Jp) : St := mkSt Try.f127.ntmps 64 [(1, .is (.one (.ro (.int .u8) k))), (4, .is (.one (.ptr 8 0))), (5, .is (.one (.ptr 16 0))), (6, .is (.one (.ptr 40 0))), (15, sI .i64 g.1)] [(40, bc o), (16, [.row bk 16 g.2]), (8, pc (0, 0))]
noncomputable def tmS (k : List Int) (tb : List Jp) (s : Jp) (nx : Nat) (xs : List (Nat × SV)) : St := mkSt Try.f127.ntmps nx ([(4, .is (.one (.ptr 8 0))), (5, .is (.one (.ptr 16 0))), (8, .is (.one (.ptr 64 0))), (27, .is (.one (.ro (.int .u8) k))), (28, sI .i64 k.length)] ++ xs) [(64, bc s), (16, [.row bk 16 tb]), (8, pc (0, 0))]
noncomputable abbrev tmJ (k : List Int) (tb : List Jp) (g : Int × Jp) : St := tmS k tb g.2 96 [(29, sI .i64 g.1)]
noncomputable abbrev tmK (k : List Int) (tb : List Jp) (i : Int) (ds : List Int) (g : Int × Jp) : St := tmS k tb g.2 168 [(29, sI .i64 i), (37, .is (.agg [.ints .u8 2 ds])), (38, sI .i64 g.1)]
noncomputable abbrev tmL (k : List Int) (tb : List Jp) (i : Int) (ds : List Int) (j d : Int) (g : Int × Jp) : St := tmS k tb g.2 184 [(29, sI .i64 i), (37, .is (.agg [.ints .u8 2 ds])), (38, sI .i64 j), (12, sI .u8 d), (41, sI .i64 g.1)]

theorem ent_times : enters Try.prog 127 Try.f127 := enters_mk (by kernel_rfl) (by kernel_rfl) (by kernel_rfl)
abbrev preTimes : HL [pt2, .sl (.int .u8)] → Prop := fun (_, k, _) => Bs k ∧ List.length k < 4611686018427387904
noncomputable abbrev outTimes : HL [pt2, .sl (.int .u8)] → HO [.val pt2] := fun (p, k, _) => (jpoint (F := F2) (jtm (tabAt (jt (jlift (F := F2) p)) (0, 0, 0) 15) k (List.length k)), ())
theorem fn_times : FnOk Try.prog 127 [pt2, .sl (.int .u8)] [.val pt2] noG preTimes outTimes := by
  have hsp : SpecsOk Try.prog (sps [spLift, spAdd, spPoint, spDouble]) := sps_cons (fnSpec_ok fn_lift) (sps_cons (fnSpec_ok fn_add) (sps_cons (fnSpec_ok fn_point) (sps_cons (fnSpec_ok fn_double) sps_nil)))
  refine fn_of_tr (sp := sps [spLift, spAdd, spPoint, spDouble]) ent_times (by decide) (by decide) (by kernel_rfl) ?_
  rintro w M0 ⟨p, k, ⟨⟩⟩
  revert p k
  intro (p : F2 × F2) (k : List Int) _ hp
  obtain ⟨hk, hl⟩ := hp
  have hk : Bs k := hk
  have hl : k.length < 4611686018427387904 := hl
  show Tr _ _ _ _ _ _ _
  refine tr_cut hsp mixed 4 (tmI k (jlift (F := F2) p) (0, tabAt (jt (jlift (F := F2) p)) (0, 0, 0) 0)) True ?_ (fun _ => ?_)
  · exact vcx (X := (True ∧ (tmI k (jlift (F := F2) p) (0, tabAt (jt (jlift (F := F2) p)) (0, 0, 0) 0)).triv True)) (by kernel_rfl) ⟨trivial, triv_intro trivial⟩
  generalize ho : jlift (F := F2) p = o
  refine tr_count hsp mixed (tmI k o) (fun n => ((n : Int), tabAt (jt o) (0, 0, 0) n)) 15 (fun g => (IntKind.i64.wrap (g.1 + 1), g.2.set (IntKind.i64.wrap (g.1 + 1)).toNat (jadd (F := F2) (g.2.getD g.1.toNat (0, 0, 0)) o))) (tmI k o) (c := nthC (codeOf Try.f127) 4) (by kernel_rfl) (by kernel_rfl) (le_of_proj (by kernel_rfl) (by kernel_rfl) trivial)
    (fun n hn => by
      show (_, _) = (_, _)
      rw [wrap_succ (by omega), Int.toNat_natCast, Int.toNat_natCast, tabAt_get _ _ _ (Nat.le_refl n) (by omega), show jadd (F := F2) (jt o n) o = jt o (n + 1) from rfl, tabAt_set]) ?_ ?_
  · intro n hn
    generalize tabAt (jt o) (0, 0, 0) n = tb
    refine vcx (X := ((decide ((n : Int) < 15) = true → (0 ≤ (n : Int) ∧ (n : Int) < ((16 : Nat) : Int)) ∧ (n : Int).toNat < 16 ∧ True ∧ (0 ≤ IntKind.i64.wrap ((n : Int) + 1) ∧ IntKind.i64.wrap ((n : Int) + 1) < ((16 : Nat) : Int)) ∧ (IntKind.i64.wrap ((n : Int) + 1)).toNat < 16 ∧
        (tmI k o (IntKind.i64.wrap ((n : Int) + 1), tb.set (IntKind.i64.wrap ((n : Int) + 1)).toNat (jadd (F := F2) (tb.getD (n : Int).toNat (0, 0, 0)) o))).triv (n < 15)) ∧
      (decide ((n : Int) < 15) = false → (tmI k o ((n : Int), tb)).triv (n = 15)))) (by kernel_rfl) ?_
    refine ⟨fun h => ?_, fun h => triv_intro (by have := dec_ge h; omega)⟩
    have hlt : n < 15 := by have := dec_lt h; omega
    rw [wrap_succ (by omega)]
    exact ⟨⟨by omega, by omega⟩, by omega, trivial, ⟨by omega, by omega⟩, by omega, triv_intro hlt⟩
  subst ho
  show Tr _ _ _ _ _ _ _
  generalize htb : tabAt (jt (jlift (F := F2) p)) (0, 0, 0) 15 = tb
  refine tr_cut hsp mixed 2 (tmJ k tb (0, jtm tb k 0)) True ?_ (fun _ => ?_)
  · exact vcx (X := (tmJ k tb (0, jtm tb k 0)).triv True) (by kernel_rfl) (triv_intro trivial)
  refine tr_countT (tmJ k tb) (fun i => ((i : Int), jtm tb k i)) k.length (fun g => (IntKind.i64.wrap (g.1 + 1), jby tb g.2 (k.getD g.1.toNat 0))) (tmJ k tb) (c := nthC (codeOf Try.f127) 7) (by kernel_rfl) (by kernel_rfl) (le_of_proj (by kernel_rfl) (by kernel_rfl) trivial)
    (fun i hi => by show (_, _) = (_, _); rw [wrap_succ (by omega), Int.toNat_natCast]; rfl) ?_ ?_
  · intro i hi
    generalize jtm tb k i = s
    refine tr_cut hsp mixed 2 (tmJ k tb ((i : Int), s)) (i < k.length) ?_ (fun hlt => ?_)
    · refine vcx (X := ((decide ((i : Int) < (k.length : Int)) = true → (tmJ k tb ((i : Int), s)).triv (i < k.length)) ∧ (decide ((i : Int) < (k.length : Int)) = false → (tmJ k tb ((i : Int), s)).triv (i = k.length)))) (by kernel_rfl) ?_
      exact ⟨fun h => triv_intro (by have := dec_lt h; omega), fun h => triv_intro (by have := dec_ge h; omega)⟩
    have hb : 0 ≤ k.getD i 0 ∧ k.getD i 0 < 256 := by
      have : k.getD i 0 ∈ k := by rw [List.getD_eq_getElem?_getD, List.getElem?_eq_getElem hlt]; exact List.getElem_mem hlt
      exact hk _ this
    have hbi : k.getD (i : Int).toNat 0 = k.getD i 0 := by rw [Int.toNat_natCast]
    generalize hbb : k.getD i 0 = b at hb hbi
    obtain ⟨_, d1, d2⟩ := dh_ok hb.1 hb.2
    obtain ⟨_, d3, d4⟩ := dl_ok hb.1 hb.2
    refine tr_block (c := nthC (loopOf (nthC (codeOf Try.f127) 7)) 2) (by kernel_rfl) (by kernel_rfl) ?_
    refine tr_cut hsp mixed 2 (tmK k tb (i : Int) [dh (k.getD (i : Int).toNat 0), dl (k.getD (i : Int).toNat 0)] (0, jsd tb [dh b, dl b] s 0)) True ?_ (fun _ => ?_)
    · refine vcx (X := ((0 ≤ (i : Int) ∧ (i : Int) < (k.length : Int)) ∧ (i : Int).toNat < k.length ∧ (0 : Int) ≤ 4 ∧ (tmK k tb (i : Int) [dh (k.getD (i : Int).toNat 0), dl (k.getD (i : Int).toNat 0)] (0, jsd tb [dh b, dl b] s 0)).triv True)) (by kernel_rfl) ?_
      exact ⟨⟨by omega, by omega⟩, by omega, by decide, triv_intro trivial⟩
    rw [hbi]
    generalize hds : [dh b, dl b] = ds
    have hdd : ∀ j, j < 2 → 0 ≤ ds.getD j 0 ∧ ds.getD j 0 < 16 := by
      intro j hj
      subst hds
      match j, hj with
      | 0, _ => exact ⟨d1, d2⟩
      | 1, _ => exact ⟨d3, d4⟩
    refine tr_countT (tmK k tb (i : Int) ds) (fun j => ((j : Int), jsd tb ds s j)) 2 (fun g => (IntKind.i64.wrap (g.1 + 1), jst tb g.2 (ds.getD g.1.toNat 0))) (tmK k tb (i : Int) ds) (c := nthC (bodyOf (nthC (loopOf (nthC (codeOf Try.f127) 7)) 2)) 2) (by kernel_rfl) (by kernel_rfl) (le_of_proj (by kernel_rfl) (by kernel_rfl) trivial)
      (fun j hj => by show (_, _) = (_, _); rw [wrap_succ (by omega), Int.toNat_natCast]; rfl) ?_ ?_
    · intro j hj
      generalize jsd tb ds s j = y
      refine tr_cut hsp mixed 2 (tmK k tb (i : Int) ds ((j : Int), y)) (j < 2) ?_ (fun hj2 => ?_)
      · refine vcx (X := ((decide ((j : Int) < 2) = true → (tmK k tb (i : Int) ds ((j : Int), y)).triv (j < 2)) ∧ (decide ((j : Int) < 2) = false → (tmK k tb (i : Int) ds ((j : Int), y)).triv (j = 2)))) (by kernel_rfl) ?_
        exact ⟨fun h => triv_intro (by have := dec_lt h; omega), fun h => triv_intro (by have := dec_ge h; omega)⟩
      have hd := hdd j hj2
      have hdj : ds.getD (j : Int).toNat 0 = ds.getD j 0 := by rw [Int.toNat_natCast]
      generalize ds.getD j 0 = d at hd hdj
      refine tr_block (c := nthC (loopOf (nthC (bodyOf (nthC (loopOf (nthC (codeOf Try.f127) 7)) 2)) 2)) 2) (by kernel_rfl) (by kernel_rfl) ?_
      refine tr_cut hsp mixed 2 (tmL k tb (i : Int) ds (j : Int) (ds.getD (j : Int).toNat 0) (0, jdn y 0)) True ?_ (fun _ => ?_)
      · refine vcx (X := ((0 ≤ (j : Int) ∧ (j : Int) < ((2 : Nat) : Int)) ∧ (tmL k tb (i : Int) ds (j : Int) (ds.getD (j : Int).toNat 0) (0, jdn y 0)).triv True)) (by kernel_rfl) ?_
        exact ⟨⟨by omega, by omega⟩, triv_intro trivial⟩
      rw [hdj]
      refine tr_count hsp mixed (tmL k tb (i : Int) ds (j : Int) d) (fun n => ((n : Int), jdn y n)) 4 (fun g => (IntKind.i64.wrap (g.1 + 1), jdbl (F := F2) g.2)) (tmL k tb (i : Int) ds (j : Int) d) (c := nthC (bodyOf (nthC (loopOf (nthC (bodyOf (nthC (loopOf (nthC (codeOf Try.f127) 7)) 2)) 2)) 2)) 2) (by kernel_rfl) (by kernel_rfl) (le_of_proj (by kernel_rfl) (by kernel_rfl) trivial)
        (fun n hn => by show (_, _) = (_, _); rw [wrap_succ (by omega)]; rfl) ?_ ?_
      · intro n hn
        generalize jdn y n = z
        refine vcx (X := ((decide ((n : Int) < 4) = true → True ∧ (tmL k tb (i : Int) ds (j : Int) d (IntKind.i64.wrap ((n : Int) + 1), jdbl (F := F2) z)).triv (n < 4)) ∧ (decide ((n : Int) < 4) = false → (tmL k tb (i : Int) ds (j : Int) d ((n : Int), z)).triv (n = 4)))) (by kernel_rfl) ?_
        exact ⟨fun h => ⟨trivial, triv_intro (by have := dec_lt h; omega)⟩, fun h => triv_intro (by have := dec_ge h; omega)⟩
      refine tr_cut hsp mixed 1 (tmK k tb (i : Int) ds ((j : Int), jst tb y d)) True ?_ (fun _ => ?_)
      · refine vcx (X := ((0 ≤ d ∧ d < ((16 : Nat) : Int)) ∧ d.toNat < 16 ∧ True ∧ (tmK k tb (i : Int) ds ((j : Int), jst tb y d)).triv True)) (by kernel_rfl) ?_
        exact ⟨⟨hd.1, by omega⟩, by omega, trivial, triv_intro trivial⟩
      refine tr_nil ?_
      refine tr_vc hsp mixed _ _ ?_
      exact vcx (X := (tmK k tb (i : Int) ds (IntKind.i64.wrap ((j : Int) + 1), jst tb y d)).triv (j < 2)) (by kernel_rfl) (triv_intro hj2)
    refine tr_nil ?_
    refine tr_vc hsp mixed _ _ ?_
    have ey : jby tb s b = jsd tb ds s 2 := by unfold jby; rw [hds]
    show VC _ _ _ (fun σ' => σ'.le _ (tmJ k tb (IntKind.i64.wrap ((i : Int) + 1), jby tb s b)) (i < k.length)) _ _
    rw [ey]
    generalize jsd tb ds s 2 = z
    exact vcx (X := (tmJ k tb (IntKind.i64.wrap ((i : Int) + 1), z)).triv (i < k.length)) (by kernel_rfl) (triv_intro hlt)
  · refine tr_vc hsp mixed _ _ ?_
    refine vcx (X := (True ∧ (jpoint (F := F2) (jtm tb k k.length), ()) = outTimes (p, k, ()))) (by kernel_rfl) ⟨trivial, ?_⟩
    show _ = (jpoint (F := F2) (jtm (tabAt (jt (jlift (F := F2) p)) (0, 0, 0) 15) k k.length), ())
    rw [htb]
noncomputable def spTimes : Nat × Eng.Spec := (127, fnSpec [pt2, .sl (.int .u8)] [.val pt2] preTimes outTimes)
end Go.Proofs.Ytlhgcbmanifpiaa.g2
/- g2: Mul. -/
namespace Go.Proofs.Ytlhgcbmanifpiaa.g2
set_option maxRecDepth 100000
open Go Go.Eng Go.RowKit Cr Go.Proofs.Ytlhgcbmanifpiaa Go.Proofs.Ytlhgcbmanifpiaa.fp2
noncomputable def tms (p : F2 × F2) (k : List Int) : F2 × F2 := jpoint (F := F2) (jtm (tabAt (jt (jlift (F := F2) p)) (0, 0, 0) 15) k (List.length k))
noncomputable def pml (p : F2 × F2) (k : Fr) : F2 × F2 := tms p (bytesN 32 k.v)
theorem ent_pmul : enters Try.prog 74 Try.f74 := enters_mk (by kernel_rfl) (by kernel_rfl) (by kernel_rfl)
noncomputable abbrev outPMul : HL [pt2, .fr] → HO [.val pt2] := fun (p, k, _) => (pml p k, ())
theorem fn_pmul : FnOk Try.prog 74 [pt2, .fr] [.val pt2] noG (fun _ => True) outPMul := by
  refine fn_of_vc (sp := sps [fr.spBytes, spTimes]) (sps_cons (fnSpec_ok fr.fn_bytes) (sps_cons (fnSpec_ok fn_times) sps_nil)) mixed ent_pmul (by decide) (by decide) ?_
  rintro w M0 ⟨p, k, ⟨⟩⟩
  revert p k
  intro (p : F2 × F2) (k : Fr) _ _
  refine vcx (X := (True ∧ (0 : Nat) + 32 ≤ 32 ∧ preTimes (p, (bytesN 32 k.v).take 32, ()) ∧ (tms p ((bytesN 32 k.v).take 32), ()) = outPMul (p, k, ()))) (by kernel_rfl) ?_
  rw [List.take_of_length_le (by rw [bytesN_length]; exact Nat.le_refl _)]
  exact ⟨trivial, by decide, ⟨bytesN_Bs _ _, by show (bytesN 32 k.v).length < _; rw [bytesN_length]; decide⟩, rfl⟩
noncomputable def spPMul : Nat × Eng.Spec := (74, fnSpec [pt2, .fr] [.val pt2] (fun _ => True) outPMul)

end Go.Proofs.Ytlhgcbmanifpiaa.g2
/- g2: the same contracts, for laws: what is computed is not unfolded; what it is on points of the curve. -/
namespace Go.Proofs.Ytlhgcbmanifpiaa.g2
set_option maxRecDepth 100000
open Go Go.Eng Go.RowKit Cr Go.Proofs.Ytlhgcbmanifpiaa Go.Proofs.Ytlhgcbmanifpiaa.fp2
theorem b4_ne : b4 ≠ 0 := fun h => absurd (congrArg Prod.fst h) (by decide)
noncomputable def gG : F2 × F2 := opq (gx, gy)
noncomputable def gadd (p q : F2 × F2) : F2 × F2 := opq (jpoint (F := F2) (jsm [p, q] 2))
noncomputable def gsum (ps : List (F2 × F2)) : F2 × F2 := opq (jpoint (F := F2) (jsm ps ps.length))
noncomputable def gneg (p : F2 × F2) : F2 × F2 := opq (pneg (F := F2) p)
noncomputable def gtms (p : F2 × F2) (k : List Int) : F2 × F2 := opq (tms p k)
noncomputable def gmul (p : F2 × F2) (k : Fr) : F2 × F2 := opq (pml p k)
noncomputable def gon (p : F2 × F2) : Bool := opq (isOn p)

theorem fo_gen : FnOk Try.prog 73 [] [.val pt2] noG (fun _ => True) (fun _ => (gG, ())) := fn_gen.out fun _ => by show (gG, ()) = ((gx, gy), ()); rw [gG, opq_eq]
theorem fo_neg : FnOk Try.prog 76 [pt2] [.val pt2] noG (fun _ => True) (fun (p, _) => (gneg p, ())) := fn_pneg.out fun (p, _) => by show (gneg p, ()) = (_, ()); rw [gneg, opq_eq]
theorem fo_times : FnOk Try.prog 127 [pt2, .sl (.int .u8)] [.val pt2] noG preTimes (fun (p, k, _) => (gtms p k, ())) := fn_times.out fun (p, k, _) => by show (gtms p k, ()) = (_, ()); rw [gtms, opq_eq]; rfl
theorem fo_mul : FnOk Try.prog 74 [pt2, .fr] [.val pt2] noG (fun _ => True) (fun (p, k, _) => (gmul p k, ())) := fn_pmul.out fun (p, k, _) => by show (gmul p k, ()) = (_, ()); rw [gmul, opq_eq]
theorem fo_on : FnOk Try.prog 71 [pt2] [.val .bool] noG (fun _ => True) (fun (p, _) => (gon p, ())) := fn_on.out fun (p, _) => by show (gon p, ()) = (_, ()); rw [gon, opq_eq]
noncomputable def soGen : Nat × Eng.Spec := (73, fnSpec [] [.val pt2] (fun _ => True) (fun _ => (gG, ())))
noncomputable def soNeg : Nat × Eng.Spec := (76, fnSpec [pt2] [.val pt2] (fun _ => True) (fun (p, _) => (gneg p, ())))
noncomputable def soTimes : Nat × Eng.Spec := (127, fnSpec [pt2, .sl (.int .u8)] [.val pt2] preTimes (fun (p, k, _) => (gtms p k, ())))
noncomputable def soMul : Nat × Eng.Spec := (74, fnSpec [pt2, .fr] [.val pt2] (fun _ => True) (fun (p, k, _) => (gmul p k, ())))
noncomputable def soOn : Nat × Eng.Spec := (71, fnSpec [pt2] [.val .bool] (fun _ => True) (fun (p, _) => (gon p, ())))

/-! On points of the curve. -/
abbrev Onb (p : F2 × F2) : Prop := OnP b4 p
theorem gG_eq : gG = (gx, gy) := opq_eq _
theorem gG_on : Onb gG := by
  rw [gG_eq]
  refine .inr ?_
  show gy * gy = gx * gx * gx + b4
  refine F2.ext ?_ ?_
  · simp only [F2.mul1, F2.mul2, F2.add1]; decide +kernel
  · simp only [F2.mul1, F2.mul2, F2.add2]; decide +kernel
theorem gadd_eq {p q : F2 × F2} (hp : Onb p) (hq : Onb q) : gadd p q = padd p q := by rw [gadd, opq_eq]; exact add_eq b4_ne hp hq
theorem gsum_eq {ps : List (F2 × F2)} (h : ∀ p ∈ ps, Onb p) : gsum ps = psum ps := by rw [gsum, opq_eq]; exact sum_eq b4_ne h
theorem gneg_eq (p : F2 × F2) : gneg p = pneg p := opq_eq _
theorem gtms_eq {p : F2 × F2} (hp : Onb p) {k : List Int} (hk : Bs k) : gtms p k = nmul p (num k).toNat := by rw [gtms, opq_eq]; exact times_eq b4_ne hp hk
theorem gmul_eq {p : F2 × F2} (hp : Onb p) (k : Fr) : gmul p k = nmul p k.v.toNat := by
  rw [gmul, opq_eq, pml, tms, times_eq b4_ne hp (bytesN_Bs _ _), num_bytesN 32 _ k.nn (Int.lt_trans k.lt (by decide))]
theorem gon_iff (p : F2 × F2) : gon p = true ↔ Onb p := by rw [gon, opq_eq]; exact isOn_iff p
end Go.Proofs.Ytlhgcbmanifpiaa.g2
/- The second generator's order, by computation. No program here. -/
namespace Cr
open Rg Fd
def addN2 (a b : Nat) : Nat := (a + b) % pN
def subN2 (a b : Nat) : Nat := (a + (pN - b % pN)) % pN
def mulN2 (a b : Nat) : Nat := (a * b) % pN
theorem addN2_φ (a b : Nat) : (zm ((addN2 a b : Nat) : Int) : Fp) = zm (a : Int) + zm (b : Int) := evP1.add_φ a b
theorem subN2_φ (a b : Nat) : (zm ((subN2 a b : Nat) : Int) : Fp) = zm (a : Int) - zm (b : Int) := evP1.sub_φ a b
theorem mulN2_φ (a b : Nat) : (zm ((mulN2 a b : Nat) : Int) : Fp) = zm (a : Int) * zm (b : Int) := evP1.mul_φ a b
noncomputable def evP2 : Ev F2 where
  V := Nat × Nat
  φ n := (zm (n.1 : Int), zm (n.2 : Int))
  add a b := (addN2 a.1 b.1, addN2 a.2 b.2)
  sub a b := (subN2 a.1 b.1, subN2 a.2 b.2)
  mul a b := (subN2 (a.1 * b.1) (a.2 * b.2), addN2 (a.1 * b.2) (a.2 * b.1))
  isz a := Nat.beq (a.1 % pN) 0 && Nat.beq (a.2 % pN) 0
  zero := (0, 0)
  force a k := fc a.1 fun x => fc a.2 fun y => k (x, y)
  add_φ a b := by rw [F2.add_def, addN2_φ, addN2_φ]
  sub_φ a b := by rw [F2.sub_def, subN2_φ, subN2_φ]
  mul_φ a b := by
    rw [F2.mul_def, addN2_φ, subN2_φ]
    simp only [Int.natCast_mul, ← zm_mul]
  isz_φ a := by
    rw [Bool.and_eq_true]
    have h1 := evP1.isz_φ a.1
    have h2 := evP1.isz_φ a.2
    constructor
    · rintro ⟨e1, e2⟩
      exact F2.ext (h1.1 e1) (h2.1 e2)
    · intro e
      exact ⟨h1.2 (congrArg Prod.fst e), h2.2 (congrArg Prod.snd e)⟩
  zero_φ := rfl
  force_eq a k := by rw [fc_eq, fc_eq]
def qxA : Nat := 0x024aa2b2f08f0a91260805272dc51051c6e47ad4fa403b02b4510b647ae3d1770bac0326a805bbefd48056c8c121bdb8
def qxB : Nat := 0x13e02b6052719f607dacd3a088274f65596bd0d09920b61ab5da61bbdc7f5049334cf11213945d57e5ac7d055d042b7e
def qyA : Nat := 0x0ce5d527727d6e118cc9cdc6da2e351aadfd9baa8cbdd3a76d429a695160d12c923ac9cc3baca289e193548608b82801
def qyB : Nat := 0x0606c4a02ea734cc32acd2b02bc28b99cb3e287e85a763af267492ab572e99ab3f370d275cec1da1aaa9075ff05f79be
theorem ord2_z : evP2.isz (evP2.mul2 ((qxA, qxB), (qyA, qyB), ((1 : Nat), (0 : Nat))) 256 52435875175126190479447740508185965837690552500527637822603658699938581184513).2.2 = true := by kernel_rfl
end Cr
/- g2: the group; scalars. -/
namespace Go.Proofs.Ytlhgcbmanifpiaa.g2
set_option maxRecDepth 100000
open Go Go.Eng Go.RowKit Cr Go.Proofs.Ytlhgcbmanifpiaa Go.Proofs.Ytlhgcbmanifpiaa.fp2

theorem gG_ne : gG ≠ O2 := by rw [gG_eq]; exact fun h => absurd (congrArg (fun p : F2 × F2 => p.1.1) h) (by decide)
theorem gmul_on {p : F2 × F2} (hp : Onb p) (k : Fr) : Onb (gmul p k) := by rw [gmul_eq hp]; exact nmul_on b4_ne hp _
abbrev rN : Nat := g1.rN
theorem gG_ord : nmul gG rN = O2 := by
  have h1 : Rep b4 (evP2.φ3 ((qxA, qxB), (qyA, qyB), ((1 : Nat), (0 : Nat)))) gG := by
    have h := rep_lift gG_on
    unfold jlift at h
    rw [if_neg gG_ne, gG_eq] at h
    rw [gG_eq]
    exact h
  have h2 := Ev.mul2_rep b4_ne h1 256 rN (by decide)
  have h3 := (evP2.isz_φ _).1 ord2_z
  rcases h2 with ⟨_, h⟩ | ⟨h, _⟩
  · exact h
  · exact absurd h3 h
/-- Points that come to nought r times. -/
def Sub (p : F2 × F2) : Prop := Onb p ∧ nmul p rN = O2
theorem sub_G : Sub gG := ⟨gG_on, gG_ord⟩
theorem sub_nmul {p : F2 × F2} (h : Sub p) (n : Nat) : Sub (nmul p n) := by
  refine ⟨nmul_on b4_ne h.1 n, ?_⟩
  rw [nmul_mul b4_ne h.1, Nat.mul_comm, ← nmul_mul b4_ne h.1, h.2, nmul_O]
theorem sub_gmul {p : F2 × F2} (h : Sub p) (k : Fr) : Sub (gmul p k) := by rw [gmul_eq h.1]; exact sub_nmul h _
theorem nmul_mod {p : F2 × F2} (h : Sub p) (m : Nat) : nmul p m = nmul p (m % rN) := by
  conv => lhs; rw [← Nat.div_add_mod m rN]
  rw [nmul_add b4_ne h.1, ← nmul_mul b4_ne h.1, h.2, nmul_O, O_add]
theorem frv (x : Fr) : ∃ n : Nat, x.v = (n : Int) ∧ n < rN := g1.frv x
theorem mul_of {p : F2 × F2} (h : Sub p) {x : Fr} {m : Nat} (hx : x.v = (m : Int) % (rN : Int)) : gmul p x = nmul p m := by
  rw [gmul_eq h.1, hx, nmul_mod h m, ← Int.natCast_emod, Int.toNat_natCast]
theorem mul_add {p : F2 × F2} (h : Sub p) (x y : Fr) : gmul p (x + y) = padd (gmul p x) (gmul p y) := by
  obtain ⟨m, hm, _⟩ := frv x
  obtain ⟨n, hn, _⟩ := frv y
  rw [mul_of h (x := x + y) (m := m + n) (by rw [add_v, hm, hn, Int.natCast_add]; rfl), gmul_eq h.1, gmul_eq h.1, hm, hn, Int.toNat_natCast, Int.toNat_natCast, nmul_add b4_ne h.1]
theorem mul_mul {p : F2 × F2} (h : Sub p) (x y : Fr) : gmul p (x * y) = gmul (gmul p x) y := by
  obtain ⟨m, hm, _⟩ := frv x
  obtain ⟨n, hn, _⟩ := frv y
  rw [mul_of h (x := x * y) (m := m * n) (by rw [mul_v, hm, hn, Int.natCast_mul]; rfl), gmul_eq (sub_gmul h x).1, gmul_eq h.1, hm, hn, Int.toNat_natCast, Int.toNat_natCast, nmul_mul b4_ne h.1]
theorem mul_zero {p : F2 × F2} (h : Sub p) : gmul p 0 = O2 := by
  rw [gmul_eq h.1, zero_v]; rfl
theorem mul_one {p : F2 × F2} (h : Sub p) : gmul p 1 = p := by
  rw [gmul_eq h.1, one_v]; exact nmul_one
theorem mul_neg {p : F2 × F2} (h : Sub p) (x : Fr) : gmul p (-x) = pneg (gmul p x) := by
  have e : padd (gmul p x) (gmul p (-x)) = O2 := by rw [← mul_add h, Rg.add_neg, mul_zero h]
  have hx := (sub_gmul h x).1
  have hn := (sub_gmul h (-x)).1
  have := cancel b4_ne hx hn
  rw [e, add_O] at this
  exact this.symm
end Go.Proofs.Ytlhgcbmanifpiaa.g2
/- codec.G2; law09: head, long, marks. -/
namespace Go.Proofs.Ytlhgcbmanifpiaa.codec
set_option maxRecDepth 100000
open Go Go.Eng Go.RowKit Cr Go.Proofs.Ytlhgcbmanifpiaa
theorem ent_g2 : enters Try.prog 69 Try.f69 := enters_mk (by kernel_rfl) (by kernel_rfl) (by kernel_rfl)
/-- The short form of a point of the second group. -/
def g2b (p : F2 × F2) : List Int := (fp2.by2 p.1).set 0 (bitOp .or .u8 ((fp2.by2 p.1).getD 0 0) (if eqC (.pair (.pair .fp .fp) (.pair .fp .fp)) p ((0, 0), (0, 0)) = true then (192 : Int) else if fp2.lg2 p.2 = true then 160 else 128))
abbrev outG2 : HL [g2.pt2] → HO [.val (.arr 96 (.int .u8))] := fun (p, _) => (g2b p, ())
theorem fn_g2 : FnOk Try.prog 69 [g2.pt2] [.val (.arr 96 (.int .u8))] noG (fun _ => True) outG2 := by
  refine fn_of_vc (sp := sps [fp2.spBytes, fp2.spLarge, spMark]) (sps_cons (fnSpec_ok fp2.fn_bytes) (sps_cons (fnSpec_ok fp2.fn_large) (sps_cons (fnSpec_ok fn_mark) sps_nil))) mixed ent_g2 (by decide) (by decide) ?_
  rintro w M0 ⟨⟨x, y⟩, ⟨⟩⟩ _ _
  refine vcx (X := (True ∧ True ∧ True ∧ (0 : Nat) < 96 ∧ ((g2b (x, y), ()) : List Int × Unit) = outG2 ((x, y), ()))) (by kernel_rfl) ⟨trivial, trivial, trivial, by decide, rfl⟩
noncomputable def spG2 : Nat × Eng.Spec := (69, fnSpec [g2.pt2] [.val (.arr 96 (.int .u8))] (fun _ => True) outG2)
end Go.Proofs.Ytlhgcbmanifpiaa.codec
namespace Go.Proofs.Ytlhgcbmanifpiaa.law09
set_option maxRecDepth 100000
open Go Go.Eng Go.RowKit Cr Go.Proofs.Ytlhgcbmanifpiaa Go.Proofs.Ytlhgcbmanifpiaa.codec
theorem ent_head : enters Try.prog 32 Try.f32 := enters_mk (by kernel_rfl) (by kernel_rfl) (by kernel_rfl)
theorem fn_head : FnOk Try.prog 32 [] [.val .bool] noG (fun _ => True) (fun _ => (true, ())) := by
  refine fn_of_vc (sp := sps [codec.spG1, codec.spG2, g1.soGen, g2.soGen]) (sps_cons (fnSpec_ok codec.fn_g1) (sps_cons (fnSpec_ok codec.fn_g2) (sps_cons (fnSpec_ok g1.fo_gen) (sps_cons (fnSpec_ok g2.fo_gen) sps_nil)))) mixed ent_head (by decide) (by decide) ?_
  rintro w M0 ⟨⟩ _ _
  refine vcx (X := (True ∧ True ∧ True ∧ True ∧ True ∧ ((bitOp BinOp.or IntKind.u8 ((bytesN (48 : Nat) (Zm.v (0 : Fp))).getD (0 : Nat) (0 : Int)) (if (decide ((0 : Fp) = (0 : Fp)) && decide ((0 : Fp) = (0 : Fp))) = true then (192 : Int) else if decide ((-0 : Fp).v < Zm.v (0 : Fp)) = true then (160 : Int) else (128 : Int)) == (192 : Int)) = true → ((Zm.v (0 : Fp) / p256 ((48 : Nat) - (1 : Nat) - nat_lit 1) % (256 : Int) == (0 : Int)) = true → ((bitOp BinOp.or IntKind.u8 ((bytesN (48 : Nat) g1.gG.fst.v).getD (0 : Nat) (0 : Int)) (if (decide (g1.gG.fst = (0 : Fp)) && decide (g1.gG.snd = (0 : Fp))) = true then (192 : Int) else if decide ((-g1.gG.snd).v < g1.gG.snd.v) = true then (160 : Int) else (128 : Int)) == (151 : Int)) = true → ((g1.gG.fst.v / p256 ((48 : Nat) - (1 : Nat) - nat_lit 1) % (256 : Int) == (241 : Int)) = true → ((bitOp BinOp.or IntKind.u8 ((fp2.by2 g2.gG.fst).getD (0 : Nat) (0 : Int)) (if eqC ((Kd.fp.pair Kd.fp).pair (Kd.fp.pair Kd.fp)) g2.gG (((0 : Zm Mp), (0 : Zm Mp)), (0 : Zm Mp), (0 : Zm Mp)) = true then (192 : Int) else if fp2.lg2 g2.gG.snd = true then (160 : Int) else (128 : Int)) == (147 : Int)) = true → (g2.gG.fst.snd.v / p256 ((48 : Nat) - (1 : Nat) - nat_lit 1) % (256 : Int) == (224 : Int), ()) = (true, ())) ∧ ((bitOp BinOp.or IntKind.u8 ((fp2.by2 g2.gG.fst).getD (0 : Nat) (0 : Int)) (if eqC ((Kd.fp.pair Kd.fp).pair (Kd.fp.pair Kd.fp)) g2.gG (((0 : Zm Mp), (0 : Zm Mp)), (0 : Zm Mp), (0 : Zm Mp)) = true then (192 : Int) else if fp2.lg2 g2.gG.snd = true then (160 : Int) else (128 : Int)) == (147 : Int)) = false → (false, ()) = (true, ()))) ∧ ((g1.gG.fst.v / p256 ((48 : Nat) - (1 : Nat) - nat_lit 1) % (256 : Int) == (241 : Int)) = false → (false, ()) = (true, ()))) ∧ ((bitOp BinOp.or IntKind.u8 ((bytesN (48 : Nat) g1.gG.fst.v).getD (0 : Nat) (0 : Int)) (if (decide (g1.gG.fst = (0 : Fp)) && decide (g1.gG.snd = (0 : Fp))) = true then (192 : Int) else if decide ((-g1.gG.snd).v < g1.gG.snd.v) = true then (160 : Int) else (128 : Int)) == (151 : Int)) = false → (false, ()) = (true, ()))) ∧ ((Zm.v (0 : Fp) / p256 ((48 : Nat) - (1 : Nat) - nat_lit 1) % (256 : Int) == (0 : Int)) = false → (false, ()) = (true, ()))) ∧ ((bitOp BinOp.or IntKind.u8 ((bytesN (48 : Nat) (Zm.v (0 : Fp))).getD (0 : Nat) (0 : Int)) (if (decide ((0 : Fp) = (0 : Fp)) && decide ((0 : Fp) = (0 : Fp))) = true then (192 : Int) else if decide ((-0 : Fp).v < Zm.v (0 : Fp)) = true then (160 : Int) else (128 : Int)) == (192 : Int)) = false → (false, ()) = (true, ())))) (by kernel_rfl) ?_
  rw [g1.gG_eq, g2.gG_eq]
  decide +kernel
noncomputable def spHead : Nat × Eng.Spec := (32, fnSpec [] [.val .bool] (fun _ => True) (fun _ => (true, ())))
theorem ent_long : enters Try.prog 33 Try.f33 := enters_mk (by kernel_rfl) (by kernel_rfl) (by kernel_rfl)
abbrev outLong : HL [.sl (.int .u8)] → HO [.val .bool] := fun (b, _) => (decide ((List.length b : Int) > 400), ())
theorem fn_long : FnOk Try.prog 33 [.sl (.int .u8)] [.val .bool] noG (fun _ => True) outLong := by
  refine fn_of_vc (sp := sps []) sps_nil mixed ent_long (by decide) (by decide) ?_
  rintro w M0 ⟨b, ⟨⟩⟩
  revert b
  intro (b : List Int) _ _
  refine vcx (X := ((decide ((↑b.length : Int) > (400 : Int)), ()) = outLong (b, ()))) (by kernel_rfl) ?_
  rfl
noncomputable def spLong : Nat × Eng.Spec := (33, fnSpec [.sl (.int .u8)] [.val .bool] (fun _ => True) outLong)
/-- The error of a form's marks, and whether it is infinity. -/
def mkF (b : List Int) (n : Int) : Int × Bool :=
  if (b.length : Int) ≠ n ∧ (b.length : Int) ≠ 2 * n then (10, false)
  else if decide (b.getD 0 0 ≥ 128) ≠ decide ((b.length : Int) = n) ∨ (bitOp .and .u8 (b.getD 0 0) 32 != 0) = true ∧ decide (b.getD 0 0 ≥ 128) = false ∨ (bitOp .and .u8 (b.getD 0 0) 32 != 0) = true ∧ (bitOp .and .u8 (b.getD 0 0) 64 != 0) = true then (11, false)
  else if (bitOp .and .u8 (b.getD 0 0) 64 != 0) = true then (if (∃ v ∈ b.drop 1, v ≠ 0) ∨ bitOp .and .u8 (b.getD 0 0) 31 ≠ 0 then (11, true) else (0, true))
  else (0, false)
theorem ent_marks : enters Try.prog 36 Try.f36 := enters_mk (by kernel_rfl) (by kernel_rfl) (by kernel_rfl)
abbrev outMarks : HL [.sl (.int .u8), .int .i64] → HO [.val (.int .i64), .val .bool] := fun (b, n, _) => ((mkF b n).1, (mkF b n).2, ())
noncomputable def mkC (b : List Int) (n : Int) (g : Bool × Bool × Bool) : St := mkSt Try.f36.ntmps 200 [(0, .is (.one (.ro (.int .u8) b))), (1, sI .i64 n), (4, sI .i64 0), (5, .is (.one .F)), (6, .is (.one (.v (.bool g.1)))), (7, .is (.one (.v (.bool g.2.1)))), (8, .is (.one (.v (.bool g.2.2))))] []
def mkK (b : List Int) (n : Int) (g : Bool × Bool × Bool) : Prop := g.1 = decide (b.getD 0 0 ≥ 128) ∧ g.2.1 = (bitOp .and .u8 (b.getD 0 0) 64 != 0) ∧ g.2.2 = (bitOp .and .u8 (b.getD 0 0) 32 != 0) ∧ 1 ≤ b.length ∧ ((b.length : Int) = n ∨ (b.length : Int) = 2 * n)
noncomputable def mkD (b : List Int) (R : Bool) : St := mkSt Try.f36.ntmps 352 [(0, .is (.one (.ro (.int .u8) b))), (4, sI .i64 0), (5, .is (.one .F)), (7, .is (.one (.v (.bool R)))), (54, .is (.one (.v (.bool R))))] []
noncomputable def mkE (b : List Int) (R : Bool) (g : Int) : St := mkSt Try.f36.ntmps 352 [(0, .is (.one (.ro (.int .u8) b))), (4, sI .i64 0), (5, .is (.one .F)), (7, .is (.one (.v (.bool R)))), (56, sI .i64 b.length), (57, sI .i64 g)] []
def mkJ (b : List Int) (g : Int) : Prop := ∃ k : Nat, k ≤ b.length ∧ g = (k : Int) ∧ (1 ≤ k → bitOp .and .u8 (b.getD 0 0) 31 = 0) ∧ ∀ t, 1 ≤ t → t < k → b.getD t 0 = 0
def mkO (b : List Int) : Prop := bitOp .and .u8 (b.getD 0 0) 31 = 0 ∧ ∀ v ∈ b.drop 1, v = 0
theorem fn_marks : FnOk Try.prog 36 [.sl (.int .u8), .int .i64] [.val (.int .i64), .val .bool] noG prePart outMarks := by
  have hsp : SpecsOk Try.prog (sps []) := sps_nil
  refine fn_of_tr (sp := sps []) ent_marks (by decide) (by decide) (by kernel_rfl) ?_
  rintro w M0 ⟨b, n, ⟨⟩⟩
  revert b n
  intro (b : List Int) (n : Int) _ hp
  obtain ⟨⟨hb, hl⟩, hn1, hn2⟩ := hp
  have hl : b.length ≤ 1000000 := hl
  have hn1 : 1 ≤ n := hn1
  have hn2 : n ≤ 1000 := hn2
  show Tr _ _ _ _ _ _ _
  have e2n : IntKind.i64.wrap (2 * n) = 2 * n := wrap_i64' (by omega) (by omega)
  refine tr_cutF hsp mixed 6 (fun σ => (rdS .bool 6 σ, rdS .bool 7 σ, rdS .bool 8 σ)) (mkC b n) (mkK b n) ?_ ?_
  · refine vcx (X := ((((↑b.length : Int) != n) = true → (((↑b.length : Int) != IntKind.i64.wrap ((2 : Int) * n)) = true → ((10 : Int), false, ()) = outMarks (b, n, ())) ∧ (((↑b.length : Int) != IntKind.i64.wrap ((2 : Int) * n)) = false → ((0 : Int) ≤ (0 : Int) ∧ (0 : Int) < (↑b.length : Int)) ∧ (0 : Nat) < b.length ∧ ((0 : Int) ≤ (0 : Int) ∧ (0 : Int) < (↑b.length : Int)) ∧ (0 : Nat) < b.length ∧ ((0 : Int) ≤ (0 : Int) ∧ (0 : Int) < (↑b.length : Int)) ∧ (0 : Nat) < b.length ∧ (mkC b n (decide (b.getD (0 : Nat) (0 : Int) ≥ (128 : Int)), bitOp BinOp.and IntKind.u8 (b.getD (0 : Nat) (0 : Int)) (64 : Int) != (0 : Int), bitOp BinOp.and IntKind.u8 (b.getD (0 : Nat) (0 : Int)) (32 : Int) != (0 : Int))).triv (mkK b n (decide (b.getD (0 : Nat) (0 : Int) ≥ (128 : Int)), bitOp BinOp.and IntKind.u8 (b.getD (0 : Nat) (0 : Int)) (64 : Int) != (0 : Int), bitOp BinOp.and IntKind.u8 (b.getD (0 : Nat) (0 : Int)) (32 : Int) != (0 : Int))))) ∧ (((↑b.length : Int) != n) = false → ((0 : Int) ≤ (0 : Int) ∧ (0 : Int) < (↑b.length : Int)) ∧ (0 : Nat) < b.length ∧ ((0 : Int) ≤ (0 : Int) ∧ (0 : Int) < (↑b.length : Int)) ∧ (0 : Nat) < b.length ∧ ((0 : Int) ≤ (0 : Int) ∧ (0 : Int) < (↑b.length : Int)) ∧ (0 : Nat) < b.length ∧ (mkC b n (decide (b.getD (0 : Nat) (0 : Int) ≥ (128 : Int)), bitOp BinOp.and IntKind.u8 (b.getD (0 : Nat) (0 : Int)) (64 : Int) != (0 : Int), bitOp BinOp.and IntKind.u8 (b.getD (0 : Nat) (0 : Int)) (32 : Int) != (0 : Int))).triv (mkK b n (decide (b.getD (0 : Nat) (0 : Int) ≥ (128 : Int)), bitOp BinOp.and IntKind.u8 (b.getD (0 : Nat) (0 : Int)) (64 : Int) != (0 : Int), bitOp BinOp.and IntKind.u8 (b.getD (0 : Nat) (0 : Int)) (32 : Int) != (0 : Int)))))) (by kernel_rfl) ?_
    rw [e2n]
    refine ⟨fun h => ⟨fun h' => ?_, fun h' => ?_⟩, fun h => ?_⟩
    · show _ = ((mkF b n).1, (mkF b n).2, ())
      rw [mkF, if_pos ⟨by simpa using h, by simpa using h'⟩]
    · have h' : (b.length : Int) = 2 * n := by simpa using h'
      have hb1 : 1 ≤ b.length := by omega
      exact ⟨⟨by omega, by omega⟩, hb1, ⟨by omega, by omega⟩, hb1, ⟨by omega, by omega⟩, hb1, triv_intro ⟨rfl, rfl, rfl, hb1, .inr h'⟩⟩
    · have h : (b.length : Int) = n := by simpa using h
      have hb1 : 1 ≤ b.length := by omega
      exact ⟨⟨by omega, by omega⟩, hb1, ⟨by omega, by omega⟩, hb1, ⟨by omega, by omega⟩, hb1, triv_intro ⟨rfl, rfl, rfl, hb1, .inl h⟩⟩
  rintro ⟨S, R, L⟩ hK
  revert S R L
  intro (S : Bool) (R : Bool) (L : Bool) ⟨k1, k2, k3, k4, k5⟩
  have k1 : S = decide (b.getD 0 0 ≥ 128) := k1
  have k2 : R = (bitOp .and .u8 (b.getD 0 0) 64 != 0) := k2
  have k3 : L = (bitOp .and .u8 (b.getD 0 0) 32 != 0) := k3
  have em : mkF b n = if S ≠ decide ((b.length : Int) = n) ∨ L = true ∧ S = false ∨ L = true ∧ R = true then (11, false)
      else if R = true then (if (∃ v ∈ b.drop 1, v ≠ 0) ∨ bitOp .and .u8 (b.getD 0 0) 31 ≠ 0 then (11, true) else (0, true)) else (0, false) := by
    rw [mkF, if_neg (by omega), k1, k2, k3]
  refine tr_cut hsp mixed 3 (mkD b R) (S = decide ((b.length : Int) = n) ∧ ¬ (L = true ∧ S = false) ∧ ¬ (L = true ∧ R = true)) ?_ (fun hk => ?_)
  · refine vcx (X := (((!S == ((↑b.length : Int) == n)) = true → ((11 : Int), false, ()) = outMarks (b, n, ())) ∧ ((!S == ((↑b.length : Int) == n)) = false → (L = true → ((!S) = true → ((11 : Int), false, ()) = outMarks (b, n, ())) ∧ ((!S) = false → (L = true → (R = true → ((11 : Int), false, ()) = outMarks (b, n, ())) ∧ (R = false → (mkD b R).triv (S = decide ((↑b.length : Int) = n) ∧ ¬(L = true ∧ S = false) ∧ ¬(L = true ∧ R = true)))) ∧ (L = false → (mkD b R).triv (S = decide ((↑b.length : Int) = n) ∧ ¬(L = true ∧ S = false) ∧ ¬(L = true ∧ R = true))))) ∧ (L = false → (L = true → (R = true → ((11 : Int), false, ()) = outMarks (b, n, ())) ∧ (R = false → (mkD b R).triv (S = decide ((↑b.length : Int) = n) ∧ ¬(L = true ∧ S = false) ∧ ¬(L = true ∧ R = true)))) ∧ (L = false → (mkD b R).triv (S = decide ((↑b.length : Int) = n) ∧ ¬(L = true ∧ S = false) ∧ ¬(L = true ∧ R = true))))))) (by kernel_rfl) ?_
    rw [show ((b.length : Int) == n) = decide ((b.length : Int) = n) from rfl]
    have e11 : (S ≠ decide ((b.length : Int) = n) ∨ L = true ∧ S = false ∨ L = true ∧ R = true) → ((11 : Int), false, ()) = ((mkF b n).1, (mkF b n).2, ()) := fun h => by rw [em, if_pos h]
    refine ⟨fun h => e11 (.inl (by simpa using h)), fun h => ⟨fun h2 => ⟨fun h3 => e11 (.inr (.inl ⟨h2, by simpa using h3⟩)), fun h3 => ⟨fun _ => ⟨fun h4 => e11 (.inr (.inr ⟨h2, h4⟩)), fun h4 => triv_intro ⟨by simpa using h, ?_, ?_⟩⟩, fun h4 => absurd h2 (by rw [h4]; decide)⟩⟩, fun h2 => ⟨fun h3 => absurd h3 (by rw [h2]; decide), fun _ => triv_intro ⟨by simpa using h, ?_, ?_⟩⟩⟩⟩
    · rintro ⟨_, h5⟩; rw [h5] at h3; cases h3
    · rintro ⟨_, h5⟩; rw [h5] at h4; cases h4
    · rintro ⟨h5, _⟩; rw [h2] at h5; cases h5
    · rintro ⟨h5, _⟩; rw [h2] at h5; cases h5
  obtain ⟨ha, hb1, hb2⟩ := hk
  rw [if_neg (by rintro (h | h | h); exact h ha; exact hb1 h; exact hb2 h)] at em
  refine tr_cond (c := nthC (codeOf Try.f36) 9) R (by kernel_rfl) (by kernel_rfl) (by kernel_rfl) (fun ht => ?_) (fun ht => ?_)
  · refine tr_cut hsp mixed 1 (mkE b R 0) True ?_ (fun _ => ?_)
    · refine vcx (X := ((mkE b R (0 : Int)).triv True)) (by kernel_rfl) ?_
      exact triv_intro trivial
    refine tr_while hsp mixed noSw (fun σ => rdS (.int .i64) 57 σ) (mkE b R) (mkJ b) (fun g => b.length - g.toNat)
      (fun σ => rdS (.int .i64) 57 σ) (mkE b R) (fun _ => mkO b) 0 (c := nthC (thenOf (nthC (codeOf Try.f36) 9)) 1) (by kernel_rfl) (by kernel_rfl) (le_of_proj (by kernel_rfl) (by kernel_rfl) ?_) ?_ ?_
    · exact ⟨0, Nat.zero_le _, rfl, fun h => absurd h (by decide), fun t h1 h2 => absurd h2 (Nat.not_lt_zero _)⟩
    · intro (i : Int) ⟨k, hk, ei, hz0, hz⟩
      subst ei
      refine vcx (X := ((decide ((↑k : Int) < (↑b.length : Int)) = true → (decide ((↑k : Int) > (0 : Int)) = true → ((0 : Int) ≤ (↑k : Int) ∧ (↑k : Int) < (↑b.length : Int)) ∧ (↑k : Int).toNat < b.length ∧ ((b.getD (↑k : Int).toNat (0 : Int) != (0 : Int)) = true → ((11 : Int), true, ()) = outMarks (b, n, ())) ∧ ((b.getD (↑k : Int).toNat (0 : Int) != (0 : Int)) = false → (((↑k : Int) == (0 : Int)) = true → ((0 : Int) ≤ (0 : Int) ∧ (0 : Int) < (↑b.length : Int)) ∧ (0 : Nat) < b.length ∧ ((bitOp BinOp.and IntKind.u8 (b.getD (0 : Nat) (0 : Int)) (31 : Int) != (0 : Int)) = true → ((11 : Int), true, ()) = outMarks (b, n, ())) ∧ ((bitOp BinOp.and IntKind.u8 (b.getD (0 : Nat) (0 : Int)) (31 : Int) != (0 : Int)) = false → (mkE b R (IntKind.i64.wrap ((↑k : Int) + (1 : Int)))).triv (mkJ b (IntKind.i64.wrap ((↑k : Int) + (1 : Int))) ∧ b.length - (IntKind.i64.wrap ((↑k : Int) + (1 : Int))).toNat < b.length - (↑k : Int).toNat))) ∧ (((↑k : Int) == (0 : Int)) = false → (mkE b R (IntKind.i64.wrap ((↑k : Int) + (1 : Int)))).triv (mkJ b (IntKind.i64.wrap ((↑k : Int) + (1 : Int))) ∧ b.length - (IntKind.i64.wrap ((↑k : Int) + (1 : Int))).toNat < b.length - (↑k : Int).toNat)))) ∧ (decide ((↑k : Int) > (0 : Int)) = false → (((↑k : Int) == (0 : Int)) = true → ((0 : Int) ≤ (0 : Int) ∧ (0 : Int) < (↑b.length : Int)) ∧ (0 : Nat) < b.length ∧ ((bitOp BinOp.and IntKind.u8 (b.getD (0 : Nat) (0 : Int)) (31 : Int) != (0 : Int)) = true → ((11 : Int), true, ()) = outMarks (b, n, ())) ∧ ((bitOp BinOp.and IntKind.u8 (b.getD (0 : Nat) (0 : Int)) (31 : Int) != (0 : Int)) = false → (mkE b R (IntKind.i64.wrap ((↑k : Int) + (1 : Int)))).triv (mkJ b (IntKind.i64.wrap ((↑k : Int) + (1 : Int))) ∧ b.length - (IntKind.i64.wrap ((↑k : Int) + (1 : Int))).toNat < b.length - (↑k : Int).toNat))) ∧ (((↑k : Int) == (0 : Int)) = false → (mkE b R (IntKind.i64.wrap ((↑k : Int) + (1 : Int)))).triv (mkJ b (IntKind.i64.wrap ((↑k : Int) + (1 : Int))) ∧ b.length - (IntKind.i64.wrap ((↑k : Int) + (1 : Int))).toNat < b.length - (↑k : Int).toNat)))) ∧ (decide ((↑k : Int) < (↑b.length : Int)) = false → (mkE b R (↑k : Int)).triv (mkO b)))) (by kernel_rfl) ?_
      rw [Int.toNat_natCast]
      have e11 : ((∃ v ∈ b.drop 1, v ≠ 0) ∨ bitOp .and .u8 (b.getD 0 0) 31 ≠ 0) → ((11 : Int), true, ()) = ((mkF b n).1, (mkF b n).2, ()) := fun h => by rw [em, if_pos ht, if_pos h]
      refine ⟨fun h => ?_, fun h => triv_intro ?_⟩
      · have hlt : k < b.length := by have := dec_lt h; omega
        rw [wrap_succ (by omega)]
        have hmu : b.length - ((k + 1 : Nat) : Int).toNat < b.length - k := by rw [Int.toNat_natCast]; omega
        have hb0 : ((0 : Int) ≤ 0 ∧ (0 : Int) < (b.length : Int)) := ⟨by decide, by omega⟩
        by_cases hk0 : k = 0
        · subst hk0
          refine ⟨fun h2 => absurd h2 (by decide), fun _ => ⟨fun _ => ⟨hb0, by omega, fun h3 => e11 (.inr (by simpa using h3)), fun h3 => triv_intro ⟨⟨1, hlt, rfl, fun _ => by simpa using h3, fun t t1 t2 => absurd t2 (by omega)⟩, hmu⟩⟩, fun h3 => absurd h3 (by decide)⟩⟩
        · have hg : b.getD k 0 = b[k] := by rw [List.getD_eq_getElem?_getD, List.getElem?_eq_getElem hlt, Option.getD_some]
          refine ⟨fun _ => ⟨⟨by omega, by omega⟩, hlt, fun h3 => e11 (.inl ⟨b[k], ?_, by rw [← hg]; simpa using h3⟩), fun h3 => ⟨fun h4 => absurd (show (k : Int) = 0 by simpa using h4) (by omega), fun _ => triv_intro ⟨⟨k + 1, hlt, rfl, fun _ => hz0 (by omega), fun t t1 t2 => ?_⟩, hmu⟩⟩⟩, fun h2 => absurd h2 (by simp; omega)⟩
          · rw [List.mem_iff_getElem]
            exact ⟨k - 1, by simp; omega, by rw [List.getElem_drop]; congr 1; omega⟩
          · by_cases htk : t = k
            · subst htk; simpa using h3
            · exact hz t t1 (by omega)
      · have : k = b.length := by have := dec_ge h; omega
        refine ⟨hz0 (by omega), fun v hv => ?_⟩
        obtain ⟨t, ht1, ht2⟩ := List.mem_iff_getElem.1 hv
        rw [List.getElem_drop] at ht2
        have ht1 : t < b.length - 1 := by simpa using ht1
        have := hz (1 + t) (by omega) (by omega)
        rw [List.getD_eq_getElem?_getD, List.getElem?_eq_getElem (by omega), Option.getD_some, ht2] at this
        exact this
    intro (i : Int) (ho : mkO b)
    refine tr_vc hsp mixed _ _ ?_
    refine vcx (X := (((0 : Int), R, ()) = outMarks (b, n, ()))) (by kernel_rfl) ?_
    show _ = ((mkF b n).1, (mkF b n).2, ())
    rw [em, if_pos ht, if_neg (by rintro (⟨v, hv, hne⟩ | h); exact hne (ho.2 v hv); exact h ho.1), ht]
  · refine tr_vc hsp mixed _ _ ?_
    refine vcx (X := (((0 : Int), R, ()) = outMarks (b, n, ()))) (by kernel_rfl) ?_
    show _ = ((mkF b n).1, (mkF b n).2, ())
    rw [em, if_neg (by rw [ht]; decide), ht]
noncomputable def spMarks : Nat × Eng.Spec := (36, fnSpec [.sl (.int .u8), .int .i64] [.val (.int .i64), .val .bool] prePart outMarks)
end Go.Proofs.Ytlhgcbmanifpiaa.law09
/- The references' Same. -/
namespace Go.Proofs.Ytlhgcbmanifpiaa.ref01
set_option maxRecDepth 100000
open Go Go.Eng Go.RowKit Cr Go.Proofs.Ytlhgcbmanifpiaa
theorem ent_same : enters Try.prog 30 Try.f30 := enters_mk (by kernel_rfl) (by kernel_rfl) (by kernel_rfl)
abbrev preSame : HL [.sl (.int .u8), .sl (.int .u8)] → Prop := fun (a, _, _) => List.length a < 4611686018427387904
def sameF (a b : List Int) : Bool := decide (a = b)
abbrev outSame : HL [.sl (.int .u8), .sl (.int .u8)] → HO [.val .bool] := fun (a, b, _) => (sameF a b, ())
noncomputable def saI (a b : List Int) (g : Int) : St := mkSt Try.f30.ntmps 72 [(0, .is (.one (.ro (.int .u8) a))), (1, .is (.one (.ro (.int .u8) b))), (4, .is (.one .F)), (12, sI .i64 a.length), (13, sI .i64 g)] []
def saJ (a b : List Int) (g : Int) : Prop := ∃ k : Nat, k ≤ a.length ∧ g = (k : Int) ∧ a.take k = b.take k
theorem fn_same : FnOk Try.prog 30 [.sl (.int .u8), .sl (.int .u8)] [.val .bool] noG preSame outSame := by
  have hsp : SpecsOk Try.prog (sps []) := sps_nil
  refine fn_of_tr (sp := sps []) ent_same (by decide) (by decide) (by kernel_rfl) ?_
  rintro w M0 ⟨a, b, ⟨⟩⟩
  revert a b
  intro (a : List Int) (b : List Int) _ hl
  have hl : a.length < 4611686018427387904 := hl
  show Tr _ _ _ _ _ _ _
  refine tr_cut hsp mixed 4 (saI a b 0) (a.length = b.length) ?_ (fun he => ?_)
  · refine vcx (X := ((((↑a.length : Int) != (↑b.length : Int)) = true → (false, ()) = outSame (a, b, ())) ∧ (((↑a.length : Int) != (↑b.length : Int)) = false → (saI a b (0 : Int)).triv (a.length = b.length)))) (by kernel_rfl) ?_
    refine ⟨fun h => ?_, fun h => triv_intro (by simp at h; omega)⟩
    have h : ¬ a.length = b.length := by simp at h; omega
    show _ = (sameF a b, ())
    rw [sameF, decide_eq_false (fun e => h (by rw [e]))]
  refine tr_while hsp mixed noSw (fun σ => rdS (.int .i64) 13 σ) (saI a b) (saJ a b) (fun g => a.length - g.toNat)
    (fun σ => rdS (.int .i64) 13 σ) (saI a b) (fun _ => a = b) 0 (c := nthC (codeOf Try.f30) 4) (by kernel_rfl) (by kernel_rfl) (le_of_proj (by kernel_rfl) (by kernel_rfl) ?_) ?_ ?_
  · exact ⟨0, Nat.zero_le _, rfl, rfl⟩
  · intro (i : Int) ⟨k, hk, ei, ht⟩
    subst ei
    refine vcx (X := ((decide ((↑k : Int) < (↑a.length : Int)) = true → ((0 : Int) ≤ (↑k : Int) ∧ (↑k : Int) < (↑a.length : Int)) ∧ (↑k : Int).toNat < a.length ∧ ((0 : Int) ≤ (↑k : Int) ∧ (↑k : Int) < (↑b.length : Int)) ∧ (↑k : Int).toNat < b.length ∧ ((a.getD (↑k : Int).toNat (0 : Int) != b.getD (↑k : Int).toNat (0 : Int)) = true → (false, ()) = outSame (a, b, ())) ∧ ((a.getD (↑k : Int).toNat (0 : Int) != b.getD (↑k : Int).toNat (0 : Int)) = false → (saI a b (IntKind.i64.wrap ((↑k : Int) + (1 : Int)))).triv (saJ a b (IntKind.i64.wrap ((↑k : Int) + (1 : Int))) ∧ a.length - (IntKind.i64.wrap ((↑k : Int) + (1 : Int))).toNat < a.length - (↑k : Int).toNat))) ∧ (decide ((↑k : Int) < (↑a.length : Int)) = false → (saI a b (↑k : Int)).triv (a = b)))) (by kernel_rfl) ?_
    rw [Int.toNat_natCast]
    refine ⟨fun h => ?_, fun h => triv_intro ?_⟩
    · have hlt : k < a.length := by have := dec_lt h; omega
      have ga : a.getD k 0 = a[k] := by rw [List.getD_eq_getElem?_getD, List.getElem?_eq_getElem hlt, Option.getD_some]
      have gb : b.getD k 0 = b[k] := by rw [List.getD_eq_getElem?_getD, List.getElem?_eq_getElem (by omega), Option.getD_some]
      rw [wrap_succ (by omega), ga, gb]
      refine ⟨⟨by omega, by omega⟩, hlt, ⟨by omega, by omega⟩, by omega, fun h2 => ?_, fun h2 => triv_intro ⟨⟨k + 1, hlt, rfl, ?_⟩, by rw [Int.toNat_natCast]; omega⟩⟩
      · have h2 : a[k] ≠ b[k] := by simpa using h2
        show _ = (sameF a b, ())
        rw [sameF, decide_eq_false (fun e => h2 (by subst e; rfl))]
      · have h2 : a[k] = b[k] := by simpa using h2
        rw [List.take_succ_eq_append_getElem hlt, List.take_succ_eq_append_getElem (by omega), ht, h2]
    · have : k = a.length := by have := dec_ge h; omega
      subst this
      rw [List.take_length] at ht
      rw [ht, he, List.take_length]
  intro (i : Int) (h : a = b)
  refine tr_vc hsp mixed _ _ ?_
  refine vcx (X := ((true, ()) = outSame (a, b, ()))) (by kernel_rfl) ?_
  show _ = (sameF a b, ())
  rw [sameF, decide_eq_true h]
noncomputable def spSame : Nat × Eng.Spec := (30, fnSpec [.sl (.int .u8), .sl (.int .u8)] [.val .bool] preSame outSame)
end Go.Proofs.Ytlhgcbmanifpiaa.ref01
/- law09: the law's marks against the program's. -/
namespace Go.Proofs.Ytlhgcbmanifpiaa.law09
set_option maxRecDepth 100000
open Go Go.Eng Go.RowKit Cr Go.Proofs.Ytlhgcbmanifpiaa Go.Proofs.Ytlhgcbmanifpiaa.codec
theorem bits_fin : ∀ n : Fin 256, (bitOp .and .u8 (bitOp .and .u8 ((n.val : Nat) : Int) 224) 128 != 0) = decide (((n.val : Nat) : Int) ≥ 128) ∧ (bitOp .and .u8 (bitOp .and .u8 ((n.val : Nat) : Int) 224) 64 != 0) = (bitOp .and .u8 ((n.val : Nat) : Int) 64 != 0) ∧ (bitOp .and .u8 (bitOp .and .u8 ((n.val : Nat) : Int) 224) 32 != 0) = (bitOp .and .u8 ((n.val : Nat) : Int) 32 != 0) ∧ bitOp .andNot .u8 ((n.val : Nat) : Int) 224 = bitOp .and .u8 ((n.val : Nat) : Int) 31 := by decide +kernel
theorem bits_ok {x : Int} (h0 : 0 ≤ x) (h1 : x < 256) : (bitOp .and .u8 (bitOp .and .u8 x 224) 128 != 0) = decide (x ≥ 128) ∧ (bitOp .and .u8 (bitOp .and .u8 x 224) 64 != 0) = (bitOp .and .u8 x 64 != 0) ∧ (bitOp .and .u8 (bitOp .and .u8 x 224) 32 != 0) = (bitOp .and .u8 x 32 != 0) ∧ bitOp .andNot .u8 x 224 = bitOp .and .u8 x 31 := by
  obtain ⟨n, rfl⟩ := Int.eq_ofNat_of_zero_le h0
  exact bits_fin ⟨n, by omega⟩
theorem head_ok {b : List Int} (h : Bs b) : 0 ≤ b.getD 0 0 ∧ b.getD 0 0 < 256 := by
  cases b with
  | nil => exact ⟨by decide, by decide⟩
  | cons a l => exact h a (by simp)
/-- The law's marks are the program's. -/
theorem mk_part {b : List Int} (h : Bs b) {n : Int} (hn : 1 ≤ n) : (partF b n).2.2 = (mkF b n).1 ∧ ((mkF b n).1 = 0 → (mkF b n).2 = inF b) ∧ bdy b = b.set 0 (bitOp .and .u8 (b.getD 0 0) 31) ∧ lgE b = (bitOp .and .u8 (b.getD 0 0) 32 != 0) := by
  obtain ⟨x0, x1⟩ := head_ok h
  obtain ⟨e1, e2, e3, e4⟩ := bits_ok x0 x1
  have s1 : shT b = decide (b.getD 0 0 ≥ 128) := e1
  have s2 : inF b = (bitOp .and .u8 (b.getD 0 0) 64 != 0) := e2
  have s3 : lgE b = (bitOp .and .u8 (b.getD 0 0) 32 != 0) := e3
  have s4 : bdy b = b.set 0 (bitOp .and .u8 (b.getD 0 0) 31) := by rw [bdy, e4]
  refine ⟨?_, ?_, s4, s3⟩
  · rw [partF, mkF, ← s1, ← s2, ← s3]
    by_cases h1 : (b.length : Int) ≠ n ∧ (b.length : Int) ≠ 2 * n
    · rw [if_pos h1, if_pos h1]
    · rw [if_neg h1, if_neg h1]
      by_cases h2 : shT b ≠ decide ((b.length : Int) = n)
      · rw [if_pos h2, if_pos (.inl h2)]
      · rw [if_neg h2]
        by_cases h3 : lgE b = true ∧ (shT b = false ∨ inF b = true)
        · rw [if_pos h3, if_pos (.inr (h3.2.elim (fun c => .inl ⟨h3.1, c⟩) (fun c => .inr ⟨h3.1, c⟩)))]
        · rw [if_neg h3, if_neg (show ¬ (shT b ≠ decide ((b.length : Int) = n) ∨ lgE b = true ∧ shT b = false ∨ lgE b = true ∧ inF b = true) from fun c => c.elim h2 fun c => c.elim (fun c => h3 ⟨c.1, .inl c.2⟩) fun c => h3 ⟨c.1, .inr c.2⟩)]
          by_cases h4 : inF b = true
          · have hlen : 1 ≤ b.length := by omega
            have hv : (∃ v ∈ bdy b, v ≠ 0) ↔ (∃ v ∈ b.drop 1, v ≠ 0) ∨ bitOp .and .u8 (b.getD 0 0) 31 ≠ 0 := by
              rw [s4]
              cases b with
              | nil => simp at hlen
              | cons a l =>
                simp only [List.set_cons_zero, List.mem_cons, List.drop_succ_cons, List.drop_zero]
                constructor
                · rintro ⟨v, hv | hv, hne⟩
                  · exact .inr (by rw [← hv]; exact hne)
                  · exact .inl ⟨v, hv, hne⟩
                · rintro (⟨v, hv, hne⟩ | hne)
                  · exact ⟨v, .inr hv, hne⟩
                  · exact ⟨_, .inl rfl, hne⟩
            rw [if_pos h4]
            by_cases h5 : ∃ v ∈ bdy b, v ≠ 0
            · rw [if_pos ⟨h4, h5⟩, if_pos (hv.1 h5)]
            · rw [if_neg (show ¬ (inF b = true ∧ ∃ v ∈ bdy b, v ≠ 0) from fun c => h5 c.2), if_neg (fun c => h5 (hv.2 c))]
          · rw [if_neg h4, if_neg (show ¬ (inF b = true ∧ ∃ v ∈ bdy b, v ≠ 0) from fun c => h4 c.1)]
  · intro hz
    rw [mkF, ← s1, ← s2, ← s3] at hz ⊢
    split at hz
    · cases hz
    · rename_i h1
      rw [if_neg h1]
      split at hz
      · cases hz
      · rename_i h2
        rw [if_neg h2]
        split at hz
        · rename_i h3
          rw [if_pos h3]
          split at hz
          · cases hz
          · rename_i h4
            rw [if_neg h4, h3]
        · rename_i h3
          rw [if_neg h3]
          cases hi : inF b with
          | true => exact absurd hi h3
          | false => rfl
end Go.Proofs.Ytlhgcbmanifpiaa.law09
/- CodecReads1: the walk. -/
namespace Go.Proofs.Ytlhgcbmanifpiaa.law09
set_option maxRecDepth 100000
open Go Go.Eng Go.RowKit Cr Go.Proofs.Ytlhgcbmanifpiaa Go.Proofs.Ytlhgcbmanifpiaa.codec
abbrev preReads : HL [.sl (.int .u8)] → Prop := fun (b, _) => preB b
theorem chk1_err (p : Fp × Fp) : (chk1 p).2 ≠ 0 → (chk1 p).1 = (0, 0) := by
  unfold chk1
  intro h
  split at h
  · rename_i h1; rw [if_pos h1]
  · rename_i h1
    rw [if_neg h1]
    split at h
    · rename_i h2
      rw [if_pos h2]
      split at h
      · exact absurd rfl h
      · rename_i h3; rw [if_neg h3]
    · rename_i h2; rw [if_neg h2]
theorem rg1_err (b : List Int) : (rg1 b).2 ≠ 0 → (rg1 b).1 = (0, 0) := by
  unfold rg1
  intro h
  split at h
  · rename_i h1
    rw [if_pos h1]
    split at h
    · exact absurd rfl h
    · rename_i h2
      rw [if_neg h2]
      split at h
      · rename_i h3
        rw [if_pos h3]
        split at h
        · rename_i h4; rw [if_pos h4]; exact chk1_err _ h
        · rename_i h4
          rw [if_neg h4]
          split at h
          · rename_i h5; rw [if_pos h5]; exact chk1_err _ h
          · rename_i h5; rw [if_neg h5]
      · rename_i h3; rw [if_neg h3]
  · rename_i h1; rw [if_neg h1]
/-- Where the marks are wrong, or it is infinity. -/
theorem rg1_far {b : List Int} (h : Bs b) (hf : (mkF b 48).1 ≠ 0 ∨ (mkF b 48).2 = true) : rg1 b = ((0, 0), (mkF b 48).1) := by
  obtain ⟨e1, e2, _, _⟩ := mk_part h (n := 48) (by decide)
  unfold rg1
  by_cases h1 : (mkF b 48).1 = 0
  · rw [if_pos (e1.trans h1), if_pos (by rw [← e2 h1]; exact hf.resolve_left (fun c => c h1)), h1]
  · rw [if_neg (fun c => h1 (e1.symm.trans c)), e1]
theorem chk1_eq (x y : Fp) : chk1 (x, y) = if y * y = x * x * x + zm 4 then (if g1.gin (x, y) = true then ((x, y), 0) else ((0, 0), 14)) else ((0, 0), 13) := by
  unfold chk1
  by_cases h0 : (x, y) = ((0 : Fp), (0 : Fp))
  · rw [if_pos h0]
    have hx : x = 0 := congrArg Prod.fst h0
    have hy : y = 0 := congrArg Prod.snd h0
    rw [hx, hy, if_neg (by decide)]
  · rw [if_neg h0]
    by_cases h1 : y * y = x * x * x + zm 4
    · rw [if_pos h1, if_pos ((g1.gon_iff (x, y)).2 (.inr h1))]
    · rw [if_neg h1, if_neg (fun c => ((g1.gon_iff (x, y)).1 c).elim h0 h1)]
end Go.Proofs.Ytlhgcbmanifpiaa.law09
/- g2: In. -/
namespace Go.Proofs.Ytlhgcbmanifpiaa.g2
set_option maxRecDepth 100000
open Go Go.Eng Go.RowKit Cr Go.Proofs.Ytlhgcbmanifpiaa Go.Proofs.Ytlhgcbmanifpiaa.fp2
theorem ent_in : enters Try.prog 42 Try.f42 := enters_mk (by kernel_rfl) (by kernel_rfl) (by kernel_rfl)
noncomputable def isIn (p : F2 × F2) : Bool := isOn p && decide (pml p (-1) = pneg (F := F2) p)
noncomputable abbrev outIn : HL [pt2] → HO [.val .bool] := fun (p, _) => (isIn p, ())
theorem fn_in : FnOk Try.prog 42 [pt2] [.val .bool] noG (fun _ => True) outIn := by
  refine fn_of_vc (sp := sps [spOn, fr.spOf, fr.spNeg, spPMul, spPNeg]) (sps_cons (fnSpec_ok fn_on) (sps_cons (fnSpec_ok fr.fn_of) (sps_cons (fnSpec_ok fr.fn_neg) (sps_cons (fnSpec_ok fn_pmul) (sps_cons (fnSpec_ok fn_pneg) sps_nil))))) mixed ent_in (by decide) (by decide) ?_
  rintro w M0 ⟨p, ⟨⟩⟩
  revert p
  intro (p : F2 × F2) _ _
  refine vcx (X := (True ∧ (isOn p = true → U64 (1 : Int) ∧ True ∧ True ∧ True ∧ (eqC ((Kd.fp.pair Kd.fp).pair (Kd.fp.pair Kd.fp)) (pml p (-zmr (1 : Int))) (p.fst, -p.snd), ()) = outIn (p, ())) ∧ (isOn p = false → (false, ()) = outIn (p, ())))) (by kernel_rfl) ?_
  rw [eqP2]
  refine ⟨trivial, fun h => ⟨by constructor <;> decide, trivial, trivial, trivial, ?_⟩, fun h => ?_⟩
  · show _ = (isIn p, ())
    rw [isIn, h, Bool.true_and]
    rfl
  · show _ = (isIn p, ())
    rw [isIn, h, Bool.false_and]
noncomputable def spIn : Nat × Eng.Spec := (42, fnSpec [pt2] [.val .bool] (fun _ => True) outIn)
noncomputable def gin (p : F2 × F2) : Bool := opq (isIn p)
theorem fo_in : FnOk Try.prog 42 [pt2] [.val .bool] noG (fun _ => True) (fun (p, _) => (gin p, ())) := fn_in.out fun (p, _) => by show (gin p, ()) = (_, ()); rw [gin, opq_eq]
noncomputable def soIn : Nat × Eng.Spec := (42, fnSpec [pt2] [.val .bool] (fun _ => True) (fun (p, _) => (gin p, ())))
theorem sub_in {p : F2 × F2} (h : Sub p) : gin p = true := by
  rw [gin, opq_eq, isIn]
  have h1 : isOn p = true := (isOn_iff p).2 h.1
  have h2 : pml p (-1) = pneg p := by
    have := mul_neg h 1
    rw [mul_one h, gmul, opq_eq] at this
    exact this
  rw [h1, h2]; simp
theorem gin_of {p : F2 × F2} (h : Onb p) : gin p = decide (nmul p rN = (0, 0)) := by
  rw [Bool.eq_iff_iff, decide_eq_true_iff]
  constructor
  · intro hi
    rw [gin, opq_eq, isIn, Bool.and_eq_true, decide_eq_true_iff] at hi
    have e : pml p (-1) = nmul p (rN - 1) := by
      have := gmul_eq h (-1)
      rw [gmul, opq_eq] at this
      rw [this]; rfl
    rw [e] at hi
    have : nmul p (rN - 1 + 1) = padd (nmul p (rN - 1)) p := rfl
    rw [hi.2, neg_add_self] at this
    exact this
  · intro hi; exact sub_in ⟨h, hi⟩
end Go.Proofs.Ytlhgcbmanifpiaa.g2
/- codec: ReadG2 (printed by tools/gen_cdr2.py). -/
namespace Go.Proofs.Ytlhgcbmanifpiaa.codec
set_option maxRecDepth 100000
open Go Go.Eng Go.RowKit Cr Go.Proofs.Ytlhgcbmanifpiaa
theorem ent_readG2 : enters Try.prog 35 Try.f35 := enters_mk (by kernel_rfl) (by kernel_rfl) (by kernel_rfl)
/-- Is a point one of the group? -/
noncomputable def chk2 (p : F2 × F2) : (F2 × F2) × Int := if p = ((0 : F2), (0 : F2)) then (((0 : F2), (0 : F2)), 13) else if g2.gon p = true then (if g2.gin p = true then (p, 0) else (((0 : F2), (0 : F2)), 14)) else (((0 : F2), (0 : F2)), 13)
/-- The right one of two roots. -/
noncomputable def sgn2 (y : F2) (l : Bool) : F2 := if fp2.lg2 y = l then y else -y
noncomputable def root2 (x : F2) : F2 := (fp2.sqrt2 (x * x * x + (zm 4, zm 4))).1
noncomputable def rg2 (b : List Int) : (F2 × F2) × Int :=
  if (partF b 96).2.2 = 0 then
    if inF b = true then (((0 : F2), (0 : F2)), 0)
    else if (fp2.rdF2 ((bdy b).take 96)).2 = 0 then
      if shT b = true then chk2 ((fp2.rdF2 ((bdy b).take 96)).1, sgn2 (root2 (fp2.rdF2 ((bdy b).take 96)).1) (lgE b))
      else if (fp2.rdF2 ((bdy b).drop 96)).2 = 0 then chk2 ((fp2.rdF2 ((bdy b).take 96)).1, (fp2.rdF2 ((bdy b).drop 96)).1)
      else (((0 : F2), (0 : F2)), 12)
    else (((0 : F2), (0 : F2)), 12)
  else (((0 : F2), (0 : F2)), (partF b 96).2.2)
noncomputable abbrev outRG2 : HL [.sl (.int .u8)] → HO [.val g2.pt2, .val (.int .i64)] := fun (b, _) => ((rg2 b).1, (rg2 b).2, ())
noncomputable def rhC (g : Int × List Int) : St := mkSt Try.f35.ntmps 144 [(2, .is (.one (.ptr 0 0))), (3, sI .i64 0), (4, .is (.one (.sl 24 0 0 g.2.length 1))), (5, sI .u8 g.1)] [(0, g2.pc (0, 0)), (24, [.ints .u8 g.2.length g.2])]
noncomputable def rhD (p : F2 × F2) : St := mkSt Try.f35.ntmps 352 [(2, .is (.one (.ptr 0 0))), (3, sI .i64 0), (7, .is (.one (.ptr 144 0)))] [(0, g2.pc (0, 0)), (144, g2.pc p)]
theorem fn_readG2 : FnOk Try.prog 35 [.sl (.int .u8)] [.val g2.pt2, .val (.int .i64)] noG preRG outRG2 := by
  have hsp : SpecsOk Try.prog (sps [spPart, fp2.spRead, fp2.spSquare, fp2.spMul, fp2.spAdd, fp2.spSmall, fp2.spSqrt, fp2.spLarge, fp2.spNeg, g2.soOn, g2.soIn]) := (sps_cons (fnSpec_ok fn_part) (sps_cons (fnSpec_ok fp2.fn_read) (sps_cons (fnSpec_ok fp2.fn_square) (sps_cons (fnSpec_ok fp2.fn_mul) (sps_cons (fnSpec_ok fp2.fn_add) (sps_cons (fnSpec_ok fp2.fn_small) (sps_cons (fnSpec_ok fp2.fn_sqrt) (sps_cons (fnSpec_ok fp2.fn_large) (sps_cons (fnSpec_ok fp2.fn_neg) (sps_cons (fnSpec_ok g2.fo_on) (sps_cons (fnSpec_ok g2.fo_in) sps_nil)))))))))))
  refine fn_of_tr (sp := sps [spPart, fp2.spRead, fp2.spSquare, fp2.spMul, fp2.spAdd, fp2.spSmall, fp2.spSqrt, fp2.spLarge, fp2.spNeg, g2.soOn, g2.soIn]) ent_readG2 (by decide) (by decide) (by kernel_rfl) ?_
  rintro w M0 ⟨b, ⟨⟩⟩
  revert b
  intro (b : List Int) _ hp
  obtain ⟨hb, hl⟩ := hp
  have hl : b.length ≤ 1000000 := hl
  show Tr _ _ _ _ _ _ _
  have pp : prePart (b, 96, ()) := ⟨⟨hb, hl⟩, by decide, by decide⟩
  refine tr_cutF hsp mixed 4 (fun σ => (rdS (.int .u8) 5 σ, rdR (.int .u8) 24 σ)) rhC (rgK b 96) ?_ ?_
  · refine vcx (X := (prePart (b, (96 : Int), ()) ∧ (((partF b (96 : Int)).snd.snd != (0 : Int)) = true → ((((0 : Fp), (0 : Fp)), (0 : Fp), (0 : Fp)), (partF b (96 : Int)).snd.snd, ()) = outRG2 (b, ())) ∧ (((partF b (96 : Int)).snd.snd != (0 : Int)) = false → ((bitOp BinOp.and IntKind.u8 (partF b (96 : Int)).snd.fst (64 : Int) != (0 : Int)) = true → ((((0 : Fp), (0 : Fp)), (0 : Fp), (0 : Fp)), (partF b (96 : Int)).snd.snd, ()) = outRG2 (b, ())) ∧ ((bitOp BinOp.and IntKind.u8 (partF b (96 : Int)).snd.fst (64 : Int) != (0 : Int)) = false → (rhC ((partF b (96 : Int)).snd.fst, (partF b (96 : Int)).fst)).triv (rgK b (96 : Int) ((partF b (96 : Int)).snd.fst, (partF b (96 : Int)).fst)))))) (by kernel_rfl) ?_
    have s2 : (partF b 96).2.2 = 0 → (bitOp .and .u8 (partF b 96).2.1 64 != 0) = inF b := fun h => by rw [(part_ok h).1]; rfl
    refine ⟨pp, fun h => ?_, fun h => ?_⟩
    · have h : ¬ (partF b 96).2.2 = 0 := by simpa using h
      show _ = ((rg2 b).1, (rg2 b).2, ())
      rw [rg2, if_neg h]; rfl
    · have h : (partF b 96).2.2 = 0 := by simpa using h
      rw [s2 h]
      refine ⟨fun h2 => ?_, fun h2 => triv_intro ⟨?_, ?_, h, h2⟩⟩
      · show _ = ((rg2 b).1, (rg2 b).2, ())
        rw [rg2, if_pos h, if_pos h2, h]; rfl
      · show (partF b 96).2.1 = brs b
        rw [(part_ok h).1]
      · show (partF b 96).1 = bdy b
        rw [(part_ok h).1]
  rintro ⟨br, bd⟩ hK
  revert br bd
  intro (br : Int) (bd : List Int) ⟨k1, k2, k3, k4⟩
  have k1 : br = brs b := k1
  have k2 : bd = bdy b := k2
  obtain ⟨_, ha, hlen⟩ := part_ok k3
  have hbl : bd.length = b.length := by rw [k2, bdy_len]
  have hbs : Bs bd := by rw [k2]; exact bdy_Bs hb
  have s1 : (bitOp .and .u8 br 128 == 0) = !shT b := by rw [shT, k1]; cases h : (bitOp .and .u8 (brs b) 128 == 0) <;> simp [bne, h]
  have s3 : (bitOp .and .u8 br 32 != 0) = lgE b := by rw [lgE, k1]
  refine tr_cutF hsp mixed 6 (fun σ => rdB g2.pt2 144 σ) rhD (fun p => rg2 b = chk2 p) ?_ ?_
  · refine vcx (X := (((0 : Int) ≤ (96 : Int) ∧ (96 : Int) ≤ (↑bd.length : Int)) ∧ (0 : Nat) + (96 : Nat) ≤ bd.length ∧ fp2.preRead (List.take (96 : Nat) bd, ()) ∧ (((fp2.rdF2 (List.take (96 : Nat) bd)).snd != (0 : Int)) = true → ((((0 : Fp), (0 : Fp)), (0 : Fp), (0 : Fp)), (12 : Int), ()) = outRG2 (b, ())) ∧ (((fp2.rdF2 (List.take (96 : Nat) bd)).snd != (0 : Int)) = false → ((bitOp BinOp.and IntKind.u8 br (128 : Int) == (0 : Int)) = true → ((0 : Int) ≤ (96 : Int) ∧ (96 : Int) ≤ (↑bd.length : Int)) ∧ (96 : Nat) + ((↑bd.length : Int) - (96 : Int)).toNat ≤ bd.length ∧ fp2.preRead (List.take ((↑bd.length : Int) - (96 : Int)).toNat (List.drop (96 : Nat) bd), ()) ∧ (((fp2.rdF2 (List.take ((↑bd.length : Int) - (96 : Int)).toNat (List.drop (96 : Nat) bd))).snd != (0 : Int)) = true → ((((0 : Fp), (0 : Fp)), (0 : Fp), (0 : Fp)), (12 : Int), ()) = outRG2 (b, ())) ∧ (((fp2.rdF2 (List.take ((↑bd.length : Int) - (96 : Int)).toNat (List.drop (96 : Nat) bd))).snd != (0 : Int)) = false → (rhD ((fp2.rdF2 (List.take (96 : Nat) bd)).fst, (fp2.rdF2 (List.take ((↑bd.length : Int) - (96 : Int)).toNat (List.drop (96 : Nat) bd))).fst)).triv (rg2 b = chk2 ((fp2.rdF2 (List.take (96 : Nat) bd)).fst, (fp2.rdF2 (List.take ((↑bd.length : Int) - (96 : Int)).toNat (List.drop (96 : Nat) bd))).fst)))) ∧ ((bitOp BinOp.and IntKind.u8 br (128 : Int) == (0 : Int)) = false → True ∧ True ∧ (U64 (4 : Int) ∧ U64 (4 : Int)) ∧ True ∧ True ∧ True ∧ ((!fp2.lg2 (fp2.sqrt2 ((fp2.rdF2 (List.take (96 : Nat) bd)).fst * (fp2.rdF2 (List.take (96 : Nat) bd)).fst * (fp2.rdF2 (List.take (96 : Nat) bd)).fst + (zmp (4 : Int), zmp (4 : Int)))).fst == (bitOp BinOp.and IntKind.u8 br (32 : Int) != (0 : Int))) = true → True ∧ (rhD ((fp2.rdF2 (List.take (96 : Nat) bd)).fst, -(fp2.sqrt2 ((fp2.rdF2 (List.take (96 : Nat) bd)).fst * (fp2.rdF2 (List.take (96 : Nat) bd)).fst * (fp2.rdF2 (List.take (96 : Nat) bd)).fst + (zmp (4 : Int), zmp (4 : Int)))).fst)).triv (rg2 b = chk2 ((fp2.rdF2 (List.take (96 : Nat) bd)).fst, -(fp2.sqrt2 ((fp2.rdF2 (List.take (96 : Nat) bd)).fst * (fp2.rdF2 (List.take (96 : Nat) bd)).fst * (fp2.rdF2 (List.take (96 : Nat) bd)).fst + (zmp (4 : Int), zmp (4 : Int)))).fst))) ∧ ((!fp2.lg2 (fp2.sqrt2 ((fp2.rdF2 (List.take (96 : Nat) bd)).fst * (fp2.rdF2 (List.take (96 : Nat) bd)).fst * (fp2.rdF2 (List.take (96 : Nat) bd)).fst + (zmp (4 : Int), zmp (4 : Int)))).fst == (bitOp BinOp.and IntKind.u8 br (32 : Int) != (0 : Int))) = false → (rhD ((fp2.rdF2 (List.take (96 : Nat) bd)).fst, (fp2.sqrt2 ((fp2.rdF2 (List.take (96 : Nat) bd)).fst * (fp2.rdF2 (List.take (96 : Nat) bd)).fst * (fp2.rdF2 (List.take (96 : Nat) bd)).fst + (zmp (4 : Int), zmp (4 : Int)))).fst)).triv (rg2 b = chk2 ((fp2.rdF2 (List.take (96 : Nat) bd)).fst, (fp2.sqrt2 ((fp2.rdF2 (List.take (96 : Nat) bd)).fst * (fp2.rdF2 (List.take (96 : Nat) bd)).fst * (fp2.rdF2 (List.take (96 : Nat) bd)).fst + (zmp (4 : Int), zmp (4 : Int)))).fst))))))) (by kernel_rfl) ?_
    rw [s1, s3, show List.take ((bd.length : Int) - 96).toNat (List.drop 96 bd) = List.drop 96 bd from List.take_of_length_le (by simp; omega)]
    have er : rg2 b = if (fp2.rdF2 (bd.take 96)).2 = 0 then
        if shT b = true then chk2 ((fp2.rdF2 (bd.take 96)).1, sgn2 (root2 (fp2.rdF2 (bd.take 96)).1) (lgE b))
        else if (fp2.rdF2 (bd.drop 96)).2 = 0 then chk2 ((fp2.rdF2 (bd.take 96)).1, (fp2.rdF2 (bd.drop 96)).1)
        else (((0 : F2), (0 : F2)), 12)
      else (((0 : F2), (0 : F2)), 12) := by rw [rg2, if_pos k3, if_neg (by rw [k4]; decide), k2]
    have r1 : fp2.preRead (bd.take 96, ()) := fun x hx => hbs x (List.mem_of_mem_take hx)
    have r2 : fp2.preRead (bd.drop 96, ()) := fun x hx => hbs x (List.mem_of_mem_drop hx)
    generalize hX : (fp2.rdF2 (bd.take 96)) = X at *
    generalize hY : (fp2.rdF2 (bd.drop 96)) = Y at *
    rw [show (fp2.sqrt2 (X.1 * X.1 * X.1 + (zmp 4, zmp 4))).1 = root2 X.1 from rfl]
    refine ⟨⟨by decide, by omega⟩, by omega, r1, fun h => ?_, fun h => ⟨fun h2 => ⟨⟨by decide, by omega⟩, by omega, r2, fun h3 => ?_, fun h3 => triv_intro ?_⟩, fun h2 => ⟨trivial, trivial, ⟨by constructor <;> decide, by constructor <;> decide⟩, trivial, trivial, trivial, fun h3 => ⟨trivial, triv_intro ?_⟩, fun h3 => triv_intro ?_⟩⟩⟩
    · show _ = ((rg2 b).1, (rg2 b).2, ())
      rw [er, if_neg (by simpa using h)]; rfl
    · show _ = ((rg2 b).1, (rg2 b).2, ())
      rw [er, if_pos (by simpa using h), if_neg (by simpa using h2), if_neg (by simpa using h3)]; rfl
    · rw [er, if_pos (by simpa using h), if_neg (by simpa using h2), if_pos (by simpa using h3)]
    · rw [er, if_pos (by simpa using h), if_pos (by simpa using h2), sgn2, if_neg (by simpa using h3)]
    · rw [er, if_pos (by simpa using h), if_pos (by simpa using h2), sgn2, if_pos (by simpa using h3)]
  intro (p : F2 × F2) (hp : rg2 b = chk2 p)
  refine tr_vc hsp mixed _ _ ?_
  refine vcx (X := ((eqC ((Kd.fp.pair Kd.fp).pair (Kd.fp.pair Kd.fp)) p (((0 : Fp), (0 : Fp)), (0 : Fp), (0 : Fp)) = true → ((((0 : Fp), (0 : Fp)), (0 : Fp), (0 : Fp)), (13 : Int), ()) = outRG2 (b, ())) ∧ (eqC ((Kd.fp.pair Kd.fp).pair (Kd.fp.pair Kd.fp)) p (((0 : Fp), (0 : Fp)), (0 : Fp), (0 : Fp)) = false → True ∧ ((!g2.gon p) = true → ((((0 : Fp), (0 : Fp)), (0 : Fp), (0 : Fp)), (13 : Int), ()) = outRG2 (b, ())) ∧ ((!g2.gon p) = false → True ∧ ((!g2.gin p) = true → ((((0 : Fp), (0 : Fp)), (0 : Fp), (0 : Fp)), (14 : Int), ()) = outRG2 (b, ())) ∧ ((!g2.gin p) = false → (p, (0 : Int), ()) = outRG2 (b, ())))))) (by kernel_rfl) ?_
  rw [g2.eqP2]
  refine ⟨fun h => ?_, fun h => ⟨trivial, fun h2 => ?_, fun h2 => ⟨trivial, fun h3 => ?_, fun h3 => ?_⟩⟩⟩
  all_goals show _ = ((rg2 b).1, (rg2 b).2, ())
  all_goals rw [hp, chk2]
  · rw [if_pos (show p = ((0 : F2), (0 : F2)) from of_decide_eq_true h)]; try rfl
  · rw [if_neg (show ¬ p = ((0 : F2), (0 : F2)) from of_decide_eq_false h), if_neg (by simpa using h2)]; try rfl
  · rw [if_neg (show ¬ p = ((0 : F2), (0 : F2)) from of_decide_eq_false h), if_pos (by simpa using h2), if_neg (by simpa using h3)]; try rfl
  · rw [if_neg (show ¬ p = ((0 : F2), (0 : F2)) from of_decide_eq_false h), if_pos (by simpa using h2), if_pos (by simpa using h3)]; try rfl
noncomputable def spReadG2 : Nat × Eng.Spec := (35, fnSpec [.sl (.int .u8)] [.val g2.pt2, .val (.int .i64)] preRG outRG2)
end Go.Proofs.Ytlhgcbmanifpiaa.codec
/- codec: forms of points, plainly: what is written is what is read. -/
namespace Go.Proofs.Ytlhgcbmanifpiaa.codec
set_option maxRecDepth 100000
open Go Go.Eng Go.RowKit Cr Go.Proofs.Ytlhgcbmanifpiaa
theorem bit_fin : ∀ v : Fin 32, ∀ k : Fin 8, bitOp .and .u8 ((v.val + 32 * k.val : Nat) : Int) 224 = ((32 * k.val : Nat) : Int) ∧ bitOp .andNot .u8 ((v.val + 32 * k.val : Nat) : Int) 224 = ((v.val : Nat) : Int) ∧ (bitOp .and .u8 ((32 * k.val : Nat) : Int) 128 != 0) = decide (4 ≤ k.val) ∧ (bitOp .and .u8 ((32 * k.val : Nat) : Int) 64 != 0) = decide (k.val / 2 % 2 = 1) ∧ (bitOp .and .u8 ((32 * k.val : Nat) : Int) 32 != 0) = decide (k.val % 2 = 1) := by decide +kernel
theorem or_fin : ∀ v : Fin 32, bitOp .or .u8 ((v.val : Nat) : Int) 128 = ((v.val + 32 * 4 : Nat) : Int) ∧ bitOp .or .u8 ((v.val : Nat) : Int) 160 = ((v.val + 32 * 5 : Nat) : Int) ∧ bitOp .or .u8 ((v.val : Nat) : Int) 192 = ((v.val + 32 * 6 : Nat) : Int) ∧ bitOp .or .u8 ((v.val : Nat) : Int) 64 = ((v.val + 32 * 2 : Nat) : Int) := by decide +kernel
theorem xor_fin : ∀ v : Fin 32, ∀ k m : Fin 8, bitOp .xor .u8 ((v.val + 32 * k.val : Nat) : Int) ((32 * m.val : Nat) : Int) = ((v.val + 32 * (k.val ^^^ m.val) : Nat) : Int) := by decide +kernel
/-- A body: its first byte bears no marks. -/
def BD (l : List Int) : Prop := 1 ≤ l.length ∧ 0 ≤ l.getD 0 0 ∧ l.getD 0 0 < 32
/-- A body with marks. -/
def hdk (l : List Int) (k : Nat) : List Int := l.set 0 (l.getD 0 0 + ((32 * k : Nat) : Int))
theorem BD.cons {l : List Int} (h : BD l) : ∃ (v : Nat) (t : List Int), v < 32 ∧ l = ((v : Nat) : Int) :: t := by
  obtain ⟨h1, h2, h3⟩ := h
  cases l with
  | nil => simp at h1
  | cons a t =>
    simp at h2 h3
    exact ⟨a.toNat, t, by omega, by rw [Int.toNat_of_nonneg h2]⟩
theorem hdk_cons (v : Nat) (t : List Int) (k : Nat) : hdk (((v : Nat) : Int) :: t) k = ((v + 32 * k : Nat) : Int) :: t := by
  simp [hdk]
theorem hdk_len (l : List Int) (k : Nat) : (hdk l k).length = l.length := by rw [hdk, List.length_set]
theorem hdk_brs {l : List Int} (h : BD l) {k : Nat} (hk : k < 8) : brs (hdk l k) = ((32 * k : Nat) : Int) := by
  obtain ⟨v, t, hv, rfl⟩ := h.cons
  rw [hdk_cons]
  exact (bit_fin ⟨v, hv⟩ ⟨k, hk⟩).1
theorem hdk_bdy {l : List Int} (h : BD l) {k : Nat} (hk : k < 8) : bdy (hdk l k) = l := by
  obtain ⟨v, t, hv, rfl⟩ := h.cons
  rw [hdk_cons, bdy]
  show bitOp .andNot .u8 ((v + 32 * k : Nat) : Int) 224 :: t = _
  rw [(bit_fin ⟨v, hv⟩ ⟨k, hk⟩).2.1]
theorem hdk_sh {l : List Int} (h : BD l) {k : Nat} (hk : k < 8) : shT (hdk l k) = decide (4 ≤ k) := by
  rw [shT, hdk_brs h hk]; exact (bit_fin ⟨0, by decide⟩ ⟨k, hk⟩).2.2.1
theorem hdk_in {l : List Int} (h : BD l) {k : Nat} (hk : k < 8) : inF (hdk l k) = decide (k / 2 % 2 = 1) := by
  rw [inF, hdk_brs h hk]; exact (bit_fin ⟨0, by decide⟩ ⟨k, hk⟩).2.2.2.1
theorem hdk_lg {l : List Int} (h : BD l) {k : Nat} (hk : k < 8) : lgE (hdk l k) = decide (k % 2 = 1) := by
  rw [lgE, hdk_brs h hk]; exact (bit_fin ⟨0, by decide⟩ ⟨k, hk⟩).2.2.2.2
theorem hdk_xor {l : List Int} (h : BD l) {k m : Nat} (hk : k < 8) (hm : m < 8) : (hdk l k).set 0 (bitOp .xor .u8 ((hdk l k).getD 0 0) ((32 * m : Nat) : Int)) = hdk l (k ^^^ m) := by
  obtain ⟨v, t, hv, rfl⟩ := h.cons
  rw [hdk_cons, hdk_cons]
  show bitOp .xor .u8 ((v + 32 * k : Nat) : Int) ((32 * m : Nat) : Int) :: t = _
  rw [xor_fin ⟨v, hv⟩ ⟨k, hk⟩ ⟨m, hm⟩]
theorem hdk_or {l : List Int} (h : BD l) : l.set 0 (bitOp .or .u8 (l.getD 0 0) 128) = hdk l 4 ∧ l.set 0 (bitOp .or .u8 (l.getD 0 0) 160) = hdk l 5 ∧ l.set 0 (bitOp .or .u8 (l.getD 0 0) 192) = hdk l 6 ∧ l.set 0 (bitOp .or .u8 (l.getD 0 0) 64) = hdk l 2 := by
  obtain ⟨v, t, hv, rfl⟩ := h.cons
  obtain ⟨e1, e2, e3, e4⟩ := or_fin ⟨v, hv⟩
  simp only [hdk_cons]
  refine ⟨?_, ?_, ?_, ?_⟩
  · exact congrArg (· :: t) e1
  · exact congrArg (· :: t) e2
  · exact congrArg (· :: t) e3
  · exact congrArg (· :: t) e4
theorem hdk_zero {l : List Int} (h : BD l) : hdk l 0 = l := by
  obtain ⟨v, t, hv, rfl⟩ := h.cons
  rw [hdk_cons]
  simp
theorem split_hdk {b : List Int} (h : Bs b) (hl : 1 ≤ b.length) : ∃ k, k < 8 ∧ BD (bdy b) ∧ b = hdk (bdy b) k := by
  cases b with
  | nil => simp at hl
  | cons a t =>
    obtain ⟨h0, h1⟩ := h a (by simp)
    have e : a = ((a.toNat % 32 + 32 * (a.toNat / 32) : Nat) : Int) := by omega
    have hv : a.toNat % 32 < 32 := Nat.mod_lt _ (by decide)
    have hk : a.toNat / 32 < 8 := by omega
    generalize a.toNat % 32 = v at e hv
    generalize a.toNat / 32 = k at e hk
    subst e
    have hb : bdy (((v + 32 * k : Nat) : Int) :: t) = ((v : Nat) : Int) :: t := by
      rw [bdy]
      show bitOp .andNot .u8 ((v + 32 * k : Nat) : Int) 224 :: t = _
      rw [(bit_fin ⟨v, hv⟩ ⟨k, hk⟩).2.1]
    refine ⟨k, hk, ?_, ?_⟩
    · rw [hb]; exact ⟨by simp, by simp, by simp; omega⟩
    · rw [hb, hdk_cons]
/-- A kind of forms. -/
structure Frm (F : Type) where
  n : Nat
  bts : F → List Int
  rd : List Int → F × Int
  lg : F → Bool
  rt : F → F
  gon : F × F → Bool
  gin : F × F → Bool
section
variable {F : Type} [Cr.Fd F] [DecidableEq F]
structure Frm.Ok (S : Frm F) : Prop where
  n0 : 1 ≤ S.n
  len : ∀ x, (S.bts x).length = S.n
  bs : ∀ x, Bs (S.bts x)
  hd : ∀ x, (S.bts x).getD 0 0 < 32
  rdb : ∀ x, S.rd (S.bts x) = (x, 0)
  brd : ∀ b, Bs b → (S.rd b).2 = 0 → S.bts (S.rd b).1 = b
  lgn : ∀ y, y ≠ 0 → S.lg (-y) = !S.lg y
  z : S.bts 0 = List.replicate S.n 0
  root : ∀ x y, S.gon (x, y) = true → (x, y) ≠ ((0 : F), (0 : F)) → y = S.rt x ∨ y = -S.rt x
  on0 : S.gon (0, 0) = true
  in0 : S.gin (0, 0) = true
  iny : ∀ x y, S.gon (x, y) = true → S.gin (x, y) = true → (x, y) ≠ ((0 : F), (0 : F)) → y ≠ 0 ∧ x ≠ 0
  onn : ∀ x y, S.gon (x, y) = true → S.gon (x, -y) = true
  inn : ∀ x y, S.gon (x, y) = true → S.gin (x, y) = true → S.gin (x, -y) = true
def Frm.sgn (S : Frm F) (y : F) (l : Bool) : F := if S.lg y = l then y else -y
def Frm.chk (S : Frm F) (p : F × F) : (F × F) × Int := if p = ((0 : F), (0 : F)) then (((0 : F), (0 : F)), 13) else if S.gon p = true then (if S.gin p = true then (p, 0) else (((0 : F), (0 : F)), 14)) else (((0 : F), (0 : F)), 13)
def Frm.rg (S : Frm F) (b : List Int) : (F × F) × Int :=
  if (partF b S.n).2.2 = 0 then
    if inF b = true then (((0 : F), (0 : F)), 0)
    else if (S.rd ((bdy b).take S.n)).2 = 0 then
      if shT b = true then S.chk ((S.rd ((bdy b).take S.n)).1, S.sgn (S.rt (S.rd ((bdy b).take S.n)).1) (lgE b))
      else if (S.rd ((bdy b).drop S.n)).2 = 0 then S.chk ((S.rd ((bdy b).take S.n)).1, (S.rd ((bdy b).drop S.n)).1)
      else (((0 : F), (0 : F)), 12)
    else (((0 : F), (0 : F)), 12)
  else (((0 : F), (0 : F)), (partF b S.n).2.2)
def Frm.short (S : Frm F) (p : F × F) : List Int := (S.bts p.1).set 0 (bitOp .or .u8 ((S.bts p.1).getD 0 0) (if p = ((0 : F), (0 : F)) then (192 : Int) else if S.lg p.2 = true then 160 else 128))
def Frm.full (S : Frm F) (p : F × F) : List Int := if p = ((0 : F), (0 : F)) then (S.bts p.1 ++ S.bts p.2).set 0 (bitOp .or .u8 ((S.bts p.1 ++ S.bts p.2).getD 0 0) 64) else S.bts p.1 ++ S.bts p.2
variable {S : Frm F}
omit [DecidableEq F] in
theorem Frm.Ok.BD1 (h : S.Ok) (x : F) : BD (S.bts x) := by
  have hl := h.len x
  have h0 := h.n0
  refine ⟨by omega, ?_, h.hd x⟩
  cases hx : S.bts x with
  | nil => simp
  | cons a t =>
    have := h.bs x a (by rw [hx]; simp)
    simpa using this.1
omit [DecidableEq F] in
theorem Frm.Ok.BD2 (h : S.Ok) (x y : F) : BD (S.bts x ++ S.bts y) := by
  obtain ⟨v, t, hv, e⟩ := (h.BD1 x).cons
  rw [e]
  refine ⟨by simp, by simp, by simp; omega⟩
theorem Frm.Ok.short_eq (h : S.Ok) (p : F × F) : S.short p = hdk (S.bts p.1) (if p = ((0 : F), (0 : F)) then 6 else if S.lg p.2 = true then 5 else 4) := by
  obtain ⟨e1, e2, e3, e4⟩ := hdk_or (h.BD1 p.1)
  unfold Frm.short
  split
  · exact e3
  · split
    · exact e2
    · exact e1
theorem Frm.Ok.full_eq (h : S.Ok) (p : F × F) : S.full p = hdk (S.bts p.1 ++ S.bts p.2) (if p = ((0 : F), (0 : F)) then 2 else 0) := by
  obtain ⟨e1, e2, e3, e4⟩ := hdk_or (h.BD2 p.1 p.2)
  unfold Frm.full
  split
  · exact e4
  · rw [hdk_zero (h.BD2 p.1 p.2)]
omit [DecidableEq F] in
theorem Frm.Ok.nz (h : S.Ok) {x : F} (hx : x ≠ 0) : ∃ v ∈ S.bts x, v ≠ 0 := by
  refine Classical.byContradiction fun c => hx ?_
  have e : S.bts x = List.replicate S.n 0 := by
    rw [← h.len x]
    refine List.eq_replicate_of_mem fun v hv => Classical.byContradiction fun c2 => c ⟨v, hv, c2⟩
  have h1 := h.rdb x
  rw [e, ← h.z, h.rdb] at h1
  exact (congrArg Prod.fst h1).symm
/-- What is read of a body with marks. -/
theorem Frm.Ok.rg_hdk {l : List Int} (hl : BD l) {k : Nat} (hk : k < 8) : S.rg (hdk l k) =
    if l.length ≠ S.n ∧ l.length ≠ 2 * S.n then (((0 : F), (0 : F)), 10)
    else if decide (4 ≤ k) ≠ decide (l.length = S.n) then (((0 : F), (0 : F)), 11)
    else if k % 2 = 1 ∧ (k < 4 ∨ k / 2 % 2 = 1) then (((0 : F), (0 : F)), 11)
    else if k / 2 % 2 = 1 then (if ∃ v ∈ l, v ≠ 0 then (((0 : F), (0 : F)), 11) else (((0 : F), (0 : F)), 0))
    else if (S.rd (l.take S.n)).2 = 0 then
      if 4 ≤ k then S.chk ((S.rd (l.take S.n)).1, S.sgn (S.rt (S.rd (l.take S.n)).1) (decide (k % 2 = 1)))
      else if (S.rd (l.drop S.n)).2 = 0 then S.chk ((S.rd (l.take S.n)).1, (S.rd (l.drop S.n)).1)
      else (((0 : F), (0 : F)), 12)
    else (((0 : F), (0 : F)), 12) := by
  unfold Frm.rg partF
  rw [hdk_bdy hl hk, hdk_sh hl hk, hdk_in hl hk, hdk_lg hl hk, hdk_len]
  have c1 : ((l.length : Int) ≠ (S.n : Int) ∧ (l.length : Int) ≠ 2 * (S.n : Int)) ↔ (l.length ≠ S.n ∧ l.length ≠ 2 * S.n) := by omega
  have c2 : decide ((l.length : Int) = (S.n : Int)) = decide (l.length = S.n) := by simp [Int.ofNat_inj]
  by_cases h1 : l.length ≠ S.n ∧ l.length ≠ 2 * S.n
  · simp only [if_pos (c1.2 h1), if_pos h1]
    rw [if_neg (by decide)]
  · simp only [if_neg (fun c => h1 (c1.1 c)), if_neg h1, c2]
    by_cases h2 : decide (4 ≤ k) ≠ decide (l.length = S.n)
    · simp only [if_pos h2]
      rw [if_neg (by decide)]
    · simp only [if_neg h2]
      have c3 : (decide (k % 2 = 1) = true ∧ (decide (4 ≤ k) = false ∨ decide (k / 2 % 2 = 1) = true)) ↔ (k % 2 = 1 ∧ (k < 4 ∨ k / 2 % 2 = 1)) := by
        simp only [decide_eq_true_iff, decide_eq_false_iff_not]
        omega
      by_cases h3 : k % 2 = 1 ∧ (k < 4 ∨ k / 2 % 2 = 1)
      · simp only [if_pos (c3.2 h3), if_pos h3]
        rw [if_neg (by decide)]
      · simp only [if_neg (fun c => h3 (c3.1 c)), if_neg h3]
        by_cases h4 : k / 2 % 2 = 1
        · simp only [if_pos h4, decide_eq_true h4, true_and]
          by_cases h5 : ∃ v ∈ l, v ≠ 0
          · simp only [if_pos h5]
            rw [if_neg (by decide)]
          · simp only [if_neg h5]
            simp only [if_true]
        · have h4' : ¬ (decide (k / 2 % 2 = 1) = true) := by simpa using h4
          simp only [if_neg h4, if_neg h4', if_neg (show ¬ (decide (k / 2 % 2 = 1) = true ∧ ∃ v ∈ l, v ≠ 0) from fun c => h4' c.1), if_true]
          by_cases h6 : 4 ≤ k
          · simp only [if_pos h6, decide_eq_true h6, if_true]
          · have h6' : ¬ (decide (4 ≤ k) = true) := by simpa using h6
            simp only [if_neg h6, if_neg h6']
theorem Frm.chk_ok {p : F × F} (h0 : p ≠ ((0 : F), (0 : F))) (h1 : S.gon p = true) (h2 : S.gin p = true) : S.chk p = (p, 0) := by
  rw [Frm.chk, if_neg h0, if_pos h1, if_pos h2]
omit [DecidableEq F] in
theorem Frm.Ok.sgn_eq (h : S.Ok) {x y : F} (h0 : (x, y) ≠ ((0 : F), (0 : F))) (h1 : S.gon (x, y) = true) (h2 : S.gin (x, y) = true) : S.sgn (S.rt x) (S.lg y) = y := by
  obtain ⟨hy, _⟩ := h.iny x y h1 h2 h0
  unfold Frm.sgn
  rcases h.root x y h1 h0 with e | e
  · rw [← e, if_pos rfl]
  · have hr : S.rt x ≠ 0 := fun c => hy (by rw [e, c, Rg.neg_zero])
    rw [if_neg, e]
    rw [e, h.lgn _ hr]
    cases S.lg (S.rt x) <;> decide
/-- The short form comes back. -/
theorem Frm.Ok.short_back (h : S.Ok) {p : F × F} (h1 : S.gon p = true) (h2 : S.gin p = true) : S.rg (S.short p) = (p, 0) := by
  have hn := h.n0
  have hl := h.len p.1
  rw [h.short_eq, Frm.Ok.rg_hdk (h.BD1 p.1) (by split; decide; split <;> decide), if_neg (by omega)]
  by_cases h0 : p = ((0 : F), (0 : F))
  · rw [if_pos h0, if_neg (by simp [hl]), if_neg (by decide), if_pos (by decide), if_neg, h0]
    rintro ⟨v, hv, hne⟩
    rw [h0, h.z] at hv
    exact hne (List.eq_of_mem_replicate hv)
  · rw [if_neg h0]
    obtain ⟨x, y⟩ := p
    have hx : S.rd ((S.bts x).take S.n) = (x, 0) := by rw [List.take_of_length_le (by rw [h.len]; exact Nat.le_refl _), h.rdb]
    have hs := h.sgn_eq h0 h1 h2
    by_cases hg : S.lg y = true
    · rw [hg] at hs
      rw [if_pos hg, if_neg (by simp [h.len]), if_neg (by decide), if_neg (by decide), hx, if_pos rfl, if_pos (by decide)]
      show S.chk (x, S.sgn (S.rt x) true) = _
      rw [hs, Frm.chk_ok h0 h1 h2]
    · have hg' : S.lg y = false := by simpa using hg
      rw [hg'] at hs
      rw [if_neg hg, if_neg (by simp [h.len]), if_neg (by decide), if_neg (by decide), hx, if_pos rfl, if_pos (by decide)]
      show S.chk (x, S.sgn (S.rt x) false) = _
      rw [hs, Frm.chk_ok h0 h1 h2]
omit [DecidableEq F] in
theorem Frm.Ok.full_len (h : S.Ok) (x y : F) : (S.bts x ++ S.bts y).length = 2 * S.n := by
  rw [List.length_append, h.len, h.len]; omega
omit [DecidableEq F] in
theorem Frm.Ok.full_take (h : S.Ok) (x y : F) : (S.bts x ++ S.bts y).take S.n = S.bts x := by
  rw [List.take_append_of_le_length (by rw [h.len]; exact Nat.le_refl _), List.take_of_length_le (by rw [h.len]; exact Nat.le_refl _)]
omit [DecidableEq F] in
theorem Frm.Ok.full_drop (h : S.Ok) (x y : F) : (S.bts x ++ S.bts y).drop S.n = S.bts y := by
  rw [← h.len x, List.drop_left]
/-- The long form comes back. -/
theorem Frm.Ok.full_back (h : S.Ok) {p : F × F} (h1 : S.gon p = true) (h2 : S.gin p = true) : S.rg (S.full p) = (p, 0) := by
  have hn := h.n0
  have hl := h.full_len p.1 p.2
  rw [h.full_eq, Frm.Ok.rg_hdk (h.BD2 p.1 p.2) (by split <;> decide), if_neg (by omega)]
  have hd : decide ((S.bts p.1 ++ S.bts p.2).length = S.n) = false := decide_eq_false (by omega)
  rw [hd]
  by_cases h0 : p = ((0 : F), (0 : F))
  · rw [if_pos h0, if_neg (by decide), if_neg (by decide), if_pos (by decide), if_neg, h0]
    rintro ⟨v, hv, hne⟩
    rw [h0, List.mem_append, h.z] at hv
    exact hne (List.eq_of_mem_replicate (hv.elim id id))
  · rw [if_neg h0, if_neg (by decide), if_neg (by decide), if_neg (by decide), h.full_take, h.full_drop, h.rdb, h.rdb, if_pos rfl, if_neg (by decide), if_pos rfl, Frm.chk_ok h0 h1 h2]
/-- The negative differs in one mark of the short form. -/
theorem Frm.Ok.short_neg (h : S.Ok) {x y : F} (h0 : (x, y) ≠ ((0 : F), (0 : F))) (hy : y ≠ 0) : (S.short (x, y)).set 0 (bitOp .xor .u8 ((S.short (x, y)).getD 0 0) 32) = S.short (x, -y) := by
  have h0' : (x, -y) ≠ ((0 : F), (0 : F)) := fun c => hy (by
    have := congrArg Prod.snd c
    have : -y = 0 := this
    rw [← Rg.neg_neg y, this, Rg.neg_zero])
  rw [h.short_eq, h.short_eq, if_neg h0, if_neg h0']
  show (hdk (S.bts x) _).set 0 (bitOp .xor .u8 ((hdk (S.bts x) _).getD 0 0) ((32 * 1 : Nat) : Int)) = hdk (S.bts x) (if S.lg (-y) = true then 5 else 4)
  rw [hdk_xor (h.BD1 x) (by split <;> decide) (by decide), h.lgn y hy]
  show hdk (S.bts x) ((if S.lg y = true then 5 else 4) ^^^ 1) = _
  cases S.lg y <;> rfl
/-- Other marks of the short form are refused. -/
theorem Frm.Ok.short_marks (h : S.Ok) {x y : F} (h0 : (x, y) ≠ ((0 : F), (0 : F))) (hx : x ≠ 0) {m : Nat} (hm : m < 8) (hm2 : 2 ≤ m) : S.rg ((S.short (x, y)).set 0 (bitOp .xor .u8 ((S.short (x, y)).getD 0 0) ((32 * m : Nat) : Int))) = (((0 : F), (0 : F)), 11) := by
  have hn := h.n0
  have hl := h.len x
  rw [h.short_eq, if_neg h0]
  show S.rg ((hdk (S.bts x) (if S.lg y = true then 5 else 4)).set 0 (bitOp .xor .u8 ((hdk (S.bts x) (if S.lg y = true then 5 else 4)).getD 0 0) ((32 * m : Nat) : Int))) = _
  generalize hk : (if S.lg y = true then 5 else 4) = k
  have hk : k = 4 ∨ k = 5 := by rw [← hk]; split; exact .inr rfl; exact .inl rfl
  have hk8 : k < 8 := by omega
  rw [hdk_xor (h.BD1 x) hk8 hm]
  have key : k ^^^ m < 4 ∨ k ^^^ m = 6 ∨ k ^^^ m = 7 := by
    have : m = 2 ∨ m = 3 ∨ m = 4 ∨ m = 5 ∨ m = 6 ∨ m = 7 := by omega
    rcases hk with rfl | rfl <;> rcases this with rfl | rfl | rfl | rfl | rfl | rfl <;> decide
  generalize k ^^^ m = j at key
  rw [Frm.Ok.rg_hdk (h.BD1 x) (by omega), if_neg (by omega)]
  rcases key with hj | hj | hj
  · rw [if_pos]
    rw [decide_eq_false (show ¬ 4 ≤ j by omega), decide_eq_true hl]; decide
  · subst hj
    rw [if_neg (by simp [hl]), if_neg (by decide), if_pos (by decide), if_pos (h.nz hx)]
  · subst hj
    rw [if_neg (by simp [hl]), if_pos (by decide)]
/-- Other marks of the long form are refused. -/
theorem Frm.Ok.full_marks (h : S.Ok) {x y : F} (h0 : (x, y) ≠ ((0 : F), (0 : F))) {m : Nat} (hm : m < 8) (hm1 : 1 ≤ m) : S.rg ((S.full (x, y)).set 0 (bitOp .xor .u8 ((S.full (x, y)).getD 0 0) ((32 * m : Nat) : Int))) = (((0 : F), (0 : F)), 11) := by
  have hn := h.n0
  have hl := h.full_len x y
  rw [h.full_eq, if_neg h0]
  show S.rg ((hdk (S.bts x ++ S.bts y) 0).set 0 (bitOp .xor .u8 ((hdk (S.bts x ++ S.bts y) 0).getD 0 0) ((32 * m : Nat) : Int))) = _
  rw [hdk_xor (h.BD2 x y) (by decide) hm, Nat.zero_xor, Frm.Ok.rg_hdk (h.BD2 x y) hm, if_neg (by omega)]
  have hd : decide ((S.bts x ++ S.bts y).length = S.n) = false := decide_eq_false (by omega)
  rw [hd]
  by_cases h4 : 4 ≤ m
  · rw [if_pos (by simpa using h4)]
  · rw [if_neg (by simpa using h4)]
    by_cases h5 : m % 2 = 1
    · rw [if_pos ⟨h5, .inl (by omega)⟩]
    · have hm : m = 2 := by omega
      subst hm
      rw [if_neg (by decide), if_pos (by decide), if_pos]
      by_cases hx : x = 0
      · have hy : y ≠ 0 := fun c => h0 (by rw [hx, c])
        obtain ⟨v, hv, hne⟩ := h.nz hy
        exact ⟨v, List.mem_append_right _ hv, hne⟩
      · obtain ⟨v, hv, hne⟩ := h.nz hx
        exact ⟨v, List.mem_append_left _ hv, hne⟩
theorem Frm.chk_inv {p q : F × F} (h : S.chk p = (q, 0)) : q = p ∧ p ≠ ((0 : F), (0 : F)) ∧ S.gon p = true ∧ S.gin p = true := by
  unfold Frm.chk at h
  split at h
  · simp at h
  · rename_i h0
    split at h
    · rename_i h1
      split at h
      · rename_i h2
        exact ⟨(congrArg Prod.fst h).symm, h0, h1, h2⟩
      · simp at h
    · simp at h
theorem hdk_all {l : List Int} (h : ¬ ∃ v ∈ l, v ≠ 0) : l = List.replicate l.length 0 :=
  List.eq_replicate_of_mem fun v hv => Classical.byContradiction fun c2 => h ⟨v, hv, c2⟩
/-- What is read is what would be written. -/
theorem Frm.Ok.one_form (h : S.Ok) {b : List Int} (hb : Bs b) {p : F × F} (hr : S.rg b = (p, 0)) : S.gon p = true ∧ S.gin p = true ∧ (b.length = S.n → S.short p = b) ∧ (b.length = 2 * S.n → S.full p = b) := by
  have hn := h.n0
  have hl : 1 ≤ b.length := by
    cases b with
    | nil =>
      have : (partF [] S.n).2.2 = 10 := by
        rw [partF, if_pos ⟨by simp; omega, by simp; omega⟩]
      rw [Frm.rg, this, if_neg (by decide)] at hr
      simp at hr
    | cons _ _ => simp
  obtain ⟨k, hk, hBD, e⟩ := split_hdk hb hl
  have hbs : Bs (bdy b) := bdy_Bs hb
  have hbl : (bdy b).length = b.length := bdy_len b
  rw [e] at hr ⊢
  rw [hdk_len]
  generalize bdy b = l at *
  rw [Frm.Ok.rg_hdk hBD hk] at hr
  split at hr
  · simp at hr
  rename_i h1
  split at hr
  · simp at hr
  rename_i h2
  split at hr
  · simp at hr
  rename_i h3
  split at hr
  · rename_i h4
    split at hr
    · simp at hr
    rename_i h5
    have hp : ((0 : F), (0 : F)) = p := congrArg Prod.fst hr
    subst hp
    have hz := hdk_all h5
    refine ⟨h.on0, h.in0, fun hln => ?_, fun hln => ?_⟩
    · have hk6 : k = 6 := by
        have : 4 ≤ k := by simpa [hln] using h2
        omega
      rw [h.short_eq, if_pos rfl, hk6]
      show hdk (S.bts 0) 6 = _
      rw [h.z, ← hln, ← hz]
    · have hk2 : k = 2 := by
        have : ¬ 4 ≤ k := by
          intro c
          rw [decide_eq_true c, decide_eq_false (by omega)] at h2
          exact h2 (by decide)
        omega
      rw [h.full_eq, if_pos rfl, hk2]
      show hdk (S.bts 0 ++ S.bts 0) 2 = _
      rw [h.z, List.replicate_append_replicate, show S.n + S.n = l.length by omega, ← hz]
  rename_i h4
  split at hr
  · rename_i h5
    split at hr
    · rename_i h6
      obtain ⟨e1, e2, e3, e4⟩ := Frm.chk_inv hr
      have hln : l.length = S.n := by
        rw [decide_eq_true h6] at h2
        simpa using h2
      rw [List.take_of_length_le (by omega)] at h5 e1 e2 e3 e4
      have hrd := h.brd l hbs h5
      generalize (S.rd l).1 = x at *
      subst e1
      refine ⟨e3, e4, fun _ => ?_, fun c => by omega⟩
      obtain ⟨hy, _⟩ := h.iny _ _ e3 e4 e2
      rw [h.short_eq, if_neg e2]
      show hdk (S.bts x) _ = _
      rw [hrd]
      have hlg : S.lg (S.sgn (S.rt x) (decide (k % 2 = 1))) = decide (k % 2 = 1) := by
        unfold Frm.sgn at hy ⊢
        split
        · rename_i c; exact c
        · rename_i c
          rw [if_neg c] at hy
          have hr0 : S.rt x ≠ 0 := fun c => hy (by rw [c, Rg.neg_zero])
          rw [h.lgn _ hr0]
          revert c
          cases S.lg (S.rt x) <;> cases decide (k % 2 = 1) <;> decide
      show hdk l (if S.lg (S.sgn (S.rt x) (decide (k % 2 = 1))) = true then 5 else 4) = _
      rw [hlg]
      by_cases hk2 : k % 2 = 1
      · rw [if_pos (decide_eq_true hk2), show k = 5 by omega]
      · rw [if_neg (by simpa using hk2), show k = 4 by omega]
    · rename_i h6
      split at hr
      · rename_i h7
        obtain ⟨e1, e2, e3, e4⟩ := Frm.chk_inv hr
        have hln : l.length = 2 * S.n := by
          have : l.length ≠ S.n := by
            intro c
            rw [decide_eq_false h6, decide_eq_true c] at h2
            exact h2 (by decide)
          omega
        have r1 := h.brd _ (fun v hv => hbs v (List.mem_of_mem_take hv)) h5
        have r2 := h.brd _ (fun v hv => hbs v (List.mem_of_mem_drop hv)) h7
        subst e1
        refine ⟨e3, e4, fun c => by omega, fun _ => ?_⟩
        rw [h.full_eq, if_neg e2]
        show hdk (S.bts _ ++ S.bts _) 0 = _
        rw [r1, r2, List.take_append_drop, show k = 0 by omega]
      · simp at hr
  · simp at hr
end
end Go.Proofs.Ytlhgcbmanifpiaa.codec
/- codec: the two groups' forms, plainly. -/
namespace Cr
open Rg Fd Go.Eng
section
variable {F : Type} [Fd F] {b : F}
theorem sq_two (hb : b ≠ 0) {P : F × F} (oP : OnP b P) {r : Nat} (hr : r % 2 = 1) (h : nmul P r = O2) (h0 : P.2 = 0) : P = O2 := by
  have e : pneg P = P := by
    show (P.1, -P.2) = P
    rw [h0, neg_zero, ← h0]
  have h2 : nmul P 2 = O2 := by
    rw [nmul_two]
    have := add_neg_self P
    rwa [e] at this
  have hrr : r = 2 * (r / 2) + 1 := by omega
  rw [hrr, nmul_add hb oP, ← nmul_mul hb oP, h2, nmul_O, O_add, nmul_one] at h
  exact h
theorem sq_three (hb : b ≠ 0) {P : F × F} (oP : OnP b P) {r : Nat} (hr : r % 3 = 1) (h : nmul P r = O2) (h0 : P.1 = 0) : P = O2 := by
  rcases oP with rfl | o
  · rfl
  have oP : OnP b P := .inr o
  have hl : LnP P P 0 := by
    refine ⟨?_, ?_⟩
    · rw [zero_mul, sub_self]
    · rw [h0, zero_mul, zero_mul, add_zero, add_zero]
  have e : padd P P = pneg P := by
    rw [padd_ln hb o o hl, h0]
    show (0 * 0 - 0 - 0, -(P.2 + 0 * _)) = (P.1, -P.2)
    rw [zero_mul, zero_mul, sub_self, sub_self, add_zero, h0]
  have h3 : nmul P 3 = O2 := by
    show padd (nmul P 2) P = O2
    rw [nmul_two, e, neg_add_self]
  have hrr : r = 3 * (r / 3) + 1 := by omega
  rw [hrr, nmul_add hb oP, ← nmul_mul hb oP, h3, nmul_O, O_add, nmul_one] at h
  exact h
end
theorem bytesN_snoc (n : Nat) (N : Int) : bytesN (n + 1) N = bytesN n (N / 256) ++ [N % 256] := by
  unfold bytesN
  rw [List.range_succ, List.map_append]
  congr 1
  · apply List.map_congr_left
    intro i hi
    have hi := List.mem_range.1 hi
    rw [show n + 1 - 1 - i = (n - 1 - i) + 1 by omega]
    rw [show p256 (n - 1 - i + 1) = 256 * p256 (n - 1 - i) from rfl, ← Int.ediv_ediv_of_nonneg (by decide)]
  · simp [p256]
theorem bytesN_num : ∀ (n : Nat) (l : List Int), l.length = n → Bs l → bytesN n (num l) = l := by
  intro n
  induction n with
  | zero => intro l h _; rw [List.length_eq_zero_iff.1 h]; rfl
  | succ n ih =>
    intro l h hb
    have hne : l ≠ [] := by intro c; rw [c] at h; simp at h
    have e := List.dropLast_concat_getLast hne
    have hlast := hb _ (List.getLast_mem hne)
    have hd : Bs l.dropLast := fun x hx => hb x (List.dropLast_subset l hx)
    have hl : l.dropLast.length = n := by rw [List.length_dropLast]; omega
    rw [bytesN_snoc]
    have hn : num l = num l.dropLast * 256 + l.getLast hne := by rw [← num_snoc, e]
    rw [hn, show (num l.dropLast * 256 + l.getLast hne) / 256 = num l.dropLast by omega, show (num l.dropLast * 256 + l.getLast hne) % 256 = l.getLast hne by omega, ih _ hl hd, e]
theorem bytesN_zero (n : Nat) : bytesN n 0 = List.replicate n 0 := by
  have e : ((List.replicate n (0 : Int)).length = n) := List.length_replicate
  have hb : Bs (List.replicate n (0 : Int)) := fun x hx => by rw [List.eq_of_mem_replicate hx]; decide
  have hz : ∀ n : Nat, num (List.replicate n 0) = 0 := by
    intro n
    induction n with
    | zero => rfl
    | succ n ih => rw [List.replicate_succ', num_snoc, ih]; rfl
  have := bytesN_num n _ e hb
  rwa [hz] at this
theorem bytesN_hd {N : Int} (h0 : 0 ≤ N) (h1 : N < Mp) : (bytesN 48 N).getD 0 0 < 32 := by
  show N / p256 47 % 256 < 32
  have hm : Mp ≤ 32 * p256 47 := by decide +kernel
  have hp : 0 < p256 47 := p256_pos 47
  have : N / p256 47 < 32 := Int.ediv_lt_of_lt_mul hp (by omega)
  have : 0 ≤ N / p256 47 := Int.ediv_nonneg h0 (Int.le_of_lt hp)
  omega
theorem neg_fp {y : Fp} (h : y ≠ 0) : (-y).v = Mp - y.v := by
  have h0 := y.nn
  have h1 := y.lt
  have : y.v ≠ 0 := fun c => h (Zm.ext (by rw [c, zero_v]))
  rw [neg_v, ← Int.add_emod_right]
  rw [Int.emod_eq_of_lt (by omega) (by omega)]
  omega
theorem lg_neg {y : Fp} (h : y ≠ 0) : decide ((- -y).v < (-y).v) = !decide ((-y).v < y.v) := by
  rw [neg_neg]
  have e := neg_fp h
  have hodd : Mp % 2 = 1 := by decide +kernel
  by_cases c : (-y).v < y.v
  · rw [decide_eq_true c, decide_eq_false (by omega)]; rfl
  · rw [decide_eq_false c, decide_eq_true (by omega)]; rfl
end Cr
namespace Go.Proofs.Ytlhgcbmanifpiaa.codec
set_option maxRecDepth 100000
open Go Go.Eng Go.RowKit Cr Go.Proofs.Ytlhgcbmanifpiaa Rg Fd
theorem fpsqrt_sq (y : Fp) : (fp.fpSqrt (y * y)).2 = true := by
  by_cases hy : y = 0
  · rw [hy, mul_zero]; exact fp2.fpsqrt_zero
  · unfold fp.fpSqrt
    have e : zpw (y * y) fp.p14 * zpw (y * y) fp.p14 = y * y := by
      have hf := zpw_inv hy
      rw [zpw_eq] at hf ⊢
      rw [← zpow_sq, ← zpow_add]
      have en : 2 * fp.p14.toNat + 2 * fp.p14.toNat = (4002409555221667393417789825735904156556882819939007885332058136124031650490837864442687629129015664037894272559785 : Int).toNat + 1 + 1 + 1 := of_decide_eq_true (by kernel_rfl)
      rw [en]
      generalize (4002409555221667393417789825735904156556882819939007885332058136124031650490837864442687629129015664037894272559785 : Int).toNat = m at *
      show zpow y m * y * y * y = y * y
      rw [mul_comm (zpow y m) y, hf, one_mul]
    rw [if_pos e]
theorem sqrt2_sq (z : F2) : (fp2.sqrt2 (z * z)).2 = true := by
  obtain ⟨c, d⟩ := z
  have e1 : (((c, d) : F2) * (c, d)).1 = c * c - d * d := F2.mul1 _ _
  have e2 : (((c, d) : F2) * (c, d)).2 = c * d + d * c := F2.mul2 _ _
  by_cases hb : (((c, d) : F2) * (c, d)).2 = 0
  · rw [fp2.sqrt2, if_pos hb]
    by_cases h1 : (fp.fpSqrt (((c, d) : F2) * (c, d)).1).2 = true
    · rw [if_pos h1]
    · rw [if_neg h1]
      show (fp.fpSqrt (-(((c, d) : F2) * (c, d)).1)).2 = true
      rw [e1] at h1 ⊢
      rw [e2, mul_comm d c] at hb
      rcases mul_eq_zero (double_eq_zero hb) with h | h
      · rw [h, q_8, neg_neg]; exact fpsqrt_sq d
      · rw [h, mul_zero, sub_def, neg_zero, add_zero] at h1
        exact absurd (fpsqrt_sq c) h1
  · rw [fp2.sqrt2, if_neg hb, e1, e2, q_5, if_pos (fpsqrt_sq _)]
    have hn := fp2.fpsqrt_ok (fpsqrt_sq (c * c + d * d))
    generalize (fp.fpSqrt ((c * c + d * d) * (c * c + d * d))).1 = n at *
    rcases sq_eq hn with h | h
    · rw [h, q_6, if_pos (fpsqrt_sq _)]
    · by_cases h2 : (fp.fpSqrt (c * c - d * d + n + (c * c - d * d + n))).2 = true
      · rw [if_pos h2]
      · rw [if_neg h2]
        show (fp.fpSqrt (c * c - d * d - n + (c * c - d * d - n))).2 = true
        rw [h, q_7]
        exact fpsqrt_sq _
theorem rd_by (x : Fp) : fp.rdFp (bytesN 48 x.v) = (x, 0) := by
  have hlt : x.v < p256 48 := Int.lt_trans x.lt (by decide +kernel)
  rw [fp.rdFp, if_pos (bytesN_length _ _), num_bytesN 48 _ x.nn hlt, if_pos x.lt, zm_self]
theorem by_rd {b : List Int} (hb : Bs b) (h : (fp.rdFp b).2 = 0) : bytesN 48 (fp.rdFp b).1.v = b ∧ b.length = 48 := by
  unfold fp.rdFp at h ⊢
  split at h
  · rename_i hl
    rw [if_pos hl]
    split at h
    · rename_i hm
      rw [if_pos hm]
      refine ⟨?_, hl⟩
      have : (zm (num b) : Fp).v = num b := by rw [zm_v]; exact Int.emod_eq_of_lt (num_bd hb).1 hm
      show bytesN 48 (zm (num b) : Fp).v = b
      rw [this, bytesN_num 48 b hl hb]
    · cases h
  · cases h
/-- The forms of the first group. -/
noncomputable def frm1 : Frm Fp := ⟨48, fun x => bytesN 48 x.v, fp.rdFp, fun y => decide ((-y).v < y.v), root1, g1.gon, g1.gin⟩
theorem in1_ok {x y : Fp} (h1 : g1.gon (x, y) = true) (h2 : g1.gin (x, y) = true) : g1.Sub (x, y) := by
  have o := (g1.gon_iff _).1 h1
  rw [g1.gin_of o, decide_eq_true_iff] at h2
  exact ⟨o, h2⟩
theorem frm1_ok : frm1.Ok where
  n0 := by decide
  len x := bytesN_length _ _
  bs x := bytesN_Bs _ _
  hd x := bytesN_hd x.nn x.lt
  rdb x := rd_by x
  brd b hb h := (by_rd hb h).1
  lgn y hy := lg_neg hy
  z := bytesN_zero 48
  root x y h h0 := by
    rcases (g1.gon_iff _).1 h with c | c
    · exact absurd c h0
    · have c : y * y = x * x * x + zm 4 := c
      have := fp2.fpsqrt_ok (fpsqrt_sq y)
      show y = root1 x ∨ y = -root1 x
      rw [root1, ← c]
      exact sq_eq this.symm
  on0 := (g1.gon_iff _).2 (.inl rfl)
  in0 := by rw [show ((0 : Fp), (0 : Fp)) = O2 from rfl]; exact g1.sub_in ⟨.inl rfl, nmul_O _⟩
  iny x y h1 h2 h0 := by
    obtain ⟨o, hr⟩ := in1_ok h1 h2
    exact ⟨fun c => h0 (sq_two g1.b4_ne o (by decide +kernel) hr c), fun c => h0 (sq_three g1.b4_ne o (by decide +kernel) hr c)⟩
  onn x y h := (g1.gon_iff _).2 (pneg_onP ((g1.gon_iff _).1 h))
  inn x y h1 h2 := by
    obtain ⟨o, hr⟩ := in1_ok h1 h2
    refine g1.sub_in ⟨pneg_onP o, ?_⟩
    show nmul (pneg (x, y)) g1.rN = O2
    rw [nmul_neg g1.b4_ne o, hr, pneg_O]
theorem rg1_eq (b : List Int) : rg1 b = frm1.rg b := rfl
theorem g1b_eq (p : Fp × Fp) : g1b p = frm1.short p := by
  obtain ⟨x, y⟩ := p
  unfold g1b Frm.short
  have e : (decide (x = 0) && decide (y = 0)) = decide ((x, y) = ((0 : Fp), (0 : Fp))) := by
    rw [Bool.eq_iff_iff]; simp
  show List.set _ 0 (bitOp .or .u8 _ (if (decide (x = 0) && decide (y = 0)) = true then _ else _)) = _
  rw [e]
  simp only [frm1, decide_eq_true_eq]
/-- The forms of the second group. -/
noncomputable def frm2 : Frm F2 := ⟨96, fp2.by2, fp2.rdF2, fp2.lg2, root2, g2.gon, g2.gin⟩
theorem in2_ok {x y : F2} (h1 : g2.gon (x, y) = true) (h2 : g2.gin (x, y) = true) : g2.Sub (x, y) := by
  have o := (g2.gon_iff _).1 h1
  rw [g2.gin_of o, decide_eq_true_iff] at h2
  exact ⟨o, h2⟩
theorem by2_len (x : F2) : (fp2.by2 x).length = 96 := by rw [fp2.by2, List.length_append, bytesN_length, bytesN_length]
theorem by2_take (x : F2) : (fp2.by2 x).take 48 = bytesN 48 x.2.v := by
  rw [fp2.by2, List.take_append_of_le_length (by rw [bytesN_length]; exact Nat.le_refl _), List.take_of_length_le (by rw [bytesN_length]; exact Nat.le_refl _)]
theorem by2_drop (x : F2) : (fp2.by2 x).drop 48 = bytesN 48 x.1.v := by
  have := List.drop_left (l₁ := bytesN 48 x.2.v) (l₂ := bytesN 48 x.1.v)
  rwa [bytesN_length] at this
theorem frm2_ok : frm2.Ok where
  n0 := by decide
  len x := by2_len x
  bs x v hv := by
    have hv : v ∈ bytesN 48 x.2.v ++ bytesN 48 x.1.v := hv
    rcases List.mem_append.1 hv with c | c
    · exact bytesN_Bs _ _ v c
    · exact bytesN_Bs _ _ v c
  hd x := by
    show (bytesN 48 x.2.v ++ bytesN 48 x.1.v).getD 0 0 < 32
    have := bytesN_hd x.2.nn x.2.lt
    have hl := bytesN_length 48 x.2.v
    cases h : bytesN 48 x.2.v with
    | nil => rw [h] at hl; simp at hl
    | cons a t => rw [h] at this; exact this
  rdb x := by
    show fp2.rdF2 (fp2.by2 x) = (x, 0)
    rw [fp2.rdF2, if_pos (by2_len x), by2_take, by2_drop, rd_by, rd_by, if_pos rfl, if_pos rfl]
  brd b hb h := by
    have h : (fp2.rdF2 b).2 = 0 := h
    show fp2.by2 (fp2.rdF2 b).1 = b
    unfold fp2.rdF2 at h ⊢
    split at h
    · rename_i hl
      rw [if_pos hl]
      split at h
      · rename_i h1
        rw [if_pos h1]
        split at h
        · rename_i h2
          rw [if_pos h2]
          have e1 := (by_rd (fun v hv => hb v (List.mem_of_mem_take hv)) h1).1
          have e2 := (by_rd (fun v hv => hb v (List.mem_of_mem_drop hv)) h2).1
          show bytesN 48 (fp.rdFp (b.take 48)).1.v ++ bytesN 48 (fp.rdFp (b.drop 48)).1.v = b
          rw [e1, e2, List.take_append_drop]
        · rename_i h2; exact absurd h h2
      · rename_i h1; exact absurd h h1
    · cases h
  lgn y hy := by
    show fp2.lg2 (-y) = !fp2.lg2 y
    unfold fp2.lg2
    rw [F2.neg1, F2.neg2]
    by_cases h2 : y.2 = 0
    · have h1 : y.1 ≠ 0 := fun c => hy (F2.ext c h2)
      rw [if_pos h2, if_pos (by rw [h2, neg_zero]), lg_neg h1]
    · rw [if_neg h2, if_neg (fun c => h2 (by rw [← neg_neg y.2, c, neg_zero])), lg_neg h2]
  z := by
    show bytesN 48 (0 : Fp).v ++ bytesN 48 (0 : Fp).v = _
    rw [zero_v, bytesN_zero, List.replicate_append_replicate]
    rfl
  root x y h h0 := by
    rcases (g2.gon_iff _).1 h with c | c
    · exact absurd c h0
    · have c : y * y = x * x * x + (zm 4, zm 4) := c
      have := fp2.sqrt2_ok (sqrt2_sq y)
      show y = root2 x ∨ y = -root2 x
      rw [root2, ← c]
      exact sq_eq this.symm
  on0 := (g2.gon_iff _).2 (.inl rfl)
  in0 := by rw [show ((0 : F2), (0 : F2)) = O2 from rfl]; exact g2.sub_in ⟨.inl rfl, nmul_O _⟩
  iny x y h1 h2 h0 := by
    obtain ⟨o, hr⟩ := in2_ok h1 h2
    exact ⟨fun c => h0 (sq_two g2.b4_ne o (by decide +kernel) hr c), fun c => h0 (sq_three g2.b4_ne o (by decide +kernel) hr c)⟩
  onn x y h := (g2.gon_iff _).2 (pneg_onP ((g2.gon_iff _).1 h))
  inn x y h1 h2 := by
    obtain ⟨o, hr⟩ := in2_ok h1 h2
    refine g2.sub_in ⟨pneg_onP o, ?_⟩
    show nmul (pneg (x, y)) g2.rN = O2
    rw [nmul_neg g2.b4_ne o, hr, pneg_O]
theorem rg2_eq (b : List Int) : rg2 b = frm2.rg b := rfl
theorem g2b_eq (p : F2 × F2) : g2b p = frm2.short p := by
  unfold g2b Frm.short
  rw [g2.eqP2]
  simp only [decide_eq_true_eq]
  rfl
end Go.Proofs.Ytlhgcbmanifpiaa.codec
/- codec: G1Full, G2Full; the others for laws. -/
namespace Go.Proofs.Ytlhgcbmanifpiaa.codec
set_option maxRecDepth 100000
open Go Go.Eng Go.RowKit Cr Go.Proofs.Ytlhgcbmanifpiaa
theorem cat_eq {n m : Nat} (hm : m = n + n) {l1 l2 : List Int} (h1 : l1.length = n) (h2 : l2.length = n) : (List.take n (List.take 0 (List.replicate m (0 : Int)) ++ (List.take (Nat.min n n) (List.take n l1) ++ List.drop (0 + Nat.min n n) (List.replicate m (0 : Int)))) ++ (List.take (Nat.min n n) (List.take n l2) ++ List.drop (n + Nat.min n n) (List.take 0 (List.replicate m (0 : Int)) ++ (List.take (Nat.min n n) (List.take n l1) ++ List.drop (0 + Nat.min n n) (List.replicate m (0 : Int)))))) = l1 ++ l2 := by
  have e : Nat.min n n = n := Nat.min_self n
  have t1 : List.take n l1 = l1 := List.take_of_length_le (by omega)
  have t2 : List.take n l2 = l2 := List.take_of_length_le (by omega)
  rw [e, t1, t2, t1, t2, List.take_zero, List.nil_append, List.take_append_of_le_length (by omega), t1, List.drop_eq_nil_of_le (by simp; omega), List.append_nil]
theorem hd_eq (l : List Int) : (List.take ((nat_lit 0 + 1) / width (Kd.int IntKind.u8)) l).getD 0 0 = l.getD 0 0 := by
  cases l <;> rfl
theorem ent_g1f : enters Try.prog 66 Try.f66 := enters_mk (by kernel_rfl) (by kernel_rfl) (by kernel_rfl)
noncomputable def ob1 (x : Fp) : List Int := opq (bytesN 48 x.v)
theorem ob1_eq (x : Fp) : ob1 x = frm1.bts x := opq_eq _
theorem ob1_len (x : Fp) : (ob1 x).length = 48 := by rw [ob1_eq]; exact frm1_ok.len x
theorem fo_by1 : FnOk Try.prog 122 [.fp] [.val (.arr 48 (.int .u8))] noG (fun _ => True) (fun (x, _) => (ob1 x, ())) := fp.fn_bytes.out fun (x, _) => by show (ob1 x, ()) = (_, ()); rw [ob1, opq_eq]
noncomputable def soBy1 : Nat × Eng.Spec := (122, fnSpec [.fp] [.val (.arr 48 (.int .u8))] (fun _ => True) (fun (x, _) => (ob1 x, ())))
noncomputable def of1 (p : Fp × Fp) : List Int := opq (frm1.full p)
theorem of1_eq (p : Fp × Fp) : of1 p = frm1.full p := opq_eq _
theorem fo_g1f : FnOk Try.prog 66 [pt1] [.val (.arr 96 (.int .u8))] noG (fun _ => True) (fun (p, _) => (of1 p, ())) := by
  refine fn_of_vc (sp := sps [soBy1]) (sps_cons (fnSpec_ok fo_by1) sps_nil) mixed ent_g1f (by decide) (by decide) ?_
  rintro w M0 ⟨p, ⟨⟩⟩
  revert p
  intro (p : Fp × Fp) _ _
  refine vcx (X := (True ∧ True ∧ ((0 : Int) ≤ (48 : Int) ∧ (48 : Int) ≤ (↑(96 : Nat) : Int)) ∧ (0 : Nat) + (48 : Nat) ≤ (48 : Nat) ∧ (0 : Nat) + (48 : Nat) ≤ (96 : Nat) ∧ ((0 : Int) ≤ (48 : Int) ∧ (48 : Int) ≤ (↑(96 : Nat) : Int)) ∧ (0 : Nat) + (48 : Nat) ≤ (48 : Nat) ∧ (48 : Nat) + (48 : Nat) ≤ (96 : Nat) ∧ (eqC (Kd.fp.pair Kd.fp) p ((0 : Fp), (0 : Fp)) = true → (0 : Nat) < (96 : Nat) ∧ ((List.take (48 : Nat) (List.take (0 : Nat) (List.replicate (96 : Nat) (0 : Int)) ++ (List.take (Nat.min (48 : Nat) (48 : Nat)) (List.take (48 : Nat) (ob1 p.fst)) ++ List.drop ((0 : Nat) + Nat.min (48 : Nat) (48 : Nat)) (List.replicate (96 : Nat) (0 : Int)))) ++ (List.take (Nat.min (48 : Nat) (48 : Nat)) (List.take (48 : Nat) (ob1 p.snd)) ++ List.drop ((48 : Nat) + Nat.min (48 : Nat) (48 : Nat)) (List.take (0 : Nat) (List.replicate (96 : Nat) (0 : Int)) ++ (List.take (Nat.min (48 : Nat) (48 : Nat)) (List.take (48 : Nat) (ob1 p.fst)) ++ List.drop ((0 : Nat) + Nat.min (48 : Nat) (48 : Nat)) (List.replicate (96 : Nat) (0 : Int)))))).set (0 : Nat) (bitOp BinOp.or IntKind.u8 ((List.take ((nat_lit 0 + (1 : Nat)) / width (Kd.int IntKind.u8)) (List.take (48 : Nat) (List.take (0 : Nat) (List.replicate (96 : Nat) (0 : Int)) ++ (List.take (Nat.min (48 : Nat) (48 : Nat)) (List.take (48 : Nat) (ob1 p.fst)) ++ List.drop ((0 : Nat) + Nat.min (48 : Nat) (48 : Nat)) (List.replicate (96 : Nat) (0 : Int)))) ++ (List.take (Nat.min (48 : Nat) (48 : Nat)) (List.take (48 : Nat) (ob1 p.snd)) ++ List.drop ((48 : Nat) + Nat.min (48 : Nat) (48 : Nat)) (List.take (0 : Nat) (List.replicate (96 : Nat) (0 : Int)) ++ (List.take (Nat.min (48 : Nat) (48 : Nat)) (List.take (48 : Nat) (ob1 p.fst)) ++ List.drop ((0 : Nat) + Nat.min (48 : Nat) (48 : Nat)) (List.replicate (96 : Nat) (0 : Int))))))).getD (0 : Nat) (0 : Int)) (64 : Int)), ()) = (of1 p, ())) ∧ (eqC (Kd.fp.pair Kd.fp) p ((0 : Fp), (0 : Fp)) = false → (List.take (48 : Nat) (List.take (0 : Nat) (List.replicate (96 : Nat) (0 : Int)) ++ (List.take (Nat.min (48 : Nat) (48 : Nat)) (List.take (48 : Nat) (ob1 p.fst)) ++ List.drop ((0 : Nat) + Nat.min (48 : Nat) (48 : Nat)) (List.replicate (96 : Nat) (0 : Int)))) ++ (List.take (Nat.min (48 : Nat) (48 : Nat)) (List.take (48 : Nat) (ob1 p.snd)) ++ List.drop ((48 : Nat) + Nat.min (48 : Nat) (48 : Nat)) (List.take (0 : Nat) (List.replicate (96 : Nat) (0 : Int)) ++ (List.take (Nat.min (48 : Nat) (48 : Nat)) (List.take (48 : Nat) (ob1 p.fst)) ++ List.drop ((0 : Nat) + Nat.min (48 : Nat) (48 : Nat)) (List.replicate (96 : Nat) (0 : Int))))), ()) = (of1 p, ())))) (by kernel_rfl) ?_
  rw [cat_eq (n := 48) rfl (ob1_len _) (ob1_len _), eqP, hd_eq]
  refine ⟨trivial, trivial, ⟨by decide, by decide⟩, by decide, by decide, ⟨by decide, by decide⟩, by decide, by decide, fun h => ⟨by decide, ?_⟩, fun h => ?_⟩
  all_goals rw [of1_eq, Frm.full, ob1_eq, ob1_eq]
  · rw [if_pos (of_decide_eq_true h)]
  · rw [if_neg (of_decide_eq_false h)]
noncomputable def soG1f : Nat × Eng.Spec := (66, fnSpec [pt1] [.val (.arr 96 (.int .u8))] (fun _ => True) (fun (p, _) => (of1 p, ())))
noncomputable def os1 (p : Fp × Fp) : List Int := opq (frm1.short p)
theorem os1_eq (p : Fp × Fp) : os1 p = frm1.short p := opq_eq _
theorem fo_g1 : FnOk Try.prog 65 [pt1] [.val (.arr 48 (.int .u8))] noG (fun _ => True) (fun (p, _) => (os1 p, ())) := fn_g1.out fun (p, _) => by show (os1 p, ()) = (g1b p, ()); rw [os1_eq, g1b_eq]
noncomputable def soG1 : Nat × Eng.Spec := (65, fnSpec [pt1] [.val (.arr 48 (.int .u8))] (fun _ => True) (fun (p, _) => (os1 p, ())))
noncomputable def or1 (b : List Int) : (Fp × Fp) × Int := opq (frm1.rg b)
theorem or1_eq (b : List Int) : or1 b = frm1.rg b := opq_eq _
theorem fo_readG1 : FnOk Try.prog 59 [.sl (.int .u8)] [.val pt1, .val (.int .i64)] noG preRG (fun (b, _) => ((or1 b).1, (or1 b).2, ())) := fn_readG1.out fun (b, _) => by show ((or1 b).1, (or1 b).2, ()) = ((rg1 b).1, (rg1 b).2, ()); rw [or1_eq, rg1_eq]
noncomputable def soReadG1 : Nat × Eng.Spec := (59, fnSpec [.sl (.int .u8)] [.val pt1, .val (.int .i64)] preRG (fun (b, _) => ((or1 b).1, (or1 b).2, ())))

theorem ent_g2f : enters Try.prog 70 Try.f70 := enters_mk (by kernel_rfl) (by kernel_rfl) (by kernel_rfl)
noncomputable def ob2 (x : F2) : List Int := opq (fp2.by2 x)
theorem ob2_eq (x : F2) : ob2 x = frm2.bts x := opq_eq _
theorem ob2_len (x : F2) : (ob2 x).length = 96 := by rw [ob2_eq]; exact frm2_ok.len x
theorem fo_by2 : FnOk Try.prog 124 [fp2.f2] [.val (.arr 96 (.int .u8))] noG (fun _ => True) (fun (x, _) => (ob2 x, ())) := fp2.fn_bytes.out fun (x, _) => by show (ob2 x, ()) = (_, ()); rw [ob2, opq_eq]
noncomputable def soBy2 : Nat × Eng.Spec := (124, fnSpec [fp2.f2] [.val (.arr 96 (.int .u8))] (fun _ => True) (fun (x, _) => (ob2 x, ())))
noncomputable def of2 (p : F2 × F2) : List Int := opq (frm2.full p)
theorem of2_eq (p : F2 × F2) : of2 p = frm2.full p := opq_eq _
theorem fo_g2f : FnOk Try.prog 70 [g2.pt2] [.val (.arr 192 (.int .u8))] noG (fun _ => True) (fun (p, _) => (of2 p, ())) := by
  refine fn_of_vc (sp := sps [soBy2]) (sps_cons (fnSpec_ok fo_by2) sps_nil) mixed ent_g2f (by decide) (by decide) ?_
  rintro w M0 ⟨p, ⟨⟩⟩
  revert p
  intro (p : F2 × F2) _ _
  refine vcx (X := (True ∧ True ∧ ((0 : Int) ≤ (96 : Int) ∧ (96 : Int) ≤ (↑(192 : Nat) : Int)) ∧ (0 : Nat) + (96 : Nat) ≤ (96 : Nat) ∧ (0 : Nat) + (96 : Nat) ≤ (192 : Nat) ∧ ((0 : Int) ≤ (96 : Int) ∧ (96 : Int) ≤ (↑(192 : Nat) : Int)) ∧ (0 : Nat) + (96 : Nat) ≤ (96 : Nat) ∧ (96 : Nat) + (96 : Nat) ≤ (192 : Nat) ∧ (eqC ((Kd.fp.pair Kd.fp).pair (Kd.fp.pair Kd.fp)) p (((0 : Fp), (0 : Fp)), (0 : Fp), (0 : Fp)) = true → (0 : Nat) < (192 : Nat) ∧ ((List.take (96 : Nat) (List.take (0 : Nat) (List.replicate (192 : Nat) (0 : Int)) ++ (List.take (Nat.min (96 : Nat) (96 : Nat)) (List.take (96 : Nat) (ob2 p.fst)) ++ List.drop ((0 : Nat) + Nat.min (96 : Nat) (96 : Nat)) (List.replicate (192 : Nat) (0 : Int)))) ++ (List.take (Nat.min (96 : Nat) (96 : Nat)) (List.take (96 : Nat) (ob2 p.snd)) ++ List.drop ((96 : Nat) + Nat.min (96 : Nat) (96 : Nat)) (List.take (0 : Nat) (List.replicate (192 : Nat) (0 : Int)) ++ (List.take (Nat.min (96 : Nat) (96 : Nat)) (List.take (96 : Nat) (ob2 p.fst)) ++ List.drop ((0 : Nat) + Nat.min (96 : Nat) (96 : Nat)) (List.replicate (192 : Nat) (0 : Int)))))).set (0 : Nat) (bitOp BinOp.or IntKind.u8 ((List.take ((nat_lit 0 + (1 : Nat)) / width (Kd.int IntKind.u8)) (List.take (96 : Nat) (List.take (0 : Nat) (List.replicate (192 : Nat) (0 : Int)) ++ (List.take (Nat.min (96 : Nat) (96 : Nat)) (List.take (96 : Nat) (ob2 p.fst)) ++ List.drop ((0 : Nat) + Nat.min (96 : Nat) (96 : Nat)) (List.replicate (192 : Nat) (0 : Int)))) ++ (List.take (Nat.min (96 : Nat) (96 : Nat)) (List.take (96 : Nat) (ob2 p.snd)) ++ List.drop ((96 : Nat) + Nat.min (96 : Nat) (96 : Nat)) (List.take (0 : Nat) (List.replicate (192 : Nat) (0 : Int)) ++ (List.take (Nat.min (96 : Nat) (96 : Nat)) (List.take (96 : Nat) (ob2 p.fst)) ++ List.drop ((0 : Nat) + Nat.min (96 : Nat) (96 : Nat)) (List.replicate (192 : Nat) (0 : Int))))))).getD (0 : Nat) (0 : Int)) (64 : Int)), ()) = (of2 p, ())) ∧ (eqC ((Kd.fp.pair Kd.fp).pair (Kd.fp.pair Kd.fp)) p (((0 : Fp), (0 : Fp)), (0 : Fp), (0 : Fp)) = false → (List.take (96 : Nat) (List.take (0 : Nat) (List.replicate (192 : Nat) (0 : Int)) ++ (List.take (Nat.min (96 : Nat) (96 : Nat)) (List.take (96 : Nat) (ob2 p.fst)) ++ List.drop ((0 : Nat) + Nat.min (96 : Nat) (96 : Nat)) (List.replicate (192 : Nat) (0 : Int)))) ++ (List.take (Nat.min (96 : Nat) (96 : Nat)) (List.take (96 : Nat) (ob2 p.snd)) ++ List.drop ((96 : Nat) + Nat.min (96 : Nat) (96 : Nat)) (List.take (0 : Nat) (List.replicate (192 : Nat) (0 : Int)) ++ (List.take (Nat.min (96 : Nat) (96 : Nat)) (List.take (96 : Nat) (ob2 p.fst)) ++ List.drop ((0 : Nat) + Nat.min (96 : Nat) (96 : Nat)) (List.replicate (192 : Nat) (0 : Int))))), ()) = (of2 p, ())))) (by kernel_rfl) ?_
  rw [cat_eq (n := 96) rfl (ob2_len _) (ob2_len _), g2.eqP2, hd_eq]
  refine ⟨trivial, trivial, ⟨by decide, by decide⟩, by decide, by decide, ⟨by decide, by decide⟩, by decide, by decide, fun h => ⟨by decide, ?_⟩, fun h => ?_⟩
  all_goals rw [of2_eq, Frm.full, ob2_eq, ob2_eq]
  · rw [if_pos (show p = ((0 : F2), (0 : F2)) from of_decide_eq_true h)]
  · rw [if_neg (show ¬ p = ((0 : F2), (0 : F2)) from of_decide_eq_false h)]
noncomputable def soG2f : Nat × Eng.Spec := (70, fnSpec [g2.pt2] [.val (.arr 192 (.int .u8))] (fun _ => True) (fun (p, _) => (of2 p, ())))
noncomputable def os2 (p : F2 × F2) : List Int := opq (frm2.short p)
theorem os2_eq (p : F2 × F2) : os2 p = frm2.short p := opq_eq _
theorem fo_g2 : FnOk Try.prog 69 [g2.pt2] [.val (.arr 96 (.int .u8))] noG (fun _ => True) (fun (p, _) => (os2 p, ())) := fn_g2.out fun (p, _) => by show (os2 p, ()) = (g2b p, ()); rw [os2_eq, g2b_eq]
noncomputable def soG2 : Nat × Eng.Spec := (69, fnSpec [g2.pt2] [.val (.arr 96 (.int .u8))] (fun _ => True) (fun (p, _) => (os2 p, ())))
noncomputable def or2 (b : List Int) : (F2 × F2) × Int := opq (frm2.rg b)
theorem or2_eq (b : List Int) : or2 b = frm2.rg b := opq_eq _
theorem fo_readG2 : FnOk Try.prog 35 [.sl (.int .u8)] [.val g2.pt2, .val (.int .i64)] noG preRG (fun (b, _) => ((or2 b).1, (or2 b).2, ())) := fn_readG2.out fun (b, _) => by show ((or2 b).1, (or2 b).2, ()) = ((rg2 b).1, (rg2 b).2, ()); rw [or2_eq, rg2_eq]
noncomputable def soReadG2 : Nat × Eng.Spec := (35, fnSpec [.sl (.int .u8)] [.val g2.pt2, .val (.int .i64)] preRG (fun (b, _) => ((or2 b).1, (or2 b).2, ())))
end Go.Proofs.Ytlhgcbmanifpiaa.codec
/- codec: forms, for laws. -/
namespace Go.Proofs.Ytlhgcbmanifpiaa.codec
set_option maxRecDepth 100000
open Go Go.Eng Go.RowKit Cr Go.Proofs.Ytlhgcbmanifpiaa
theorem xor_u8 (a b : Int) : 0 ≤ bitOp .xor .u8 a b ∧ bitOp .xor .u8 a b < 256 := by
  show 0 ≤ IntKind.u8.wrap _ ∧ IntKind.u8.wrap _ < 256
  simp only [IntKind.wrap, IntKind.signed, IntKind.bits]
  simp
  omega
section
variable {F : Type} [Cr.Fd F] [DecidableEq F] {S : Frm F}
theorem hdk_Bs {l : List Int} (h : Bs l) (hd : BD l) {k : Nat} (hk : k < 8) : Bs (hdk l k) := set_Bs h (by obtain ⟨_, h2, h3⟩ := hd; omega)
theorem Frm.Ok.short_Bs (h : S.Ok) (p : F × F) : Bs (S.short p) := by
  rw [h.short_eq]
  exact hdk_Bs (h.bs _) (h.BD1 _) (by split; decide; split <;> decide)
theorem Frm.Ok.full_Bs (h : S.Ok) (p : F × F) : Bs (S.full p) := by
  rw [h.full_eq]
  refine hdk_Bs (fun v hv => ?_) (h.BD2 _ _) (by split <;> decide)
  rcases List.mem_append.1 hv with c | c
  · exact h.bs _ v c
  · exact h.bs _ v c
theorem Frm.Ok.short_len (h : S.Ok) (p : F × F) : (S.short p).length = S.n := by rw [h.short_eq, hdk_len, h.len]
theorem Frm.Ok.full_len' (h : S.Ok) (p : F × F) : (S.full p).length = 2 * S.n := by rw [h.full_eq, hdk_len, h.full_len]
end

theorem os1_len (p : Fp × Fp) : (os1 p).length = 48 := by rw [os1_eq]; exact frm1_ok.short_len p
theorem of1_len (p : Fp × Fp) : (of1 p).length = 96 := by rw [of1_eq]; exact frm1_ok.full_len' p
theorem os1_take (p : Fp × Fp) : List.take 48 (os1 p) = os1 p := List.take_of_length_le (by rw [os1_len]; exact Nat.le_refl _)
theorem of1_take (p : Fp × Fp) : List.take 96 (of1 p) = of1 p := List.take_of_length_le (by rw [of1_len]; exact Nat.le_refl _)
theorem os1_pre (p : Fp × Fp) : preRG (os1 p, ()) := ⟨by rw [os1_eq]; exact frm1_ok.short_Bs p, by show List.length (os1 p) ≤ _; rw [os1_len]; decide⟩
theorem of1_pre (p : Fp × Fp) : preRG (of1 p, ()) := ⟨by rw [of1_eq]; exact frm1_ok.full_Bs p, by show List.length (of1 p) ≤ _; rw [of1_len]; decide⟩
theorem set_pre1 {b : List Int} (h : preRG (b, ())) (x y : Int) : preRG (b.set 0 (bitOp .xor .u8 x y), ()) := ⟨set_Bs h.1 (xor_u8 x y), by show List.length (b.set 0 _) ≤ _; rw [List.length_set]; exact h.2⟩
theorem sub_gon1 {p : Fp × Fp} (h : g1.Sub p) : g1.gon p = true := (g1.gon_iff p).2 h.1
theorem or_os1 {p : Fp × Fp} (h : g1.Sub p) : or1 (os1 p) = (p, 0) := by rw [os1_eq, or1_eq]; exact frm1_ok.short_back (sub_gon1 h) (g1.sub_in h)
theorem or_of1 {p : Fp × Fp} (h : g1.Sub p) : or1 (of1 p) = (p, 0) := by rw [of1_eq, or1_eq]; exact frm1_ok.full_back (sub_gon1 h) (g1.sub_in h)
theorem gmul_ne1 {x : Fr} (h : x ≠ 0) : g1.gmul g1.gG x ≠ ((0 : Fp), (0 : Fp)) := by
  intro c
  have e : g1.gmul g1.gG (x * Cr.Fd.inv x) = g1.gmul (g1.gmul g1.gG x) (Cr.Fd.inv x) := g1.mul_mul g1.sub_G _ _
  rw [Cr.Fd.mul_inv x h, g1.mul_one g1.sub_G, c, g1.gmul_eq (.inl rfl), nmul_O] at e
  exact g1.gG_ne e
theorem neg_ok1 {p : Fp × Fp} (h : g1.Sub p) (h0 : p ≠ ((0 : Fp), (0 : Fp))) : p.2 ≠ 0 ∧ p.1 ≠ 0 := frm1_ok.iny p.1 p.2 (sub_gon1 h) (g1.sub_in h) h0
theorem os_neg1 {p : Fp × Fp} (h : g1.Sub p) (h0 : p ≠ ((0 : Fp), (0 : Fp))) : (os1 p).set 0 (bitOp .xor .u8 ((os1 p).getD 0 0) 32) = os1 (pneg p) := by
  rw [os1_eq, os1_eq]
  exact frm1_ok.short_neg h0 (neg_ok1 h h0).1
theorem neg_sub1 {p : Fp × Fp} (h : g1.Sub p) : g1.Sub (pneg p) := ⟨pneg_onP h.1, by rw [nmul_neg g1.b4_ne h.1, h.2, pneg_O]⟩
theorem neg_ne1 {p : Fp × Fp} (h0 : p ≠ ((0 : Fp), (0 : Fp))) : pneg p ≠ ((0 : Fp), (0 : Fp)) := fun c => h0 (by rw [← pneg_pneg p, c]; exact pneg_O)
theorem or_short1 {p : Fp × Fp} (h : g1.Sub p) (h0 : p ≠ ((0 : Fp), (0 : Fp))) {m : Nat} (hm : m < 8) (hm2 : 2 ≤ m) : or1 ((os1 p).set 0 (bitOp .xor .u8 ((os1 p).getD 0 0) ((32 * m : Nat) : Int))) = (((0 : Fp), (0 : Fp)), 11) := by
  rw [os1_eq, or1_eq]
  exact frm1_ok.short_marks h0 (neg_ok1 h h0).2 hm hm2
theorem or_full1 {p : Fp × Fp} (h0 : p ≠ ((0 : Fp), (0 : Fp))) {m : Nat} (hm : m < 8) (hm2 : 1 ≤ m) : or1 ((of1 p).set 0 (bitOp .xor .u8 ((of1 p).getD 0 0) ((32 * m : Nat) : Int))) = (((0 : Fp), (0 : Fp)), 11) := by
  rw [of1_eq, or1_eq]
  exact frm1_ok.full_marks h0 hm hm2

theorem os2_len (p : F2 × F2) : (os2 p).length = 96 := by rw [os2_eq]; exact frm2_ok.short_len p
theorem of2_len (p : F2 × F2) : (of2 p).length = 192 := by rw [of2_eq]; exact frm2_ok.full_len' p
theorem os2_take (p : F2 × F2) : List.take 96 (os2 p) = os2 p := List.take_of_length_le (by rw [os2_len]; exact Nat.le_refl _)
theorem of2_take (p : F2 × F2) : List.take 192 (of2 p) = of2 p := List.take_of_length_le (by rw [of2_len]; exact Nat.le_refl _)
theorem os2_pre (p : F2 × F2) : preRG (os2 p, ()) := ⟨by rw [os2_eq]; exact frm2_ok.short_Bs p, by show List.length (os2 p) ≤ _; rw [os2_len]; decide⟩
theorem of2_pre (p : F2 × F2) : preRG (of2 p, ()) := ⟨by rw [of2_eq]; exact frm2_ok.full_Bs p, by show List.length (of2 p) ≤ _; rw [of2_len]; decide⟩
theorem set_pre2 {b : List Int} (h : preRG (b, ())) (x y : Int) : preRG (b.set 0 (bitOp .xor .u8 x y), ()) := ⟨set_Bs h.1 (xor_u8 x y), by show List.length (b.set 0 _) ≤ _; rw [List.length_set]; exact h.2⟩
theorem sub_gon2 {p : F2 × F2} (h : g2.Sub p) : g2.gon p = true := (g2.gon_iff p).2 h.1
theorem or_os2 {p : F2 × F2} (h : g2.Sub p) : or2 (os2 p) = (p, 0) := by rw [os2_eq, or2_eq]; exact frm2_ok.short_back (sub_gon2 h) (g2.sub_in h)
theorem or_of2 {p : F2 × F2} (h : g2.Sub p) : or2 (of2 p) = (p, 0) := by rw [of2_eq, or2_eq]; exact frm2_ok.full_back (sub_gon2 h) (g2.sub_in h)
theorem gmul_ne2 {x : Fr} (h : x ≠ 0) : g2.gmul g2.gG x ≠ ((0 : F2), (0 : F2)) := by
  intro c
  have e : g2.gmul g2.gG (x * Cr.Fd.inv x) = g2.gmul (g2.gmul g2.gG x) (Cr.Fd.inv x) := g2.mul_mul g2.sub_G _ _
  rw [Cr.Fd.mul_inv x h, g2.mul_one g2.sub_G, c, g2.gmul_eq (.inl rfl), nmul_O] at e
  exact g2.gG_ne e
theorem neg_ok2 {p : F2 × F2} (h : g2.Sub p) (h0 : p ≠ ((0 : F2), (0 : F2))) : p.2 ≠ 0 ∧ p.1 ≠ 0 := frm2_ok.iny p.1 p.2 (sub_gon2 h) (g2.sub_in h) h0
theorem os_neg2 {p : F2 × F2} (h : g2.Sub p) (h0 : p ≠ ((0 : F2), (0 : F2))) : (os2 p).set 0 (bitOp .xor .u8 ((os2 p).getD 0 0) 32) = os2 (pneg p) := by
  rw [os2_eq, os2_eq]
  exact frm2_ok.short_neg h0 (neg_ok2 h h0).1
theorem neg_sub2 {p : F2 × F2} (h : g2.Sub p) : g2.Sub (pneg p) := ⟨pneg_onP h.1, by rw [nmul_neg g2.b4_ne h.1, h.2, pneg_O]⟩
theorem neg_ne2 {p : F2 × F2} (h0 : p ≠ ((0 : F2), (0 : F2))) : pneg p ≠ ((0 : F2), (0 : F2)) := fun c => h0 (by rw [← pneg_pneg p, c]; exact pneg_O)
theorem or_short2 {p : F2 × F2} (h : g2.Sub p) (h0 : p ≠ ((0 : F2), (0 : F2))) {m : Nat} (hm : m < 8) (hm2 : 2 ≤ m) : or2 ((os2 p).set 0 (bitOp .xor .u8 ((os2 p).getD 0 0) ((32 * m : Nat) : Int))) = (((0 : F2), (0 : F2)), 11) := by
  rw [os2_eq, or2_eq]
  exact frm2_ok.short_marks h0 (neg_ok2 h h0).2 hm hm2
theorem or_full2 {p : F2 × F2} (h0 : p ≠ ((0 : F2), (0 : F2))) {m : Nat} (hm : m < 8) (hm2 : 1 ≤ m) : or2 ((of2 p).set 0 (bitOp .xor .u8 ((of2 p).getD 0 0) ((32 * m : Nat) : Int))) = (((0 : F2), (0 : F2)), 11) := by
  rw [of2_eq, or2_eq]
  exact frm2_ok.full_marks h0 hm hm2
end Go.Proofs.Ytlhgcbmanifpiaa.codec
/- power, Inv of package fr. Printed by gen_pow.py. -/
namespace Go.Proofs.Ytlhgcbmanifpiaa.fr
set_option maxRecDepth 100000
open Go Go.Eng Go.RowKit Cr Go.Proofs.Ytlhgcbmanifpiaa

theorem ent_power : enters Try.prog 129 Try.f129 := enters_mk (by kernel_rfl) (by kernel_rfl) (by kernel_rfl)
noncomputable def powI (x : Fr) (es : List Int) (g : Int × List Fr) : St := mkSt Try.f129.ntmps 64 [(2, .is (.one (.ptr 0 0))), (3, .is (.one (.ptr 8 0))), (4, .is (.one (.ptr 16 0))), (5, .is (.one (.ptr 24 0))), (11, sI .i64 g.1)] [(0, [.row .fr 1 [x]]), (8, [.ints .u64 4 es]), (16, [.row .fr 1 [(0 : Fr)]]), (24, [.row .fr 16 g.2])]
noncomputable def powJ (es : List Int) (tb : List Fr) (g : Int × Fr) : St := mkSt Try.f129.ntmps 96 [(3, .is (.one (.ptr 8 0))), (4, .is (.one (.ptr 16 0))), (5, .is (.one (.ptr 24 0))), (7, .is (.one (.ptr 72 0))), (24, sI .i64 g.1)] [(8, [.ints .u64 4 es]), (16, [.row .fr 1 [(0 : Fr)]]), (24, [.row .fr 16 tb]), (72, [.row .fr 1 [g.2]])]
noncomputable def powK (es : List Int) (tb : List Fr) (i : Int) (g : Int × Fr) : St := mkSt Try.f129.ntmps 128 [(3, .is (.one (.ptr 8 0))), (4, .is (.one (.ptr 16 0))), (5, .is (.one (.ptr 24 0))), (7, .is (.one (.ptr 72 0))), (8, sI .i64 i), (24, sI .i64 i), (27, sI .i64 g.1)] [(8, [.ints .u64 4 es]), (16, [.row .fr 1 [(0 : Fr)]]), (24, [.row .fr 16 tb]), (72, [.row .fr 1 [g.2]])]
noncomputable def powL (es : List Int) (tb : List Fr) (i : Int) (y : Fr) : St := mkSt Try.f129.ntmps 104 [(3, .is (.one (.ptr 8 0))), (4, .is (.one (.ptr 16 0))), (5, .is (.one (.ptr 24 0))), (7, .is (.one (.ptr 72 0))), (24, sI .i64 i)] [(8, [.ints .u64 4 es]), (16, [.row .fr 1 [(0 : Fr)]]), (24, [.row .fr 16 tb]), (72, [.row .fr 1 [y]])]
abbrev prePower : HL [.fr, (.arr 4 (.int .u64))] → Prop := fun (_, es, _) => Ws es
noncomputable abbrev outPower : HL [.fr, (.arr 4 (.int .u64))] → HO [.val .fr] := fun (x, es, _) => (zpw (x : Fr) (val es), ())

theorem fn_power : FnOk Try.prog 129 [.fr, (.arr 4 (.int .u64))] [.val .fr] noG prePower outPower := by
  have hsp : SpecsOk Try.prog (sps [spOne, spMul, spSquare]) := sps_cons (fnSpec_ok fn_one) (sps_cons (fnSpec_ok fn_mul) (sps_cons (fnSpec_ok fn_square) sps_nil))
  refine fn_of_tr (sp := sps [spOne, spMul, spSquare]) ent_power (by decide) (by decide) (by kernel_rfl) ?_
  rintro w M0 ⟨x, es, ⟨⟩⟩ ⟨_, ⟨hl, _⟩, _⟩ he
  have hl : List.length es = 4 := hl
  have he : Ws es := he
  have hE := val_nonneg he
  have hE2 : val es < p16 64 := by have := val_lt he; rw [hl] at this; rw [show 64 = 16 * 4 from rfl, p16_16]; exact this
  have hes : es = lim 4 (val es) := by have := lim_val he; rw [hl] at this; exact this.symm
  show Tr _ _ _ _ _ _ _
  refine tr_cut hsp mixed 4 (powI x es (0, (List.replicate 16 (0 : Fr)).set 0 1)) True ?_ (fun _ => ?_)
  · refine vcx (X := True ∧ (0 : Nat) < 16 ∧ (powI x es (0, (List.replicate 16 (0 : Fr)).set 0 1)).triv True) (by kernel_rfl) ⟨trivial, by decide, triv_intro trivial⟩
  rw [show (List.replicate 16 (0 : Fr)).set 0 1 = tabAt (zpow x) 0 0 from rfl]
  refine tr_count hsp mixed (powI x es) (fun k => ((k : Int), tabAt (zpow x) 0 k)) 15 (fun g => (IntKind.i64.wrap (g.1 + 1), g.2.set (IntKind.i64.wrap (g.1 + 1)).toNat (g.2.getD g.1.toNat 0 * x))) (powI x es) (c := nthC (codeOf Try.f129) 4) (by kernel_rfl) (by kernel_rfl) (le_of_proj (by kernel_rfl) (by kernel_rfl) trivial)
    (fun k hk => by
      show (_, _) = (_, _)
      rw [wrap_succ (by omega), Int.toNat_natCast, Int.toNat_natCast, tabAt_get _ _ _ (Nat.le_refl k) (by omega), show zpow x k * x = zpow x (k + 1) from rfl, tabAt_set]) ?_ ?_
  · intro k hk
    refine vcx (X := ((decide ((k : Int) < 15) = true → (0 ≤ (k : Int) ∧ (k : Int) < ((16 : Nat) : Int)) ∧ (k : Int).toNat < 16 ∧ True ∧ (0 ≤ IntKind.i64.wrap ((k : Int) + 1) ∧ IntKind.i64.wrap ((k : Int) + 1) < ((16 : Nat) : Int)) ∧ (IntKind.i64.wrap ((k : Int) + 1)).toNat < 16 ∧
        (powI x es (IntKind.i64.wrap ((k : Int) + 1), (tabAt (zpow x) 0 k).set (IntKind.i64.wrap ((k : Int) + 1)).toNat ((tabAt (zpow x) 0 k).getD (k : Int).toNat 0 * x))).triv (k < 15)) ∧
      (decide ((k : Int) < 15) = false → (powI x es ((k : Int), tabAt (zpow x) 0 k)).triv (k = 15)))) (by kernel_rfl) ?_
    refine ⟨fun h => ?_, fun h => triv_intro (by have := dec_ge h; omega)⟩
    have hlt : k < 15 := by have := dec_lt h; omega
    rw [wrap_succ (by omega)]
    exact ⟨⟨by omega, by omega⟩, by omega, trivial, ⟨by omega, by omega⟩, by omega, triv_intro hlt⟩
  generalize htb : tabAt (zpow x) 0 15 = tb
  have hget : ∀ j, j < 16 → tb.getD j 0 = zpow x j := fun j hj => by rw [← htb]; exact tabAt_get _ _ _ (by omega) hj
  clear htb
  refine tr_cut hsp mixed 2 (powJ es tb (0, 1)) True ?_ (fun _ => ?_)
  · refine vcx (X := True ∧ (powJ es tb (0, 1)).triv True) (by kernel_rfl) ⟨trivial, triv_intro trivial⟩
  rw [show ((0 : Int), (1 : Fr)) = (((0 : Nat) : Int), zpow x (val es / p16 (64 - 0)).toNat) by
    rw [Nat.sub_zero, Int.ediv_eq_zero_of_lt hE hE2]; rfl]
  refine tr_countT (powJ es tb) (fun i => ((i : Int), zpow x (val es / p16 (64 - i)).toNat)) 64 (fun g => (IntKind.i64.wrap (g.1 + 1), sqn g.2 4 * tb.getD (pdig (3 : Nat) es g.1).toNat 0)) (powJ es tb) (c := nthC (codeOf Try.f129) 7) (by kernel_rfl) (by kernel_rfl) (le_of_proj (by kernel_rfl) (by kernel_rfl) trivial)
    (fun i hi => by
      show (_, _) = (_, _)
      rw [wrap_succ (by omega), hes, pdig_ok (n := 3) hi (by omega), ← hes]
      rw [hget _ (by omega), sqn_zpow, ← zpow_add]
      congr 2
      have := digit_step hE (64 - 1 - i)
      rw [show 64 - (i + 1) = 64 - 1 - i by omega, this, show 64 - 1 - i + 1 = 64 - i by omega]) ?_ ?_
  · intro i hi
    generalize zpow x (val es / p16 (64 - i)).toNat = y
    refine tr_cut hsp mixed 2 (powL es tb (i : Int) y) (i < 64) ?_ (fun hlt => ?_)
    · refine vcx (X := ((decide ((i : Int) < 64) = true → (powL es tb (i : Int) y).triv (i < 64)) ∧ (decide ((i : Int) < 64) = false → (powJ es tb ((i : Int), y)).triv (i = 64)))) (by kernel_rfl) ?_
      exact ⟨fun h => triv_intro (by have := dec_lt h; omega), fun h => triv_intro (by have := dec_ge h; omega)⟩
    refine tr_block (c := nthC (loopOf (nthC (codeOf Try.f129) 7)) 2) (by kernel_rfl) (by kernel_rfl) ?_
    refine tr_cut hsp mixed 2 (powK es tb (i : Int) (0, y)) True ?_ (fun _ => ?_)
    · refine vcx (X := (powK es tb (i : Int) (0, y)).triv True) (by kernel_rfl) (triv_intro trivial)
    refine tr_count hsp mixed (powK es tb (i : Int)) (fun j => ((j : Int), sqn y j)) 4 (fun g => (IntKind.i64.wrap (g.1 + 1), g.2 * g.2)) (powK es tb (i : Int)) (c := nthC (bodyOf (nthC (loopOf (nthC (codeOf Try.f129) 7)) 2)) 2) (by kernel_rfl) (by kernel_rfl) (le_of_proj (by kernel_rfl) (by kernel_rfl) trivial)
      (fun j hj => by show (_, _) = (_, _); rw [wrap_succ (by omega)]; rfl) ?_ ?_
    · intro j hj
      refine vcx (X := ((decide ((j : Int) < 4) = true → True ∧ (powK es tb (i : Int) (IntKind.i64.wrap ((j : Int) + 1), sqn y j * sqn y j)).triv (j < 4)) ∧ (decide ((j : Int) < 4) = false → (powK es tb (i : Int) ((j : Int), sqn y j)).triv (j = 4)))) (by kernel_rfl) ?_
      exact ⟨fun h => ⟨trivial, triv_intro (by have := dec_lt h; omega)⟩, fun h => triv_intro (by have := dec_ge h; omega)⟩
    refine tr_cut hsp mixed 1 (powJ es tb ((i : Int), sqn y 4 * tb.getD (pdig (3 : Nat) es i).toNat 0)) True ?_ (fun _ => ?_)
    · refine vcx (X := ((16 : Int) ≠ 0 ∧ (0 ≤ pj (3 : Nat) i ∧ pj (3 : Nat) i < ((4 : Nat) : Int)) ∧ (pj (3 : Nat) i).toNat < 4 ∧ (16 : Int) ≠ 0 ∧ 0 ≤ psh i ∧ (0 ≤ pdig (3 : Nat) es i ∧ pdig (3 : Nat) es i < ((16 : Nat) : Int)) ∧ (pdig (3 : Nat) es i).toNat < 16 ∧ True ∧ (powJ es tb ((i : Int), sqn y 4 * tb.getD (pdig (3 : Nat) es i).toNat 0)).triv True)) (by kernel_rfl) ?_
      obtain ⟨b1, b2, b3⟩ := pdig_bd (n := 3) hlt (by omega)
      have b4 : 0 ≤ pdig (3 : Nat) es i ∧ pdig (3 : Nat) es i < 16 := by
        rw [hes, pdig_ok (n := 3) hlt (by omega)]
        omega
      exact ⟨by decide, b1, b2, by decide, b3, b4, by omega, trivial, triv_intro trivial⟩
    refine tr_nil ?_
    refine tr_vc hsp mixed _ _ ?_
    refine vcx (X := (powJ es tb (IntKind.i64.wrap ((i : Int) + 1), sqn y 4 * tb.getD (pdig (3 : Nat) es i).toNat 0)).triv (i < 64)) (by kernel_rfl) (triv_intro hlt)
  refine tr_vc hsp mixed _ _ ?_
  refine vcx (X := (zpow x (val es / p16 (64 - 64)).toNat, ()) = outPower (x, es, ())) (by kernel_rfl) ?_
  rw [Nat.sub_self, p16, Int.ediv_one, ← zpw_eq]
noncomputable def spPower : Nat × Eng.Spec := (129, fnSpec [.fr, (.arr 4 (.int .u64))] [.val .fr] prePower outPower)

theorem ent_inv : enters Try.prog 79 Try.f79 := enters_mk (by kernel_rfl) (by kernel_rfl) (by kernel_rfl)
/-- x to the power of the modulus less 2. -/
noncomputable def zinv (x : Fr) : Fr := zpw x 52435875175126190479447740508185965837690552500527637822603658699938581184511
noncomputable abbrev outInv : HL [.fr] → HO [.val .fr] := fun (x, _) => (zinv (x : Fr), ())
theorem val_pm2 : val [18446744069414584319, 6034159408538082302, 3691218898639771653, 8353516859464449352] = 52435875175126190479447740508185965837690552500527637822603658699938581184511 := by decide
theorem fn_inv : FnOk Try.prog 79 [.fr] [.val .fr] noG (fun _ => True) outInv := by
  refine fn_of_vc (sp := sps [spPower]) (sps_cons (fnSpec_ok fn_power) sps_nil) mixed ent_inv (by decide) (by decide) ?_
  rintro w M0 ⟨x, ⟨⟩⟩ _ _
  refine vcx (X := (prePower (x, [18446744069414584319, 6034159408538082302, 3691218898639771653, 8353516859464449352], ()) ∧ (zpw x (val [18446744069414584319, 6034159408538082302, 3691218898639771653, 8353516859464449352]), ()) = outInv (x, ()))) (by kernel_rfl) ?_
  refine ⟨?_, ?_⟩
  · intro y hy; simp at hy; rcases hy with rfl | rfl | rfl | rfl <;> exact ⟨by decide, by decide⟩
  · rw [val_pm2]; rfl
noncomputable def spInv : Nat × Eng.Spec := (79, fnSpec [.fr] [.val .fr] (fun _ => True) outInv)
end Go.Proofs.Ytlhgcbmanifpiaa.fr
/- fr.Zero. -/
namespace Go.Proofs.Ytlhgcbmanifpiaa.fr
set_option maxRecDepth 100000
open Go Go.Eng Go.RowKit Cr Go.Proofs.Ytlhgcbmanifpiaa
theorem ent_zero : enters Try.prog 77 Try.f77 := enters_mk (by kernel_rfl) (by kernel_rfl) (by kernel_rfl)
abbrev outZero : HL [.fr] → HO [.val .bool] := fun (x, _) => (decide ((x : Fr) = 0), ())
theorem fn_zero : FnOk Try.prog 77 [.fr] [.val .bool] noG (fun _ => True) outZero := by
  refine fn_of_vc (sp := sps []) sps_nil mixed ent_zero (by decide) (by decide) ?_
  rintro w M0 ⟨x, ⟨⟩⟩
  revert x
  intro (x : Fr) _ _
  refine vcx (X := ((eqC Kd.fr x (0 : Fr), ()) = outZero (x, ()))) (by kernel_rfl) ?_
  rfl
noncomputable def spZero : Nat × Eng.Spec := (77, fnSpec [.fr] [.val .bool] (fun _ => True) outZero)
end Go.Proofs.Ytlhgcbmanifpiaa.fr
/- CodecOneForm: the walk. -/
namespace Go.Proofs.Ytlhgcbmanifpiaa.law09
set_option maxRecDepth 100000
open Go Go.Eng Go.RowKit Cr Go.Proofs.Ytlhgcbmanifpiaa Go.Proofs.Ytlhgcbmanifpiaa.codec
theorem ent_one : enters Try.prog 11 Try.f11 := enters_mk (by kernel_rfl) (by kernel_rfl) (by kernel_rfl)
abbrev preOne : HL [.sl (.int .u8), .sl (.int .u8)] → Prop := fun (a, b, _) => preB a ∧ preB b
noncomputable def onC (b : List Int) : St := mkSt Try.f11.ntmps 160 [(1, .is (.one (.ro (.int .u8) b)))] []
theorem fn_one : FnOk Try.prog 11 [.sl (.int .u8), .sl (.int .u8)] [.val .bool] noG preOne (fun _ => (true, ())) := by
  have hsp : SpecsOk Try.prog (sps [spHead, spLong, ref01.spCopy, ref01.spSame, soG1, soG1f, soG2, soG2f, soReadG1, soReadG2, g1.soIn, g1.soOn, g2.soIn, g2.soOn]) := (sps_cons (fnSpec_ok fn_head) (sps_cons (fnSpec_ok fn_long) (sps_cons (fnSpec_ok ref01.fn_copy) (sps_cons (fnSpec_ok ref01.fn_same) (sps_cons (fnSpec_ok fo_g1) (sps_cons (fnSpec_ok fo_g1f) (sps_cons (fnSpec_ok fo_g2) (sps_cons (fnSpec_ok fo_g2f) (sps_cons (fnSpec_ok fo_readG1) (sps_cons (fnSpec_ok fo_readG2) (sps_cons (fnSpec_ok g1.fo_in) (sps_cons (fnSpec_ok g1.fo_on) (sps_cons (fnSpec_ok g2.fo_in) (sps_cons (fnSpec_ok g2.fo_on) sps_nil))))))))))))))
  refine fn_of_tr (sp := sps [spHead, spLong, ref01.spCopy, ref01.spSame, soG1, soG1f, soG2, soG2f, soReadG1, soReadG2, g1.soIn, g1.soOn, g2.soIn, g2.soOn]) ent_one (by decide) (by decide) (by kernel_rfl) ?_
  rintro w M0 ⟨a, b, ⟨⟩⟩
  revert a b
  intro (a : List Int) (b : List Int) _ hp
  obtain ⟨⟨ha, hl1⟩, hb, hl2⟩ := hp
  show Tr _ _ _ _ _ _ _
  have same_self : ∀ l : List Int, ref01.sameF l l = true := fun l => by rw [ref01.sameF]; simp
  refine tr_cut hsp mixed 8 (onC b) (b.length ≤ 400) ?_ (fun hb4 => ?_)
  · refine vcx (X := (True ∧ ((!true) = true → (false, ()) = (true, ())) ∧ ((!true) = false → True ∧ (decide ((↑a.length : Int) > (400 : Int)) = true → (true, ()) = (true, ())) ∧ (decide ((↑a.length : Int) > (400 : Int)) = false → True ∧ (decide ((↑b.length : Int) > (400 : Int)) = true → (true, ()) = (true, ())) ∧ (decide ((↑b.length : Int) > (400 : Int)) = false → ref01.preCopy (a, ()) ∧ (0 : Nat) + a.length ≤ a.length ∧ preRG (List.take a.length a, ()) ∧ (((or1 (List.take a.length a)).snd == (0 : Int)) = true → True ∧ True ∧ True ∧ ((!g1.gin (or1 (List.take a.length a)).fst) = true → (false, ()) = (true, ())) ∧ ((!g1.gin (or1 (List.take a.length a)).fst) = false → True ∧ ((!g1.gon (or1 (List.take a.length a)).fst) = true → (false, ()) = (true, ())) ∧ ((!g1.gon (or1 (List.take a.length a)).fst) = false → (((↑a.length : Int) == (48 : Int)) = true → (0 : Nat) + (48 : Nat) ≤ (48 : Nat) ∧ ref01.preSame (List.take (48 : Nat) (os1 (or1 (List.take a.length a)).fst), a, ()) ∧ ((!ref01.sameF (List.take (48 : Nat) (os1 (or1 (List.take a.length a)).fst)) a) = true → (false, ()) = (true, ())) ∧ ((!ref01.sameF (List.take (48 : Nat) (os1 (or1 (List.take a.length a)).fst)) a) = false → (((↑a.length : Int) == (96 : Int)) = true → (0 : Nat) + (96 : Nat) ≤ (96 : Nat) ∧ ref01.preSame (List.take (96 : Nat) (of1 (or1 (List.take a.length a)).fst), a, ()) ∧ ((!ref01.sameF (List.take (96 : Nat) (of1 (or1 (List.take a.length a)).fst)) a) = true → (false, ()) = (true, ())) ∧ ((!ref01.sameF (List.take (96 : Nat) (of1 (or1 (List.take a.length a)).fst)) a) = false → (onC b).triv (b.length ≤ (400 : Nat)))) ∧ (((↑a.length : Int) == (96 : Int)) = false → (onC b).triv (b.length ≤ (400 : Nat))))) ∧ (((↑a.length : Int) == (48 : Int)) = false → (((↑a.length : Int) == (96 : Int)) = true → (0 : Nat) + (96 : Nat) ≤ (96 : Nat) ∧ ref01.preSame (List.take (96 : Nat) (of1 (or1 (List.take a.length a)).fst), a, ()) ∧ ((!ref01.sameF (List.take (96 : Nat) (of1 (or1 (List.take a.length a)).fst)) a) = true → (false, ()) = (true, ())) ∧ ((!ref01.sameF (List.take (96 : Nat) (of1 (or1 (List.take a.length a)).fst)) a) = false → (onC b).triv (b.length ≤ (400 : Nat)))) ∧ (((↑a.length : Int) == (96 : Int)) = false → (onC b).triv (b.length ≤ (400 : Nat))))))) ∧ (((or1 (List.take a.length a)).snd == (0 : Int)) = false → (onC b).triv (b.length ≤ (400 : Nat)))))))) (by kernel_rfl) ?_
    have hr : List.take a.length a = a := List.take_length
    rw [hr]
    have key : (or1 a).2 = 0 → g1.gon (or1 a).1 = true ∧ g1.gin (or1 a).1 = true ∧ (a.length = 48 → os1 (or1 a).1 = a) ∧ (a.length = 96 → of1 (or1 a).1 = a) := fun h0 => by
      have := frm1_ok.one_form ha (p := (or1 a).1) (by rw [← or1_eq, ← h0])
      rw [os1_eq, of1_eq]
      exact this
    have ps : ref01.preSame (a, a, ()) := by show a.length < _; omega
    rw [os1_take, of1_take]
    refine ⟨trivial, fun h => absurd h (by decide), fun _ => ⟨trivial, fun _ => rfl, fun h4 => ⟨trivial, fun _ => rfl, fun h5 => ⟨hl1, by omega, ⟨ha, by have := of_decide_eq_false h4; show a.length ≤ _; omega⟩, fun h6 => ?_, fun h6 => triv_intro (by have := of_decide_eq_false h5; omega)⟩⟩⟩⟩
    have h5 : b.length ≤ 400 := by have := of_decide_eq_false h5; omega
    obtain ⟨k1, k2, k3, k4⟩ := key (by simpa using h6)
    rw [k1, k2]
    have tr : (onC b).triv (b.length ≤ 400) := triv_intro h5
    by_cases h48 : a.length = 48
    · rw [k3 h48, same_self]
      simp [h48, ps, tr]
    · by_cases h96 : a.length = 96
      · rw [k4 h96, same_self]
        have : ¬ ((a.length : Int) = 48) := by omega
        simp [h96, ps, tr]
      · have c1 : ¬ ((a.length : Int) = 48) := by omega
        have c2 : ¬ ((a.length : Int) = 96) := by omega
        simp [c1, c2, tr]
  refine tr_vc hsp mixed _ _ ?_
  refine vcx (X := (ref01.preCopy (b, ()) ∧ (0 : Nat) + b.length ≤ b.length ∧ preRG (List.take b.length b, ()) ∧ (((or2 (List.take b.length b)).snd == (0 : Int)) = true → True ∧ True ∧ True ∧ ((!g2.gin (or2 (List.take b.length b)).fst) = true → (false, ()) = (true, ())) ∧ ((!g2.gin (or2 (List.take b.length b)).fst) = false → True ∧ ((!g2.gon (or2 (List.take b.length b)).fst) = true → (false, ()) = (true, ())) ∧ ((!g2.gon (or2 (List.take b.length b)).fst) = false → (((↑b.length : Int) == (96 : Int)) = true → (0 : Nat) + (96 : Nat) ≤ (96 : Nat) ∧ ref01.preSame (List.take (96 : Nat) (os2 (or2 (List.take b.length b)).fst), b, ()) ∧ ((!ref01.sameF (List.take (96 : Nat) (os2 (or2 (List.take b.length b)).fst)) b) = true → (false, ()) = (true, ())) ∧ ((!ref01.sameF (List.take (96 : Nat) (os2 (or2 (List.take b.length b)).fst)) b) = false → (((↑b.length : Int) == (192 : Int)) = true → (0 : Nat) + (192 : Nat) ≤ (192 : Nat) ∧ ref01.preSame (List.take (192 : Nat) (of2 (or2 (List.take b.length b)).fst), b, ()) ∧ ((!ref01.sameF (List.take (192 : Nat) (of2 (or2 (List.take b.length b)).fst)) b) = true → (false, ()) = (true, ())) ∧ ((!ref01.sameF (List.take (192 : Nat) (of2 (or2 (List.take b.length b)).fst)) b) = false → (true, ()) = (true, ()))) ∧ (((↑b.length : Int) == (192 : Int)) = false → (true, ()) = (true, ())))) ∧ (((↑b.length : Int) == (96 : Int)) = false → (((↑b.length : Int) == (192 : Int)) = true → (0 : Nat) + (192 : Nat) ≤ (192 : Nat) ∧ ref01.preSame (List.take (192 : Nat) (of2 (or2 (List.take b.length b)).fst), b, ()) ∧ ((!ref01.sameF (List.take (192 : Nat) (of2 (or2 (List.take b.length b)).fst)) b) = true → (false, ()) = (true, ())) ∧ ((!ref01.sameF (List.take (192 : Nat) (of2 (or2 (List.take b.length b)).fst)) b) = false → (true, ()) = (true, ()))) ∧ (((↑b.length : Int) == (192 : Int)) = false → (true, ()) = (true, ())))))) ∧ (((or2 (List.take b.length b)).snd == (0 : Int)) = false → (true, ()) = (true, ())))) (by kernel_rfl) ?_
  have hr : List.take b.length b = b := List.take_length
  rw [hr]
  have key : (or2 b).2 = 0 → g2.gon (or2 b).1 = true ∧ g2.gin (or2 b).1 = true ∧ (b.length = 96 → os2 (or2 b).1 = b) ∧ (b.length = 192 → of2 (or2 b).1 = b) := fun h0 => by
    have := frm2_ok.one_form hb (p := (or2 b).1) (by rw [← or2_eq, ← h0])
    rw [os2_eq, of2_eq]
    exact this
  have ps : ref01.preSame (b, b, ()) := by show b.length < _; omega
  rw [os2_take, of2_take]
  refine ⟨hl2, by omega, ⟨hb, by show b.length ≤ _; omega⟩, fun h6 => ?_, fun h6 => rfl⟩
  obtain ⟨k1, k2, k3, k4⟩ := key (by simpa using h6)
  rw [k1, k2]
  by_cases h48 : b.length = 96
  · rw [k3 h48, same_self]
    simp [h48, ps]
  · by_cases h96 : b.length = 192
    · rw [k4 h96, same_self]
      simp [h96, ps]
    · have c1 : ¬ ((b.length : Int) = 96) := by omega
      have c2 : ¬ ((b.length : Int) = 192) := by omega
      simp [c1, c2]
end Go.Proofs.Ytlhgcbmanifpiaa.law09
namespace Go.Proofs.Ytlhgcbmanifpiaa
set_option maxRecDepth 100000
open Go Go.Eng Go.RowKit Cr Go.ChangeShapes Go.WideShapes Go.ChangeAt

namespace codecOneForm
theorem own : ownKnob Try.prog.godebug = none := by kernel_rfl
theorem laidOut : laidOutB Try.prog = true := by kernel_rfl
abbrev wtB : Car bsl → Prop := fun ys => List.length ys * Try.prog.bytesOf 5 ≤ reachBytes ∧ ∀ y ∈ ys, (Lit.int .u8 y).wf = true
theorem oB : OpnV Try.prog 46 bsl wtB := opnV_slice (e := 5) (by kernel_rfl) (by kernel_rfl) (by decide) (opnC_int (by kernel_rfl))
theorem bytes5 : Try.prog.bytesOf 5 = 1 := by kernel_rfl
theorem pB {xs : List Int} (h : wtB xs) : preB xs := by
  obtain ⟨h1, h2⟩ := h
  rw [bytes5] at h1
  refine ⟨fun x hx => ?_, ?_⟩
  · have := h2 x hx
    simp [Lit.wf, IntKind.min, IntKind.max, IntKind.signed, IntKind.bits] at this
    omega
  · show List.length xs ≤ _
    simp only [reachBytes] at h1
    omega
theorem opened : OpnL Try.prog [46, 46] [bsl, bsl] (fun x => wtB x.1 ∧ wtB x.2.1 ∧ True) :=
  .cons oB (by kernel_rfl) (of_decide_eq_true (by kernel_rfl)) (.cons oB (by kernel_rfl) (of_decide_eq_true (by kernel_rfl)) .nil)
theorem lifted (os : Os) (started : os.Started) (H : Type) (enc : TypeId × Value → H) :
    ReturnsInHanded {} Try.checked os 11 .any (Rows.codecOneFormSpec.pre6 enc Try.prog Try.f11 Rows.codecOneFormRow.domain false) (Rows.codecOneFormSpec.post enc Try.prog Try.f11 false true false false) := by
  refine returnsInHanded_of_change_sized (C := Try.checked) own started (by kernel_rfl) Try.func11
    (ChangeSpec.witness6 (enc := enc) (C := Try.checked) false ⟨#[], #[.slice none 0 0, .slice none 0 0], []⟩ 8 (by kernel_rfl) (by kernel_rfl) (by kernel_rfl) (by kernel_rfl)) ?_
  intro W base args ds gs before hval hW _ hsz _
  refine law_row (C := Try.checked) (bt := 4) (ts := [46, 46]) law09.ent_one law09.fn_one laidOut (by kernel_rfl) (by kernel_rfl) (by kernel_rfl) opened ?_ rfl ?_ W base args ds gs before hval hW hsz
  · rintro ⟨x0, x1, ⟨⟩⟩ ⟨h0, h1, _⟩
    exact ⟨pB h0, pB h1⟩
  · intro ds hl
    match ds, hl with
    | [d0, d1], _ => rfl

theorem proved : Rows.CodecOneFormSaid :=
  OpenClaim.holds_of_wide 11 Try.f11 rfl rfl rfl rfl rfl rfl rfl ⟨rfl, rfl, rfl, rfl, rfl⟩ rfl rfl rfl rfl rfl (by kernel_rfl) Try.func11 (by kernel_rfl)
    (of_decide_eq_true (by kernel_rfl)) (by unfold Func.isWrapper; first | (rw [if_pos (by decide +kernel)]; kernel_rfl) | (rw [if_neg (by decide +kernel)]; exact ⟨rfl, rfl⟩))
    (fun os started H enc _ => lifted os started H enc)
#print axioms proved
end codecOneForm
end Go.Proofs.Ytlhgcbmanifpiaa
