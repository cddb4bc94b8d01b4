/- XmdApart, for every input: true; the input reads as it did. No condition. -/
import Derived.LaidLaws
import Derived.LaidHandle
import Derived.LaidMore
import Derived.MakeChecks
import Derived.OpenShut
import Derived.Test.YtoflhakneklimaaDoorRows
import Derived.Test.YtoflhakneklimaaDoorCards
import Derived.Test.YtoflhakneklimaaDoorTie
import Derived.ProofKit
import Derived.Stop.Joined
import Derived.SevenTiedAt
import Derived.Test.YtoflhakneklimaaDoorML11aPU
/- What rows ask of their arguments. -/
namespace Go.Proofs.YtoflhakneklimaaDoor
open Go Go.Eng Cr
abbrev bsl : Kd := .sl (.int .u8)
/-- Bytes of an input. -/
abbrev preB (b : List Int) : Prop := Bs b ∧ List.length b ≤ 281474976710656
abbrev preBB (bs : List (List Int)) : Prop := (∀ b ∈ bs, preB b) ∧ List.length bs ≤ 281474976710656
abbrev preW (x : Int) : Prop := 0 ≤ x ∧ x < 65536
abbrev preY (x : Int) : Prop := 0 ≤ x ∧ x < 256
abbrev preI (x : Int) : Prop := -9223372036854775808 ≤ x ∧ x < 9223372036854775808
abbrev preL (_ : Bool) : Prop := True
abbrev preIS (xs : List Int) : Prop := (∀ x ∈ xs, preI x) ∧ List.length xs ≤ 17592186044416
end Go.Proofs.YtoflhakneklimaaDoor
/- Helpers of laws. -/
namespace Go.Proofs.YtoflhakneklimaaDoor
open Go Go.Eng Cr
abbrev eq2 (p q : Fp × Fp) : Bool := decide (p.1 = q.1) && decide (p.2 = q.2)
theorem eq2_eq (p q : Fp × Fp) : eq2 p q = decide (p = q) := dec_pair p q
theorem eq2_of {p q : Fp × Fp} (h : p = q) : eq2 p q = true := by rw [eq2_eq]; exact decide_eq_true h
theorem ne2_of {p q : Fp × Fp} (h : p ≠ q) : (!eq2 p q) = true := by rw [eq2_eq]; simp [h]
/-- A test that must hold: else the answer is false. -/
def Ck (c : Bool) (T : Prop) : Prop := (c = true → T) ∧ (c = false → ((false, ()) : Bool × Unit) = (true, ()))
theorem ck {c : Bool} {T : Prop} (h : c = true) (t : T) : Ck c T := ⟨fun _ => t, fun e => by rw [h] at e; cases e⟩
/-- A test that must fail: else the answer is false. -/
def Cn (c : Bool) (T : Prop) : Prop := (c = true → ((false, ()) : Bool × Unit) = (true, ())) ∧ (c = false → T)
theorem cn {c : Bool} {T : Prop} (h : c = false) (t : T) : Cn c T := ⟨fun e => absurd e (by rw [h]; decide), fun _ => t⟩
theorem eqP (a b : Fp × Fp) : eqC (.pair .fp .fp) a b = decide (a = b) := by
  have h := eqC_iff (e := .pair .fp .fp) a b
  rw [Bool.eq_iff_iff, h, decide_eq_true_iff]
theorem eqF (a b : Fp) : eqC .fp a b = decide (a = b) := rfl
theorem eqR (a b : Fr) : eqC .fr a b = decide (a = b) := rfl
abbrev ok (b : Bool) : Prop := ((b, ()) : Bool × Unit) = (true, ())
end Go.Proofs.YtoflhakneklimaaDoor
/- The references' Same. -/
namespace Go.Proofs.YtoflhakneklimaaDoor.ref01
set_option maxRecDepth 100000
open Go Go.Eng Go.RowKit Cr Go.Proofs.YtoflhakneklimaaDoor
theorem ent_same : enters Tryd.prog 16 Tryd.f16 := enters_mk (by kernel_rfl) (by kernel_rfl) (by kernel_rfl)
abbrev preSame : HL [.sl (.int .u8), .sl (.int .u8)] → Prop := fun (a, _, _) => List.length a < 4611686018427387904
def sameF (a b : List Int) : Bool := decide (a = b)
abbrev outSame : HL [.sl (.int .u8), .sl (.int .u8)] → HO [.val .bool] := fun (a, b, _) => (sameF a b, ())
noncomputable def saI (a b : List Int) (g : Int) : St := mkSt Tryd.f16.ntmps 72 [(0, .is (.one (.ro (.int .u8) a))), (1, .is (.one (.ro (.int .u8) b))), (4, .is (.one .F)), (12, sI .i64 a.length), (13, sI .i64 g)] []
def saJ (a b : List Int) (g : Int) : Prop := ∃ k : Nat, k ≤ a.length ∧ g = (k : Int) ∧ a.take k = b.take k
theorem fn_same : FnOk Tryd.prog 16 [.sl (.int .u8), .sl (.int .u8)] [.val .bool] noG preSame outSame := by
  have hsp : SpecsOk Tryd.prog (sps []) := sps_nil
  refine fn_of_tr (sp := sps []) ent_same (by decide) (by decide) (by kernel_rfl) ?_
  rintro w M0 ⟨a, b, ⟨⟩⟩
  revert a b
  intro (a : List Int) (b : List Int) _ hl
  have hl : a.length < 4611686018427387904 := hl
  show Tr _ _ _ _ _ _ _
  refine tr_cut hsp mixed 4 (saI a b 0) (a.length = b.length) ?_ (fun he => ?_)
  · refine vcx (X := ((((↑a.length : Int) != (↑b.length : Int)) = true → (false, ()) = outSame (a, b, ())) ∧ (((↑a.length : Int) != (↑b.length : Int)) = false → (saI a b (0 : Int)).triv (a.length = b.length)))) (by kernel_rfl) ?_
    refine ⟨fun h => ?_, fun h => triv_intro (by simp at h; omega)⟩
    have h : ¬ a.length = b.length := by simp at h; omega
    show _ = (sameF a b, ())
    rw [sameF, decide_eq_false (fun e => h (by rw [e]))]
  refine tr_while hsp mixed noSw (fun σ => rdS (.int .i64) 13 σ) (saI a b) (saJ a b) (fun g => a.length - g.toNat)
    (fun σ => rdS (.int .i64) 13 σ) (saI a b) (fun _ => a = b) 0 (c := nthC (codeOf Tryd.f16) 4) (by kernel_rfl) (by kernel_rfl) (le_of_proj (by kernel_rfl) (by kernel_rfl) ?_) ?_ ?_
  · exact ⟨0, Nat.zero_le _, rfl, rfl⟩
  · intro (i : Int) ⟨k, hk, ei, ht⟩
    subst ei
    refine vcx (X := ((decide ((↑k : Int) < (↑a.length : Int)) = true → ((0 : Int) ≤ (↑k : Int) ∧ (↑k : Int) < (↑a.length : Int)) ∧ (↑k : Int).toNat < a.length ∧ ((0 : Int) ≤ (↑k : Int) ∧ (↑k : Int) < (↑b.length : Int)) ∧ (↑k : Int).toNat < b.length ∧ ((a.getD (↑k : Int).toNat (0 : Int) != b.getD (↑k : Int).toNat (0 : Int)) = true → (false, ()) = outSame (a, b, ())) ∧ ((a.getD (↑k : Int).toNat (0 : Int) != b.getD (↑k : Int).toNat (0 : Int)) = false → (saI a b (IntKind.i64.wrap ((↑k : Int) + (1 : Int)))).triv (saJ a b (IntKind.i64.wrap ((↑k : Int) + (1 : Int))) ∧ a.length - (IntKind.i64.wrap ((↑k : Int) + (1 : Int))).toNat < a.length - (↑k : Int).toNat))) ∧ (decide ((↑k : Int) < (↑a.length : Int)) = false → (saI a b (↑k : Int)).triv (a = b)))) (by kernel_rfl) ?_
    rw [Int.toNat_natCast]
    refine ⟨fun h => ?_, fun h => triv_intro ?_⟩
    · have hlt : k < a.length := by have := dec_lt h; omega
      have ga : a.getD k 0 = a[k] := by rw [List.getD_eq_getElem?_getD, List.getElem?_eq_getElem hlt, Option.getD_some]
      have gb : b.getD k 0 = b[k] := by rw [List.getD_eq_getElem?_getD, List.getElem?_eq_getElem (by omega), Option.getD_some]
      rw [wrap_succ (by omega), ga, gb]
      refine ⟨⟨by omega, by omega⟩, hlt, ⟨by omega, by omega⟩, by omega, fun h2 => ?_, fun h2 => triv_intro ⟨⟨k + 1, hlt, rfl, ?_⟩, by rw [Int.toNat_natCast]; omega⟩⟩
      · have h2 : a[k] ≠ b[k] := by simpa using h2
        show _ = (sameF a b, ())
        rw [sameF, decide_eq_false (fun e => h2 (by subst e; rfl))]
      · have h2 : a[k] = b[k] := by simpa using h2
        rw [List.take_succ_eq_append_getElem hlt, List.take_succ_eq_append_getElem (by omega), ht, h2]
    · have : k = a.length := by have := dec_ge h; omega
      subst this
      rw [List.take_length] at ht
      rw [ht, he, List.take_length]
  intro (i : Int) (h : a = b)
  refine tr_vc hsp mixed _ _ ?_
  refine vcx (X := ((true, ()) = outSame (a, b, ()))) (by kernel_rfl) ?_
  show _ = (sameF a b, ())
  rw [sameF, decide_eq_true h]
noncomputable def spSame : Nat × Eng.Spec := (16, fnSpec [.sl (.int .u8), .sl (.int .u8)] [.val .bool] preSame outSame)
end Go.Proofs.YtoflhakneklimaaDoor.ref01
/- law11: its head. -/
namespace Go.Proofs.YtoflhakneklimaaDoor.xmd
set_option maxRecDepth 100000
open Go Go.Eng Go.RowKit Cr Go.Proofs.YtoflhakneklimaaDoor Go.Proofs.YtoflhakneklimaaDoor.sha
/-- The bytes by computation, of a short tag and one digest or less. -/
noncomputable def expC (msg tag : List Int) (n : Int) : List Int :=
  fl (digC (List.flatten [List.replicate 64 0, msg, [IntKind.u8.wrap (n.fdiv (2 ^ min (8 : Nat) IntKind.i64.bits)), IntKind.u8.wrap n, 0], tag, [IntKind.u8.wrap tag.length]])) fun d =>
  fl (itC (fun i w => itC (fun j w => sB d i j w) w 4) (List.replicate 8 0) 8) fun f =>
  fl (itC (oA (List.replicate 8 0)) f 8) fun o =>
  fl (itC (fun i d => itC (fun j d => bB o i j d) d 4) (List.replicate 32 0) 8) fun y =>
  fl (digC (List.flatten [y, [1], tag, [IntKind.u8.wrap tag.length]])) fun z => z.take n.toNat
theorem expC_eq {msg tag : List Int} {n : Int} (ht : tag.length ≤ 255) (h0 : 0 < n) (h1 : n ≤ 32) : expC msg tag n = expo msg tag n := by
  have hs : ∀ d, it (fun i w => itC (fun j w => sB d i j w) w 4) (List.replicate 8 0) 8 = sAk d 8 := fun d => it_congr _ 8 (fun i _ w => by rw [itC_eq]; rfl)
  have hb : ∀ o, it (fun i d => itC (fun j d => bB o i j d) d 4) (List.replicate 32 0) 8 = bAk o 8 := fun o => it_congr _ 8 (fun i _ w => by rw [itC_eq]; rfl)
  rw [expo, opq_eq, expF, tagF, decide_eq_false (by omega), show (n.toNat + 31) / 32 = 1 by omega]
  show expC msg tag n = List.take n.toNat ([] ++ nxD (fstF msg tag n) tag 0 (List.replicate 8 0))
  rw [expC]
  simp only [fl_eq]
  rw [itC_eq, itC_eq, itC_eq, hs, hb, digC_eq, digC_eq, List.nil_append, nxD, byt, opq_eq, ovr, opq_eq, fstF, spl, opq_eq, endF]
  rfl
def quux : List Int := [81, 85, 85, 88, 45, 86, 48, 49, 45, 67, 83, 48, 50, 45, 119, 105, 116, 104, 45, 101, 120, 112, 97, 110, 100, 101, 114, 45, 83, 72, 65, 50, 53, 54, 45, 49, 50, 56]
theorem head_bytes : (let l := expC [] quux 32; l.getD 0 0 == 104 && l.getD 1 0 == 169 && l.getD 31 0 == 53) = true := by kernel_rfl
theorem head_at : (expo [] quux 32).getD 0 0 = 104 ∧ (expo [] quux 32).getD 1 0 = 169 ∧ (expo [] quux 32).getD 31 0 = 53 := by
  have h := head_bytes
  rw [expC_eq (by decide) (by decide) (by decide)] at h
  simp only [Bool.and_eq_true, beq_iff_eq] at h
  exact ⟨h.1.1, h.1.2, h.2⟩
end Go.Proofs.YtoflhakneklimaaDoor.xmd
/- law11: XmdApart. -/
namespace Go.Proofs.YtoflhakneklimaaDoor.law11
set_option maxRecDepth 100000
open Go Go.Eng Go.RowKit Cr Go.Proofs.YtoflhakneklimaaDoor.sha Go.Proofs.YtoflhakneklimaaDoor.xmd Go.Proofs.YtoflhakneklimaaDoor.ref01 Go.Proofs.YtoflhakneklimaaDoor
theorem fn_expo : FnOk Tryd.prog 15 [bsl, bsl, .int .i64] [.own bK, .val (.int .i64)] shaG (fun (m, t, n, _) => preEx (m, t, n, ()) ∧ (0 : Int) ≤ n ∧ n ≤ (8160 : Int)) (fun (m, t, n, _) => (expo m t n, 0, ())) := by
  refine fn_expand.weaken ?_
  rintro ⟨m, t, n, ⟨⟩⟩ _ ⟨h, h0, h1⟩
  have h0 : (0 : Int) ≤ n := h0
  have h1 : n ≤ (8160 : Int) := h1
  refine ⟨h, ?_⟩
  show ((exA m t n).1, (exA m t n).2, ()) = (expo m t n, 0, ())
  rw [exA, decide_eq_false (Int.not_lt.2 h0), decide_eq_false (Int.not_lt.2 h1)]; rfl
noncomputable def spExpo : Nat × Eng.Spec := (15, fnSpecG shaG [bsl, bsl, .int .i64] [.own bK, .val (.int .i64)] (fun (m, t, n, _) => preEx (m, t, n, ()) ∧ (0 : Int) ≤ n ∧ n ≤ (8160 : Int)) (fun (m, t, n, _) => (expo m t n, 0, ())))
theorem ent_head : enters Tryd.prog 12 Tryd.f12 := enters_mk (by kernel_rfl) (by kernel_rfl) (by kernel_rfl)
theorem fn_head : FnOk Tryd.prog 12 [] [.val .bool] shaG (fun _ => True) (fun _ => (true, ())) := by
  refine fn_of_vc (sp := sps [spExpo]) (sps_cons (fnSpecG_ok fn_expo) sps_nil) mixed ent_head (by decide) (by decide) ?_
  rintro w M0 ⟨⟩ _ _
  refine vcx (X := ((∀ (g : Nat) (s : Sigma Car), shaG g = some s → Decidable.rec (fun h => (fun x => if g = (1 : Nat) then some ⟨Kd.arr (64 : Nat) uK, rootsL⟩ else none) h) (fun h => (fun x => some ⟨Kd.arr (8 : Nat) uK, firstL⟩) h) (instDecidableEqNat g (0 : Nat)) = some s) ∧ (0 : Nat) + (nat_lit 37 + (1 : Nat)) ≤ (38 : Nat) ∧ (preEx ([], List.take (nat_lit 37 + (1 : Nat)) [(81 : Int), (85 : Int), (85 : Int), (88 : Int), (45 : Int), (86 : Int), (48 : Int), (49 : Int), (45 : Int), (67 : Int), (83 : Int), (48 : Int), (50 : Int), (45 : Int), (119 : Int), (105 : Int), (116 : Int), (104 : Int), (45 : Int), (101 : Int), (120 : Int), (112 : Int), (97 : Int), (110 : Int), (100 : Int), (101 : Int), (114 : Int), (45 : Int), (83 : Int), (72 : Int), (65 : Int), (50 : Int), (53 : Int), (54 : Int), (45 : Int), (49 : Int), (50 : Int), (56 : Int)], (32 : Int), ()) ∧ (0 : Int) ≤ (32 : Int) ∧ (32 : Int) ≤ (8160 : Int)) ∧ (((0 : Int) == (0 : Int)) = true → (((↑(expo [] (List.take (nat_lit 37 + (1 : Nat)) [(81 : Int), (85 : Int), (85 : Int), (88 : Int), (45 : Int), (86 : Int), (48 : Int), (49 : Int), (45 : Int), (67 : Int), (83 : Int), (48 : Int), (50 : Int), (45 : Int), (119 : Int), (105 : Int), (116 : Int), (104 : Int), (45 : Int), (101 : Int), (120 : Int), (112 : Int), (97 : Int), (110 : Int), (100 : Int), (101 : Int), (114 : Int), (45 : Int), (83 : Int), (72 : Int), (65 : Int), (50 : Int), (53 : Int), (54 : Int), (45 : Int), (49 : Int), (50 : Int), (56 : Int)]) (32 : Int)).length : Int) == (32 : Int)) = true → ((0 : Int) ≤ (0 : Int) ∧ (0 : Int) < (↑(expo [] (List.take (nat_lit 37 + (1 : Nat)) [(81 : Int), (85 : Int), (85 : Int), (88 : Int), (45 : Int), (86 : Int), (48 : Int), (49 : Int), (45 : Int), (67 : Int), (83 : Int), (48 : Int), (50 : Int), (45 : Int), (119 : Int), (105 : Int), (116 : Int), (104 : Int), (45 : Int), (101 : Int), (120 : Int), (112 : Int), (97 : Int), (110 : Int), (100 : Int), (101 : Int), (114 : Int), (45 : Int), (83 : Int), (72 : Int), (65 : Int), (50 : Int), (53 : Int), (54 : Int), (45 : Int), (49 : Int), (50 : Int), (56 : Int)]) (32 : Int)).length : Int)) ∧ (0 : Nat) < (expo [] (List.take (nat_lit 37 + (1 : Nat)) [(81 : Int), (85 : Int), (85 : Int), (88 : Int), (45 : Int), (86 : Int), (48 : Int), (49 : Int), (45 : Int), (67 : Int), (83 : Int), (48 : Int), (50 : Int), (45 : Int), (119 : Int), (105 : Int), (116 : Int), (104 : Int), (45 : Int), (101 : Int), (120 : Int), (112 : Int), (97 : Int), (110 : Int), (100 : Int), (101 : Int), (114 : Int), (45 : Int), (83 : Int), (72 : Int), (65 : Int), (50 : Int), (53 : Int), (54 : Int), (45 : Int), (49 : Int), (50 : Int), (56 : Int)]) (32 : Int)).length ∧ (((expo [] (List.take (nat_lit 37 + (1 : Nat)) [(81 : Int), (85 : Int), (85 : Int), (88 : Int), (45 : Int), (86 : Int), (48 : Int), (49 : Int), (45 : Int), (67 : Int), (83 : Int), (48 : Int), (50 : Int), (45 : Int), (119 : Int), (105 : Int), (116 : Int), (104 : Int), (45 : Int), (101 : Int), (120 : Int), (112 : Int), (97 : Int), (110 : Int), (100 : Int), (101 : Int), (114 : Int), (45 : Int), (83 : Int), (72 : Int), (65 : Int), (50 : Int), (53 : Int), (54 : Int), (45 : Int), (49 : Int), (50 : Int), (56 : Int)]) (32 : Int)).getD (0 : Nat) (0 : Int) == (104 : Int)) = true → ((0 : Int) ≤ (1 : Int) ∧ (1 : Int) < (↑(expo [] (List.take (nat_lit 37 + (1 : Nat)) [(81 : Int), (85 : Int), (85 : Int), (88 : Int), (45 : Int), (86 : Int), (48 : Int), (49 : Int), (45 : Int), (67 : Int), (83 : Int), (48 : Int), (50 : Int), (45 : Int), (119 : Int), (105 : Int), (116 : Int), (104 : Int), (45 : Int), (101 : Int), (120 : Int), (112 : Int), (97 : Int), (110 : Int), (100 : Int), (101 : Int), (114 : Int), (45 : Int), (83 : Int), (72 : Int), (65 : Int), (50 : Int), (53 : Int), (54 : Int), (45 : Int), (49 : Int), (50 : Int), (56 : Int)]) (32 : Int)).length : Int)) ∧ (1 : Nat) < (expo [] (List.take (nat_lit 37 + (1 : Nat)) [(81 : Int), (85 : Int), (85 : Int), (88 : Int), (45 : Int), (86 : Int), (48 : Int), (49 : Int), (45 : Int), (67 : Int), (83 : Int), (48 : Int), (50 : Int), (45 : Int), (119 : Int), (105 : Int), (116 : Int), (104 : Int), (45 : Int), (101 : Int), (120 : Int), (112 : Int), (97 : Int), (110 : Int), (100 : Int), (101 : Int), (114 : Int), (45 : Int), (83 : Int), (72 : Int), (65 : Int), (50 : Int), (53 : Int), (54 : Int), (45 : Int), (49 : Int), (50 : Int), (56 : Int)]) (32 : Int)).length ∧ (((expo [] (List.take (nat_lit 37 + (1 : Nat)) [(81 : Int), (85 : Int), (85 : Int), (88 : Int), (45 : Int), (86 : Int), (48 : Int), (49 : Int), (45 : Int), (67 : Int), (83 : Int), (48 : Int), (50 : Int), (45 : Int), (119 : Int), (105 : Int), (116 : Int), (104 : Int), (45 : Int), (101 : Int), (120 : Int), (112 : Int), (97 : Int), (110 : Int), (100 : Int), (101 : Int), (114 : Int), (45 : Int), (83 : Int), (72 : Int), (65 : Int), (50 : Int), (53 : Int), (54 : Int), (45 : Int), (49 : Int), (50 : Int), (56 : Int)]) (32 : Int)).getD (1 : Nat) (0 : Int) == (169 : Int)) = true → ((0 : Int) ≤ (31 : Int) ∧ (31 : Int) < (↑(expo [] (List.take (nat_lit 37 + (1 : Nat)) [(81 : Int), (85 : Int), (85 : Int), (88 : Int), (45 : Int), (86 : Int), (48 : Int), (49 : Int), (45 : Int), (67 : Int), (83 : Int), (48 : Int), (50 : Int), (45 : Int), (119 : Int), (105 : Int), (116 : Int), (104 : Int), (45 : Int), (101 : Int), (120 : Int), (112 : Int), (97 : Int), (110 : Int), (100 : Int), (101 : Int), (114 : Int), (45 : Int), (83 : Int), (72 : Int), (65 : Int), (50 : Int), (53 : Int), (54 : Int), (45 : Int), (49 : Int), (50 : Int), (56 : Int)]) (32 : Int)).length : Int)) ∧ (31 : Nat) < (expo [] (List.take (nat_lit 37 + (1 : Nat)) [(81 : Int), (85 : Int), (85 : Int), (88 : Int), (45 : Int), (86 : Int), (48 : Int), (49 : Int), (45 : Int), (67 : Int), (83 : Int), (48 : Int), (50 : Int), (45 : Int), (119 : Int), (105 : Int), (116 : Int), (104 : Int), (45 : Int), (101 : Int), (120 : Int), (112 : Int), (97 : Int), (110 : Int), (100 : Int), (101 : Int), (114 : Int), (45 : Int), (83 : Int), (72 : Int), (65 : Int), (50 : Int), (53 : Int), (54 : Int), (45 : Int), (49 : Int), (50 : Int), (56 : Int)]) (32 : Int)).length ∧ ((expo [] (List.take (nat_lit 37 + (1 : Nat)) [(81 : Int), (85 : Int), (85 : Int), (88 : Int), (45 : Int), (86 : Int), (48 : Int), (49 : Int), (45 : Int), (67 : Int), (83 : Int), (48 : Int), (50 : Int), (45 : Int), (119 : Int), (105 : Int), (116 : Int), (104 : Int), (45 : Int), (101 : Int), (120 : Int), (112 : Int), (97 : Int), (110 : Int), (100 : Int), (101 : Int), (114 : Int), (45 : Int), (83 : Int), (72 : Int), (65 : Int), (50 : Int), (53 : Int), (54 : Int), (45 : Int), (49 : Int), (50 : Int), (56 : Int)]) (32 : Int)).getD (31 : Nat) (0 : Int) == (53 : Int), ()) = (true, ())) ∧ (((expo [] (List.take (nat_lit 37 + (1 : Nat)) [(81 : Int), (85 : Int), (85 : Int), (88 : Int), (45 : Int), (86 : Int), (48 : Int), (49 : Int), (45 : Int), (67 : Int), (83 : Int), (48 : Int), (50 : Int), (45 : Int), (119 : Int), (105 : Int), (116 : Int), (104 : Int), (45 : Int), (101 : Int), (120 : Int), (112 : Int), (97 : Int), (110 : Int), (100 : Int), (101 : Int), (114 : Int), (45 : Int), (83 : Int), (72 : Int), (65 : Int), (50 : Int), (53 : Int), (54 : Int), (45 : Int), (49 : Int), (50 : Int), (56 : Int)]) (32 : Int)).getD (1 : Nat) (0 : Int) == (169 : Int)) = false → (false, ()) = (true, ()))) ∧ (((expo [] (List.take (nat_lit 37 + (1 : Nat)) [(81 : Int), (85 : Int), (85 : Int), (88 : Int), (45 : Int), (86 : Int), (48 : Int), (49 : Int), (45 : Int), (67 : Int), (83 : Int), (48 : Int), (50 : Int), (45 : Int), (119 : Int), (105 : Int), (116 : Int), (104 : Int), (45 : Int), (101 : Int), (120 : Int), (112 : Int), (97 : Int), (110 : Int), (100 : Int), (101 : Int), (114 : Int), (45 : Int), (83 : Int), (72 : Int), (65 : Int), (50 : Int), (53 : Int), (54 : Int), (45 : Int), (49 : Int), (50 : Int), (56 : Int)]) (32 : Int)).getD (0 : Nat) (0 : Int) == (104 : Int)) = false → (false, ()) = (true, ()))) ∧ (((↑(expo [] (List.take (nat_lit 37 + (1 : Nat)) [(81 : Int), (85 : Int), (85 : Int), (88 : Int), (45 : Int), (86 : Int), (48 : Int), (49 : Int), (45 : Int), (67 : Int), (83 : Int), (48 : Int), (50 : Int), (45 : Int), (119 : Int), (105 : Int), (116 : Int), (104 : Int), (45 : Int), (101 : Int), (120 : Int), (112 : Int), (97 : Int), (110 : Int), (100 : Int), (101 : Int), (114 : Int), (45 : Int), (83 : Int), (72 : Int), (65 : Int), (50 : Int), (53 : Int), (54 : Int), (45 : Int), (49 : Int), (50 : Int), (56 : Int)]) (32 : Int)).length : Int) == (32 : Int)) = false → (false, ()) = (true, ()))) ∧ (((0 : Int) == (0 : Int)) = false → (false, ()) = (true, ())))) (by kernel_rfl) ?_
  obtain ⟨E, hE⟩ : ∃ E, E = expo [] quux 32 := ⟨_, rfl⟩
  have hl : E.length = 32 := by rw [hE, expo_len]; rfl
  obtain ⟨h1, h2, h3⟩ := head_at
  rw [← hE] at h1 h2 h3
  have hq : List.take 38 [81, 85, 85, 88, 45, 86, 48, 49, 45, 67, 83, 48, 50, 45, 119, 105, 116, 104, 45, 101, 120, 112, 97, 110, 100, 101, 114, 45, 83, 72, 65, 50, 53, 54, 45, 49, 50, 56] = quux := rfl
  refine ⟨fun _ _ h => h, by decide, ⟨⟨by decide, by decide⟩, by decide, by decide⟩, ?_⟩
  rw [show (37 + 1 : Nat) = 38 from rfl, hq, ← hE, hl, h1, h2, h3]
  simp
noncomputable def spHead : Nat × Eng.Spec := (12, fnSpecG shaG [] [.val .bool] (fun _ => True) (fun _ => (true, ())))
theorem ent_apart : enters Tryd.prog 4 Tryd.f4 := enters_mk (by kernel_rfl) (by kernel_rfl) (by kernel_rfl)
abbrev preApart : HL [bsl, bsl, bsl, bsl, .int .i64, .int .i64] → Prop := fun (a, b, s, t, _, _, _) => List.length a ≤ 1125899906842624 ∧ List.length b ≤ 1125899906842624 ∧ List.length s ≤ 1125899906842624 ∧ List.length t ≤ 1125899906842624
theorem fn_apart : FnOk Tryd.prog 4 [bsl, bsl, bsl, bsl, .int .i64, .int .i64] [.val .bool] shaG preApart (fun _ => (true, ())) := by
  refine fn_of_vc (sp := sps [spHead, spCopy, spExpo, spSame]) (sps_cons (fnSpecG_ok fn_head) (sps_cons (fnSpec_ok fn_copy) (sps_cons (fnSpecG_ok fn_expo) (sps_cons (fnSpec_ok fn_same) sps_nil)))) mixed ent_apart (by decide) (by decide) ?_
  rintro w M0 ⟨a, b, s, t, n, m, ⟨⟩⟩
  revert a b s t n m
  intro (a : List Int) (b : List Int) (s : List Int) (t : List Int) (n : Int) (m : Int) _ hp
  obtain ⟨ha, hb, hs, ht⟩ := hp
  have ha : a.length ≤ 1125899906842624 := ha
  have hb : b.length ≤ 1125899906842624 := hb
  have hs : s.length ≤ 1125899906842624 := hs
  have ht : t.length ≤ 1125899906842624 := ht
  refine vcx (X := ((∀ (g : Nat) (s : Sigma Car), shaG g = some s → Decidable.rec (fun h => (fun x => if g = (1 : Nat) then some ⟨Kd.arr (64 : Nat) uK, rootsL⟩ else none) h) (fun h => (fun x => some ⟨Kd.arr (8 : Nat) uK, firstL⟩) h) (instDecidableEqNat g (0 : Nat)) = some s) ∧ True ∧ ((!true) = true → (false, ()) = (true, ())) ∧ ((!true) = false → (decide (IntKind.i64.wrap (IntKind.i64.wrap (IntKind.i64.wrap ((↑a.length : Int) + (↑b.length : Int)) + (↑s.length : Int)) + (↑t.length : Int)) > (4096 : Int)) = true → (true, ()) = (true, ())) ∧ (decide (IntKind.i64.wrap (IntKind.i64.wrap (IntKind.i64.wrap ((↑a.length : Int) + (↑b.length : Int)) + (↑s.length : Int)) + (↑t.length : Int)) > (4096 : Int)) = false → preCopy (a, ()) ∧ preCopy (s, ()) ∧ (∀ (g : Nat) (s : Sigma Car), shaG g = some s → Decidable.rec (fun h => (fun x => if g = (1 : Nat) then some ⟨Kd.arr (64 : Nat) uK, rootsL⟩ else none) h) (fun h => (fun x => some ⟨Kd.arr (8 : Nat) uK, firstL⟩) h) (instDecidableEqNat g (0 : Nat)) = some s) ∧ (0 : Nat) + a.length ≤ a.length ∧ (0 : Nat) + s.length ≤ s.length ∧ (preEx (List.take a.length a, List.take s.length s, IntKind.i64.wrap ((32 : Int) + bitOp BinOp.and IntKind.i64 n (63 : Int)), ()) ∧ (0 : Int) ≤ IntKind.i64.wrap ((32 : Int) + bitOp BinOp.and IntKind.i64 n (63 : Int)) ∧ IntKind.i64.wrap ((32 : Int) + bitOp BinOp.and IntKind.i64 n (63 : Int)) ≤ (8160 : Int)) ∧ preCopy (b, ()) ∧ preCopy (t, ()) ∧ (∀ (g : Nat) (s : Sigma Car), shaG g = some s → Decidable.rec (fun h => (fun x => if g = (1 : Nat) then some ⟨Kd.arr (64 : Nat) uK, rootsL⟩ else none) h) (fun h => (fun x => some ⟨Kd.arr (8 : Nat) uK, firstL⟩) h) (instDecidableEqNat g (0 : Nat)) = some s) ∧ (0 : Nat) + b.length ≤ b.length ∧ (0 : Nat) + t.length ≤ t.length ∧ (preEx (List.take b.length b, List.take t.length t, IntKind.i64.wrap ((32 : Int) + bitOp BinOp.and IntKind.i64 m (63 : Int)), ()) ∧ (0 : Int) ≤ IntKind.i64.wrap ((32 : Int) + bitOp BinOp.and IntKind.i64 m (63 : Int)) ∧ IntKind.i64.wrap ((32 : Int) + bitOp BinOp.and IntKind.i64 m (63 : Int)) ≤ (8160 : Int)) ∧ (((0 : Int) != (0 : Int)) = true → (false, ()) = (true, ())) ∧ (((0 : Int) != (0 : Int)) = false → (((0 : Int) != (0 : Int)) = true → (false, ()) = (true, ())) ∧ (((0 : Int) != (0 : Int)) = false → (((↑(expo (List.take a.length a) (List.take s.length s) (IntKind.i64.wrap ((32 : Int) + bitOp BinOp.and IntKind.i64 n (63 : Int)))).length : Int) != IntKind.i64.wrap ((32 : Int) + bitOp BinOp.and IntKind.i64 n (63 : Int))) = true → (false, ()) = (true, ())) ∧ (((↑(expo (List.take a.length a) (List.take s.length s) (IntKind.i64.wrap ((32 : Int) + bitOp BinOp.and IntKind.i64 n (63 : Int)))).length : Int) != IntKind.i64.wrap ((32 : Int) + bitOp BinOp.and IntKind.i64 n (63 : Int))) = false → (((↑(expo (List.take b.length b) (List.take t.length t) (IntKind.i64.wrap ((32 : Int) + bitOp BinOp.and IntKind.i64 m (63 : Int)))).length : Int) != IntKind.i64.wrap ((32 : Int) + bitOp BinOp.and IntKind.i64 m (63 : Int))) = true → (false, ()) = (true, ())) ∧ (((↑(expo (List.take b.length b) (List.take t.length t) (IntKind.i64.wrap ((32 : Int) + bitOp BinOp.and IntKind.i64 m (63 : Int)))).length : Int) != IntKind.i64.wrap ((32 : Int) + bitOp BinOp.and IntKind.i64 m (63 : Int))) = false → preSame (a, b, ()) ∧ ((!sameF a b) = true → (true, ()) = (true, ())) ∧ ((!sameF a b) = false → preSame (s, t, ()) ∧ ((!sameF s t) = true → (true, ()) = (true, ())) ∧ ((!sameF s t) = false → ((IntKind.i64.wrap ((32 : Int) + bitOp BinOp.and IntKind.i64 n (63 : Int)) != IntKind.i64.wrap ((32 : Int) + bitOp BinOp.and IntKind.i64 m (63 : Int))) = true → (true, ()) = (true, ())) ∧ ((IntKind.i64.wrap ((32 : Int) + bitOp BinOp.and IntKind.i64 n (63 : Int)) != IntKind.i64.wrap ((32 : Int) + bitOp BinOp.and IntKind.i64 m (63 : Int))) = false → (0 : Nat) + (expo (List.take a.length a) (List.take s.length s) (IntKind.i64.wrap ((32 : Int) + bitOp BinOp.and IntKind.i64 n (63 : Int)))).length ≤ (expo (List.take a.length a) (List.take s.length s) (IntKind.i64.wrap ((32 : Int) + bitOp BinOp.and IntKind.i64 n (63 : Int)))).length ∧ (0 : Nat) + (expo (List.take b.length b) (List.take t.length t) (IntKind.i64.wrap ((32 : Int) + bitOp BinOp.and IntKind.i64 m (63 : Int)))).length ≤ (expo (List.take b.length b) (List.take t.length t) (IntKind.i64.wrap ((32 : Int) + bitOp BinOp.and IntKind.i64 m (63 : Int)))).length ∧ preSame (List.take (expo (List.take a.length a) (List.take s.length s) (IntKind.i64.wrap ((32 : Int) + bitOp BinOp.and IntKind.i64 n (63 : Int)))).length (expo (List.take a.length a) (List.take s.length s) (IntKind.i64.wrap ((32 : Int) + bitOp BinOp.and IntKind.i64 n (63 : Int)))), List.take (expo (List.take b.length b) (List.take t.length t) (IntKind.i64.wrap ((32 : Int) + bitOp BinOp.and IntKind.i64 m (63 : Int)))).length (expo (List.take b.length b) (List.take t.length t) (IntKind.i64.wrap ((32 : Int) + bitOp BinOp.and IntKind.i64 m (63 : Int)))), ()) ∧ (sameF (List.take (expo (List.take a.length a) (List.take s.length s) (IntKind.i64.wrap ((32 : Int) + bitOp BinOp.and IntKind.i64 n (63 : Int)))).length (expo (List.take a.length a) (List.take s.length s) (IntKind.i64.wrap ((32 : Int) + bitOp BinOp.and IntKind.i64 n (63 : Int))))) (List.take (expo (List.take b.length b) (List.take t.length t) (IntKind.i64.wrap ((32 : Int) + bitOp BinOp.and IntKind.i64 m (63 : Int)))).length (expo (List.take b.length b) (List.take t.length t) (IntKind.i64.wrap ((32 : Int) + bitOp BinOp.and IntKind.i64 m (63 : Int))))), ()) = (true, ())))))))))))) (by kernel_rfl) ?_
  have hand : ∀ x : Int, 0 ≤ bitOp .and .i64 x 63 ∧ bitOp .and .i64 x 63 ≤ 63 := by
    intro x
    have h : (BitVec.ofInt IntKind.i64.bits x &&& BitVec.ofInt IntKind.i64.bits 63).toNat ≤ 63 := by
      rw [BitVec.toNat_and]
      exact Nat.le_trans Nat.and_le_right (by decide)
    show 0 ≤ IntKind.i64.wrap ((BitVec.ofInt IntKind.i64.bits x &&& BitVec.ofInt IntKind.i64.bits 63).toNat : Int) ∧ IntKind.i64.wrap ((BitVec.ofInt IntKind.i64.bits x &&& BitVec.ofInt IntKind.i64.bits 63).toNat : Int) ≤ 63
    generalize (BitVec.ofInt IntKind.i64.bits x &&& BitVec.ofInt IntKind.i64.bits 63).toNat = k at h
    rw [wrap_i64' (by omega) (by omega)]; omega
  have hn := hand n
  have hm := hand m
  generalize bitOp .and .i64 n 63 = n0 at *
  generalize bitOp .and .i64 m 63 = m0 at *
  have e1 : IntKind.i64.wrap (32 + n0) = 32 + n0 := wrap_i64' (by omega) (by omega)
  have e2 : IntKind.i64.wrap (32 + m0) = 32 + m0 := wrap_i64' (by omega) (by omega)
  have e3 : IntKind.i64.wrap (IntKind.i64.wrap (IntKind.i64.wrap ((a.length : Int) + (b.length : Int)) + (s.length : Int)) + (t.length : Int)) = (a.length : Int) + b.length + s.length + t.length := by
    rw [wrap_i64' (a := (a.length : Int) + b.length) (by omega) (by omega), wrap_i64' (a := (a.length : Int) + b.length + s.length) (by omega) (by omega), wrap_i64' (by omega) (by omega)]
  rw [e1, e2, e3]
  rw [List.take_length, List.take_length, List.take_length, List.take_length, List.take_length, List.take_length]
  have k1 := expo_len a s (32 + n0)
  have k2 := expo_len b t (32 + m0)
  refine ⟨fun _ _ h => h, trivial, (fun h => by cases h), fun _ => ⟨fun _ => rfl, fun hle => ?_⟩⟩
  have hle := of_decide_eq_false hle
  have pa : preCopy (a, ()) := by show a.length ≤ _; omega
  have pb : preCopy (b, ()) := by show b.length ≤ _; omega
  have ps : preCopy (s, ()) := by show s.length ≤ _; omega
  have pt : preCopy (t, ()) := by show t.length ≤ _; omega
  refine ⟨pa, ps, fun _ _ h => h, by omega, by omega, ⟨⟨by show a.length ≤ _; omega, by show s.length ≤ _; omega⟩, by omega, by omega⟩, pb, pt, fun _ _ h => h, by omega, by omega, ⟨⟨by show b.length ≤ _; omega, by show t.length ≤ _; omega⟩, by omega, by omega⟩,
    (fun h => by simp at h), fun _ => ⟨(fun h => by simp at h), fun _ => ⟨fun h => ?_, fun _ => ⟨fun h => ?_, fun _ => ⟨by show a.length < _; omega, fun _ => rfl, fun hab => ⟨by show s.length < _; omega, fun _ => rfl, fun hst => ⟨fun _ => rfl, fun hnm => ⟨by omega, by omega, by show (expo a s (32 + n0)).length < _; omega, ?_⟩⟩⟩⟩⟩⟩⟩⟩
  · exfalso
    rw [k1] at h
    simp at h
    omega
  · exfalso
    rw [k2] at h
    simp at h
    omega
  · have eab : a = b := by simpa [sameF] using hab
    have est : s = t := by simpa [sameF] using hst
    have enm : 32 + n0 = 32 + m0 := by simpa using hnm
    rw [eab, est, enm, sameF, decide_eq_true rfl]
theorem fn_apart2 : FnOk Tryd.prog 4 [bsl, bsl, bsl, bsl, .int .i64, .int .i64] [.val .bool] shaG (fun (a, b, s, t, n, m, _) => preB a ∧ preB b ∧ preB s ∧ preB t ∧ preI n ∧ preI m) (fun _ => (true, ())) := by
  refine fn_apart.weaken ?_
  rintro ⟨a, b, s, t, n, m, ⟨⟩⟩ _ ⟨h1, h2, h3, h4, _, _⟩
  exact ⟨⟨Nat.le_trans h1.2 (by decide), Nat.le_trans h2.2 (by decide), Nat.le_trans h3.2 (by decide), Nat.le_trans h4.2 (by decide)⟩, rfl⟩
end Go.Proofs.YtoflhakneklimaaDoor.law11
/- From a contract to a law's row where package variables read as listed. -/
namespace Go.Eng
open Go Go.RowKit Cr Go.ChangeShapes Go.WideShapes Go.ChangeAt
/-- An array of integers that reads as these. -/
theorem laid_ints {P : Program} {t e : TypeId} {n : Nat} {k : IntKind} {H : Type} {enc : TypeId × Value → H} {W : World} {fl : Bool} {fuel : Nat} {cs : List Value} {p : List MemPlace} {xs : List Int} (ht : P.underlying t = some (.array n e)) (he : P.underlying e = some (.int k)) (hce : P.cellsOf e = 1) (hct : P.cellsOf t = n)
    (h : DataW.trod enc P W 0 (fun _ => true) fl fuel t cs = some (.agg (xs.map fun x => .lit (.int k x)), p)) : cs = xs.map (Value.int k) := by
  obtain ⟨ys, m, rfl, hx, hlen, hn, hel⟩ := DataW.trod_array ht h
  simp only [Prod.mk.injEq, DataW.agg.injEq] at hx
  obtain ⟨hx, _⟩ := hx
  have hxl : xs.length = n := by
    have := congrArg List.length hx
    simpa [hn] using this
  refine List.ext_getElem (by rw [hlen, hct, List.length_map, hxl]) fun i h1 h2 => ?_
  have hin : i < n := by rw [hlen, hct] at h1; exact h1
  have h3 := hel i hin
  rw [hce, Nat.mul_one, List.getElem?_eq_getElem (by omega)] at h3
  obtain ⟨z, e1, e2, _⟩ := DataW.trod_int he h3
  have e3 : (cs.drop i).take 1 = [cs[i]] := by rw [List.drop_eq_getElem_cons h1]; rfl
  rw [e3] at e1
  simp only [List.cons.injEq, and_true] at e1
  have h4 : (xs.map fun x => (DataW.lit (.int k x) : DataW H))[i]? = (ys.map (·.1))[i]? := by rw [hx]
  rw [List.getElem?_map, List.getElem?_map, List.getElem?_eq_getElem (by omega), List.getElem?_eq_getElem (by omega)] at h4
  simp only [Option.map_some, Option.some.injEq] at h4
  rw [e2] at h4
  simp only [DataW.lit.injEq, Lit.int.injEq, true_and] at h4
  rw [e1, List.getElem_map, h4]
/-- What a listed table is in memory. -/
theorem laid_row {P : Program} {W : World} {nm : String} {g n : Nat} {k : IntKind} {cs : Array Value} {xs : List Int} (hg : P.globalNamed nm = some g) (hv : W.var? P nm = some cs) (hcs : cs.toList = xs.map (Value.int k)) (hx : xs.length = n) : RowAt (Rd (memOf W) (.arr n (.int k))) (width (.arr n (.int k))) (memOf W) g 0 [xs] := by
  have hh : ∃ el fr, W.heap[g]? = some (.cells cs el fr) := by
    simp only [World.var?, hg, Option.bind_some] at hv
    split at hv
    · rename_i c el fr hh
      simp only [Option.some.injEq] at hv
      subst hv
      exact ⟨el, fr, hh⟩
    · cases hv
  obtain ⟨el, fr, hh⟩ := hh
  obtain ⟨l⟩ := cs
  have hcs : l = xs.map (Value.int k) := hcs
  refine ⟨l, memOf_blk hh, ?_, ?_⟩
  · simp [width, hcs, hx]
  · rw [List.drop_zero, List.take_of_length_le (by simp [width, hcs, hx])]
    exact RdL_one ⟨hx, RdL_int.2 hcs⟩
/-- A law: true; its arguments read as they did; package variables are what G says. -/
theorem law_rowG {C : Checked} {f : FuncId} {fn : Func} {s : ChangeSpec} {bt : TypeId} {ts : List TypeId} {ks : List Kd} {pre pre' : HL ks → Prop} {H : Type} {enc : TypeId × Value → H} {G : Glob}
    (he : enters C.prog f fn) (hf : FnOk C.prog f ks [.val .bool] G pre (fun _ => (true, ()))) (hl : laidOutB C.prog = true) (hts : fn.params.toList = ts) (hrs : fn.resultTypes = #[bt]) (hbt : C.prog.underlying bt = some .bool)
    (ho : OpnL C.prog ts ks pre') (hpre : ∀ xs, pre' xs → pre xs) (hv : s.vars = []) (hs : ∀ ds : List (DataW H), ds.length = ts.length → s.fn H ds = { results := [.lit (.bool true)], args := ds })
    (W : World) (hG : GlOk G (memOf W)) (base : Nat) (args : Array Value) (ds gs : List (DataW H)) (before : List MemPlace)
    (hok : ∀ (j : Nat) t v, fn.params[j]? = some t → args[j]? = some v → Value.okWide C.prog W .any base t v)
    (hW : DataW.Whole enc C.prog fn.params.toList s.vars false W args.toList ds gs before)
    (hsz : (DataW.weightsEach C.prog (fn.params.toList ++ s.plain.varTypes C.prog) (ds ++ gs)).all (· ≤ reachBytes) = true) :
    Calls C.prog f args W fun e W' => ∃ v, e = .returned v ∧ s.post enc C.prog fn false true false false W args v W' := by
  have hW' := hW
  have hlt : ∀ x ∈ before, x.block < W.heap.size := fun x hx => by simpa using hW'.lt x hx
  obtain ⟨p, q, hA, hV, rfl, hfz, hnd⟩ := hW
  rw [hv] at hV
  obtain ⟨rfl, rfl⟩ := trodVars_none hV
  rw [hts] at hA
  have hlen : ds.length = ts.length := by
    exact trodAll_len hA
  have hwt : ∀ n ∈ DataW.weightsEach C.prog ts ds, n ≤ reachBytes := by
    intro n hn
    have e : s.plain.varTypes C.prog = [] := by simp [DataSpec.varTypes, ChangeSpec.plain, hv]
    rw [e, hts, List.append_nil, List.append_nil, List.all_eq_true] at hsz
    simpa using hsz n hn
  obtain ⟨xs, hin, hp⟩ := opnL_open ho (enc := enc) (W := W) (base := base) (vs := args.toList) (ds := ds) (p := p) (fun j t v ht hj => hok j t v (by rw [← hts] at ht; simpa using ht) (by simpa using hj)) hA hwt
  have hc := hf W (memOf W) args.toList xs (fun b l h => h) hG hin (hpre xs hp)
  refine (callOk_calls he hc).mono ?_
  rintro e W' ⟨v, rfl, vs, ob, rfl, ⟨v, vs', rfl, hv1, rfl⟩, hb⟩
  have hv1 : v = .bool true := by have h : [v] = [Value.bool true] := hv1; simpa using h
  subst hv1
  refine ⟨_, rfl, ds, [], p ++ [], [], p, [], hW', ?_, ?_, ?_, ?_, fun h => by cases h⟩
  · rw [hrs, List.append_nil, hs ds hlen]
    exact trodAll_mk1 (shut_bool hbt true)
  · rw [hts, List.append_nil, hs ds hlen]
    exact opnL_stays hl ho hb hA (fun x hx => hlt x (by simpa using hx))
  · rw [hv, List.append_nil, hs ds hlen]
    rfl
  · exact hb.frame _
end Go.Eng
/- sha's tables as the card's rows list them. -/
namespace Go.Proofs.YtoflhakneklimaaDoor.sha
set_option maxRecDepth 100000
open Go Go.Eng Go.RowKit Cr Go.Proofs.YtoflhakneklimaaDoor
abbrev shaLaid : List (String × DataW Unit) := [("cresset/sha.first", Rows.laid_cresset_sha_first), ("cresset/sha.roots", Rows.laid_cresset_sha_roots)]
theorem gFirst : Tryd.prog.globalNamed "cresset/sha.first" = some 0 := by kernel_rfl
theorem gRoots : Tryd.prog.globalNamed "cresset/sha.roots" = some 1 := by kernel_rfl
theorem tFirst : (Tryd.prog.globals[0]?).map (·.type) = some 86 := by kernel_rfl
theorem tRoots : (Tryd.prog.globals[1]?).map (·.type) = some 221 := by kernel_rfl
/-- What the condition says of memory. -/
theorem sha_glob {W : World} (h : laidMetH Tryd.prog shaLaid W) : GlOk shaG (memOf W) := by
  rw [MakeChecks.laidMetH_plain _ _ _ (by kernel_rfl)] at h
  obtain ⟨ps, ⟨g0, t0, cs0, f0, p0, q0, hg0, ht0, hv0, hd0, ⟨g1, t1, cs1, f1, p1, q1, hg1, ht1, hv1, hd1, _, _⟩, _⟩, _, _⟩ := h
  obtain rfl := Option.some.inj (gFirst.symm.trans hg0)
  obtain rfl := Option.some.inj (gRoots.symm.trans hg1)
  obtain rfl := Option.some.inj (tFirst.symm.trans ht0)
  obtain rfl := Option.some.inj (tRoots.symm.trans ht1)
  have e0 : (Rows.laid_cresset_sha_first : DataW Unit) = .agg (firstL.map fun x => .lit (.int .u32 x)) := rfl
  have e1 : (Rows.laid_cresset_sha_roots : DataW Unit) = .agg (rootsL.map fun x => .lit (.int .u32 x)) := rfl
  rw [e0] at hd0
  rw [e1] at hd1
  have c0 := laid_ints (e := 85) (n := 8) (k := .u32) (by kernel_rfl) (by kernel_rfl) (by kernel_rfl) (by kernel_rfl) hd0
  have c1 := laid_ints (e := 85) (n := 64) (k := .u32) (by kernel_rfl) (by kernel_rfl) (by kernel_rfl) (by kernel_rfl) hd1
  have r0 := laid_row hg0 hv0 c0 (n := 8) rfl
  have r1 := laid_row hg1 hv1 c1 (n := 64) rfl
  intro g e x hx
  unfold shaG at hx
  split at hx
  · rename_i hg
    subst hg
    simp only [Option.some.injEq] at hx
    cases hx
    exact r0
  · split at hx
    · rename_i hg
      subst hg
      simp only [Option.some.injEq] at hx
      cases hx
      exact r1
    · cases hx
/-- The door's own heap meets the condition. -/
theorem door_met (os : Os) (args : Array Value) : laidMetH Tryd.prog shaLaid ((World.doorLaid Tryd.prog 400 os).forCall (fun _ _ => 0) ⟨#[], args, []⟩).memory :=
  laidMetH_of_parts3 (fuel := 8) (laidMet_of_run' 8 (by kernel_rfl) (by kernel_rfl)) (by kernel_rfl) (by kernel_rfl)
end Go.Proofs.YtoflhakneklimaaDoor.sha
namespace Go.Proofs.YtoflhakneklimaaDoor
set_option maxRecDepth 100000
open Go Go.Eng Go.RowKit Cr Go.ChangeShapes Go.WideShapes Go.ChangeAt

namespace xmdApart
theorem own : ownKnob Tryd.prog.godebug = none := by kernel_rfl
theorem laidOut : laidOutB Tryd.prog = true := by kernel_rfl
abbrev wtB : Car bsl → Prop := fun ys => List.length ys * Tryd.prog.bytesOf 5 ≤ reachBytes ∧ ∀ y ∈ ys, (Lit.int .u8 y).wf = true
theorem oB : OpnV Tryd.prog 22 bsl wtB := opnV_slice (e := 5) (by kernel_rfl) (by kernel_rfl) (by decide) (opnC_int (by kernel_rfl))
theorem bytes5 : Tryd.prog.bytesOf 5 = 1 := by kernel_rfl
theorem pB {xs : List Int} (h : wtB xs) : preB xs := by
  obtain ⟨h1, h2⟩ := h
  rw [bytes5] at h1
  refine ⟨fun x hx => ?_, ?_⟩
  · have := h2 x hx
    simp [Lit.wf, IntKind.min, IntKind.max, IntKind.signed, IntKind.bits] at this
    omega
  · show List.length xs ≤ _
    simp only [reachBytes] at h1
    omega
abbrev wtI : Car (.int .i64) → Prop := fun x => (Lit.int .i64 x).wf = true
theorem oI : OpnV Tryd.prog 3 (.int .i64) wtI := opnV_int (by kernel_rfl)
theorem pI {x : Int} (h : wtI x) : preI x := by
  have : (Lit.int .i64 x).wf = true := h
  simp [Lit.wf, IntKind.min, IntKind.max, IntKind.signed, IntKind.bits] at this
  exact ⟨by omega, by omega⟩
theorem opened : OpnL Tryd.prog [22, 22, 22, 22, 3, 3] [bsl, bsl, bsl, bsl, .int .i64, .int .i64] (fun x => wtB x.1 ∧ wtB x.2.1 ∧ wtB x.2.2.1 ∧ wtB x.2.2.2.1 ∧ wtI x.2.2.2.2.1 ∧ wtI x.2.2.2.2.2.1 ∧ True) :=
  .cons oB (by kernel_rfl) (of_decide_eq_true (by kernel_rfl)) (.cons oB (by kernel_rfl) (of_decide_eq_true (by kernel_rfl)) (.cons oB (by kernel_rfl) (of_decide_eq_true (by kernel_rfl)) (.cons oB (by kernel_rfl) (of_decide_eq_true (by kernel_rfl)) (.cons oI (by kernel_rfl) (of_decide_eq_true (by kernel_rfl)) (.cons oI (by kernel_rfl) (of_decide_eq_true (by kernel_rfl)) .nil)))))
theorem lifted (os : Os) (started : os.Started) (H : Type) (enc : TypeId × Value → H) :
    ReturnsInHanded {} Tryd.checked os 4 .any (fun w args => (Rows.xmdApartSpec.pre enc Tryd.prog Tryd.f4 Rows.xmdApartRow.domain false w args ∧ laidMetH Tryd.prog sha.shaLaid w) ∧ sizedMet enc Tryd.prog Tryd.f4 (OpenSpec.ofChange Rows.xmdApartSpec) false w args) (Rows.xmdApartSpec.post enc Tryd.prog Tryd.f4 false true false false) := by
  refine returnsInHanded_of_change_and (C := Tryd.checked) (X := fun w _ => laidMetH Tryd.prog sha.shaLaid w) (fun _ _ _ hh h => h.of_heap hh) own started (by kernel_rfl) Tryd.func4
    (ChangeSpec.witness_shaped (enc := enc) (C := Tryd.checked) (os := os) (X := fun w _ => laidMetH Tryd.prog sha.shaLaid w) false (World.doorLaid Tryd.prog 400 os) #[.slice none 0 0, .slice none 0 0, .slice none 0 0, .slice none 0 0, .int .i64 0, .int .i64 0] 8 rfl (World.shaped_of_RefB (by kernel_rfl) (by kernel_rfl)) (by kernel_rfl) (by kernel_rfl) (by kernel_rfl) (sha.door_met os _)) ?_
  intro W base args ds gs before hval hW _ hsz hL _
  refine law_rowG (C := Tryd.checked) (bt := 4) (ts := [22, 22, 22, 22, 3, 3]) law11.ent_apart law11.fn_apart2 laidOut (by kernel_rfl) (by kernel_rfl) (by kernel_rfl) opened ?_ rfl ?_ W (sha.sha_glob hL) base args ds gs before hval hW hsz
  · rintro ⟨x0, x1, x2, x3, x4, x5, ⟨⟩⟩ ⟨h0, h1, h2, h3, h4, h5, _⟩
    exact ⟨pB h0, pB h1, pB h2, pB h3, pI h4, pI h5⟩
  · intro ds hl
    match ds, hl with
    | [d0, d1, d2, d3, d4, d5], _ => rfl

theorem row : Rows.XmdApartSaid :=
  OpenClaim.holds_of_wide 4 Tryd.f4 rfl rfl rfl rfl rfl rfl rfl ⟨rfl, rfl, rfl, rfl, rfl⟩ rfl rfl rfl rfl rfl (by kernel_rfl) Tryd.func4 (by kernel_rfl)
    (of_decide_eq_true (by kernel_rfl)) (by unfold Func.isWrapper; first | (rw [if_pos (by decide +kernel)]; kernel_rfl) | (rw [if_neg (by decide +kernel)]; exact ⟨rfl, rfl⟩))
    (fun os started H enc _ => lifted os started H enc)
theorem wants : (Tryd.f4.params.toList.all fun u => !Tryd.prog.wantsStandIn u) = true := by kernel_rfl
/-- THE TIED CARD. -/
theorem proved : Rows.XmdApartCardSaid :=
  Claim7.holds_tied_plain_at .later [] [.data, .data] true (true, "596a4815904a4973aa2c23819e926d538836afa6a91293837e6f58bd5502c851") false
    row (fun _ h => by cases h) (by kernel_rfl) (fun _ h => by cases h) xmdApart_row_tie rfl ⟨rfl, rfl⟩ (by kernel_rfl) rfl
    (fun f fn hf hfn => by
      obtain rfl : f = 4 := Option.some.inj ((show Tryd.prog.funcNamed "cresset/cressetlaw11.XmdApart" = some 4 by kernel_rfl).symm.trans hf) |>.symm
      obtain rfl : fn = Tryd.f4 := (Option.some.inj (Tryd.func4.symm.trans hfn)).symm
      exact ⟨by kernel_rfl, fun j t ht => by
        have hm : t ∈ Tryd.f4.params.toList := by simpa using Array.mem_of_getElem? ht
        exact (show Tryd.prog.wantsStandIn t = false by simpa using List.all_eq_true.1 wants t hm)⟩)
    (by kernel_rfl)
#print axioms proved
end xmdApart
end Go.Proofs.YtoflhakneklimaaDoor
