/- law11: XmdApart. -/
import Derived.Test.YtbfimfdhmggieaaDoorML11nPU
/- What rows ask of their arguments. -/
namespace Go.Proofs.YtbfimfdhmggieaaDoor
open Go Go.Eng Cr
abbrev bsl : Kd := .sl (.int .u8)
/-- Bytes of an input. -/
abbrev preB (b : List Int) : Prop := Bs b ∧ List.length b ≤ 281474976710656
abbrev preI (x : Int) : Prop := -9223372036854775808 ≤ x ∧ x < 9223372036854775808
end Go.Proofs.YtbfimfdhmggieaaDoor
/- Helpers of laws. -/
namespace Go.Proofs.YtbfimfdhmggieaaDoor
open Go Go.Eng Cr
abbrev ok (b : Bool) : Prop := ((b, ()) : Bool × Unit) = (true, ())
end Go.Proofs.YtbfimfdhmggieaaDoor
/- The references' Same. -/
namespace Go.Proofs.YtbfimfdhmggieaaDoor.ref01
set_option maxRecDepth 100000
open Go Go.Eng Go.RowKit Cr Go.Proofs.YtbfimfdhmggieaaDoor
theorem ent_same : enters Tryd.prog 14 Tryd.f14 := enters_mk (by kernel_rfl) (by kernel_rfl) (by kernel_rfl)
abbrev preSame : HL [.sl (.int .u8), .sl (.int .u8)] → Prop := fun (a, _, _) => List.length a < 4611686018427387904
def sameF (a b : List Int) : Bool := decide (a = b)
abbrev outSame : HL [.sl (.int .u8), .sl (.int .u8)] → HO [.val .bool] := fun (a, b, _) => (sameF a b, ())
noncomputable def saI (a b : List Int) (g : Int) : St := mkSt Tryd.f14.ntmps 72 [(0, .is (.one (.ro (.int .u8) a))), (1, .is (.one (.ro (.int .u8) b))), (4, .is (.one .F)), (12, sI .i64 a.length), (13, sI .i64 g)] []
def saJ (a b : List Int) (g : Int) : Prop := ∃ k : Nat, k ≤ a.length ∧ g = (k : Int) ∧ a.take k = b.take k
theorem fn_same : FnOk Tryd.prog 14 [.sl (.int .u8), .sl (.int .u8)] [.val .bool] noG preSame outSame := by
  have hsp : SpecsOk Tryd.prog (sps []) := sps_nil
  refine fn_of_tr (sp := sps []) ent_same (by decide) (by decide) (by kernel_rfl) ?_
  rintro w M0 ⟨a, b, ⟨⟩⟩
  revert a b
  intro (a : List Int) (b : List Int) _ hl
  have hl : a.length < 4611686018427387904 := hl
  show Tr _ _ _ _ _ _ _
  refine tr_cut hsp mixed 4 (saI a b 0) (a.length = b.length) ?_ (fun he => ?_)
  · refine vcx (X := ((((↑a.length : Int) != (↑b.length : Int)) = true → (false, ()) = outSame (a, b, ())) ∧ (((↑a.length : Int) != (↑b.length : Int)) = false → (saI a b (0 : Int)).triv (a.length = b.length)))) (by kernel_rfl) ?_
    refine ⟨fun h => ?_, fun h => triv_intro (by simp at h; omega)⟩
    have h : ¬ a.length = b.length := by simp at h; omega
    show _ = (sameF a b, ())
    rw [sameF, decide_eq_false (fun e => h (by rw [e]))]
  refine tr_while hsp mixed noSw (fun σ => rdS (.int .i64) 13 σ) (saI a b) (saJ a b) (fun g => a.length - g.toNat)
    (fun σ => rdS (.int .i64) 13 σ) (saI a b) (fun _ => a = b) 0 (c := nthC (codeOf Tryd.f14) 4) (by kernel_rfl) (by kernel_rfl) (le_of_proj (by kernel_rfl) (by kernel_rfl) ?_) ?_ ?_
  · exact ⟨0, Nat.zero_le _, rfl, rfl⟩
  · intro (i : Int) ⟨k, hk, ei, ht⟩
    subst ei
    refine vcx (X := ((decide ((↑k : Int) < (↑a.length : Int)) = true → ((0 : Int) ≤ (↑k : Int) ∧ (↑k : Int) < (↑a.length : Int)) ∧ (↑k : Int).toNat < a.length ∧ ((0 : Int) ≤ (↑k : Int) ∧ (↑k : Int) < (↑b.length : Int)) ∧ (↑k : Int).toNat < b.length ∧ ((a.getD (↑k : Int).toNat (0 : Int) != b.getD (↑k : Int).toNat (0 : Int)) = true → (false, ()) = outSame (a, b, ())) ∧ ((a.getD (↑k : Int).toNat (0 : Int) != b.getD (↑k : Int).toNat (0 : Int)) = false → (saI a b (IntKind.i64.wrap ((↑k : Int) + (1 : Int)))).triv (saJ a b (IntKind.i64.wrap ((↑k : Int) + (1 : Int))) ∧ a.length - (IntKind.i64.wrap ((↑k : Int) + (1 : Int))).toNat < a.length - (↑k : Int).toNat))) ∧ (decide ((↑k : Int) < (↑a.length : Int)) = false → (saI a b (↑k : Int)).triv (a = b)))) (by kernel_rfl) ?_
    rw [Int.toNat_natCast]
    refine ⟨fun h => ?_, fun h => triv_intro ?_⟩
    · have hlt : k < a.length := by have := dec_lt h; omega
      have ga : a.getD k 0 = a[k] := by rw [List.getD_eq_getElem?_getD, List.getElem?_eq_getElem hlt, Option.getD_some]
      have gb : b.getD k 0 = b[k] := by rw [List.getD_eq_getElem?_getD, List.getElem?_eq_getElem (by omega), Option.getD_some]
      rw [wrap_succ (by omega), ga, gb]
      refine ⟨⟨by omega, by omega⟩, hlt, ⟨by omega, by omega⟩, by omega, fun h2 => ?_, fun h2 => triv_intro ⟨⟨k + 1, hlt, rfl, ?_⟩, by rw [Int.toNat_natCast]; omega⟩⟩
      · have h2 : a[k] ≠ b[k] := by simpa using h2
        show _ = (sameF a b, ())
        rw [sameF, decide_eq_false (fun e => h2 (by subst e; rfl))]
      · have h2 : a[k] = b[k] := by simpa using h2
        rw [List.take_succ_eq_append_getElem hlt, List.take_succ_eq_append_getElem (by omega), ht, h2]
    · have : k = a.length := by have := dec_ge h; omega
      subst this
      rw [List.take_length] at ht
      rw [ht, he, List.take_length]
  intro (i : Int) (h : a = b)
  refine tr_vc hsp mixed _ _ ?_
  refine vcx (X := ((true, ()) = outSame (a, b, ()))) (by kernel_rfl) ?_
  show _ = (sameF a b, ())
  rw [sameF, decide_eq_true h]
noncomputable def spSame : Nat × Eng.Spec := (14, fnSpec [.sl (.int .u8), .sl (.int .u8)] [.val .bool] preSame outSame)
end Go.Proofs.YtbfimfdhmggieaaDoor.ref01
/- law11: its head. -/
namespace Go.Proofs.YtbfimfdhmggieaaDoor.xmd
set_option maxRecDepth 100000
open Go Go.Eng Go.RowKit Cr Go.Proofs.YtbfimfdhmggieaaDoor Go.Proofs.YtbfimfdhmggieaaDoor.sha
/-- The bytes by computation, of a short tag and one digest or less. -/
noncomputable def expC (msg tag : List Int) (n : Int) : List Int :=
  fl (digC (List.flatten [List.replicate 64 0, msg, [IntKind.u8.wrap (n.fdiv (2 ^ min (8 : Nat) IntKind.i64.bits)), IntKind.u8.wrap n, 0], tag, [IntKind.u8.wrap tag.length]])) fun d =>
  fl (itC (fun i w => itC (fun j w => sB d i j w) w 4) (List.replicate 8 0) 8) fun f =>
  fl (itC (oA (List.replicate 8 0)) f 8) fun o =>
  fl (itC (fun i d => itC (fun j d => bB o i j d) d 4) (List.replicate 32 0) 8) fun y =>
  fl (digC (List.flatten [y, [1], tag, [IntKind.u8.wrap tag.length]])) fun z => z.take n.toNat
theorem expC_eq {msg tag : List Int} {n : Int} (ht : tag.length ≤ 255) (h0 : 0 < n) (h1 : n ≤ 32) : expC msg tag n = expo msg tag n := by
  have hs : ∀ d, it (fun i w => itC (fun j w => sB d i j w) w 4) (List.replicate 8 0) 8 = sAk d 8 := fun d => it_congr _ 8 (fun i _ w => by rw [itC_eq]; rfl)
  have hb : ∀ o, it (fun i d => itC (fun j d => bB o i j d) d 4) (List.replicate 32 0) 8 = bAk o 8 := fun o => it_congr _ 8 (fun i _ w => by rw [itC_eq]; rfl)
  rw [expo, opq_eq, expF, tagF, decide_eq_false (by omega), show (n.toNat + 31) / 32 = 1 by omega]
  show expC msg tag n = List.take n.toNat ([] ++ nxD (fstF msg tag n) tag 0 (List.replicate 8 0))
  rw [expC]
  simp only [fl_eq]
  rw [itC_eq, itC_eq, itC_eq, hs, hb, digC_eq, digC_eq, List.nil_append, nxD, byt, opq_eq, ovr, opq_eq, fstF, spl, opq_eq, endF]
  rfl
def quux : List Int := [81, 85, 85, 88, 45, 86, 48, 49, 45, 67, 83, 48, 50, 45, 119, 105, 116, 104, 45, 101, 120, 112, 97, 110, 100, 101, 114, 45, 83, 72, 65, 50, 53, 54, 45, 49, 50, 56]
theorem head_bytes : (let l := expC [] quux 32; l.getD 0 0 == 104 && l.getD 1 0 == 169 && l.getD 31 0 == 53) = true := by kernel_rfl
theorem head_at : (expo [] quux 32).getD 0 0 = 104 ∧ (expo [] quux 32).getD 1 0 = 169 ∧ (expo [] quux 32).getD 31 0 = 53 := by
  have h := head_bytes
  rw [expC_eq (by decide) (by decide) (by decide)] at h
  simp only [Bool.and_eq_true, beq_iff_eq] at h
  exact ⟨h.1.1, h.1.2, h.2⟩
end Go.Proofs.YtbfimfdhmggieaaDoor.xmd
namespace Go.Proofs.YtbfimfdhmggieaaDoor.law11
set_option maxRecDepth 100000
open Go Go.Eng Go.RowKit Cr Go.Proofs.YtbfimfdhmggieaaDoor.sha Go.Proofs.YtbfimfdhmggieaaDoor.xmd Go.Proofs.YtbfimfdhmggieaaDoor.ref01 Go.Proofs.YtbfimfdhmggieaaDoor
theorem fn_expo : FnOk Tryd.prog 13 [bsl, bsl, .int .i64] [.own bK, .val (.int .i64)] shaG (fun (m, t, n, _) => preEx (m, t, n, ()) ∧ (0 : Int) ≤ n ∧ n ≤ (8160 : Int)) (fun (m, t, n, _) => (expo m t n, 0, ())) := by
  refine fn_expand.weaken ?_
  rintro ⟨m, t, n, ⟨⟩⟩ _ ⟨h, h0, h1⟩
  have h0 : (0 : Int) ≤ n := h0
  have h1 : n ≤ (8160 : Int) := h1
  refine ⟨h, ?_⟩
  show ((exA m t n).1, (exA m t n).2, ()) = (expo m t n, 0, ())
  rw [exA, decide_eq_false (Int.not_lt.2 h0), decide_eq_false (Int.not_lt.2 h1)]; rfl
noncomputable def spExpo : Nat × Eng.Spec := (13, fnSpecG shaG [bsl, bsl, .int .i64] [.own bK, .val (.int .i64)] (fun (m, t, n, _) => preEx (m, t, n, ()) ∧ (0 : Int) ≤ n ∧ n ≤ (8160 : Int)) (fun (m, t, n, _) => (expo m t n, 0, ())))
theorem ent_head : enters Tryd.prog 10 Tryd.f10 := enters_mk (by kernel_rfl) (by kernel_rfl) (by kernel_rfl)
theorem fn_head : FnOk Tryd.prog 10 [] [.val .bool] shaG (fun _ => True) (fun _ => (true, ())) := by
  refine fn_of_vc (sp := sps [spExpo]) (sps_cons (fnSpecG_ok fn_expo) sps_nil) mixed ent_head (by decide) (by decide) ?_
  rintro w M0 ⟨⟩ _ _
  refine vcx (X := ((∀ (g : Nat) (s : Sigma Car), shaG g = some s → Decidable.rec (fun h => (fun x => if g = (1 : Nat) then some ⟨Kd.arr (64 : Nat) uK, rootsL⟩ else none) h) (fun h => (fun x => some ⟨Kd.arr (8 : Nat) uK, firstL⟩) h) (instDecidableEqNat g (0 : Nat)) = some s) ∧ (0 : Nat) + (nat_lit 37 + (1 : Nat)) ≤ (38 : Nat) ∧ (preEx ([], List.take (nat_lit 37 + (1 : Nat)) [(81 : Int), (85 : Int), (85 : Int), (88 : Int), (45 : Int), (86 : Int), (48 : Int), (49 : Int), (45 : Int), (67 : Int), (83 : Int), (48 : Int), (50 : Int), (45 : Int), (119 : Int), (105 : Int), (116 : Int), (104 : Int), (45 : Int), (101 : Int), (120 : Int), (112 : Int), (97 : Int), (110 : Int), (100 : Int), (101 : Int), (114 : Int), (45 : Int), (83 : Int), (72 : Int), (65 : Int), (50 : Int), (53 : Int), (54 : Int), (45 : Int), (49 : Int), (50 : Int), (56 : Int)], (32 : Int), ()) ∧ (0 : Int) ≤ (32 : Int) ∧ (32 : Int) ≤ (8160 : Int)) ∧ (((0 : Int) == (0 : Int)) = true → (((↑(expo [] (List.take (nat_lit 37 + (1 : Nat)) [(81 : Int), (85 : Int), (85 : Int), (88 : Int), (45 : Int), (86 : Int), (48 : Int), (49 : Int), (45 : Int), (67 : Int), (83 : Int), (48 : Int), (50 : Int), (45 : Int), (119 : Int), (105 : Int), (116 : Int), (104 : Int), (45 : Int), (101 : Int), (120 : Int), (112 : Int), (97 : Int), (110 : Int), (100 : Int), (101 : Int), (114 : Int), (45 : Int), (83 : Int), (72 : Int), (65 : Int), (50 : Int), (53 : Int), (54 : Int), (45 : Int), (49 : Int), (50 : Int), (56 : Int)]) (32 : Int)).length : Int) == (32 : Int)) = true → ((0 : Int) ≤ (0 : Int) ∧ (0 : Int) < (↑(expo [] (List.take (nat_lit 37 + (1 : Nat)) [(81 : Int), (85 : Int), (85 : Int), (88 : Int), (45 : Int), (86 : Int), (48 : Int), (49 : Int), (45 : Int), (67 : Int), (83 : Int), (48 : Int), (50 : Int), (45 : Int), (119 : Int), (105 : Int), (116 : Int), (104 : Int), (45 : Int), (101 : Int), (120 : Int), (112 : Int), (97 : Int), (110 : Int), (100 : Int), (101 : Int), (114 : Int), (45 : Int), (83 : Int), (72 : Int), (65 : Int), (50 : Int), (53 : Int), (54 : Int), (45 : Int), (49 : Int), (50 : Int), (56 : Int)]) (32 : Int)).length : Int)) ∧ (0 : Nat) < (expo [] (List.take (nat_lit 37 + (1 : Nat)) [(81 : Int), (85 : Int), (85 : Int), (88 : Int), (45 : Int), (86 : Int), (48 : Int), (49 : Int), (45 : Int), (67 : Int), (83 : Int), (48 : Int), (50 : Int), (45 : Int), (119 : Int), (105 : Int), (116 : Int), (104 : Int), (45 : Int), (101 : Int), (120 : Int), (112 : Int), (97 : Int), (110 : Int), (100 : Int), (101 : Int), (114 : Int), (45 : Int), (83 : Int), (72 : Int), (65 : Int), (50 : Int), (53 : Int), (54 : Int), (45 : Int), (49 : Int), (50 : Int), (56 : Int)]) (32 : Int)).length ∧ (((expo [] (List.take (nat_lit 37 + (1 : Nat)) [(81 : Int), (85 : Int), (85 : Int), (88 : Int), (45 : Int), (86 : Int), (48 : Int), (49 : Int), (45 : Int), (67 : Int), (83 : Int), (48 : Int), (50 : Int), (45 : Int), (119 : Int), (105 : Int), (116 : Int), (104 : Int), (45 : Int), (101 : Int), (120 : Int), (112 : Int), (97 : Int), (110 : Int), (100 : Int), (101 : Int), (114 : Int), (45 : Int), (83 : Int), (72 : Int), (65 : Int), (50 : Int), (53 : Int), (54 : Int), (45 : Int), (49 : Int), (50 : Int), (56 : Int)]) (32 : Int)).getD (0 : Nat) (0 : Int) == (104 : Int)) = true → ((0 : Int) ≤ (1 : Int) ∧ (1 : Int) < (↑(expo [] (List.take (nat_lit 37 + (1 : Nat)) [(81 : Int), (85 : Int), (85 : Int), (88 : Int), (45 : Int), (86 : Int), (48 : Int), (49 : Int), (45 : Int), (67 : Int), (83 : Int), (48 : Int), (50 : Int), (45 : Int), (119 : Int), (105 : Int), (116 : Int), (104 : Int), (45 : Int), (101 : Int), (120 : Int), (112 : Int), (97 : Int), (110 : Int), (100 : Int), (101 : Int), (114 : Int), (45 : Int), (83 : Int), (72 : Int), (65 : Int), (50 : Int), (53 : Int), (54 : Int), (45 : Int), (49 : Int), (50 : Int), (56 : Int)]) (32 : Int)).length : Int)) ∧ (1 : Nat) < (expo [] (List.take (nat_lit 37 + (1 : Nat)) [(81 : Int), (85 : Int), (85 : Int), (88 : Int), (45 : Int), (86 : Int), (48 : Int), (49 : Int), (45 : Int), (67 : Int), (83 : Int), (48 : Int), (50 : Int), (45 : Int), (119 : Int), (105 : Int), (116 : Int), (104 : Int), (45 : Int), (101 : Int), (120 : Int), (112 : Int), (97 : Int), (110 : Int), (100 : Int), (101 : Int), (114 : Int), (45 : Int), (83 : Int), (72 : Int), (65 : Int), (50 : Int), (53 : Int), (54 : Int), (45 : Int), (49 : Int), (50 : Int), (56 : Int)]) (32 : Int)).length ∧ (((expo [] (List.take (nat_lit 37 + (1 : Nat)) [(81 : Int), (85 : Int), (85 : Int), (88 : Int), (45 : Int), (86 : Int), (48 : Int), (49 : Int), (45 : Int), (67 : Int), (83 : Int), (48 : Int), (50 : Int), (45 : Int), (119 : Int), (105 : Int), (116 : Int), (104 : Int), (45 : Int), (101 : Int), (120 : Int), (112 : Int), (97 : Int), (110 : Int), (100 : Int), (101 : Int), (114 : Int), (45 : Int), (83 : Int), (72 : Int), (65 : Int), (50 : Int), (53 : Int), (54 : Int), (45 : Int), (49 : Int), (50 : Int), (56 : Int)]) (32 : Int)).getD (1 : Nat) (0 : Int) == (169 : Int)) = true → ((0 : Int) ≤ (31 : Int) ∧ (31 : Int) < (↑(expo [] (List.take (nat_lit 37 + (1 : Nat)) [(81 : Int), (85 : Int), (85 : Int), (88 : Int), (45 : Int), (86 : Int), (48 : Int), (49 : Int), (45 : Int), (67 : Int), (83 : Int), (48 : Int), (50 : Int), (45 : Int), (119 : Int), (105 : Int), (116 : Int), (104 : Int), (45 : Int), (101 : Int), (120 : Int), (112 : Int), (97 : Int), (110 : Int), (100 : Int), (101 : Int), (114 : Int), (45 : Int), (83 : Int), (72 : Int), (65 : Int), (50 : Int), (53 : Int), (54 : Int), (45 : Int), (49 : Int), (50 : Int), (56 : Int)]) (32 : Int)).length : Int)) ∧ (31 : Nat) < (expo [] (List.take (nat_lit 37 + (1 : Nat)) [(81 : Int), (85 : Int), (85 : Int), (88 : Int), (45 : Int), (86 : Int), (48 : Int), (49 : Int), (45 : Int), (67 : Int), (83 : Int), (48 : Int), (50 : Int), (45 : Int), (119 : Int), (105 : Int), (116 : Int), (104 : Int), (45 : Int), (101 : Int), (120 : Int), (112 : Int), (97 : Int), (110 : Int), (100 : Int), (101 : Int), (114 : Int), (45 : Int), (83 : Int), (72 : Int), (65 : Int), (50 : Int), (53 : Int), (54 : Int), (45 : Int), (49 : Int), (50 : Int), (56 : Int)]) (32 : Int)).length ∧ ((expo [] (List.take (nat_lit 37 + (1 : Nat)) [(81 : Int), (85 : Int), (85 : Int), (88 : Int), (45 : Int), (86 : Int), (48 : Int), (49 : Int), (45 : Int), (67 : Int), (83 : Int), (48 : Int), (50 : Int), (45 : Int), (119 : Int), (105 : Int), (116 : Int), (104 : Int), (45 : Int), (101 : Int), (120 : Int), (112 : Int), (97 : Int), (110 : Int), (100 : Int), (101 : Int), (114 : Int), (45 : Int), (83 : Int), (72 : Int), (65 : Int), (50 : Int), (53 : Int), (54 : Int), (45 : Int), (49 : Int), (50 : Int), (56 : Int)]) (32 : Int)).getD (31 : Nat) (0 : Int) == (53 : Int), ()) = (true, ())) ∧ (((expo [] (List.take (nat_lit 37 + (1 : Nat)) [(81 : Int), (85 : Int), (85 : Int), (88 : Int), (45 : Int), (86 : Int), (48 : Int), (49 : Int), (45 : Int), (67 : Int), (83 : Int), (48 : Int), (50 : Int), (45 : Int), (119 : Int), (105 : Int), (116 : Int), (104 : Int), (45 : Int), (101 : Int), (120 : Int), (112 : Int), (97 : Int), (110 : Int), (100 : Int), (101 : Int), (114 : Int), (45 : Int), (83 : Int), (72 : Int), (65 : Int), (50 : Int), (53 : Int), (54 : Int), (45 : Int), (49 : Int), (50 : Int), (56 : Int)]) (32 : Int)).getD (1 : Nat) (0 : Int) == (169 : Int)) = false → (false, ()) = (true, ()))) ∧ (((expo [] (List.take (nat_lit 37 + (1 : Nat)) [(81 : Int), (85 : Int), (85 : Int), (88 : Int), (45 : Int), (86 : Int), (48 : Int), (49 : Int), (45 : Int), (67 : Int), (83 : Int), (48 : Int), (50 : Int), (45 : Int), (119 : Int), (105 : Int), (116 : Int), (104 : Int), (45 : Int), (101 : Int), (120 : Int), (112 : Int), (97 : Int), (110 : Int), (100 : Int), (101 : Int), (114 : Int), (45 : Int), (83 : Int), (72 : Int), (65 : Int), (50 : Int), (53 : Int), (54 : Int), (45 : Int), (49 : Int), (50 : Int), (56 : Int)]) (32 : Int)).getD (0 : Nat) (0 : Int) == (104 : Int)) = false → (false, ()) = (true, ()))) ∧ (((↑(expo [] (List.take (nat_lit 37 + (1 : Nat)) [(81 : Int), (85 : Int), (85 : Int), (88 : Int), (45 : Int), (86 : Int), (48 : Int), (49 : Int), (45 : Int), (67 : Int), (83 : Int), (48 : Int), (50 : Int), (45 : Int), (119 : Int), (105 : Int), (116 : Int), (104 : Int), (45 : Int), (101 : Int), (120 : Int), (112 : Int), (97 : Int), (110 : Int), (100 : Int), (101 : Int), (114 : Int), (45 : Int), (83 : Int), (72 : Int), (65 : Int), (50 : Int), (53 : Int), (54 : Int), (45 : Int), (49 : Int), (50 : Int), (56 : Int)]) (32 : Int)).length : Int) == (32 : Int)) = false → (false, ()) = (true, ()))) ∧ (((0 : Int) == (0 : Int)) = false → (false, ()) = (true, ())))) (by kernel_rfl) ?_
  obtain ⟨E, hE⟩ : ∃ E, E = expo [] quux 32 := ⟨_, rfl⟩
  have hl : E.length = 32 := by rw [hE, expo_len]; rfl
  obtain ⟨h1, h2, h3⟩ := head_at
  rw [← hE] at h1 h2 h3
  have hq : List.take 38 [81, 85, 85, 88, 45, 86, 48, 49, 45, 67, 83, 48, 50, 45, 119, 105, 116, 104, 45, 101, 120, 112, 97, 110, 100, 101, 114, 45, 83, 72, 65, 50, 53, 54, 45, 49, 50, 56] = quux := rfl
  refine ⟨fun _ _ h => h, by decide, ⟨⟨by decide, by decide⟩, by decide, by decide⟩, ?_⟩
  rw [show (37 + 1 : Nat) = 38 from rfl, hq, ← hE, hl, h1, h2, h3]
  simp
noncomputable def spHead : Nat × Eng.Spec := (10, fnSpecG shaG [] [.val .bool] (fun _ => True) (fun _ => (true, ())))
end Go.Proofs.YtbfimfdhmggieaaDoor.law11
