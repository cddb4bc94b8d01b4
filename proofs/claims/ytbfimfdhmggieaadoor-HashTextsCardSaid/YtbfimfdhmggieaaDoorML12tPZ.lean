/- HashTexts, for every input: true; the input reads as it did. No condition. -/
import Derived.LaidLaws
import Derived.LaidHandle
import Derived.LaidMore
import Derived.MakeChecks
import Derived.OpenShut
import Derived.Test.YtbfimfdhmggieaaDoorRows
import Derived.Test.YtbfimfdhmggieaaDoorCards
import Derived.Test.YtbfimfdhmggieaaDoorTie
import Derived.ProofKit
import Derived.Stop.Joined
import Derived.SevenTiedAt
import Derived.Test.YtbfimfdhmggieaaDoorML12tPY
/- What rows ask of their arguments. -/
namespace Go.Proofs.YtbfimfdhmggieaaDoor
open Go Go.Eng Cr
abbrev bsl : Kd := .sl (.int .u8)
/-- Bytes of an input. -/
abbrev preB (b : List Int) : Prop := Bs b ∧ List.length b ≤ 281474976710656
end Go.Proofs.YtbfimfdhmggieaaDoor
/- Helpers of laws. -/
namespace Go.Proofs.YtbfimfdhmggieaaDoor
open Go Go.Eng Cr
abbrev ok (b : Bool) : Prop := ((b, ()) : Bool × Unit) = (true, ())
end Go.Proofs.YtbfimfdhmggieaaDoor
/- The references' Same. -/
namespace Go.Proofs.YtbfimfdhmggieaaDoor.ref01
set_option maxRecDepth 100000
open Go Go.Eng Go.RowKit Cr Go.Proofs.YtbfimfdhmggieaaDoor
theorem ent_same : enters Tryd.prog 14 Tryd.f14 := enters_mk (by kernel_rfl) (by kernel_rfl) (by kernel_rfl)
abbrev preSame : HL [.sl (.int .u8), .sl (.int .u8)] → Prop := fun (a, _, _) => List.length a < 4611686018427387904
def sameF (a b : List Int) : Bool := decide (a = b)
abbrev outSame : HL [.sl (.int .u8), .sl (.int .u8)] → HO [.val .bool] := fun (a, b, _) => (sameF a b, ())
noncomputable def saI (a b : List Int) (g : Int) : St := mkSt Tryd.f14.ntmps 72 [(0, .is (.one (.ro (.int .u8) a))), (1, .is (.one (.ro (.int .u8) b))), (4, .is (.one .F)), (12, sI .i64 a.length), (13, sI .i64 g)] []
def saJ (a b : List Int) (g : Int) : Prop := ∃ k : Nat, k ≤ a.length ∧ g = (k : Int) ∧ a.take k = b.take k
theorem fn_same : FnOk Tryd.prog 14 [.sl (.int .u8), .sl (.int .u8)] [.val .bool] noG preSame outSame := by
  have hsp : SpecsOk Tryd.prog (sps []) := sps_nil
  refine fn_of_tr (sp := sps []) ent_same (by decide) (by decide) (by kernel_rfl) ?_
  rintro w M0 ⟨a, b, ⟨⟩⟩
  revert a b
  intro (a : List Int) (b : List Int) _ hl
  have hl : a.length < 4611686018427387904 := hl
  show Tr _ _ _ _ _ _ _
  refine tr_cut hsp mixed 4 (saI a b 0) (a.length = b.length) ?_ (fun he => ?_)
  · refine vcx (X := ((((↑a.length : Int) != (↑b.length : Int)) = true → (false, ()) = outSame (a, b, ())) ∧ (((↑a.length : Int) != (↑b.length : Int)) = false → (saI a b (0 : Int)).triv (a.length = b.length)))) (by kernel_rfl) ?_
    refine ⟨fun h => ?_, fun h => triv_intro (by simp at h; omega)⟩
    have h : ¬ a.length = b.length := by simp at h; omega
    show _ = (sameF a b, ())
    rw [sameF, decide_eq_false (fun e => h (by rw [e]))]
  refine tr_while hsp mixed noSw (fun σ => rdS (.int .i64) 13 σ) (saI a b) (saJ a b) (fun g => a.length - g.toNat)
    (fun σ => rdS (.int .i64) 13 σ) (saI a b) (fun _ => a = b) 0 (c := nthC (codeOf Tryd.f14) 4) (by kernel_rfl) (by kernel_rfl) (le_of_proj (by kernel_rfl) (by kernel_rfl) ?_) ?_ ?_
  · exact ⟨0, Nat.zero_le _, rfl, rfl⟩
  · intro (i : Int) ⟨k, hk, ei, ht⟩
    subst ei
    refine vcx (X := ((decide ((↑k : Int) < (↑a.length : Int)) = true → ((0 : Int) ≤ (↑k : Int) ∧ (↑k : Int) < (↑a.length : Int)) ∧ (↑k : Int).toNat < a.length ∧ ((0 : Int) ≤ (↑k : Int) ∧ (↑k : Int) < (↑b.length : Int)) ∧ (↑k : Int).toNat < b.length ∧ ((a.getD (↑k : Int).toNat (0 : Int) != b.getD (↑k : Int).toNat (0 : Int)) = true → (false, ()) = outSame (a, b, ())) ∧ ((a.getD (↑k : Int).toNat (0 : Int) != b.getD (↑k : Int).toNat (0 : Int)) = false → (saI a b (IntKind.i64.wrap ((↑k : Int) + (1 : Int)))).triv (saJ a b (IntKind.i64.wrap ((↑k : Int) + (1 : Int))) ∧ a.length - (IntKind.i64.wrap ((↑k : Int) + (1 : Int))).toNat < a.length - (↑k : Int).toNat))) ∧ (decide ((↑k : Int) < (↑a.length : Int)) = false → (saI a b (↑k : Int)).triv (a = b)))) (by kernel_rfl) ?_
    rw [Int.toNat_natCast]
    refine ⟨fun h => ?_, fun h => triv_intro ?_⟩
    · have hlt : k < a.length := by have := dec_lt h; omega
      have ga : a.getD k 0 = a[k] := by rw [List.getD_eq_getElem?_getD, List.getElem?_eq_getElem hlt, Option.getD_some]
      have gb : b.getD k 0 = b[k] := by rw [List.getD_eq_getElem?_getD, List.getElem?_eq_getElem (by omega), Option.getD_some]
      rw [wrap_succ (by omega), ga, gb]
      refine ⟨⟨by omega, by omega⟩, hlt, ⟨by omega, by omega⟩, by omega, fun h2 => ?_, fun h2 => triv_intro ⟨⟨k + 1, hlt, rfl, ?_⟩, by rw [Int.toNat_natCast]; omega⟩⟩
      · have h2 : a[k] ≠ b[k] := by simpa using h2
        show _ = (sameF a b, ())
        rw [sameF, decide_eq_false (fun e => h2 (by subst e; rfl))]
      · have h2 : a[k] = b[k] := by simpa using h2
        rw [List.take_succ_eq_append_getElem hlt, List.take_succ_eq_append_getElem (by omega), ht, h2]
    · have : k = a.length := by have := dec_ge h; omega
      subst this
      rw [List.take_length] at ht
      rw [ht, he, List.take_length]
  intro (i : Int) (h : a = b)
  refine tr_vc hsp mixed _ _ ?_
  refine vcx (X := ((true, ()) = outSame (a, b, ()))) (by kernel_rfl) ?_
  show _ = (sameF a b, ())
  rw [sameF, decide_eq_true h]
noncomputable def spSame : Nat × Eng.Spec := (14, fnSpec [.sl (.int .u8), .sl (.int .u8)] [.val .bool] preSame outSame)
end Go.Proofs.YtbfimfdhmggieaaDoor.ref01
/- law12: head, number, long. -/
namespace Go.Proofs.YtbfimfdhmggieaaDoor.law12
set_option maxRecDepth 100000
open Go Go.Eng Go.RowKit Cr Go.Proofs.YtbfimfdhmggieaaDoor Go.Proofs.YtbfimfdhmggieaaDoor.sha Go.Proofs.YtbfimfdhmggieaaDoor.xmd Go.Proofs.YtbfimfdhmggieaaDoor.h2c
theorem u0_q : u0 [] quux2 = q2 hu0 ∧ u1 [] quux2 = q2 hu1 := by
  have h := nums_q
  rw [nums_two] at h
  rw [u0, u1, opq_eq, opq_eq]
  exact ⟨congrArg (fun l => List.getD l 0 0) h, congrArg (fun l => List.getD l 1 0) h⟩
theorem head_hpt : hpt [] quux2 = (q2 hCx, q2 hCy) := by
  rw [hpt, opq_eq, u0_q.1, u0_q.2, clo_eq (padd_on tb_ne (mapo_on _) (mapo_on _)), head_pt]
theorem no {c : Bool} {P : Prop} (h : c = false) (k : c = true) : P := by rw [k] at h; cases h
theorem head_on : g2.gon (q2 hCx, q2 hCy) = true := by
  have h := hpt_sub [] quux2
  rw [head_hpt] at h
  exact (g2.gon_iff _).2 h.1
theorem ent_head : enters Tryd.prog 21 Tryd.f21 := enters_mk (by kernel_rfl) (by kernel_rfl) (by kernel_rfl)
theorem fn_head : FnOk Tryd.prog 21 [] [.val .bool] shaG (fun _ => True) (fun _ => (true, ())) := by
  refine fn_of_vc (sp := sps [spHash, fp.spBytes, g2.soOn]) (sps_cons (fnSpecG_ok fn_hash) (sps_cons (fnSpec_ok fp.fn_bytes) (sps_cons (fnSpec_ok g2.fo_on) sps_nil))) mixed ent_head (by decide) (by decide) ?_
  rintro w M0 ⟨⟩ _ _
  refine vcx (X := ((∀ (g : Nat) (s : Sigma Car), shaG g = some s → Decidable.rec (fun h => (fun x => if g = (1 : Nat) then some ⟨Kd.arr (64 : Nat) uK, rootsL⟩ else none) h) (fun h => (fun x => some ⟨Kd.arr (8 : Nat) uK, firstL⟩) h) (instDecidableEqNat g (0 : Nat)) = some s) ∧ (0 : Nat) + (nat_lit 49 + (1 : Nat)) ≤ (50 : Nat) ∧ preHs ([], List.take (nat_lit 49 + (1 : Nat)) [(81 : Int), (85 : Int), (85 : Int), (88 : Int), (45 : Int), (86 : Int), (48 : Int), (49 : Int), (45 : Int), (67 : Int), (83 : Int), (48 : Int), (50 : Int), (45 : Int), (119 : Int), (105 : Int), (116 : Int), (104 : Int), (45 : Int), (66 : Int), (76 : Int), (83 : Int), (49 : Int), (50 : Int), (51 : Int), (56 : Int), (49 : Int), (71 : Int), (50 : Int), (95 : Int), (88 : Int), (77 : Int), (68 : Int), (58 : Int), (83 : Int), (72 : Int), (65 : Int), (45 : Int), (50 : Int), (53 : Int), (54 : Int), (95 : Int), (83 : Int), (83 : Int), (87 : Int), (85 : Int), (95 : Int), (82 : Int), (79 : Int), (95 : Int)], ()) ∧ True ∧ True ∧ (((hpt [] (List.take (nat_lit 49 + (1 : Nat)) [(81 : Int), (85 : Int), (85 : Int), (88 : Int), (45 : Int), (86 : Int), (48 : Int), (49 : Int), (45 : Int), (67 : Int), (83 : Int), (48 : Int), (50 : Int), (45 : Int), (119 : Int), (105 : Int), (116 : Int), (104 : Int), (45 : Int), (66 : Int), (76 : Int), (83 : Int), (49 : Int), (50 : Int), (51 : Int), (56 : Int), (49 : Int), (71 : Int), (50 : Int), (95 : Int), (88 : Int), (77 : Int), (68 : Int), (58 : Int), (83 : Int), (72 : Int), (65 : Int), (45 : Int), (50 : Int), (53 : Int), (54 : Int), (95 : Int), (83 : Int), (83 : Int), (87 : Int), (85 : Int), (95 : Int), (82 : Int), (79 : Int), (95 : Int)])).fst.fst.v / p256 ((48 : Nat) - (1 : Nat) - nat_lit 0) % (256 : Int) == (1 : Int)) = true → (((hpt [] (List.take (nat_lit 49 + (1 : Nat)) [(81 : Int), (85 : Int), (85 : Int), (88 : Int), (45 : Int), (86 : Int), (48 : Int), (49 : Int), (45 : Int), (67 : Int), (83 : Int), (48 : Int), (50 : Int), (45 : Int), (119 : Int), (105 : Int), (116 : Int), (104 : Int), (45 : Int), (66 : Int), (76 : Int), (83 : Int), (49 : Int), (50 : Int), (51 : Int), (56 : Int), (49 : Int), (71 : Int), (50 : Int), (95 : Int), (88 : Int), (77 : Int), (68 : Int), (58 : Int), (83 : Int), (72 : Int), (65 : Int), (45 : Int), (50 : Int), (53 : Int), (54 : Int), (95 : Int), (83 : Int), (83 : Int), (87 : Int), (85 : Int), (95 : Int), (82 : Int), (79 : Int), (95 : Int)])).fst.fst.v / p256 ((48 : Nat) - (1 : Nat) - nat_lit 1) % (256 : Int) == (65 : Int)) = true → (((hpt [] (List.take (nat_lit 49 + (1 : Nat)) [(81 : Int), (85 : Int), (85 : Int), (88 : Int), (45 : Int), (86 : Int), (48 : Int), (49 : Int), (45 : Int), (67 : Int), (83 : Int), (48 : Int), (50 : Int), (45 : Int), (119 : Int), (105 : Int), (116 : Int), (104 : Int), (45 : Int), (66 : Int), (76 : Int), (83 : Int), (49 : Int), (50 : Int), (51 : Int), (56 : Int), (49 : Int), (71 : Int), (50 : Int), (95 : Int), (88 : Int), (77 : Int), (68 : Int), (58 : Int), (83 : Int), (72 : Int), (65 : Int), (45 : Int), (50 : Int), (53 : Int), (54 : Int), (95 : Int), (83 : Int), (83 : Int), (87 : Int), (85 : Int), (95 : Int), (82 : Int), (79 : Int), (95 : Int)])).fst.fst.v / p256 ((48 : Nat) - (1 : Nat) - nat_lit 47) % (256 : Int) == (138 : Int)) = true → (((hpt [] (List.take (nat_lit 49 + (1 : Nat)) [(81 : Int), (85 : Int), (85 : Int), (88 : Int), (45 : Int), (86 : Int), (48 : Int), (49 : Int), (45 : Int), (67 : Int), (83 : Int), (48 : Int), (50 : Int), (45 : Int), (119 : Int), (105 : Int), (116 : Int), (104 : Int), (45 : Int), (66 : Int), (76 : Int), (83 : Int), (49 : Int), (50 : Int), (51 : Int), (56 : Int), (49 : Int), (71 : Int), (50 : Int), (95 : Int), (88 : Int), (77 : Int), (68 : Int), (58 : Int), (83 : Int), (72 : Int), (65 : Int), (45 : Int), (50 : Int), (53 : Int), (54 : Int), (95 : Int), (83 : Int), (83 : Int), (87 : Int), (85 : Int), (95 : Int), (82 : Int), (79 : Int), (95 : Int)])).fst.snd.v / p256 ((48 : Nat) - (1 : Nat) - nat_lit 0) % (256 : Int) == (5 : Int)) = true → (((hpt [] (List.take (nat_lit 49 + (1 : Nat)) [(81 : Int), (85 : Int), (85 : Int), (88 : Int), (45 : Int), (86 : Int), (48 : Int), (49 : Int), (45 : Int), (67 : Int), (83 : Int), (48 : Int), (50 : Int), (45 : Int), (119 : Int), (105 : Int), (116 : Int), (104 : Int), (45 : Int), (66 : Int), (76 : Int), (83 : Int), (49 : Int), (50 : Int), (51 : Int), (56 : Int), (49 : Int), (71 : Int), (50 : Int), (95 : Int), (88 : Int), (77 : Int), (68 : Int), (58 : Int), (83 : Int), (72 : Int), (65 : Int), (45 : Int), (50 : Int), (53 : Int), (54 : Int), (95 : Int), (83 : Int), (83 : Int), (87 : Int), (85 : Int), (95 : Int), (82 : Int), (79 : Int), (95 : Int)])).fst.snd.v / p256 ((48 : Nat) - (1 : Nat) - nat_lit 1) % (256 : Int) == (203 : Int)) = true → (((hpt [] (List.take (nat_lit 49 + (1 : Nat)) [(81 : Int), (85 : Int), (85 : Int), (88 : Int), (45 : Int), (86 : Int), (48 : Int), (49 : Int), (45 : Int), (67 : Int), (83 : Int), (48 : Int), (50 : Int), (45 : Int), (119 : Int), (105 : Int), (116 : Int), (104 : Int), (45 : Int), (66 : Int), (76 : Int), (83 : Int), (49 : Int), (50 : Int), (51 : Int), (56 : Int), (49 : Int), (71 : Int), (50 : Int), (95 : Int), (88 : Int), (77 : Int), (68 : Int), (58 : Int), (83 : Int), (72 : Int), (65 : Int), (45 : Int), (50 : Int), (53 : Int), (54 : Int), (95 : Int), (83 : Int), (83 : Int), (87 : Int), (85 : Int), (95 : Int), (82 : Int), (79 : Int), (95 : Int)])).fst.snd.v / p256 ((48 : Nat) - (1 : Nat) - nat_lit 47) % (256 : Int) == (61 : Int)) = true → True ∧ (g2.gon (hpt [] (List.take (nat_lit 49 + (1 : Nat)) [(81 : Int), (85 : Int), (85 : Int), (88 : Int), (45 : Int), (86 : Int), (48 : Int), (49 : Int), (45 : Int), (67 : Int), (83 : Int), (48 : Int), (50 : Int), (45 : Int), (119 : Int), (105 : Int), (116 : Int), (104 : Int), (45 : Int), (66 : Int), (76 : Int), (83 : Int), (49 : Int), (50 : Int), (51 : Int), (56 : Int), (49 : Int), (71 : Int), (50 : Int), (95 : Int), (88 : Int), (77 : Int), (68 : Int), (58 : Int), (83 : Int), (72 : Int), (65 : Int), (45 : Int), (50 : Int), (53 : Int), (54 : Int), (95 : Int), (83 : Int), (83 : Int), (87 : Int), (85 : Int), (95 : Int), (82 : Int), (79 : Int), (95 : Int)])), ()) = (true, ())) ∧ (((hpt [] (List.take (nat_lit 49 + (1 : Nat)) [(81 : Int), (85 : Int), (85 : Int), (88 : Int), (45 : Int), (86 : Int), (48 : Int), (49 : Int), (45 : Int), (67 : Int), (83 : Int), (48 : Int), (50 : Int), (45 : Int), (119 : Int), (105 : Int), (116 : Int), (104 : Int), (45 : Int), (66 : Int), (76 : Int), (83 : Int), (49 : Int), (50 : Int), (51 : Int), (56 : Int), (49 : Int), (71 : Int), (50 : Int), (95 : Int), (88 : Int), (77 : Int), (68 : Int), (58 : Int), (83 : Int), (72 : Int), (65 : Int), (45 : Int), (50 : Int), (53 : Int), (54 : Int), (95 : Int), (83 : Int), (83 : Int), (87 : Int), (85 : Int), (95 : Int), (82 : Int), (79 : Int), (95 : Int)])).fst.snd.v / p256 ((48 : Nat) - (1 : Nat) - nat_lit 47) % (256 : Int) == (61 : Int)) = false → (false, ()) = (true, ()))) ∧ (((hpt [] (List.take (nat_lit 49 + (1 : Nat)) [(81 : Int), (85 : Int), (85 : Int), (88 : Int), (45 : Int), (86 : Int), (48 : Int), (49 : Int), (45 : Int), (67 : Int), (83 : Int), (48 : Int), (50 : Int), (45 : Int), (119 : Int), (105 : Int), (116 : Int), (104 : Int), (45 : Int), (66 : Int), (76 : Int), (83 : Int), (49 : Int), (50 : Int), (51 : Int), (56 : Int), (49 : Int), (71 : Int), (50 : Int), (95 : Int), (88 : Int), (77 : Int), (68 : Int), (58 : Int), (83 : Int), (72 : Int), (65 : Int), (45 : Int), (50 : Int), (53 : Int), (54 : Int), (95 : Int), (83 : Int), (83 : Int), (87 : Int), (85 : Int), (95 : Int), (82 : Int), (79 : Int), (95 : Int)])).fst.snd.v / p256 ((48 : Nat) - (1 : Nat) - nat_lit 1) % (256 : Int) == (203 : Int)) = false → (false, ()) = (true, ()))) ∧ (((hpt [] (List.take (nat_lit 49 + (1 : Nat)) [(81 : Int), (85 : Int), (85 : Int), (88 : Int), (45 : Int), (86 : Int), (48 : Int), (49 : Int), (45 : Int), (67 : Int), (83 : Int), (48 : Int), (50 : Int), (45 : Int), (119 : Int), (105 : Int), (116 : Int), (104 : Int), (45 : Int), (66 : Int), (76 : Int), (83 : Int), (49 : Int), (50 : Int), (51 : Int), (56 : Int), (49 : Int), (71 : Int), (50 : Int), (95 : Int), (88 : Int), (77 : Int), (68 : Int), (58 : Int), (83 : Int), (72 : Int), (65 : Int), (45 : Int), (50 : Int), (53 : Int), (54 : Int), (95 : Int), (83 : Int), (83 : Int), (87 : Int), (85 : Int), (95 : Int), (82 : Int), (79 : Int), (95 : Int)])).fst.snd.v / p256 ((48 : Nat) - (1 : Nat) - nat_lit 0) % (256 : Int) == (5 : Int)) = false → (false, ()) = (true, ()))) ∧ (((hpt [] (List.take (nat_lit 49 + (1 : Nat)) [(81 : Int), (85 : Int), (85 : Int), (88 : Int), (45 : Int), (86 : Int), (48 : Int), (49 : Int), (45 : Int), (67 : Int), (83 : Int), (48 : Int), (50 : Int), (45 : Int), (119 : Int), (105 : Int), (116 : Int), (104 : Int), (45 : Int), (66 : Int), (76 : Int), (83 : Int), (49 : Int), (50 : Int), (51 : Int), (56 : Int), (49 : Int), (71 : Int), (50 : Int), (95 : Int), (88 : Int), (77 : Int), (68 : Int), (58 : Int), (83 : Int), (72 : Int), (65 : Int), (45 : Int), (50 : Int), (53 : Int), (54 : Int), (95 : Int), (83 : Int), (83 : Int), (87 : Int), (85 : Int), (95 : Int), (82 : Int), (79 : Int), (95 : Int)])).fst.fst.v / p256 ((48 : Nat) - (1 : Nat) - nat_lit 47) % (256 : Int) == (138 : Int)) = false → (false, ()) = (true, ()))) ∧ (((hpt [] (List.take (nat_lit 49 + (1 : Nat)) [(81 : Int), (85 : Int), (85 : Int), (88 : Int), (45 : Int), (86 : Int), (48 : Int), (49 : Int), (45 : Int), (67 : Int), (83 : Int), (48 : Int), (50 : Int), (45 : Int), (119 : Int), (105 : Int), (116 : Int), (104 : Int), (45 : Int), (66 : Int), (76 : Int), (83 : Int), (49 : Int), (50 : Int), (51 : Int), (56 : Int), (49 : Int), (71 : Int), (50 : Int), (95 : Int), (88 : Int), (77 : Int), (68 : Int), (58 : Int), (83 : Int), (72 : Int), (65 : Int), (45 : Int), (50 : Int), (53 : Int), (54 : Int), (95 : Int), (83 : Int), (83 : Int), (87 : Int), (85 : Int), (95 : Int), (82 : Int), (79 : Int), (95 : Int)])).fst.fst.v / p256 ((48 : Nat) - (1 : Nat) - nat_lit 1) % (256 : Int) == (65 : Int)) = false → (false, ()) = (true, ()))) ∧ (((hpt [] (List.take (nat_lit 49 + (1 : Nat)) [(81 : Int), (85 : Int), (85 : Int), (88 : Int), (45 : Int), (86 : Int), (48 : Int), (49 : Int), (45 : Int), (67 : Int), (83 : Int), (48 : Int), (50 : Int), (45 : Int), (119 : Int), (105 : Int), (116 : Int), (104 : Int), (45 : Int), (66 : Int), (76 : Int), (83 : Int), (49 : Int), (50 : Int), (51 : Int), (56 : Int), (49 : Int), (71 : Int), (50 : Int), (95 : Int), (88 : Int), (77 : Int), (68 : Int), (58 : Int), (83 : Int), (72 : Int), (65 : Int), (45 : Int), (50 : Int), (53 : Int), (54 : Int), (95 : Int), (83 : Int), (83 : Int), (87 : Int), (85 : Int), (95 : Int), (82 : Int), (79 : Int), (95 : Int)])).fst.fst.v / p256 ((48 : Nat) - (1 : Nat) - nat_lit 0) % (256 : Int) == (1 : Int)) = false → (false, ()) = (true, ())))) (by kernel_rfl) ?_
  have e : List.take (49 + 1) [81, 85, 85, 88, 45, 86, 48, 49, 45, 67, 83, 48, 50, 45, 119, 105, 116, 104, 45, 66, 76, 83, 49, 50, 51, 56, 49, 71, 50, 95, 88, 77, 68, 58, 83, 72, 65, 45, 50, 53, 54, 95, 83, 83, 87, 85, 95, 82, 79, 95] = quux2 := rfl
  rw [e, head_hpt]
  exact ⟨fun _ _ h => h, by decide, ⟨by decide, by decide⟩, trivial, trivial, fun _ => ⟨fun _ => ⟨fun _ => ⟨fun _ => ⟨fun _ => ⟨fun _ => ⟨trivial, by rw [head_on]⟩, fun h => no h (by kernel_rfl)⟩, fun h => no h (by kernel_rfl)⟩, fun h => no h (by kernel_rfl)⟩, fun h => no h (by kernel_rfl)⟩, fun h => no h (by kernel_rfl)⟩, fun h => no h (by kernel_rfl)⟩
noncomputable def spHead : Nat × Eng.Spec := (21, fnSpecG shaG [] [.val .bool] (fun _ => True) (fun _ => (true, ())))
theorem ent_long : enters Tryd.prog 39 Tryd.f39 := enters_mk (by kernel_rfl) (by kernel_rfl) (by kernel_rfl)
def lng (a b : List Int) : Bool := decide ((a.length : Int) > 4096) || decide ((b.length : Int) > 4096)
theorem fn_long : FnOk Tryd.prog 39 [bsl, bsl] [.val .bool] noG (fun _ => True) (fun (a, b, _) => (lng a b, ())) := by
  refine fn_of_vc (sp := sps []) sps_nil mixed ent_long (by decide) (by decide) ?_
  rintro w M0 ⟨a, b, ⟨⟩⟩
  revert a b
  intro (a : List Int) (b : List Int) _ _
  refine vcx (X := ((decide ((↑a.length : Int) > (4096 : Int)) = true → (true, ()) = (lng a b, ())) ∧ (decide ((↑a.length : Int) > (4096 : Int)) = false → (decide ((↑b.length : Int) > (4096 : Int)), ()) = (lng a b, ())))) (by kernel_rfl) ?_
  refine ⟨fun h => ?_, fun h => ?_⟩
  · rw [lng, h]; rfl
  · rw [lng, h]; rfl
noncomputable def spLong : Nat × Eng.Spec := (39, fnSpec [bsl, bsl] [.val .bool] (fun _ => True) (fun (a, b, _) => (lng a b, ())))
end Go.Proofs.YtbfimfdhmggieaaDoor.law12
/- law12: HashTexts. -/
namespace Go.Proofs.YtbfimfdhmggieaaDoor.law12
set_option maxRecDepth 100000
open Go Go.Eng Go.RowKit Cr Go.Proofs.YtbfimfdhmggieaaDoor Go.Proofs.YtbfimfdhmggieaaDoor.sha Go.Proofs.YtbfimfdhmggieaaDoor.xmd Go.Proofs.YtbfimfdhmggieaaDoor.h2c
theorem ent_texts : enters Tryd.prog 8 Tryd.f8 := enters_mk (by kernel_rfl) (by kernel_rfl) (by kernel_rfl)
theorem fn_texts : FnOk Tryd.prog 8 [bsl, bsl] [.val .bool] shaG (fun (a, b, _) => preB a ∧ preB b) (fun _ => (true, ())) := by
  refine fn_of_vc (sp := sps [spHead, spLong, ref01.spCopy, spHash, spNuF, spMap, spClear, g2.soAdd, g2.soIn, g2.soOn, ref01.spSame, fr.spOf, g2.soMul]) (sps_cons (fnSpecG_ok fn_head) (sps_cons (fnSpec_ok fn_long) (sps_cons (fnSpec_ok ref01.fn_copy) (sps_cons (fnSpecG_ok fn_hash) (sps_cons (fnSpecG_ok fn_nuF) (sps_cons (fnSpec_ok fn_map) (sps_cons (fnSpec_ok fn_clear) (sps_cons (fnSpec_ok g2.fo_add) (sps_cons (fnSpec_ok g2.fo_in) (sps_cons (fnSpec_ok g2.fo_on) (sps_cons (fnSpec_ok ref01.fn_same) (sps_cons (fnSpec_ok fr.fn_of) (sps_cons (fnSpec_ok g2.fo_mul) sps_nil))))))))))))) mixed ent_texts (by decide) (by decide) ?_
  rintro w M0 ⟨a, b, ⟨⟩⟩
  revert a b
  intro (a : List Int) (b : List Int) _ hp
  obtain ⟨ha, hb⟩ := hp
  refine vcx (X := ((∀ (g : Nat) (s : Sigma Car), shaG g = some s → Decidable.rec (fun h => (fun x => if g = (1 : Nat) then some ⟨Kd.arr (64 : Nat) uK, rootsL⟩ else none) h) (fun h => (fun x => some ⟨Kd.arr (8 : Nat) uK, firstL⟩) h) (instDecidableEqNat g (0 : Nat)) = some s) ∧ True ∧ ((!true) = true → (false, ()) = (true, ())) ∧ ((!true) = false → True ∧ (lng a b = true → (true, ()) = (true, ())) ∧ (lng a b = false → ref01.preCopy (a, ()) ∧ ref01.preCopy (b, ()) ∧ (∀ (g : Nat) (s : Sigma Car), shaG g = some s → Decidable.rec (fun h => (fun x => if g = (1 : Nat) then some ⟨Kd.arr (64 : Nat) uK, rootsL⟩ else none) h) (fun h => (fun x => some ⟨Kd.arr (8 : Nat) uK, firstL⟩) h) (instDecidableEqNat g (0 : Nat)) = some s) ∧ (0 : Nat) + a.length ≤ a.length ∧ (0 : Nat) + b.length ≤ b.length ∧ preHs (List.take a.length a, List.take b.length b, ()) ∧ (∀ (g : Nat) (s : Sigma Car), shaG g = some s → Decidable.rec (fun h => (fun x => if g = (1 : Nat) then some ⟨Kd.arr (64 : Nat) uK, rootsL⟩ else none) h) (fun h => (fun x => some ⟨Kd.arr (8 : Nat) uK, firstL⟩) h) (instDecidableEqNat g (0 : Nat)) = some s) ∧ preEx (a, b, (2 : Int), ()) ∧ (((nuA a b (2 : Int)).snd != (0 : Int)) = true → (false, ()) = (true, ())) ∧ (((nuA a b (2 : Int)).snd != (0 : Int)) = false → (((↑(nuA a b (2 : Int)).fst.length : Int) != (2 : Int)) = true → (false, ()) = (true, ())) ∧ (((↑(nuA a b (2 : Int)).fst.length : Int) != (2 : Int)) = false → ((0 : Int) ≤ (0 : Int) ∧ (0 : Int) < (↑(nuA a b (2 : Int)).fst.length : Int)) ∧ (0 : Nat) < (nuA a b (2 : Int)).fst.length ∧ True ∧ ((0 : Int) ≤ (1 : Int) ∧ (1 : Int) < (↑(nuA a b (2 : Int)).fst.length : Int)) ∧ (1 : Nat) < (nuA a b (2 : Int)).fst.length ∧ True ∧ True ∧ g2.Onb (g2.gadd (mapo ((nuA a b (2 : Int)).fst.getD (0 : Nat) ((0 : Fp), (0 : Fp)))) (mapo ((nuA a b (2 : Int)).fst.getD (1 : Nat) ((0 : Fp), (0 : Fp))))) ∧ (eqC ((Kd.fp.pair Kd.fp).pair (Kd.fp.pair Kd.fp)) (hpt (List.take a.length a) (List.take b.length b)) (clo (g2.gadd (mapo ((nuA a b (2 : Int)).fst.getD (0 : Nat) ((0 : Fp), (0 : Fp)))) (mapo ((nuA a b (2 : Int)).fst.getD (1 : Nat) ((0 : Fp), (0 : Fp)))))) = true → (∀ (g : Nat) (s : Sigma Car), shaG g = some s → Decidable.rec (fun h => (fun x => if g = (1 : Nat) then some ⟨Kd.arr (64 : Nat) uK, rootsL⟩ else none) h) (fun h => (fun x => some ⟨Kd.arr (8 : Nat) uK, firstL⟩) h) (instDecidableEqNat g (0 : Nat)) = some s) ∧ (0 : Nat) + a.length ≤ a.length ∧ (0 : Nat) + b.length ≤ b.length ∧ preHs (List.take a.length a, List.take b.length b, ()) ∧ (eqC ((Kd.fp.pair Kd.fp).pair (Kd.fp.pair Kd.fp)) (hpt (List.take a.length a) (List.take b.length b)) (hpt (List.take a.length a) (List.take b.length b)) = true → True ∧ (g2.gin (hpt (List.take a.length a) (List.take b.length b)) = true → True ∧ (g2.gon (hpt (List.take a.length a) (List.take b.length b)) = true → (0 : Nat) + a.length ≤ a.length ∧ ref01.preSame (List.take a.length a, a, ()) ∧ (ref01.sameF (List.take a.length a) a = true → (0 : Nat) + b.length ≤ b.length ∧ ref01.preSame (List.take b.length b, b, ()) ∧ (ref01.sameF (List.take b.length b) b = true → U64 (1 : Int) ∧ True ∧ (eqC ((Kd.fp.pair Kd.fp).pair (Kd.fp.pair Kd.fp)) (g2.gmul (hpt (List.take a.length a) (List.take b.length b)) (zmr (1 : Int))) (hpt (List.take a.length a) (List.take b.length b)), ()) = (true, ())) ∧ (ref01.sameF (List.take b.length b) b = false → (false, ()) = (true, ()))) ∧ (ref01.sameF (List.take a.length a) a = false → (false, ()) = (true, ()))) ∧ (g2.gon (hpt (List.take a.length a) (List.take b.length b)) = false → (false, ()) = (true, ()))) ∧ (g2.gin (hpt (List.take a.length a) (List.take b.length b)) = false → (false, ()) = (true, ()))) ∧ (eqC ((Kd.fp.pair Kd.fp).pair (Kd.fp.pair Kd.fp)) (hpt (List.take a.length a) (List.take b.length b)) (hpt (List.take a.length a) (List.take b.length b)) = false → (false, ()) = (true, ()))) ∧ (eqC ((Kd.fp.pair Kd.fp).pair (Kd.fp.pair Kd.fp)) (hpt (List.take a.length a) (List.take b.length b)) (clo (g2.gadd (mapo ((nuA a b (2 : Int)).fst.getD (0 : Nat) ((0 : Fp), (0 : Fp)))) (mapo ((nuA a b (2 : Int)).fst.getD (1 : Nat) ((0 : Fp), (0 : Fp)))))) = false → (false, ()) = (true, ())))))))) (by kernel_rfl) ?_
  rw [List.take_length, List.take_length]
  rw [nuA_2]
  have op := mapo_on (u0 a b)
  have oq := mapo_on (u1 a b)
  have hs := hpt_sub a b
  have e1 : hpt a b = clo (g2.gadd (mapo (u0 a b)) (mapo (u1 a b))) := by rw [g2.gadd_eq op oq, hpt, opq_eq]
  have e2 : g2.gmul (hpt a b) (zmr 1) = hpt a b := g2.mul_one hs
  have on2 : g2.Onb (g2.gadd (mapo (u0 a b)) (mapo (u1 a b))) := by rw [g2.gadd_eq op oq]; exact padd_on tb_ne op oq
  have sm : ∀ x : List Int, ref01.sameF x x = true := fun x => decide_eq_true rfl
  refine ⟨fun _ _ h => h, trivial, fun h => absurd h (by decide), fun _ => ⟨trivial, fun _ => rfl, fun hl => ?_⟩⟩
  unfold lng at hl
  rw [Bool.or_eq_false_iff] at hl
  have la : a.length ≤ 4096 := by have := of_decide_eq_false hl.1; omega
  have lb : b.length ≤ 4096 := by have := of_decide_eq_false hl.2; omega
  have pr : preHs (a, b, ()) := ⟨by show a.length ≤ _; omega, by show b.length ≤ _; omega⟩
  refine ⟨ha.2, hb.2, fun _ _ h => h, Nat.le_of_eq (Nat.zero_add _), Nat.le_of_eq (Nat.zero_add _), pr, fun _ _ h => h, pr, fun h => by simp at h, fun _ => ⟨fun h => by simp at h, fun _ => ⟨⟨by decide, by simp⟩, by simp, trivial, ⟨by decide, by simp⟩, by simp, trivial, trivial, on2, fun _ => ⟨fun _ _ h => h, Nat.le_of_eq (Nat.zero_add _), Nat.le_of_eq (Nat.zero_add _), pr, fun _ => ⟨trivial, fun _ => ⟨trivial, fun _ => ⟨Nat.le_of_eq (Nat.zero_add _), by show a.length < _; omega, fun _ => ⟨Nat.le_of_eq (Nat.zero_add _), by show b.length < _; omega, fun _ => ⟨⟨by decide, by decide⟩, trivial, by rw [(eqC_iff (e := pt2) _ _).2 e2]⟩, fun h => no h (sm b)⟩, fun h => no h (sm a)⟩, fun h => no h ((g2.gon_iff _).2 hs.1)⟩, fun h => no h (g2.sub_in hs)⟩, fun h => no h ((eqC_iff (e := pt2) _ _).2 rfl)⟩, fun h => no h ((eqC_iff (e := pt2) _ _).2 e1)⟩⟩⟩
end Go.Proofs.YtbfimfdhmggieaaDoor.law12
/- From a contract to a law's row where package variables read as listed. -/
namespace Go.Eng
open Go Go.RowKit Cr Go.ChangeShapes Go.WideShapes Go.ChangeAt
/-- An array of integers that reads as these. -/
theorem laid_ints {P : Program} {t e : TypeId} {n : Nat} {k : IntKind} {H : Type} {enc : TypeId × Value → H} {W : World} {fl : Bool} {fuel : Nat} {cs : List Value} {p : List MemPlace} {xs : List Int} (ht : P.underlying t = some (.array n e)) (he : P.underlying e = some (.int k)) (hce : P.cellsOf e = 1) (hct : P.cellsOf t = n)
    (h : DataW.trod enc P W 0 (fun _ => true) fl fuel t cs = some (.agg (xs.map fun x => .lit (.int k x)), p)) : cs = xs.map (Value.int k) := by
  obtain ⟨ys, m, rfl, hx, hlen, hn, hel⟩ := DataW.trod_array ht h
  simp only [Prod.mk.injEq, DataW.agg.injEq] at hx
  obtain ⟨hx, _⟩ := hx
  have hxl : xs.length = n := by
    have := congrArg List.length hx
    simpa [hn] using this
  refine List.ext_getElem (by rw [hlen, hct, List.length_map, hxl]) fun i h1 h2 => ?_
  have hin : i < n := by rw [hlen, hct] at h1; exact h1
  have h3 := hel i hin
  rw [hce, Nat.mul_one, List.getElem?_eq_getElem (by omega)] at h3
  obtain ⟨z, e1, e2, _⟩ := DataW.trod_int he h3
  have e3 : (cs.drop i).take 1 = [cs[i]] := by rw [List.drop_eq_getElem_cons h1]; rfl
  rw [e3] at e1
  simp only [List.cons.injEq, and_true] at e1
  have h4 : (xs.map fun x => (DataW.lit (.int k x) : DataW H))[i]? = (ys.map (·.1))[i]? := by rw [hx]
  rw [List.getElem?_map, List.getElem?_map, List.getElem?_eq_getElem (by omega), List.getElem?_eq_getElem (by omega)] at h4
  simp only [Option.map_some, Option.some.injEq] at h4
  rw [e2] at h4
  simp only [DataW.lit.injEq, Lit.int.injEq, true_and] at h4
  rw [e1, List.getElem_map, h4]
/-- What a listed table is in memory. -/
theorem laid_row {P : Program} {W : World} {nm : String} {g n : Nat} {k : IntKind} {cs : Array Value} {xs : List Int} (hg : P.globalNamed nm = some g) (hv : W.var? P nm = some cs) (hcs : cs.toList = xs.map (Value.int k)) (hx : xs.length = n) : RowAt (Rd (memOf W) (.arr n (.int k))) (width (.arr n (.int k))) (memOf W) g 0 [xs] := by
  have hh : ∃ el fr, W.heap[g]? = some (.cells cs el fr) := by
    simp only [World.var?, hg, Option.bind_some] at hv
    split at hv
    · rename_i c el fr hh
      simp only [Option.some.injEq] at hv
      subst hv
      exact ⟨el, fr, hh⟩
    · cases hv
  obtain ⟨el, fr, hh⟩ := hh
  obtain ⟨l⟩ := cs
  have hcs : l = xs.map (Value.int k) := hcs
  refine ⟨l, memOf_blk hh, ?_, ?_⟩
  · simp [width, hcs, hx]
  · rw [List.drop_zero, List.take_of_length_le (by simp [width, hcs, hx])]
    exact RdL_one ⟨hx, RdL_int.2 hcs⟩
/-- A law: true; its arguments read as they did; package variables are what G says. -/
theorem law_rowG {C : Checked} {f : FuncId} {fn : Func} {s : ChangeSpec} {bt : TypeId} {ts : List TypeId} {ks : List Kd} {pre pre' : HL ks → Prop} {H : Type} {enc : TypeId × Value → H} {G : Glob}
    (he : enters C.prog f fn) (hf : FnOk C.prog f ks [.val .bool] G pre (fun _ => (true, ()))) (hl : laidOutB C.prog = true) (hts : fn.params.toList = ts) (hrs : fn.resultTypes = #[bt]) (hbt : C.prog.underlying bt = some .bool)
    (ho : OpnL C.prog ts ks pre') (hpre : ∀ xs, pre' xs → pre xs) (hv : s.vars = []) (hs : ∀ ds : List (DataW H), ds.length = ts.length → s.fn H ds = { results := [.lit (.bool true)], args := ds })
    (W : World) (hG : GlOk G (memOf W)) (base : Nat) (args : Array Value) (ds gs : List (DataW H)) (before : List MemPlace)
    (hok : ∀ (j : Nat) t v, fn.params[j]? = some t → args[j]? = some v → Value.okWide C.prog W .any base t v)
    (hW : DataW.Whole enc C.prog fn.params.toList s.vars false W args.toList ds gs before)
    (hsz : (DataW.weightsEach C.prog (fn.params.toList ++ s.plain.varTypes C.prog) (ds ++ gs)).all (· ≤ reachBytes) = true) :
    Calls C.prog f args W fun e W' => ∃ v, e = .returned v ∧ s.post enc C.prog fn false true false false W args v W' := by
  have hW' := hW
  have hlt : ∀ x ∈ before, x.block < W.heap.size := fun x hx => by simpa using hW'.lt x hx
  obtain ⟨p, q, hA, hV, rfl, hfz, hnd⟩ := hW
  rw [hv] at hV
  obtain ⟨rfl, rfl⟩ := trodVars_none hV
  rw [hts] at hA
  have hlen : ds.length = ts.length := by
    exact trodAll_len hA
  have hwt : ∀ n ∈ DataW.weightsEach C.prog ts ds, n ≤ reachBytes := by
    intro n hn
    have e : s.plain.varTypes C.prog = [] := by simp [DataSpec.varTypes, ChangeSpec.plain, hv]
    rw [e, hts, List.append_nil, List.append_nil, List.all_eq_true] at hsz
    simpa using hsz n hn
  obtain ⟨xs, hin, hp⟩ := opnL_open ho (enc := enc) (W := W) (base := base) (vs := args.toList) (ds := ds) (p := p) (fun j t v ht hj => hok j t v (by rw [← hts] at ht; simpa using ht) (by simpa using hj)) hA hwt
  have hc := hf W (memOf W) args.toList xs (fun b l h => h) hG hin (hpre xs hp)
  refine (callOk_calls he hc).mono ?_
  rintro e W' ⟨v, rfl, vs, ob, rfl, ⟨v, vs', rfl, hv1, rfl⟩, hb⟩
  have hv1 : v = .bool true := by have h : [v] = [Value.bool true] := hv1; simpa using h
  subst hv1
  refine ⟨_, rfl, ds, [], p ++ [], [], p, [], hW', ?_, ?_, ?_, ?_, fun h => by cases h⟩
  · rw [hrs, List.append_nil, hs ds hlen]
    exact trodAll_mk1 (shut_bool hbt true)
  · rw [hts, List.append_nil, hs ds hlen]
    exact opnL_stays hl ho hb hA (fun x hx => hlt x (by simpa using hx))
  · rw [hv, List.append_nil, hs ds hlen]
    rfl
  · exact hb.frame _
end Go.Eng
/- sha's tables as the card's rows list them. -/
namespace Go.Proofs.YtbfimfdhmggieaaDoor.sha
set_option maxRecDepth 100000
open Go Go.Eng Go.RowKit Cr Go.Proofs.YtbfimfdhmggieaaDoor
abbrev shaLaid : List (String × DataW Unit) := [("cresset/sha.first", Rows.laid_cresset_sha_first), ("cresset/sha.roots", Rows.laid_cresset_sha_roots)]
theorem gFirst : Tryd.prog.globalNamed "cresset/sha.first" = some 0 := by kernel_rfl
theorem gRoots : Tryd.prog.globalNamed "cresset/sha.roots" = some 1 := by kernel_rfl
theorem tFirst : (Tryd.prog.globals[0]?).map (·.type) = some 77 := by kernel_rfl
theorem tRoots : (Tryd.prog.globals[1]?).map (·.type) = some 171 := by kernel_rfl
/-- What the condition says of memory. -/
theorem sha_glob {W : World} (h : laidMetH Tryd.prog shaLaid W) : GlOk shaG (memOf W) := by
  rw [MakeChecks.laidMetH_plain _ _ _ (by kernel_rfl)] at h
  obtain ⟨ps, ⟨g0, t0, cs0, f0, p0, q0, hg0, ht0, hv0, hd0, ⟨g1, t1, cs1, f1, p1, q1, hg1, ht1, hv1, hd1, _, _⟩, _⟩, _, _⟩ := h
  obtain rfl := Option.some.inj (gFirst.symm.trans hg0)
  obtain rfl := Option.some.inj (gRoots.symm.trans hg1)
  obtain rfl := Option.some.inj (tFirst.symm.trans ht0)
  obtain rfl := Option.some.inj (tRoots.symm.trans ht1)
  have e0 : (Rows.laid_cresset_sha_first : DataW Unit) = .agg (firstL.map fun x => .lit (.int .u32 x)) := rfl
  have e1 : (Rows.laid_cresset_sha_roots : DataW Unit) = .agg (rootsL.map fun x => .lit (.int .u32 x)) := rfl
  rw [e0] at hd0
  rw [e1] at hd1
  have c0 := laid_ints (e := 76) (n := 8) (k := .u32) (by kernel_rfl) (by kernel_rfl) (by kernel_rfl) (by kernel_rfl) hd0
  have c1 := laid_ints (e := 76) (n := 64) (k := .u32) (by kernel_rfl) (by kernel_rfl) (by kernel_rfl) (by kernel_rfl) hd1
  have r0 := laid_row hg0 hv0 c0 (n := 8) rfl
  have r1 := laid_row hg1 hv1 c1 (n := 64) rfl
  intro g e x hx
  unfold shaG at hx
  split at hx
  · rename_i hg
    subst hg
    simp only [Option.some.injEq] at hx
    cases hx
    exact r0
  · split at hx
    · rename_i hg
      subst hg
      simp only [Option.some.injEq] at hx
      cases hx
      exact r1
    · cases hx
/-- The door's own heap meets the condition. -/
theorem door_met (os : Os) (args : Array Value) : laidMetH Tryd.prog shaLaid ((World.doorLaid Tryd.prog 400 os).forCall (fun _ _ => 0) ⟨#[], args, []⟩).memory :=
  laidMetH_of_parts3 (fuel := 8) (laidMet_of_run' 8 (by kernel_rfl) (by kernel_rfl)) (by kernel_rfl) (by kernel_rfl)
end Go.Proofs.YtbfimfdhmggieaaDoor.sha
namespace Go.Proofs.YtbfimfdhmggieaaDoor
set_option maxRecDepth 100000
open Go Go.Eng Go.RowKit Cr Go.ChangeShapes Go.WideShapes Go.ChangeAt

namespace hashTexts
theorem own : ownKnob Tryd.prog.godebug = none := by kernel_rfl
theorem laidOut : laidOutB Tryd.prog = true := by kernel_rfl
abbrev wtB : Car bsl → Prop := fun ys => List.length ys * Tryd.prog.bytesOf 5 ≤ reachBytes ∧ ∀ y ∈ ys, (Lit.int .u8 y).wf = true
theorem oB : OpnV Tryd.prog 22 bsl wtB := opnV_slice (e := 5) (by kernel_rfl) (by kernel_rfl) (by decide) (opnC_int (by kernel_rfl))
theorem bytes5 : Tryd.prog.bytesOf 5 = 1 := by kernel_rfl
theorem pB {xs : List Int} (h : wtB xs) : preB xs := by
  obtain ⟨h1, h2⟩ := h
  rw [bytes5] at h1
  refine ⟨fun x hx => ?_, ?_⟩
  · have := h2 x hx
    simp [Lit.wf, IntKind.min, IntKind.max, IntKind.signed, IntKind.bits] at this
    omega
  · show List.length xs ≤ _
    simp only [reachBytes] at h1
    omega
theorem opened : OpnL Tryd.prog [22, 22] [bsl, bsl] (fun x => wtB x.1 ∧ wtB x.2.1 ∧ True) :=
  .cons oB (by kernel_rfl) (of_decide_eq_true (by kernel_rfl)) (.cons oB (by kernel_rfl) (of_decide_eq_true (by kernel_rfl)) .nil)
theorem lifted (os : Os) (started : os.Started) (H : Type) (enc : TypeId × Value → H) :
    ReturnsInHanded {} Tryd.checked os 8 .any (fun w args => (Rows.hashTextsSpec.pre enc Tryd.prog Tryd.f8 Rows.hashTextsRow.domain false w args ∧ laidMetH Tryd.prog sha.shaLaid w) ∧ sizedMet enc Tryd.prog Tryd.f8 (OpenSpec.ofChange Rows.hashTextsSpec) false w args) (Rows.hashTextsSpec.post enc Tryd.prog Tryd.f8 false true false false) := by
  refine returnsInHanded_of_change_and (C := Tryd.checked) (X := fun w _ => laidMetH Tryd.prog sha.shaLaid w) (fun _ _ _ hh h => h.of_heap hh) own started (by kernel_rfl) Tryd.func8
    (ChangeSpec.witness_shaped (enc := enc) (C := Tryd.checked) (os := os) (X := fun w _ => laidMetH Tryd.prog sha.shaLaid w) false (World.doorLaid Tryd.prog 400 os) #[.slice none 0 0, .slice none 0 0] 8 rfl (World.shaped_of_RefB (by kernel_rfl) (by kernel_rfl)) (by kernel_rfl) (by kernel_rfl) (by kernel_rfl) (sha.door_met os _)) ?_
  intro W base args ds gs before hval hW _ hsz hL _
  refine law_rowG (C := Tryd.checked) (bt := 4) (ts := [22, 22]) law12.ent_texts law12.fn_texts laidOut (by kernel_rfl) (by kernel_rfl) (by kernel_rfl) opened ?_ rfl ?_ W (sha.sha_glob hL) base args ds gs before hval hW hsz
  · rintro ⟨x0, x1, ⟨⟩⟩ ⟨h0, h1, _⟩
    exact ⟨pB h0, pB h1⟩
  · intro ds hl
    match ds, hl with
    | [d0, d1], _ => rfl

theorem row : Rows.HashTextsSaid :=
  OpenClaim.holds_of_wide 8 Tryd.f8 rfl rfl rfl rfl rfl rfl rfl ⟨rfl, rfl, rfl, rfl, rfl⟩ rfl rfl rfl rfl rfl (by kernel_rfl) Tryd.func8 (by kernel_rfl)
    (of_decide_eq_true (by kernel_rfl)) (by unfold Func.isWrapper; first | (rw [if_pos (by decide +kernel)]; kernel_rfl) | (rw [if_neg (by decide +kernel)]; exact ⟨rfl, rfl⟩))
    (fun os started H enc _ => lifted os started H enc)
theorem wants : (Tryd.f8.params.toList.all fun u => !Tryd.prog.wantsStandIn u) = true := by kernel_rfl
/-- THE TIED CARD. -/
theorem proved : Rows.HashTextsCardSaid :=
  Claim7.holds_tied_plain_at .later [] [.data, .data] true (true, "30c18024f5400744120caf5eb37e15b2bb597e6febcf776de2208ae38104d59e") false
    row (fun _ h => by cases h) (by kernel_rfl) (fun _ h => by cases h) hashTexts_row_tie rfl ⟨rfl, rfl⟩ (by kernel_rfl) rfl
    (fun f fn hf hfn => by
      obtain rfl : f = 8 := Option.some.inj ((show Tryd.prog.funcNamed "cresset/cressetlaw12.HashTexts" = some 8 by kernel_rfl).symm.trans hf) |>.symm
      obtain rfl : fn = Tryd.f8 := (Option.some.inj (Tryd.func8.symm.trans hfn)).symm
      exact ⟨by kernel_rfl, fun j t ht => by
        have hm : t ∈ Tryd.f8.params.toList := by simpa using Array.mem_of_getElem? ht
        exact (show Tryd.prog.wantsStandIn t = false by simpa using List.all_eq_true.1 wants t hm)⟩)
    (by kernel_rfl)
#print axioms proved
end hashTexts
end Go.Proofs.YtbfimfdhmggieaaDoor
