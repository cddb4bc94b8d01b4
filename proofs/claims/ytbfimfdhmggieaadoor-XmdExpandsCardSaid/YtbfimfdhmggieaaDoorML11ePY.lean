/- XmdExpands, for every input: true; the input reads as it did. No condition. -/
import Derived.LaidLaws
import Derived.LaidHandle
import Derived.LaidMore
import Derived.MakeChecks
import Derived.OpenShut
import Derived.Test.YtbfimfdhmggieaaDoorRows
import Derived.Test.YtbfimfdhmggieaaDoorCards
import Derived.Test.YtbfimfdhmggieaaDoorTie
import Derived.ProofKit
import Derived.Stop.Joined
import Derived.SevenTiedAt
import Derived.Test.YtbfimfdhmggieaaDoorML11ePX
/- ref11: Expand. -/
namespace Go.Proofs.YtbfimfdhmggieaaDoor.ref11
set_option maxRecDepth 100000
open Go Go.Eng Go.RowKit Cr Go.Proofs.YtbfimfdhmggieaaDoor Go.Proofs.YtbfimfdhmggieaaDoor.sha Go.Proofs.YtbfimfdhmggieaaDoor.xmd Go.Proofs.YtbfimfdhmggieaaDoor.ref01
abbrev by8 : Kd := .int .u8
abbrev bs8 : Kd := .sl by8
theorem fr_sum : FnOk Tryd.prog 43 [bs8] [.val bs8] noG (fun (b, _) => Bs b ∧ List.length b ≤ 1099511627776) (fun (b, _) => (dig b, ())) := ref01.fn_sum.frz
noncomputable def srSum : Nat × Eng.Spec := (43, fnSpec [bs8] [.val bs8] (fun (b, _) => Bs b ∧ List.length b ≤ 1099511627776) (fun (b, _) => (dig b, ())))
theorem ent_expand : enters Tryd.prog 12 Tryd.f12 := enters_mk (by kernel_rfl) (by kernel_rfl) (by kernel_rfl)
noncomputable def reA (m : List Int) (n : Int) (t : List Int) : St := mkSt Tryd.f12.ntmps 88 [(0, .is (.one (.ro by8 m))), (1, .is (.one (.ro by8 t))), (2, sI .i64 n)] []
noncomputable def reB (n : Int) (g : Nat × List Int × List Int × List Int) : St := mkSt Tryd.f12.ntmps 344 [(2, sI .i64 n), (8, .is (.one (.sl 136 0 0 g.1 1))), (10, .is (.one (.ro by8 g.2.2.1))), (11, .is (.one (.sl 304 0 0 0 1))), (12, .is (.one (.sl 320 0 0 32 1))), (13, sI .i64 1)] [(320, [.ints .u8 32 g.2.2.2]), (304, [.ints .u8 0 []]), (136, [.ints .u8 g.1 g.2.1])]
noncomputable def reL (n : Int) (T D : List Int) (g : Int × Nat × List Int × List Int) : St := mkSt Tryd.f12.ntmps 344 [(2, sI .i64 n), (8, .is (.one (.ro by8 T))), (10, .is (.one (.ro by8 D))), (11, .is (.one (.sl 304 0 0 g.2.1 1))), (12, .is (.one (.ro by8 g.2.2.2))), (13, sI .i64 g.1)] [(304, [.ints .u8 g.2.1 g.2.2.1])]
noncomputable def reX (n : Int) (T D : List Int) (i : Int) (L : Nat) (os last : List Int) (g : Int × Nat × List Int) : St := mkSt Tryd.f12.ntmps 368 [(2, sI .i64 n), (8, .is (.one (.ro by8 T))), (10, .is (.one (.ro by8 D))), (11, .is (.one (.sl 304 0 0 L 1))), (12, .is (.one (.ro by8 last))), (13, sI .i64 i), (14, .is (.one (.sl 344 0 0 g.2.1 1))), (15, sI .i64 g.1)] [(344, [.ints .u8 g.2.1 g.2.2]), (304, [.ints .u8 L os])]
abbrev preRe : HL [bs8, bs8, .int .i64] → Prop := fun (m, t, _, _) => (Bs m ∧ List.length m ≤ 1048576) ∧ Bs t ∧ List.length t ≤ 1048576
theorem dig_Bs (L : List Int) : Bs (dig L) := by
  rw [dig, opq_eq, digF, outB]
  intro x hx
  obtain ⟨i, _, rfl⟩ := List.mem_map.1 hx
  generalize (Int.fdiv _ _) = y
  simp [IntKind.wrap, IntKind.signed, IntKind.bits]
  omega
theorem app_Bs {a b : List Int} (ha : Bs a) (hb : Bs b) : Bs (a ++ b) := fun y hy => by
  rcases List.mem_append.1 hy with h | h
  · exact ha y h
  · exact hb y h
theorem u8_bd (y : Int) : 0 ≤ IntKind.u8.wrap y ∧ IntKind.u8.wrap y < 256 := by
  simp [IntKind.wrap, IntKind.signed, IntKind.bits]; omega
theorem endF_Bs (t : List Int) : Bs (endF t) := by
  intro y hy
  have hy : y ∈ [IntKind.u8.wrap (t.length : Int)] := hy
  rw [List.mem_singleton] at hy
  rw [hy]; exact u8_bd _
theorem tagF_le (t : List Int) : (tagF t).length ≤ 255 := by
  unfold tagF
  split
  · rw [dig_len]; decide
  · rename_i h
    have := of_decide_eq_false h; omega
theorem tagF_Bs {t : List Int} (h : Bs t) : Bs (tagF t) := by
  unfold tagF
  split
  · exact dig_Bs _
  · exact h
/-- The first digest. -/
noncomputable def fstD (msg t : List Int) (n : Int) : List Int := dig (List.flatten [List.replicate 64 0, msg, [IntKind.u8.wrap (n.fdiv (2 ^ min (8 : Nat) IntKind.i64.bits)), IntKind.u8.wrap n, 0], t, endF t])
theorem xoL_succ (a b : List Int) (k : Nat) : xoL a b (k + 1) = xoL a b k ++ [bitOp .xor .u8 (a.getD k 0) (b.getD k 0)] := by
  unfold xoL
  rw [List.range_succ, List.map_append]; rfl
theorem tk {l : List Int} {n : Nat} (h : l.length = n) : List.take n l = l := List.take_of_length_le (Nat.le_of_eq h)
set_option maxHeartbeats 8000000 in
theorem fn_expand : FnOk Tryd.prog 12 [bs8, bs8, .int .i64] [.own by8, .val (.int .i64)] noG preRe (fun (m, t, n, _) => ((exA m t n).1, (exA m t n).2, ())) := by
  have hsp : SpecsOk Tryd.prog (sps [srSum, ref01.spCopy]) := sps_cons (fnSpec_ok fr_sum) (sps_cons (fnSpec_ok ref01.fn_copy) sps_nil)
  refine fn_of_tr (sp := sps [srSum, ref01.spCopy]) ent_expand (by decide) (by decide) (by kernel_rfl) ?_
  rintro w M0 ⟨m, t, n, ⟨⟩⟩
  revert m t n
  intro (m : List Int) (t : List Int) (n : Int) _ hp
  obtain ⟨⟨hm, lm⟩, ht, lt⟩ := hp
  have lm : m.length ≤ 1048576 := lm
  have lt : t.length ≤ 1048576 := lt
  show Tr _ _ _ _ _ _ _
  refine tr_cutF hsp mixed 5 (fun σ => rdO by8 1 σ) (reA m n) (fun t' => t' = tagF t ∧ 0 ≤ n ∧ n ≤ 8160) ?_ ?_
  · refine vcx (X := ((decide (n < (0 : Int)) = true → ([], (1 : Int), ()) = ((exA m t n).fst, (exA m t n).snd, ())) ∧ (decide (n < (0 : Int)) = false → (decide (n > (8160 : Int)) = true → ([], (1 : Int), ()) = ((exA m t n).fst, (exA m t n).snd, ())) ∧ (decide (n > (8160 : Int)) = false → (decide ((↑t.length : Int) > (255 : Int)) = true → nat_lit 16 + (1 : Nat) ≤ (17 : Nat) ∧ (nat_lit 16 + (1 : Nat) + t.length) * (1 : Nat) ≤ (140737488355328 : Nat) ∧ nat_lit 16 + (1 : Nat) + t.length ≤ (4611686018427387904 : Nat) ∧ (0 : Nat) + (nat_lit 16 + (1 : Nat) + t.length) ≤ nat_lit 16 + (1 : Nat) + t.length ∧ (Bs (List.take (nat_lit 16 + (1 : Nat) + t.length) (List.take (nat_lit 16 + (1 : Nat)) [(72 : Int), (50 : Int), (67 : Int), (45 : Int), (79 : Int), (86 : Int), (69 : Int), (82 : Int), (83 : Int), (73 : Int), (90 : Int), (69 : Int), (45 : Int), (68 : Int), (83 : Int), (84 : Int), (45 : Int)] ++ t)) ∧ (List.take (nat_lit 16 + (1 : Nat) + t.length) (List.take (nat_lit 16 + (1 : Nat)) [(72 : Int), (50 : Int), (67 : Int), (45 : Int), (79 : Int), (86 : Int), (69 : Int), (82 : Int), (83 : Int), (73 : Int), (90 : Int), (69 : Int), (45 : Int), (68 : Int), (83 : Int), (84 : Int), (45 : Int)] ++ t)).length ≤ (1099511627776 : Nat)) ∧ (reA m n (dig (List.take (nat_lit 16 + (1 : Nat) + t.length) (List.take (nat_lit 16 + (1 : Nat)) [(72 : Int), (50 : Int), (67 : Int), (45 : Int), (79 : Int), (86 : Int), (69 : Int), (82 : Int), (83 : Int), (73 : Int), (90 : Int), (69 : Int), (45 : Int), (68 : Int), (83 : Int), (84 : Int), (45 : Int)] ++ t)), ()).fst).triv (dig (List.take (nat_lit 16 + (1 : Nat) + t.length) (List.take (nat_lit 16 + (1 : Nat)) [(72 : Int), (50 : Int), (67 : Int), (45 : Int), (79 : Int), (86 : Int), (69 : Int), (82 : Int), (83 : Int), (73 : Int), (90 : Int), (69 : Int), (45 : Int), (68 : Int), (83 : Int), (84 : Int), (45 : Int)] ++ t)) = tagF t ∧ (0 : Int) ≤ n ∧ n ≤ (8160 : Int))) ∧ (decide ((↑t.length : Int) > (255 : Int)) = false → (reA m n t).triv (t = tagF t ∧ (0 : Int) ≤ n ∧ n ≤ (8160 : Int))))))) (by kernel_rfl) ?_
    have eo : List.take (16 + 1) ([72, 50, 67, 45, 79, 86, 69, 82, 83, 73, 90, 69, 45, 68, 83, 84, 45] : List Int) = overS := rfl
    have e1 : List.take (16 + 1 + t.length) (overS ++ t) = overS ++ t := tk (by rw [List.length_append]; rfl)
    have bo : Bs overS := by
      have h : (overS.all fun x => decide (0 ≤ x) && decide (x < 256)) = true := by kernel_rfl
      intro x hx
      have h2 := List.all_eq_true.1 h x hx
      rw [Bool.and_eq_true] at h2
      exact ⟨of_decide_eq_true h2.1, of_decide_eq_true h2.2⟩
    rw [eo, e1]
    refine ⟨fun h => by rw [exA, h]; rfl, fun h => ⟨fun h2 => by rw [exA, h, h2]; rfl, fun h2 => ⟨fun h3 => ⟨Nat.le_refl 17, by show (17 + t.length) * 1 ≤ _; omega, by show 17 + t.length ≤ _; omega, Nat.le_of_eq (Nat.zero_add _), ⟨app_Bs bo ht, ?_⟩, triv_intro ⟨?_, ?_, ?_⟩⟩, fun h3 => triv_intro ⟨?_, ?_, ?_⟩⟩⟩⟩
    · rw [List.length_append]
      have : overS.length = 17 := rfl
      omega
    · have h4 : 255 < t.length := by have := dT h3; omega
      rw [tagF, decide_eq_true h4]
    · have := dF h; omega
    · have := dF h2; omega
    · have h4 : ¬ 255 < t.length := by have := dF h3; omega
      rw [tagF, decide_eq_false h4]
    · have := dF h; omega
    · have := dF h2; omega
  rintro t' ⟨htg, hn0, hn1⟩
  revert t'
  intro (t' : List Int) (htg : t' = tagF t)
  have lt' : t'.length ≤ 255 := by rw [htg]; exact tagF_le t
  have ht' : Bs t' := by rw [htg]; exact tagF_Bs ht
  refine tr_cutF hsp mixed 7 (fun σ => (rdL 8 σ, rdR by8 136 σ, rdO by8 10 σ, rdR by8 320 σ)) (reB n) (fun g => g.1 = t'.length + 1 ∧ g.2.1 = t' ++ endF t' ∧ g.2.2.1 = fstD m t' n ∧ g.2.2.2 = List.replicate 32 0) ?_ ?_
  · refine vcx (X := (preCopy (t', ()) ∧ (0 : Nat) + (1 : Nat) ≤ (1 : Nat) ∧ t'.length ≤ t'.length ∧ (t'.length + (1 : Nat)) * (1 : Nat) ≤ (140737488355328 : Nat) ∧ t'.length + (1 : Nat) ≤ (4611686018427387904 : Nat) ∧ ((0 : Int) ≤ (64 : Int) ∧ (64 : Int) ≤ (64 : Int) ∧ (↑(1 : Nat) : Int) * (64 : Int) ≤ (281474976710656 : Int) ∧ (64 : Int) ≤ (9223372036854775807 : Int)) ∧ (64 : Nat) ≤ (64 : Nat) ∧ ((64 : Nat) + m.length) * (1 : Nat) ≤ (140737488355328 : Nat) ∧ (64 : Nat) + m.length ≤ (4611686018427387904 : Nat) ∧ ((256 : Int) = (0 : Int) → False) ∧ ((256 : Int) = (0 : Int) → False) ∧ (0 : Nat) + (3 : Nat) ≤ (3 : Nat) ∧ (64 : Nat) + m.length ≤ (64 : Nat) + m.length ∧ ((64 : Nat) + m.length + (3 : Nat)) * (1 : Nat) ≤ (140737488355328 : Nat) ∧ (64 : Nat) + m.length + (3 : Nat) ≤ (4611686018427387904 : Nat) ∧ (0 : Nat) + (t'.length + (1 : Nat)) ≤ t'.length + (1 : Nat) ∧ (64 : Nat) + m.length + (3 : Nat) ≤ (64 : Nat) + m.length + (3 : Nat) ∧ ((64 : Nat) + m.length + (3 : Nat) + (t'.length + (1 : Nat))) * (1 : Nat) ≤ (140737488355328 : Nat) ∧ (64 : Nat) + m.length + (3 : Nat) + (t'.length + (1 : Nat)) ≤ (4611686018427387904 : Nat) ∧ (0 : Nat) + ((64 : Nat) + m.length + (3 : Nat) + (t'.length + (1 : Nat))) ≤ (64 : Nat) + m.length + (3 : Nat) + (t'.length + (1 : Nat)) ∧ (Bs (List.take ((64 : Nat) + m.length + (3 : Nat) + (t'.length + (1 : Nat))) (List.take ((64 : Nat) + m.length + (3 : Nat)) (List.take ((64 : Nat) + m.length) (List.take (64 : Nat) (List.replicate (64 : Nat) (0 : Int)) ++ m) ++ List.take (3 : Nat) [IntKind.u8.wrap (IntKind.i64.wrap (n.tdiv (256 : Int))), IntKind.u8.wrap (n.tmod (256 : Int)), (0 : Int)]) ++ List.take (t'.length + (1 : Nat)) (List.take t'.length t' ++ List.take (1 : Nat) [IntKind.u8.wrap (↑t'.length : Int)]))) ∧ (List.take ((64 : Nat) + m.length + (3 : Nat) + (t'.length + (1 : Nat))) (List.take ((64 : Nat) + m.length + (3 : Nat)) (List.take ((64 : Nat) + m.length) (List.take (64 : Nat) (List.replicate (64 : Nat) (0 : Int)) ++ m) ++ List.take (3 : Nat) [IntKind.u8.wrap (IntKind.i64.wrap (n.tdiv (256 : Int))), IntKind.u8.wrap (n.tmod (256 : Int)), (0 : Int)]) ++ List.take (t'.length + (1 : Nat)) (List.take t'.length t' ++ List.take (1 : Nat) [IntKind.u8.wrap (↑t'.length : Int)]))).length ≤ (1099511627776 : Nat)) ∧ ((0 : Int) ≤ (32 : Int) ∧ (32 : Int) ≤ (32 : Int) ∧ (↑(1 : Nat) : Int) * (32 : Int) ≤ (281474976710656 : Int) ∧ (32 : Int) ≤ (9223372036854775807 : Int)) ∧ (reB n (t'.length + (1 : Nat), List.take t'.length t' ++ List.take (1 : Nat) [IntKind.u8.wrap (↑t'.length : Int)], (dig (List.take ((64 : Nat) + m.length + (3 : Nat) + (t'.length + (1 : Nat))) (List.take ((64 : Nat) + m.length + (3 : Nat)) (List.take ((64 : Nat) + m.length) (List.take (64 : Nat) (List.replicate (64 : Nat) (0 : Int)) ++ m) ++ List.take (3 : Nat) [IntKind.u8.wrap (IntKind.i64.wrap (n.tdiv (256 : Int))), IntKind.u8.wrap (n.tmod (256 : Int)), (0 : Int)]) ++ List.take (t'.length + (1 : Nat)) (List.take t'.length t' ++ List.take (1 : Nat) [IntKind.u8.wrap (↑t'.length : Int)]))), ()).fst, [(0 : Int), (0 : Int), (0 : Int), (0 : Int), (0 : Int), (0 : Int), (0 : Int), (0 : Int), (0 : Int), (0 : Int), (0 : Int), (0 : Int), (0 : Int), (0 : Int), (0 : Int), (0 : Int), (0 : Int), (0 : Int), (0 : Int), (0 : Int), (0 : Int), (0 : Int), (0 : Int), (0 : Int), (0 : Int), (0 : Int), (0 : Int), (0 : Int), (0 : Int), (0 : Int), (0 : Int), (0 : Int)])).triv (t'.length + (1 : Nat) = t'.length + (1 : Nat) ∧ List.take t'.length t' ++ List.take (1 : Nat) [IntKind.u8.wrap (↑t'.length : Int)] = t' ++ endF t' ∧ dig (List.take ((64 : Nat) + m.length + (3 : Nat) + (t'.length + (1 : Nat))) (List.take ((64 : Nat) + m.length + (3 : Nat)) (List.take ((64 : Nat) + m.length) (List.take (64 : Nat) (List.replicate (64 : Nat) (0 : Int)) ++ m) ++ List.take (3 : Nat) [IntKind.u8.wrap (IntKind.i64.wrap (n.tdiv (256 : Int))), IntKind.u8.wrap (n.tmod (256 : Int)), (0 : Int)]) ++ List.take (t'.length + (1 : Nat)) (List.take t'.length t' ++ List.take (1 : Nat) [IntKind.u8.wrap (↑t'.length : Int)]))) = fstD m t' n ∧ [(0 : Int), (0 : Int), (0 : Int), (0 : Int), (0 : Int), (0 : Int), (0 : Int), (0 : Int), (0 : Int), (0 : Int), (0 : Int), (0 : Int), (0 : Int), (0 : Int), (0 : Int), (0 : Int), (0 : Int), (0 : Int), (0 : Int), (0 : Int), (0 : Int), (0 : Int), (0 : Int), (0 : Int), (0 : Int), (0 : Int), (0 : Int), (0 : Int), (0 : Int), (0 : Int), (0 : Int), (0 : Int)] = List.replicate (32 : Nat) (0 : Car by8)))) (by kernel_rfl) ?_
    have z1 : List.take 64 (List.replicate 64 (0 : Int)) = List.replicate 64 0 := tk (by rw [List.length_replicate])
    have z2 : List.take (64 + m.length) (List.replicate 64 (0 : Int) ++ m) = List.replicate 64 0 ++ m := tk (by rw [List.length_append, List.length_replicate])
    have z3 : ∀ a b c : Int, List.take 3 [a, b, c] = [a, b, c] := fun _ _ _ => rfl
    have z4 : List.take 1 [IntKind.u8.wrap (t'.length : Int)] = endF t' := rfl
    have z5 : List.take (t'.length + 1) (t' ++ endF t') = t' ++ endF t' := tk (by rw [List.length_append]; rfl)
    have z6 : ∀ a b c : Int, List.take (64 + m.length + 3) (List.replicate 64 (0 : Int) ++ m ++ [a, b, c]) = List.replicate 64 (0 : Int) ++ m ++ [a, b, c] := fun a b c => tk (by rw [List.length_append, List.length_append, List.length_replicate]; rfl)
    have z7 : ∀ a b c : Int, List.take (64 + m.length + 3 + (t'.length + 1)) (List.replicate 64 (0 : Int) ++ m ++ [a, b, c] ++ (t' ++ endF t')) = List.replicate 64 (0 : Int) ++ m ++ [a, b, c] ++ (t' ++ endF t') := fun a b c => tk (by rw [List.length_append, List.length_append, List.length_append, List.length_append, List.length_replicate]; rfl)
    have n1 : IntKind.u8.wrap (IntKind.i64.wrap (n.tdiv 256)) = IntKind.u8.wrap (n.fdiv (2 ^ min (8 : Nat) IntKind.i64.bits)) := by
      rw [Int.tdiv_eq_ediv_of_nonneg hn0, wrap_i64' (by omega) (by omega), Int.fdiv_eq_ediv_of_nonneg _ (by decide)]; rfl
    have n2 : IntKind.u8.wrap (n.tmod 256) = IntKind.u8.wrap n := by
      rw [Int.tmod_eq_emod_of_nonneg hn0]
      simp [IntKind.wrap, IntKind.signed, IntKind.bits]
    rw [z1, z2, z3, z4, List.take_length, z5, z6, z7, n1, n2]
    have bz : Bs (List.replicate 64 (0 : Int)) := fun y hy => by have := List.eq_of_mem_replicate hy; omega
    have b3 : Bs [IntKind.u8.wrap (n.fdiv (2 ^ min (8 : Nat) IntKind.i64.bits)), IntKind.u8.wrap n, 0] := by
      intro y hy
      simp only [List.mem_cons, List.not_mem_nil, or_false] at hy
      rcases hy with h | h | h
      · rw [h]; exact u8_bd _
      · rw [h]; exact u8_bd _
      · omega
    have efl : List.flatten [List.replicate 64 (0 : Int), m, [IntKind.u8.wrap (n.fdiv (2 ^ min (8 : Nat) IntKind.i64.bits)), IntKind.u8.wrap n, 0], t', endF t'] = List.replicate 64 (0 : Int) ++ m ++ [IntKind.u8.wrap (n.fdiv (2 ^ min (8 : Nat) IntKind.i64.bits)), IntKind.u8.wrap n, 0] ++ (t' ++ endF t') := by
      simp only [List.flatten_cons, List.flatten_nil, List.append_nil, List.append_assoc]
    refine ⟨by show t'.length ≤ _; omega, by omega, by omega, by omega, by omega, by omega, by omega, by omega, by omega, by decide, by decide, by omega, by omega, by omega, by omega, by omega, by omega, by omega, by omega, by omega, ⟨app_Bs (app_Bs (app_Bs bz hm) b3) (app_Bs ht' (endF_Bs _)), ?_⟩, ?_⟩
    · rw [List.length_append, List.length_append, List.length_append, List.length_append, List.length_replicate]
      show 64 + m.length + 3 + (t'.length + 1) ≤ _
      omega
    · refine ⟨by omega, triv_intro ⟨rfl, rfl, ?_, rfl⟩⟩
      rw [fstD, efl]
  rintro ⟨LT, T, D, Z⟩ hj
  revert T D Z
  intro (T : List Int) (D : List Int) (Z : List Int) ⟨hLT, hT, hD, hZ⟩
  have hLT : LT = t'.length + 1 := hLT
  have hT : T = t' ++ endF t' := hT
  have hD : D = fstD m t' n := hD
  have hZ : Z = List.replicate 32 0 := hZ
  have lT : T.length = LT := by rw [hT, hLT, List.length_append]; rfl
  have lZ : Z.length = 32 := by rw [hZ]; rfl
  have BD : Bs D := by rw [hD]; exact dig_Bs _
  have lD : D.length = 32 := by rw [hD]; exact dig_len _
  have BT : Bs T := by rw [hT]; exact app_Bs ht' (endF_Bs _)
  refine tr_frzI 8 136 LT 1 .u8 T (by kernel_rfl) (by kernel_rfl) lT ?_
  refine tr_frzI 12 320 32 1 .u8 Z (by kernel_rfl) (by kernel_rfl) lZ ?_
  refine tr_whileT (fun σ => [(304, rdI 11 σ)]) (fun σ => (rdS (.int .i64) 13 σ, rdL 11 σ, rdR by8 304 σ, rdO by8 12 σ)) (reL n T D) (fun g => ∃ k : Nat, k ≤ 300 ∧ g.1 = (k : Int) + 1 ∧ g.2.1 = 32 * k ∧ g.2.2.1 = (exK (spl D) t' k).1 ∧ (spl g.2.2.2 = (exK (spl D) t' k).2 ∧ Bs g.2.2.2 ∧ g.2.2.2.length = 32) ∧ ((32 * k : Nat) : Int) < n + 32) (fun g => n.toNat - g.2.1)
    (fun σ => (rdS (.int .i64) 13 σ, rdL 11 σ, rdR by8 304 σ, rdO by8 12 σ)) (reL n T D) (fun g => ∃ k : Nat, g.2.1 = 32 * k ∧ g.2.2.1 = (exK (spl D) t' k).1 ∧ ((32 * k : Nat) : Int) < n + 32 ∧ n ≤ ((32 * k : Nat) : Int)) (1, 0, [], Z) (c := nthC (codeOf Tryd.f12) 12) (by kernel_rfl) (by kernel_rfl) (le_of_proj (by kernel_rfl) (by kernel_rfl) ?_) ?_ ?_
  · refine ⟨0, by decide, rfl, rfl, rfl, ⟨?_, ?_, lZ⟩, ?_⟩
    · show spl Z = List.replicate 8 0
      rw [hZ, spl_0]
    · show Bs Z
      rw [hZ]
      intro y hy
      have := List.eq_of_mem_replicate hy; omega
    · show ((0 : Nat) : Int) < n + 32
      omega
  · rintro ⟨i, L, os, last⟩ hj
    revert i os last
    intro (i : Int) (os : List Int) (last : List Int) ⟨k, hk3, ei, eL, eo, ⟨es, eB, el⟩, hk⟩
    have ki : i = (k : Int) + 1 := ei
    have kL : L = 32 * k := eL
    have ko : os = (exK (spl D) t' k).1 := eo
    have ks : spl last = (exK (spl D) t' k).2 := es
    have kB : Bs last := eB
    have kl : last.length = 32 := el
    refine tr_cut hsp mixed 2 (reL n T D (i, L, os, last)) ((L : Int) < n) ?_ (fun hlt => ?_)
    · refine vcx (X := ((decide ((↑L : Int) < n) = true → (reL n T D (i, L, os, last)).triv ((↑L : Int) < n)) ∧ (decide ((↑L : Int) < n) = false → (reL n T D (i, L, os, last)).triv (∃ k, L = (32 : Nat) * k ∧ os = (exK (spl D) t' k).fst ∧ (↑((32 : Nat) * k) : Int) < n + (32 : Int) ∧ n ≤ (↑((32 : Nat) * k) : Int))))) (by kernel_rfl) ?_
      refine ⟨fun h => triv_intro (dT h), fun h => triv_intro ⟨k, kL, ko, hk, ?_⟩⟩
      have := dF h; omega
    refine tr_block (c := nthC (loopOf (nthC (codeOf Tryd.f12) 12)) 2) (by kernel_rfl) (by kernel_rfl) ?_
    refine tr_cut hsp mixed 2 (reX n T D i L os last (0, 0, [])) True ?_ (fun _ => ?_)
    · refine vcx (X := ((reX n T D i L os last ((0 : Int), (0 : Nat), [])).triv True)) (by kernel_rfl) ?_
      exact triv_intro trivial
    refine tr_while hsp mixed (fun σ => [(344, rdI 14 σ)]) (fun σ => (rdS (.int .i64) 15 σ, rdL 14 σ, rdR by8 344 σ)) (reX n T D i L os last) (fun g => ∃ j : Nat, j ≤ 32 ∧ g.1 = (j : Int) ∧ g.2.1 = j ∧ g.2.2 = xoL D last j) (fun g => 32 - g.1.toNat)
      (fun σ => (rdS (.int .i64) 15 σ, rdL 14 σ, rdR by8 344 σ)) (reX n T D i L os last) (fun g => g.2.1 = 32 ∧ g.2.2 = xoL D last 32) (0, 0, []) (c := nthC (bodyOf (nthC (loopOf (nthC (codeOf Tryd.f12) 12)) 2)) 2) (by kernel_rfl) (by kernel_rfl) (le_of_proj (by kernel_rfl) (by kernel_rfl) ?_) ?_ ?_
    · exact ⟨0, by decide, rfl, rfl, rfl⟩
    · rintro ⟨j, X, xs⟩ hj
      revert j xs
      intro (j : Int) (xs : List Int) ⟨s, hs, ej, eX, ex⟩
      have kj : j = (s : Int) := ej
      have kX : X = s := eX
      have kx : xs = xoL D last s := ex
      subst kj
      refine vcx (X := ((decide ((↑s : Int) < (32 : Int)) = true → ((0 : Int) ≤ (↑s : Int) ∧ (↑s : Int) < (↑D.length : Int)) ∧ (↑s : Int).toNat < D.length ∧ ((0 : Int) ≤ (↑s : Int) ∧ (↑s : Int) < (↑last.length : Int)) ∧ (↑s : Int).toNat < last.length ∧ (0 : Nat) + (1 : Nat) ≤ (1 : Nat) ∧ X ≤ X ∧ (X + (1 : Nat)) * (1 : Nat) ≤ (140737488355328 : Nat) ∧ X + (1 : Nat) ≤ (4611686018427387904 : Nat) ∧ (reX n T D i L os last (IntKind.i64.wrap ((↑s : Int) + (1 : Int)), X + (1 : Nat), List.take X xs ++ List.take (1 : Nat) [bitOp BinOp.xor IntKind.u8 (D.getD (↑s : Int).toNat (0 : Int)) (last.getD (↑s : Int).toNat (0 : Int))])).triv ((∃ j, j ≤ (32 : Nat) ∧ IntKind.i64.wrap ((↑s : Int) + (1 : Int)) = (↑j : Int) ∧ X + (1 : Nat) = j ∧ List.take X xs ++ List.take (1 : Nat) [bitOp BinOp.xor IntKind.u8 (D.getD (↑s : Int).toNat (0 : Int)) (last.getD (↑s : Int).toNat (0 : Int))] = xoL D last j) ∧ (32 : Nat) - (IntKind.i64.wrap ((↑s : Int) + (1 : Int))).toNat < (32 : Nat) - (↑s : Int).toNat)) ∧ (decide ((↑s : Int) < (32 : Int)) = false → (reX n T D i L os last ((↑s : Int), X, xs)).triv (X = (32 : Nat) ∧ xs = xoL D last (32 : Nat))))) (by kernel_rfl) ?_
      rw [lD, kl]
      simp only [Int.toNat_natCast]
      have lx : xs.length = X := by rw [kx, xoL, List.length_map, List.length_range, kX]
      refine ⟨fun h => ?_, fun h => triv_intro ?_⟩
      · have h32 : s < 32 := by have := dT h; omega
        rw [wrap_succ (by omega), tk lx]
        repeat refine ⟨by omega, ?_⟩
        refine triv_intro ⟨⟨s + 1, h32, rfl, by omega, ?_⟩, by omega⟩
        rw [kx, xoL_succ]; rfl
      · have e : s = 32 := by have := dF h; omega
        exact ⟨by omega, by rw [kx, e]⟩
    rintro ⟨j, X, xs⟩ hj
    revert j xs
    intro (j : Int) (xs : List Int) ⟨eX, ex⟩
    have kX : X = 32 := eX
    have kx : xs = xoL D last 32 := ex
    refine tr_cutSF hsp mixed 3 (fun σ => [(304, rdI 11 σ)]) (fun σ => (rdL 11 σ, rdR by8 304 σ, rdO by8 12 σ)) (fun g => reL n T D (i, g.1, g.2.1, g.2.2)) (fun g => g.1 = 32 * (k + 1) ∧ g.2.1 = os ++ g.2.2 ∧ g.2.2 = nxD (spl D) t' k (exK (spl D) t' k).2) ?_ ?_
    · refine vcx (X := ((0 : Nat) + (1 : Nat) ≤ (1 : Nat) ∧ X ≤ X ∧ (X + (1 : Nat)) * (1 : Nat) ≤ (140737488355328 : Nat) ∧ X + (1 : Nat) ≤ (4611686018427387904 : Nat) ∧ X + (1 : Nat) ≤ X + (1 : Nat) ∧ (X + (1 : Nat) + T.length) * (1 : Nat) ≤ (140737488355328 : Nat) ∧ X + (1 : Nat) + T.length ≤ (4611686018427387904 : Nat) ∧ (0 : Nat) + (X + (1 : Nat) + T.length) ≤ X + (1 : Nat) + T.length ∧ (Bs (List.take (X + (1 : Nat) + T.length) (List.take (X + (1 : Nat)) (List.take X xs ++ List.take (1 : Nat) [IntKind.u8.wrap i]) ++ T)) ∧ (List.take (X + (1 : Nat) + T.length) (List.take (X + (1 : Nat)) (List.take X xs ++ List.take (1 : Nat) [IntKind.u8.wrap i]) ++ T)).length ≤ (1099511627776 : Nat)) ∧ L ≤ L ∧ (L + (dig (List.take (X + (1 : Nat) + T.length) (List.take (X + (1 : Nat)) (List.take X xs ++ List.take (1 : Nat) [IntKind.u8.wrap i]) ++ T))).length) * (1 : Nat) ≤ (140737488355328 : Nat) ∧ L + (dig (List.take (X + (1 : Nat) + T.length) (List.take (X + (1 : Nat)) (List.take X xs ++ List.take (1 : Nat) [IntKind.u8.wrap i]) ++ T))).length ≤ (4611686018427387904 : Nat) ∧ (reL n T D (i, (L + (dig (List.take (X + (1 : Nat) + T.length) (List.take (X + (1 : Nat)) (List.take X xs ++ List.take (1 : Nat) [IntKind.u8.wrap i]) ++ T)), ()).fst.length, List.take L os ++ (dig (List.take (X + (1 : Nat) + T.length) (List.take (X + (1 : Nat)) (List.take X xs ++ List.take (1 : Nat) [IntKind.u8.wrap i]) ++ T)), ()).fst, (dig (List.take (X + (1 : Nat) + T.length) (List.take (X + (1 : Nat)) (List.take X xs ++ List.take (1 : Nat) [IntKind.u8.wrap i]) ++ T)), ()).fst).fst, (L + (dig (List.take (X + (1 : Nat) + T.length) (List.take (X + (1 : Nat)) (List.take X xs ++ List.take (1 : Nat) [IntKind.u8.wrap i]) ++ T)), ()).fst.length, List.take L os ++ (dig (List.take (X + (1 : Nat) + T.length) (List.take (X + (1 : Nat)) (List.take X xs ++ List.take (1 : Nat) [IntKind.u8.wrap i]) ++ T)), ()).fst, (dig (List.take (X + (1 : Nat) + T.length) (List.take (X + (1 : Nat)) (List.take X xs ++ List.take (1 : Nat) [IntKind.u8.wrap i]) ++ T)), ()).fst).snd.fst, (L + (dig (List.take (X + (1 : Nat) + T.length) (List.take (X + (1 : Nat)) (List.take X xs ++ List.take (1 : Nat) [IntKind.u8.wrap i]) ++ T)), ()).fst.length, List.take L os ++ (dig (List.take (X + (1 : Nat) + T.length) (List.take (X + (1 : Nat)) (List.take X xs ++ List.take (1 : Nat) [IntKind.u8.wrap i]) ++ T)), ()).fst, (dig (List.take (X + (1 : Nat) + T.length) (List.take (X + (1 : Nat)) (List.take X xs ++ List.take (1 : Nat) [IntKind.u8.wrap i]) ++ T)), ()).fst).snd.snd)).triv (L + (dig (List.take (X + (1 : Nat) + T.length) (List.take (X + (1 : Nat)) (List.take X xs ++ List.take (1 : Nat) [IntKind.u8.wrap i]) ++ T))).length = (32 : Nat) * (k + (1 : Nat)) ∧ List.take L os ++ dig (List.take (X + (1 : Nat) + T.length) (List.take (X + (1 : Nat)) (List.take X xs ++ List.take (1 : Nat) [IntKind.u8.wrap i]) ++ T)) = os ++ dig (List.take (X + (1 : Nat) + T.length) (List.take (X + (1 : Nat)) (List.take X xs ++ List.take (1 : Nat) [IntKind.u8.wrap i]) ++ T)) ∧ dig (List.take (X + (1 : Nat) + T.length) (List.take (X + (1 : Nat)) (List.take X xs ++ List.take (1 : Nat) [IntKind.u8.wrap i]) ++ T)) = nxD (spl D) t' k (exK (spl D) t' k).snd))) (by kernel_rfl) ?_
      have lx : xs.length = X := by rw [kx, xoL, List.length_map, List.length_range, kX]
      have lo : os.length = L := by rw [ko, exK_len, kL]
      have x1 : List.take 1 [IntKind.u8.wrap i] = [IntKind.u8.wrap i] := rfl
      have x2 : List.take (X + 1) (xs ++ [IntKind.u8.wrap i]) = xs ++ [IntKind.u8.wrap i] := tk (by rw [List.length_append, lx]; rfl)
      have x3 : List.take (X + 1 + T.length) (xs ++ [IntKind.u8.wrap i] ++ T) = xs ++ [IntKind.u8.wrap i] ++ T := tk (by rw [List.length_append, List.length_append, lx]; rfl)
      rw [tk lx, x1, x2, x3, tk lo, dig_len]
      have bx : Bs xs := by
        rw [kx]
        intro y hy
        have hy : y ∈ (List.range 32).map fun i => bitOp .xor .u8 (D.getD i 0) (last.getD i 0) := hy
        obtain ⟨j, _, rfl⟩ := List.mem_map.1 hy
        exact u8_bd _
      have bi : Bs [IntKind.u8.wrap i] := by
        intro y hy
        rw [List.mem_singleton] at hy
        rw [hy]; exact u8_bd _
      have en : dig (xs ++ [IntKind.u8.wrap i] ++ T) = nxD (spl D) t' k (exK (spl D) t' k).2 := by
        rw [nxD, ← ks, byt_ovr BD kB, ← kx, ki, hT]
        simp only [List.flatten_cons, List.flatten_nil, List.append_nil, List.append_assoc]
      refine ⟨by omega, by omega, by omega, by omega, by omega, by omega, by omega, by omega, ⟨app_Bs (app_Bs bx bi) BT, ?_⟩, by omega, by omega, by omega, triv_intro ⟨by omega, rfl, en⟩⟩
      rw [List.length_append, List.length_append, lx]
      show X + 1 + T.length ≤ _
      omega
    rintro ⟨L2, os2, z⟩ hj
    revert os2 z
    intro (os2 : List Int) (z : List Int) ⟨hL2, ho2, hz⟩
    have hL2 : L2 = 32 * (k + 1) := hL2
    have ho2 : os2 = os ++ z := ho2
    have hz : z = nxD (spl D) t' k (exK (spl D) t' k).2 := hz
    refine tr_nil ?_
    refine tr_vc hsp mixed _ _ ?_
    refine vcx (X := ((reL n T D (IntKind.i64.wrap (i + (1 : Int)), L2, os2, z)).triv ((∃ k, k ≤ (300 : Nat) ∧ IntKind.i64.wrap (i + (1 : Int)) = (↑k : Int) + (1 : Car (Kd.int IntKind.i64)) ∧ L2 = (32 : Nat) * k ∧ os2 = (exK (spl D) t' k).fst ∧ (spl z = (exK (spl D) t' k).snd ∧ Bs z ∧ z.length = (32 : Nat)) ∧ (↑((32 : Nat) * k) : Int) < n + (32 : Int)) ∧ n.toNat - L2 < n.toNat - L))) (by kernel_rfl) ?_
    have ew : IntKind.i64.wrap (i + 1) = ((k + 1 : Nat) : Int) + 1 := by rw [wrap_i64' (by omega) (by omega)]; omega
    rw [ew]
    refine triv_intro ⟨⟨k + 1, by omega, rfl, hL2, ?_, ⟨?_, ?_, ?_⟩, by omega⟩, by omega⟩
    · rw [ho2, hz, ko]; rfl
    · show spl z = _
      rw [hz]; rfl
    · show Bs z
      rw [hz, nxD]; exact dig_Bs _
    · show z.length = 32
      rw [hz, nxD]; exact dig_len _
  rintro ⟨i, L, os, last⟩ hj
  revert i os last
  intro (i : Int) (os : List Int) (last : List Int) ⟨k, eL, eo, hk1, hk2⟩
  have kL : L = 32 * k := eL
  have ko : os = (exK (spl D) t' k).1 := eo
  refine tr_vc hsp mixed _ _ ?_
  refine vcx (X := (((0 : Int) ≤ n ∧ n ≤ (↑L : Int)) ∧ (0 : Nat) + (n - (0 : Int)).toNat ≤ L ∧ (List.take (n - (0 : Int)).toNat os, (0 : Int), ()) = ((exA m t n).fst, (exA m t n).snd, ()))) (by kernel_rfl) ?_
  have eX : exA m t n = (expo m t n, 0) := by
    rw [exA, decide_eq_false (by omega), decide_eq_false (by omega)]; rfl
  have ek : k = (n.toNat + 31) / 32 := by omega
  have ef : spl D = fstF m t' n := by rw [hD, fstD, fstF]
  rw [eX]
  have lo : os.length = L := by rw [ko, exK_len, kL]
  have eE : expo m t n = os.take n.toNat := by
    rw [expo, opq_eq, expF, ← htg, ← ef, ← ek, ← ko]
  have e0 : (n - 0).toNat = n.toNat := by omega
  rw [eE, e0]
  exact ⟨⟨hn0, by omega⟩, by omega, rfl⟩
end Go.Proofs.YtbfimfdhmggieaaDoor.ref11
/- law11: XmdExpands. -/
namespace Go.Proofs.YtbfimfdhmggieaaDoor.law11
set_option maxRecDepth 100000
open Go Go.Eng Go.RowKit Cr Go.Proofs.YtbfimfdhmggieaaDoor.sha Go.Proofs.YtbfimfdhmggieaaDoor.xmd Go.Proofs.YtbfimfdhmggieaaDoor.ref01 Go.Proofs.YtbfimfdhmggieaaDoor
abbrev b8 : Kd := .sl (.int .u8)
theorem fr_reE : FnOk Tryd.prog 12 [b8, b8, .int .i64] [.val b8, .val (.int .i64)] noG ref11.preRe (fun (m, t, n, _) => ((exA m t n).1, (exA m t n).2, ())) := ref11.fn_expand.frz2
noncomputable def srReE : Nat × Eng.Spec := (12, fnSpec [b8, b8, .int .i64] [.val b8, .val (.int .i64)] ref11.preRe (fun (m, t, n, _) => ((exA m t n).1, (exA m t n).2, ())))
theorem ent_expands : enters Tryd.prog 3 Tryd.f3 := enters_mk (by kernel_rfl) (by kernel_rfl) (by kernel_rfl)
noncomputable def exA0 (a b : List Int) (n : Int) : St := mkSt Tryd.f3.ntmps 88 [(0, .is (.one (.ro (.int .u8) a))), (1, .is (.one (.ro (.int .u8) b))), (2, sI .i64 n)] []
noncomputable def exB0 (g : List Int × (Nat × List Int) × Nat × List Int) : St := mkSt Tryd.f3.ntmps 352 [(9, .is (.one (.ro (.int .u8) g.1))), (11, .is (.one (.sl 232 0 0 g.2.1.1 1))), (13, .is (.one (.sl 304 0 0 g.2.2.1 1))), (81, sI .i64 (g.2.1.1 : Int)), (82, sI .i64 0)] [(304, [.ints .u8 g.2.2.1 g.2.2.2]), (232, [.ints .u8 g.2.1.1 g.2.1.2])]
noncomputable def exC0 (w y : List Int) (L : Nat) (g : Int × List Int) : St := mkSt Tryd.f3.ntmps 352 [(9, .is (.one (.ro (.int .u8) w))), (11, .is (.one (.sl 232 0 0 L 1))), (13, .is (.one (.sl 304 0 0 L 1))), (81, sI .i64 (L : Int)), (82, sI .i64 g.1)] [(304, [.ints .u8 L y]), (232, [.ints .u8 L g.2])]
noncomputable def exD0 (w y : List Int) (L : Nat) : St := mkSt Tryd.f3.ntmps 352 [(9, .is (.one (.ro (.int .u8) w))), (13, .is (.one (.sl 304 0 0 L 1)))] [(304, [.ints .u8 L y])]
theorem exA_len (m t : List Int) (n : Int) : (exA m t n).1.length ≤ 8160 := by
  rw [exA]
  cases h : decide (n < 0) || decide (n > 8160)
  · have h2 := (Bool.or_eq_false_iff.1 h).2
    have := of_decide_eq_false h2
    show (expo m t n).length ≤ 8160
    rw [expo_len]; omega
  · show ([] : List Int).length ≤ 8160
    decide
theorem fn_expands : FnOk Tryd.prog 3 [b8, b8, .int .i64] [.val .bool] shaG (fun (a, b, n, _) => preB a ∧ preB b ∧ preI n) (fun _ => (true, ())) := by
  have hsp : SpecsOk Tryd.prog (sps [spHead, ref01.spCopy, srReE, xmd.spExpand, ref01.spSame]) := sps_cons (fnSpecG_ok fn_head) (sps_cons (fnSpec_ok ref01.fn_copy) (sps_cons (fnSpec_ok fr_reE) (sps_cons (fnSpecG_ok xmd.fn_expand) (sps_cons (fnSpec_ok ref01.fn_same) sps_nil))))
  refine fn_of_tr (sp := sps [spHead, ref01.spCopy, srReE, xmd.spExpand, ref01.spSame]) ent_expands (by decide) (by decide) (by kernel_rfl) ?_
  rintro w M0 ⟨a, b, n, ⟨⟩⟩
  revert a b n
  intro (a : List Int) (b : List Int) (n : Int) _ hp
  obtain ⟨ha, hb, hn⟩ := hp
  have ha2 : a.length ≤ 281474976710656 := ha.2
  have hb2 : b.length ≤ 281474976710656 := hb.2
  have hn : -9223372036854775808 ≤ n ∧ n < 9223372036854775808 := hn
  show Tr _ _ _ _ _ _ _
  refine tr_cutF hsp mixed 7 (fun σ => rdS (.int .i64) 2 σ) (exA0 a b) (fun _ => a.length ≤ 4096 ∧ b.length ≤ 4096) ?_ ?_
  · refine vcx (X := ((∀ (g : Nat) (s : Sigma Car), shaG g = some s → Decidable.rec (fun h => (fun x => if g = (1 : Nat) then some ⟨Kd.arr (64 : Nat) uK, rootsL⟩ else none) h) (fun h => (fun x => some ⟨Kd.arr (8 : Nat) uK, firstL⟩) h) (instDecidableEqNat g (0 : Nat)) = some s) ∧ True ∧ ((!true) = true → (false, ()) = (true, ())) ∧ ((!true) = false → (decide ((↑a.length : Int) > (4096 : Int)) = true → (true, ()) = (true, ())) ∧ (decide ((↑a.length : Int) > (4096 : Int)) = false → (decide ((↑b.length : Int) > (4096 : Int)) = true → (true, ()) = (true, ())) ∧ (decide ((↑b.length : Int) > (4096 : Int)) = false → (decide (n > (300 : Int)) = true → (decide (n ≤ (8160 : Int)) = true → (exA0 a b (bitOp BinOp.and IntKind.i64 n (255 : Int))).triv (a.length ≤ (4096 : Nat) ∧ b.length ≤ (4096 : Nat))) ∧ (decide (n ≤ (8160 : Int)) = false → (exA0 a b n).triv (a.length ≤ (4096 : Nat) ∧ b.length ≤ (4096 : Nat)))) ∧ (decide (n > (300 : Int)) = false → (exA0 a b n).triv (a.length ≤ (4096 : Nat) ∧ b.length ≤ (4096 : Nat)))))))) (by kernel_rfl) ?_
    refine ⟨fun _ _ h => h, trivial, (fun h => by cases h), fun _ => ⟨fun _ => rfl, fun h1 => ⟨fun _ => rfl, fun h2 => ?_⟩⟩⟩
    have h1 := of_decide_eq_false h1
    have h2 := of_decide_eq_false h2
    have h3 : a.length ≤ 4096 ∧ b.length ≤ 4096 := by omega
    exact ⟨fun _ => ⟨fun _ => triv_intro h3, fun _ => triv_intro h3⟩, fun _ => triv_intro h3⟩
  intro (n' : Int) ⟨la, lb⟩
  refine tr_cutF hsp mixed 8 (fun σ => (rdO (.int .u8) 9 σ, (rdL 11 σ, rdR (.int .u8) 232 σ), rdL 13 σ, rdR (.int .u8) 304 σ)) exB0 (fun g => (g.2.1.1 = g.1.length ∧ g.2.1.2 = g.1) ∧ (g.2.2.1 = g.1.length ∧ g.2.2.2 = g.1) ∧ g.1.length ≤ 8160) ?_ ?_
  · refine vcx (X := (preCopy (a, ()) ∧ preCopy (b, ()) ∧ ref11.preRe (a, b, n', ()) ∧ (∀ (g : Nat) (s : Sigma Car), shaG g = some s → Decidable.rec (fun h => (fun x => if g = (1 : Nat) then some ⟨Kd.arr (64 : Nat) uK, rootsL⟩ else none) h) (fun h => (fun x => some ⟨Kd.arr (8 : Nat) uK, firstL⟩) h) (instDecidableEqNat g (0 : Nat)) = some s) ∧ (0 : Nat) + a.length ≤ a.length ∧ (0 : Nat) + b.length ≤ b.length ∧ preEx (List.take a.length a, List.take b.length b, n', ()) ∧ (∀ (g : Nat) (s : Sigma Car), shaG g = some s → Decidable.rec (fun h => (fun x => if g = (1 : Nat) then some ⟨Kd.arr (64 : Nat) uK, rootsL⟩ else none) h) (fun h => (fun x => some ⟨Kd.arr (8 : Nat) uK, firstL⟩) h) (instDecidableEqNat g (0 : Nat)) = some s) ∧ (0 : Nat) + a.length ≤ a.length ∧ (0 : Nat) + b.length ≤ b.length ∧ preEx (List.take a.length a, List.take b.length b, n', ()) ∧ (((exA (List.take a.length a) (List.take b.length b) n').snd != (exA a b n').snd) = true → (false, ()) = (true, ())) ∧ (((exA (List.take a.length a) (List.take b.length b) n').snd != (exA a b n').snd) = false → (0 : Nat) + (exA (List.take a.length a) (List.take b.length b) n').fst.length ≤ (exA (List.take a.length a) (List.take b.length b) n').fst.length ∧ preSame (List.take (exA (List.take a.length a) (List.take b.length b) n').fst.length (exA (List.take a.length a) (List.take b.length b) n').fst, (exA a b n').fst, ()) ∧ ((!sameF (List.take (exA (List.take a.length a) (List.take b.length b) n').fst.length (exA (List.take a.length a) (List.take b.length b) n').fst) (exA a b n').fst) = true → (false, ()) = (true, ())) ∧ ((!sameF (List.take (exA (List.take a.length a) (List.take b.length b) n').fst.length (exA (List.take a.length a) (List.take b.length b) n').fst) (exA a b n').fst) = false → (0 : Nat) + a.length ≤ a.length ∧ preSame (List.take a.length a, a, ()) ∧ ((!sameF (List.take a.length a) a) = true → (false, ()) = (true, ())) ∧ ((!sameF (List.take a.length a) a) = false → (0 : Nat) + b.length ≤ b.length ∧ preSame (List.take b.length b, b, ()) ∧ ((!sameF (List.take b.length b) b) = true → (false, ()) = (true, ())) ∧ ((!sameF (List.take b.length b) b) = false → (exB0 (((exA a b n').fst, (exA a b n').snd, ()).fst, (((exA (List.take a.length a) (List.take b.length b) n').fst, (exA (List.take a.length a) (List.take b.length b) n').snd, ()).fst.length, ((exA (List.take a.length a) (List.take b.length b) n').fst, (exA (List.take a.length a) (List.take b.length b) n').snd, ()).fst), ((exA (List.take a.length a) (List.take b.length b) n').fst, (exA (List.take a.length a) (List.take b.length b) n').snd, ()).fst.length, ((exA (List.take a.length a) (List.take b.length b) n').fst, (exA (List.take a.length a) (List.take b.length b) n').snd, ()).fst)).triv (((exA (List.take a.length a) (List.take b.length b) n').fst.length = (exA a b n').fst.length ∧ (exA (List.take a.length a) (List.take b.length b) n').fst = (exA a b n').fst) ∧ ((exA (List.take a.length a) (List.take b.length b) n').fst.length = (exA a b n').fst.length ∧ (exA (List.take a.length a) (List.take b.length b) n').fst = (exA a b n').fst) ∧ (exA a b n').fst.length ≤ (8160 : Nat)))))))) (by kernel_rfl) ?_
    rw [List.take_length, List.take_length]
    have hl := exA_len a b n'
    generalize exA a b n' = E at *
    obtain ⟨E1, E2⟩ := E
    revert E1
    intro (E1 : List Int) (hl : E1.length ≤ 8160)
    have pa : preCopy (a, ()) := by show a.length ≤ _; omega
    have pb : preCopy (b, ()) := by show b.length ≤ _; omega
    have px : preEx (a, b, n', ()) := ⟨by show a.length ≤ _; omega, by show b.length ≤ _; omega⟩
    have same : ∀ l : List Int, sameF (List.take l.length l) l = true := fun l => by rw [List.take_length, sameF, decide_eq_true rfl]
    have sam : ∀ l : List Int, sameF l l = true := fun l => by rw [sameF, decide_eq_true rfl]
    refine ⟨pa, pb, ⟨⟨ha.1, by show a.length ≤ _; omega⟩, hb.1, by show b.length ≤ _; omega⟩, fun _ _ h => h, by omega, by omega, px, fun _ _ h => h, by omega, by omega, px, fun h => by simp at h, fun _ => ⟨by omega, by show (List.take E1.length E1).length < _; rw [List.take_length]; omega, fun h => ?_, fun _ => ⟨by omega, by show a.length < _; omega, fun h => ?_, fun _ => ⟨by omega, by show b.length < _; omega, fun h => ?_, fun _ => triv_intro ⟨⟨rfl, rfl⟩, ⟨rfl, rfl⟩, hl⟩⟩⟩⟩⟩
    · rw [same E1] at h; cases h
    · rw [sam a] at h; cases h
    · rw [sam b] at h; cases h
  rintro ⟨v, ⟨L, x⟩, L2, y⟩ hj
  revert v x y
  intro (v : List Int) (x : List Int) (y : List Int) ⟨⟨hL, hx⟩, ⟨hL2, hy⟩, hv⟩
  have hL : L = v.length := hL
  have hL2 : L2 = v.length := hL2
  have hx : x = v := hx
  have hy : y = v := hy
  have hv : v.length ≤ 8160 := hv
  rw [hL2, ← hL]
  refine tr_while hsp mixed noSw (fun σ => (rdS (.int .i64) 82 σ, rdR (.int .u8) 232 σ)) (exC0 v y L) (fun g => ∃ k : Nat, k ≤ L ∧ g.1 = (k : Int) ∧ g.2.length = L) (fun g => L - g.1.toNat)
    (fun _ => ()) (fun _ => exD0 v y L) (fun _ => True) (0, x) (c := nthC (codeOf Tryd.f3) 15) (by kernel_rfl) (by kernel_rfl) (le_of_proj (by kernel_rfl) (by kernel_rfl) ?_) ?_ ?_
  · exact ⟨0, Nat.zero_le _, rfl, by rw [hx, hL]⟩
  · rintro ⟨i, z⟩ ⟨k, hk, ei, lz⟩
    revert i z
    intro (i : Int) (z : List Int) (ei : i = (k : Int)) (lz : z.length = L)
    subst ei
    refine vcx (X := ((decide ((↑k : Int) < (↑L : Int)) = true → ((0 : Int) ≤ (↑k : Int) ∧ (↑k : Int) < (↑L : Int)) ∧ (↑k : Int).toNat < L ∧ ((0 : Int) ≤ (↑k : Int) ∧ (↑k : Int) < (↑L : Int)) ∧ (↑k : Int).toNat < L ∧ (exC0 v y L (IntKind.i64.wrap ((↑k : Int) + (1 : Int)), z.set (↑k : Int).toNat (bitOp BinOp.xor IntKind.u8 (z.getD (↑k : Int).toNat (0 : Int)) (255 : Int)))).triv ((∃ k_1, k_1 ≤ L ∧ IntKind.i64.wrap ((↑k : Int) + (1 : Int)) = (↑k_1 : Int) ∧ (z.set (↑k : Int).toNat (bitOp BinOp.xor IntKind.u8 (z.getD (↑k : Int).toNat (0 : Int)) (255 : Int))).length = L) ∧ L - (IntKind.i64.wrap ((↑k : Int) + (1 : Int))).toNat < L - (↑k : Int).toNat)) ∧ (decide ((↑k : Int) < (↑L : Int)) = false → (exD0 v y L).triv True))) (by kernel_rfl) ?_
    rw [Int.toNat_natCast]
    refine ⟨fun h => ?_, fun _ => triv_intro trivial⟩
    have hlt : k < L := by have := of_decide_eq_true h; omega
    rw [wrap_i64' (by omega) (by omega)]
    exact ⟨⟨by omega, by omega⟩, hlt, ⟨by omega, by omega⟩, hlt, triv_intro ⟨⟨k + 1, hlt, rfl, by rw [List.length_set]; exact lz⟩, by omega⟩⟩
  rintro ⟨⟩ _
  refine tr_vc hsp mixed _ _ ?_
  refine vcx (X := ((0 : Nat) + L ≤ L ∧ preSame (List.take L y, v, ()) ∧ (sameF (List.take L y) v, ()) = (true, ()))) (by kernel_rfl) ?_
  have e1 : List.take L y = y := List.take_of_length_le (Nat.le_of_eq (by rw [hy, hL]))
  rw [e1, hy, sameF, decide_eq_true rfl]
  exact ⟨by omega, by show v.length < _; omega, rfl⟩
end Go.Proofs.YtbfimfdhmggieaaDoor.law11
/- From a contract to a law's row where package variables read as listed. -/
namespace Go.Eng
open Go Go.RowKit Cr Go.ChangeShapes Go.WideShapes Go.ChangeAt
/-- An array of integers that reads as these. -/
theorem laid_ints {P : Program} {t e : TypeId} {n : Nat} {k : IntKind} {H : Type} {enc : TypeId × Value → H} {W : World} {fl : Bool} {fuel : Nat} {cs : List Value} {p : List MemPlace} {xs : List Int} (ht : P.underlying t = some (.array n e)) (he : P.underlying e = some (.int k)) (hce : P.cellsOf e = 1) (hct : P.cellsOf t = n)
    (h : DataW.trod enc P W 0 (fun _ => true) fl fuel t cs = some (.agg (xs.map fun x => .lit (.int k x)), p)) : cs = xs.map (Value.int k) := by
  obtain ⟨ys, m, rfl, hx, hlen, hn, hel⟩ := DataW.trod_array ht h
  simp only [Prod.mk.injEq, DataW.agg.injEq] at hx
  obtain ⟨hx, _⟩ := hx
  have hxl : xs.length = n := by
    have := congrArg List.length hx
    simpa [hn] using this
  refine List.ext_getElem (by rw [hlen, hct, List.length_map, hxl]) fun i h1 h2 => ?_
  have hin : i < n := by rw [hlen, hct] at h1; exact h1
  have h3 := hel i hin
  rw [hce, Nat.mul_one, List.getElem?_eq_getElem (by omega)] at h3
  obtain ⟨z, e1, e2, _⟩ := DataW.trod_int he h3
  have e3 : (cs.drop i).take 1 = [cs[i]] := by rw [List.drop_eq_getElem_cons h1]; rfl
  rw [e3] at e1
  simp only [List.cons.injEq, and_true] at e1
  have h4 : (xs.map fun x => (DataW.lit (.int k x) : DataW H))[i]? = (ys.map (·.1))[i]? := by rw [hx]
  rw [List.getElem?_map, List.getElem?_map, List.getElem?_eq_getElem (by omega), List.getElem?_eq_getElem (by omega)] at h4
  simp only [Option.map_some, Option.some.injEq] at h4
  rw [e2] at h4
  simp only [DataW.lit.injEq, Lit.int.injEq, true_and] at h4
  rw [e1, List.getElem_map, h4]
/-- What a listed table is in memory. -/
theorem laid_row {P : Program} {W : World} {nm : String} {g n : Nat} {k : IntKind} {cs : Array Value} {xs : List Int} (hg : P.globalNamed nm = some g) (hv : W.var? P nm = some cs) (hcs : cs.toList = xs.map (Value.int k)) (hx : xs.length = n) : RowAt (Rd (memOf W) (.arr n (.int k))) (width (.arr n (.int k))) (memOf W) g 0 [xs] := by
  have hh : ∃ el fr, W.heap[g]? = some (.cells cs el fr) := by
    simp only [World.var?, hg, Option.bind_some] at hv
    split at hv
    · rename_i c el fr hh
      simp only [Option.some.injEq] at hv
      subst hv
      exact ⟨el, fr, hh⟩
    · cases hv
  obtain ⟨el, fr, hh⟩ := hh
  obtain ⟨l⟩ := cs
  have hcs : l = xs.map (Value.int k) := hcs
  refine ⟨l, memOf_blk hh, ?_, ?_⟩
  · simp [width, hcs, hx]
  · rw [List.drop_zero, List.take_of_length_le (by simp [width, hcs, hx])]
    exact RdL_one ⟨hx, RdL_int.2 hcs⟩
/-- A law: true; its arguments read as they did; package variables are what G says. -/
theorem law_rowG {C : Checked} {f : FuncId} {fn : Func} {s : ChangeSpec} {bt : TypeId} {ts : List TypeId} {ks : List Kd} {pre pre' : HL ks → Prop} {H : Type} {enc : TypeId × Value → H} {G : Glob}
    (he : enters C.prog f fn) (hf : FnOk C.prog f ks [.val .bool] G pre (fun _ => (true, ()))) (hl : laidOutB C.prog = true) (hts : fn.params.toList = ts) (hrs : fn.resultTypes = #[bt]) (hbt : C.prog.underlying bt = some .bool)
    (ho : OpnL C.prog ts ks pre') (hpre : ∀ xs, pre' xs → pre xs) (hv : s.vars = []) (hs : ∀ ds : List (DataW H), ds.length = ts.length → s.fn H ds = { results := [.lit (.bool true)], args := ds })
    (W : World) (hG : GlOk G (memOf W)) (base : Nat) (args : Array Value) (ds gs : List (DataW H)) (before : List MemPlace)
    (hok : ∀ (j : Nat) t v, fn.params[j]? = some t → args[j]? = some v → Value.okWide C.prog W .any base t v)
    (hW : DataW.Whole enc C.prog fn.params.toList s.vars false W args.toList ds gs before)
    (hsz : (DataW.weightsEach C.prog (fn.params.toList ++ s.plain.varTypes C.prog) (ds ++ gs)).all (· ≤ reachBytes) = true) :
    Calls C.prog f args W fun e W' => ∃ v, e = .returned v ∧ s.post enc C.prog fn false true false false W args v W' := by
  have hW' := hW
  have hlt : ∀ x ∈ before, x.block < W.heap.size := fun x hx => by simpa using hW'.lt x hx
  obtain ⟨p, q, hA, hV, rfl, hfz, hnd⟩ := hW
  rw [hv] at hV
  obtain ⟨rfl, rfl⟩ := trodVars_none hV
  rw [hts] at hA
  have hlen : ds.length = ts.length := by
    exact trodAll_len hA
  have hwt : ∀ n ∈ DataW.weightsEach C.prog ts ds, n ≤ reachBytes := by
    intro n hn
    have e : s.plain.varTypes C.prog = [] := by simp [DataSpec.varTypes, ChangeSpec.plain, hv]
    rw [e, hts, List.append_nil, List.append_nil, List.all_eq_true] at hsz
    simpa using hsz n hn
  obtain ⟨xs, hin, hp⟩ := opnL_open ho (enc := enc) (W := W) (base := base) (vs := args.toList) (ds := ds) (p := p) (fun j t v ht hj => hok j t v (by rw [← hts] at ht; simpa using ht) (by simpa using hj)) hA hwt
  have hc := hf W (memOf W) args.toList xs (fun b l h => h) hG hin (hpre xs hp)
  refine (callOk_calls he hc).mono ?_
  rintro e W' ⟨v, rfl, vs, ob, rfl, ⟨v, vs', rfl, hv1, rfl⟩, hb⟩
  have hv1 : v = .bool true := by have h : [v] = [Value.bool true] := hv1; simpa using h
  subst hv1
  refine ⟨_, rfl, ds, [], p ++ [], [], p, [], hW', ?_, ?_, ?_, ?_, fun h => by cases h⟩
  · rw [hrs, List.append_nil, hs ds hlen]
    exact trodAll_mk1 (shut_bool hbt true)
  · rw [hts, List.append_nil, hs ds hlen]
    exact opnL_stays hl ho hb hA (fun x hx => hlt x (by simpa using hx))
  · rw [hv, List.append_nil, hs ds hlen]
    rfl
  · exact hb.frame _
end Go.Eng
/- sha's tables as the card's rows list them. -/
namespace Go.Proofs.YtbfimfdhmggieaaDoor.sha
set_option maxRecDepth 100000
open Go Go.Eng Go.RowKit Cr Go.Proofs.YtbfimfdhmggieaaDoor
abbrev shaLaid : List (String × DataW Unit) := [("cresset/sha.first", Rows.laid_cresset_sha_first), ("cresset/sha.roots", Rows.laid_cresset_sha_roots)]
theorem gFirst : Tryd.prog.globalNamed "cresset/sha.first" = some 0 := by kernel_rfl
theorem gRoots : Tryd.prog.globalNamed "cresset/sha.roots" = some 1 := by kernel_rfl
theorem tFirst : (Tryd.prog.globals[0]?).map (·.type) = some 77 := by kernel_rfl
theorem tRoots : (Tryd.prog.globals[1]?).map (·.type) = some 171 := by kernel_rfl
/-- What the condition says of memory. -/
theorem sha_glob {W : World} (h : laidMetH Tryd.prog shaLaid W) : GlOk shaG (memOf W) := by
  rw [MakeChecks.laidMetH_plain _ _ _ (by kernel_rfl)] at h
  obtain ⟨ps, ⟨g0, t0, cs0, f0, p0, q0, hg0, ht0, hv0, hd0, ⟨g1, t1, cs1, f1, p1, q1, hg1, ht1, hv1, hd1, _, _⟩, _⟩, _, _⟩ := h
  obtain rfl := Option.some.inj (gFirst.symm.trans hg0)
  obtain rfl := Option.some.inj (gRoots.symm.trans hg1)
  obtain rfl := Option.some.inj (tFirst.symm.trans ht0)
  obtain rfl := Option.some.inj (tRoots.symm.trans ht1)
  have e0 : (Rows.laid_cresset_sha_first : DataW Unit) = .agg (firstL.map fun x => .lit (.int .u32 x)) := rfl
  have e1 : (Rows.laid_cresset_sha_roots : DataW Unit) = .agg (rootsL.map fun x => .lit (.int .u32 x)) := rfl
  rw [e0] at hd0
  rw [e1] at hd1
  have c0 := laid_ints (e := 76) (n := 8) (k := .u32) (by kernel_rfl) (by kernel_rfl) (by kernel_rfl) (by kernel_rfl) hd0
  have c1 := laid_ints (e := 76) (n := 64) (k := .u32) (by kernel_rfl) (by kernel_rfl) (by kernel_rfl) (by kernel_rfl) hd1
  have r0 := laid_row hg0 hv0 c0 (n := 8) rfl
  have r1 := laid_row hg1 hv1 c1 (n := 64) rfl
  intro g e x hx
  unfold shaG at hx
  split at hx
  · rename_i hg
    subst hg
    simp only [Option.some.injEq] at hx
    cases hx
    exact r0
  · split at hx
    · rename_i hg
      subst hg
      simp only [Option.some.injEq] at hx
      cases hx
      exact r1
    · cases hx
/-- The door's own heap meets the condition. -/
theorem door_met (os : Os) (args : Array Value) : laidMetH Tryd.prog shaLaid ((World.doorLaid Tryd.prog 400 os).forCall (fun _ _ => 0) ⟨#[], args, []⟩).memory :=
  laidMetH_of_parts3 (fuel := 8) (laidMet_of_run' 8 (by kernel_rfl) (by kernel_rfl)) (by kernel_rfl) (by kernel_rfl)
end Go.Proofs.YtbfimfdhmggieaaDoor.sha
namespace Go.Proofs.YtbfimfdhmggieaaDoor
set_option maxRecDepth 100000
open Go Go.Eng Go.RowKit Cr Go.ChangeShapes Go.WideShapes Go.ChangeAt

namespace xmdExpands
theorem own : ownKnob Tryd.prog.godebug = none := by kernel_rfl
theorem laidOut : laidOutB Tryd.prog = true := by kernel_rfl
abbrev wtB : Car bsl → Prop := fun ys => List.length ys * Tryd.prog.bytesOf 5 ≤ reachBytes ∧ ∀ y ∈ ys, (Lit.int .u8 y).wf = true
theorem oB : OpnV Tryd.prog 22 bsl wtB := opnV_slice (e := 5) (by kernel_rfl) (by kernel_rfl) (by decide) (opnC_int (by kernel_rfl))
theorem bytes5 : Tryd.prog.bytesOf 5 = 1 := by kernel_rfl
theorem pB {xs : List Int} (h : wtB xs) : preB xs := by
  obtain ⟨h1, h2⟩ := h
  rw [bytes5] at h1
  refine ⟨fun x hx => ?_, ?_⟩
  · have := h2 x hx
    simp [Lit.wf, IntKind.min, IntKind.max, IntKind.signed, IntKind.bits] at this
    omega
  · show List.length xs ≤ _
    simp only [reachBytes] at h1
    omega
abbrev wtI : Car (.int .i64) → Prop := fun x => (Lit.int .i64 x).wf = true
theorem oI : OpnV Tryd.prog 3 (.int .i64) wtI := opnV_int (by kernel_rfl)
theorem pI {x : Int} (h : wtI x) : preI x := by
  have : (Lit.int .i64 x).wf = true := h
  simp [Lit.wf, IntKind.min, IntKind.max, IntKind.signed, IntKind.bits] at this
  exact ⟨by omega, by omega⟩
theorem opened : OpnL Tryd.prog [22, 22, 3] [bsl, bsl, .int .i64] (fun x => wtB x.1 ∧ wtB x.2.1 ∧ wtI x.2.2.1 ∧ True) :=
  .cons oB (by kernel_rfl) (of_decide_eq_true (by kernel_rfl)) (.cons oB (by kernel_rfl) (of_decide_eq_true (by kernel_rfl)) (.cons oI (by kernel_rfl) (of_decide_eq_true (by kernel_rfl)) .nil))
theorem lifted (os : Os) (started : os.Started) (H : Type) (enc : TypeId × Value → H) :
    ReturnsInHanded {} Tryd.checked os 3 .any (fun w args => (Rows.xmdExpandsSpec.pre enc Tryd.prog Tryd.f3 Rows.xmdExpandsRow.domain false w args ∧ laidMetH Tryd.prog sha.shaLaid w) ∧ sizedMet enc Tryd.prog Tryd.f3 (OpenSpec.ofChange Rows.xmdExpandsSpec) false w args) (Rows.xmdExpandsSpec.post enc Tryd.prog Tryd.f3 false true false false) := by
  refine returnsInHanded_of_change_and (C := Tryd.checked) (X := fun w _ => laidMetH Tryd.prog sha.shaLaid w) (fun _ _ _ hh h => h.of_heap hh) own started (by kernel_rfl) Tryd.func3
    (ChangeSpec.witness_shaped (enc := enc) (C := Tryd.checked) (os := os) (X := fun w _ => laidMetH Tryd.prog sha.shaLaid w) false (World.doorLaid Tryd.prog 400 os) #[.slice none 0 0, .slice none 0 0, .int .i64 0] 8 rfl (World.shaped_of_RefB (by kernel_rfl) (by kernel_rfl)) (by kernel_rfl) (by kernel_rfl) (by kernel_rfl) (sha.door_met os _)) ?_
  intro W base args ds gs before hval hW _ hsz hL _
  refine law_rowG (C := Tryd.checked) (bt := 4) (ts := [22, 22, 3]) law11.ent_expands law11.fn_expands laidOut (by kernel_rfl) (by kernel_rfl) (by kernel_rfl) opened ?_ rfl ?_ W (sha.sha_glob hL) base args ds gs before hval hW hsz
  · rintro ⟨x0, x1, x2, ⟨⟩⟩ ⟨h0, h1, h2, _⟩
    exact ⟨pB h0, pB h1, pI h2⟩
  · intro ds hl
    match ds, hl with
    | [d0, d1, d2], _ => rfl

theorem row : Rows.XmdExpandsSaid :=
  OpenClaim.holds_of_wide 3 Tryd.f3 rfl rfl rfl rfl rfl rfl rfl ⟨rfl, rfl, rfl, rfl, rfl⟩ rfl rfl rfl rfl rfl (by kernel_rfl) Tryd.func3 (by kernel_rfl)
    (of_decide_eq_true (by kernel_rfl)) (by unfold Func.isWrapper; first | (rw [if_pos (by decide +kernel)]; kernel_rfl) | (rw [if_neg (by decide +kernel)]; exact ⟨rfl, rfl⟩))
    (fun os started H enc _ => lifted os started H enc)
theorem wants : (Tryd.f3.params.toList.all fun u => !Tryd.prog.wantsStandIn u) = true := by kernel_rfl
/-- THE TIED CARD. -/
theorem proved : Rows.XmdExpandsCardSaid :=
  Claim7.holds_tied_plain_at .later [] [.data, .data] true (true, "30c18024f5400744120caf5eb37e15b2bb597e6febcf776de2208ae38104d59e") false
    row (fun _ h => by cases h) (by kernel_rfl) (fun _ h => by cases h) xmdExpands_row_tie rfl ⟨rfl, rfl⟩ (by kernel_rfl) rfl
    (fun f fn hf hfn => by
      obtain rfl : f = 3 := Option.some.inj ((show Tryd.prog.funcNamed "cresset/cressetlaw11.XmdExpands" = some 3 by kernel_rfl).symm.trans hf) |>.symm
      obtain rfl : fn = Tryd.f3 := (Option.some.inj (Tryd.func3.symm.trans hfn)).symm
      exact ⟨by kernel_rfl, fun j t ht => by
        have hm : t ∈ Tryd.f3.params.toList := by simpa using Array.mem_of_getElem? ht
        exact (show Tryd.prog.wantsStandIn t = false by simpa using List.all_eq_true.1 wants t hm)⟩)
    (by kernel_rfl)
#print axioms proved
end xmdExpands
end Go.Proofs.YtbfimfdhmggieaaDoor
