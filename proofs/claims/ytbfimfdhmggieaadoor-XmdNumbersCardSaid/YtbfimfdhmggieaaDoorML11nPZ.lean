/- ref03: Times. -/
import Derived.Test.YtbfimfdhmggieaaDoorML11nPY
/- ref11: Expand. -/
namespace Go.Proofs.YtbfimfdhmggieaaDoor.ref11
set_option maxRecDepth 100000
open Go Go.Eng Go.RowKit Cr Go.Proofs.YtbfimfdhmggieaaDoor Go.Proofs.YtbfimfdhmggieaaDoor.sha Go.Proofs.YtbfimfdhmggieaaDoor.xmd Go.Proofs.YtbfimfdhmggieaaDoor.ref01
abbrev by8 : Kd := .int .u8
abbrev bs8 : Kd := .sl by8
theorem fr_sum : FnOk Tryd.prog 43 [bs8] [.val bs8] noG (fun (b, _) => Bs b ∧ List.length b ≤ 1099511627776) (fun (b, _) => (dig b, ())) := ref01.fn_sum.frz
noncomputable def srSum : Nat × Eng.Spec := (43, fnSpec [bs8] [.val bs8] (fun (b, _) => Bs b ∧ List.length b ≤ 1099511627776) (fun (b, _) => (dig b, ())))
theorem ent_expand : enters Tryd.prog 12 Tryd.f12 := enters_mk (by kernel_rfl) (by kernel_rfl) (by kernel_rfl)
noncomputable def reA (m : List Int) (n : Int) (t : List Int) : St := mkSt Tryd.f12.ntmps 88 [(0, .is (.one (.ro by8 m))), (1, .is (.one (.ro by8 t))), (2, sI .i64 n)] []
noncomputable def reB (n : Int) (g : Nat × List Int × List Int × List Int) : St := mkSt Tryd.f12.ntmps 344 [(2, sI .i64 n), (8, .is (.one (.sl 136 0 0 g.1 1))), (10, .is (.one (.ro by8 g.2.2.1))), (11, .is (.one (.sl 304 0 0 0 1))), (12, .is (.one (.sl 320 0 0 32 1))), (13, sI .i64 1)] [(320, [.ints .u8 32 g.2.2.2]), (304, [.ints .u8 0 []]), (136, [.ints .u8 g.1 g.2.1])]
noncomputable def reL (n : Int) (T D : List Int) (g : Int × Nat × List Int × List Int) : St := mkSt Tryd.f12.ntmps 344 [(2, sI .i64 n), (8, .is (.one (.ro by8 T))), (10, .is (.one (.ro by8 D))), (11, .is (.one (.sl 304 0 0 g.2.1 1))), (12, .is (.one (.ro by8 g.2.2.2))), (13, sI .i64 g.1)] [(304, [.ints .u8 g.2.1 g.2.2.1])]
noncomputable def reX (n : Int) (T D : List Int) (i : Int) (L : Nat) (os last : List Int) (g : Int × Nat × List Int) : St := mkSt Tryd.f12.ntmps 368 [(2, sI .i64 n), (8, .is (.one (.ro by8 T))), (10, .is (.one (.ro by8 D))), (11, .is (.one (.sl 304 0 0 L 1))), (12, .is (.one (.ro by8 last))), (13, sI .i64 i), (14, .is (.one (.sl 344 0 0 g.2.1 1))), (15, sI .i64 g.1)] [(344, [.ints .u8 g.2.1 g.2.2]), (304, [.ints .u8 L os])]
abbrev preRe : HL [bs8, bs8, .int .i64] → Prop := fun (m, t, _, _) => (Bs m ∧ List.length m ≤ 1048576) ∧ Bs t ∧ List.length t ≤ 1048576
theorem dig_Bs (L : List Int) : Bs (dig L) := by
  rw [dig, opq_eq, digF, outB]
  intro x hx
  obtain ⟨i, _, rfl⟩ := List.mem_map.1 hx
  generalize (Int.fdiv _ _) = y
  simp [IntKind.wrap, IntKind.signed, IntKind.bits]
  omega
theorem app_Bs {a b : List Int} (ha : Bs a) (hb : Bs b) : Bs (a ++ b) := fun y hy => by
  rcases List.mem_append.1 hy with h | h
  · exact ha y h
  · exact hb y h
theorem u8_bd (y : Int) : 0 ≤ IntKind.u8.wrap y ∧ IntKind.u8.wrap y < 256 := by
  simp [IntKind.wrap, IntKind.signed, IntKind.bits]; omega
theorem endF_Bs (t : List Int) : Bs (endF t) := by
  intro y hy
  have hy : y ∈ [IntKind.u8.wrap (t.length : Int)] := hy
  rw [List.mem_singleton] at hy
  rw [hy]; exact u8_bd _
theorem tagF_le (t : List Int) : (tagF t).length ≤ 255 := by
  unfold tagF
  split
  · rw [dig_len]; decide
  · rename_i h
    have := of_decide_eq_false h; omega
theorem tagF_Bs {t : List Int} (h : Bs t) : Bs (tagF t) := by
  unfold tagF
  split
  · exact dig_Bs _
  · exact h
/-- The first digest. -/
noncomputable def fstD (msg t : List Int) (n : Int) : List Int := dig (List.flatten [List.replicate 64 0, msg, [IntKind.u8.wrap (n.fdiv (2 ^ min (8 : Nat) IntKind.i64.bits)), IntKind.u8.wrap n, 0], t, endF t])
theorem xoL_succ (a b : List Int) (k : Nat) : xoL a b (k + 1) = xoL a b k ++ [bitOp .xor .u8 (a.getD k 0) (b.getD k 0)] := by
  unfold xoL
  rw [List.range_succ, List.map_append]; rfl
theorem tk {l : List Int} {n : Nat} (h : l.length = n) : List.take n l = l := List.take_of_length_le (Nat.le_of_eq h)
set_option maxHeartbeats 8000000 in
theorem fn_expand : FnOk Tryd.prog 12 [bs8, bs8, .int .i64] [.own by8, .val (.int .i64)] noG preRe (fun (m, t, n, _) => ((exA m t n).1, (exA m t n).2, ())) := by
  have hsp : SpecsOk Tryd.prog (sps [srSum, ref01.spCopy]) := sps_cons (fnSpec_ok fr_sum) (sps_cons (fnSpec_ok ref01.fn_copy) sps_nil)
  refine fn_of_tr (sp := sps [srSum, ref01.spCopy]) ent_expand (by decide) (by decide) (by kernel_rfl) ?_
  rintro w M0 ⟨m, t, n, ⟨⟩⟩
  revert m t n
  intro (m : List Int) (t : List Int) (n : Int) _ hp
  obtain ⟨⟨hm, lm⟩, ht, lt⟩ := hp
  have lm : m.length ≤ 1048576 := lm
  have lt : t.length ≤ 1048576 := lt
  show Tr _ _ _ _ _ _ _
  refine tr_cutF hsp mixed 5 (fun σ => rdO by8 1 σ) (reA m n) (fun t' => t' = tagF t ∧ 0 ≤ n ∧ n ≤ 8160) ?_ ?_
  · refine vcx (X := ((decide (n < (0 : Int)) = true → ([], (1 : Int), ()) = ((exA m t n).fst, (exA m t n).snd, ())) ∧ (decide (n < (0 : Int)) = false → (decide (n > (8160 : Int)) = true → ([], (1 : Int), ()) = ((exA m t n).fst, (exA m t n).snd, ())) ∧ (decide (n > (8160 : Int)) = false → (decide ((↑t.length : Int) > (255 : Int)) = true → nat_lit 16 + (1 : Nat) ≤ (17 : Nat) ∧ (nat_lit 16 + (1 : Nat) + t.length) * (1 : Nat) ≤ (140737488355328 : Nat) ∧ nat_lit 16 + (1 : Nat) + t.length ≤ (4611686018427387904 : Nat) ∧ (0 : Nat) + (nat_lit 16 + (1 : Nat) + t.length) ≤ nat_lit 16 + (1 : Nat) + t.length ∧ (Bs (List.take (nat_lit 16 + (1 : Nat) + t.length) (List.take (nat_lit 16 + (1 : Nat)) [(72 : Int), (50 : Int), (67 : Int), (45 : Int), (79 : Int), (86 : Int), (69 : Int), (82 : Int), (83 : Int), (73 : Int), (90 : Int), (69 : Int), (45 : Int), (68 : Int), (83 : Int), (84 : Int), (45 : Int)] ++ t)) ∧ (List.take (nat_lit 16 + (1 : Nat) + t.length) (List.take (nat_lit 16 + (1 : Nat)) [(72 : Int), (50 : Int), (67 : Int), (45 : Int), (79 : Int), (86 : Int), (69 : Int), (82 : Int), (83 : Int), (73 : Int), (90 : Int), (69 : Int), (45 : Int), (68 : Int), (83 : Int), (84 : Int), (45 : Int)] ++ t)).length ≤ (1099511627776 : Nat)) ∧ (reA m n (dig (List.take (nat_lit 16 + (1 : Nat) + t.length) (List.take (nat_lit 16 + (1 : Nat)) [(72 : Int), (50 : Int), (67 : Int), (45 : Int), (79 : Int), (86 : Int), (69 : Int), (82 : Int), (83 : Int), (73 : Int), (90 : Int), (69 : Int), (45 : Int), (68 : Int), (83 : Int), (84 : Int), (45 : Int)] ++ t)), ()).fst).triv (dig (List.take (nat_lit 16 + (1 : Nat) + t.length) (List.take (nat_lit 16 + (1 : Nat)) [(72 : Int), (50 : Int), (67 : Int), (45 : Int), (79 : Int), (86 : Int), (69 : Int), (82 : Int), (83 : Int), (73 : Int), (90 : Int), (69 : Int), (45 : Int), (68 : Int), (83 : Int), (84 : Int), (45 : Int)] ++ t)) = tagF t ∧ (0 : Int) ≤ n ∧ n ≤ (8160 : Int))) ∧ (decide ((↑t.length : Int) > (255 : Int)) = false → (reA m n t).triv (t = tagF t ∧ (0 : Int) ≤ n ∧ n ≤ (8160 : Int))))))) (by kernel_rfl) ?_
    have eo : List.take (16 + 1) ([72, 50, 67, 45, 79, 86, 69, 82, 83, 73, 90, 69, 45, 68, 83, 84, 45] : List Int) = overS := rfl
    have e1 : List.take (16 + 1 + t.length) (overS ++ t) = overS ++ t := tk (by rw [List.length_append]; rfl)
    have bo : Bs overS := by
      have h : (overS.all fun x => decide (0 ≤ x) && decide (x < 256)) = true := by kernel_rfl
      intro x hx
      have h2 := List.all_eq_true.1 h x hx
      rw [Bool.and_eq_true] at h2
      exact ⟨of_decide_eq_true h2.1, of_decide_eq_true h2.2⟩
    rw [eo, e1]
    refine ⟨fun h => by rw [exA, h]; rfl, fun h => ⟨fun h2 => by rw [exA, h, h2]; rfl, fun h2 => ⟨fun h3 => ⟨Nat.le_refl 17, by show (17 + t.length) * 1 ≤ _; omega, by show 17 + t.length ≤ _; omega, Nat.le_of_eq (Nat.zero_add _), ⟨app_Bs bo ht, ?_⟩, triv_intro ⟨?_, ?_, ?_⟩⟩, fun h3 => triv_intro ⟨?_, ?_, ?_⟩⟩⟩⟩
    · rw [List.length_append]
      have : overS.length = 17 := rfl
      omega
    · have h4 : 255 < t.length := by have := dT h3; omega
      rw [tagF, decide_eq_true h4]
    · have := dF h; omega
    · have := dF h2; omega
    · have h4 : ¬ 255 < t.length := by have := dF h3; omega
      rw [tagF, decide_eq_false h4]
    · have := dF h; omega
    · have := dF h2; omega
  rintro t' ⟨htg, hn0, hn1⟩
  revert t'
  intro (t' : List Int) (htg : t' = tagF t)
  have lt' : t'.length ≤ 255 := by rw [htg]; exact tagF_le t
  have ht' : Bs t' := by rw [htg]; exact tagF_Bs ht
  refine tr_cutF hsp mixed 7 (fun σ => (rdL 8 σ, rdR by8 136 σ, rdO by8 10 σ, rdR by8 320 σ)) (reB n) (fun g => g.1 = t'.length + 1 ∧ g.2.1 = t' ++ endF t' ∧ g.2.2.1 = fstD m t' n ∧ g.2.2.2 = List.replicate 32 0) ?_ ?_
  · refine vcx (X := (preCopy (t', ()) ∧ (0 : Nat) + (1 : Nat) ≤ (1 : Nat) ∧ t'.length ≤ t'.length ∧ (t'.length + (1 : Nat)) * (1 : Nat) ≤ (140737488355328 : Nat) ∧ t'.length + (1 : Nat) ≤ (4611686018427387904 : Nat) ∧ ((0 : Int) ≤ (64 : Int) ∧ (64 : Int) ≤ (64 : Int) ∧ (↑(1 : Nat) : Int) * (64 : Int) ≤ (281474976710656 : Int) ∧ (64 : Int) ≤ (9223372036854775807 : Int)) ∧ (64 : Nat) ≤ (64 : Nat) ∧ ((64 : Nat) + m.length) * (1 : Nat) ≤ (140737488355328 : Nat) ∧ (64 : Nat) + m.length ≤ (4611686018427387904 : Nat) ∧ ((256 : Int) = (0 : Int) → False) ∧ ((256 : Int) = (0 : Int) → False) ∧ (0 : Nat) + (3 : Nat) ≤ (3 : Nat) ∧ (64 : Nat) + m.length ≤ (64 : Nat) + m.length ∧ ((64 : Nat) + m.length + (3 : Nat)) * (1 : Nat) ≤ (140737488355328 : Nat) ∧ (64 : Nat) + m.length + (3 : Nat) ≤ (4611686018427387904 : Nat) ∧ (0 : Nat) + (t'.length + (1 : Nat)) ≤ t'.length + (1 : Nat) ∧ (64 : Nat) + m.length + (3 : Nat) ≤ (64 : Nat) + m.length + (3 : Nat) ∧ ((64 : Nat) + m.length + (3 : Nat) + (t'.length + (1 : Nat))) * (1 : Nat) ≤ (140737488355328 : Nat) ∧ (64 : Nat) + m.length + (3 : Nat) + (t'.length + (1 : Nat)) ≤ (4611686018427387904 : Nat) ∧ (0 : Nat) + ((64 : Nat) + m.length + (3 : Nat) + (t'.length + (1 : Nat))) ≤ (64 : Nat) + m.length + (3 : Nat) + (t'.length + (1 : Nat)) ∧ (Bs (List.take ((64 : Nat) + m.length + (3 : Nat) + (t'.length + (1 : Nat))) (List.take ((64 : Nat) + m.length + (3 : Nat)) (List.take ((64 : Nat) + m.length) (List.take (64 : Nat) (List.replicate (64 : Nat) (0 : Int)) ++ m) ++ List.take (3 : Nat) [IntKind.u8.wrap (IntKind.i64.wrap (n.tdiv (256 : Int))), IntKind.u8.wrap (n.tmod (256 : Int)), (0 : Int)]) ++ List.take (t'.length + (1 : Nat)) (List.take t'.length t' ++ List.take (1 : Nat) [IntKind.u8.wrap (↑t'.length : Int)]))) ∧ (List.take ((64 : Nat) + m.length + (3 : Nat) + (t'.length + (1 : Nat))) (List.take ((64 : Nat) + m.length + (3 : Nat)) (List.take ((64 : Nat) + m.length) (List.take (64 : Nat) (List.replicate (64 : Nat) (0 : Int)) ++ m) ++ List.take (3 : Nat) [IntKind.u8.wrap (IntKind.i64.wrap (n.tdiv (256 : Int))), IntKind.u8.wrap (n.tmod (256 : Int)), (0 : Int)]) ++ List.take (t'.length + (1 : Nat)) (List.take t'.length t' ++ List.take (1 : Nat) [IntKind.u8.wrap (↑t'.length : Int)]))).length ≤ (1099511627776 : Nat)) ∧ ((0 : Int) ≤ (32 : Int) ∧ (32 : Int) ≤ (32 : Int) ∧ (↑(1 : Nat) : Int) * (32 : Int) ≤ (281474976710656 : Int) ∧ (32 : Int) ≤ (9223372036854775807 : Int)) ∧ (reB n (t'.length + (1 : Nat), List.take t'.length t' ++ List.take (1 : Nat) [IntKind.u8.wrap (↑t'.length : Int)], (dig (List.take ((64 : Nat) + m.length + (3 : Nat) + (t'.length + (1 : Nat))) (List.take ((64 : Nat) + m.length + (3 : Nat)) (List.take ((64 : Nat) + m.length) (List.take (64 : Nat) (List.replicate (64 : Nat) (0 : Int)) ++ m) ++ List.take (3 : Nat) [IntKind.u8.wrap (IntKind.i64.wrap (n.tdiv (256 : Int))), IntKind.u8.wrap (n.tmod (256 : Int)), (0 : Int)]) ++ List.take (t'.length + (1 : Nat)) (List.take t'.length t' ++ List.take (1 : Nat) [IntKind.u8.wrap (↑t'.length : Int)]))), ()).fst, [(0 : Int), (0 : Int), (0 : Int), (0 : Int), (0 : Int), (0 : Int), (0 : Int), (0 : Int), (0 : Int), (0 : Int), (0 : Int), (0 : Int), (0 : Int), (0 : Int), (0 : Int), (0 : Int), (0 : Int), (0 : Int), (0 : Int), (0 : Int), (0 : Int), (0 : Int), (0 : Int), (0 : Int), (0 : Int), (0 : Int), (0 : Int), (0 : Int), (0 : Int), (0 : Int), (0 : Int), (0 : Int)])).triv (t'.length + (1 : Nat) = t'.length + (1 : Nat) ∧ List.take t'.length t' ++ List.take (1 : Nat) [IntKind.u8.wrap (↑t'.length : Int)] = t' ++ endF t' ∧ dig (List.take ((64 : Nat) + m.length + (3 : Nat) + (t'.length + (1 : Nat))) (List.take ((64 : Nat) + m.length + (3 : Nat)) (List.take ((64 : Nat) + m.length) (List.take (64 : Nat) (List.replicate (64 : Nat) (0 : Int)) ++ m) ++ List.take (3 : Nat) [IntKind.u8.wrap (IntKind.i64.wrap (n.tdiv (256 : Int))), IntKind.u8.wrap (n.tmod (256 : Int)), (0 : Int)]) ++ List.take (t'.length + (1 : Nat)) (List.take t'.length t' ++ List.take (1 : Nat) [IntKind.u8.wrap (↑t'.length : Int)]))) = fstD m t' n ∧ [(0 : Int), (0 : Int), (0 : Int), (0 : Int), (0 : Int), (0 : Int), (0 : Int), (0 : Int), (0 : Int), (0 : Int), (0 : Int), (0 : Int), (0 : Int), (0 : Int), (0 : Int), (0 : Int), (0 : Int), (0 : Int), (0 : Int), (0 : Int), (0 : Int), (0 : Int), (0 : Int), (0 : Int), (0 : Int), (0 : Int), (0 : Int), (0 : Int), (0 : Int), (0 : Int), (0 : Int), (0 : Int)] = List.replicate (32 : Nat) (0 : Car by8)))) (by kernel_rfl) ?_
    have z1 : List.take 64 (List.replicate 64 (0 : Int)) = List.replicate 64 0 := tk (by rw [List.length_replicate])
    have z2 : List.take (64 + m.length) (List.replicate 64 (0 : Int) ++ m) = List.replicate 64 0 ++ m := tk (by rw [List.length_append, List.length_replicate])
    have z3 : ∀ a b c : Int, List.take 3 [a, b, c] = [a, b, c] := fun _ _ _ => rfl
    have z4 : List.take 1 [IntKind.u8.wrap (t'.length : Int)] = endF t' := rfl
    have z5 : List.take (t'.length + 1) (t' ++ endF t') = t' ++ endF t' := tk (by rw [List.length_append]; rfl)
    have z6 : ∀ a b c : Int, List.take (64 + m.length + 3) (List.replicate 64 (0 : Int) ++ m ++ [a, b, c]) = List.replicate 64 (0 : Int) ++ m ++ [a, b, c] := fun a b c => tk (by rw [List.length_append, List.length_append, List.length_replicate]; rfl)
    have z7 : ∀ a b c : Int, List.take (64 + m.length + 3 + (t'.length + 1)) (List.replicate 64 (0 : Int) ++ m ++ [a, b, c] ++ (t' ++ endF t')) = List.replicate 64 (0 : Int) ++ m ++ [a, b, c] ++ (t' ++ endF t') := fun a b c => tk (by rw [List.length_append, List.length_append, List.length_append, List.length_append, List.length_replicate]; rfl)
    have n1 : IntKind.u8.wrap (IntKind.i64.wrap (n.tdiv 256)) = IntKind.u8.wrap (n.fdiv (2 ^ min (8 : Nat) IntKind.i64.bits)) := by
      rw [Int.tdiv_eq_ediv_of_nonneg hn0, wrap_i64' (by omega) (by omega), Int.fdiv_eq_ediv_of_nonneg _ (by decide)]; rfl
    have n2 : IntKind.u8.wrap (n.tmod 256) = IntKind.u8.wrap n := by
      rw [Int.tmod_eq_emod_of_nonneg hn0]
      simp [IntKind.wrap, IntKind.signed, IntKind.bits]
    rw [z1, z2, z3, z4, List.take_length, z5, z6, z7, n1, n2]
    have bz : Bs (List.replicate 64 (0 : Int)) := fun y hy => by have := List.eq_of_mem_replicate hy; omega
    have b3 : Bs [IntKind.u8.wrap (n.fdiv (2 ^ min (8 : Nat) IntKind.i64.bits)), IntKind.u8.wrap n, 0] := by
      intro y hy
      simp only [List.mem_cons, List.not_mem_nil, or_false] at hy
      rcases hy with h | h | h
      · rw [h]; exact u8_bd _
      · rw [h]; exact u8_bd _
      · omega
    have efl : List.flatten [List.replicate 64 (0 : Int), m, [IntKind.u8.wrap (n.fdiv (2 ^ min (8 : Nat) IntKind.i64.bits)), IntKind.u8.wrap n, 0], t', endF t'] = List.replicate 64 (0 : Int) ++ m ++ [IntKind.u8.wrap (n.fdiv (2 ^ min (8 : Nat) IntKind.i64.bits)), IntKind.u8.wrap n, 0] ++ (t' ++ endF t') := by
      simp only [List.flatten_cons, List.flatten_nil, List.append_nil, List.append_assoc]
    refine ⟨by show t'.length ≤ _; omega, by omega, by omega, by omega, by omega, by omega, by omega, by omega, by omega, by decide, by decide, by omega, by omega, by omega, by omega, by omega, by omega, by omega, by omega, by omega, ⟨app_Bs (app_Bs (app_Bs bz hm) b3) (app_Bs ht' (endF_Bs _)), ?_⟩, ?_⟩
    · rw [List.length_append, List.length_append, List.length_append, List.length_append, List.length_replicate]
      show 64 + m.length + 3 + (t'.length + 1) ≤ _
      omega
    · refine ⟨by omega, triv_intro ⟨rfl, rfl, ?_, rfl⟩⟩
      rw [fstD, efl]
  rintro ⟨LT, T, D, Z⟩ hj
  revert T D Z
  intro (T : List Int) (D : List Int) (Z : List Int) ⟨hLT, hT, hD, hZ⟩
  have hLT : LT = t'.length + 1 := hLT
  have hT : T = t' ++ endF t' := hT
  have hD : D = fstD m t' n := hD
  have hZ : Z = List.replicate 32 0 := hZ
  have lT : T.length = LT := by rw [hT, hLT, List.length_append]; rfl
  have lZ : Z.length = 32 := by rw [hZ]; rfl
  have BD : Bs D := by rw [hD]; exact dig_Bs _
  have lD : D.length = 32 := by rw [hD]; exact dig_len _
  have BT : Bs T := by rw [hT]; exact app_Bs ht' (endF_Bs _)
  refine tr_frzI 8 136 LT 1 .u8 T (by kernel_rfl) (by kernel_rfl) lT ?_
  refine tr_frzI 12 320 32 1 .u8 Z (by kernel_rfl) (by kernel_rfl) lZ ?_
  refine tr_whileT (fun σ => [(304, rdI 11 σ)]) (fun σ => (rdS (.int .i64) 13 σ, rdL 11 σ, rdR by8 304 σ, rdO by8 12 σ)) (reL n T D) (fun g => ∃ k : Nat, k ≤ 300 ∧ g.1 = (k : Int) + 1 ∧ g.2.1 = 32 * k ∧ g.2.2.1 = (exK (spl D) t' k).1 ∧ (spl g.2.2.2 = (exK (spl D) t' k).2 ∧ Bs g.2.2.2 ∧ g.2.2.2.length = 32) ∧ ((32 * k : Nat) : Int) < n + 32) (fun g => n.toNat - g.2.1)
    (fun σ => (rdS (.int .i64) 13 σ, rdL 11 σ, rdR by8 304 σ, rdO by8 12 σ)) (reL n T D) (fun g => ∃ k : Nat, g.2.1 = 32 * k ∧ g.2.2.1 = (exK (spl D) t' k).1 ∧ ((32 * k : Nat) : Int) < n + 32 ∧ n ≤ ((32 * k : Nat) : Int)) (1, 0, [], Z) (c := nthC (codeOf Tryd.f12) 12) (by kernel_rfl) (by kernel_rfl) (le_of_proj (by kernel_rfl) (by kernel_rfl) ?_) ?_ ?_
  · refine ⟨0, by decide, rfl, rfl, rfl, ⟨?_, ?_, lZ⟩, ?_⟩
    · show spl Z = List.replicate 8 0
      rw [hZ, spl_0]
    · show Bs Z
      rw [hZ]
      intro y hy
      have := List.eq_of_mem_replicate hy; omega
    · show ((0 : Nat) : Int) < n + 32
      omega
  · rintro ⟨i, L, os, last⟩ hj
    revert i os last
    intro (i : Int) (os : List Int) (last : List Int) ⟨k, hk3, ei, eL, eo, ⟨es, eB, el⟩, hk⟩
    have ki : i = (k : Int) + 1 := ei
    have kL : L = 32 * k := eL
    have ko : os = (exK (spl D) t' k).1 := eo
    have ks : spl last = (exK (spl D) t' k).2 := es
    have kB : Bs last := eB
    have kl : last.length = 32 := el
    refine tr_cut hsp mixed 2 (reL n T D (i, L, os, last)) ((L : Int) < n) ?_ (fun hlt => ?_)
    · refine vcx (X := ((decide ((↑L : Int) < n) = true → (reL n T D (i, L, os, last)).triv ((↑L : Int) < n)) ∧ (decide ((↑L : Int) < n) = false → (reL n T D (i, L, os, last)).triv (∃ k, L = (32 : Nat) * k ∧ os = (exK (spl D) t' k).fst ∧ (↑((32 : Nat) * k) : Int) < n + (32 : Int) ∧ n ≤ (↑((32 : Nat) * k) : Int))))) (by kernel_rfl) ?_
      refine ⟨fun h => triv_intro (dT h), fun h => triv_intro ⟨k, kL, ko, hk, ?_⟩⟩
      have := dF h; omega
    refine tr_block (c := nthC (loopOf (nthC (codeOf Tryd.f12) 12)) 2) (by kernel_rfl) (by kernel_rfl) ?_
    refine tr_cut hsp mixed 2 (reX n T D i L os last (0, 0, [])) True ?_ (fun _ => ?_)
    · refine vcx (X := ((reX n T D i L os last ((0 : Int), (0 : Nat), [])).triv True)) (by kernel_rfl) ?_
      exact triv_intro trivial
    refine tr_while hsp mixed (fun σ => [(344, rdI 14 σ)]) (fun σ => (rdS (.int .i64) 15 σ, rdL 14 σ, rdR by8 344 σ)) (reX n T D i L os last) (fun g => ∃ j : Nat, j ≤ 32 ∧ g.1 = (j : Int) ∧ g.2.1 = j ∧ g.2.2 = xoL D last j) (fun g => 32 - g.1.toNat)
      (fun σ => (rdS (.int .i64) 15 σ, rdL 14 σ, rdR by8 344 σ)) (reX n T D i L os last) (fun g => g.2.1 = 32 ∧ g.2.2 = xoL D last 32) (0, 0, []) (c := nthC (bodyOf (nthC (loopOf (nthC (codeOf Tryd.f12) 12)) 2)) 2) (by kernel_rfl) (by kernel_rfl) (le_of_proj (by kernel_rfl) (by kernel_rfl) ?_) ?_ ?_
    · exact ⟨0, by decide, rfl, rfl, rfl⟩
    · rintro ⟨j, X, xs⟩ hj
      revert j xs
      intro (j : Int) (xs : List Int) ⟨s, hs, ej, eX, ex⟩
      have kj : j = (s : Int) := ej
      have kX : X = s := eX
      have kx : xs = xoL D last s := ex
      subst kj
      refine vcx (X := ((decide ((↑s : Int) < (32 : Int)) = true → ((0 : Int) ≤ (↑s : Int) ∧ (↑s : Int) < (↑D.length : Int)) ∧ (↑s : Int).toNat < D.length ∧ ((0 : Int) ≤ (↑s : Int) ∧ (↑s : Int) < (↑last.length : Int)) ∧ (↑s : Int).toNat < last.length ∧ (0 : Nat) + (1 : Nat) ≤ (1 : Nat) ∧ X ≤ X ∧ (X + (1 : Nat)) * (1 : Nat) ≤ (140737488355328 : Nat) ∧ X + (1 : Nat) ≤ (4611686018427387904 : Nat) ∧ (reX n T D i L os last (IntKind.i64.wrap ((↑s : Int) + (1 : Int)), X + (1 : Nat), List.take X xs ++ List.take (1 : Nat) [bitOp BinOp.xor IntKind.u8 (D.getD (↑s : Int).toNat (0 : Int)) (last.getD (↑s : Int).toNat (0 : Int))])).triv ((∃ j, j ≤ (32 : Nat) ∧ IntKind.i64.wrap ((↑s : Int) + (1 : Int)) = (↑j : Int) ∧ X + (1 : Nat) = j ∧ List.take X xs ++ List.take (1 : Nat) [bitOp BinOp.xor IntKind.u8 (D.getD (↑s : Int).toNat (0 : Int)) (last.getD (↑s : Int).toNat (0 : Int))] = xoL D last j) ∧ (32 : Nat) - (IntKind.i64.wrap ((↑s : Int) + (1 : Int))).toNat < (32 : Nat) - (↑s : Int).toNat)) ∧ (decide ((↑s : Int) < (32 : Int)) = false → (reX n T D i L os last ((↑s : Int), X, xs)).triv (X = (32 : Nat) ∧ xs = xoL D last (32 : Nat))))) (by kernel_rfl) ?_
      rw [lD, kl]
      simp only [Int.toNat_natCast]
      have lx : xs.length = X := by rw [kx, xoL, List.length_map, List.length_range, kX]
      refine ⟨fun h => ?_, fun h => triv_intro ?_⟩
      · have h32 : s < 32 := by have := dT h; omega
        rw [wrap_succ (by omega), tk lx]
        repeat refine ⟨by omega, ?_⟩
        refine triv_intro ⟨⟨s + 1, h32, rfl, by omega, ?_⟩, by omega⟩
        rw [kx, xoL_succ]; rfl
      · have e : s = 32 := by have := dF h; omega
        exact ⟨by omega, by rw [kx, e]⟩
    rintro ⟨j, X, xs⟩ hj
    revert j xs
    intro (j : Int) (xs : List Int) ⟨eX, ex⟩
    have kX : X = 32 := eX
    have kx : xs = xoL D last 32 := ex
    refine tr_cutSF hsp mixed 3 (fun σ => [(304, rdI 11 σ)]) (fun σ => (rdL 11 σ, rdR by8 304 σ, rdO by8 12 σ)) (fun g => reL n T D (i, g.1, g.2.1, g.2.2)) (fun g => g.1 = 32 * (k + 1) ∧ g.2.1 = os ++ g.2.2 ∧ g.2.2 = nxD (spl D) t' k (exK (spl D) t' k).2) ?_ ?_
    · refine vcx (X := ((0 : Nat) + (1 : Nat) ≤ (1 : Nat) ∧ X ≤ X ∧ (X + (1 : Nat)) * (1 : Nat) ≤ (140737488355328 : Nat) ∧ X + (1 : Nat) ≤ (4611686018427387904 : Nat) ∧ X + (1 : Nat) ≤ X + (1 : Nat) ∧ (X + (1 : Nat) + T.length) * (1 : Nat) ≤ (140737488355328 : Nat) ∧ X + (1 : Nat) + T.length ≤ (4611686018427387904 : Nat) ∧ (0 : Nat) + (X + (1 : Nat) + T.length) ≤ X + (1 : Nat) + T.length ∧ (Bs (List.take (X + (1 : Nat) + T.length) (List.take (X + (1 : Nat)) (List.take X xs ++ List.take (1 : Nat) [IntKind.u8.wrap i]) ++ T)) ∧ (List.take (X + (1 : Nat) + T.length) (List.take (X + (1 : Nat)) (List.take X xs ++ List.take (1 : Nat) [IntKind.u8.wrap i]) ++ T)).length ≤ (1099511627776 : Nat)) ∧ L ≤ L ∧ (L + (dig (List.take (X + (1 : Nat) + T.length) (List.take (X + (1 : Nat)) (List.take X xs ++ List.take (1 : Nat) [IntKind.u8.wrap i]) ++ T))).length) * (1 : Nat) ≤ (140737488355328 : Nat) ∧ L + (dig (List.take (X + (1 : Nat) + T.length) (List.take (X + (1 : Nat)) (List.take X xs ++ List.take (1 : Nat) [IntKind.u8.wrap i]) ++ T))).length ≤ (4611686018427387904 : Nat) ∧ (reL n T D (i, (L + (dig (List.take (X + (1 : Nat) + T.length) (List.take (X + (1 : Nat)) (List.take X xs ++ List.take (1 : Nat) [IntKind.u8.wrap i]) ++ T)), ()).fst.length, List.take L os ++ (dig (List.take (X + (1 : Nat) + T.length) (List.take (X + (1 : Nat)) (List.take X xs ++ List.take (1 : Nat) [IntKind.u8.wrap i]) ++ T)), ()).fst, (dig (List.take (X + (1 : Nat) + T.length) (List.take (X + (1 : Nat)) (List.take X xs ++ List.take (1 : Nat) [IntKind.u8.wrap i]) ++ T)), ()).fst).fst, (L + (dig (List.take (X + (1 : Nat) + T.length) (List.take (X + (1 : Nat)) (List.take X xs ++ List.take (1 : Nat) [IntKind.u8.wrap i]) ++ T)), ()).fst.length, List.take L os ++ (dig (List.take (X + (1 : Nat) + T.length) (List.take (X + (1 : Nat)) (List.take X xs ++ List.take (1 : Nat) [IntKind.u8.wrap i]) ++ T)), ()).fst, (dig (List.take (X + (1 : Nat) + T.length) (List.take (X + (1 : Nat)) (List.take X xs ++ List.take (1 : Nat) [IntKind.u8.wrap i]) ++ T)), ()).fst).snd.fst, (L + (dig (List.take (X + (1 : Nat) + T.length) (List.take (X + (1 : Nat)) (List.take X xs ++ List.take (1 : Nat) [IntKind.u8.wrap i]) ++ T)), ()).fst.length, List.take L os ++ (dig (List.take (X + (1 : Nat) + T.length) (List.take (X + (1 : Nat)) (List.take X xs ++ List.take (1 : Nat) [IntKind.u8.wrap i]) ++ T)), ()).fst, (dig (List.take (X + (1 : Nat) + T.length) (List.take (X + (1 : Nat)) (List.take X xs ++ List.take (1 : Nat) [IntKind.u8.wrap i]) ++ T)), ()).fst).snd.snd)).triv (L + (dig (List.take (X + (1 : Nat) + T.length) (List.take (X + (1 : Nat)) (List.take X xs ++ List.take (1 : Nat) [IntKind.u8.wrap i]) ++ T))).length = (32 : Nat) * (k + (1 : Nat)) ∧ List.take L os ++ dig (List.take (X + (1 : Nat) + T.length) (List.take (X + (1 : Nat)) (List.take X xs ++ List.take (1 : Nat) [IntKind.u8.wrap i]) ++ T)) = os ++ dig (List.take (X + (1 : Nat) + T.length) (List.take (X + (1 : Nat)) (List.take X xs ++ List.take (1 : Nat) [IntKind.u8.wrap i]) ++ T)) ∧ dig (List.take (X + (1 : Nat) + T.length) (List.take (X + (1 : Nat)) (List.take X xs ++ List.take (1 : Nat) [IntKind.u8.wrap i]) ++ T)) = nxD (spl D) t' k (exK (spl D) t' k).snd))) (by kernel_rfl) ?_
      have lx : xs.length = X := by rw [kx, xoL, List.length_map, List.length_range, kX]
      have lo : os.length = L := by rw [ko, exK_len, kL]
      have x1 : List.take 1 [IntKind.u8.wrap i] = [IntKind.u8.wrap i] := rfl
      have x2 : List.take (X + 1) (xs ++ [IntKind.u8.wrap i]) = xs ++ [IntKind.u8.wrap i] := tk (by rw [List.length_append, lx]; rfl)
      have x3 : List.take (X + 1 + T.length) (xs ++ [IntKind.u8.wrap i] ++ T) = xs ++ [IntKind.u8.wrap i] ++ T := tk (by rw [List.length_append, List.length_append, lx]; rfl)
      rw [tk lx, x1, x2, x3, tk lo, dig_len]
      have bx : Bs xs := by
        rw [kx]
        intro y hy
        have hy : y ∈ (List.range 32).map fun i => bitOp .xor .u8 (D.getD i 0) (last.getD i 0) := hy
        obtain ⟨j, _, rfl⟩ := List.mem_map.1 hy
        exact u8_bd _
      have bi : Bs [IntKind.u8.wrap i] := by
        intro y hy
        rw [List.mem_singleton] at hy
        rw [hy]; exact u8_bd _
      have en : dig (xs ++ [IntKind.u8.wrap i] ++ T) = nxD (spl D) t' k (exK (spl D) t' k).2 := by
        rw [nxD, ← ks, byt_ovr BD kB, ← kx, ki, hT]
        simp only [List.flatten_cons, List.flatten_nil, List.append_nil, List.append_assoc]
      refine ⟨by omega, by omega, by omega, by omega, by omega, by omega, by omega, by omega, ⟨app_Bs (app_Bs bx bi) BT, ?_⟩, by omega, by omega, by omega, triv_intro ⟨by omega, rfl, en⟩⟩
      rw [List.length_append, List.length_append, lx]
      show X + 1 + T.length ≤ _
      omega
    rintro ⟨L2, os2, z⟩ hj
    revert os2 z
    intro (os2 : List Int) (z : List Int) ⟨hL2, ho2, hz⟩
    have hL2 : L2 = 32 * (k + 1) := hL2
    have ho2 : os2 = os ++ z := ho2
    have hz : z = nxD (spl D) t' k (exK (spl D) t' k).2 := hz
    refine tr_nil ?_
    refine tr_vc hsp mixed _ _ ?_
    refine vcx (X := ((reL n T D (IntKind.i64.wrap (i + (1 : Int)), L2, os2, z)).triv ((∃ k, k ≤ (300 : Nat) ∧ IntKind.i64.wrap (i + (1 : Int)) = (↑k : Int) + (1 : Car (Kd.int IntKind.i64)) ∧ L2 = (32 : Nat) * k ∧ os2 = (exK (spl D) t' k).fst ∧ (spl z = (exK (spl D) t' k).snd ∧ Bs z ∧ z.length = (32 : Nat)) ∧ (↑((32 : Nat) * k) : Int) < n + (32 : Int)) ∧ n.toNat - L2 < n.toNat - L))) (by kernel_rfl) ?_
    have ew : IntKind.i64.wrap (i + 1) = ((k + 1 : Nat) : Int) + 1 := by rw [wrap_i64' (by omega) (by omega)]; omega
    rw [ew]
    refine triv_intro ⟨⟨k + 1, by omega, rfl, hL2, ?_, ⟨?_, ?_, ?_⟩, by omega⟩, by omega⟩
    · rw [ho2, hz, ko]; rfl
    · show spl z = _
      rw [hz]; rfl
    · show Bs z
      rw [hz, nxD]; exact dig_Bs _
    · show z.length = 32
      rw [hz, nxD]; exact dig_len _
  rintro ⟨i, L, os, last⟩ hj
  revert i os last
  intro (i : Int) (os : List Int) (last : List Int) ⟨k, eL, eo, hk1, hk2⟩
  have kL : L = 32 * k := eL
  have ko : os = (exK (spl D) t' k).1 := eo
  refine tr_vc hsp mixed _ _ ?_
  refine vcx (X := (((0 : Int) ≤ n ∧ n ≤ (↑L : Int)) ∧ (0 : Nat) + (n - (0 : Int)).toNat ≤ L ∧ (List.take (n - (0 : Int)).toNat os, (0 : Int), ()) = ((exA m t n).fst, (exA m t n).snd, ()))) (by kernel_rfl) ?_
  have eX : exA m t n = (expo m t n, 0) := by
    rw [exA, decide_eq_false (by omega), decide_eq_false (by omega)]; rfl
  have ek : k = (n.toNat + 31) / 32 := by omega
  have ef : spl D = fstF m t' n := by rw [hD, fstD, fstF]
  rw [eX]
  have lo : os.length = L := by rw [ko, exK_len, kL]
  have eE : expo m t n = os.take n.toNat := by
    rw [expo, opq_eq, expF, ← htg, ← ef, ← ek, ← ko]
  have e0 : (n - 0).toNat = n.toNat := by omega
  rw [eE, e0]
  exact ⟨⟨hn0, by omega⟩, by omega, rfl⟩
end Go.Proofs.YtbfimfdhmggieaaDoor.ref11
/- law11: XmdExpands. -/
namespace Go.Proofs.YtbfimfdhmggieaaDoor.law11
set_option maxRecDepth 100000
open Go Go.Eng Go.RowKit Cr Go.Proofs.YtbfimfdhmggieaaDoor.sha Go.Proofs.YtbfimfdhmggieaaDoor.xmd Go.Proofs.YtbfimfdhmggieaaDoor.ref01 Go.Proofs.YtbfimfdhmggieaaDoor
abbrev b8 : Kd := .sl (.int .u8)
theorem fr_reE : FnOk Tryd.prog 12 [b8, b8, .int .i64] [.val b8, .val (.int .i64)] noG ref11.preRe (fun (m, t, n, _) => ((exA m t n).1, (exA m t n).2, ())) := ref11.fn_expand.frz2
noncomputable def srReE : Nat × Eng.Spec := (12, fnSpec [b8, b8, .int .i64] [.val b8, .val (.int .i64)] ref11.preRe (fun (m, t, n, _) => ((exA m t n).1, (exA m t n).2, ())))
end Go.Proofs.YtbfimfdhmggieaaDoor.law11
/- The field of numbers a + b i over the field of p. No program here. -/
namespace Cr
open Rg Fd Go.Eng
/-- a + b i. -/
abbrev F2 := Fp × Fp
instance : Zero F2 := ⟨((0 : Fp), (0 : Fp))⟩
instance : One F2 := ⟨((1 : Fp), (0 : Fp))⟩
noncomputable instance : Add F2 := ⟨fun x y => opq (x.1 + y.1, x.2 + y.2)⟩
noncomputable instance : Sub F2 := ⟨fun x y => opq (x.1 - y.1, x.2 - y.2)⟩
noncomputable instance : Neg F2 := ⟨fun x => opq (-x.1, -x.2)⟩
noncomputable instance : Mul F2 := ⟨fun x y => opq (x.1 * y.1 - x.2 * y.2, x.1 * y.2 + x.2 * y.1)⟩
theorem F2.add_def (x y : F2) : x + y = (x.1 + y.1, x.2 + y.2) := opq_eq _
theorem F2.sub_def (x y : F2) : x - y = (x.1 - y.1, x.2 - y.2) := opq_eq _
theorem F2.neg_def (x : F2) : -x = (-x.1, -x.2) := opq_eq _
theorem F2.mul_def (x y : F2) : x * y = (x.1 * y.1 - x.2 * y.2, x.1 * y.2 + x.2 * y.1) := opq_eq _
theorem F2.ext {x y : F2} (h1 : x.1 = y.1) (h2 : x.2 = y.2) : x = y := Prod.ext h1 h2
theorem F2.add1 (x y : F2) : (x + y).1 = x.1 + y.1 := by rw [F2.add_def]
theorem F2.add2 (x y : F2) : (x + y).2 = x.2 + y.2 := by rw [F2.add_def]
theorem F2.sub1 (x y : F2) : (x - y).1 = x.1 - y.1 := by rw [F2.sub_def]
theorem F2.sub2 (x y : F2) : (x - y).2 = x.2 - y.2 := by rw [F2.sub_def]
theorem F2.neg1 (x : F2) : (-x).1 = -x.1 := by rw [F2.neg_def]
theorem F2.neg2 (x : F2) : (-x).2 = -x.2 := by rw [F2.neg_def]
theorem F2.mul1 (x y : F2) : (x * y).1 = x.1 * y.1 - x.2 * y.2 := by rw [F2.mul_def]
theorem F2.mul2 (x y : F2) : (x * y).2 = x.1 * y.2 + x.2 * y.1 := by rw [F2.mul_def]
theorem F2.zero1 : (0 : F2).1 = 0 := rfl
theorem F2.zero2 : (0 : F2).2 = 0 := rfl
theorem F2.one1 : (1 : F2).1 = 1 := rfl
theorem F2.one2 : (1 : F2).2 = 0 := rfl
theorem f2_as1 {F : Type} [Rg F] (a b c d e f : F) : (a * c - b * d) * e - (a * d + b * c) * f = a * (c * e - d * f) - b * (c * f + d * e) :=
  rid [a, b, c, d, e, f] ((fun (a b c d e f : PE) => ((a * c - b * d) * e - (a * d + b * c) * f)) (.v 0) (.v 1) (.v 2) (.v 3) (.v 4) (.v 5)) ((fun (a b c d e f : PE) => (a * (c * e - d * f) - b * (c * f + d * e))) (.v 0) (.v 1) (.v 2) (.v 3) (.v 4) (.v 5)) (by kernel_rfl)
theorem f2_as2 {F : Type} [Rg F] (a b c d e f : F) : (a * c - b * d) * f + (a * d + b * c) * e = a * (c * f + d * e) + b * (c * e - d * f) :=
  rid [a, b, c, d, e, f] ((fun (a b c d e f : PE) => ((a * c - b * d) * f + (a * d + b * c) * e)) (.v 0) (.v 1) (.v 2) (.v 3) (.v 4) (.v 5)) ((fun (a b c d e f : PE) => (a * (c * f + d * e) + b * (c * e - d * f))) (.v 0) (.v 1) (.v 2) (.v 3) (.v 4) (.v 5)) (by kernel_rfl)
theorem f2_co1 {F : Type} [Rg F] (a b c d : F) : a * c - b * d = c * a - d * b :=
  rid [a, b, c, d] ((fun (a b c d : PE) => (a * c - b * d)) (.v 0) (.v 1) (.v 2) (.v 3)) ((fun (a b c d : PE) => (c * a - d * b)) (.v 0) (.v 1) (.v 2) (.v 3)) (by kernel_rfl)
theorem f2_co2 {F : Type} [Rg F] (a b c d : F) : a * d + b * c = c * b + d * a :=
  rid [a, b, c, d] ((fun (a b c d : PE) => (a * d + b * c)) (.v 0) (.v 1) (.v 2) (.v 3)) ((fun (a b c d : PE) => (c * b + d * a)) (.v 0) (.v 1) (.v 2) (.v 3)) (by kernel_rfl)
theorem f2_om1 {F : Type} [Rg F] (a b : F) : 1 * a - 0 * b = a :=
  rid [a, b] ((fun (a b : PE) => (1 * a - 0 * b)) (.v 0) (.v 1)) ((fun (a b : PE) => (a)) (.v 0) (.v 1)) (by kernel_rfl)
theorem f2_om2 {F : Type} [Rg F] (a b : F) : 1 * b + 0 * a = b :=
  rid [a, b] ((fun (a b : PE) => (1 * b + 0 * a)) (.v 0) (.v 1)) ((fun (a b : PE) => (b)) (.v 0) (.v 1)) (by kernel_rfl)
theorem f2_am1 {F : Type} [Rg F] (a b c d e f : F) : (a + c) * e - (b + d) * f = a * e - b * f + (c * e - d * f) :=
  rid [a, b, c, d, e, f] ((fun (a b c d e f : PE) => ((a + c) * e - (b + d) * f)) (.v 0) (.v 1) (.v 2) (.v 3) (.v 4) (.v 5)) ((fun (a b c d e f : PE) => (a * e - b * f + (c * e - d * f))) (.v 0) (.v 1) (.v 2) (.v 3) (.v 4) (.v 5)) (by kernel_rfl)
theorem f2_am2 {F : Type} [Rg F] (a b c d e f : F) : (a + c) * f + (b + d) * e = a * f + b * e + (c * f + d * e) :=
  rid [a, b, c, d, e, f] ((fun (a b c d e f : PE) => ((a + c) * f + (b + d) * e)) (.v 0) (.v 1) (.v 2) (.v 3) (.v 4) (.v 5)) ((fun (a b c d e f : PE) => (a * f + b * e + (c * f + d * e))) (.v 0) (.v 1) (.v 2) (.v 3) (.v 4) (.v 5)) (by kernel_rfl)
noncomputable instance rgF2 : Rg F2 where
  add_comm a b := F2.ext (by simp only [F2.add1, add_comm]) (by simp only [F2.add2, add_comm])
  add_assoc a b c := F2.ext (by simp only [F2.add1, add_assoc]) (by simp only [F2.add2, add_assoc])
  zero_add a := F2.ext (by rw [F2.add1, F2.zero1, zero_add]) (by rw [F2.add2, F2.zero2, zero_add])
  neg_add a := F2.ext (by rw [F2.add1, F2.neg1, neg_add]; rfl) (by rw [F2.add2, F2.neg2, neg_add]; rfl)
  sub_def a b := F2.ext (by rw [F2.add1, F2.sub1, F2.neg1, sub_def]) (by rw [F2.add2, F2.sub2, F2.neg2, sub_def])
  mul_comm a b := F2.ext (by rw [F2.mul1, F2.mul1, f2_co1]) (by rw [F2.mul2, F2.mul2, f2_co2])
  mul_assoc a b c := F2.ext (by simp only [F2.mul1, F2.mul2]; exact f2_as1 _ _ _ _ _ _) (by simp only [F2.mul1, F2.mul2]; exact f2_as2 _ _ _ _ _ _)
  one_mul a := F2.ext (by rw [F2.mul1, F2.one1, F2.one2, f2_om1]) (by rw [F2.mul2, F2.one1, F2.one2, f2_om2])
  add_mul a b c := F2.ext (by simp only [F2.mul1, F2.add1, F2.add2]; exact f2_am1 _ _ _ _ _ _) (by simp only [F2.mul2, F2.add1, F2.add2]; exact f2_am2 _ _ _ _ _ _)
section
variable {M : Int} [Md M]
theorem zpow_sq (x : Zm M) (n : Nat) : zpow x (2 * n) = zpow (x * x) n := by
  induction n with
  | zero => rfl
  | succ n ih => show zpow x (2 * n) * x * x = zpow (x * x) n * (x * x); rw [ih, mul_assoc]
theorem zpow_m1 (n : Nat) : zpow (-1 : Zm M) (2 * n + 1) = -1 := by
  show zpow (-1 : Zm M) (2 * n) * -1 = -1
  rw [zpow_sq]
  have : (-1 : Zm M) * -1 = 1 := by rw [neg_mul, mul_neg, neg_neg, mul_one]
  rw [this]
  have h1 : ∀ n, zpow (1 : Zm M) n = 1 := by
    intro n
    induction n with
    | zero => rfl
    | succ n ih => show zpow (1 : Zm M) n * 1 = 1; rw [ih, mul_one]
  rw [h1, one_mul]
end
/-- -1 has no root. -/
theorem no_root {x : Fp} (h : x * x = -1) : False := by
  have hx : x ≠ 0 := by
    intro e
    rw [e, zero_mul] at h
    exact absurd h (by decide)
  have h1 := zm_fermat Mp_nat prm_p hx (n := 4002409555221667393417789825735904156556882819939007885332058136124031650490837864442687629129015664037894272559785) (of_decide_eq_true (by kernel_rfl))
  have h2 := zpow_sq x (2 * 1000602388805416848354447456433976039139220704984751971333014534031007912622709466110671907282253916009473568139946 + 1)
  rw [h, zpow_m1] at h2
  have h3 : zpow x (2 * (2 * 1000602388805416848354447456433976039139220704984751971333014534031007912622709466110671907282253916009473568139946 + 1)) = zpow x (4002409555221667393417789825735904156556882819939007885332058136124031650490837864442687629129015664037894272559785 + 1) := congrArg (zpow x) (of_decide_eq_true (by kernel_rfl))
  rw [h3] at h2
  have h4 : zpow x (4002409555221667393417789825735904156556882819939007885332058136124031650490837864442687629129015664037894272559785 + 1) = zpow x 4002409555221667393417789825735904156556882819939007885332058136124031650490837864442687629129015664037894272559785 * x := rfl
  rw [h4, mul_comm, h1] at h2
  exact absurd h2 (by decide)
theorem f2_nm {F : Type} [Rg F] (a b i : F) : (a * i) * (a * i) - (-1) = (i * i) * (a * a + b * b) - (b * i + 1) * (b * i - 1) :=
  rid [a, b, i] ((fun (a b i : PE) => ((a * i) * (a * i) - (-1))) (.v 0) (.v 1) (.v 2)) ((fun (a b i : PE) => ((i * i) * (a * a + b * b) - (b * i + 1) * (b * i - 1))) (.v 0) (.v 1) (.v 2)) (by kernel_rfl)
theorem f2_iv1 {F : Type} [Rg F] (a b n : F) : a * (a * n) - b * (-b * n) = (a * a + b * b) * n :=
  rid [a, b, n] ((fun (a b n : PE) => (a * (a * n) - b * (-b * n))) (.v 0) (.v 1) (.v 2)) ((fun (a b n : PE) => ((a * a + b * b) * n)) (.v 0) (.v 1) (.v 2)) (by kernel_rfl)
theorem f2_iv2 {F : Type} [Rg F] (a b n : F) : a * (-b * n) + b * (a * n) = 0 :=
  rid [a, b, n] ((fun (a b n : PE) => (a * (-b * n) + b * (a * n))) (.v 0) (.v 1) (.v 2)) ((fun (a b n : PE) => (0)) (.v 0) (.v 1) (.v 2)) (by kernel_rfl)
theorem norm_ne {x : F2} (h : x ≠ 0) : x.1 * x.1 + x.2 * x.2 ≠ 0 := by
  intro e
  by_cases hb : x.2 = 0
  · rw [hb, mul_zero, add_zero] at e
    have ha : x.1 = 0 := by rcases mul_eq_zero e with e | e <;> exact e
    exact h (F2.ext ha hb)
  · have hi := mul_inv x.2 hb
    refine no_root (x := x.1 * inv x.2) (eq_of_sub ?_)
    rw [f2_nm _ x.2, e, hi, sub_self, mul_zero, mul_zero, sub_self]
/-- 1/x. -/
noncomputable def inv2 (x : F2) : F2 := opq (x.1 * inv (x.1 * x.1 + x.2 * x.2), -x.2 * inv (x.1 * x.1 + x.2 * x.2))
theorem inv2_def (x : F2) : inv2 x = (x.1 * inv (x.1 * x.1 + x.2 * x.2), -x.2 * inv (x.1 * x.1 + x.2 * x.2)) := opq_eq _
noncomputable instance fdF2 : Fd F2 where
  deq := inferInstanceAs (DecidableEq (Fp × Fp))
  inv := inv2
  mul_inv x h := by
    have hn := mul_inv _ (norm_ne h)
    rw [inv2_def]
    refine F2.ext ?_ ?_
    · rw [F2.mul1]
      show x.1 * (x.1 * _) - x.2 * (-x.2 * _) = 1
      rw [f2_iv1, hn]
    · rw [F2.mul2]
      show x.1 * (-x.2 * _) + x.2 * (x.1 * _) = 0
      rw [f2_iv2]
  one_ne := fun h => absurd (congrArg Prod.fst h) (by decide)
  two_ne := fun h => absurd (congrArg Prod.fst h) (by rw [F2.add1]; decide)
  three_ne := fun h => absurd (congrArg Prod.fst h) (by rw [F2.add1, F2.add1]; decide)
end Cr
/- Multiples and sums of points. No program here. -/
namespace Cr
open Rg Fd Go Go.Eng

section
variable {F : Type} [Fd F]
def nmul (P : F × F) : Nat → F × F
  | 0 => O2
  | n + 1 => padd (nmul P n) P
variable {b : F} (hb : b ≠ 0)
include hb
theorem nmul_on {P : F × F} (oP : OnP b P) (n : Nat) : OnP b (nmul P n) := by
  induction n with
  | zero => exact .inl rfl
  | succ n ih => exact padd_on hb ih oP
theorem nmul_add {P : F × F} (oP : OnP b P) (m n : Nat) : nmul P (m + n) = padd (nmul P m) (nmul P n) := by
  induction n with
  | zero => exact (add_O _).symm
  | succ n ih => show padd (nmul P (m + n)) P = padd (nmul P m) (padd (nmul P n) P); rw [ih, padd_assoc hb (nmul_on hb oP m) (nmul_on hb oP n) oP]
theorem nmul_mul {P : F × F} (oP : OnP b P) (m n : Nat) : nmul (nmul P m) n = nmul P (m * n) := by
  induction n with
  | zero => rfl
  | succ n ih => show padd (nmul (nmul P m) n) (nmul P m) = _; rw [ih, ← nmul_add hb oP]; rfl
theorem add4 {P Q R S : F × F} (oP : OnP b P) (oQ : OnP b Q) (oR : OnP b R) (oS : OnP b S) : padd (padd P Q) (padd R S) = padd (padd P R) (padd Q S) := by
  rw [padd_assoc hb oP oQ (padd_on hb oR oS), ← padd_assoc hb oQ oR oS, padd_comm hb oQ oR, padd_assoc hb oR oQ oS, ← padd_assoc hb oP oR (padd_on hb oQ oS)]
theorem nmul_padd {P Q : F × F} (oP : OnP b P) (oQ : OnP b Q) (n : Nat) : nmul (padd P Q) n = padd (nmul P n) (nmul Q n) := by
  induction n with
  | zero => exact (O_add _).symm
  | succ n ih => show padd (nmul (padd P Q) n) (padd P Q) = padd (padd (nmul P n) P) (padd (nmul Q n) Q); rw [ih, add4 hb (nmul_on hb oP n) (nmul_on hb oQ n) oP oQ]
omit hb in
theorem nmul_O (n : Nat) : nmul (O2 : F × F) n = O2 := by
  induction n with
  | zero => rfl
  | succ n ih => show padd (nmul O2 n) O2 = O2; rw [ih, O_add]
omit hb in
theorem nmul_two {P : F × F} : nmul P 2 = padd P P := by
  show padd (padd O2 P) P = _; rw [O_add]
omit hb in
theorem nmul_one {P : F × F} : nmul P 1 = P := O_add P

end
end Cr
/- g1: Sum, Add, Neg, On. -/
namespace Go.Proofs.YtbfimfdhmggieaaDoor.g1
set_option maxRecDepth 100000
open Go Go.Eng Go.RowKit Cr Go.Proofs.YtbfimfdhmggieaaDoor

end Go.Proofs.YtbfimfdhmggieaaDoor.g1
/- Sqrt of package fp. -/
namespace Go.Proofs.YtbfimfdhmggieaaDoor.fp
set_option maxRecDepth 100000
open Go Go.Eng Go.RowKit Cr Go.Proofs.YtbfimfdhmggieaaDoor

end Go.Proofs.YtbfimfdhmggieaaDoor.fp
/- Contracts of package fp2. -/
namespace Go.Proofs.YtbfimfdhmggieaaDoor.fp2
set_option maxRecDepth 100000
open Go Go.Eng Go.RowKit Cr Go.Proofs.YtbfimfdhmggieaaDoor
abbrev f2 : Kd := .pair .fp .fp
end Go.Proofs.YtbfimfdhmggieaaDoor.fp2
/- Roots of a + b i. No program here. -/
namespace Cr
open Rg Fd
theorem q_4 {F : Type} [Rg F] (a n : F) : (a + n) * (a - n) = a * a - n * n :=
  rid [a, n] ((fun (a n : PE) => ((a + n) * (a - n))) (.v 0) (.v 1)) ((fun (a n : PE) => (a * a - n * n)) (.v 0) (.v 1)) (by kernel_rfl)
theorem sq_eq {F : Type} [Fd F] {a b : F} (h : a * a = b * b) : a = b ∨ a = -b := by
  have : (a + b) * (a - b) = 0 := by rw [q_4, h, sub_self]
  rcases mul_eq_zero this with h | h
  · right
    rw [← neg_neg a, neg_eq h]
  · exact .inl (eq_of_sub h)
end Cr
/- Sqrt of package fp2. -/
namespace Go.Proofs.YtbfimfdhmggieaaDoor.fp2
set_option maxRecDepth 100000
open Go Go.Eng Go.RowKit Cr Go.Proofs.YtbfimfdhmggieaaDoor Rg Fd
end Go.Proofs.YtbfimfdhmggieaaDoor.fp2
/- A finite group of points: it is all that two of its points make. No program here. -/
namespace Cr
open Rg Fd
theorem pigeon : ∀ (B A : Nat) (f : Nat → Nat), (∀ i, i < A → f i < B) → (∀ i j, i < A → j < A → f i = f j → i = j) → A ≤ B := by
  intro B
  induction B with
  | zero =>
    intro A f h _
    cases A with
    | zero => exact Nat.le_refl 0
    | succ A => exact absurd (h 0 (by omega)) (by omega)
  | succ B ih =>
    intro A f h inj
    cases A with
    | zero => omega
    | succ A =>
      have ne : ∀ i, i < A → f i ≠ f A := fun i hi e => by have := inj i A (by omega) (by omega) e; omega
      have := ih A (fun i => if f i > f A then f i - 1 else f i) (fun i hi => by
        have h1 := h i (by omega)
        have h2 := h A (by omega)
        have h3 := ne i hi
        show (if f i > f A then f i - 1 else f i) < B
        split <;> omega) (fun i j hi hj e => by
        have h3 := ne i hi
        have h4 := ne j hj
        have e : (if f i > f A then f i - 1 else f i) = (if f j > f A then f j - 1 else f j) := e
        refine inj i j (by omega) (by omega) ?_
        split at e <;> split at e <;> omega)
      omega
theorem bez (m n : Nat) : ∃ u v : Int, u * (m : Int) + v * (n : Int) = ((Nat.gcd m n : Nat) : Int) := by
  induction m, n using Nat.gcd.induction with
  | H0 n => exact ⟨0, 1, by simp⟩
  | H1 m n hm ih =>
    obtain ⟨u, v, h⟩ := ih
    refine ⟨v - u * ((n / m : Nat) : Int), u, ?_⟩
    rw [Nat.gcd_rec, ← h]
    have e : (n : Int) = (m : Int) * ((n / m : Nat) : Int) + ((n % m : Nat) : Int) := by
      have := Nat.div_add_mod n m
      rw [← Int.natCast_mul, ← Int.natCast_add, this]
    generalize ((n / m : Nat) : Int) = q at *
    generalize ((n % m : Nat) : Int) = t at *
    rw [e, Int.sub_mul, Int.mul_add]
    have : u * q * (m : Int) = u * ((m : Int) * q) := by rw [Int.mul_assoc, Int.mul_comm q]
    omega
theorem inv_mod {l a : Nat} (h : Nat.Coprime l a) (hl : 1 < l) : ∃ s : Nat, a * s % l = 1 := by
  obtain ⟨u, v, e⟩ := bez l a
  rw [h] at e
  refine ⟨(v % (l : Int)).toNat, ?_⟩
  have hv : (((v % (l : Int)).toNat : Nat) : Int) = v % (l : Int) := Int.toNat_of_nonneg (Int.emod_nonneg _ (by omega))
  have : (((a * (v % (l : Int)).toNat % l : Nat)) : Int) = 1 := by
    rw [Int.natCast_emod, Int.natCast_mul, hv, Int.mul_emod, Int.emod_emod_of_dvd _ (Int.dvd_refl _), ← Int.mul_emod]
    have e2 : (a : Int) * v = 1 + (l : Int) * (-u) := by
      rw [Int.mul_neg, Int.mul_comm (l : Int) u, Int.mul_comm (a : Int) v]
      omega
    rw [e2, Int.add_mul_emod_self_left]
    exact Int.emod_eq_of_lt (by omega) (by omega)
  omega

section
variable {F : Type} [Fd F] {b : F} (hb : b ≠ 0)
include hb
theorem nmul_gcd {S : F × F} (oS : OnP b S) (m n : Nat) : nmul S m = O2 → nmul S n = O2 → nmul S (Nat.gcd m n) = O2 := by
  induction m, n using Nat.gcd.induction with
  | H0 n => intro _ h; rw [Nat.gcd_zero_left]; exact h
  | H1 m n hm ih =>
    intro h1 h2
    rw [Nat.gcd_rec]
    refine ih ?_ h1
    have e := Nat.div_add_mod n m
    rw [← e, nmul_add hb oS, ← nmul_mul hb oS, h1, nmul_O, O_add] at h2
    exact h2
theorem nmul_red {S : F × F} (oS : OnP b S) {l : Nat} (h : nmul S l = O2) (n : Nat) : nmul S n = nmul S (n % l) := by
  conv => lhs; rw [← Nat.div_add_mod n l]
  rw [nmul_add hb oS, ← nmul_mul hb oS, h, nmul_O, O_add]
theorem ord_dvd {P : F × F} (oP : OnP b P) {l n a : Nat} (hl : Prm l) (hk : nmul P (n * l) = O2) (hne : nmul P n ≠ O2) (ha : nmul P a = O2) : l ∣ a := by
  refine Classical.byContradiction fun hd => hne ?_
  have hc : Nat.gcd l a = 1 := hl.coprime hd
  have oS := nmul_on hb oP n
  have h1 : nmul (nmul P n) l = O2 := by rw [nmul_mul hb oP]; exact hk
  have h2 : nmul (nmul P n) a = O2 := by rw [nmul_mul hb oP, Nat.mul_comm, ← nmul_mul hb oP, ha, nmul_O]
  have := nmul_gcd hb oS l a h1 h2
  rw [hc, nmul_one] at this
  exact this
theorem ind2 {U V : F × F} (oU : OnP b U) (oV : OnP b V) {l : Nat} (hl : Prm l) (hU : nmul U l = O2) (hV : nmul V l = O2) (hV0 : V ≠ O2) (hj : ∀ j, j < l → padd U (nmul V j) ≠ O2) {a c : Nat}
    (h : padd (nmul U a) (nmul V c) = O2) : l ∣ a ∧ l ∣ c := by
  by_cases hd : l ∣ a
  · refine ⟨hd, ?_⟩
    obtain ⟨t, rfl⟩ := hd
    rw [← nmul_mul hb oU, hU, nmul_O, O_add] at h
    refine Classical.byContradiction fun hc => hV0 ?_
    have := nmul_gcd hb oV l c hV h
    rw [show Nat.gcd l c = 1 from hl.coprime hc, nmul_one] at this
    exact this
  · obtain ⟨s, hs⟩ := inv_mod (hl.coprime hd) hl.1
    have h2 : nmul (padd (nmul U a) (nmul V c)) s = O2 := by rw [h, nmul_O]
    rw [nmul_padd hb (nmul_on hb oU _) (nmul_on hb oV _), nmul_mul hb oU, nmul_mul hb oV, nmul_red hb oU hU (a * s), hs, nmul_one, nmul_red hb oV hV (c * s)] at h2
    exact absurd h2 (hj _ (Nat.mod_lt _ (by have := hl.1; omega)))

/-- What two points make. -/
def InH (P1 P2 P : F × F) : Prop := ∃ a c : Nat, P = padd (nmul P1 a) (nmul P2 c)
variable {P1 P2 : F × F} (o1 : OnP b P1) (o2 : OnP b P2)
include o1 o2
theorem inH_on {P : F × F} (h : InH P1 P2 P) : OnP b P := by
  obtain ⟨a, c, rfl⟩ := h
  exact padd_on hb (nmul_on hb o1 _) (nmul_on hb o2 _)
theorem inH_add {P Q : F × F} (h : InH P1 P2 P) (k : InH P1 P2 Q) : InH P1 P2 (padd P Q) := by
  obtain ⟨a, c, rfl⟩ := h
  obtain ⟨a', c', rfl⟩ := k
  refine ⟨a + a', c + c', ?_⟩
  rw [nmul_add hb o1, nmul_add hb o2]
  exact add4 hb (nmul_on hb o1 _) (nmul_on hb o2 _) (nmul_on hb o1 _) (nmul_on hb o2 _)
theorem inH_mul {P : F × F} (h : InH P1 P2 P) (n : Nat) : InH P1 P2 (nmul P n) := by
  obtain ⟨a, c, rfl⟩ := h
  refine ⟨a * n, c * n, ?_⟩
  rw [nmul_padd hb (nmul_on hb o1 _) (nmul_on hb o2 _), nmul_mul hb o1, nmul_mul hb o2]
omit o1 o2 in
theorem neg_mul_of {P : F × F} (oP : OnP b P) {N : Nat} (h : nmul P N = O2) (hN : 0 < N) : pneg P = nmul P (N - 1) := by
  have e : N = 1 + (N - 1) := by omega
  rw [e, nmul_add hb oP, nmul_one] at h
  have := cancel hb oP (nmul_on hb oP (N - 1))
  rw [h, add_O] at this
  exact this
variable {n1 n2 : Nat} (k1 : nmul P1 n1 = O2) (k2 : nmul P2 n2 = O2)
include k1 k2
theorem inH_kill {P : F × F} (h : InH P1 P2 P) : nmul P (n1 * n2) = O2 := by
  obtain ⟨a, c, rfl⟩ := h
  rw [nmul_padd hb (nmul_on hb o1 _) (nmul_on hb o2 _), nmul_mul hb o1, nmul_mul hb o2]
  rw [show a * (n1 * n2) = n1 * (n2 * a) by rw [Nat.mul_comm a, Nat.mul_assoc], show c * (n1 * n2) = n2 * (n1 * c) by rw [Nat.mul_comm c, Nat.mul_comm n1, Nat.mul_assoc]]
  rw [← nmul_mul hb o1, ← nmul_mul hb o2, k1, k2, nmul_O, nmul_O, O_add]
theorem inH_neg (hN : 0 < n1 * n2) {P : F × F} (h : InH P1 P2 P) : InH P1 P2 (pneg P) := by
  rw [neg_mul_of hb (inH_on hb o1 o2 h) (inH_kill hb o1 o2 k1 k2 h) hN]
  exact inH_mul hb o1 o2 h _
theorem inH_half (hodd : n1 * n2 % 2 = 1) (no2 : ∀ P : F × F, OnP b P → padd P P = O2 → P = O2) {Q : F × F} (oQ : OnP b Q) (h : InH P1 P2 (padd Q Q)) : InH P1 P2 Q := by
  have hk := inH_kill hb o1 o2 k1 k2 h
  rw [nmul_padd hb oQ oQ] at hk
  have hz := no2 _ (nmul_on hb oQ _) hk
  have e : nmul Q (2 * ((n1 * n2 + 1) / 2)) = Q := by
    rw [show 2 * ((n1 * n2 + 1) / 2) = n1 * n2 + 1 by omega, nmul_add hb oQ, hz, O_add, nmul_one]
  rw [← nmul_mul hb oQ, nmul_two] at e
  rw [← e]
  exact inH_mul hb o1 o2 h _
/-- Two sums alike: the difference. -/
theorem inH_sub (hN : 0 < n1 * n2) {X Y U V : F × F} (oX : OnP b X) (oY : OnP b Y) (hU : InH P1 P2 U) (hV : InH P1 P2 V) (e : padd X U = padd Y V) : ∃ W, InH P1 P2 W ∧ X = padd Y W ∧ (W = O2 → U = V) := by
  have oU := inH_on hb o1 o2 hU
  have oV := inH_on hb o1 o2 hV
  have onU := pneg_onP oU
  refine ⟨padd V (pneg U), inH_add hb o1 o2 hV (inH_neg hb o1 o2 k1 k2 hN hU), ?_, ?_⟩
  · rw [← padd_assoc hb oY oV onU, ← e, padd_assoc hb oX oU onU, add_neg_self, add_O]
  · intro h
    have : padd (padd V (pneg U)) U = padd O2 U := by rw [h]
    rw [padd_assoc hb oV onU oU, neg_add_self, add_O, O_add] at this
    exact this.symm
theorem inH_inj (ind : ∀ a c, padd (nmul P1 a) (nmul P2 c) = O2 → n1 ∣ a ∧ n2 ∣ c) {a c a' c' : Nat} (ha : a < n1) (ha' : a' < n1) (hc : c < n2) (hc' : c' < n2)
    (e : padd (nmul P1 a) (nmul P2 c) = padd (nmul P1 a') (nmul P2 c')) : a = a' ∧ c = c' := by
  have h : padd (padd (nmul P1 a) (nmul P2 c)) (padd (nmul P1 (n1 - a)) (nmul P2 (n2 - c))) = O2 := by
    rw [add4 hb (nmul_on hb o1 _) (nmul_on hb o2 _) (nmul_on hb o1 _) (nmul_on hb o2 _), ← nmul_add hb o1, ← nmul_add hb o2, show a + (n1 - a) = n1 by omega, show c + (n2 - c) = n2 by omega, k1, k2, O_add]
  rw [e, add4 hb (nmul_on hb o1 _) (nmul_on hb o2 _) (nmul_on hb o1 _) (nmul_on hb o2 _), ← nmul_add hb o1, ← nmul_add hb o2] at h
  obtain ⟨⟨u, hu⟩, ⟨v, hv⟩⟩ := ind _ _ h
  refine ⟨?_, ?_⟩
  · match u with
    | 0 => omega
    | 1 => omega
    | u + 2 => have : n1 * (u + 2) = n1 * u + n1 + n1 := by rw [Nat.mul_add]; omega
               omega
  · match v with
    | 0 => omega
    | 1 => omega
    | v + 2 => have : n2 * (v + 2) = n2 * v + n2 + n2 := by rw [Nat.mul_add]; omega
               omega
def cQ (Q : F × F) (c : Nat) : F × F := if c = 0 then O2 else if c = 1 then Q else pneg Q
omit k1 k2 o1 o2 hb in
theorem cQ_on {Q : F × F} (oQ : OnP b Q) (c : Nat) : OnP b (cQ Q c) := by
  unfold cQ
  split
  · exact .inl rfl
  · split
    · exact oQ
    · exact pneg_onP oQ
theorem gen_all (hodd : n1 * n2 % 2 = 1) (ind : ∀ a c, padd (nmul P1 a) (nmul P2 c) = O2 → n1 ∣ a ∧ n2 ∣ c) (no2 : ∀ P : F × F, OnP b P → padd P P = O2 → P = O2)
    (code : F × F → Nat) (B : Nat) (hB : ∀ P, OnP b P → code P < B) (hinj : ∀ P Q, OnP b P → OnP b Q → code P = code Q → P = Q) (hsz : B < 3 * (n1 * n2)) {Q : F × F} (oQ : OnP b Q) : InH P1 P2 Q := by
  refine Classical.byContradiction fun hQ => ?_
  have hN : 0 < n1 * n2 := by omega
  have hn2 : 0 < n2 := Nat.pos_of_ne_zero fun e => by rw [e] at hN; simp at hN
  have hH : ∀ t, InH P1 P2 (padd (nmul P1 (t / n2)) (nmul P2 (t % n2))) := fun t => ⟨_, _, rfl⟩
  have hneg : ∀ P, OnP b P → InH P1 P2 (pneg P) → InH P1 P2 P := fun P _ h => by have := inH_neg hb o1 o2 k1 k2 hN h; rwa [pneg_pneg] at this
  have h2Q : ¬ InH P1 P2 (padd Q Q) := fun h => hQ (inH_half hb o1 o2 k1 k2 hodd no2 oQ h)
  have key : ∀ c c', c < 3 → c' < 3 → c ≠ c' → ∀ W, InH P1 P2 W → cQ Q c = padd (cQ Q c') W → False := by
    intro c c' hc hc' hne W hW e
    have oW := inH_on hb o1 o2 hW
    have oN := pneg_onP oQ
    have hc : c = 0 ∨ c = 1 ∨ c = 2 := by omega
    have hc' : c' = 0 ∨ c' = 1 ∨ c' = 2 := by omega
    have e0 : cQ Q 0 = O2 := rfl
    have e1 : cQ Q 1 = Q := rfl
    have e2 : cQ Q 2 = pneg Q := rfl
    rcases hc with rfl | rfl | rfl <;> rcases hc' with rfl | rfl | rfl
    · exact hne rfl
    · rw [e0, e1] at e
      have := cancel hb oQ oW
      rw [← e, add_O] at this
      exact hQ (hneg Q oQ (this ▸ hW))
    · rw [e0, e2] at e
      have := cancel hb oN oW
      rw [← e, add_O, pneg_pneg] at this
      exact hQ (this ▸ hW)
    · rw [e1, e0, O_add] at e
      exact hQ (e ▸ hW)
    · exact hne rfl
    · rw [e1, e2] at e
      have : padd Q Q = W := by
        have := cancel hb oN oW
        rw [← e, pneg_pneg] at this
        exact this
      exact h2Q (this ▸ hW)
    · rw [e2, e0, O_add] at e
      exact hQ (hneg Q oQ (e ▸ hW))
    · rw [e2, e1] at e
      have : pneg (padd Q Q) = W := by
        have := cancel hb oQ oW
        rw [← e] at this
        rw [← this]
        exact pneg_add hb oQ oQ
      exact h2Q (hneg _ (padd_on hb oQ oQ) (this ▸ hW))
    · exact hne rfl
  have := pigeon B (3 * (n1 * n2)) (fun i => code (padd (cQ Q (i / (n1 * n2))) (padd (nmul P1 (i % (n1 * n2) / n2)) (nmul P2 (i % (n1 * n2) % n2))))) (fun i _ => hB _ (padd_on hb (cQ_on oQ _) (inH_on hb o1 o2 (hH _)))) (fun i j hi hj e => by
    have e := hinj _ _ (padd_on hb (cQ_on oQ _) (inH_on hb o1 o2 (hH _))) (padd_on hb (cQ_on oQ _) (inH_on hb o1 o2 (hH _))) e
    obtain ⟨W, hW, eW, hz⟩ := inH_sub hb o1 o2 k1 k2 hN (cQ_on oQ _) (cQ_on oQ _) (hH _) (hH _) e
    have di : i / (n1 * n2) < 3 := Nat.div_lt_of_lt_mul (by rw [Nat.mul_comm]; exact hi)
    have dj : j / (n1 * n2) < 3 := Nat.div_lt_of_lt_mul (by rw [Nat.mul_comm]; exact hj)
    by_cases hc : i / (n1 * n2) = j / (n1 * n2)
    · rw [hc] at eW
      have oc := cQ_on oQ (j / (n1 * n2))
      have hW0 : W = O2 := by
        have := cancel hb oc (inH_on hb o1 o2 hW)
        rw [← eW, neg_add_self] at this
        exact this.symm
      have li : i % (n1 * n2) < n1 * n2 := Nat.mod_lt _ hN
      have lj : j % (n1 * n2) < n1 * n2 := Nat.mod_lt _ hN
      obtain ⟨ea, ec⟩ := inH_inj hb o1 o2 k1 k2 ind (Nat.div_lt_of_lt_mul (by rw [Nat.mul_comm n2]; exact li)) (Nat.div_lt_of_lt_mul (by rw [Nat.mul_comm n2]; exact lj)) (Nat.mod_lt _ hn2) (Nat.mod_lt _ hn2) (hz hW0)
      have f1 := Nat.div_add_mod (i % (n1 * n2)) n2
      have f2 := Nat.div_add_mod (j % (n1 * n2)) n2
      have f3 := Nat.div_add_mod i (n1 * n2)
      have f4 := Nat.div_add_mod j (n1 * n2)
      rw [ea, ec, f2] at f1
      rw [← f1, hc] at f3
      omega
    · exact (key _ _ di dj hc W hW eW).elim)
  omega
omit k1 k2 o1 o2 in
theorem no2_of (hx : ∀ x : F, x * x * x + b ≠ 0) (P : F × F) (oP : OnP b P) (h : padd P P = O2) : P = O2 := by
  rcases oP with rfl | oP
  · rfl
  · have := cancel hb (.inr oP) (.inr oP)
    rw [h, add_O] at this
    have e : -P.2 = P.2 := congrArg Prod.snd this
    have e0 := eq_neg_self e.symm
    have oP : P.2 * P.2 = P.1 * P.1 * P.1 + b := oP
    rw [e0, Rg.mul_zero] at oP
    exact absurd oP.symm (hx _)
omit k1 k2 in
/-- Independent points: by the primes of their orders. -/
theorem ind_all {k l l' : Nat} (hl : Prm l) (hl' : Prm l') (hll : Nat.Coprime l l') (hkl : Nat.Coprime k (l * l')) (k1 : nmul P1 (k * (l * l')) = O2) (k2 : nmul P2 (l * l') = O2)
    (hk : ∀ a, nmul P1 a = O2 → k ∣ a)
    (v1 : nmul P2 l' ≠ O2) (j1 : ∀ j, j < l → padd (nmul P1 (k * l')) (nmul (nmul P2 l') j) ≠ O2)
    (v2 : nmul P2 l ≠ O2) (j2 : ∀ j, j < l' → padd (nmul P1 (k * l)) (nmul (nmul P2 l) j) ≠ O2) (a c : Nat) (h : padd (nmul P1 a) (nmul P2 c) = O2) : k * (l * l') ∣ a ∧ l * l' ∣ c := by
  have h1 : nmul (padd (nmul P1 a) (nmul P2 c)) (l * l') = O2 := by rw [h, nmul_O]
  rw [nmul_padd hb (nmul_on hb o1 _) (nmul_on hb o2 _), nmul_mul hb o1, nmul_mul hb o2, Nat.mul_comm c, ← nmul_mul hb o2, k2, nmul_O, add_O] at h1
  obtain ⟨a', rfl⟩ : k ∣ a := hkl.dvd_of_dvd_mul_right (hk _ h1)
  have part : ∀ {l l' : Nat}, Prm l → nmul P1 (k * (l * l')) = O2 → nmul P2 (l * l') = O2 → nmul P2 l' ≠ O2 → (∀ j, j < l → padd (nmul P1 (k * l')) (nmul (nmul P2 l') j) ≠ O2) → l ∣ a' ∧ l ∣ c := by
    intro l l' hl k1 k2 v1 j1
    have e : nmul (padd (nmul P1 (k * a')) (nmul P2 c)) l' = O2 := by rw [h, nmul_O]
    rw [nmul_padd hb (nmul_on hb o1 _) (nmul_on hb o2 _), nmul_mul hb o1, nmul_mul hb o2, show k * a' * l' = k * l' * a' by rw [Nat.mul_assoc, Nat.mul_comm a', Nat.mul_assoc], Nat.mul_comm c, ← nmul_mul hb o1, ← nmul_mul hb o2] at e
    exact ind2 hb (nmul_on hb o1 _) (nmul_on hb o2 _) hl (by rw [nmul_mul hb o1, Nat.mul_assoc, Nat.mul_comm l']; exact k1) (by rw [nmul_mul hb o2, Nat.mul_comm]; exact k2) v1 j1 e
  obtain ⟨d1, d2⟩ := part hl k1 k2 v1 j1
  obtain ⟨d3, d4⟩ := part hl' (by rw [Nat.mul_comm l']; exact k1) (by rw [Nat.mul_comm l']; exact k2) v2 j2
  exact ⟨Nat.mul_dvd_mul (Nat.dvd_refl k) (hll.mul_dvd_of_dvd_of_dvd d1 d3), hll.mul_dvd_of_dvd_of_dvd d2 d4⟩
end
end Cr
/- The great prime in the order of the second group's curve: a certificate, printed by a program. No program under proof here. -/
namespace Cr
set_option maxRecDepth 100000
theorem prm_1367711 : Prm 1367711 := trial (f := 11) (by decide) (by decide) (by kernel_rfl)
theorem prm_541 : Prm 541 := trial (f := 5) (by decide) (by decide) (by kernel_rfl)
theorem prm_12192593745179 : Prm 12192593745179 := by
  refine Classical.byContradiction fun hp => ?_
  obtain ⟨d, hd, hdn, hdd⟩ := small_prime (n := 12192593745179) (by decide) hp
  have h0 : 1367711 ∣ d - 1 := pock (k := 8914598) (a := 2) (f := 44) prm_1367711 (by kernel_rfl) (of_decide_eq_true (by kernel_rfl)) (by kernel_rfl) (by kernel_rfl) hd hdn
  have h1 : 541 ∣ d - 1 := pock (k := 22537141858) (a := 2) (f := 44) prm_541 (by kernel_rfl) (of_decide_eq_true (by kernel_rfl)) (by kernel_rfl) (by kernel_rfl) hd hdn
  have g1 : 1367711 * 541 ∣ d - 1 := Nat.Coprime.mul_dvd_of_dvd_of_dvd (show Nat.gcd 1367711 541 = 1 by kernel_rfl) h0 h1
  rw [show 1367711 * 541 = 739931651 by kernel_rfl] at g1
  exact pock_fin hd.1 g1 hdd (of_decide_eq_true (by kernel_rfl))
theorem prm_512088937297519 : Prm 512088937297519 := by
  refine Classical.byContradiction fun hp => ?_
  obtain ⟨d, hd, hdn, hdd⟩ := small_prime (n := 512088937297519) (by decide) hp
  have h0 : 12192593745179 ∣ d - 1 := pock (k := 42) (a := 2) (f := 49) prm_12192593745179 (by kernel_rfl) (of_decide_eq_true (by kernel_rfl)) (by kernel_rfl) (by kernel_rfl) hd hdn
  exact pock_fin hd.1 h0 hdd (of_decide_eq_true (by kernel_rfl))
theorem prm_1857858664515398933 : Prm 1857858664515398933 := by
  refine Classical.byContradiction fun hp => ?_
  obtain ⟨d, hd, hdn, hdd⟩ := small_prime (n := 1857858664515398933) (by decide) hp
  have h0 : 512088937297519 ∣ d - 1 := pock (k := 3628) (a := 2) (f := 61) prm_512088937297519 (by kernel_rfl) (of_decide_eq_true (by kernel_rfl)) (by kernel_rfl) (by kernel_rfl) hd hdn
  exact pock_fin hd.1 h0 hdd (of_decide_eq_true (by kernel_rfl))
theorem prm_22294303974184787197 : Prm 22294303974184787197 := by
  refine Classical.byContradiction fun hp => ?_
  obtain ⟨d, hd, hdn, hdd⟩ := small_prime (n := 22294303974184787197) (by decide) hp
  have h0 : 1857858664515398933 ∣ d - 1 := pock (k := 12) (a := 2) (f := 65) prm_1857858664515398933 (by kernel_rfl) (of_decide_eq_true (by kernel_rfl)) (by kernel_rfl) (by kernel_rfl) hd hdn
  exact pock_fin hd.1 h0 hdd (of_decide_eq_true (by kernel_rfl))
theorem prm_19931107752921199754119 : Prm 19931107752921199754119 := by
  refine Classical.byContradiction fun hp => ?_
  obtain ⟨d, hd, hdn, hdd⟩ := small_prime (n := 19931107752921199754119) (by decide) hp
  have h0 : 22294303974184787197 ∣ d - 1 := pock (k := 894) (a := 2) (f := 75) prm_22294303974184787197 (by kernel_rfl) (of_decide_eq_true (by kernel_rfl)) (by kernel_rfl) (by kernel_rfl) hd hdn
  exact pock_fin hd.1 h0 hdd (of_decide_eq_true (by kernel_rfl))
theorem prm_81162125843606155545104998607900118769099783 : Prm 81162125843606155545104998607900118769099783 := by
  refine Classical.byContradiction fun hp => ?_
  obtain ⟨d, hd, hdn, hdd⟩ := small_prime (n := 81162125843606155545104998607900118769099783) (by decide) hp
  have h0 : 19931107752921199754119 ∣ d - 1 := pock (k := 4072133212551150901578) (a := 2) (f := 146) prm_19931107752921199754119 (by kernel_rfl) (of_decide_eq_true (by kernel_rfl)) (by kernel_rfl) (by kernel_rfl) hd hdn
  exact pock_fin hd.1 h0 hdd (of_decide_eq_true (by kernel_rfl))
theorem prm_26935696298915610574513298451669528361624243820491956655650666425177 : Prm 26935696298915610574513298451669528361624243820491956655650666425177 := by
  refine Classical.byContradiction fun hp => ?_
  obtain ⟨d, hd, hdn, hdd⟩ := small_prime (n := 26935696298915610574513298451669528361624243820491956655650666425177) (by decide) hp
  have h0 : 81162125843606155545104998607900118769099783 ∣ d - 1 := pock (k := 331875194481953911837672) (a := 2) (f := 224) prm_81162125843606155545104998607900118769099783 (by kernel_rfl) (of_decide_eq_true (by kernel_rfl)) (by kernel_rfl) (by kernel_rfl) hd hdn
  exact pock_fin hd.1 h0 hdd (of_decide_eq_true (by kernel_rfl))
theorem prm_4638704574076146691498289350639807119782054683906549022985642612861209609656189848749536921852444848596916990932297 : Prm 4638704574076146691498289350639807119782054683906549022985642612861209609656189848749536921852444848596916990932297 := by
  refine Classical.byContradiction fun hp => ?_
  obtain ⟨d, hd, hdn, hdd⟩ := small_prime (n := 4638704574076146691498289350639807119782054683906549022985642612861209609656189848749536921852444848596916990932297) (by decide) hp
  have h0 : 26935696298915610574513298451669528361624243820491956655650666425177 ∣ d - 1 := pock (k := 172214021222941014338396330402661971150362189448) (a := 2) (f := 381) prm_26935696298915610574513298451669528361624243820491956655650666425177 (by kernel_rfl) (of_decide_eq_true (by kernel_rfl)) (by kernel_rfl) (by kernel_rfl) hd hdn
  exact pock_fin hd.1 h0 hdd (of_decide_eq_true (by kernel_rfl))
theorem prm_m : Prm 402096035359507321594726366720466575392706800671181159425656785868777272553337714697862511267018014931937703598282857976535744623203249 := by
  refine Classical.byContradiction fun hp => ?_
  obtain ⟨d, hd, hdn, hdd⟩ := small_prime (n := 402096035359507321594726366720466575392706800671181159425656785868777272553337714697862511267018014931937703598282857976535744623203249) (by decide) hp
  have h0 : 4638704574076146691498289350639807119782054683906549022985642612861209609656189848749536921852444848596916990932297 ∣ d - 1 := pock (k := 86682828996409959984) (a := 2) (f := 448) prm_4638704574076146691498289350639807119782054683906549022985642612861209609656189848749536921852444848596916990932297 (by kernel_rfl) (of_decide_eq_true (by kernel_rfl)) (by kernel_rfl) (by kernel_rfl) hd hdn
  exact pock_fin hd.1 h0 hdd (of_decide_eq_true (by kernel_rfl))
theorem prm_13 : Prm 13 := trial (f := 1) (by decide) (by decide) (by kernel_rfl)
theorem prm_23 : Prm 23 := trial (f := 2) (by decide) (by decide) (by kernel_rfl)
theorem prm_2713 : Prm 2713 := trial (f := 6) (by decide) (by decide) (by kernel_rfl)
theorem prm_11953 : Prm 11953 := trial (f := 7) (by decide) (by decide) (by kernel_rfl)
theorem prm_262069 : Prm 262069 := trial (f := 9) (by decide) (by decide) (by kernel_rfl)
end Cr
/- Bulk points by computation: values forced one by one. No program here. -/
namespace Cr
open Rg Fd

/-- A way to compute in a field. -/
structure Ev (F : Type) [Fd F] where
  V : Type
  φ : V → F
  add : V → V → V
  sub : V → V → V
  mul : V → V → V
  isz : V → Bool
  zero : V
  force : {α : Type} → V → (V → α) → α
  add_φ : ∀ a b, φ (add a b) = φ a + φ b
  sub_φ : ∀ a b, φ (sub a b) = φ a - φ b
  mul_φ : ∀ a b, φ (mul a b) = φ a * φ b
  isz_φ : ∀ a, isz a = true ↔ φ a = 0
  zero_φ : φ zero = 0
  force_eq : ∀ {α : Type} (a : V) (k : V → α), force a k = k a

section
variable {F : Type} [Fd F] (E : Ev F)
abbrev Ev.J := E.V × E.V × E.V
def Ev.φ3 (a : E.J) : Jc F := (E.φ a.1, E.φ a.2.1, E.φ a.2.2)
def Ev.dbl (a : E.J) : E.J := match E.isz a.2.2 with
  | true => (E.zero, E.zero, E.zero)
  | false =>
    E.force (E.mul a.1 a.1) fun xx => E.force (E.mul a.2.1 a.2.1) fun yy => E.force (E.add (E.add xx xx) xx) fun sl =>
    E.force (E.mul a.1 yy) fun m1 => E.force (E.add m1 m1) fun m2 => E.force (E.add m2 m2) fun mid =>
    E.force (E.add yy yy) fun y2 => E.force (E.mul y2 y2) fun fall =>
    E.force (E.sub (E.sub (E.mul sl sl) mid) mid) fun x =>
    E.force (E.sub (E.sub (E.mul sl (E.sub mid x)) fall) fall) fun y =>
    E.force (E.mul a.2.1 a.2.2) fun z1 => E.force (E.add z1 z1) fun z => (x, y, z)
theorem Ev.dbl_φ (a : E.J) : E.φ3 (E.dbl a) = jdbl (E.φ3 a) := by
  unfold Ev.dbl jdbl
  cases h : E.isz a.2.2 with
  | true =>
    have : (E.φ3 a).2.2 = 0 := (E.isz_φ _).1 h
    rw [if_pos this]
    show (E.φ E.zero, E.φ E.zero, E.φ E.zero) = _
    rw [E.zero_φ]
  | false =>
    have : (E.φ3 a).2.2 ≠ 0 := fun e => by have := (E.isz_φ a.2.2).2 e; rw [h] at this; cases this
    rw [if_neg this]
    simp only [E.force_eq]
    simp only [Ev.φ3, jdbN, jdX, E.add_φ, E.sub_φ, E.mul_φ]
def Ev.jadd (a c : E.J) : E.J := match E.isz a.2.2 with
  | true => c
  | false => match E.isz c.2.2 with
    | true => a
    | false =>
      E.force (E.mul a.2.2 a.2.2) fun aa => E.force (E.mul c.2.2 c.2.2) fun bb =>
      E.force (E.mul a.1 bb) fun left => E.force (E.mul c.1 aa) fun right =>
      E.force (E.mul (E.mul a.2.1 bb) c.2.2) fun low => E.force (E.mul (E.mul c.2.1 aa) a.2.2) fun high =>
      E.force (E.sub right left) fun wide => E.force (E.sub high low) fun rise =>
      match E.isz wide with
      | true => match E.isz rise with
        | true => E.dbl a
        | false => (E.zero, E.zero, E.zero)
      | false =>
        E.force (E.mul wide wide) fun sq => E.force (E.mul sq wide) fun cube => E.force (E.mul left sq) fun l2 =>
        E.force (E.sub (E.sub (E.sub (E.mul rise rise) cube) l2) l2) fun x =>
        E.force (E.sub (E.mul rise (E.sub l2 x)) (E.mul low cube)) fun y =>
        E.force (E.mul (E.mul a.2.2 c.2.2) wide) fun z => (x, y, z)
theorem Ev.jadd_φ (a c : E.J) : E.φ3 (E.jadd a c) = Cr.jadd (E.φ3 a) (E.φ3 c) := by
  have nz : ∀ v : E.V, E.isz v = false → E.φ v ≠ 0 := fun v h e => by have := (E.isz_φ v).2 e; rw [h] at this; cases this
  unfold Ev.jadd Cr.jadd
  cases h : E.isz a.2.2 with
  | true => rw [if_pos (show (E.φ3 a).2.2 = 0 from (E.isz_φ _).1 h)]
  | false =>
    rw [if_neg (show (E.φ3 a).2.2 ≠ 0 from nz _ h)]
    cases h2 : E.isz c.2.2 with
    | true => rw [if_pos (show (E.φ3 c).2.2 = 0 from (E.isz_φ _).1 h2)]
    | false =>
      rw [if_neg (show (E.φ3 c).2.2 ≠ 0 from nz _ h2)]
      simp only [E.force_eq]
      have ew : E.φ (E.sub (E.mul c.1 (E.mul a.2.2 a.2.2)) (E.mul a.1 (E.mul c.2.2 c.2.2))) = (E.φ3 c).1 * ((E.φ3 a).2.2 * (E.φ3 a).2.2) - (E.φ3 a).1 * ((E.φ3 c).2.2 * (E.φ3 c).2.2) := by simp only [Ev.φ3, E.sub_φ, E.mul_φ]
      have er : E.φ (E.sub (E.mul (E.mul c.2.1 (E.mul a.2.2 a.2.2)) a.2.2) (E.mul (E.mul a.2.1 (E.mul c.2.2 c.2.2)) c.2.2)) = (E.φ3 c).2.1 * ((E.φ3 a).2.2 * (E.φ3 a).2.2) * (E.φ3 a).2.2 - (E.φ3 a).2.1 * ((E.φ3 c).2.2 * (E.φ3 c).2.2) * (E.φ3 c).2.2 := by simp only [Ev.φ3, E.sub_φ, E.mul_φ]
      cases h3 : E.isz (E.sub (E.mul c.1 (E.mul a.2.2 a.2.2)) (E.mul a.1 (E.mul c.2.2 c.2.2))) with
      | true =>
        have := (E.isz_φ _).1 h3
        rw [ew] at this
        rw [if_pos this]
        cases h4 : E.isz (E.sub (E.mul (E.mul c.2.1 (E.mul a.2.2 a.2.2)) a.2.2) (E.mul (E.mul a.2.1 (E.mul c.2.2 c.2.2)) c.2.2)) with
        | true =>
          have := (E.isz_φ _).1 h4
          rw [er] at this
          rw [if_pos this]
          exact E.dbl_φ a
        | false =>
          have := nz _ h4
          rw [er] at this
          rw [if_neg this]
          show (E.φ E.zero, E.φ E.zero, E.φ E.zero) = _
          rw [E.zero_φ]
      | false =>
        have := nz _ h3
        rw [ew] at this
        rw [if_neg this]
        simp only [Ev.φ3, jfin, jaX, E.sub_φ, E.mul_φ]
/-- So many times, by the digits of the number, from its lowest: 2 n, 2 n + 1. -/
def Ev.mul2 (o : E.J) : Nat → Nat → E.J
  | 0, _ => (E.zero, E.zero, E.zero)
  | f + 1, n => match Nat.beq n 0 with
    | true => (E.zero, E.zero, E.zero)
    | false => match Nat.beq (n % 2) 1 with
      | true => E.jadd (E.dbl (Ev.mul2 o f (n / 2))) o
      | false => E.dbl (Ev.mul2 o f (n / 2))
variable {E} in
theorem Ev.mul2_rep {b : F} (hb : b ≠ 0) {o : E.J} {P : F × F} (ho : Rep b (E.φ3 o) P) : ∀ f n, n < 2 ^ f → Rep b (E.φ3 (E.mul2 o f n)) (nmul P n) := by
  have h0 : Rep b (E.φ3 (E.zero, E.zero, E.zero)) (O2 : F × F) := .inl ⟨E.zero_φ, rfl⟩
  intro f
  induction f with
  | zero => intro n h; have : n = 0 := by simp at h; exact h
            subst this; exact h0
  | succ f ih =>
    intro n h
    unfold Ev.mul2
    split
    · rename_i hn; have := Nat.eq_of_beq_eq_true hn; subst this; exact h0
    · have hr := ih (n / 2) (by rw [Nat.pow_succ] at h; omega)
      have hd := rep_dbl hb hr
      rw [← E.dbl_φ, ← nmul_add hb ho.on] at hd
      split
      · rename_i h1
        have h1 := Nat.eq_of_beq_eq_true h1
        have ha := rep_add hb hd ho
        rw [← E.jadd_φ] at ha
        have e : n = n / 2 + n / 2 + 1 := by omega
        have : nmul P n = padd (nmul P (n / 2 + n / 2)) P := by
          conv => lhs; rw [e]
          rfl
        rw [this]
        exact ha
      · rename_i h1
        have h1 : n % 2 ≠ 1 := fun h2 => by rw [h2] at h1; exact absurd h1 (by decide)
        have e : n = n / 2 + n / 2 := by omega
        have : nmul P n = nmul P (n / 2 + n / 2) := by conv => lhs; rw [e]
        rw [this]
        exact hd
end
end Cr
/- The generator's order, by computation. No program here. -/
namespace Cr
open Rg Fd
def fc {α : Type} (n : Nat) (k : Nat → α) : α := Nat.rec (k 0) (fun m _ => k (m + 1)) n
theorem fc_eq {α : Type} (n : Nat) (k : Nat → α) : fc n k = k n := by cases n <;> rfl
def pN : Nat := 4002409555221667393417789825735904156556882819939007885332058136124031650490837864442687629129015664037894272559787
theorem zm_nat (n : Nat) : (zm ((n % pN : Nat) : Int) : Fp) = zm (n : Int) := zm_eq (by rw [Int.natCast_emod]; exact Int.emod_emod_of_dvd _ (Int.dvd_refl _))
noncomputable def evP1 : Ev Fp where
  V := Nat
  φ n := zm (n : Int)
  add a b := (a + b) % pN
  sub a b := (a + (pN - b % pN)) % pN
  mul a b := (a * b) % pN
  isz a := Nat.beq (a % pN) 0
  zero := 0
  force := fc
  add_φ a b := by rw [zm_nat, zm_add, Int.natCast_add]
  sub_φ a b := by
    rw [zm_nat, zm_sub]
    refine zm_eq ?_
    have h := Nat.mod_lt b (show 0 < pN by decide)
    have e : ((a + (pN - b % pN) : Nat) : Int) = (a : Int) - b + (pN : Int) * (1 + (b : Int) / pN) := by
      have h2 := Int.emod_add_mul_ediv (b : Int) (pN : Int)
      rw [Int.mul_add, Int.mul_one]
      omega
    rw [e]
    exact Int.add_mul_emod_self_left _ _ _
  mul_φ a b := by rw [zm_nat, zm_mul, Int.natCast_mul]
  isz_φ a := by
    constructor
    · intro h
      have h := Nat.eq_of_beq_eq_true h
      rw [← zm_nat, h]; rfl
    · intro h
      have h : (zm (a : Int) : Fp).v = 0 := by rw [h, zero_v]
      have h : (a : Int) % (pN : Int) = 0 := h
      have : a % pN = 0 := by omega
      rw [this]; rfl
  zero_φ := rfl
  force_eq := fc_eq
end Cr
/- The field of numbers a + b v + c v^2 over the field of p^2, v^3 = 1 + i. No program here. -/
namespace Cr
open Rg Fd Go.Eng
abbrev F6 := F2 × F2 × F2
/-- 1 + i. -/
def xi : F2 := ((1 : Fp), (1 : Fp))
theorem f6_c1 {F : Type} [Rg F] (a b c d e f x : F) : a * d + x * (b * f + c * e) = d * a + x * (e * c + f * b) :=
  rid [a, b, c, d, e, f, x] ((fun (a b c d e f x : PE) => (a * d + x * (b * f + c * e))) (.v 0) (.v 1) (.v 2) (.v 3) (.v 4) (.v 5) (.v 6)) ((fun (a b c d e f x : PE) => (d * a + x * (e * c + f * b))) (.v 0) (.v 1) (.v 2) (.v 3) (.v 4) (.v 5) (.v 6)) (by kernel_rfl)
theorem f6_c2 {F : Type} [Rg F] (a b c d e f x : F) : a * e + b * d + x * (c * f) = d * b + e * a + x * (f * c) :=
  rid [a, b, c, d, e, f, x] ((fun (a b c d e f x : PE) => (a * e + b * d + x * (c * f))) (.v 0) (.v 1) (.v 2) (.v 3) (.v 4) (.v 5) (.v 6)) ((fun (a b c d e f x : PE) => (d * b + e * a + x * (f * c))) (.v 0) (.v 1) (.v 2) (.v 3) (.v 4) (.v 5) (.v 6)) (by kernel_rfl)
theorem f6_c3 {F : Type} [Rg F] (a b c d e f x : F) : a * f + b * e + c * d = d * c + e * b + f * a :=
  rid [a, b, c, d, e, f, x] ((fun (a b c d e f x : PE) => (a * f + b * e + c * d)) (.v 0) (.v 1) (.v 2) (.v 3) (.v 4) (.v 5) (.v 6)) ((fun (a b c d e f x : PE) => (d * c + e * b + f * a)) (.v 0) (.v 1) (.v 2) (.v 3) (.v 4) (.v 5) (.v 6)) (by kernel_rfl)
theorem f6_s1 {F : Type} [Rg F] (a b c d e f g h k x : F) : (a * d + x * (b * f + c * e)) * g + x * ((a * e + b * d + x * (c * f)) * k + (a * f + b * e + c * d) * h) = a * (d * g + x * (e * k + f * h)) + x * (b * (d * k + e * h + f * g) + c * (d * h + e * g + x * (f * k))) :=
  rid [a, b, c, d, e, f, g, h, k, x] ((fun (a b c d e f g h k x : PE) => ((a * d + x * (b * f + c * e)) * g + x * ((a * e + b * d + x * (c * f)) * k + (a * f + b * e + c * d) * h))) (.v 0) (.v 1) (.v 2) (.v 3) (.v 4) (.v 5) (.v 6) (.v 7) (.v 8) (.v 9)) ((fun (a b c d e f g h k x : PE) => (a * (d * g + x * (e * k + f * h)) + x * (b * (d * k + e * h + f * g) + c * (d * h + e * g + x * (f * k))))) (.v 0) (.v 1) (.v 2) (.v 3) (.v 4) (.v 5) (.v 6) (.v 7) (.v 8) (.v 9)) (by kernel_rfl)
theorem f6_s2 {F : Type} [Rg F] (a b c d e f g h k x : F) : (a * d + x * (b * f + c * e)) * h + (a * e + b * d + x * (c * f)) * g + x * ((a * f + b * e + c * d) * k) = a * (d * h + e * g + x * (f * k)) + b * (d * g + x * (e * k + f * h)) + x * (c * (d * k + e * h + f * g)) :=
  rid [a, b, c, d, e, f, g, h, k, x] ((fun (a b c d e f g h k x : PE) => ((a * d + x * (b * f + c * e)) * h + (a * e + b * d + x * (c * f)) * g + x * ((a * f + b * e + c * d) * k))) (.v 0) (.v 1) (.v 2) (.v 3) (.v 4) (.v 5) (.v 6) (.v 7) (.v 8) (.v 9)) ((fun (a b c d e f g h k x : PE) => (a * (d * h + e * g + x * (f * k)) + b * (d * g + x * (e * k + f * h)) + x * (c * (d * k + e * h + f * g)))) (.v 0) (.v 1) (.v 2) (.v 3) (.v 4) (.v 5) (.v 6) (.v 7) (.v 8) (.v 9)) (by kernel_rfl)
theorem f6_s3 {F : Type} [Rg F] (a b c d e f g h k x : F) : (a * d + x * (b * f + c * e)) * k + (a * e + b * d + x * (c * f)) * h + (a * f + b * e + c * d) * g = a * (d * k + e * h + f * g) + b * (d * h + e * g + x * (f * k)) + c * (d * g + x * (e * k + f * h)) :=
  rid [a, b, c, d, e, f, g, h, k, x] ((fun (a b c d e f g h k x : PE) => ((a * d + x * (b * f + c * e)) * k + (a * e + b * d + x * (c * f)) * h + (a * f + b * e + c * d) * g)) (.v 0) (.v 1) (.v 2) (.v 3) (.v 4) (.v 5) (.v 6) (.v 7) (.v 8) (.v 9)) ((fun (a b c d e f g h k x : PE) => (a * (d * k + e * h + f * g) + b * (d * h + e * g + x * (f * k)) + c * (d * g + x * (e * k + f * h)))) (.v 0) (.v 1) (.v 2) (.v 3) (.v 4) (.v 5) (.v 6) (.v 7) (.v 8) (.v 9)) (by kernel_rfl)
theorem f6_o1 {F : Type} [Rg F] (a b c x : F) : 1 * a + x * (0 * c + 0 * b) = a :=
  rid [a, b, c, x] ((fun (a b c x : PE) => (1 * a + x * (0 * c + 0 * b))) (.v 0) (.v 1) (.v 2) (.v 3)) ((fun (a b c x : PE) => (a)) (.v 0) (.v 1) (.v 2) (.v 3)) (by kernel_rfl)
theorem f6_o2 {F : Type} [Rg F] (a b c x : F) : 1 * b + 0 * a + x * (0 * c) = b :=
  rid [a, b, c, x] ((fun (a b c x : PE) => (1 * b + 0 * a + x * (0 * c))) (.v 0) (.v 1) (.v 2) (.v 3)) ((fun (a b c x : PE) => (b)) (.v 0) (.v 1) (.v 2) (.v 3)) (by kernel_rfl)
theorem f6_o3 {F : Type} [Rg F] (a b c : F) : 1 * c + 0 * b + 0 * a = c :=
  rid [a, b, c] ((fun (a b c : PE) => (1 * c + 0 * b + 0 * a)) (.v 0) (.v 1) (.v 2)) ((fun (a b c : PE) => (c)) (.v 0) (.v 1) (.v 2)) (by kernel_rfl)
theorem f6_d1 {F : Type} [Rg F] (a b c d e f g h k x : F) : (a + d) * g + x * ((b + e) * k + (c + f) * h) = a * g + x * (b * k + c * h) + (d * g + x * (e * k + f * h)) :=
  rid [a, b, c, d, e, f, g, h, k, x] ((fun (a b c d e f g h k x : PE) => ((a + d) * g + x * ((b + e) * k + (c + f) * h))) (.v 0) (.v 1) (.v 2) (.v 3) (.v 4) (.v 5) (.v 6) (.v 7) (.v 8) (.v 9)) ((fun (a b c d e f g h k x : PE) => (a * g + x * (b * k + c * h) + (d * g + x * (e * k + f * h)))) (.v 0) (.v 1) (.v 2) (.v 3) (.v 4) (.v 5) (.v 6) (.v 7) (.v 8) (.v 9)) (by kernel_rfl)
theorem f6_d2 {F : Type} [Rg F] (a b c d e f g h k x : F) : (a + d) * h + (b + e) * g + x * ((c + f) * k) = a * h + b * g + x * (c * k) + (d * h + e * g + x * (f * k)) :=
  rid [a, b, c, d, e, f, g, h, k, x] ((fun (a b c d e f g h k x : PE) => ((a + d) * h + (b + e) * g + x * ((c + f) * k))) (.v 0) (.v 1) (.v 2) (.v 3) (.v 4) (.v 5) (.v 6) (.v 7) (.v 8) (.v 9)) ((fun (a b c d e f g h k x : PE) => (a * h + b * g + x * (c * k) + (d * h + e * g + x * (f * k)))) (.v 0) (.v 1) (.v 2) (.v 3) (.v 4) (.v 5) (.v 6) (.v 7) (.v 8) (.v 9)) (by kernel_rfl)
theorem f6_d3 {F : Type} [Rg F] (a b c d e f g h k : F) : (a + d) * k + (b + e) * h + (c + f) * g = a * k + b * h + c * g + (d * k + e * h + f * g) :=
  rid [a, b, c, d, e, f, g, h, k] ((fun (a b c d e f g h k : PE) => ((a + d) * k + (b + e) * h + (c + f) * g)) (.v 0) (.v 1) (.v 2) (.v 3) (.v 4) (.v 5) (.v 6) (.v 7) (.v 8)) ((fun (a b c d e f g h k : PE) => (a * k + b * h + c * g + (d * k + e * h + f * g))) (.v 0) (.v 1) (.v 2) (.v 3) (.v 4) (.v 5) (.v 6) (.v 7) (.v 8)) (by kernel_rfl)
section
variable {R : Type} [Rg R] (v : R)
noncomputable def cadd (x y : R × R × R) : R × R × R := opq (x.1 + y.1, x.2.1 + y.2.1, x.2.2 + y.2.2)
noncomputable def csub (x y : R × R × R) : R × R × R := opq (x.1 - y.1, x.2.1 - y.2.1, x.2.2 - y.2.2)
noncomputable def cneg (x : R × R × R) : R × R × R := opq (-x.1, -x.2.1, -x.2.2)
noncomputable def cmul (x y : R × R × R) : R × R × R := opq (x.1 * y.1 + v * (x.2.1 * y.2.2 + x.2.2 * y.2.1), x.1 * y.2.1 + x.2.1 * y.1 + v * (x.2.2 * y.2.2), x.1 * y.2.2 + x.2.1 * y.2.1 + x.2.2 * y.1)
theorem cadd_def (x y : R × R × R) : cadd x y = (x.1 + y.1, x.2.1 + y.2.1, x.2.2 + y.2.2) := opq_eq _
theorem csub_def (x y : R × R × R) : csub x y = (x.1 - y.1, x.2.1 - y.2.1, x.2.2 - y.2.2) := opq_eq _
theorem cneg_def (x : R × R × R) : cneg x = (-x.1, -x.2.1, -x.2.2) := opq_eq _
theorem cmul_def (x y : R × R × R) : cmul v x y = (x.1 * y.1 + v * (x.2.1 * y.2.2 + x.2.2 * y.2.1), x.1 * y.2.1 + x.2.1 * y.1 + v * (x.2.2 * y.2.2), x.1 * y.2.2 + x.2.1 * y.2.1 + x.2.2 * y.1) := opq_eq _
omit [Rg R] in
theorem cext {x y : R × R × R} (h1 : x.1 = y.1) (h2 : x.2.1 = y.2.1) (h3 : x.2.2 = y.2.2) : x = y := Prod.ext h1 (Prod.ext h2 h3)
theorem c_l1 (a b : R × R × R) : cadd a b = cadd b a := by rw [cadd_def, cadd_def, add_comm, add_comm a.2.1, add_comm a.2.2]
theorem c_l2 (a b c : R × R × R) : cadd (cadd a b) c = cadd a (cadd b c) := by rw [cadd_def, cadd_def, cadd_def, cadd_def, add_assoc, add_assoc, add_assoc]
theorem c_l3 (a : R × R × R) : cadd (0, 0, 0) a = a := by rw [cadd_def, zero_add, zero_add, zero_add]
theorem c_l4 (a : R × R × R) : cadd (cneg a) a = (0, 0, 0) := by rw [cadd_def, cneg_def, neg_add, neg_add, neg_add]
theorem c_l5 (a b : R × R × R) : csub a b = cadd a (cneg b) := by rw [cadd_def, cneg_def, csub_def, Rg.sub_def, Rg.sub_def, Rg.sub_def]
theorem c_l6 (a b : R × R × R) : cmul v a b = cmul v b a := by rw [cmul_def, cmul_def]; exact cext (f6_c1 _ _ _ _ _ _ _) (f6_c2 _ _ _ _ _ _ _) (f6_c3 _ _ _ _ _ _ (0 : R))
theorem c_l7 (a b c : R × R × R) : cmul v (cmul v a b) c = cmul v a (cmul v b c) := by rw [cmul_def, cmul_def, cmul_def, cmul_def]; exact cext (f6_s1 _ _ _ _ _ _ _ _ _ _) (f6_s2 _ _ _ _ _ _ _ _ _ _) (f6_s3 _ _ _ _ _ _ _ _ _ _)
theorem c_l8 (a : R × R × R) : cmul v (1, 0, 0) a = a := by rw [cmul_def]; exact cext (f6_o1 _ _ _ _) (f6_o2 _ _ _ _) (f6_o3 _ _ _)
theorem c_l9 (a b c : R × R × R) : cmul v (cadd a b) c = cadd (cmul v a c) (cmul v b c) := by rw [cadd_def, cmul_def, cmul_def, cmul_def, cadd_def]; exact cext (f6_d1 _ _ _ _ _ _ _ _ _ _) (f6_d2 _ _ _ _ _ _ _ _ _ _) (f6_d3 _ _ _ _ _ _ _ _ _)
end
noncomputable instance rgF6 : Rg F6 where
  zero := (0, 0, 0)
  one := (1, 0, 0)
  add := cadd
  sub := csub
  neg := cneg
  mul := cmul xi
  add_comm := c_l1
  add_assoc := c_l2
  zero_add := c_l3
  neg_add := c_l4
  sub_def := c_l5
  mul_comm := c_l6 xi
  mul_assoc := c_l7 xi
  one_mul := c_l8 xi
  add_mul := c_l9 xi
theorem F6.ext {x y : F6} (h1 : x.1 = y.1) (h2 : x.2.1 = y.2.1) (h3 : x.2.2 = y.2.2) : x = y := Prod.ext h1 (Prod.ext h2 h3)
theorem F6.add_def (x y : F6) : x + y = (x.1 + y.1, x.2.1 + y.2.1, x.2.2 + y.2.2) := cadd_def x y
theorem F6.sub_def (x y : F6) : x - y = (x.1 - y.1, x.2.1 - y.2.1, x.2.2 - y.2.2) := csub_def x y
theorem F6.neg_def (x : F6) : -x = (-x.1, -x.2.1, -x.2.2) := cneg_def x
theorem F6.mul_def (x y : F6) : x * y = (x.1 * y.1 + xi * (x.2.1 * y.2.2 + x.2.2 * y.2.1), x.1 * y.2.1 + x.2.1 * y.1 + xi * (x.2.2 * y.2.2), x.1 * y.2.2 + x.2.1 * y.2.1 + x.2.2 * y.1) := cmul_def xi x y
theorem f2_nn {F : Type} [Rg F] (a b c d : F) : (a * c - b * d) * (a * c - b * d) + (a * d + b * c) * (a * d + b * c) = (a * a + b * b) * (c * c + d * d) :=
  rid [a, b, c, d] ((fun (a b c d : PE) => ((a * c - b * d) * (a * c - b * d) + (a * d + b * c) * (a * d + b * c))) (.v 0) (.v 1) (.v 2) (.v 3)) ((fun (a b c d : PE) => ((a * a + b * b) * (c * c + d * d))) (.v 0) (.v 1) (.v 2) (.v 3)) (by kernel_rfl)
/-- The norm. -/
noncomputable def nm2 (x : F2) : Fp := x.1 * x.1 + x.2 * x.2
theorem nm2_mul (x y : F2) : nm2 (x * y) = nm2 x * nm2 y := by
  unfold nm2
  rw [F2.mul1, F2.mul2]
  exact f2_nn _ _ _ _
theorem nm2_xi : nm2 xi = 1 + 1 := by
  unfold nm2 xi
  show (1 : Fp) * 1 + 1 * 1 = 1 + 1
  rw [one_mul]
section
variable {M : Int} [Md M]
theorem zpow_add' (x : Zm M) (m n : Nat) : zpow x (m + n) = zpow x m * zpow x n := by
  induction n with
  | zero => show zpow x m = zpow x m * 1; rw [mul_one]
  | succ n ih => show zpow x (m + n) * x = zpow x m * (zpow x n * x); rw [ih, mul_assoc]
theorem zpow_mul' (x : Zm M) (m n : Nat) : zpow x (m * n) = zpow (zpow x m) n := by
  induction n with
  | zero => rfl
  | succ n ih => show zpow x (m * n + m) = zpow (zpow x m) n * zpow x m; rw [zpow_add', ih]
end
def fpP : Nat := 4002409555221667393417789825735904156556882819939007885332058136124031650490837864442687629129015664037894272559787
theorem fp_fermat {x : Fp} (hx : x ≠ 0) : zpow x (fpP - 1) = 1 := by
  have h1 := zm_fermat Mp_nat prm_p hx (n := fpP - 2) (of_decide_eq_true (by kernel_rfl))
  have h3 : zpow x (fpP - 1) = zpow x (fpP - 2 + 1) := congrArg (zpow x) (of_decide_eq_true (by kernel_rfl))
  have h4 : zpow x (fpP - 2 + 1) = zpow x (fpP - 2) * x := rfl
  rw [h3, h4, mul_comm, h1]
/-- A power by computation, bit by bit. -/
def npm (m x : Nat) : Nat → Nat → Nat
  | 0, _ => 1
  | f + 1, n => match n with
    | 0 => 1
    | n + 1 => fc (npm m x f ((n + 1) / 2)) fun h => match (n + 1) % 2 with
      | 0 => h * h % m
      | _ => h * h % m * x % m
theorem npm_eq (m x : Nat) (hm : 1 < m) : ∀ f n, n < 2 ^ f → npm m x f n = x ^ n % m
  | 0, n, h => by
    have : n = 0 := by simpa using h
    subst this
    show 1 = 1 % m
    rw [Nat.mod_eq_of_lt hm]
  | f + 1, 0, _ => by show 1 = 1 % m; rw [Nat.mod_eq_of_lt hm]
  | f + 1, n + 1, h => by
    have ih := npm_eq m x hm f ((n + 1) / 2) (by rw [Nat.pow_succ] at h; omega)
    rw [npm, fc_eq, ih]
    have e : n + 1 = (n + 1) / 2 + (n + 1) / 2 + (n + 1) % 2 := by omega
    have e2 : x ^ (n + 1) = x ^ ((n + 1) / 2) * x ^ ((n + 1) / 2) * x ^ ((n + 1) % 2) := by rw [← Nat.pow_add, ← Nat.pow_add, ← e]
    rw [e2]
    rcases Nat.mod_two_eq_zero_or_one (n + 1) with h0 | h0
    · rw [h0, Nat.pow_zero, Nat.mul_one, ← Nat.mul_mod]
      rfl
    · rw [h0, Nat.pow_one]
      show x ^ ((n + 1) / 2) % m * (x ^ ((n + 1) / 2) % m) % m * x % m = _
      rw [← Nat.mul_mod, Nat.mul_mod (_ % m) x, Nat.mod_mod, ← Nat.mul_mod]
theorem zpow_two_v (n : Nat) : (zpow (1 + 1 : Fp) n).v = ((2 ^ n % fpP : Nat) : Int) := by
  rw [zpow_v]
  have : (1 + 1 : Fp).v = 2 := by decide
  rw [this, Mp_nat, Int.natCast_emod, Int.natCast_pow]; rfl
theorem no_pow2 {s : Fp} {k : Nat} {q : Nat} (hq : q * k = fpP - 1) (h : zpow s k = 1 + 1) : (2 : Nat) ^ q % fpP = 1 := by
  have hs : zpow (1 + 1 : Fp) q = 1 := by
    rw [← h, ← zpow_mul', Nat.mul_comm, hq]
    refine fp_fermat ?_
    intro e
    subst e
    cases k with
    | zero => rw [Nat.mul_zero] at hq; exact absurd hq (by decide)
    | succ k =>
      have : zpow (0 : Fp) (k + 1) = zpow (0 : Fp) k * 0 := rfl
      rw [this, mul_zero] at h
      exact absurd h (by decide)
  have h2 := zpow_two_v q
  rw [hs] at h2
  have : (1 : Fp).v = 1 := by decide
  rw [this] at h2
  omega
theorem two_sq : npm fpP 2 384 2001204777610833696708894912867952078278441409969503942666029068062015825245418932221343814564507832018947136279893 = fpP - 1 := by kernel_rfl
theorem two_cube : Nat.beq (npm fpP 2 384 1334136518407222464472596608578634718852294273313002628444019378708010550163612621480895876376338554679298090853262) 1 = false := by kernel_rfl
theorem xi_sq {s : F2} (h : s * s = xi) : False := by
  have e := congrArg nm2 h
  rw [nm2_mul, nm2_xi] at e
  have k := no_pow2 (s := nm2 s) (k := 2) (q := 2001204777610833696708894912867952078278441409969503942666029068062015825245418932221343814564507832018947136279893) (of_decide_eq_true (by kernel_rfl)) (by
    show 1 * nm2 s * nm2 s = 1 + 1
    rw [one_mul]; exact e)
  have t := two_sq
  rw [npm_eq _ _ (by decide) 384 _ (of_decide_eq_true (by kernel_rfl)), k] at t
  exact absurd t (by decide)
theorem xi_cube {s : F2} (h : s * s * s = xi) : False := by
  have e := congrArg nm2 h
  rw [nm2_mul, nm2_mul, nm2_xi] at e
  have k := no_pow2 (s := nm2 s) (k := 3) (q := 1334136518407222464472596608578634718852294273313002628444019378708010550163612621480895876376338554679298090853262) (of_decide_eq_true (by kernel_rfl)) (by
    show 1 * nm2 s * nm2 s * nm2 s = 1 + 1
    rw [one_mul]; exact e)
  have t := two_cube
  rw [npm_eq _ _ (by decide) 384 _ (of_decide_eq_true (by kernel_rfl)), k] at t
  exact absurd t (by decide)
theorem n6_id {F : Type} [Rg F] (a b c x : F) : (a * (a * a - x * (b * c)) + x * (c * (x * (c * c) - a * b) + b * (b * b - a * c))) * (x * (c * c * c) - b * b * b) = (x * (c * c) - a * b) * (x * (c * c) - a * b) * (x * (c * c) - a * b) + x * ((c * a - b * b) * (c * a - b * b) * (c * a - b * b)) :=
  rid [a, b, c, x] ((fun (a b c x : PE) => ((a * (a * a - x * (b * c)) + x * (c * (x * (c * c) - a * b) + b * (b * b - a * c))) * (x * (c * c * c) - b * b * b))) (.v 0) (.v 1) (.v 2) (.v 3)) ((fun (a b c x : PE) => ((x * (c * c) - a * b) * (x * (c * c) - a * b) * (x * (c * c) - a * b) + x * ((c * a - b * b) * (c * a - b * b) * (c * a - b * b)))) (.v 0) (.v 1) (.v 2) (.v 3)) (by kernel_rfl)
theorem n6_c0 {F : Type} [Rg F] (a b x : F) : a * (a * a - x * (b * 0)) + x * (0 * (x * (0 * 0) - a * b) + b * (b * b - a * 0)) = a * a * a + x * (b * b * b) :=
  rid [a, b, x] ((fun (a b x : PE) => (a * (a * a - x * (b * 0)) + x * (0 * (x * (0 * 0) - a * b) + b * (b * b - a * 0)))) (.v 0) (.v 1) (.v 2)) ((fun (a b x : PE) => (a * a * a + x * (b * b * b))) (.v 0) (.v 1) (.v 2)) (by kernel_rfl)
theorem n6_t {F : Type} [Rg F] (a j : F) : (- a * j) * (- a * j) * (- a * j) = -(a * a * a * (j * j * j)) :=
  rid [a, j] ((fun (a j : PE) => ((- a * j) * (- a * j) * (- a * j))) (.v 0) (.v 1)) ((fun (a j : PE) => (-(a * a * a * (j * j * j)))) (.v 0) (.v 1)) (by kernel_rfl)
theorem n6_q {F : Type} [Rg F] (x c j : F) : x * (c * c * c) * (j * j * j) = x * ((c * j) * (c * j) * (c * j)) :=
  rid [x, c, j] ((fun (x c j : PE) => (x * (c * c * c) * (j * j * j))) (.v 0) (.v 1) (.v 2)) ((fun (x c j : PE) => (x * ((c * j) * (c * j) * (c * j)))) (.v 0) (.v 1) (.v 2)) (by kernel_rfl)
theorem n6_p1 {F : Type} [Rg F] (b c a x : F) : b * b * b - c * c * c * x = (-b) * (c * a - b * b) + (-c) * (x * (c * c) - a * b) :=
  rid [b, c, a, x] ((fun (b c a x : PE) => (b * b * b - c * c * c * x)) (.v 0) (.v 1) (.v 2) (.v 3)) ((fun (b c a x : PE) => ((-b) * (c * a - b * b) + (-c) * (x * (c * c) - a * b))) (.v 0) (.v 1) (.v 2) (.v 3)) (by kernel_rfl)
theorem n6_p2 {F : Type} [Rg F] (b c j x : F) : b * j * (b * j) * (b * j) - x * ((c * j) * (c * j) * (c * j)) = (j * j * j) * (b * b * b - c * c * c * x) :=
  rid [b, c, j, x] ((fun (b c j x : PE) => (b * j * (b * j) * (b * j) - x * ((c * j) * (c * j) * (c * j)))) (.v 0) (.v 1) (.v 2) (.v 3)) ((fun (b c j x : PE) => ((j * j * j) * (b * b * b - c * c * c * x))) (.v 0) (.v 1) (.v 2) (.v 3)) (by kernel_rfl)
theorem i6_1 {F : Type} [Rg F] (a b c x n : F) : a * ((a * a - x * (b * c)) * n) + x * (b * ((b * b - a * c) * n) + c * ((x * (c * c) - a * b) * n)) = (a * (a * a - x * (b * c)) + x * (c * (x * (c * c) - a * b) + b * (b * b - a * c))) * n :=
  rid [a, b, c, x, n] ((fun (a b c x n : PE) => (a * ((a * a - x * (b * c)) * n) + x * (b * ((b * b - a * c) * n) + c * ((x * (c * c) - a * b) * n)))) (.v 0) (.v 1) (.v 2) (.v 3) (.v 4)) ((fun (a b c x n : PE) => ((a * (a * a - x * (b * c)) + x * (c * (x * (c * c) - a * b) + b * (b * b - a * c))) * n)) (.v 0) (.v 1) (.v 2) (.v 3) (.v 4)) (by kernel_rfl)
theorem i6_2 {F : Type} [Rg F] (a b c x n : F) : a * ((x * (c * c) - a * b) * n) + b * ((a * a - x * (b * c)) * n) + x * (c * ((b * b - a * c) * n)) = 0 :=
  rid [a, b, c, x, n] ((fun (a b c x n : PE) => (a * ((x * (c * c) - a * b) * n) + b * ((a * a - x * (b * c)) * n) + x * (c * ((b * b - a * c) * n)))) (.v 0) (.v 1) (.v 2) (.v 3) (.v 4)) ((fun (a b c x n : PE) => (0)) (.v 0) (.v 1) (.v 2) (.v 3) (.v 4)) (by kernel_rfl)
theorem i6_3 {F : Type} [Rg F] (a b c x n : F) : a * ((b * b - a * c) * n) + b * ((x * (c * c) - a * b) * n) + c * ((a * a - x * (b * c)) * n) = 0 :=
  rid [a, b, c, x, n] ((fun (a b c x n : PE) => (a * ((b * b - a * c) * n) + b * ((x * (c * c) - a * b) * n) + c * ((a * a - x * (b * c)) * n))) (.v 0) (.v 1) (.v 2) (.v 3) (.v 4)) ((fun (a b c x n : PE) => (0)) (.v 0) (.v 1) (.v 2) (.v 3) (.v 4)) (by kernel_rfl)
theorem n6_sq {F : Type} [Rg F] (a b c x : F) : (a * a + x * (b * c + c * b)) * ((a * a + x * (b * c + c * b)) * (a * a + x * (b * c + c * b)) - x * ((a * b + b * a + x * (c * c)) * (a * c + b * b + c * a))) + x * ((a * c + b * b + c * a) * (x * ((a * c + b * b + c * a) * (a * c + b * b + c * a)) - (a * a + x * (b * c + c * b)) * (a * b + b * a + x * (c * c))) + (a * b + b * a + x * (c * c)) * ((a * b + b * a + x * (c * c)) * (a * b + b * a + x * (c * c)) - (a * a + x * (b * c + c * b)) * (a * c + b * b + c * a))) = (a * (a * a - x * (b * c)) + x * (c * (x * (c * c) - a * b) + b * (b * b - a * c))) * (a * (a * a - x * (b * c)) + x * (c * (x * (c * c) - a * b) + b * (b * b - a * c))) :=
  rid [a, b, c, x] ((fun (a b c x : PE) => ((a * a + x * (b * c + c * b)) * ((a * a + x * (b * c + c * b)) * (a * a + x * (b * c + c * b)) - x * ((a * b + b * a + x * (c * c)) * (a * c + b * b + c * a))) + x * ((a * c + b * b + c * a) * (x * ((a * c + b * b + c * a) * (a * c + b * b + c * a)) - (a * a + x * (b * c + c * b)) * (a * b + b * a + x * (c * c))) + (a * b + b * a + x * (c * c)) * ((a * b + b * a + x * (c * c)) * (a * b + b * a + x * (c * c)) - (a * a + x * (b * c + c * b)) * (a * c + b * b + c * a))))) (.v 0) (.v 1) (.v 2) (.v 3)) ((fun (a b c x : PE) => ((a * (a * a - x * (b * c)) + x * (c * (x * (c * c) - a * b) + b * (b * b - a * c))) * (a * (a * a - x * (b * c)) + x * (c * (x * (c * c) - a * b) + b * (b * b - a * c))))) (.v 0) (.v 1) (.v 2) (.v 3)) (by kernel_rfl)
theorem n6_vv {F : Type} [Rg F] (x : F) : 0 * (0 * 0 - x * (1 * 0)) + x * (0 * (x * (0 * 0) - 0 * 1) + 1 * (1 * 1 - 0 * 0)) = x :=
  rid [x] ((fun (x : PE) => (0 * (0 * 0 - x * (1 * 0)) + x * (0 * (x * (0 * 0) - 0 * 1) + 1 * (1 * 1 - 0 * 0)))) (.v 0)) ((fun (x : PE) => (x)) (.v 0)) (by kernel_rfl)
section
variable {R : Type} [Fd R] (x : R)
theorem c_lin (hx : ∀ s : R, s * s * s = x → False) {a c : R} (h : a * a * a + x * (c * c * c) = 0) : a = 0 ∧ c = 0 := by
  have hc : c = 0 := by
    refine Classical.byContradiction fun hc => ?_
    have hi := mul_inv c hc
    refine hx (-a * inv c) ?_
    have e : a * a * a = -(x * (c * c * c)) := by
      have := neg_eq h
      rw [← this, neg_neg]
    rw [n6_t, e, neg_mul, neg_neg]
    have : x * (c * c * c) * (inv c * inv c * inv c) = x * ((c * inv c) * (c * inv c) * (c * inv c)) := n6_q _ _ _
    rw [this, hi, one_mul, one_mul, mul_one]
  refine ⟨?_, hc⟩
  rw [hc, mul_zero, mul_zero, add_zero] at h
  rcases mul_eq_zero h with h | h
  · rcases mul_eq_zero h with h | h <;> exact h
  · exact h
/-- What t is multiplied with to come to its norm. -/
def cadj (t : R × R × R) : R × R × R := (t.1 * t.1 - x * (t.2.1 * t.2.2), x * (t.2.2 * t.2.2) - t.1 * t.2.1, t.2.1 * t.2.1 - t.1 * t.2.2)
def cnm (t : R × R × R) : R := t.1 * (t.1 * t.1 - x * (t.2.1 * t.2.2)) + x * (t.2.2 * (x * (t.2.2 * t.2.2) - t.1 * t.2.1) + t.2.1 * (t.2.1 * t.2.1 - t.1 * t.2.2))
theorem cnm_ne (hx : ∀ s : R, s * s * s = x → False) {t : R × R × R} (h : t ≠ (0, 0, 0)) : cnm x t ≠ 0 := by
  intro e
  unfold cnm at e
  by_cases hc : t.2.2 = 0
  · rw [hc, n6_c0] at e
    obtain ⟨h1, h2⟩ := c_lin x hx e
    exact h (cext h1 h2 hc)
  · have k := n6_id t.1 t.2.1 t.2.2 x
    rw [e, zero_mul] at k
    obtain ⟨h1, h2⟩ := c_lin x hx k.symm
    have hi := mul_inv _ hc
    refine hx (t.2.1 * inv t.2.2) (eq_of_sub ?_)
    have p := n6_p1 t.2.1 t.2.2 t.1 x
    rw [h1, h2, mul_zero, mul_zero, add_zero] at p
    have q := n6_p2 t.2.1 t.2.2 (inv t.2.2) x
    rw [p, mul_zero, hi, one_mul, one_mul, mul_one] at q
    exact q
/-- 1/t. -/
noncomputable def cinv (t : R × R × R) : R × R × R := opq ((cadj x t).1 * inv (cnm x t), (cadj x t).2.1 * inv (cnm x t), (cadj x t).2.2 * inv (cnm x t))
theorem cinv_def (t : R × R × R) : cinv x t = ((cadj x t).1 * inv (cnm x t), (cadj x t).2.1 * inv (cnm x t), (cadj x t).2.2 * inv (cnm x t)) := opq_eq _
theorem cinv_mul (hx : ∀ s : R, s * s * s = x → False) {t : R × R × R} (h : t ≠ (0, 0, 0)) : cmul x t (cinv x t) = (1, 0, 0) := by
  have hn := mul_inv _ (cnm_ne x hx h)
  rw [cmul_def, cinv_def]
  exact cext ((i6_1 _ _ _ _ _).trans hn) (i6_2 _ _ _ _ _) (i6_3 _ _ _ _ _)
theorem cnm_sq (t : R × R × R) : cnm x (cmul x t t) = cnm x t * cnm x t := by
  rw [cmul_def]
  exact n6_sq t.1 t.2.1 t.2.2 x
theorem cnm_v : cnm x ((0 : R), (1 : R), (0 : R)) = x := n6_vv x
end
noncomputable abbrev nm6 (t : F6) : F2 := cnm xi t
noncomputable abbrev inv6 (t : F6) : F6 := cinv xi t
noncomputable instance fdF6 : Fd F6 where
  deq := inferInstanceAs (DecidableEq (F2 × F2 × F2))
  inv := inv6
  mul_inv _ h := cinv_mul xi (fun _ e => xi_cube e) h
  one_ne := fun h => absurd (congrArg Prod.fst h) one_ne
  two_ne := fun h => absurd (congrArg Prod.fst h) (by rw [F6.add_def]; exact two_ne)
  three_ne := fun h => absurd (congrArg Prod.fst h) (by rw [F6.add_def, F6.add_def]; exact three_ne)
end Cr
/- Powers in a commutative ring; the power p where p is nought. No program here. -/
namespace Cr
open Rg
section
variable {F : Type} [Rg F]
def pwn (x : F) : Nat → F
  | 0 => 1
  | n + 1 => pwn x n * x
theorem pwn_add (x : F) (m n : Nat) : pwn x (m + n) = pwn x m * pwn x n := by
  induction n with
  | zero => show pwn x m = pwn x m * 1; rw [mul_one]
  | succ n ih => show pwn x (m + n) * x = pwn x m * (pwn x n * x); rw [ih, mul_assoc]
theorem pwn_mul (x : F) (m n : Nat) : pwn x (m * n) = pwn (pwn x m) n := by
  induction n with
  | zero => rfl
  | succ n ih => show pwn x (m * n + m) = pwn (pwn x m) n * pwn x m; rw [pwn_add, ih]
theorem pwn_one (n : Nat) : pwn (1 : F) n = 1 := by
  induction n with
  | zero => rfl
  | succ n ih => show pwn (1 : F) n * 1 = 1; rw [ih, mul_one]
end
end Cr
/- The field of numbers a + b w, w^2 = v; powers, the power p. No program here. -/
namespace Cr
open Rg Fd Go.Eng
abbrev F12 := F6 × F6
/-- v. -/
def vv : F6 := ((0 : F2), (1 : F2), (0 : F2))
section
variable {R : Type} [Rg R] (v : R)
end
theorem q_co1 {F : Type} [Rg F] (a b c d v : F) : a * c + v * (b * d) = c * a + v * (d * b) :=
  rid [a, b, c, d, v] ((fun (a b c d v : PE) => (a * c + v * (b * d))) (.v 0) (.v 1) (.v 2) (.v 3) (.v 4)) ((fun (a b c d v : PE) => (c * a + v * (d * b))) (.v 0) (.v 1) (.v 2) (.v 3) (.v 4)) (by kernel_rfl)
theorem q_co2 {F : Type} [Rg F] (a b c d : F) : a * d + b * c = c * b + d * a :=
  rid [a, b, c, d] ((fun (a b c d : PE) => (a * d + b * c)) (.v 0) (.v 1) (.v 2) (.v 3)) ((fun (a b c d : PE) => (c * b + d * a)) (.v 0) (.v 1) (.v 2) (.v 3)) (by kernel_rfl)
theorem q_as1 {F : Type} [Rg F] (a b c d e f v : F) : (a * c + v * (b * d)) * e + v * ((a * d + b * c) * f) = a * (c * e + v * (d * f)) + v * (b * (c * f + d * e)) :=
  rid [a, b, c, d, e, f, v] ((fun (a b c d e f v : PE) => ((a * c + v * (b * d)) * e + v * ((a * d + b * c) * f))) (.v 0) (.v 1) (.v 2) (.v 3) (.v 4) (.v 5) (.v 6)) ((fun (a b c d e f v : PE) => (a * (c * e + v * (d * f)) + v * (b * (c * f + d * e)))) (.v 0) (.v 1) (.v 2) (.v 3) (.v 4) (.v 5) (.v 6)) (by kernel_rfl)
theorem q_as2 {F : Type} [Rg F] (a b c d e f v : F) : (a * c + v * (b * d)) * f + (a * d + b * c) * e = a * (c * f + d * e) + b * (c * e + v * (d * f)) :=
  rid [a, b, c, d, e, f, v] ((fun (a b c d e f v : PE) => ((a * c + v * (b * d)) * f + (a * d + b * c) * e)) (.v 0) (.v 1) (.v 2) (.v 3) (.v 4) (.v 5) (.v 6)) ((fun (a b c d e f v : PE) => (a * (c * f + d * e) + b * (c * e + v * (d * f)))) (.v 0) (.v 1) (.v 2) (.v 3) (.v 4) (.v 5) (.v 6)) (by kernel_rfl)
theorem q_o1 {F : Type} [Rg F] (a b v : F) : 1 * a + v * (0 * b) = a :=
  rid [a, b, v] ((fun (a b v : PE) => (1 * a + v * (0 * b))) (.v 0) (.v 1) (.v 2)) ((fun (a b v : PE) => (a)) (.v 0) (.v 1) (.v 2)) (by kernel_rfl)
theorem q_o2 {F : Type} [Rg F] (a b : F) : 1 * b + 0 * a = b :=
  rid [a, b] ((fun (a b : PE) => (1 * b + 0 * a)) (.v 0) (.v 1)) ((fun (a b : PE) => (b)) (.v 0) (.v 1)) (by kernel_rfl)
theorem q_d1 {F : Type} [Rg F] (a b c d e f v : F) : (a + c) * e + v * ((b + d) * f) = a * e + v * (b * f) + (c * e + v * (d * f)) :=
  rid [a, b, c, d, e, f, v] ((fun (a b c d e f v : PE) => ((a + c) * e + v * ((b + d) * f))) (.v 0) (.v 1) (.v 2) (.v 3) (.v 4) (.v 5) (.v 6)) ((fun (a b c d e f v : PE) => (a * e + v * (b * f) + (c * e + v * (d * f)))) (.v 0) (.v 1) (.v 2) (.v 3) (.v 4) (.v 5) (.v 6)) (by kernel_rfl)
theorem q_d2 {F : Type} [Rg F] (a b c d e f : F) : (a + c) * f + (b + d) * e = a * f + b * e + (c * f + d * e) :=
  rid [a, b, c, d, e, f] ((fun (a b c d e f : PE) => ((a + c) * f + (b + d) * e)) (.v 0) (.v 1) (.v 2) (.v 3) (.v 4) (.v 5)) ((fun (a b c d e f : PE) => (a * f + b * e + (c * f + d * e))) (.v 0) (.v 1) (.v 2) (.v 3) (.v 4) (.v 5)) (by kernel_rfl)
section
variable {R : Type} [Rg R] (v : R)
noncomputable def qadd (x y : R × R) : R × R := opq (x.1 + y.1, x.2 + y.2)
noncomputable def qsub (x y : R × R) : R × R := opq (x.1 - y.1, x.2 - y.2)
noncomputable def qneg (x : R × R) : R × R := opq (-x.1, -x.2)
noncomputable def qmul (x y : R × R) : R × R := opq (x.1 * y.1 + v * (x.2 * y.2), x.1 * y.2 + x.2 * y.1)
theorem qadd_def (x y : R × R) : qadd x y = (x.1 + y.1, x.2 + y.2) := opq_eq _
theorem qsub_def (x y : R × R) : qsub x y = (x.1 - y.1, x.2 - y.2) := opq_eq _
theorem qneg_def (x : R × R) : qneg x = (-x.1, -x.2) := opq_eq _
theorem qmul_def (x y : R × R) : qmul v x y = (x.1 * y.1 + v * (x.2 * y.2), x.1 * y.2 + x.2 * y.1) := opq_eq _
theorem q_l1 (a b : R × R) : qadd a b = qadd b a := by rw [qadd_def, qadd_def, add_comm, add_comm a.2]
theorem q_l2 (a b c : R × R) : qadd (qadd a b) c = qadd a (qadd b c) := by rw [qadd_def, qadd_def, qadd_def, qadd_def, add_assoc, add_assoc]
theorem q_l3 (a : R × R) : qadd (0, 0) a = a := by rw [qadd_def, zero_add, zero_add]
theorem q_l4 (a : R × R) : qadd (qneg a) a = (0, 0) := by rw [qadd_def, qneg_def, neg_add, neg_add]
theorem q_l5 (a b : R × R) : qsub a b = qadd a (qneg b) := by rw [qadd_def, qneg_def, qsub_def, Rg.sub_def, Rg.sub_def]
theorem q_l6 (a b : R × R) : qmul v a b = qmul v b a := by rw [qmul_def, qmul_def]; exact Prod.ext (q_co1 a.1 a.2 b.1 b.2 v) (q_co2 a.1 a.2 b.1 b.2)
theorem q_l7 (a b c : R × R) : qmul v (qmul v a b) c = qmul v a (qmul v b c) := by rw [qmul_def, qmul_def, qmul_def, qmul_def]; exact Prod.ext (q_as1 a.1 a.2 b.1 b.2 c.1 c.2 v) (q_as2 a.1 a.2 b.1 b.2 c.1 c.2 v)
theorem q_l8 (a : R × R) : qmul v (1, 0) a = a := by rw [qmul_def]; exact Prod.ext (q_o1 a.1 a.2 v) (q_o2 a.1 a.2)
theorem q_l9 (a b c : R × R) : qmul v (qadd a b) c = qadd (qmul v a c) (qmul v b c) := by rw [qadd_def, qmul_def, qmul_def, qmul_def, qadd_def]; exact Prod.ext (q_d1 a.1 a.2 b.1 b.2 c.1 c.2 v) (q_d2 a.1 a.2 b.1 b.2 c.1 c.2)
end
noncomputable instance rgF12 : Rg F12 where
  zero := (0, 0)
  one := (1, 0)
  add := qadd
  sub := qsub
  neg := qneg
  mul := qmul vv
  add_comm := q_l1
  add_assoc := q_l2
  zero_add := q_l3
  neg_add := q_l4
  sub_def := q_l5
  mul_comm := q_l6 vv
  mul_assoc := q_l7 vv
  one_mul := q_l8 vv
  add_mul := q_l9 vv
theorem F12.ext {x y : F12} (h1 : x.1 = y.1) (h2 : x.2 = y.2) : x = y := Prod.ext h1 h2
theorem F12.add_def (x y : F12) : x + y = (x.1 + y.1, x.2 + y.2) := qadd_def x y
theorem F12.sub_def (x y : F12) : x - y = (x.1 - y.1, x.2 - y.2) := qsub_def x y
theorem F12.neg_def (x : F12) : -x = (-x.1, -x.2) := qneg_def x
theorem F12.mul_def (x y : F12) : x * y = (x.1 * y.1 + vv * (x.2 * y.2), x.1 * y.2 + x.2 * y.1) := qmul_def vv x y
theorem F12.a1 (x y : F12) : (x + y).1 = x.1 + y.1 := by rw [F12.add_def]
theorem F12.a2 (x y : F12) : (x + y).2 = x.2 + y.2 := by rw [F12.add_def]
theorem F12.m1 (x y : F12) : (x * y).1 = x.1 * y.1 + vv * (x.2 * y.2) := by rw [F12.mul_def]
theorem F12.m2 (x y : F12) : (x * y).2 = x.1 * y.2 + x.2 * y.1 := by rw [F12.mul_def]
theorem nm6_sq (t : F6) : nm6 (t * t) = nm6 t * nm6 t := cnm_sq xi t
theorem nm6_vv : nm6 vv = xi := cnm_v xi
theorem vv_sq {t : F6} (h : t * t = vv) : False := by
  have e := congrArg nm6 h
  rw [nm6_sq, nm6_vv] at e
  exact xi_sq e
theorem q_nr {F : Type} [Rg F] (a b j v : F) : (a * j) * (a * j) - v = (j * j) * (a * a - v * (b * b)) + v * ((b * j) * (b * j) - 1) :=
  rid [a, b, j, v] ((fun (a b j v : PE) => ((a * j) * (a * j) - v)) (.v 0) (.v 1) (.v 2) (.v 3)) ((fun (a b j v : PE) => ((j * j) * (a * a - v * (b * b)) + v * ((b * j) * (b * j) - 1))) (.v 0) (.v 1) (.v 2) (.v 3)) (by kernel_rfl)
theorem q_i1 {F : Type} [Rg F] (a b n v : F) : a * (a * n) + v * (b * -(b * n)) = (a * a - v * (b * b)) * n :=
  rid [a, b, n, v] ((fun (a b n v : PE) => (a * (a * n) + v * (b * -(b * n)))) (.v 0) (.v 1) (.v 2) (.v 3)) ((fun (a b n v : PE) => ((a * a - v * (b * b)) * n)) (.v 0) (.v 1) (.v 2) (.v 3)) (by kernel_rfl)
theorem q_i2 {F : Type} [Rg F] (a b n : F) : a * -(b * n) + b * (a * n) = 0 :=
  rid [a, b, n] ((fun (a b n : PE) => (a * -(b * n) + b * (a * n))) (.v 0) (.v 1) (.v 2)) ((fun (a b n : PE) => (0)) (.v 0) (.v 1) (.v 2)) (by kernel_rfl)
section
variable {R : Type} [Fd R] (v : R)
theorem qnm_ne (hv : ∀ t : R, t * t = v → False) {x : R × R} (h : x ≠ (0, 0)) : x.1 * x.1 - v * (x.2 * x.2) ≠ 0 := by
  intro e
  by_cases hb : x.2 = 0
  · rw [hb, mul_zero, mul_zero, Rg.sub_def, neg_zero, add_zero] at e
    have ha : x.1 = 0 := by rcases mul_eq_zero e with e | e <;> exact e
    exact h (Prod.ext ha hb)
  · have hi := mul_inv x.2 hb
    refine hv (x.1 * inv x.2) (eq_of_sub ?_)
    have k := q_nr x.1 x.2 (inv x.2) v
    rw [e, hi, one_mul, sub_self, mul_zero, mul_zero, zero_add] at k
    exact k
noncomputable def qinv (x : R × R) : R × R := opq (x.1 * inv (x.1 * x.1 - v * (x.2 * x.2)), -(x.2 * inv (x.1 * x.1 - v * (x.2 * x.2))))
theorem qinv_def (x : R × R) : qinv v x = (x.1 * inv (x.1 * x.1 - v * (x.2 * x.2)), -(x.2 * inv (x.1 * x.1 - v * (x.2 * x.2)))) := opq_eq _
theorem qinv_mul (hv : ∀ t : R, t * t = v → False) {x : R × R} (h : x ≠ (0, 0)) : qmul v x (qinv v x) = (1, 0) := by
  have hn := mul_inv _ (qnm_ne v hv h)
  rw [qmul_def, qinv_def]
  exact Prod.ext ((q_i1 _ _ _ _).trans hn) (q_i2 _ _ _)
end
noncomputable abbrev inv12 (t : F12) : F12 := qinv vv t
noncomputable instance fdF12 : Fd F12 where
  deq := inferInstanceAs (DecidableEq (F6 × F6))
  inv := inv12
  mul_inv _ h := qinv_mul vv (fun _ e => vv_sq e) h
  one_ne := fun h => absurd (congrArg Prod.fst h) one_ne
  two_ne := fun h => absurd (congrArg Prod.fst h) (by rw [F12.add_def]; exact two_ne)
  three_ne := fun h => absurd (congrArg Prod.fst h) (by rw [F12.add_def, F12.add_def]; exact three_ne)
end Cr
/- What tower's functions compute, plainly. No program here. -/
namespace Cr
open Rg Fd
end Cr
/- The power p in the fields of p^2 and of p^12. No program here. -/
namespace Cr
open Rg Fd Go.Eng
theorem neg_z {F : Type} [Rg F] : (-0 : F) = 0 := by have h := Rg.neg_add (0 : F); rwa [add_zero] at h
end Cr
/- The power p in the field of p^12. No program here. -/
namespace Cr
open Rg Fd Go.Eng
/-- A number of the field of p^2 in that of p^12. -/
def e2 (c : F2) : F12 := ((c, (0 : F2), (0 : F2)), (0 : F2), (0 : F2), (0 : F2))
def e6 (c : F2) : F6 := (c, (0 : F2), (0 : F2))
end Cr
/- The power p^12 - 1 is one. No program here. -/
namespace Cr
open Rg Fd Go.Eng
end Cr
/- The second generator's order, by computation. No program here. -/
namespace Cr
open Rg Fd
def addN2 (a b : Nat) : Nat := (a + b) % pN
def subN2 (a b : Nat) : Nat := (a + (pN - b % pN)) % pN
theorem addN2_φ (a b : Nat) : (zm ((addN2 a b : Nat) : Int) : Fp) = zm (a : Int) + zm (b : Int) := evP1.add_φ a b
theorem subN2_φ (a b : Nat) : (zm ((subN2 a b : Nat) : Int) : Fp) = zm (a : Int) - zm (b : Int) := evP1.sub_φ a b
noncomputable def evP2 : Ev F2 where
  V := Nat × Nat
  φ n := (zm (n.1 : Int), zm (n.2 : Int))
  add a b := (addN2 a.1 b.1, addN2 a.2 b.2)
  sub a b := (subN2 a.1 b.1, subN2 a.2 b.2)
  mul a b := (subN2 (a.1 * b.1) (a.2 * b.2), addN2 (a.1 * b.2) (a.2 * b.1))
  isz a := Nat.beq (a.1 % pN) 0 && Nat.beq (a.2 % pN) 0
  zero := (0, 0)
  force a k := fc a.1 fun x => fc a.2 fun y => k (x, y)
  add_φ a b := by rw [F2.add_def, addN2_φ, addN2_φ]
  sub_φ a b := by rw [F2.sub_def, subN2_φ, subN2_φ]
  mul_φ a b := by
    rw [F2.mul_def, addN2_φ, subN2_φ]
    simp only [Int.natCast_mul, ← zm_mul]
  isz_φ a := by
    rw [Bool.and_eq_true]
    have h1 := evP1.isz_φ a.1
    have h2 := evP1.isz_φ a.2
    constructor
    · rintro ⟨e1, e2⟩
      exact F2.ext (h1.1 e1) (h2.1 e2)
    · intro e
      exact ⟨h1.2 (congrArg Prod.fst e), h2.2 (congrArg Prod.snd e)⟩
  zero_φ := rfl
  force_eq a k := by rw [fc_eq, fc_eq]
end Cr
/- The field of p^12 by natural numbers. No program here. -/
namespace Cr
open Rg Fd Go.Eng
abbrev V2 := Nat × Nat
abbrev V6 := V2 × V2 × V2
noncomputable def q2 (a : V2) : F2 := evP2.φ a
def fo2 {α : Type} (a : V2) (k : V2 → α) : α := fc a.1 fun x => fc a.2 fun y => k (x, y)
theorem fo2_eq {α : Type} (a : V2) (k : V2 → α) : fo2 a k = k a := by rw [fo2, fc_eq, fc_eq]
def fo6 {α : Type} (a : V6) (k : V6 → α) : α := fo2 a.1 fun x => fo2 a.2.1 fun y => fo2 a.2.2 fun z => k (x, y, z)
theorem fo6_eq {α : Type} (a : V6) (k : V6 → α) : fo6 a k = k a := by rw [fo6, fo2_eq, fo2_eq, fo2_eq]
def vadd (a b : V2) : V2 := (addN2 a.1 b.1, addN2 a.2 b.2)
def vsub (a b : V2) : V2 := (subN2 a.1 b.1, subN2 a.2 b.2)
def vmul (a b : V2) : V2 := (subN2 (a.1 * b.1) (a.2 * b.2), addN2 (a.1 * b.2) (a.2 * b.1))
theorem q2_add (a b : V2) : q2 (vadd a b) = q2 a + q2 b := evP2.add_φ a b
theorem q2_sub (a b : V2) : q2 (vsub a b) = q2 a - q2 b := evP2.sub_φ a b
theorem q2_mul (a b : V2) : q2 (vmul a b) = q2 a * q2 b := evP2.mul_φ a b
theorem q2_zero : q2 (0, 0) = 0 := rfl
end Cr
/- Lines laid over one another: a cocycle; the reciprocity of two lines. No program here. -/
namespace Cr
open Rg Fd

section
variable {F : Type} [Fd F] {b : F}
variable (hb : b ≠ 0)
include hb
/-- The third sums make one function. -/
theorem fn_same {xP yP xQ yQ xR yR l m u v l' m' : F} (oP : On b xP yP) (oR : On b xR yR) (hl : Ln xP yP xQ yQ l) (hm : Ln (sx xP xQ l) (sy xP yP xQ l) xR yR m)
    (T2 : xP + xQ + (u + l' * m') = (l' + m') * l) (f2P : fn u v l' m' xP yP = 0) (f2R : fn u v l' m' xR yR = 0) (h1 : xR ≠ xP) (h2 : xR ≠ xQ) (x y : F) :
    fn (sx xP xQ l) (sy xP yP xQ l) l m x y = fn u v l' m' x y := by
  have f1P : fn (sx xP xQ l) (sy xP yP xQ l) l m xP yP = 0 := fn1 hl.third
  have f1R : fn (sx xP xQ l) (sy xP yP xQ l) l m xR yR = 0 := fn2 hm
  have T1 : xP + xQ + (sx xP xQ l + l * m) = (l + m) * l := i_T1 xP xQ l m
  have hne : yR ≠ yP + l * (xR - xP) := by
    intro hy
    rcases hl.which oP oR hy with e | e | e
    · exact h1 e
    · exact h2 e
    · refine hm.not_neg hb (hl.sum_on oP) ⟨e.symm, ?_⟩
      unfold sy
      rw [neg_neg, ← e]
      exact hy
  obtain ⟨e1, e2, e3⟩ := same f1P f1R f2P f2R T1 T2 hne
  unfold fn
  rw [e1, e2, e3]
end

section
variable {F : Type} [Fd F] {b : F}
/-- The vertical through a point. -/
noncomputable def Vt (A R : F × F) : F := if A = O2 then 1 else R.1 - A.1
variable (hb : b ≠ 0)
include hb
end
end Cr
/- The Miller loop: additive on either side, but for what a last power makes 1. No program here. -/
namespace Cr
open Rg Fd

section
variable {F : Type} [Fd F] {b : F}
instance mulAssoc : Std.Associative (α := F) (fun x y => x * y) := ⟨mul_assoc⟩
instance mulComm : Std.Commutative (α := F) (fun x y => x * y) := ⟨mul_comm⟩
/-- What a last power is. -/
structure Kill (F : Type) [Fd F] where
  χ : F → F
  mul : ∀ x y, χ (x * y) = χ x * χ y
  one : χ 1 = 1
  neg : χ (-1) = 1
variable (K : Kill F)
/-- Points whose verticals are killed. -/
structure Grp (b : F) (K : Kill F) (R : F × F) (S : F × F → Prop) : Prop where
  on : ∀ A, S A → OnP b A
  add : ∀ A B, S A → S B → S (padd A B)
  vt : ∀ A, S A → K.χ (Vt A R) = 1
variable {R : F × F} {S : F × F → Prop} (hb : b ≠ 0) (oR : OnF b R) (g : Grp b K R S)
include hb
include oR g
end

section
variable {F : Type} [Fd F] {b : F} (K : Kill F)
variable (hb : b ≠ 0)
include hb
/-- Points of two kinds, which see each other by verticals that are killed. -/
structure Two (b : F) (K : Kill F) (S T : F × F → Prop) : Prop where
  onS : ∀ A, S A → OnP b A
  addS : ∀ A B, S A → S B → S (padd A B)
  onT : ∀ A, T A → OnP b A
  addT : ∀ A B, T A → T B → T (padd A B)
  vt : ∀ A R, S A → T R → A ≠ O2 → R ≠ O2 → K.χ (R.1 - A.1) = 1
variable {S T : F × F → Prop} (g : Two b K S T)
include g
end
end Cr
/- Points of a curve, carried by a map of fields and a scale. No program here. -/
namespace Cr
open Rg Fd

section
variable {F G : Type} [Fd F] [Fd G]
/-- A map of fields. -/
structure Hm (f : F → G) : Prop where
  add : ∀ x y, f (x + y) = f x + f y
  mul : ∀ x y, f (x * y) = f x * f y
  neg : ∀ x, f (-x) = -f x
  one : f 1 = 1
  inj : ∀ x, f x = 0 → x = 0
variable {f : F → G} (H : Hm f)
include H
theorem Hm.zero : f 0 = 0 := by
  have h := H.add 0 0
  rw [add_zero] at h
  have h2 : f 0 + f 0 = f 0 + 0 := by rw [add_zero]; exact h.symm
  exact add_left h2
theorem Hm.sub (x y : F) : f (x - y) = f x - f y := by rw [Rg.sub_def, Rg.sub_def, H.add, H.neg]
theorem Hm.eq {x y : F} (h : f x = f y) : x = y := eq_of_sub (H.inj _ (by rw [H.sub, h, sub_self]))
variable {u : G}
variable {b : F} {b' : G} (eb : b' = f b * (u * u * u * (u * u * u)))
include eb
variable (hb : b ≠ 0) (hb' : b' ≠ 0)
include hb hb'
end

section
variable {F G : Type} [Fd F] [Fd G] {f : F → G} (H : Hm f) {b : F} {b' : G} (eb : b' = f b) (hb : b ≠ 0) (hb' : b' ≠ 0)
def hmp (f : F → G) (A : F × F) : G × G := (f A.1, f A.2)
include H in
include H eb in
include H eb in
include H in
include H in
include H eb hb hb'
end
end Cr
/- The second group's curve: all its points, by two of them. No program here. -/
namespace Cr
set_option maxRecDepth 100000
open Rg Fd Go.Eng
def tb : F2 := (zm 4, zm 4)
theorem tb_ne : tb ≠ 0 := fun h => absurd (congrArg Prod.fst h) (by decide)
/-- A place's number, to the base 10. -/
def kN : Nat := 179184598021607201395328336867808778623227034365729160298681049842686063338121018147455353735441364525843719707164066765927216767229676667218777623574602578604133367281659313250333219842201540931831568844813240003724377679117
def hN : Nat := 209869847837335686905080341498658477663839067235703451875306851526599783796572738804459333109033834234622528588876978987822447936461846631641690358257586228683615991308971558879306463436166481
def p1x : V2 := (2, 0)
def p1y : V2 := (188995492400578496451910581292546059920654572609832469388872107051048741028892423057992033888655218419282460458611, 434381874456081807472298918693162486998243066160460423017297172308631992219110538691921044767658182807847155297615)
def p2x : V2 := (3502097864753066570550148371418669739303915645354957993882158272604968504426138630742300340054213004101649122574995, 3191109489096775307193507002606793236600709294888301722308519387708220704158284978609877783087598478210803037831895)
def p2y : V2 := (1120128434309428118703815378359973697067986923993178994101501066809893730950108659182691351312157851099523537033621, 3284094733358660625011281814609151989521685951164705617572026484241640633985466418925372124277545495873312627274873)
abbrev J3 := V2 × V2 × V2
def jp (x y : V2) : J3 := (x, y, ((1 : Nat), (0 : Nat)))
noncomputable def j3 (t : J3) : F2 × F2 × F2 := evP2.φ3 t
def onc (x y : V2) : Bool := Nat.beq (vsub (vmul y y) (vadd (vmul (vmul x x) x) (4, 4))).1 0 && Nat.beq (vsub (vmul y y) (vadd (vmul (vmul x x) x) (4, 4))).2 0
theorem onc_ok {x y : V2} (h : onc x y = true) : OnF tb (q2 x, q2 y) := by
  unfold onc at h
  rw [Bool.and_eq_true] at h
  have h1 : q2 (vsub (vmul y y) (vadd (vmul (vmul x x) x) (4, 4))) = 0 := by
    refine (evP2.isz_φ _).1 ?_
    show (Nat.beq (_ % pN) 0 && Nat.beq (_ % pN) 0) = true
    rw [Nat.eq_of_beq_eq_true h.1, Nat.eq_of_beq_eq_true h.2]; rfl
  rw [q2_sub, q2_add, q2_mul, q2_mul, q2_mul] at h1
  exact eq_of_sub h1
theorem jp_rep {x y : V2} (h : OnF tb (q2 x, q2 y)) : Rep tb (j3 (jp x y)) (q2 x, q2 y) :=
  .inr ⟨one_ne, by show q2 x = q2 x * (1 * 1); rw [mul_one, mul_one], by show q2 y = q2 y * (1 * (1 * 1)); rw [mul_one, mul_one, mul_one], h⟩
theorem rep_z {t : J3} {P : F2 × F2} (h : Rep tb (j3 t) P) : evP2.isz t.2.2 = true ↔ P = O2 := by
  have hi := evP2.isz_φ t.2.2
  rcases h with ⟨h1, h2⟩ | ⟨h1, _, _, h2⟩
  · exact ⟨fun _ => h2, fun _ => hi.2 h1⟩
  · exact ⟨fun e => absurd (hi.1 e) h1, fun e => absurd e (on_ne tb_ne h2)⟩
noncomputable def T1 : F2 × F2 := (q2 p1x, q2 p1y)
noncomputable def T2 : F2 × F2 := (q2 p2x, q2 p2y)
def o1 : J3 := jp p1x p1y
def o2 : J3 := jp p2x p2y
theorem T1_on : OnF tb T1 := onc_ok (by kernel_rfl)
theorem T2_on : OnF tb T2 := onc_ok (by kernel_rfl)
theorem T1_rep : Rep tb (j3 o1) T1 := jp_rep T1_on
theorem T2_rep : Rep tb (j3 o2) T2 := jp_rep T2_on
noncomputable def mj (o : J3) (n : Nat) : J3 := evP2.mul2 o 760 n
theorem mj_rep {o : J3} {P : F2 × F2} (h : Rep tb (j3 o) P) {n : Nat} (hn : n < 2 ^ 760) : Rep tb (j3 (mj o n)) (nmul P n) := Ev.mul2_rep tb_ne h 760 n hn
theorem k_z1 : evP2.isz (mj o1 (kN * 299)).2.2 = true := by kernel_rfl
theorem k_z2 : evP2.isz (mj o2 299).2.2 = true := by kernel_rfl
theorem T1_k : nmul T1 (kN * 299) = O2 := (rep_z (mj_rep T1_rep (of_decide_eq_true (by kernel_rfl)))).1 k_z1
theorem T2_k : nmul T2 299 = O2 := (rep_z (mj_rep T2_rep (of_decide_eq_true (by kernel_rfl)))).1 k_z2
theorem nz_of {o : J3} {P : F2 × F2} (h : Rep tb (j3 o) P) {n : Nat} (hn : n < 2 ^ 760) (hz : evP2.isz (mj o n).2.2 = false) : nmul P n ≠ O2 := fun e => by
  have := (rep_z (mj_rep h hn)).2 e
  rw [hz] at this; cases this
theorem z_0 : evP2.isz (mj o1 19747952380560469302323322050672622487410572530539262414045570918895367835642530197600129291152586801779311534258037583122830008625755003132478624935055720974064090238561052215941626514123944245712362360707393572102318070791).2.2 = false := by kernel_rfl
theorem z_1 : evP2.isz (mj o1 4482238334180586732803745731069591299953558376587720148021888555422331878030468035312402808240355391385198041700163637832530562486545078515721116828311400569115358221134119857931032605439493076099526402124919163483107916511).2.2 = false := by kernel_rfl
theorem z_2 : evP2.isz (mj o1 204435453290776677963449216517309658175308347325906608295165143160629959812485202088339905776329775720238838597629082276088502697387609078137492452174069313816727185654221348812143491724768136401549359461054755660202423507).2.2 = false := by kernel_rfl
theorem z_3 : evP2.isz (mj o1 133242285665808607076488378322626308017882680317454143660064485930450545651671235455237836767).2.2 = false := by kernel_rfl
theorem z_4 : evP2.isz (mj o1 1021746936224977739802674759843215733158749228274876731329980043418955197936360816142165308893846079758636364010172630974200012787218635773765140678191).2.2 = false := by kernel_rfl
theorem T1_dvd (a : Nat) (ha : nmul T1 a = O2) : kN ∣ a := by
  have oT : OnP tb T1 := .inr T1_on
  have d0 : 2713 ∣ a := ord_dvd tb_ne oT prm_2713 (n := 19747952380560469302323322050672622487410572530539262414045570918895367835642530197600129291152586801779311534258037583122830008625755003132478624935055720974064090238561052215941626514123944245712362360707393572102318070791) (by rw [show 19747952380560469302323322050672622487410572530539262414045570918895367835642530197600129291152586801779311534258037583122830008625755003132478624935055720974064090238561052215941626514123944245712362360707393572102318070791 * 2713 = kN * 299 from of_decide_eq_true (by kernel_rfl)]; exact T1_k) (nz_of T1_rep (of_decide_eq_true (by kernel_rfl)) z_0) ha
  have d1 : 11953 ∣ a := ord_dvd tb_ne oT prm_11953 (n := 4482238334180586732803745731069591299953558376587720148021888555422331878030468035312402808240355391385198041700163637832530562486545078515721116828311400569115358221134119857931032605439493076099526402124919163483107916511) (by rw [show 4482238334180586732803745731069591299953558376587720148021888555422331878030468035312402808240355391385198041700163637832530562486545078515721116828311400569115358221134119857931032605439493076099526402124919163483107916511 * 11953 = kN * 299 from of_decide_eq_true (by kernel_rfl)]; exact T1_k) (nz_of T1_rep (of_decide_eq_true (by kernel_rfl)) z_1) ha
  have d2 : 262069 ∣ a := ord_dvd tb_ne oT prm_262069 (n := 204435453290776677963449216517309658175308347325906608295165143160629959812485202088339905776329775720238838597629082276088502697387609078137492452174069313816727185654221348812143491724768136401549359461054755660202423507) (by rw [show 204435453290776677963449216517309658175308347325906608295165143160629959812485202088339905776329775720238838597629082276088502697387609078137492452174069313816727185654221348812143491724768136401549359461054755660202423507 * 262069 = kN * 299 from of_decide_eq_true (by kernel_rfl)]; exact T1_k) (nz_of T1_rep (of_decide_eq_true (by kernel_rfl)) z_2) ha
  have d3 : 402096035359507321594726366720466575392706800671181159425656785868777272553337714697862511267018014931937703598282857976535744623203249 ∣ a := ord_dvd tb_ne oT prm_m (n := 133242285665808607076488378322626308017882680317454143660064485930450545651671235455237836767) (by rw [show 133242285665808607076488378322626308017882680317454143660064485930450545651671235455237836767 * 402096035359507321594726366720466575392706800671181159425656785868777272553337714697862511267018014931937703598282857976535744623203249 = kN * 299 from of_decide_eq_true (by kernel_rfl)]; exact T1_k) (nz_of T1_rep (of_decide_eq_true (by kernel_rfl)) z_3) ha
  have d4 : 52435875175126190479447740508185965837690552500527637822603658699938581184513 ∣ a := ord_dvd tb_ne oT prm_r (n := 1021746936224977739802674759843215733158749228274876731329980043418955197936360816142165308893846079758636364010172630974200012787218635773765140678191) (by rw [show 1021746936224977739802674759843215733158749228274876731329980043418955197936360816142165308893846079758636364010172630974200012787218635773765140678191 * 52435875175126190479447740508185965837690552500527637822603658699938581184513 = kN * 299 from of_decide_eq_true (by kernel_rfl)]; exact T1_k) (nz_of T1_rep (of_decide_eq_true (by kernel_rfl)) z_4) ha
  have c1 : 2713 * 11953 ∣ a := Nat.Coprime.mul_dvd_of_dvd_of_dvd (show Nat.gcd 2713 11953 = 1 from of_decide_eq_true (by kernel_rfl)) d0 d1
  rw [show 2713 * 11953 = 32428489 from of_decide_eq_true (by kernel_rfl)] at c1
  have c2 : 32428489 * 262069 ∣ a := Nat.Coprime.mul_dvd_of_dvd_of_dvd (show Nat.gcd 32428489 262069 = 1 from of_decide_eq_true (by kernel_rfl)) c1 d2
  rw [show 32428489 * 262069 = 8498501683741 from of_decide_eq_true (by kernel_rfl)] at c2
  have c3 : 8498501683741 * 402096035359507321594726366720466575392706800671181159425656785868777272553337714697862511267018014931937703598282857976535744623203249 ∣ a := Nat.Coprime.mul_dvd_of_dvd_of_dvd (show Nat.gcd 8498501683741 402096035359507321594726366720466575392706800671181159425656785868777272553337714697862511267018014931937703598282857976535744623203249 = 1 from of_decide_eq_true (by kernel_rfl)) c2 d3
  rw [show 8498501683741 * 402096035359507321594726366720466575392706800671181159425656785868777272553337714697862511267018014931937703598282857976535744623203249 = 3417213833528353644824999196800052619260030863795574352274180747220585946275454234589181635096475183139252053545727862789966597950563999243361674509 from of_decide_eq_true (by kernel_rfl)] at c3
  have c4 : 3417213833528353644824999196800052619260030863795574352274180747220585946275454234589181635096475183139252053545727862789966597950563999243361674509 * 52435875175126190479447740508185965837690552500527637822603658699938581184513 ∣ a := Nat.Coprime.mul_dvd_of_dvd_of_dvd (show Nat.gcd 3417213833528353644824999196800052619260030863795574352274180747220585946275454234589181635096475183139252053545727862789966597950563999243361674509 52435875175126190479447740508185965837690552500527637822603658699938581184513 = 1 from of_decide_eq_true (by kernel_rfl)) c3 d4
  rw [show 3417213833528353644824999196800052619260030863795574352274180747220585946275454234589181635096475183139252053545727862789966597950563999243361674509 * 52435875175126190479447740508185965837690552500527637822603658699938581184513 = 179184598021607201395328336867808778623227034365729160298681049842686063338121018147455353735441364525843719707164066765927216767229676667218777623574602578604133367281659313250333219842201540931831568844813240003724377679117 from of_decide_eq_true (by kernel_rfl)] at c4
  exact c4
/-- The small sums. -/
noncomputable def smz (a l l' : Nat) : Bool := fo6 (mj o1 a) fun A => (List.range l).all fun j => !evP2.isz (evP2.jadd A (mj o2 (l' * j))).2.2
theorem smz_ok {a l l' : Nat} (ha : a < 2 ^ 760) (hl : l < 300) (hl' : l' < 300) (h : smz a l l' = true) (j : Nat) (hj : j < l) : padd (nmul T1 a) (nmul (nmul T2 l') j) ≠ O2 := by
  unfold smz at h
  rw [fo6_eq] at h
  have h1 := List.all_eq_true.1 h j (List.mem_range.2 hj)
  have hb : l' * j < 2 ^ 760 := by
    have h2 : l' * j ≤ 300 * 300 := Nat.mul_le_mul (by omega) (by omega)
    exact Nat.lt_of_le_of_lt h2 (of_decide_eq_true (by kernel_rfl))
  have r1 := mj_rep T1_rep ha
  have r2 := mj_rep T2_rep hb
  have r3 := rep_add tb_ne r1 r2
  have e : Cr.jadd (j3 (mj o1 a)) (j3 (mj o2 (l' * j))) = j3 (evP2.jadd (mj o1 a) (mj o2 (l' * j))) := (evP2.jadd_φ _ _).symm
  rw [e] at r3
  rw [nmul_mul tb_ne (.inr T2_on)]
  intro h0
  have h3 := (rep_z r3).2 h0
  rw [h3] at h1; cases h1
theorem sm_13 : smz (kN * 23) 13 23 = true := by kernel_rfl
theorem sm_23 : smz (kN * 13) 23 13 = true := by kernel_rfl
theorem v_23 : evP2.isz (mj o2 23).2.2 = false := by kernel_rfl
theorem v_13 : evP2.isz (mj o2 13).2.2 = false := by kernel_rfl
theorem T_ind (a c : Nat) (h : padd (nmul T1 a) (nmul T2 c) = O2) : kN * 299 ∣ a ∧ 299 ∣ c :=
  ind_all tb_ne (.inr T1_on) (.inr T2_on) (k := kN) (l := 13) (l' := 23) prm_13 prm_23 (of_decide_eq_true (by kernel_rfl)) (of_decide_eq_true (by kernel_rfl)) T1_k T2_k T1_dvd
    (nz_of T2_rep (of_decide_eq_true (by kernel_rfl)) v_23) (fun j hj => smz_ok (of_decide_eq_true (by kernel_rfl)) (by decide) (by decide) sm_13 j hj)
    (nz_of T2_rep (of_decide_eq_true (by kernel_rfl)) v_13) (fun j hj => smz_ok (of_decide_eq_true (by kernel_rfl)) (by decide) (by decide) sm_23 j hj) a c h
theorem tb_nm : nm2 (-tb) = 1 + 1 + (1 + 1) + (1 + 1 + (1 + 1)) + (1 + 1 + (1 + 1) + (1 + 1 + (1 + 1))) + (1 + 1 + (1 + 1) + (1 + 1 + (1 + 1)) + (1 + 1 + (1 + 1) + (1 + 1 + (1 + 1)))) := by
  rw [F2.neg_def]
  refine Zm.ext (of_decide_eq_true (by kernel_rfl))
theorem no_cube (x : F2) : x * x * x + tb ≠ 0 := fun h => by
  have h1 : x * x * x = -tb := (neg_eq ((add_comm tb (x * x * x)).trans h)).symm
  have e := congrArg nm2 h1
  rw [nm2_mul, nm2_mul] at e
  obtain ⟨s, hs⟩ : ∃ s, s = nm2 x := ⟨_, rfl⟩
  rw [← hs] at e
  have hv : (nm2 (-tb)).v = 32 := by rw [tb_nm]; exact of_decide_eq_true (by kernel_rfl)
  have s0 : s ≠ 0 := fun z => by
    rw [z, zero_mul, zero_mul] at e
    rw [← e] at hv
    exact absurd hv (by decide)
  have hf := fp_fermat s0
  have hq : fpP - 1 = 3 * 1334136518407222464472596608578634718852294273313002628444019378708010550163612621480895876376338554679298090853262 := of_decide_eq_true (by kernel_rfl)
  obtain ⟨q, hqq⟩ : ∃ q, q = 1334136518407222464472596608578634718852294273313002628444019378708010550163612621480895876376338554679298090853262 := ⟨_, rfl⟩
  rw [hq, ← hqq, zpow_mul'] at hf
  have h3 : zpow s 3 = nm2 (-tb) := by
    rw [← e]; show 1 * s * s * s = _; rw [one_mul]
  rw [h3] at hf
  have hw := congrArg Zm.v hf
  rw [zpow_v, hv] at hw
  have h4 : ((32 : Int) ^ q % Mp) = 1 := hw
  have h5 : (32 : Nat) ^ q % fpP = 1 := by
    have h6 : (((32 : Nat) ^ q % fpP : Nat) : Int) = 1 := by rw [Int.natCast_emod, Int.natCast_pow]; exact h4
    omega
  rw [← npm_eq fpP 32 (of_decide_eq_true (by kernel_rfl)) 384 q (by rw [hqq]; exact of_decide_eq_true (by kernel_rfl)), hqq] at h5
  exact absurd h5 (of_decide_eq_true (by kernel_rfl))
def od (y : F2) : Bool := if y.1 = 0 then decide (y.2.v % 2 = 1) else decide (y.1.v % 2 = 1)
theorem od_v {a : Fp} (h : a ≠ 0) : decide ((-a).v % 2 = 1) = !decide (a.v % 2 = 1) := by
  have h0 : a.v ≠ 0 := fun e => h (Zm.ext e)
  have hn := a.nn
  have hl := a.lt
  have e : (-a).v = Mp - a.v := by
    rw [neg_v]
    have h1 : (-a.v + Mp * 1) % Mp = (-a.v) % Mp := Int.add_mul_emod_self_left _ _ _
    rw [← h1, Int.mul_one, Int.emod_eq_of_lt (by omega) (by omega)]; omega
  rw [e]
  have hp : Mp % 2 = 1 := of_decide_eq_true (by kernel_rfl)
  by_cases h2 : a.v % 2 = 1
  · rw [decide_eq_true h2, decide_eq_false (by omega)]; rfl
  · rw [decide_eq_false h2, decide_eq_true (by omega)]; rfl
theorem od_neg {y : F2} (h : y ≠ 0) : od (-y) = !od y := by
  unfold od
  rw [F2.neg_def]
  by_cases h1 : y.1 = 0
  · have h2 : y.2 ≠ 0 := fun e => h (F2.ext h1 e)
    rw [if_pos h1, if_pos (show -y.1 = 0 by rw [h1]; exact neg_zero), od_v h2]
  · rw [if_neg h1, if_neg (show ¬ -y.1 = 0 from fun e => h1 (by rw [← neg_neg y.1, e]; exact neg_zero)), od_v h1]
noncomputable def cod (P : F2 × F2) : Nat := if P = O2 then 0 else 1 + 2 * (P.1.1.v.toNat * pN + P.1.2.v.toNat) + (if od P.2 = true then 1 else 0)
theorem v_lt (a : Fp) : a.v.toNat < pN := by
  have h1 := a.nn
  have h2 := a.lt
  have h3 : Mp = (pN : Int) := rfl
  omega
theorem cod_lt (P : F2 × F2) : cod P < 2 * (pN * pN) + 1 := by
  have key : ∀ a c n : Nat, a < n → c < n → 2 * (a * n + c) + 2 < 2 * (n * n) + 1 := by
    intro a c n h1 h2
    have h4 : (a + 1) * n ≤ n * n := Nat.mul_le_mul_right n h1
    rw [Nat.add_mul, Nat.one_mul] at h4
    omega
  have h := key _ _ pN (v_lt P.1.1) (v_lt P.1.2)
  obtain ⟨X, hX⟩ : ∃ X, X = 2 * (P.1.1.v.toNat * pN + P.1.2.v.toNat) := ⟨_, rfl⟩
  obtain ⟨Y, hY⟩ : ∃ Y, Y = 2 * (pN * pN) := ⟨_, rfl⟩
  unfold cod
  rw [← hX, ← hY] at h
  rw [← hX, ← hY]
  split
  · omega
  · split <;> omega
theorem cod_key : ∀ (X Y : Nat) (s t : Bool), 1 + 2 * X + (if s = true then 1 else 0) = 1 + 2 * Y + (if t = true then 1 else 0) → X = Y ∧ s = t
  | X, Y, false, false, h => by
    have h : 1 + 2 * X + 0 = 1 + 2 * Y + 0 := h
    exact ⟨by omega, rfl⟩
  | X, Y, false, true, h => by
    have h : 1 + 2 * X + 0 = 1 + 2 * Y + 1 := h
    omega
  | X, Y, true, false, h => by
    have h : 1 + 2 * X + 1 = 1 + 2 * Y + 0 := h
    omega
  | X, Y, true, true, h => by
    have h : 1 + 2 * X + 1 = 1 + 2 * Y + 1 := h
    exact ⟨by omega, rfl⟩
theorem cod_inj {P Q : F2 × F2} (oP : OnP tb P) (oQ : OnP tb Q) (h : cod P = cod Q) : P = Q := by
  by_cases hP : P = O2
  · by_cases hQ : Q = O2
    · rw [hP, hQ]
    · exfalso
      unfold cod at h
      rw [if_pos hP, if_neg hQ] at h
      omega
  by_cases hQ : Q = O2
  · exfalso
    unfold cod at h
    rw [if_neg hP, if_pos hQ] at h
    omega
  have hp : OnF tb P := oP.resolve_left hP
  have hq : OnF tb Q := oQ.resolve_left hQ
  unfold cod at h
  rw [if_neg hP, if_neg hQ] at h
  have hx : P.1.1.v.toNat * pN + P.1.2.v.toNat = Q.1.1.v.toNat * pN + Q.1.2.v.toNat ∧ (od P.2 = od Q.2) := by
    exact cod_key _ _ _ _ h
  obtain ⟨hx, ho⟩ := hx
  have v1 := v_lt P.1.1
  have v2 := v_lt P.1.2
  have v3 := v_lt Q.1.1
  have v4 := v_lt Q.1.2
  have d1 : P.1.1.v.toNat = Q.1.1.v.toNat := by
    have e1 : (P.1.1.v.toNat * pN + P.1.2.v.toNat) / pN = (Q.1.1.v.toNat * pN + Q.1.2.v.toNat) / pN := congrArg (· / pN) hx
    rw [Nat.mul_comm, Nat.mul_add_div (by decide), Nat.div_eq_of_lt v2, Nat.mul_comm Q.1.1.v.toNat, Nat.mul_add_div (by decide), Nat.div_eq_of_lt v4] at e1
    exact e1
  have d2 : P.1.2.v.toNat = Q.1.2.v.toNat := by rw [d1] at hx; omega
  have x1 : P.1 = Q.1 := by
    refine F2.ext (Zm.ext ?_) (Zm.ext ?_)
    · have := P.1.1.nn; have := Q.1.1.nn; omega
    · have := P.1.2.nn; have := Q.1.2.nn; omega
  have hy : P.2 * P.2 = Q.2 * Q.2 := by
    have a1 : P.2 * P.2 = P.1 * P.1 * P.1 + tb := hp
    have a2 : Q.2 * Q.2 = Q.1 * Q.1 * Q.1 + tb := hq
    rw [a1, a2, x1]
  rcases sq_eq hy with e | e
  · exact Prod.ext x1 e
  · by_cases h0 : Q.2 = 0
    · exact Prod.ext x1 (by rw [e, h0]; exact neg_zero)
    · rw [e, od_neg h0] at ho
      cases hh : od Q.2 <;> rw [hh] at ho <;> cases ho
/-- ALL POINTS of the second group's curve. -/
theorem all_tw {Q : F2 × F2} (oQ : OnP tb Q) : InH T1 T2 Q :=
  gen_all tb_ne (.inr T1_on) (.inr T2_on) T1_k T2_k (of_decide_eq_true (by kernel_rfl)) T_ind (no2_of tb_ne no_cube) cod (2 * (pN * pN) + 1) (fun P _ => cod_lt P) (fun _ _ hP hQ h => cod_inj hP hQ h) (of_decide_eq_true (by kernel_rfl)) oQ
end Cr
/- A number made a point: the other curve's points, and the way across. No program here. -/
namespace Cr
set_option maxRecDepth 100000
open Rg Fd Go.Eng
noncomputable def hv (x : F2) (l : List F2) : F2 := l.foldr (fun c s => s * x + c) 0
noncomputable def hq (x : F2) (l : List V2) : F2 := hv x (l.map q2)
def cG : List V2 := [(1012, 1012), (0, 240), (0, 0), (1, 0)]
noncomputable def ca : F2 := q2 (0, 240)
noncomputable def cb : F2 := q2 (1012, 1012)
theorem hG (x : F2) : hq x cG = x * x * x + ca * x + cb := by
  show (((0 * x + q2 (1, 0)) * x + q2 (0, 0)) * x + q2 (0, 240)) * x + q2 (1012, 1012) = _
  have h1 : q2 (1, 0) = 1 := rfl
  rw [h1, q2_zero, zero_mul, zero_add, one_mul, add_zero, add_mul]; rfl
def s0 : V2 := (391013756818087021228608844186469378708965029305944648629640836944759185027123020480318340657013194950516187264795, 3578796461873081174841411974298466426866052387096285028890861355461367155938811896227938614244375769879856986283402)
end Cr
/- fp.Wide. -/
namespace Go.Proofs.YtbfimfdhmggieaaDoor.fp
set_option maxRecDepth 100000
open Go Go.Eng Go.RowKit Cr Go.Proofs.YtbfimfdhmggieaaDoor

theorem ent_wide : enters Tryd.prog 48 Tryd.f48 := enters_mk (by kernel_rfl) (by kernel_rfl) (by kernel_rfl)
noncomputable def wideI (g : List Int × Fp) : St := mkSt Tryd.f48.ntmps 40 [(0, .is (.one (.ro (.int .u8) g.1))), (2, .is (.one (.ptr 0 0))), (3, .is (.one (.ptr 8 0))), (4, .is (.one (.ptr 24 0)))] [(0, [.row .fp 1 [(0 : Fp)]]), (8, [.row .fp 1 [g.2]]), (24, [.row .fp 1 [(R2 : Fp)]])]
def wn (len : Int) : Int := IntKind.i64.wrap ((IntKind.i64.wrap (len - 1)).tmod 48 + 1)
def wch (bs : List Int) : List Int := List.take (wn bs.length - 0).toNat (List.drop (Int.toNat 0) bs)
def wideN (g : List Int × Fp) : List Int × Fp := (List.take ((g.1.length : Int) - wn g.1.length).toNat (List.drop (wn g.1.length).toNat g.1), g.2 * R2 + dec (lim 6 (val (enc (R2 : Fp)) * val (lim 6 (num (wch g.1))) * rinv % M)))
/-- How many bytes are taken behind k of m rounds. -/
def wp (len k : Nat) : Nat := len - 48 * ((len + 47) / 48 - k)
def wideG (bs : List Int) (k : Nat) : List Int × Fp := (bs.drop (wp bs.length k), zm (num (bs.take (wp bs.length k))))

theorem wn_eq {L : Nat} (h0 : 0 < L) (h1 : L < 4611686018427387904) : wn L = (((L - 1) % 48 + 1 : Nat) : Int) := by
  unfold wn
  rw [wrap_i64' (a := (L : Int) - 1) (by omega) (by omega), Int.tmod_eq_emod_of_nonneg (by omega), wrap_i64' (by omega) (by omega)]
  omega

theorem wide_next {bs : List Int} (hb : Bs bs) (hl : bs.length < 4611686018427387904) {k : Nat} (hk : k < (bs.length + 47) / 48) :
    0 < bs.length - wp bs.length k ∧ wideN (wideG bs k) = wideG bs (k + 1) ∧ (wch (bs.drop (wp bs.length k))).length ≤ 48 ∧ 1 ≤ (bs.length - wp bs.length k - 1) % 48 + 1 ∧ (bs.length - wp bs.length k - 1) % 48 + 1 ≤ bs.length - wp bs.length k := by
  have hL : 0 < bs.length - wp bs.length k := by unfold wp; omega
  have hn : (bs.length - wp bs.length k - 1) % 48 + 1 = wp bs.length (k + 1) - wp bs.length k := by unfold wp; omega
  have hle : wp bs.length (k + 1) ≤ bs.length := by unfold wp; omega
  have hlt : wp bs.length k < wp bs.length (k + 1) := by unfold wp; omega
  have hlen : (bs.drop (wp bs.length k)).length = bs.length - wp bs.length k := List.length_drop
  have hwn : wn (bs.drop (wp bs.length k)).length = ((wp bs.length (k + 1) - wp bs.length k : Nat) : Int) := by
    rw [wn_eq (by omega) (by omega), hlen, hn]
  have hch : wch (bs.drop (wp bs.length k)) = (bs.drop (wp bs.length k)).take (wp bs.length (k + 1) - wp bs.length k) := by
    unfold wch
    rw [hwn]
    congr 1
  refine ⟨hL, ?_, ?_, by omega, by omega⟩
  · unfold wideN wideG
    simp only
    rw [hwn, hch]
    have e1 : List.take (((bs.drop (wp bs.length k)).length : Int) - ((wp bs.length (k + 1) - wp bs.length k : Nat) : Int)).toNat (List.drop ((wp bs.length (k + 1) - wp bs.length k : Nat) : Int).toNat (bs.drop (wp bs.length k))) = bs.drop (wp bs.length (k + 1)) := by
      rw [Int.toNat_natCast, List.drop_drop, show wp bs.length k + (wp bs.length (k + 1) - wp bs.length k) = wp bs.length (k + 1) by omega]
      exact List.take_of_length_le (by simp; omega)
    rw [e1]
    congr 1
    have hcb : Bs ((bs.drop (wp bs.length k)).take (wp bs.length (k + 1) - wp bs.length k)) := Bs_take (Bs_drop hb _) _
    have hcl : ((bs.drop (wp bs.length k)).take (wp bs.length (k + 1) - wp bs.length k)).length = wp bs.length (k + 1) - wp bs.length k := by simp; omega
    have hc48 : wp bs.length (k + 1) - wp bs.length k ≤ 48 := by omega
    have hnb := num_bd hcb
    rw [hcl] at hnb
    have hpl : p256 (wp bs.length (k + 1) - wp bs.length k) ≤ pw 6 := by
      rw [← p256_8, show 8 * 6 = (wp bs.length (k + 1) - wp bs.length k) + (48 - (wp bs.length (k + 1) - wp bs.length k)) by omega, p256_add]
      have h1 := p256_pos (wp bs.length (k + 1) - wp bs.length k)
      have h2 := p256_pos (48 - (wp bs.length (k + 1) - wp bs.length k))
      have := Int.mul_le_mul_of_nonneg_left (show 1 ≤ p256 (48 - (wp bs.length (k + 1) - wp bs.length k)) by omega) (Int.le_of_lt h1)
      omega
    rw [show lim 6 (val (enc (R2 : Fp)) * val (lim 6 (num ((bs.drop (wp bs.length k)).take (wp bs.length (k + 1) - wp bs.length k)))) * rinv % M) = enc (zm (val (lim 6 (num ((bs.drop (wp bs.length k)).take (wp bs.length (k + 1) - wp bs.length k))))) : Fp) from shift_enc (M := Mp), val_lim_of hnb.1 (by omega), dec_enc]
    show zm _ * zm (pw 6) + zm _ = zm _
    rw [zm_mul, zm_add]
    congr 1
    have hsplit : bs.take (wp bs.length (k + 1)) = bs.take (wp bs.length k) ++ (bs.drop (wp bs.length k)).take (wp bs.length (k + 1) - wp bs.length k) := by
      rw [← List.take_add, show wp bs.length k + (wp bs.length (k + 1) - wp bs.length k) = wp bs.length (k + 1) by omega]
    rw [hsplit, num_append, hcl]
    by_cases h0 : wp bs.length k = 0
    · rw [h0]; simp [num]
    · rw [show wp bs.length (k + 1) - wp bs.length k = 48 by unfold wp at h0 ⊢; omega, ← p256_8]
  · rw [hch]; simp; omega

abbrev preWide : HL [.sl (.int .u8)] → Prop := fun (bs, _) => Bs bs ∧ List.length bs < 4611686018427387904
abbrev outWide : HL [.sl (.int .u8)] → HO [.val .fp] := fun (bs, _) => ((zm (num bs) : Fp), ())
theorem fn_wide : FnOk Tryd.prog 48 [.sl (.int .u8)] [.val .fp] noG preWide outWide := by
  have hsp : SpecsOk Tryd.prog (sps [spWords, spMul, spAdd, spShift, spTimes]) := sps_cons (fnSpec_ok fn_words) (sps_cons (fnSpec_ok fn_mul) (sps_cons (fnSpec_ok fn_add) (sps_cons (fnSpec_ok fn_shift) (sps_cons (fnSpec_ok fn_times) sps_nil))))
  refine fn_of_tr (sp := sps [spWords, spMul, spAdd, spShift, spTimes]) ent_wide (by decide) (by decide) (by kernel_rfl) ?_
  rintro w M0 ⟨bs, ⟨⟩⟩ _ ⟨hb, hl⟩
  have hb : Bs bs := hb
  have hl : bs.length < 4611686018427387904 := hl
  show Tr _ _ _ _ _ _ _
  refine tr_cut hsp mixed 3 (wideI (bs, 0)) True ?_ (fun _ => ?_)
  · refine vcx (X := True ∧ (wideI (bs, 0)).triv True) (by kernel_rfl) ⟨trivial, triv_intro trivial⟩
  have e0 : (bs, (0 : Fp)) = wideG bs 0 := by
    unfold wideG
    rw [show wp bs.length 0 = 0 by unfold wp; omega]
    rfl
  rw [e0]
  refine tr_count hsp mixed wideI (wideG bs) ((bs.length + 47) / 48) wideN wideI (c := nthC (codeOf Tryd.f48) 3) (by kernel_rfl) (by kernel_rfl) (le_of_proj (by kernel_rfl) (by kernel_rfl) trivial)
    (fun k hk => (wide_next hb hl hk).2.1) ?_ ?_
  · intro k hk
    have hlen : (wideG bs k).1.length = bs.length - wp bs.length k := by unfold wideG; simp
    have hbs : Bs (wideG bs k).1 := Bs_drop hb _
    have hnx : k < (bs.length + 47) / 48 → (wch (wideG bs k).1).length ≤ 48 := fun h => (wide_next hb hl h).2.2.1
    have hb1 : k < (bs.length + 47) / 48 → 1 ≤ ((wideG bs k).1.length - 1) % 48 + 1 ∧ ((wideG bs k).1.length - 1) % 48 + 1 ≤ (wideG bs k).1.length := fun h => by rw [hlen]; exact (wide_next hb hl h).2.2.2
    have hiff : k < (bs.length + 47) / 48 ↔ 0 < (wideG bs k).1.length := by rw [hlen]; unfold wp; omega
    have hll : (wideG bs k).1.length < 4611686018427387904 := by omega
    clear hlen
    generalize wideG bs k = g at *
    obtain ⟨cs, x⟩ := g
    simp only at hbs hnx hb1 hiff hll
    refine vcx (X := ((decide ((cs.length : Int) > 0) = true → (48 : Int) ≠ 0 ∧ True ∧ (0 ≤ wn cs.length ∧ wn cs.length ≤ (cs.length : Int)) ∧ preWords (wch cs, ()) ∧ preTimes (enc (R2 : Fp), lim 6 (num (wch cs)), ()) ∧ Canon Mp (lim 6 (val (enc (R2 : Fp)) * val (lim 6 (num (wch cs))) * rinv % M)) ∧ True ∧ (0 ≤ wn cs.length ∧ wn cs.length ≤ (cs.length : Int)) ∧ (wideI (wideN (cs, x))).triv (k < (bs.length + 47) / 48)) ∧
      (decide ((cs.length : Int) > 0) = false → (wideI (cs, x)).triv (k = (bs.length + 47) / 48)))) (by kernel_rfl) ?_
    refine ⟨fun h => ?_, fun h => triv_intro ?_⟩
    · have h0 : 0 < cs.length := by have := of_decide_eq_true h; omega
      have hk' := hiff.2 h0
      have h1 := hb1 hk'
      have hw := wn_eq h0 hll
      have hch : Bs (wch cs) := by unfold wch; exact Bs_take (Bs_drop hbs _) _
      refine ⟨by decide, trivial, by rw [hw]; omega, ⟨hch, hnx hk'⟩, ⟨enc_ws _, lim_ws _ _, (enc_canon _).2.2⟩, ?_, trivial, by rw [hw]; omega, triv_intro hk'⟩
      rw [show lim 6 (val (enc (R2 : Fp)) * val (lim 6 (num (wch cs))) * rinv % M) = enc (zm (val (lim 6 (num (wch cs)))) : Fp) from shift_enc (M := Mp)]
      exact enc_canon _
    · have := of_decide_eq_false h
      omega
  refine tr_vc hsp mixed _ _ ?_
  refine vcx (X := ((wideG bs ((bs.length + 47) / 48)).2, ()) = outWide (bs, ())) (by kernel_rfl) ?_
  unfold wideG
  rw [show wp bs.length ((bs.length + 47) / 48) = bs.length by unfold wp; omega, List.take_length]
noncomputable def spWide : Nat × Eng.Spec := (48, fnSpec [.sl (.int .u8)] [.val .fp] preWide outWide)
end Go.Proofs.YtbfimfdhmggieaaDoor.fp
/- h2c: small numbers, great numbers, polynomials. -/
namespace Go.Proofs.YtbfimfdhmggieaaDoor.h2c
set_option maxRecDepth 100000
open Go Go.Eng Go.RowKit Cr Go.Proofs.YtbfimfdhmggieaaDoor Go.Proofs.YtbfimfdhmggieaaDoor.fp2
end Go.Proofs.YtbfimfdhmggieaaDoor.h2c
/- h2c: great numbers. -/
namespace Go.Proofs.YtbfimfdhmggieaaDoor.h2c
set_option maxRecDepth 100000
open Go Go.Eng Go.RowKit Cr Go.Proofs.YtbfimfdhmggieaaDoor Go.Proofs.YtbfimfdhmggieaaDoor.fp2
end Go.Proofs.YtbfimfdhmggieaaDoor.h2c
/- h2c: across, Map. -/
namespace Go.Proofs.YtbfimfdhmggieaaDoor.h2c
set_option maxRecDepth 100000
open Go Go.Eng Go.RowKit Cr Go.Proofs.YtbfimfdhmggieaaDoor Go.Proofs.YtbfimfdhmggieaaDoor.fp2
end Go.Proofs.YtbfimfdhmggieaaDoor.h2c
/- h2c: Map. -/
namespace Go.Proofs.YtbfimfdhmggieaaDoor.h2c
set_option maxRecDepth 100000
open Go Go.Eng Go.RowKit Cr Go.Proofs.YtbfimfdhmggieaaDoor Go.Proofs.YtbfimfdhmggieaaDoor.fp2
end Go.Proofs.YtbfimfdhmggieaaDoor.h2c
/- A line's three numbers by the powers of w. No program here. -/
namespace Cr
open Rg Fd Go.Eng
end Cr
/- The two groups in the field of p^12; what the last power makes 1. No program here. -/
namespace Cr
open Rg Fd Go.Eng

def e0 (x : Fp) : F2 := (x, (0 : Fp))
theorem Hm.comp {F G E : Type} [Fd F] [Fd G] [Fd E] {f : F → G} {g : G → E} (H : Hm f) (K : Hm g) : Hm (fun x => g (f x)) :=
  ⟨fun x y => by rw [H.add, K.add], fun x y => by rw [H.mul, K.mul], fun x => by rw [H.neg, K.neg], by rw [H.one, K.one], fun x h => H.inj _ (K.inj _ h)⟩
def e1 (x : Fp) : F12 := e2 (e0 x)
noncomputable def k2 : F12 := (((0 : F2), (0 : F2), inv xi), (0 : F2), (0 : F2), (0 : F2))
structure LastP (N p u r : Nat) : Prop where
  pp : p = fpP
  six : ∀ x : F12, x ≠ 0 → x.2 = 0 → pwn x N = 1
  odd : ∀ x : F12, x ≠ 0 → x.1 = 0 → pwn x N = 1
  ord : ∀ x : F12, x ≠ 0 → pwn (pwn x N) r = 1
  np : ∃ s, u + p = r * s
  pos : 0 < N
section
variable {N p u r : Nat} (L : LastP N p u r)
include L
theorem LastP.up {x : F12} (hx : x ≠ 0) : pwn (pwn x N) u * pwn (pwn x N) p = 1 := by
  obtain ⟨s, hs⟩ := L.np
  rw [← pwn_add, hs, pwn_mul, L.ord x hx, pwn_one]
theorem LastP.neg : pwn (-1 : F12) N = 1 := by
  refine L.six _ ?_ ?_
  · intro h
    have h1 : (1 : F12) = 0 := by rw [← neg_neg (1 : F12), h, neg_z]
    exact one_ne h1
  · rw [F12.neg_def]; exact neg_z (F := F6)
variable {b1 : Fp} {b2 : F2} (hb1 : b1 ≠ 0) (hb2 : b2 ≠ 0) (hns : ∀ y : F2, y * y = b2 → False) (he : b2 = e0 b1 * xi)
include hb1 hb2 hns he
end
end Cr
/- The second group's curve: points taken into the group. No program here. -/
namespace Cr
set_option maxRecDepth 100000
open Rg Fd Go.Eng
/-- Additive maps of the curve's points. -/
structure Ad (f : F2 × F2 → F2 × F2) : Prop where
  on : ∀ P, OnP tb P → OnP tb (f P)
  add : ∀ P Q, OnP tb P → OnP tb Q → f (padd P Q) = padd (f P) (f Q)
theorem Ad.comp {f g : F2 × F2 → F2 × F2} (hf : Ad f) (hg : Ad g) : Ad fun P => f (g P) := ⟨fun P h => hf.on _ (hg.on P h), fun P Q h k => by rw [hg.add P Q h k, hf.add _ _ (hg.on P h) (hg.on Q k)]⟩
theorem Ad.sum {f g : F2 × F2 → F2 × F2} (hf : Ad f) (hg : Ad g) : Ad fun P => padd (f P) (g P) := ⟨fun P h => padd_on tb_ne (hf.on P h) (hg.on P h), fun P Q h k => by
  show padd (f (padd P Q)) (g (padd P Q)) = _
  rw [hf.add P Q h k, hg.add P Q h k]
  exact add4 tb_ne (hf.on P h) (hf.on Q k) (hg.on P h) (hg.on Q k)⟩
theorem Ad.zero {f : F2 × F2 → F2 × F2} (hf : Ad f) : f O2 = O2 := by
  have oO : OnP tb (O2 : F2 × F2) := .inl rfl
  have h := hf.add O2 O2 oO oO
  rw [O_add] at h
  have c := cancel tb_ne (hf.on _ oO) (hf.on _ oO)
  rw [← h, neg_add_self] at c
  exact c.symm
theorem Ad.nmul {f : F2 × F2 → F2 × F2} (hf : Ad f) {P : F2 × F2} (oP : OnP tb P) : ∀ n, f (nmul P n) = nmul (f P) n
  | 0 => hf.zero
  | n + 1 => by
    show f (padd (Cr.nmul P n) P) = padd (Cr.nmul (f P) n) (f P)
    rw [hf.add _ _ (nmul_on tb_ne oP n) oP, hf.nmul oP n]
theorem Ad.eq {f g : F2 × F2 → F2 × F2} (hf : Ad f) (hg : Ad g) (h1 : f T1 = g T1) (h2 : f T2 = g T2) {P : F2 × F2} (oP : OnP tb P) : f P = g P := by
  have oa : OnP tb T1 := .inr T1_on
  have ob : OnP tb T2 := .inr T2_on
  obtain ⟨a, c, rfl⟩ := all_tw oP
  rw [hf.add _ _ (nmul_on tb_ne oa a) (nmul_on tb_ne ob c), hg.add _ _ (nmul_on tb_ne oa a) (nmul_on tb_ne ob c), hf.nmul oa, hf.nmul ob, hg.nmul oa, hg.nmul ob, h1, h2]
end Cr
/- h2c: what Map makes. -/
namespace Go.Proofs.YtbfimfdhmggieaaDoor.h2c
set_option maxRecDepth 100000
open Go Go.Eng Go.RowKit Cr Go.Proofs.YtbfimfdhmggieaaDoor Go.Proofs.YtbfimfdhmggieaaDoor.fp2 Rg Fd
end Go.Proofs.YtbfimfdhmggieaaDoor.h2c
/- xmd: numbers of a text; those of the document's text, by computation. -/
namespace Go.Proofs.YtbfimfdhmggieaaDoor.xmd
set_option maxRecDepth 100000
open Go Go.Eng Go.RowKit Cr Go.Proofs.YtbfimfdhmggieaaDoor Go.Proofs.YtbfimfdhmggieaaDoor.sha
/-- The numbers. -/
noncomputable def nmb (E : List Int) (i : Nat) : F2 := (zm (num ((E.drop (128 * i)).take 64)), zm (num ((E.drop (128 * i + 64)).take 64)))
noncomputable def nums (m t : List Int) (n : Nat) : List F2 := opq ((List.range n).map (nmb (expo m t (128 * (n : Int)))))
theorem nums_len (m t : List Int) (n : Nat) : (nums m t n).length = n := by rw [nums, opq_eq, List.length_map, List.length_range]
end Go.Proofs.YtbfimfdhmggieaaDoor.xmd
/- xmd: Numbers. -/
namespace Go.Proofs.YtbfimfdhmggieaaDoor.xmd
set_option maxRecDepth 100000
open Go Go.Eng Go.RowKit Cr Go.Proofs.YtbfimfdhmggieaaDoor Go.Proofs.YtbfimfdhmggieaaDoor.sha
abbrev f2 : Kd := fp2.f2
noncomputable def spExF : Nat × Eng.Spec := (13, fnSpecG shaG [bsl, bsl, .int .i64] [.val (.sl bK), .val (.int .i64)] preEx (fun (m, t, n, _) => ((exA m t n).1, (exA m t n).2, ())))
theorem fn_exF : FnOk Tryd.prog 13 [bsl, bsl, .int .i64] [.val (.sl bK), .val (.int .i64)] shaG preEx (fun (m, t, n, _) => ((exA m t n).1, (exA m t n).2, ())) := fn_expand.frz2
/-- The answer. -/
noncomputable def nuA (m t : List Int) (n : Int) : List F2 × Int := match decide (n < 0) || decide (n > 63) with
  | true => ([], 1)
  | false => (nums m t n.toNat, 0)
theorem ent_numbers : enters Tryd.prog 15 Tryd.f15 := enters_mk (by kernel_rfl) (by kernel_rfl) (by kernel_rfl)
theorem dig_Bs (L : List Int) : Bs (dig L) := by
  rw [dig, opq_eq, digF, outB]
  intro x hx
  obtain ⟨i, _, rfl⟩ := List.mem_map.1 hx
  generalize (Int.fdiv _ _) = y
  simp [IntKind.wrap, IntKind.signed, IntKind.bits]
  omega
theorem exK_Bs (f t : List Int) : ∀ i, Bs (exK f t i).1
  | 0 => fun x hx => by cases hx
  | i + 1 => by
    show Bs ((exK f t i).1 ++ nxD f t i (exK f t i).2)
    intro x hx
    rcases List.mem_append.1 hx with h | h
    · exact exK_Bs f t i x h
    · exact dig_Bs _ x h
theorem expo_Bs (m t : List Int) (n : Int) : Bs (expo m t n) := by
  rw [expo, opq_eq, expF]
  intro x hx
  exact exK_Bs _ _ _ x (List.mem_of_mem_take hx)
theorem cut_a (E : List Int) (k : Nat) : List.take 64 (List.take 128 (List.drop (128 * k) E)) = List.take 64 (List.drop (128 * k) E) := by
  rw [List.take_take]; rfl
theorem cut_b (E : List Int) (k : Nat) : List.take 64 (List.drop 64 (List.take 128 (List.drop (128 * k) E))) = List.take 64 (List.drop (128 * k + 64) E) := by
  rw [List.drop_take, List.take_take, List.drop_drop]; rfl
noncomputable def nuL (E : List Int) (n k : Nat) : List F2 := (List.range k).map (nmb E) ++ List.replicate (n - k) ((0 : Fp), (0 : Fp))
theorem nuL_step {E : List Int} {n k : Nat} (h : k < n) : (nuL E n k).set k (nmb E k) = nuL E n (k + 1) := by
  unfold nuL
  rw [List.set_append_right _ _ (by simp), List.range_succ]
  have e : n - k = (n - (k + 1)) + 1 := by omega
  have e2 : k - ((List.range k).map (nmb E)).length = 0 := by simp
  rw [e2, e, List.replicate_succ, List.set_cons_zero, List.map_append, List.append_assoc]
  simp
noncomputable def nuI (E : List Int) (n : Int) (g : Int × List F2) : St := mkSt Tryd.f15.ntmps 208 [(8, .is (.one (.ro bK E))), (10, .is (.one (.sl 168 0 0 n.toNat 12))), (33, sI .i64 n.toNat), (34, sI .i64 g.1)] [(168, [.row f2 n.toNat g.2])]
theorem fn_numbers : FnOk Tryd.prog 15 [bsl, bsl, .int .i64] [.own f2, .val (.int .i64)] shaG preEx (fun (m, t, n, _) => ((nuA m t n).1, (nuA m t n).2, ())) := by
  have hsp : SpecsOk Tryd.prog (sps [spExF, fp.spWide]) := sps_cons (fnSpecG_ok fn_exF) (sps_cons (fnSpec_ok fp.fn_wide) sps_nil)
  refine fn_of_tr (sp := sps [spExF, fp.spWide]) ent_numbers (by decide) (by decide) (by kernel_rfl) ?_
  rintro w M0 ⟨m, t, n, ⟨⟩⟩
  revert m t n
  intro (m : List Int) (t : List Int) (n : Int) hw hp
  have hm : m.length ≤ 1048576 := hp.1
  have ht : t.length ≤ 1048576 := hp.2
  show Tr _ _ _ _ _ _ _
  refine tr_cutF hsp mixed 8 (fun σ => rdO bK 8 σ) (fun E => nuI E n (0, List.replicate n.toNat ((0 : Fp), (0 : Fp)))) (fun E => E = expo m t (128 * n) ∧ 0 ≤ n ∧ n ≤ 63) ?_ ?_
  · refine vcx (X := ((decide (n < (0 : Int)) = true → ([], (1 : Int), ()) = ((nuA m t n).fst, (nuA m t n).snd, ())) ∧ (decide (n < (0 : Int)) = false → (decide (n > (63 : Int)) = true → ([], (1 : Int), ()) = ((nuA m t n).fst, (nuA m t n).snd, ())) ∧ (decide (n > (63 : Int)) = false → (∀ (g : Nat) (s : Sigma Car), shaG g = some s → Decidable.rec (fun h => (fun x => if g = (1 : Nat) then some ⟨Kd.arr (64 : Nat) uK, rootsL⟩ else none) h) (fun h => (fun x => some ⟨Kd.arr (8 : Nat) uK, firstL⟩) h) (instDecidableEqNat g (0 : Nat)) = some s) ∧ preEx (m, t, IntKind.i64.wrap ((128 : Int) * n), ()) ∧ (((exA m t (IntKind.i64.wrap ((128 : Int) * n))).snd != (0 : Int)) = true → ([], (exA m t (IntKind.i64.wrap ((128 : Int) * n))).snd, ()) = ((nuA m t n).fst, (nuA m t n).snd, ())) ∧ (((exA m t (IntKind.i64.wrap ((128 : Int) * n))).snd != (0 : Int)) = false → ((0 : Int) ≤ n ∧ n ≤ n ∧ (↑(96 : Nat) : Int) * n ≤ (281474976710656 : Int) ∧ n ≤ (9223372036854775807 : Int)) ∧ (nuI ((exA m t (IntKind.i64.wrap ((128 : Int) * n))).fst, (exA m t (IntKind.i64.wrap ((128 : Int) * n))).snd, ()).fst n ((0 : Int), List.replicate n.toNat ((0 : Fp), (0 : Fp)))).triv ((exA m t (IntKind.i64.wrap ((128 : Int) * n))).fst = expo m t ((128 : Int) * n) ∧ (0 : Int) ≤ n ∧ n ≤ (63 : Int))))))) (by kernel_rfl) ?_
    refine ⟨fun h => by rw [nuA, h]; rfl, fun h => ⟨fun h2 => by rw [nuA, h, h2]; rfl, fun h2 => ?_⟩⟩
    have hn0 : 0 ≤ n := by have := of_decide_eq_false h; omega
    have hn1 : n ≤ 63 := by have := of_decide_eq_false h2; omega
    have e1 : IntKind.i64.wrap (128 * n) = 128 * n := wrap_i64' (by omega) (by omega)
    have eA : exA m t (128 * n) = (expo m t (128 * n), 0) := by
      rw [exA, decide_eq_false (by omega), decide_eq_false (by omega)]; rfl
    rw [e1, eA]
    exact ⟨fun _ _ h => h, ⟨hm, ht⟩, fun h => by simp at h, fun _ => ⟨⟨hn0, Int.le_refl _, by omega, by omega⟩, triv_intro ⟨rfl, hn0, hn1⟩⟩⟩
  rintro E ⟨hE, hn0, hn1⟩
  revert E
  intro (E : List Int) (hE : E = expo m t (128 * n))
  have hl : E.length = 128 * n.toNat := by rw [hE, expo_len]; omega
  refine tr_while hsp mixed noSw (fun σ => (rdS (.int .i64) 34 σ, rdR f2 168 σ)) (nuI E n) (fun g => ∃ k : Nat, k ≤ n.toNat ∧ g.1 = (k : Int) ∧ g.2 = nuL E n.toNat k) (fun g => n.toNat - g.1.toNat)
    (fun σ => (rdS (.int .i64) 34 σ, rdR f2 168 σ)) (nuI E n) (fun g => g.2 = nums m t n.toNat) (0, List.replicate n.toNat ((0 : Fp), (0 : Fp))) (c := nthC (codeOf Tryd.f15) 8) (by kernel_rfl) (by kernel_rfl) (le_of_proj (by kernel_rfl) (by kernel_rfl) ?_) ?_ ?_
  · exact ⟨0, Nat.zero_le _, rfl, by simp [nuL]⟩
  · rintro ⟨i, l⟩ hj
    revert i l
    intro (i : Int) (l : List F2) ⟨k, hk, ei, el⟩
    have ei : i = (k : Int) := ei
    have kl : l = nuL E n.toNat k := el
    subst ei
    have e1 : IntKind.i64.wrap (128 * (k : Int)) = ((128 * k : Nat) : Int) := by rw [wrap_i64' (by omega) (by omega)]; omega
    have e2 : IntKind.i64.wrap ((k : Int) + 1) = ((k + 1 : Nat) : Int) := wrap_succ (by omega)
    have e3 : IntKind.i64.wrap (128 * ((k + 1 : Nat) : Int)) = ((128 * k + 128 : Nat) : Int) := by rw [wrap_i64' (by omega) (by omega)]; omega
    have e4 : (((128 * k + 128 : Nat) : Int) - ((128 * k : Nat) : Int)).toNat = 128 := by omega
    refine vcx (X := ((decide ((↑k : Int) < (↑n.toNat : Int)) = true → ((0 : Int) ≤ IntKind.i64.wrap ((128 : Int) * (↑k : Int)) ∧ IntKind.i64.wrap ((128 : Int) * (↑k : Int)) ≤ IntKind.i64.wrap ((128 : Int) * IntKind.i64.wrap ((↑k : Int) + (1 : Int))) ∧ IntKind.i64.wrap ((128 : Int) * IntKind.i64.wrap ((↑k : Int) + (1 : Int))) ≤ (↑E.length : Int)) ∧ ((0 : Int) ≤ (64 : Int) ∧ (64 : Int) ≤ (↑(List.take (IntKind.i64.wrap ((128 : Int) * IntKind.i64.wrap ((↑k : Int) + (1 : Int))) - IntKind.i64.wrap ((128 : Int) * (↑k : Int))).toNat (List.drop (IntKind.i64.wrap ((128 : Int) * (↑k : Int))).toNat E)).length : Int)) ∧ fp.preWide (List.take (64 : Nat) (List.take (IntKind.i64.wrap ((128 : Int) * IntKind.i64.wrap ((↑k : Int) + (1 : Int))) - IntKind.i64.wrap ((128 : Int) * (↑k : Int))).toNat (List.drop (IntKind.i64.wrap ((128 : Int) * (↑k : Int))).toNat E)), ()) ∧ ((0 : Int) ≤ (64 : Int) ∧ (64 : Int) ≤ (↑(List.take (IntKind.i64.wrap ((128 : Int) * IntKind.i64.wrap ((↑k : Int) + (1 : Int))) - IntKind.i64.wrap ((128 : Int) * (↑k : Int))).toNat (List.drop (IntKind.i64.wrap ((128 : Int) * (↑k : Int))).toNat E)).length : Int)) ∧ fp.preWide (List.take ((↑(List.take (IntKind.i64.wrap ((128 : Int) * IntKind.i64.wrap ((↑k : Int) + (1 : Int))) - IntKind.i64.wrap ((128 : Int) * (↑k : Int))).toNat (List.drop (IntKind.i64.wrap ((128 : Int) * (↑k : Int))).toNat E)).length : Int) - (64 : Int)).toNat (List.drop (64 : Nat) (List.take (IntKind.i64.wrap ((128 : Int) * IntKind.i64.wrap ((↑k : Int) + (1 : Int))) - IntKind.i64.wrap ((128 : Int) * (↑k : Int))).toNat (List.drop (IntKind.i64.wrap ((128 : Int) * (↑k : Int))).toNat E))), ()) ∧ ((0 : Int) ≤ (↑k : Int) ∧ (↑k : Int) < (↑n.toNat : Int)) ∧ (↑k : Int).toNat < n.toNat ∧ (nuI E n (IntKind.i64.wrap ((↑k : Int) + (1 : Int)), l.set (↑k : Int).toNat (zmp (num (List.take (64 : Nat) (List.take (IntKind.i64.wrap ((128 : Int) * IntKind.i64.wrap ((↑k : Int) + (1 : Int))) - IntKind.i64.wrap ((128 : Int) * (↑k : Int))).toNat (List.drop (IntKind.i64.wrap ((128 : Int) * (↑k : Int))).toNat E)))), zmp (num (List.take ((↑(List.take (IntKind.i64.wrap ((128 : Int) * IntKind.i64.wrap ((↑k : Int) + (1 : Int))) - IntKind.i64.wrap ((128 : Int) * (↑k : Int))).toNat (List.drop (IntKind.i64.wrap ((128 : Int) * (↑k : Int))).toNat E)).length : Int) - (64 : Int)).toNat (List.drop (64 : Nat) (List.take (IntKind.i64.wrap ((128 : Int) * IntKind.i64.wrap ((↑k : Int) + (1 : Int))) - IntKind.i64.wrap ((128 : Int) * (↑k : Int))).toNat (List.drop (IntKind.i64.wrap ((128 : Int) * (↑k : Int))).toNat E)))))))).triv ((∃ k_1, k_1 ≤ n.toNat ∧ IntKind.i64.wrap ((↑k : Int) + (1 : Int)) = (↑k_1 : Int) ∧ l.set (↑k : Int).toNat (zmp (num (List.take (64 : Nat) (List.take (IntKind.i64.wrap ((128 : Int) * IntKind.i64.wrap ((↑k : Int) + (1 : Int))) - IntKind.i64.wrap ((128 : Int) * (↑k : Int))).toNat (List.drop (IntKind.i64.wrap ((128 : Int) * (↑k : Int))).toNat E)))), zmp (num (List.take ((↑(List.take (IntKind.i64.wrap ((128 : Int) * IntKind.i64.wrap ((↑k : Int) + (1 : Int))) - IntKind.i64.wrap ((128 : Int) * (↑k : Int))).toNat (List.drop (IntKind.i64.wrap ((128 : Int) * (↑k : Int))).toNat E)).length : Int) - (64 : Int)).toNat (List.drop (64 : Nat) (List.take (IntKind.i64.wrap ((128 : Int) * IntKind.i64.wrap ((↑k : Int) + (1 : Int))) - IntKind.i64.wrap ((128 : Int) * (↑k : Int))).toNat (List.drop (IntKind.i64.wrap ((128 : Int) * (↑k : Int))).toNat E)))))) = nuL E n.toNat k_1) ∧ n.toNat - (IntKind.i64.wrap ((↑k : Int) + (1 : Int))).toNat < n.toNat - (↑k : Int).toNat)) ∧ (decide ((↑k : Int) < (↑n.toNat : Int)) = false → (nuI E n ((↑k : Int), l)).triv (l = nums m t n.toNat)))) (by kernel_rfl) ?_
    rw [e1, e2, e3, e4]
    simp only [Int.toNat_natCast]
    refine ⟨fun h => ?_, fun h => triv_intro ?_⟩
    · have hlt : k < n.toNat := by have := of_decide_eq_true h; omega
      have lp : (List.take 128 (List.drop (128 * k) E)).length = 128 := by rw [List.length_take, List.length_drop]; omega
      rw [lp]
      have e5 : (((128 : Nat) : Int) - 64).toNat = 64 := rfl
      rw [e5, cut_a, cut_b]
      have hb := expo_Bs m t (128 * n)
      rw [← hE] at hb
      have pw : ∀ a : Nat, fp.preWide (List.take 64 (List.drop a E), ()) := fun a => ⟨fun x hx => hb x (List.mem_of_mem_drop (List.mem_of_mem_take hx)), by
        show (List.take 64 (List.drop a E)).length < _
        rw [List.length_take]; omega⟩
      refine ⟨⟨by omega, by omega, by omega⟩, ⟨by decide, by decide⟩, pw _, ⟨by decide, by decide⟩, pw _, ⟨by omega, by omega⟩, hlt, triv_intro ⟨⟨k + 1, hlt, rfl, ?_⟩, ?_⟩⟩
      · show l.set k (nmb E k) = _
        rw [kl, nuL_step hlt]
      · show n.toNat - ((k + 1 : Nat) : Int).toNat < n.toNat - (k : Int).toNat
        rw [Int.toNat_natCast, Int.toNat_natCast]; omega
    · have hk' : k = n.toNat := by have := of_decide_eq_false h; omega
      show l = _
      rw [kl, hk', nuL, Nat.sub_self, List.replicate_zero, List.append_nil, nums, opq_eq, hE]
      have e6 : 128 * (n.toNat : Int) = 128 * n := by omega
      rw [e6]
  rintro ⟨i, l⟩ hj
  revert i l
  intro (i : Int) (l : List F2) (hj : l = nums m t n.toNat)
  refine tr_vc hsp mixed _ _ ?_
  refine vcx (X := ((0 : Nat) + n.toNat ≤ n.toNat ∧ (List.take n.toNat l, (0 : Int), ()) = ((nuA m t n).fst, (nuA m t n).snd, ()))) (by kernel_rfl) ?_
  have eN : nuA m t n = (nums m t n.toNat, 0) := by
    rw [nuA, decide_eq_false (by omega), decide_eq_false (by omega)]; rfl
  rw [eN, hj, List.take_of_length_le (by rw [nums_len]; exact Nat.le_refl _)]
  exact ⟨by omega, rfl⟩
end Go.Proofs.YtbfimfdhmggieaaDoor.xmd
/- ref03: word, Less, Plus, Minus. -/
namespace Cr
/-- Numbers in words of 16 bits, the lowest first. -/
def pv16 : Nat → Int
  | 0 => 1
  | n + 1 => 65536 * pv16 n
def v16 : List Int → Int
  | [] => 0
  | w :: ws => w + 65536 * v16 ws
def W16 (l : List Int) : Prop := ∀ w ∈ l, 0 ≤ w ∧ w < 65536
def w16 (k : Nat) (N : Int) : List Int := (List.range k).map fun i => N / pv16 i % 65536
theorem pv16_pos : ∀ n, 0 < pv16 n
  | 0 => by decide
  | n + 1 => by have := pv16_pos n; simp only [pv16]; omega
theorem w16_len (k : Nat) (N : Int) : (w16 k N).length = k := by simp [w16]
theorem w16_W (k : Nat) (N : Int) : W16 (w16 k N) := by
  intro w hw
  simp only [w16, List.mem_map] at hw
  obtain ⟨i, _, rfl⟩ := hw
  omega
theorem v16_nn : ∀ {l : List Int}, W16 l → 0 ≤ v16 l
  | [], _ => Int.le_refl _
  | w :: ws, h => by
    have h1 := (h w (by simp)).1
    have h2 := v16_nn (l := ws) fun x hx => h x (by simp [hx])
    simp only [v16]; omega
theorem v16_lt : ∀ {l : List Int}, W16 l → v16 l < pv16 l.length
  | [], _ => by decide
  | w :: ws, h => by
    have h1 := h w (by simp)
    have h2 := v16_lt (l := ws) fun x hx => h x (by simp [hx])
    simp only [v16, List.length_cons, pv16]; omega
/-- A word is a digit. -/
theorem v16_get : ∀ {l : List Int} (i : Nat), W16 l → l.getD i 0 = v16 l / pv16 i % 65536
  | [], i, _ => by simp [v16]
  | w :: ws, 0, h => by
    have h1 := h w (by simp)
    simp only [List.getD_cons_zero, v16, pv16]; omega
  | w :: ws, i + 1, h => by
    have h1 := h w (by simp)
    have ih := v16_get (l := ws) i fun x hx => h x (by simp [hx])
    rw [List.getD_cons_succ, ih]
    simp only [v16, pv16]
    rw [← Int.ediv_ediv_of_nonneg (by decide), show (w + 65536 * v16 ws) / 65536 = v16 ws by omega]
theorem mod_mul' (N : Int) {a b : Int} (ha : 0 < a) (hb : 0 < b) : N % (a * b) = N % a + a * (N / a % b) := by
  have h1 := Int.mul_ediv_add_emod N a
  have h2 := Int.mul_ediv_add_emod (N / a) b
  have h3 := Int.emod_nonneg (N / a) (show b ≠ 0 by omega)
  have h4 := Int.emod_lt_of_pos (N / a) hb
  have h5 := Int.emod_nonneg N (show a ≠ 0 by omega)
  have h6 := Int.emod_lt_of_pos N ha
  generalize N / a % b = x at *
  generalize N / a / b = y at *
  generalize N % a = r at *
  have e : N = (r + a * x) + (a * b) * y := by rw [← h1, ← h2, Int.mul_add, ← Int.mul_assoc]; omega
  have hx : a * x ≤ a * (b - 1) := Int.mul_le_mul_of_nonneg_left (by omega) (by omega)
  rw [Int.mul_sub, Int.mul_one] at hx
  have hx0 : 0 ≤ a * x := Int.mul_nonneg (by omega) h3
  rw [e, Int.add_mul_emod_self_left]
  exact Int.emod_eq_of_lt (by omega) (by omega)
theorem w16_succ (k : Nat) (N : Int) : w16 (k + 1) N = w16 k N ++ [N / pv16 k % 65536] := by
  rw [w16, List.range_succ, List.map_append]; rfl
theorem w16_cons (k : Nat) (N : Int) : w16 (k + 1) N = N % 65536 :: w16 k (N / 65536) := by
  rw [w16, List.range_succ_eq_map, List.map_cons, List.map_map]
  congr 1
  · simp [pv16]
  · refine List.map_congr_left fun i _ => ?_
    simp only [Function.comp, pv16]
    rw [← Int.ediv_ediv_of_nonneg (by decide)]
theorem v16_w16 : ∀ (k : Nat) (N : Int), v16 (w16 k N) = N % pv16 k
  | 0, N => by simp [w16, v16, pv16]
  | k + 1, N => by
    rw [w16_cons, v16, v16_w16 k]
    simp only [pv16]
    rw [mod_mul' N (by decide) (pv16_pos k)]
end Cr
namespace Go.Proofs.YtbfimfdhmggieaaDoor.ref03
set_option maxRecDepth 100000
open Go Go.Eng Go.RowKit Cr Go.Proofs.YtbfimfdhmggieaaDoor
abbrev wsl : Kd := .sl (.int .u32)
theorem ent_word : enters Tryd.prog 104 Tryd.f104 := enters_mk (by kernel_rfl) (by kernel_rfl) (by kernel_rfl)
abbrev preWord : HL [wsl, .int .i64] → Prop := fun (_, i, _) => 0 ≤ (i : Int)
abbrev outWord : HL [wsl, .int .i64] → HO [.val (.int .u32)] := fun (a, i, _) => ((a : List Int).getD (i : Int).toNat 0, ())
theorem fn_word : FnOk Tryd.prog 104 [wsl, .int .i64] [.val (.int .u32)] noG preWord outWord := by
  refine fn_of_vc (sp := sps []) sps_nil mixed ent_word (by decide) (by decide) ?_
  rintro w M0 ⟨a, i, ⟨⟩⟩
  revert a i
  intro (a : List Int) (i : Int) _ hi
  have hi : 0 ≤ i := hi
  refine vcx (X := ((decide (i < (↑a.length : Int)) = true → ((0 : Int) ≤ i ∧ i < (↑a.length : Int)) ∧ i.toNat < a.length ∧ (a.getD i.toNat (0 : Int), ()) = outWord (a, i, ())) ∧ (decide (i < (↑a.length : Int)) = false → ((0 : Int), ()) = outWord (a, i, ())))) (by kernel_rfl) ?_
  refine ⟨fun h => ⟨⟨hi, of_decide_eq_true h⟩, by have := of_decide_eq_true h; omega, rfl⟩, fun h => ?_⟩
  have := of_decide_eq_false h
  show (0, ()) = (a.getD i.toNat 0, ())
  rw [List.getD_eq_getElem?_getD, List.getElem?_eq_none (by omega), Option.getD_none]
noncomputable def spWord : Nat × Eng.Spec := (104, fnSpec [wsl, .int .i64] [.val (.int .u32)] preWord outWord)
theorem wrap_u32 {a : Int} (h0 : 0 ≤ a) (h1 : a < 4294967296) : IntKind.u32.wrap a = a := by
  simp only [IntKind.wrap, IntKind.signed, IntKind.bits]
  simp
  omega
theorem and_u32 (n m : Nat) (h1 : n < 4294967296) (h2 : m < 4294967296) : bitOp .and .u32 (n : Int) (m : Int) = ((n &&& m : Nat) : Int) := by
  have e : ((BitVec.ofInt 32 (n : Int) &&& BitVec.ofInt 32 (m : Int) : BitVec 32).toNat) = n &&& m := by
    rw [BitVec.toNat_and, BitVec.toNat_ofInt, BitVec.toNat_ofInt]
    congr 1 <;> omega
  show IntKind.u32.wrap (((BitVec.ofInt 32 (n : Int) &&& BitVec.ofInt 32 (m : Int) : BitVec 32).toNat : Nat) : Int) = _
  rw [e]
  have := Nat.and_le_left (n := n) (m := m)
  exact wrap_u32 (by omega) (by omega)
theorem and16 {a : Int} (h0 : 0 ≤ a) (h1 : a < 4294967296) : bitOp .and .u32 a 65535 = a % 65536 := by
  obtain ⟨n, rfl⟩ := Int.eq_ofNat_of_zero_le h0
  have := and_u32 n 65535 (by omega) (by omega)
  rw [show ((65535 : Nat) : Int) = 65535 from rfl] at this
  rw [this]
  have h := Nat.and_two_pow_sub_one_eq_mod n 16
  rw [show 2 ^ 16 - 1 = 65535 from rfl] at h
  rw [h]
  omega
theorem shr16 (a : Int) : a.fdiv (2 ^ min (16 : Nat) IntKind.u32.bits) = a / 65536 := by
  rw [show (2 : Int) ^ min (16 : Nat) IntKind.u32.bits = 65536 from rfl, Int.fdiv_eq_ediv_of_nonneg _ (by decide)]
theorem dig_bd (A : Int) (k : Nat) : 0 ≤ A / pv16 k % 65536 ∧ A / pv16 k % 65536 < 65536 := ⟨by omega, by omega⟩
abbrev preW2 : HL [wsl, wsl] → Prop := fun (a, b, _) => W16 a ∧ W16 b ∧ List.length a ≤ 1000000 ∧ List.length b ≤ 1000000
end Go.Proofs.YtbfimfdhmggieaaDoor.ref03
/- ref03: Minus, Less. -/
namespace Cr
theorem sub_dig (A B : Int) (k : Nat) : (A - B) / pv16 k % 65536 = (A / pv16 k % 65536 - B / pv16 k % 65536 + (A % pv16 k - B % pv16 k) / pv16 k) % 65536 ∧ (A % pv16 (k + 1) - B % pv16 (k + 1)) / pv16 (k + 1) = (A / pv16 k % 65536 - B / pv16 k % 65536 + (A % pv16 k - B % pv16 k) / pv16 k) / 65536 := by
  have hp := pv16_pos k
  have e1 : pv16 (k + 1) = pv16 k * 65536 := Int.mul_comm _ _
  rw [e1, mod_mul' A hp (by decide), mod_mul' B hp (by decide)]
  generalize pv16 k = p at *
  have h1 := Int.mul_ediv_add_emod A p
  have h2 := Int.mul_ediv_add_emod B p
  generalize A / p = x at *
  generalize B / p = y at *
  generalize A % p = r at *
  generalize B % p = t at *
  have e2 : (A - B) / p = (r - t) / p + (x - y) := by
    rw [show A - B = (r - t) + p * (x - y) by rw [Int.mul_sub]; omega, Int.add_mul_ediv_left _ _ (by omega)]
  have e3 : (r + p * (x % 65536) - (t + p * (y % 65536))) / (p * 65536) = ((r - t) / p + (x % 65536 - y % 65536)) / 65536 := by
    rw [← Int.ediv_ediv_of_nonneg (by omega), show r + p * (x % 65536) - (t + p * (y % 65536)) = (r - t) + p * (x % 65536 - y % 65536) by rw [Int.mul_sub]; omega, Int.add_mul_ediv_left _ _ (by omega)]
  rw [e2, e3]
  omega
theorem borrow_bd (A B : Int) (k : Nat) : -1 ≤ (A % pv16 k - B % pv16 k) / pv16 k ∧ (A % pv16 k - B % pv16 k) / pv16 k ≤ 0 := by
  have hp := pv16_pos k
  generalize pv16 k = p at *
  have h1 := Int.emod_nonneg A (show p ≠ 0 by omega)
  have h2 := Int.emod_lt_of_pos A hp
  have h3 := Int.emod_nonneg B (show p ≠ 0 by omega)
  have h4 := Int.emod_lt_of_pos B hp
  have h5 : (A % p - B % p) / p < 1 := Int.ediv_lt_of_lt_mul hp (by omega)
  have h6 : -1 ≤ (A % p - B % p) / p := Int.le_ediv_of_mul_le hp (by omega)
  omega
theorem div_succ (A : Int) (k : Nat) : A / pv16 k = 65536 * (A / pv16 (k + 1)) + A / pv16 k % 65536 := by
  have hp := pv16_pos k
  have e : A / pv16 (k + 1) = A / pv16 k / 65536 := by
    rw [show pv16 (k + 1) = pv16 k * 65536 from Int.mul_comm _ _, ← Int.ediv_ediv_of_nonneg (by omega)]
  omega
theorem lt_of_div {A B p : Int} (hp : 0 < p) (h : A / p < B / p) : A < B := by
  refine Classical.byContradiction fun c => ?_
  have := Int.ediv_le_ediv hp (show B ≤ A by omega)
  omega
theorem pv16_mono {m n : Nat} (h : m ≤ n) : pv16 m ≤ pv16 n := by
  induction n with
  | zero => rw [Nat.le_zero.1 h]; exact Int.le_refl _
  | succ n ih =>
    by_cases c : m = n + 1
    · rw [c]; exact Int.le_refl _
    · have := ih (by omega)
      have := pv16_pos n
      simp only [pv16]; omega
theorem div_zero16 {l : List Int} (h : W16 l) {n : Nat} (hn : l.length ≤ n) : v16 l / pv16 n = 0 := Int.ediv_eq_zero_of_lt (v16_nn h) (Int.lt_of_lt_of_le (v16_lt h) (pv16_mono hn))
end Cr
namespace Go.Proofs.YtbfimfdhmggieaaDoor.ref03
set_option maxRecDepth 100000
open Go Go.Eng Go.RowKit Cr Go.Proofs.YtbfimfdhmggieaaDoor
theorem ent_minus : enters Tryd.prog 52 Tryd.f52 := enters_mk (by kernel_rfl) (by kernel_rfl) (by kernel_rfl)
def minusF (a b : List Int) : List Int := w16 a.length (v16 a - v16 b)
abbrev outMinus : HL [wsl, wsl] → HO [.own (.int .u32)] := fun (a, b, _) => (minusF a b, ())
noncomputable def miI (a b : List Int) (g : Int × Nat × List Int × Int) : St := mkSt Tryd.f52.ntmps 56 [(0, .is (.one (.ro (.int .u32) a))), (1, .is (.one (.ro (.int .u32) b))), (5, .is (.one (.sl 8 0 0 g.2.1 1))), (6, sI .u32 g.2.2.2), (11, sI .i64 a.length), (12, sI .i64 g.1)] [(8, [.ints .u32 g.2.1 g.2.2.1])]
def miJ (a b : List Int) (g : Int × Nat × List Int × Int) : Prop := g.2.1 ≤ a.length ∧ g.1 = (g.2.1 : Int) ∧ g.2.2.1 = w16 g.2.1 (v16 a - v16 b) ∧ g.2.2.2 = -((v16 a % pv16 g.2.1 - v16 b % pv16 g.2.1) / pv16 g.2.1)
theorem fn_minus : FnOk Tryd.prog 52 [wsl, wsl] [.own (.int .u32)] noG preW2 outMinus := by
  have hsp : SpecsOk Tryd.prog (sps [spWord]) := (sps_cons (fnSpec_ok fn_word) sps_nil)
  refine fn_of_tr (sp := sps [spWord]) ent_minus (by decide) (by decide) (by kernel_rfl) ?_
  rintro w M0 ⟨a, b, ⟨⟩⟩
  revert a b
  intro (a : List Int) (b : List Int) _ hp
  obtain ⟨ha, hb, hla, hlb⟩ := hp
  have hla : a.length ≤ 1000000 := hla
  have hlb : b.length ≤ 1000000 := hlb
  show Tr _ _ _ _ _ _ _
  refine tr_cut hsp mixed 4 (miI a b (0, 0, [], 0)) True ?_ (fun _ => ?_)
  · refine vcx (X := ((miI a b ((0 : Int), (0 : Nat), [], (0 : Int))).triv True)) (by kernel_rfl) ?_
    exact triv_intro trivial
  refine tr_while hsp mixed (fun σ => [(8, rdI 5 σ)]) (fun σ => (rdS (.int .i64) 12 σ, rdL 5 σ, rdR (.int .u32) 8 σ, rdS (.int .u32) 6 σ)) (miI a b) (miJ a b) (fun g => a.length - g.1.toNat)
    (fun σ => (rdS (.int .i64) 12 σ, rdL 5 σ, rdR (.int .u32) 8 σ, rdS (.int .u32) 6 σ)) (miI a b) (fun g => g.2.2.1 = minusF a b ∧ g.2.1 = a.length) (0, 0, [], 0) (c := nthC (codeOf Tryd.f52) 4) (by kernel_rfl) (by kernel_rfl) (le_of_proj (by kernel_rfl) (by kernel_rfl) ?_) ?_ ?_
  · exact ⟨Nat.zero_le _, rfl, rfl, by show (0 : Int) = -((v16 a % 1 - v16 b % 1) / 1); omega⟩
  · rintro ⟨i, k, l, c⟩ hj
    revert i l c
    intro (i : Int) (l : List Int) (c : Int) ⟨hk, ei, el, ec⟩
    have ei : i = (k : Int) := ei
    have kl : l = w16 k (v16 a - v16 b) := el
    have kc : c = -((v16 a % pv16 k - v16 b % pv16 k) / pv16 k) := ec
    have hk : k ≤ a.length := hk
    subst ei
    refine vcx (X := ((decide ((↑k : Int) < (↑a.length : Int)) = true → ((0 : Int) ≤ (↑k : Int) ∧ (↑k : Int) < (↑a.length : Int)) ∧ (↑k : Int).toNat < a.length ∧ preWord (b, (↑k : Int), ()) ∧ (0 : Nat) + (1 : Nat) ≤ (1 : Nat) ∧ k ≤ k ∧ (k + (1 : Nat)) * (4 : Nat) ≤ (140737488355328 : Nat) ∧ k + (1 : Nat) ≤ (4611686018427387904 : Nat) ∧ (0 : Int) ≤ (16 : Int) ∧ (miI a b (IntKind.i64.wrap ((↑k : Int) + (1 : Int)), k + (1 : Nat), List.take k l ++ List.take (1 : Nat) [bitOp BinOp.and IntKind.u32 (IntKind.u32.wrap (IntKind.u32.wrap (IntKind.u32.wrap (a.getD (↑k : Int).toNat (0 : Int) + (65536 : Int)) - b.getD (↑k : Int).toNat (0 : Int)) - c)) (65535 : Int)], IntKind.u32.wrap ((1 : Int) - (IntKind.u32.wrap (IntKind.u32.wrap (IntKind.u32.wrap (a.getD (↑k : Int).toNat (0 : Int) + (65536 : Int)) - b.getD (↑k : Int).toNat (0 : Int)) - c)).fdiv ((2 : Int) ^ min (16 : Nat) IntKind.u32.bits)))).triv (miJ a b (IntKind.i64.wrap ((↑k : Int) + (1 : Int)), k + (1 : Nat), List.take k l ++ List.take (1 : Nat) [bitOp BinOp.and IntKind.u32 (IntKind.u32.wrap (IntKind.u32.wrap (IntKind.u32.wrap (a.getD (↑k : Int).toNat (0 : Int) + (65536 : Int)) - b.getD (↑k : Int).toNat (0 : Int)) - c)) (65535 : Int)], IntKind.u32.wrap ((1 : Int) - (IntKind.u32.wrap (IntKind.u32.wrap (IntKind.u32.wrap (a.getD (↑k : Int).toNat (0 : Int) + (65536 : Int)) - b.getD (↑k : Int).toNat (0 : Int)) - c)).fdiv ((2 : Int) ^ min (16 : Nat) IntKind.u32.bits))) ∧ a.length - (IntKind.i64.wrap ((↑k : Int) + (1 : Int))).toNat < a.length - (↑k : Int).toNat)) ∧ (decide ((↑k : Int) < (↑a.length : Int)) = false → (miI a b ((↑k : Int), k, l, c)).triv (l = minusF a b ∧ k = a.length)))) (by kernel_rfl) ?_
    have hc := borrow_bd (v16 a) (v16 b) k
    have h1 := dig_bd (v16 a) k
    have h2 := dig_bd (v16 b) k
    obtain ⟨d1, d2⟩ := sub_dig (v16 a) (v16 b) k
    have kc2 : (v16 a % pv16 k - v16 b % pv16 k) / pv16 k = -c := by omega
    rw [kc2] at d1 d2 hc
    rw [Int.toNat_natCast, v16_get k ha, v16_get k hb]
    generalize v16 a / pv16 k % 65536 = x at *
    generalize v16 b / pv16 k % 65536 = y at *
    rw [wrap_u32 (a := x + 65536) (by omega) (by omega), wrap_u32 (a := x + 65536 - y) (by omega) (by omega), wrap_u32 (a := x + 65536 - y - c) (by omega) (by omega), and16 (by omega) (by omega), shr16, wrap_i64' (by omega) (by omega), wrap_u32 (a := 1 - (x + 65536 - y - c) / 65536) (by omega) (by omega)]
    have hll : l.length = k := by rw [kl, w16_len]
    refine ⟨fun h => ?_, fun h => triv_intro ?_⟩
    · have hlt : k < a.length := by have := of_decide_eq_true h; omega
      refine ⟨⟨by omega, by omega⟩, hlt, by show (0 : Int) ≤ k; omega, by decide, by omega, by omega, by omega, by decide, triv_intro ⟨⟨hlt, rfl, ?_, ?_⟩, by omega⟩⟩
      · show List.take k l ++ [(x + 65536 - y - c) % 65536] = w16 (k + 1) (v16 a - v16 b)
        rw [List.take_of_length_le (by omega), w16_succ, kl, d1]
        congr 2
        omega
      · show 1 - (x + 65536 - y - c) / 65536 = -((v16 a % pv16 (k + 1) - v16 b % pv16 (k + 1)) / pv16 (k + 1))
        rw [d2]; omega
    · have hk2 : k = a.length := by have := of_decide_eq_false h; omega
      exact ⟨by rw [kl, hk2]; rfl, hk2⟩
  rintro ⟨i, k, l, c⟩ hj
  revert i l c
  intro (i : Int) (l : List Int) (c : Int) ⟨h1, h2⟩
  refine tr_vc hsp mixed _ _ ?_
  refine vcx (X := ((0 : Nat) + k ≤ k ∧ (List.take k l, ()) = outMinus (a, b, ()))) (by kernel_rfl) ?_
  have h1 : l = minusF a b := h1
  have h2 : k = a.length := h2
  refine ⟨by omega, ?_⟩
  show _ = (minusF a b, ())
  rw [List.take_of_length_le (by rw [h1, minusF, w16_len]; omega), h1]
noncomputable def spMinus : Nat × Eng.Spec := (52, fnSpec [wsl, wsl] [.own (.int .u32)] preW2 outMinus)
theorem ent_less : enters Tryd.prog 51 Tryd.f51 := enters_mk (by kernel_rfl) (by kernel_rfl) (by kernel_rfl)
abbrev outLess : HL [wsl, wsl] → HO [.val .bool] := fun (a, b, _) => (decide (v16 a < v16 b), ())
noncomputable def leS0 (a b : List Int) (n : Int) : St := mkSt Tryd.f51.ntmps 64 [(0, .is (.one (.ro (.int .u32) a))), (1, .is (.one (.ro (.int .u32) b))), (5, sI .i64 n)] []
noncomputable def leI (a b : List Int) (g : Int) : St := mkSt Tryd.f51.ntmps 64 [(0, .is (.one (.ro (.int .u32) a))), (1, .is (.one (.ro (.int .u32) b))), (6, sI .i64 g)] []
def leJ (a b : List Int) (g : Int) : Prop := ∃ k : Nat, k ≤ 1000000 ∧ g = (k : Int) - 1 ∧ v16 a / pv16 k = v16 b / pv16 k
theorem fn_less : FnOk Tryd.prog 51 [wsl, wsl] [.val .bool] noG preW2 outLess := by
  have hsp : SpecsOk Tryd.prog (sps [spWord]) := (sps_cons (fnSpec_ok fn_word) sps_nil)
  refine fn_of_tr (sp := sps [spWord]) ent_less (by decide) (by decide) (by kernel_rfl) ?_
  rintro w M0 ⟨a, b, ⟨⟩⟩
  revert a b
  intro (a : List Int) (b : List Int) _ hp
  show Tr _ _ _ _ _ _ _
  obtain ⟨ha, hb, hla, hlb⟩ := hp
  have hla : a.length ≤ 1000000 := hla
  have hlb : b.length ≤ 1000000 := hlb
  refine tr_cutF hsp mixed 4 (fun σ => rdS (.int .i64) 5 σ) (leS0 a b) (fun n => n = ((max a.length b.length : Nat) : Int)) ?_ ?_
  · refine vcx (X := ((decide ((↑b.length : Int) > (↑a.length : Int)) = true → (leS0 a b (↑b.length : Int)).triv ((↑b.length : Int) = (↑(max a.length b.length) : Int))) ∧ (decide ((↑b.length : Int) > (↑a.length : Int)) = false → (leS0 a b (↑a.length : Int)).triv ((↑a.length : Int) = (↑(max a.length b.length) : Int))))) (by kernel_rfl) ?_
    refine ⟨fun h => triv_intro ?_, fun h => triv_intro ?_⟩
    · have := of_decide_eq_true h; show (b.length : Int) = _; omega
    · have := of_decide_eq_false h; show (a.length : Int) = _; omega
  intro (n : Int) (hn : n = ((max a.length b.length : Nat) : Int))
  rw [hn]
  refine tr_cut hsp mixed 1 (leI a b (IntKind.i64.wrap (((max a.length b.length : Nat) : Int) - 1))) True ?_ (fun _ => ?_)
  · refine vcx (X := ((leI a b (IntKind.i64.wrap ((↑(max a.length b.length) : Int) - (1 : Int)))).triv True)) (by kernel_rfl) ?_
    exact triv_intro trivial
  refine tr_while hsp mixed noSw (fun σ => rdS (.int .i64) 6 σ) (leI a b) (leJ a b) (fun g => (g + 1).toNat)
    (fun _ => ()) (fun _ => mkSt Tryd.f51.ntmps 64 [] []) (fun _ => v16 a = v16 b) (IntKind.i64.wrap (((max a.length b.length : Nat) : Int) - 1)) (c := nthC (codeOf Tryd.f51) 5) (by kernel_rfl) (by kernel_rfl) (le_of_proj (by kernel_rfl) (by kernel_rfl) ?_) ?_ ?_
  · refine ⟨max a.length b.length, by omega, ?_, ?_⟩
    · rw [wrap_i64' (by omega) (by omega)]
    · rw [div_zero16 ha (by omega), div_zero16 hb (by omega)]
  · intro (i : Int) ⟨k, hk, ei, he⟩
    subst ei
    refine vcx (X := ((decide ((↑k : Int) - (1 : Int) ≥ (0 : Int)) = true → preWord (a, (↑k : Int) - (1 : Int), ()) ∧ preWord (b, (↑k : Int) - (1 : Int), ()) ∧ ((a.getD ((↑k : Int) - (1 : Int)).toNat (0 : Int) != b.getD ((↑k : Int) - (1 : Int)).toNat (0 : Int)) = true → preWord (a, (↑k : Int) - (1 : Int), ()) ∧ preWord (b, (↑k : Int) - (1 : Int), ()) ∧ (decide (a.getD ((↑k : Int) - (1 : Int)).toNat (0 : Int) < b.getD ((↑k : Int) - (1 : Int)).toNat (0 : Int)), ()) = outLess (a, b, ())) ∧ ((a.getD ((↑k : Int) - (1 : Int)).toNat (0 : Int) != b.getD ((↑k : Int) - (1 : Int)).toNat (0 : Int)) = false → (leI a b (IntKind.i64.wrap ((↑k : Int) - (1 : Int) - (1 : Int)))).triv (leJ a b (IntKind.i64.wrap ((↑k : Int) - (1 : Int) - (1 : Int))) ∧ Int.toNat (IntKind.i64.wrap ((↑k : Int) - (1 : Int) - (1 : Int)) + (1 : Car (Kd.int IntKind.i64))) < Int.toNat ((↑k : Int) - (1 : Int) + (1 : Car (Kd.int IntKind.i64)))))) ∧ (decide ((↑k : Int) - (1 : Int) ≥ (0 : Int)) = false → (mkSt Tryd.f51.ntmps (64 : Nat) [] []).triv (v16 a = v16 b)))) (by kernel_rfl) ?_
    refine ⟨fun h => ?_, fun h => triv_intro ?_⟩
    · obtain ⟨j, rfl⟩ : ∃ j, k = j + 1 := ⟨k - 1, by have := of_decide_eq_true h; omega⟩
      have e1 : ((j + 1 : Nat) : Int) - 1 = (j : Int) := by omega
      rw [e1, Int.toNat_natCast, v16_get j ha, v16_get j hb]
      have hA := div_succ (v16 a) j
      have hB := div_succ (v16 b) j
      have hp := pv16_pos j
      rw [wrap_i64' (by omega) (by omega)]
      have pw : ∀ l : List Int, preWord (l, (j : Int), ()) := fun l => by show (0 : Int) ≤ j; omega
      refine ⟨pw a, pw b, fun h2 => ⟨pw a, pw b, ?_⟩, fun h2 => triv_intro ⟨⟨j, by omega, rfl, ?_⟩, by omega⟩⟩
      · have h2 := bne_iff_ne.1 h2
        show _ = (decide (v16 a < v16 b), ())
        by_cases hlt : v16 a / pv16 j % 65536 < v16 b / pv16 j % 65536
        · rw [decide_eq_true hlt, decide_eq_true (lt_of_div hp (by omega))]
        · rw [decide_eq_false hlt, decide_eq_false (fun c => by have := lt_of_div (A := v16 b) (B := v16 a) hp (by omega); omega)]
      · have h2 : v16 a / pv16 j % 65536 = v16 b / pv16 j % 65536 := by simpa using h2
        omega
    · have hk0 : k = 0 := by have := of_decide_eq_false h; omega
      subst hk0
      have he : v16 a / 1 = v16 b / 1 := he
      show v16 a = v16 b
      omega
  rintro ⟨⟩ (he : v16 a = v16 b)
  refine tr_vc hsp mixed _ _ ?_
  refine vcx (X := ((false, ()) = outLess (a, b, ()))) (by kernel_rfl) ?_
  show _ = (decide (v16 a < v16 b), ())
  rw [decide_eq_false (by omega)]
noncomputable def spLess : Nat × Eng.Spec := (51, fnSpec [wsl, wsl] [.val .bool] preW2 outLess)
end Go.Proofs.YtbfimfdhmggieaaDoor.ref03
/- ref03: Bytes. -/
namespace Go.Proofs.YtbfimfdhmggieaaDoor.ref03
set_option maxRecDepth 100000
open Go Go.Eng Go.RowKit Cr Go.Proofs.YtbfimfdhmggieaaDoor
theorem ent_bytes : enters Tryd.prog 18 Tryd.f18 := enters_mk (by kernel_rfl) (by kernel_rfl) (by kernel_rfl)
abbrev preBytes : HL [wsl, .int .i64] → Prop := fun (a, n, _) => (W16 a ∧ List.length a ≤ 1000000) ∧ 0 ≤ (n : Int) ∧ (n : Int) ≤ 1000000
abbrev outBytes : HL [wsl, .int .i64] → HO [.own (.int .u8)] := fun (a, n, _) => (bytesN (n : Int).toNat (v16 a), ())
def byK (n : Nat) (V : Int) (i : Nat) : List Int := (List.range n).map fun j => if n - 1 - j < i then V / p256 (n - 1 - j) % 256 else 0
theorem byK_zero (n : Nat) (V : Int) : List.replicate ((n : Nat) : Int).toNat 0 = byK n V 0 := by
  rw [Int.toNat_natCast]
  symm
  refine List.eq_replicate_iff.2 ⟨by simp [byK], fun x hx => ?_⟩
  simp only [byK, List.mem_map] at hx
  obtain ⟨j, _, rfl⟩ := hx
  rw [if_neg (by omega)]
theorem byK_all (n : Nat) (V : Int) : byK n V n = bytesN n V := by
  refine List.map_congr_left fun j hj => ?_
  have := List.mem_range.1 hj
  rw [if_pos (by omega)]
theorem byK_step {n : Nat} {V : Int} {i : Nat} (h : i < n) : (byK n V i).set (n - 1 - i) (V / p256 i % 256) = byK n V (i + 1) := by
  refine List.ext_getElem (by simp [byK]) fun j h1 h2 => ?_
  have hj : j < n := by simpa [byK] using h2
  rw [List.getElem_set]
  simp only [byK, List.getElem_map, List.getElem_range]
  by_cases c : n - 1 - i = j
  · rw [if_pos c, if_pos (by omega), show n - 1 - j = i by omega]
  · rw [if_neg c]
    by_cases d : n - 1 - j < i
    · rw [if_pos d, if_pos (by omega)]
    · rw [if_neg d, if_neg (by omega)]
theorem pv16_256 : ∀ j, pv16 j = p256 (2 * j)
  | 0 => rfl
  | j + 1 => by
    rw [show 2 * (j + 1) = 2 * j + 1 + 1 by omega]
    simp only [pv16, p256, pv16_256 j]; omega
theorem wrap_u8 (x : Int) : IntKind.u8.wrap x = x % 256 := by simp [IntKind.wrap, IntKind.signed, IntKind.bits]
theorem byte_of (V : Int) (k : Nat) : IntKind.u8.wrap ((V / pv16 (k / 2) % 65536).fdiv (2 ^ min (8 * (k % 2)) IntKind.u32.bits)) = V / p256 k % 256 := by
  rw [wrap_u8, pv16_256]
  have hp := p256_pos (2 * (k / 2))
  rcases Nat.mod_two_eq_zero_or_one k with h | h
  · rw [h, show (2 : Int) ^ min (8 * 0) IntKind.u32.bits = 1 from rfl, Int.fdiv_eq_ediv_of_nonneg _ (by decide), show 2 * (k / 2) = k by omega]
    omega
  · rw [h, show (2 : Int) ^ min (8 * 1) IntKind.u32.bits = 256 from rfl, Int.fdiv_eq_ediv_of_nonneg _ (by decide)]
    have e : V / p256 k = V / p256 (2 * (k / 2)) / 256 := by
      conv => lhs; rw [show k = 2 * (k / 2) + 1 by omega]
      rw [show p256 (2 * (k / 2) + 1) = p256 (2 * (k / 2)) * 256 from Int.mul_comm _ _, Int.ediv_ediv_of_nonneg (by omega)]
    rw [e]
    omega
theorem p256_mono {m n : Nat} (h : m ≤ n) : p256 m ≤ p256 n := by
  induction n with
  | zero => rw [Nat.le_zero.1 h]; exact Int.le_refl _
  | succ n ih =>
    by_cases c : m = n + 1
    · rw [c]; exact Int.le_refl _
    · have := ih (by omega)
      have := p256_pos n
      simp only [p256]; omega
noncomputable def byI (a : List Int) (N : Nat) (g : Int × List Int) : St := mkSt Tryd.f18.ntmps 40 [(0, .is (.one (.ro (.int .u32) a))), (1, sI .i64 N), (5, .is (.one (.sl 16 0 0 (N : Int).toNat 1))), (6, sI .i64 g.1)] [(16, [.ints .u8 (N : Int).toNat g.2])]
def byJ (a : List Int) (N : Nat) (g : Int × List Int) : Prop := ∃ k : Nat, k ≤ N ∧ g.1 = (k : Int) ∧ g.2 = byK N (v16 a) k
theorem fn_bytes : FnOk Tryd.prog 18 [wsl, .int .i64] [.own (.int .u8)] noG preBytes outBytes := by
  have hsp : SpecsOk Tryd.prog (sps []) := sps_nil
  refine fn_of_tr (sp := sps []) ent_bytes (by decide) (by decide) (by kernel_rfl) ?_
  rintro w M0 ⟨a, n, ⟨⟩⟩
  revert a n
  intro (a : List Int) (n : Int) _ hp
  obtain ⟨⟨ha, hl⟩, h0, h1⟩ := hp
  have hl : a.length ≤ 1000000 := hl
  have h0 : 0 ≤ n := h0
  have h1 : n ≤ 1000000 := h1
  show Tr _ _ _ _ _ _ _
  obtain ⟨N, rfl⟩ := Int.eq_ofNat_of_zero_le h0
  refine tr_cut hsp mixed 3 (byI a N (0, List.replicate ((N : Nat) : Int).toNat 0)) True ?_ (fun _ => ?_)
  · refine vcx (X := (((0 : Int) ≤ (↑N : Int) ∧ (↑N : Int) ≤ (↑N : Int) ∧ (↑(1 : Nat) : Int) * (↑N : Int) ≤ (281474976710656 : Int) ∧ (↑N : Int) ≤ (9223372036854775807 : Int)) ∧ (byI a N ((0 : Int), List.replicate (↑N : Int).toNat (0 : Int))).triv True)) (by kernel_rfl) ?_
    exact ⟨⟨by omega, by omega, by omega, by omega⟩, triv_intro trivial⟩
  refine tr_while hsp mixed noSw (fun σ => (rdS (.int .i64) 6 σ, rdR (.int .u8) 16 σ)) (byI a N) (byJ a N) (fun g => N - g.1.toNat)
    (fun σ => (rdS (.int .i64) 6 σ, rdR (.int .u8) 16 σ)) (byI a N) (fun g => g.2 = bytesN N (v16 a)) (0, List.replicate ((N : Nat) : Int).toNat 0) (c := nthC (codeOf Tryd.f18) 3) (by kernel_rfl) (by kernel_rfl) (le_of_proj (by kernel_rfl) (by kernel_rfl) ?_) ?_ ?_
  · exact ⟨0, Nat.zero_le _, rfl, byK_zero N (v16 a)⟩
  · rintro ⟨i, l⟩ hj
    revert i l
    intro (i : Int) (l : List Int) ⟨k, hk, ei, el⟩
    have ei : i = (k : Int) := ei
    have kl : l = byK N (v16 a) k := el
    subst ei
    refine vcx (X := ((decide ((↑k : Int) < (↑N : Int)) = true → ((2 : Int) = (0 : Int) → False) ∧ (decide (IntKind.i64.wrap ((↑k : Int).tdiv (2 : Int)) < (↑a.length : Int)) = true → ((2 : Int) = (0 : Int) → False) ∧ ((0 : Int) ≤ IntKind.i64.wrap ((↑k : Int).tdiv (2 : Int)) ∧ IntKind.i64.wrap ((↑k : Int).tdiv (2 : Int)) < (↑a.length : Int)) ∧ (IntKind.i64.wrap ((↑k : Int).tdiv (2 : Int))).toNat < a.length ∧ ((2 : Int) = (0 : Int) → False) ∧ (0 : Int) ≤ IntKind.u64.wrap (IntKind.i64.wrap ((8 : Int) * (↑k : Int).tmod (2 : Int))) ∧ ((0 : Int) ≤ IntKind.i64.wrap (IntKind.i64.wrap ((↑N : Int) - (1 : Int)) - (↑k : Int)) ∧ IntKind.i64.wrap (IntKind.i64.wrap ((↑N : Int) - (1 : Int)) - (↑k : Int)) < (↑(↑N : Int).toNat : Int)) ∧ (IntKind.i64.wrap (IntKind.i64.wrap ((↑N : Int) - (1 : Int)) - (↑k : Int))).toNat < (↑N : Int).toNat ∧ (byI a N (IntKind.i64.wrap ((↑k : Int) + (1 : Int)), l.set (IntKind.i64.wrap (IntKind.i64.wrap ((↑N : Int) - (1 : Int)) - (↑k : Int))).toNat (IntKind.u8.wrap ((a.getD (IntKind.i64.wrap ((↑k : Int).tdiv (2 : Int))).toNat (0 : Int)).fdiv ((2 : Int) ^ min (IntKind.u64.wrap (IntKind.i64.wrap ((8 : Int) * (↑k : Int).tmod (2 : Int)))).toNat IntKind.u32.bits))))).triv (byJ a N (IntKind.i64.wrap ((↑k : Int) + (1 : Int)), l.set (IntKind.i64.wrap (IntKind.i64.wrap ((↑N : Int) - (1 : Int)) - (↑k : Int))).toNat (IntKind.u8.wrap ((a.getD (IntKind.i64.wrap ((↑k : Int).tdiv (2 : Int))).toNat (0 : Int)).fdiv ((2 : Int) ^ min (IntKind.u64.wrap (IntKind.i64.wrap ((8 : Int) * (↑k : Int).tmod (2 : Int)))).toNat IntKind.u32.bits)))) ∧ N - (IntKind.i64.wrap ((↑k : Int) + (1 : Int))).toNat < N - (↑k : Int).toNat)) ∧ (decide (IntKind.i64.wrap ((↑k : Int).tdiv (2 : Int)) < (↑a.length : Int)) = false → (byI a N (IntKind.i64.wrap ((↑k : Int) + (1 : Int)), l)).triv (byJ a N (IntKind.i64.wrap ((↑k : Int) + (1 : Int)), l) ∧ N - (IntKind.i64.wrap ((↑k : Int) + (1 : Int))).toNat < N - (↑k : Int).toNat))) ∧ (decide ((↑k : Int) < (↑N : Int)) = false → (byI a N ((↑k : Int), l)).triv (l = bytesN N (v16 a))))) (by kernel_rfl) ?_
    have e1 : IntKind.i64.wrap ((k : Int).tdiv 2) = ((k / 2 : Nat) : Int) := by
      have : (k : Int).tdiv 2 = ((k / 2 : Nat) : Int) := rfl
      rw [this, wrap_i64' (by omega) (by omega)]
    have e2 : IntKind.u64.wrap (IntKind.i64.wrap (8 * (k : Int).tmod 2)) = ((8 * (k % 2) : Nat) : Int) := by
      have : (k : Int).tmod 2 = ((k % 2 : Nat) : Int) := rfl
      rw [this, wrap_i64' (by omega) (by omega), wrap_u64 (by omega) (by omega)]; omega
    have e3 : k < N → IntKind.i64.wrap (IntKind.i64.wrap ((N : Int) - 1) - (k : Int)) = ((N - 1 - k : Nat) : Int) := fun h => by
      rw [wrap_i64' (a := (N : Int) - 1) (by omega) (by omega), wrap_i64' (by omega) (by omega)]; omega
    rw [wrap_succ (by omega), e1, e2, Int.toNat_natCast, Int.toNat_natCast, Int.toNat_natCast, v16_get _ ha, byte_of]
    refine ⟨fun h => ?_, fun h => triv_intro ?_⟩
    · have hlt : k < N := by have := of_decide_eq_true h; omega
      rw [e3 hlt, Int.toNat_natCast]
      have hmu : N - ((k + 1 : Nat) : Int).toNat < N - (k : Int).toNat := by rw [Int.toNat_natCast, Int.toNat_natCast]; omega
      refine ⟨by decide, fun h2 => ⟨by decide, ⟨by omega, of_decide_eq_true h2⟩, by have := of_decide_eq_true h2; omega, by decide, by omega, ⟨by omega, by omega⟩, by omega, triv_intro ⟨⟨k + 1, hlt, rfl, ?_⟩, hmu⟩⟩, fun h2 => triv_intro ⟨⟨k + 1, hlt, rfl, ?_⟩, hmu⟩⟩
      · show l.set (N - 1 - k) _ = _
        rw [kl, byK_step hlt]
      · show l = _
        have hz : v16 a / p256 k = 0 := by
          refine Int.ediv_eq_zero_of_lt (v16_nn ha) (Int.lt_of_lt_of_le (v16_lt ha) ?_)
          rw [pv16_256]
          exact p256_mono (by have := of_decide_eq_false h2; omega)
        rw [← byK_step hlt, hz, kl]
        symm
        refine List.ext_getElem (by simp) fun j h1 h2 => ?_
        rw [List.getElem_set]
        by_cases c : N - 1 - k = j
        · rw [if_pos c]
          simp only [byK, List.getElem_map, List.getElem_range]
          rw [if_neg (by omega)]; rfl
        · rw [if_neg c]
    · have hk2 : k = N := by have := of_decide_eq_false h; omega
      show l = bytesN N (v16 a)
      rw [kl, hk2, byK_all]
  rintro ⟨i, l⟩ hj
  revert i l
  intro (i : Int) (l : List Int) (h2 : l = bytesN N (v16 a))
  refine tr_vc hsp mixed _ _ ?_
  refine vcx (X := ((0 : Nat) + (↑N : Int).toNat ≤ (↑N : Int).toNat ∧ (List.take (↑N : Int).toNat l, ()) = outBytes (a, (↑N : Int), ()))) (by kernel_rfl) ?_
  refine ⟨by omega, ?_⟩
  show _ = (bytesN ((N : Nat) : Int).toNat (v16 a), ())
  rw [Int.toNat_natCast, List.take_of_length_le (by rw [h2, bytesN_length]; exact Nat.le_refl _), h2]
end Go.Proofs.YtbfimfdhmggieaaDoor.ref03
/- ref03: Number. -/
namespace Cr
theorem bytes_num2 : ∀ (n : Nat) (l : List Int), l.length = n → Bs l → ∀ i, i < n → l.getD (n - 1 - i) 0 = num l / p256 i % 256 := by
  intro n
  induction n with
  | zero => intro l _ _ i h; exact absurd h (Nat.not_lt_zero _)
  | succ n ih =>
    intro l h hb i hi
    have hne : l ≠ [] := by intro c; rw [c] at h; simp at h
    have e := List.dropLast_concat_getLast hne
    have hlast := hb _ (List.getLast_mem hne)
    have hd : Bs l.dropLast := fun x hx => hb x (List.dropLast_subset l hx)
    have hl : l.dropLast.length = n := by rw [List.length_dropLast]; omega
    have hn : num l = num l.dropLast * 256 + l.getLast hne := by rw [← num_snoc, e]
    cases i with
    | zero =>
      have : l.getD n 0 = l.getLast hne := by
        conv => lhs; rw [← e]
        rw [List.getD_eq_getElem?_getD, List.getElem?_append_right (by omega), hl, Nat.sub_self]; rfl
      rw [show n + 1 - 1 - 0 = n by omega, this, hn]
      simp only [p256]; omega
    | succ i =>
      have h2 := ih l.dropLast hl hd i (by omega)
      have : l.getD (n + 1 - 1 - (i + 1)) 0 = l.dropLast.getD (n - 1 - i) 0 := by
        conv => lhs; rw [← e]
        rw [show n + 1 - 1 - (i + 1) = n - 1 - i by omega, List.getD_eq_getElem?_getD, List.getElem?_append_left (by omega), ← List.getD_eq_getElem?_getD]
      rw [this, h2, hn]
      simp only [p256]
      rw [← Int.ediv_ediv_of_nonneg (by decide), show (num l.dropLast * 256 + l.getLast hne) / 256 = num l.dropLast by omega]
theorem num_dig {b : List Int} (hb : Bs b) {i : Nat} (h : i < b.length) : b.getD (b.length - 1 - i) 0 = num b / p256 i % 256 := by
  exact bytes_num2 b.length b rfl hb i h
end Cr
namespace Go.Proofs.YtbfimfdhmggieaaDoor.ref03
set_option maxRecDepth 100000
open Go Go.Eng Go.RowKit Cr Go.Proofs.YtbfimfdhmggieaaDoor
theorem ent_number : enters Tryd.prog 20 Tryd.f20 := enters_mk (by kernel_rfl) (by kernel_rfl) (by kernel_rfl)
def numbF (b : List Int) : List Int := w16 ((b.length + 1) / 2) (num b)
abbrev preNumb : HL [.sl (.int .u8)] → Prop := fun (b, _) => Bs b ∧ List.length b ≤ 1000000
abbrev outNumb : HL [.sl (.int .u8)] → HO [.own (.int .u32)] := fun (b, _) => (numbF b, ())
theorem or_u32 (n m : Nat) (h1 : n < 256) (h2 : m < 256) (e : Nat) (he : e = 0 ∨ e = 1) (h0 : e = 0 → n = 0) : bitOp .or .u32 (n : Int) (IntKind.u32.wrap (IntKind.u32.wrap (m : Int) * 2 ^ min (8 * e) IntKind.u32.bits)) = (n : Int) + 256 ^ e * (m : Int) := by
  rw [wrap_u32 (a := (m : Int)) (by omega) (by omega)]
  have key : ∀ x : Nat, x < 4294967296 → bitOp .or .u32 (n : Int) (x : Int) = ((n ||| x : Nat) : Int) := by
    intro x hx
    have hlt : n ||| x < 2 ^ 32 := Nat.or_lt_two_pow (by omega) (by omega)
    have e : ((BitVec.ofInt 32 (n : Int) ||| BitVec.ofInt 32 (x : Int) : BitVec 32).toNat) = n ||| x := by
      rw [BitVec.toNat_or, BitVec.toNat_ofInt, BitVec.toNat_ofInt]
      congr 1 <;> omega
    show IntKind.u32.wrap (((BitVec.ofInt 32 (n : Int) ||| BitVec.ofInt 32 (x : Int) : BitVec 32).toNat : Nat) : Int) = _
    rw [e]
    exact wrap_u32 (by omega) (by omega)
  rcases he with rfl | rfl
  · rw [show (2 : Int) ^ min (8 * 0) IntKind.u32.bits = 1 from rfl, Int.mul_one, wrap_u32 (by omega) (by omega), key m (by omega), h0 rfl]
    simp
  · rw [show (2 : Int) ^ min (8 * 1) IntKind.u32.bits = 256 from rfl, wrap_u32 (by omega) (by omega)]
    have := key (m * 256) (by omega)
    rw [Int.natCast_mul] at this
    rw [show (m : Int) * 256 = (m : Int) * ((256 : Nat) : Int) from rfl, this]
    have h3 := Nat.two_pow_add_eq_or_of_lt (i := 8) (b := n) (by omega) m
    rw [Nat.or_comm, show m * 256 = 2 ^ 8 * m by omega, ← h3]
    simp
    omega
theorem num_step {V : Int} {m k : Nat} (hm : k / 2 < m) : (w16 m (V % p256 k)).set (k / 2) (bitOp .or .u32 ((w16 m (V % p256 k)).getD (k / 2) 0) (IntKind.u32.wrap (IntKind.u32.wrap (V / p256 k % 256) * 2 ^ min (8 * (k % 2)) IntKind.u32.bits))) = w16 m (V % p256 (k + 1)) := by
  have hp := p256_pos k
  have eR : V % p256 (k + 1) = V % p256 k + p256 k * (V / p256 k % 256) := by
    rw [show p256 (k + 1) = p256 k * 256 from Int.mul_comm _ _, mod_mul' V hp (by decide)]
  have hR0 := Int.emod_nonneg V (show p256 k ≠ 0 by omega)
  have hR1 := Int.emod_lt_of_pos V hp
  have hd0 : 0 ≤ V / p256 k % 256 := by omega
  have hd1 : V / p256 k % 256 < 256 := by omega
  have hR2 : V % p256 (k + 1) < p256 (k + 1) := Int.emod_lt_of_pos V (p256_pos _)
  have hR3 : 0 ≤ V % p256 (k + 1) := Int.emod_nonneg V (by have := p256_pos (k + 1); omega)
  have hg : (w16 m (V % p256 k)).getD (k / 2) 0 = V % p256 k / pv16 (k / 2) % 65536 := by
    rw [w16, List.getD_eq_getElem?_getD, List.getElem?_map, List.getElem?_range hm]; rfl
  rw [hg]
  generalize V / p256 k % 256 = d at *
  generalize V % p256 k = R at *
  generalize V % p256 (k + 1) = R' at *
  subst eR
  refine List.ext_getElem (by simp [w16]) fun j h1 h2 => ?_
  have hj : j < m := by simpa [w16] using h2
  rw [List.getElem_set]
  simp only [w16, List.getElem_map, List.getElem_range]
  have hpj := pv16_pos j
  by_cases c : k / 2 = j
  · rw [if_pos c, c]
    rcases Nat.mod_two_eq_zero_or_one k with h | h
    · have e : p256 k = pv16 j := by rw [pv16_256]; congr 1; omega
      have z : R / pv16 j = 0 := Int.ediv_eq_zero_of_lt hR0 (by omega)
      obtain ⟨dn, rfl⟩ := Int.eq_ofNat_of_zero_le hd0
      have := or_u32 0 dn (by decide) (by omega) 0 (.inl rfl) (fun _ => rfl)
      rw [z, h, e, Int.add_mul_ediv_left _ _ (by omega), z]
      rw [show (0 : Int) % 65536 = ((0 : Nat) : Int) from rfl, this]
      simp
      omega
    · have e : p256 k = pv16 j * 256 := by
        rw [pv16_256, show k = 2 * j + 1 by omega]; exact Int.mul_comm _ _
      have z0 : 0 ≤ R / pv16 j := Int.ediv_nonneg hR0 (by omega)
      have z1 : R / pv16 j < 256 := Int.ediv_lt_of_lt_mul hpj (by rw [Int.mul_comm]; omega)
      obtain ⟨dn, rfl⟩ := Int.eq_ofNat_of_zero_le hd0
      rw [e, Int.mul_assoc, Int.add_mul_ediv_left _ _ (by omega)]
      generalize R / pv16 j = x at *
      obtain ⟨xn, rfl⟩ := Int.eq_ofNat_of_zero_le z0
      have := or_u32 xn dn (by omega) (by omega) 1 (.inr rfl) (fun c => by cases c)
      rw [h, show (xn : Int) % 65536 = (xn : Int) by omega, this]
      omega
  · rw [if_neg c]
    by_cases c2 : j < k / 2
    · have e : p256 k = pv16 j * (65536 * p256 (k - 2 * (j + 1))) := by
        rw [pv16_256]
        have : p256 k = p256 (2 * j) * p256 (2 + (k - 2 * (j + 1))) := by rw [← p256_add]; congr 1; omega
        rw [this, p256_add 2]; rfl
      rw [e, Int.mul_assoc, Int.add_mul_ediv_left _ _ (by omega), Int.mul_assoc]
      omega
    · have hle : p256 (k + 1) ≤ pv16 j := by rw [pv16_256]; exact p256_mono (by omega)
      have hle2 : p256 k ≤ p256 (k + 1) := p256_mono (by omega)
      rw [Int.ediv_eq_zero_of_lt hR0 (by omega), Int.ediv_eq_zero_of_lt hR3 (by omega)]
noncomputable def nbS (b : List Int) (g : Nat × List Int) : St := mkSt Tryd.f20.ntmps 64 [(0, .is (.one (.ro (.int .u8) b))), (3, .is (.one (.sl 40 0 0 g.1 1))), (4, sI .i64 0)] [(40, [.ints .u32 g.1 g.2])]
noncomputable def nbI (b : List Int) (m : Nat) (g : Int × List Int) : St := mkSt Tryd.f20.ntmps 64 [(0, .is (.one (.ro (.int .u8) b))), (3, .is (.one (.sl 40 0 0 m 1))), (4, sI .i64 g.1)] [(40, [.ints .u32 m g.2])]
theorem fn_number : FnOk Tryd.prog 20 [.sl (.int .u8)] [.own (.int .u32)] noG preNumb outNumb := by
  have hsp : SpecsOk Tryd.prog (sps []) := sps_nil
  refine fn_of_tr (sp := sps []) ent_number (by decide) (by decide) (by kernel_rfl) ?_
  rintro w M0 ⟨b, ⟨⟩⟩
  revert b
  intro (b : List Int) _ hp
  obtain ⟨hb, hl⟩ := hp
  have hl : b.length ≤ 1000000 := hl
  show Tr _ _ _ _ _ _ _
  refine tr_cutF hsp mixed 3 (fun σ => (rdL 3 σ, rdR (.int .u32) 40 σ)) (nbS b) (fun g => g.1 = (b.length + 1) / 2 ∧ g.2 = List.replicate ((b.length + 1) / 2) 0) ?_ ?_
  · refine vcx (X := (((2 : Int) = (0 : Int) → False) ∧ ((0 : Int) ≤ IntKind.i64.wrap ((IntKind.i64.wrap ((↑b.length : Int) + (1 : Int))).tdiv (2 : Int)) ∧ IntKind.i64.wrap ((IntKind.i64.wrap ((↑b.length : Int) + (1 : Int))).tdiv (2 : Int)) ≤ IntKind.i64.wrap ((IntKind.i64.wrap ((↑b.length : Int) + (1 : Int))).tdiv (2 : Int)) ∧ (↑(4 : Nat) : Int) * IntKind.i64.wrap ((IntKind.i64.wrap ((↑b.length : Int) + (1 : Int))).tdiv (2 : Int)) ≤ (281474976710656 : Int) ∧ IntKind.i64.wrap ((IntKind.i64.wrap ((↑b.length : Int) + (1 : Int))).tdiv (2 : Int)) ≤ (9223372036854775807 : Int)) ∧ (nbS b ((IntKind.i64.wrap ((IntKind.i64.wrap ((↑b.length : Int) + (1 : Int))).tdiv (2 : Int))).toNat, List.replicate (IntKind.i64.wrap ((IntKind.i64.wrap ((↑b.length : Int) + (1 : Int))).tdiv (2 : Int))).toNat (0 : Int))).triv ((IntKind.i64.wrap ((IntKind.i64.wrap ((↑b.length : Int) + (1 : Int))).tdiv (2 : Int))).toNat = (b.length + (1 : Nat)) / (2 : Nat) ∧ List.replicate (IntKind.i64.wrap ((IntKind.i64.wrap ((↑b.length : Int) + (1 : Int))).tdiv (2 : Int))).toNat (0 : Int) = List.replicate ((b.length + (1 : Nat)) / (2 : Nat)) (0 : Car (Kd.int IntKind.u32))))) (by kernel_rfl) ?_
    have e1 : IntKind.i64.wrap ((IntKind.i64.wrap ((b.length : Int) + 1)).tdiv 2) = (((b.length + 1) / 2 : Nat) : Int) := by
      rw [wrap_i64' (a := (b.length : Int) + 1) (by omega) (by omega)]
      have : ((b.length : Int) + 1).tdiv 2 = (((b.length + 1) / 2 : Nat) : Int) := rfl
      rw [this, wrap_i64' (by omega) (by omega)]
    simp only [e1, Int.toNat_natCast]
    exact ⟨by decide, ⟨by omega, by omega, by omega, by omega⟩, triv_intro ⟨by first | rfl | trivial, by first | rfl | trivial⟩⟩
  rintro ⟨m, l⟩ hK
  revert l
  intro (l : List Int) ⟨h1, h2⟩
  have h1 : m = (b.length + 1) / 2 := h1
  have h2 : l = List.replicate ((b.length + 1) / 2) 0 := h2
  refine tr_while hsp mixed noSw (fun σ => (rdS (.int .i64) 4 σ, rdR (.int .u32) 40 σ)) (nbI b m) (fun g => ∃ k : Nat, k ≤ b.length ∧ g.1 = (k : Int) ∧ g.2 = w16 m (num b % p256 k)) (fun g => b.length - g.1.toNat)
    (fun σ => (rdS (.int .i64) 4 σ, rdR (.int .u32) 40 σ)) (nbI b m) (fun g => g.2 = numbF b) (0, l) (c := nthC (codeOf Tryd.f20) 3) (by kernel_rfl) (by kernel_rfl) (le_of_proj (by kernel_rfl) (by kernel_rfl) ?_) ?_ ?_
  · refine ⟨0, Nat.zero_le _, rfl, ?_⟩
    show l = w16 m (num b % 1)
    rw [h2, h1, show num b % 1 = 0 by omega]
    symm
    refine List.eq_replicate_iff.2 ⟨w16_len _ _, fun x hx => ?_⟩
    simp only [w16, List.mem_map] at hx
    obtain ⟨j, _, rfl⟩ := hx
    simp
  · rintro ⟨i, l⟩ hj
    revert i l
    intro (i : Int) (l : List Int) ⟨k, hk, ei, el⟩
    have ei : i = (k : Int) := ei
    subst ei
    have kl : l = w16 m (num b % p256 k) := el
    refine vcx (X := ((decide ((↑k : Int) < (↑b.length : Int)) = true → ((2 : Int) = (0 : Int) → False) ∧ ((0 : Int) ≤ IntKind.i64.wrap ((↑k : Int).tdiv (2 : Int)) ∧ IntKind.i64.wrap ((↑k : Int).tdiv (2 : Int)) < (↑m : Int)) ∧ (IntKind.i64.wrap ((↑k : Int).tdiv (2 : Int))).toNat < m ∧ ((0 : Int) ≤ IntKind.i64.wrap (IntKind.i64.wrap ((↑b.length : Int) - (1 : Int)) - (↑k : Int)) ∧ IntKind.i64.wrap (IntKind.i64.wrap ((↑b.length : Int) - (1 : Int)) - (↑k : Int)) < (↑b.length : Int)) ∧ (IntKind.i64.wrap (IntKind.i64.wrap ((↑b.length : Int) - (1 : Int)) - (↑k : Int))).toNat < b.length ∧ ((2 : Int) = (0 : Int) → False) ∧ (0 : Int) ≤ IntKind.u64.wrap (IntKind.i64.wrap ((8 : Int) * (↑k : Int).tmod (2 : Int))) ∧ ((0 : Int) ≤ IntKind.i64.wrap ((↑k : Int).tdiv (2 : Int)) ∧ IntKind.i64.wrap ((↑k : Int).tdiv (2 : Int)) < (↑m : Int)) ∧ (IntKind.i64.wrap ((↑k : Int).tdiv (2 : Int))).toNat < m ∧ (nbI b m (IntKind.i64.wrap ((↑k : Int) + (1 : Int)), l.set (IntKind.i64.wrap ((↑k : Int).tdiv (2 : Int))).toNat (bitOp BinOp.or IntKind.u32 (l.getD (IntKind.i64.wrap ((↑k : Int).tdiv (2 : Int))).toNat (0 : Int)) (IntKind.u32.wrap (IntKind.u32.wrap (b.getD (IntKind.i64.wrap (IntKind.i64.wrap ((↑b.length : Int) - (1 : Int)) - (↑k : Int))).toNat (0 : Int)) * (2 : Int) ^ min (IntKind.u64.wrap (IntKind.i64.wrap ((8 : Int) * (↑k : Int).tmod (2 : Int)))).toNat IntKind.u32.bits))))).triv ((∃ k_1, k_1 ≤ b.length ∧ IntKind.i64.wrap ((↑k : Int) + (1 : Int)) = (↑k_1 : Int) ∧ l.set (IntKind.i64.wrap ((↑k : Int).tdiv (2 : Int))).toNat (bitOp BinOp.or IntKind.u32 (l.getD (IntKind.i64.wrap ((↑k : Int).tdiv (2 : Int))).toNat (0 : Int)) (IntKind.u32.wrap (IntKind.u32.wrap (b.getD (IntKind.i64.wrap (IntKind.i64.wrap ((↑b.length : Int) - (1 : Int)) - (↑k : Int))).toNat (0 : Int)) * (2 : Int) ^ min (IntKind.u64.wrap (IntKind.i64.wrap ((8 : Int) * (↑k : Int).tmod (2 : Int)))).toNat IntKind.u32.bits))) = w16 m (num b % p256 k_1)) ∧ b.length - (IntKind.i64.wrap ((↑k : Int) + (1 : Int))).toNat < b.length - (↑k : Int).toNat)) ∧ (decide ((↑k : Int) < (↑b.length : Int)) = false → (nbI b m ((↑k : Int), l)).triv (l = numbF b)))) (by kernel_rfl) ?_
    have e1 : IntKind.i64.wrap ((k : Int).tdiv 2) = ((k / 2 : Nat) : Int) := by
      have : (k : Int).tdiv 2 = ((k / 2 : Nat) : Int) := rfl
      rw [this, wrap_i64' (by omega) (by omega)]
    have e2 : IntKind.u64.wrap (IntKind.i64.wrap (8 * (k : Int).tmod 2)) = ((8 * (k % 2) : Nat) : Int) := by
      have : (k : Int).tmod 2 = ((k % 2 : Nat) : Int) := rfl
      rw [this, wrap_i64' (by omega) (by omega), wrap_u64 (by omega) (by omega)]; omega
    have e3 : k < b.length → IntKind.i64.wrap (IntKind.i64.wrap ((b.length : Int) - 1) - (k : Int)) = ((b.length - 1 - k : Nat) : Int) := fun h => by
      rw [wrap_i64' (a := (b.length : Int) - 1) (by omega) (by omega), wrap_i64' (by omega) (by omega)]; omega
    refine ⟨fun h => ?_, fun h => triv_intro ?_⟩
    · have hlt : k < b.length := by have := of_decide_eq_true h; omega
      have hkm : k / 2 < m := by omega
      simp only [wrap_succ (show k < 9223372036854775807 by omega), e1, e2, e3 hlt, Int.toNat_natCast, num_dig hb hlt]
      refine ⟨by decide, ⟨by omega, by omega⟩, hkm, ⟨by omega, by omega⟩, by omega, by decide, by omega, ⟨by omega, by omega⟩, hkm, triv_intro ⟨⟨k + 1, hlt, rfl, ?_⟩, by omega⟩⟩
      rw [kl, num_step hkm]
    · have hk2 : k = b.length := by have := of_decide_eq_false h; omega
      show l = w16 ((b.length + 1) / 2) (num b)
      rw [kl, hk2, h1, Int.emod_eq_of_lt (num_bd hb).1 (num_bd hb).2]
  rintro ⟨i, l⟩ hj
  revert i l
  intro (i : Int) (l : List Int) (hj : l = numbF b)
  refine tr_vc hsp mixed _ _ ?_
  refine vcx (X := ((0 : Nat) + m ≤ m ∧ (List.take m l, ()) = outNumb (b, ()))) (by kernel_rfl) ?_
  refine ⟨by omega, ?_⟩
  show _ = (numbF b, ())
  rw [List.take_of_length_le (by rw [hj, numbF, w16_len]; omega), hj]
end Go.Proofs.YtbfimfdhmggieaaDoor.ref03
namespace Go.Proofs.YtbfimfdhmggieaaDoor.ref03
set_option maxRecDepth 100000
open Go Go.Eng Go.RowKit Cr Go.Proofs.YtbfimfdhmggieaaDoor
end Go.Proofs.YtbfimfdhmggieaaDoor.ref03
