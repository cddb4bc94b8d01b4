/- DealReads, for every input: true; the input reads as it did. No condition. -/
import Derived.Test.YtlhgcbmanifpiaaMD22RPV
/- DealReads: the walk. -/
namespace Go.Proofs.Ytlhgcbmanifpiaa.law22
set_option maxRecDepth 100000
open Go Go.Eng Go.RowKit Cr Go.Proofs.Ytlhgcbmanifpiaa Go.Proofs.Ytlhgcbmanifpiaa.law14 Go.Proofs.Ytlhgcbmanifpiaa.poly Go.Proofs.Ytlhgcbmanifpiaa.deal
noncomputable def wro (ps : List (Fp × Fp)) : List Int := opq (wrF ps)
theorem fo_write : FnOk Try.prog 55 [.sl pt1] [.own (.int .u8)] noG preWrite (fun (ps, _) => (wro ps, ())) := fn_write.out fun (ps, _) => by show (wro ps, ()) = (wrF ps, ()); rw [wro, opq_eq]
noncomputable def soWrite : Nat × Eng.Spec := (55, fnSpec [.sl pt1] [.own (.int .u8)] preWrite (fun (ps, _) => (wro ps, ())))
theorem ent_reads : enters Try.prog 8 Try.f8 := enters_mk (by kernel_rfl) (by kernel_rfl) (by kernel_rfl)
abbrev preReads : HL [.int .i64, .int .i64, bsl, .int .i64, .int .i64, .bool] → Prop := fun (bits, need, b, fm, tn, _, _) => preI bits ∧ preI need ∧ preB b ∧ preI fm ∧ preI tn
noncomputable def rrA (b : List Int) (fm tn : Int) (old : Bool) (g : Nat × List Int × Int) : St := mkSt Try.f8.ntmps 128 [(1, sI .i64 g.2.2), (2, .is (.one (.ro (.int .u8) b))), (3, sI .i64 fm), (4, sI .i64 tn), (5, .is (.one (.v (.bool old)))), (13, .is (.one (.sl 56 0 0 g.1 1)))] [(56, [.ints .i64 g.1 g.2.1])]
def rrK (b : List Int) (g : Nat × List Int × Int) : Prop := b.length ≤ 100 ∧ g.1 = g.2.1.length ∧ 1 ≤ g.1 ∧ g.1 ≤ 9 ∧ (g.2.2 = 1 ∨ g.2.2 = 2) ∧ g.2.2 ≤ (g.1 : Int)
theorem and1 (n : Int) : 0 ≤ bitOp .and .i64 n 1 ∧ bitOp .and .i64 n 1 ≤ 1 := by
  have h : ((BitVec.ofInt 64 n &&& BitVec.ofInt 64 1 : BitVec 64).toNat) ≤ 1 := by
    rw [BitVec.toNat_and]
    exact Nat.and_le_right
  have e : bitOp .and .i64 n 1 = (((BitVec.ofInt 64 n &&& BitVec.ofInt 64 1 : BitVec 64).toNat : Nat) : Int) := by
    show IntKind.i64.wrap (((BitVec.ofInt 64 n &&& BitVec.ofInt 64 1 : BitVec 64).toNat : Nat) : Int) = _
    exact wrap_i64' (by omega) (by omega)
  rw [e]; omega
theorem and15 (n : Int) : 0 ≤ bitOp .and .i64 n 15 ∧ bitOp .and .i64 n 15 ≤ 15 := by
  have h : ((BitVec.ofInt 64 n &&& BitVec.ofInt 64 15 : BitVec 64).toNat) ≤ 15 := by
    rw [BitVec.toNat_and]
    exact Nat.and_le_right
  have e : bitOp .and .i64 n 15 = (((BitVec.ofInt 64 n &&& BitVec.ofInt 64 15 : BitVec 64).toNat : Nat) : Int) := by
    show IntKind.i64.wrap (((BitVec.ofInt 64 n &&& BitVec.ofInt 64 15 : BitVec 64).toNat : Nat) : Int) = _
    exact wrap_i64' (by omega) (by omega)
  rw [e]; omega
noncomputable def rrB (b : List Int) (fm tn : Int) (old : Bool) (L : Nat) (d : List Int) (need : Int) (P : List Fr) : St := mkSt Try.f8.ntmps 224 [(1, sI .i64 need), (2, .is (.one (.ro (.int .u8) b))), (3, sI .i64 fm), (4, sI .i64 tn), (5, .is (.one (.v (.bool old)))), (13, .is (.one (.sl 56 0 0 L 1))), (14, .is (.one (.sl 160 0 0 P.length 4))), (15, .is (.one (.ptr 208 0)))] [(56, [.ints .i64 L d]), (160, [.row .fr P.length P]), (208, [.sl 56 0 0 L 1, .sl 56 0 0 L 1, .v (.int .i64 need), .v (.slice none 0 0)])]
noncomputable def rrB2 (b : List Int) (fm tn : Int) (old : Bool) (L : Nat) (d : List Int) (need : Int) (P : List Fr) : St := mkSt Try.f8.ntmps 224 [(1, sI .i64 need), (2, .is (.one (.ro (.int .u8) b))), (3, sI .i64 fm), (4, sI .i64 tn), (5, .is (.one (.v (.bool old)))), (13, .is (.one (.sl 56 0 0 L 1))), (14, .is (.one (.sl 160 0 0 P.length 4))), (15, .is (.one (.ptr 208 0))), (55, .is (.one (.v (.bool old))))] [(56, [.ints .i64 L d]), (160, [.row .fr P.length P]), (208, [.sl 56 0 0 L 1, .sl 56 0 0 L 1, .v (.int .i64 need), .v (.slice none 0 0)])]
noncomputable def rCt (fm tn : Int) (old : Bool) (L N : Nat) (d : List Int) (need : Int) (P : List Fr) (O2 : List (Fp × Fp)) : St := mkSt Try.f8.ntmps 352 [(1, sI .i64 need), (3, sI .i64 fm), (4, sI .i64 tn), (5, .is (.one (.v (.bool old)))), (13, .is (.one (.sl 56 0 0 L 1))), (14, .is (.one (.sl 160 0 0 N 4))), (15, .is (.one (.ptr 208 0)))] [(56, [.ints .i64 L d]), (160, [.row .fr N P]), (208, [.sl 56 0 0 L 1, .sl 56 0 0 L 1, .v (.int .i64 need), .sl 240 0 0 (need - 0).toNat 12]), (240, [.row pt1 2 O2])]
noncomputable def rDt (fm tn : Int) (old : Bool) (L N : Nat) (d : List Int) (need : Int) (P : List Fr) (O2 : List (Fp × Fp)) (g : Nat × List Int) : St := mkSt Try.f8.ntmps 392 [(1, sI .i64 need), (3, sI .i64 fm), (4, sI .i64 tn), (5, .is (.one (.v (.bool old)))), (13, .is (.one (.sl 56 0 0 L 1))), (14, .is (.one (.sl 160 0 0 N 4))), (15, .is (.one (.ptr 208 0))), (16, .is (.one (.sl 368 0 0 g.1 1)))] [(56, [.ints .i64 L d]), (160, [.row .fr N P]), (208, [.sl 56 0 0 L 1, .sl 56 0 0 L 1, .v (.int .i64 need), .sl 240 0 0 (need - 0).toNat 12]), (240, [.row pt1 2 O2]), (368, [.ints .u8 g.1 g.2])]
noncomputable def rEt (fm tn : Int) (old : Bool) (L N : Nat) (d : List Int) (need : Int) (P : List Fr) (O2 : List (Fp × Fp)) (n : Nat) (W : List Int) (g : Nat × List (Fp × Fp)) : St := mkSt Try.f8.ntmps 528 [(1, sI .i64 need), (3, sI .i64 fm), (4, sI .i64 tn), (5, .is (.one (.v (.bool old)))), (13, .is (.one (.sl 56 0 0 L 1))), (14, .is (.one (.sl 160 0 0 N 4))), (15, .is (.one (.ptr 208 0))), (16, .is (.one (.sl 368 0 0 n 1))), (18, .is (.one (.sl 440 0 0 g.1 12)))] [(56, [.ints .i64 L d]), (160, [.row .fr N P]), (208, [.sl 56 0 0 L 1, .sl 56 0 0 L 1, .v (.int .i64 need), .sl 240 0 0 (need - 0).toNat 12]), (240, [.row pt1 2 O2]), (368, [.ints .u8 n W]), (440, [.row pt1 g.1 g.2])]
noncomputable def rFt (fm tn : Int) (old : Bool) (L N : Nat) (d : List Int) (need : Int) (P : List Fr) (O2 : List (Fp × Fp)) (n : Nat) (W : List Int) (m : Nat) (C : List (Fp × Fp)) (g : Int) : St := mkSt Try.f8.ntmps 552 [(1, sI .i64 need), (3, sI .i64 fm), (4, sI .i64 tn), (5, .is (.one (.v (.bool old)))), (13, .is (.one (.sl 56 0 0 L 1))), (14, .is (.one (.sl 160 0 0 N 4))), (15, .is (.one (.ptr 208 0))), (16, .is (.one (.sl 368 0 0 n 1))), (18, .is (.one (.sl 440 0 0 m 12))), (111, sI .i64 m), (112, sI .i64 g)] [(56, [.ints .i64 L d]), (160, [.row .fr N P]), (208, [.sl 56 0 0 L 1, .sl 56 0 0 L 1, .v (.int .i64 need), .sl 240 0 0 (need - 0).toNat 12]), (240, [.row pt1 2 O2]), (368, [.ints .u8 n W]), (440, [.row pt1 m C])]
noncomputable def rGt (fm tn : Int) (old : Bool) (L N : Nat) (d : List Int) (need : Int) (P : List Fr) (O2 : List (Fp × Fp)) (n : Nat) (W : List Int) : St := mkSt Try.f8.ntmps 552 [(1, sI .i64 need), (3, sI .i64 fm), (4, sI .i64 tn), (5, .is (.one (.v (.bool old)))), (13, .is (.one (.sl 56 0 0 L 1))), (14, .is (.one (.sl 160 0 0 N 4))), (15, .is (.one (.ptr 208 0))), (16, .is (.one (.sl 368 0 0 n 1)))] [(56, [.ints .i64 L d]), (160, [.row .fr N P]), (208, [.sl 56 0 0 L 1, .sl 56 0 0 L 1, .v (.int .i64 need), .sl 240 0 0 (need - 0).toNat 12]), (240, [.row pt1 2 O2]), (368, [.ints .u8 n W])]
noncomputable def rCf (fm tn : Int) (old : Bool) (L N : Nat) (d : List Int) (need : Int) (P : List Fr) (O2 : List (Fp × Fp)) : St := mkSt Try.f8.ntmps 224 [(1, sI .i64 need), (3, sI .i64 fm), (4, sI .i64 tn), (5, .is (.one (.v (.bool old)))), (13, .is (.one (.sl 56 0 0 L 1))), (14, .is (.one (.sl 160 0 0 N 4))), (15, .is (.one (.ptr 208 0)))] [(56, [.ints .i64 L d]), (160, [.row .fr N P]), (208, [.sl 56 0 0 L 1, .sl 56 0 0 L 1, .v (.int .i64 need), .v (.slice none 0 0)])]
noncomputable def rDf (fm tn : Int) (old : Bool) (L N : Nat) (d : List Int) (need : Int) (P : List Fr) (O2 : List (Fp × Fp)) (g : Nat × List Int) : St := mkSt Try.f8.ntmps 256 [(1, sI .i64 need), (3, sI .i64 fm), (4, sI .i64 tn), (5, .is (.one (.v (.bool old)))), (13, .is (.one (.sl 56 0 0 L 1))), (14, .is (.one (.sl 160 0 0 N 4))), (15, .is (.one (.ptr 208 0))), (16, .is (.one (.sl 240 0 0 g.1 1)))] [(56, [.ints .i64 L d]), (160, [.row .fr N P]), (208, [.sl 56 0 0 L 1, .sl 56 0 0 L 1, .v (.int .i64 need), .v (.slice none 0 0)]), (240, [.ints .u8 g.1 g.2])]
noncomputable def rEf (fm tn : Int) (old : Bool) (L N : Nat) (d : List Int) (need : Int) (P : List Fr) (O2 : List (Fp × Fp)) (n : Nat) (W : List Int) (g : Nat × List (Fp × Fp)) : St := mkSt Try.f8.ntmps 392 [(1, sI .i64 need), (3, sI .i64 fm), (4, sI .i64 tn), (5, .is (.one (.v (.bool old)))), (13, .is (.one (.sl 56 0 0 L 1))), (14, .is (.one (.sl 160 0 0 N 4))), (15, .is (.one (.ptr 208 0))), (16, .is (.one (.sl 240 0 0 n 1))), (18, .is (.one (.sl 304 0 0 g.1 12)))] [(56, [.ints .i64 L d]), (160, [.row .fr N P]), (208, [.sl 56 0 0 L 1, .sl 56 0 0 L 1, .v (.int .i64 need), .v (.slice none 0 0)]), (240, [.ints .u8 n W]), (304, [.row pt1 g.1 g.2])]
noncomputable def rFf (fm tn : Int) (old : Bool) (L N : Nat) (d : List Int) (need : Int) (P : List Fr) (O2 : List (Fp × Fp)) (n : Nat) (W : List Int) (m : Nat) (C : List (Fp × Fp)) (g : Int) : St := mkSt Try.f8.ntmps 416 [(1, sI .i64 need), (3, sI .i64 fm), (4, sI .i64 tn), (5, .is (.one (.v (.bool old)))), (13, .is (.one (.sl 56 0 0 L 1))), (14, .is (.one (.sl 160 0 0 N 4))), (15, .is (.one (.ptr 208 0))), (16, .is (.one (.sl 240 0 0 n 1))), (18, .is (.one (.sl 304 0 0 m 12))), (111, sI .i64 m), (112, sI .i64 g)] [(56, [.ints .i64 L d]), (160, [.row .fr N P]), (208, [.sl 56 0 0 L 1, .sl 56 0 0 L 1, .v (.int .i64 need), .v (.slice none 0 0)]), (240, [.ints .u8 n W]), (304, [.row pt1 m C])]
noncomputable def rGf (fm tn : Int) (old : Bool) (L N : Nat) (d : List Int) (need : Int) (P : List Fr) (O2 : List (Fp × Fp)) (n : Nat) (W : List Int) : St := mkSt Try.f8.ntmps 416 [(1, sI .i64 need), (3, sI .i64 fm), (4, sI .i64 tn), (5, .is (.one (.v (.bool old)))), (13, .is (.one (.sl 56 0 0 L 1))), (14, .is (.one (.sl 160 0 0 N 4))), (15, .is (.one (.ptr 208 0))), (16, .is (.one (.sl 240 0 0 n 1)))] [(56, [.ints .i64 L d]), (160, [.row .fr N P]), (208, [.sl 56 0 0 L 1, .sl 56 0 0 L 1, .v (.int .i64 need), .v (.slice none 0 0)]), (240, [.ints .u8 n W])]
set_option maxHeartbeats 800000 in
theorem fn_reads : FnOk Try.prog 8 [.int .i64, .int .i64, bsl, .int .i64, .int .i64, .bool] [.val .bool] noG preReads (fun _ => (true, ())) := by
  have hsp : SpecsOk Try.prog (sps [spHead, spNumbers, spMade, spCommit, spAt, soWrite, ref01.spCopy, ref01.spSame, deal.spRead, spIn, g1.soGen, g1.soMul, codec.soReadG1]) := sps_cons (fnSpec_ok fn_head) (sps_cons (fnSpec_ok fn_numbers) (sps_cons (fnSpec_ok fn_made) (sps_cons (fnSpec_ok fn_commit) (sps_cons (fnSpec_ok fn_at) (sps_cons (fnSpec_ok fo_write) (sps_cons (fnSpec_ok ref01.fn_copy) (sps_cons (fnSpec_ok ref01.fn_same) (sps_cons (fnSpec_ok deal.fn_read) (sps_cons (fnSpec_ok fn_in) (sps_cons (fnSpec_ok g1.fo_gen) (sps_cons (fnSpec_ok g1.fo_mul) (sps_cons (fnSpec_ok codec.fo_readG1) sps_nil))))))))))))
  refine fn_of_tr (sp := sps [spHead, spNumbers, spMade, spCommit, spAt, soWrite, ref01.spCopy, ref01.spSame, deal.spRead, spIn, g1.soGen, g1.soMul, codec.soReadG1]) ent_reads (by decide) (by decide) (by kernel_rfl) ?_
  rintro w M0 ⟨bits, need, b, fm, tn, old, ⟨⟩⟩
  revert bits need b fm tn old
  intro (bits : Int) (need : Int) (b : List Int) (fm : Int) (tn : Int) (old : Bool) _ hp
  obtain ⟨hbi, hne, ⟨hb, hl⟩, hfm, htn⟩ := hp
  show Tr _ _ _ _ _ _ _
  refine tr_cutSF hsp mixed 11 (fun σ => [(56, rdI 13 σ)]) (fun σ => (rdL 13 σ, rdR (.int .i64) 56 σ, rdS (.int .i64) 1 σ)) (rrA b fm tn old) (rrK b) ?_ ?_
  · refine vcx (X := (True ∧ ((!true) = true → (false, ()) = (true, ())) ∧ ((!true) = false → (decide ((↑b.length : Int) > (100 : Int)) = true → (true, ()) = (true, ())) ∧ (decide ((↑b.length : Int) > (100 : Int)) = false → True ∧ (((↑(numF bits).length : Int) == (0 : Int)) = true → (decide (IntKind.i64.wrap ((1 : Int) + bitOp BinOp.and IntKind.i64 need (1 : Int)) > (↑(1 : Nat) : Int)) = true → (rrA b fm tn old ((1 : Nat), [(2 : Int)], (↑(1 : Nat) : Int))).triv (rrK b ((1 : Nat), [(2 : Int)], (↑(1 : Nat) : Int)))) ∧ (decide (IntKind.i64.wrap ((1 : Int) + bitOp BinOp.and IntKind.i64 need (1 : Int)) > (↑(1 : Nat) : Int)) = false → (rrA b fm tn old ((1 : Nat), [(2 : Int)], IntKind.i64.wrap ((1 : Int) + bitOp BinOp.and IntKind.i64 need (1 : Int)))).triv (rrK b ((1 : Nat), [(2 : Int)], IntKind.i64.wrap ((1 : Int) + bitOp BinOp.and IntKind.i64 need (1 : Int)))))) ∧ (((↑(numF bits).length : Int) == (0 : Int)) = false → (decide (IntKind.i64.wrap ((1 : Int) + bitOp BinOp.and IntKind.i64 need (1 : Int)) > (↑(numF bits).length : Int)) = true → (rrA b fm tn old ((numF bits, ()).fst.length, (numF bits, ()).fst, (↑(numF bits, ()).fst.length : Int))).triv (rrK b ((numF bits).length, numF bits, (↑(numF bits).length : Int)))) ∧ (decide (IntKind.i64.wrap ((1 : Int) + bitOp BinOp.and IntKind.i64 need (1 : Int)) > (↑(numF bits).length : Int)) = false → (rrA b fm tn old ((numF bits, ()).fst.length, (numF bits, ()).fst, IntKind.i64.wrap ((1 : Int) + bitOp BinOp.and IntKind.i64 need (1 : Int)))).triv (rrK b ((numF bits).length, numF bits, IntKind.i64.wrap ((1 : Int) + bitOp BinOp.and IntKind.i64 need (1 : Int)))))))))) (by kernel_rfl) ?_
    obtain ⟨a0, a1⟩ := and1 need
    rw [wrap_i64' (by omega) (by omega)]
    have h9 : (numF bits).length ≤ 9 := Nat.le_trans (List.length_filter_le _ _) (by simp)
    refine ⟨trivial, fun h => absurd h (by decide), fun _ => ⟨fun _ => rfl, fun h => ⟨trivial, fun h1 => ⟨fun h2 => triv_intro ⟨?_, rfl, by decide, by decide, .inl rfl, by decide⟩, fun h2 => triv_intro ⟨?_, rfl, Nat.le_refl 1, show 1 ≤ 9 by decide, ?_, ?_⟩⟩, fun h1 => ⟨fun h2 => triv_intro ⟨?_, rfl, ?_, h9, ?_, ?_⟩, fun h2 => triv_intro ⟨?_, rfl, ?_, h9, ?_, ?_⟩⟩⟩⟩⟩
    all_goals have h := of_decide_eq_false h
    all_goals try have h1 : ¬ ((numF bits).length : Int) = 0 := by simpa using h1
    · omega
    · omega
    · have := of_decide_eq_false h2
      left; show 1 + bitOp BinOp.and IntKind.i64 need 1 = 1; omega
    · have := of_decide_eq_false h2
      show 1 + bitOp BinOp.and IntKind.i64 need 1 ≤ ((1 : Nat) : Int); omega
    · omega
    · show 1 ≤ (numF bits).length; omega
    · have := of_decide_eq_true h2
      show ((numF bits).length : Int) = 1 ∨ ((numF bits).length : Int) = 2; omega
    · show ((numF bits).length : Int) ≤ ((numF bits).length : Int); omega
    · omega
    · show 1 ≤ (numF bits).length; omega
    · show 1 + bitOp BinOp.and IntKind.i64 need 1 = 1 ∨ 1 + bitOp BinOp.and IntKind.i64 need 1 = 2; omega
    · have := of_decide_eq_false h2
      show 1 + bitOp BinOp.and IntKind.i64 need 1 ≤ ((numF bits).length : Int); omega
  rintro ⟨L, d, need⟩ hK
  revert d need
  intro (d : List Int) (need : Int) ⟨hb1, hdl, hL1, hL9, hn, hnL⟩
  have hb1 : b.length ≤ 100 := hb1
  have hdl : L = d.length := hdl
  have hL9 : L ≤ 9 := hL9
  have hn : need = 1 ∨ need = 2 := hn
  have hnL : need ≤ (L : Int) := hnL
  have e15 := and15 fm
  refine tr_cutF hsp mixed 2 (fun σ => rdR .fr 160 σ) (rrB b fm tn old L d need) (fun P => P = mdP b (bitOp BinOp.and IntKind.i64 fm (15 : Int)) need.toNat) ?_ ?_
  · refine vcx (X := (preMade2 (b, bitOp BinOp.and IntKind.i64 fm (15 : Int), need, ()) ∧ (rrB b fm tn old L d need (mdP b (bitOp BinOp.and IntKind.i64 fm (15 : Int)) need.toNat)).triv (mdP b (bitOp BinOp.and IntKind.i64 fm (15 : Int)) need.toNat = mdP b (bitOp BinOp.and IntKind.i64 fm (15 : Int)) need.toNat))) (by kernel_rfl) ?_
    exact ⟨⟨⟨hb, by show b.length ≤ _; omega⟩, by show 0 ≤ need; omega, by show need ≤ 1000; omega⟩, triv_intro rfl⟩
  intro (P0 : List Fr) hP0
  have hP0 : P0 = mdP b (bitOp BinOp.and IntKind.i64 fm (15 : Int)) need.toNat := hP0
  have hPl : P0.length = need.toNat := by rw [hP0, mdP]; simp
  refine tr_cut hsp mixed 1 (rrB2 b fm tn old L d need P0) True ?_ (fun _ => ?_)
  · refine vcx (X := ((rrB2 b fm tn old L d need P0).triv True)) (by kernel_rfl) ?_
    exact triv_intro trivial
  refine tr_cond (c := nthC (codeOf Try.f8) 14) old (by kernel_rfl) (by kernel_rfl) (by kernel_rfl) (fun ht => ?_) (fun ht => ?_)
  · refine tr_cutF hsp mixed 2 (fun σ => (rdR .fr 160 σ, rdR pt1 240 σ)) (fun g => rCt fm tn old L P0.length d need g.1 g.2) (fun g => g.1 = P0.set 0 (pat ((mdP b 100 2).take (need - 0).toNat) fm) ∧ g.2 = cmt (mdP b 100 2)) ?_ ?_
    · refine vcx (X := (preMade2 (b, (100 : Int), (2 : Int), ()) ∧ (0 : Nat) + (mdP b (100 : Int) (2 : Nat)).length ≤ (mdP b (100 : Int) (2 : Nat)).length ∧ preCommit (List.take (mdP b (100 : Int) (2 : Nat)).length (mdP b (100 : Int) (2 : Nat)), ()) ∧ ((0 : Int) ≤ need ∧ need ≤ (↑(cmt (List.take (mdP b (100 : Int) (2 : Nat)).length (mdP b (100 : Int) (2 : Nat)))).length : Int)) ∧ preMade2 (b, (100 : Int), (2 : Int), ()) ∧ ((0 : Int) ≤ need ∧ need ≤ (↑(mdP b (100 : Int) (2 : Nat)).length : Int)) ∧ (0 : Nat) + (need - (0 : Int)).toNat ≤ (mdP b (100 : Int) (2 : Nat)).length ∧ preAt (List.take (need - (0 : Int)).toNat (mdP b (100 : Int) (2 : Nat)), fm, ()) ∧ ((0 : Int) ≤ (0 : Int) ∧ (0 : Int) < (↑P0.length : Int)) ∧ (0 : Nat) < P0.length ∧ (rCt fm tn old L P0.length d need (P0.set (0 : Nat) (pat (List.take (need - (0 : Int)).toNat (mdP b (100 : Int) (2 : Nat))) fm), [g1.gmul g1.gG (mdE b (100 : Int) (nat_lit 0)), g1.gmul g1.gG (mdE b (100 : Int) (nat_lit 1))]).fst (P0.set (0 : Nat) (pat (List.take (need - (0 : Int)).toNat (mdP b (100 : Int) (2 : Nat))) fm), [g1.gmul g1.gG (mdE b (100 : Int) (nat_lit 0)), g1.gmul g1.gG (mdE b (100 : Int) (nat_lit 1))]).snd).triv (P0.set (0 : Nat) (pat (List.take (need - (0 : Int)).toNat (mdP b (100 : Int) (2 : Nat))) fm) = P0.set (0 : Nat) (pat (List.take (need - (0 : Int)).toNat (mdP b (100 : Int) (2 : Nat))) fm) ∧ [g1.gmul g1.gG (mdE b (100 : Int) (nat_lit 0)), g1.gmul g1.gG (mdE b (100 : Int) (nat_lit 1))] = cmt (mdP b (100 : Int) (2 : Nat))))) (by kernel_rfl) ?_
      have m2 : (mdP b 100 2).length = 2 := by rw [mdP]; simp
      have pm : preMade2 (b, 100, 2, ()) := ⟨⟨hb, by show b.length ≤ _; omega⟩, by decide, by decide⟩
      rw [m2, List.take_of_length_le (by rw [m2]; exact Nat.le_refl _)]
      have c2 : (cmt (mdP b 100 2)).length = 2 := by rw [cmt, List.length_map, m2]
      rw [c2]
      exact ⟨pm, by omega, by show (mdP b 100 2).length < _; rw [m2]; decide, ⟨by omega, by omega⟩, pm, ⟨by omega, by omega⟩, by omega, ⟨by show (List.take _ _).length < _; exact Nat.lt_of_le_of_lt (List.length_take_le _ _) (by omega), hfm⟩, ⟨by omega, by omega⟩, by omega, triv_intro ⟨rfl, rfl⟩⟩
    rintro ⟨P, O2⟩ hK
    revert P O2
    intro (P : List Fr) (O2 : List (Fp × Fp)) ⟨hP, hO2⟩
    have hP : P = P0.set 0 (pat ((mdP b 100 2).take (need - 0).toNat) fm) := hP
    have hO2 : O2 = cmt (mdP b 100 2) := hO2
    have hPN : P.length = P0.length := by rw [hP, List.length_set]
    have hO : (O2.take (need - 0).toNat) = [] ∨ catF fm (O2.take (need - 0).toNat) = g1.gmul g1.gG (P.getD 0 0) := by
      right
      have e : O2.take (need - 0).toNat = cmt ((mdP b 100 2).take (need - 0).toNat) := by rw [hO2, cmt, cmt, List.map_take]
      rw [e, cat_cmt hfm, hP]
      congr 1
      rw [List.getD_eq_getElem?_getD, List.getElem?_set_self (by omega), Option.getD_some]
    have hOl : List.length (O2.take (need - 0).toNat) < 4611686018427387904 := by
      have : O2.length = 2 := by rw [hO2, cmt, List.length_map, mdP]; simp
      exact Nat.lt_of_le_of_lt (List.length_take_le' _ _) (by omega)
    have hO2l : O2.length = 2 := by rw [hO2, cmt, List.length_map, mdP]; simp
    have hOne : O2.take (need - 0).toNat ≠ [] := fun c => by
      have := congrArg List.length c
      rw [List.length_take, hO2l, List.length_nil] at this
      omega
    have hPn : P.length = need.toNat := by omega
    have hCl : (cmt P).length = need.toNat := by rw [cmt, List.length_map, hPn]
    have hsub : ∀ p ∈ cmt P, g1.Sub p := fun p hp => by
      obtain ⟨k, _, rfl⟩ := List.mem_map.1 hp
      exact g1.sub_gmul g1.sub_G k
    have hWl : (wrF (cmt P)).length = 48 * need.toNat := by rw [wrF_len, hCl]
    have hC0 : (cmt P).getD 0 (0, 0) = g1.gmul g1.gG (P.getD 0 0) := by
      rw [cmt, List.getD_eq_getElem?_getD, List.getElem?_map, List.getElem?_eq_getElem (by omega : 0 < P.length), List.getD_eq_getElem?_getD, List.getElem?_eq_getElem (by omega : 0 < P.length)]; rfl
    refine tr_cutF hsp mixed 3 (fun σ => (rdL 16 σ, rdR (.int .u8) 368 σ)) (rDt fm tn old L P0.length d need P O2) (fun g => g.1 = g.2.length ∧ g.2 = wrF (cmt P)) ?_ ?_
    · refine vcx (X := ((0 : Nat) + P0.length ≤ P0.length ∧ preCommit (List.take P0.length P, ()) ∧ (0 : Nat) + (cmt (List.take P0.length P)).length ≤ (cmt (List.take P0.length P)).length ∧ preWrite (List.take (cmt (List.take P0.length P)).length (cmt (List.take P0.length P)), ()) ∧ (((↑(wro (List.take (cmt (List.take P0.length P)).length (cmt (List.take P0.length P)))).length : Int) != IntKind.i64.wrap ((48 : Int) * need)) = true → (false, ()) = (true, ())) ∧ (((↑(wro (List.take (cmt (List.take P0.length P)).length (cmt (List.take P0.length P)))).length : Int) != IntKind.i64.wrap ((48 : Int) * need)) = false → (rDt fm tn old L P0.length d need P O2 ((wro (List.take (cmt (List.take P0.length P)).length (cmt (List.take P0.length P))), ()).fst.length, (wro (List.take (cmt (List.take P0.length P)).length (cmt (List.take P0.length P))), ()).fst)).triv ((wro (List.take (cmt (List.take P0.length P)).length (cmt (List.take P0.length P)))).length = (wro (List.take (cmt (List.take P0.length P)).length (cmt (List.take P0.length P)))).length ∧ wro (List.take (cmt (List.take P0.length P)).length (cmt (List.take P0.length P))) = wrF (cmt P))))) (by kernel_rfl) ?_
      have tP : List.take P0.length P = P := List.take_of_length_le (by omega)
      have eW : wro (cmt P) = wrF (cmt P) := by rw [wro, opq_eq]
      rw [tP, List.take_length, eW, hWl, wrap_i64' (by omega) (by omega)]
      refine ⟨by omega, by show P.length < _; omega, by omega, by show (cmt P).length ≤ _; omega, fun h => absurd h (by simp; omega), fun h => triv_intro ⟨rfl, rfl⟩⟩
    rintro ⟨n, W⟩ hK
    revert W
    intro (W : List Int) ⟨h1, h2⟩
    have h1 : n = W.length := h1
    have h2 : W = wrF (cmt P) := h2
    have hn48 : n = 48 * need.toNat := by rw [h1, h2, hWl]
    have hWb : Bs W := by rw [h2]; exact wrF_Bs _
    have hLd : List.take L d = d := List.take_of_length_le (by omega)
    have hrd : fm ∈ d → rdF d need (O2.take (need - 0).toNat) fm W = (cmt P, 0) := fun hfd => by
      rw [rdF, if_pos hfd, if_pos ⟨by omega, by omega⟩, show W.length / 48 = (cmt P).length by omega, h2, err_wr hsub, if_pos rfl, pt_wr hsub, if_pos]
      rcases hO with c | c
      · exact .inl c
      · exact .inr ⟨by omega, by rw [c, hC0]⟩
    have hrn : ¬ fm ∈ d → rdF d need (O2.take (need - 0).toNat) fm W = ([], 34) := fun hfd => by rw [rdF, if_neg hfd]
    have ss : ∀ l : List Int, ref01.sameF l l = true := fun l => by rw [ref01.sameF]; simp
    have pr : preRd ((d, d, need, (O2.take (need - 0).toNat)), fm, W, ()) := ⟨by show d.length < _; omega, ⟨hOl, hfm⟩, hWb, by show W.length ≤ _; omega⟩
    refine tr_cutF hsp mixed 8 (fun σ => (rdL 18 σ, rdR pt1 440 σ)) (rEt fm tn old L P0.length d need P O2 n W) (fun g => g.1 = g.2.length ∧ g.2 = cmt P ∧ fm ∈ d) ?_ ?_
    · refine vcx (X := ((0 : Nat) + n ≤ n ∧ ref01.preCopy (List.take n W, ()) ∧ (0 : Nat) + L ≤ L ∧ (0 : Nat) + L ≤ L ∧ (0 : Nat) + (need - (0 : Int)).toNat ≤ (2 : Nat) ∧ (0 : Nat) + (List.take n W).length ≤ (List.take n W).length ∧ preRd ((List.take L d, List.take L d, need, List.take (need - (0 : Int)).toNat O2), fm, List.take (List.take n W).length (List.take n W), ()) ∧ (0 : Nat) + (List.take n W).length ≤ (List.take n W).length ∧ (0 : Nat) + n ≤ n ∧ ref01.preSame (List.take (List.take n W).length (List.take n W), List.take n W, ()) ∧ ((!ref01.sameF (List.take (List.take n W).length (List.take n W)) (List.take n W)) = true → (false, ()) = (true, ())) ∧ ((!ref01.sameF (List.take (List.take n W).length (List.take n W)) (List.take n W)) = false → (0 : Nat) + L ≤ L ∧ preIn (List.take L d, fm, ()) ∧ ((!decide (fm ∈ List.take L d)) = true → (((rdF (List.take L d) need (List.take (need - (0 : Int)).toNat O2) fm (List.take (List.take n W).length (List.take n W))).snd == (34 : Int)) = true → ((↑(rdF (List.take L d) need (List.take (need - (0 : Int)).toNat O2) fm (List.take (List.take n W).length (List.take n W))).fst.length : Int) == (0 : Int), ()) = (true, ())) ∧ (((rdF (List.take L d) need (List.take (need - (0 : Int)).toNat O2) fm (List.take (List.take n W).length (List.take n W))).snd == (34 : Int)) = false → (false, ()) = (true, ()))) ∧ ((!decide (fm ∈ List.take L d)) = false → (((rdF (List.take L d) need (List.take (need - (0 : Int)).toNat O2) fm (List.take (List.take n W).length (List.take n W))).snd != (0 : Int)) = true → (false, ()) = (true, ())) ∧ (((rdF (List.take L d) need (List.take (need - (0 : Int)).toNat O2) fm (List.take (List.take n W).length (List.take n W))).snd != (0 : Int)) = false → (((↑(rdF (List.take L d) need (List.take (need - (0 : Int)).toNat O2) fm (List.take (List.take n W).length (List.take n W))).fst.length : Int) != need) = true → (false, ()) = (true, ())) ∧ (((↑(rdF (List.take L d) need (List.take (need - (0 : Int)).toNat O2) fm (List.take (List.take n W).length (List.take n W))).fst.length : Int) != need) = false → (rEt fm tn old L P0.length d need P O2 n W ((rdF (List.take L d) need (List.take (need - (0 : Int)).toNat O2) fm (List.take (List.take n W).length (List.take n W))).fst.length, (rdF (List.take L d) need (List.take (need - (0 : Int)).toNat O2) fm (List.take (List.take n W).length (List.take n W))).fst)).triv ((rdF (List.take L d) need (List.take (need - (0 : Int)).toNat O2) fm (List.take (List.take n W).length (List.take n W))).fst.length = (rdF (List.take L d) need (List.take (need - (0 : Int)).toNat O2) fm (List.take (List.take n W).length (List.take n W))).fst.length ∧ (rdF (List.take L d) need (List.take (need - (0 : Int)).toNat O2) fm (List.take (List.take n W).length (List.take n W))).fst = cmt P ∧ fm ∈ d))))))) (by kernel_rfl) ?_
      have tW : List.take n W = W := List.take_of_length_le (by omega)
      simp only [tW, List.take_length, hLd, ss]
      refine ⟨by omega, by show W.length ≤ _; omega, by omega, by omega, by omega, by omega, pr, by omega, by omega, by show W.length < _; omega, fun h => absurd h (by decide), fun _ => ⟨by omega, by show d.length < _; omega, fun h => ?_, fun h => ?_⟩⟩
      · have h : ¬ fm ∈ d := by simpa using h
        rw [hrn h]
        exact ⟨fun _ => rfl, fun h => absurd h (by decide)⟩
      · have h : fm ∈ d := by simpa using h
        rw [hrd h]
        refine ⟨fun h => absurd h (by simp), fun _ => ⟨fun h => ?_, fun _ => triv_intro (by first | exact ⟨rfl, rfl, h⟩ | exact ⟨trivial, rfl, h⟩ | exact ⟨trivial, trivial, h⟩)⟩⟩
        have h : ¬ ((cmt P).length : Int) = need := bne_iff_ne.1 h
        omega
    rintro ⟨m, C⟩ hK
    revert C
    intro (C : List (Fp × Fp)) ⟨h3, h4, hfd⟩
    have h3 : m = C.length := h3
    have h4 : C = cmt P := h4
    have hm : m = need.toNat := by rw [h3, h4, hCl]
    refine tr_cut hsp mixed 1 (rFt fm tn old L P0.length d need P O2 n W m C 0) True ?_ (fun _ => ?_)
    · refine vcx (X := ((rFt fm tn old L P0.length d need P O2 n W m C (0 : Int)).triv True)) (by kernel_rfl) ?_
      exact triv_intro trivial
    refine tr_while hsp mixed noSw (fun σ => rdS (.int .i64) 112 σ) (rFt fm tn old L P0.length d need P O2 n W m C) (fun g => ∃ k : Nat, k ≤ m ∧ g = (k : Int)) (fun g => m - g.toNat)
      (fun _ => ()) (fun _ => rGt fm tn old L P0.length d need P O2 n W) (fun _ => True) 0 (c := nthC (codeOf Try.f8) 27) (by kernel_rfl) (by kernel_rfl) (le_of_proj (by kernel_rfl) (by kernel_rfl) ?_) ?_ ?_
    · exact ⟨0, Nat.zero_le _, rfl⟩
    · intro (i : Int) ⟨k, hk, ei⟩
      subst ei
      refine vcx (X := ((decide ((↑k : Int) < (↑m : Int)) = true → ((0 : Int) ≤ (↑k : Int) ∧ (↑k : Int) < (↑m : Int)) ∧ (↑k : Int).toNat < m ∧ True ∧ ((0 : Int) ≤ (↑k : Int) ∧ (↑k : Int) < (↑P0.length : Int)) ∧ (↑k : Int).toNat < P0.length ∧ True ∧ ((!eqC (Kd.fp.pair Kd.fp) (C.getD (↑k : Int).toNat ((0 : Fp), (0 : Fp))) (g1.gmul g1.gG (P.getD (↑k : Int).toNat (0 : Fr)))) = true → (false, ()) = (true, ())) ∧ ((!eqC (Kd.fp.pair Kd.fp) (C.getD (↑k : Int).toNat ((0 : Fp), (0 : Fp))) (g1.gmul g1.gG (P.getD (↑k : Int).toNat (0 : Fr)))) = false → (rFt fm tn old L P0.length d need P O2 n W m C (IntKind.i64.wrap ((↑k : Int) + (1 : Int)))).triv ((∃ k_1, k_1 ≤ m ∧ IntKind.i64.wrap ((↑k : Int) + (1 : Int)) = (↑k_1 : Int)) ∧ m - (IntKind.i64.wrap ((↑k : Int) + (1 : Int))).toNat < m - (↑k : Int).toNat))) ∧ (decide ((↑k : Int) < (↑m : Int)) = false → (rGt fm tn old L P0.length d need P O2 n W).triv True))) (by kernel_rfl) ?_
      rw [Int.toNat_natCast]
      refine ⟨fun h => ?_, fun h => triv_intro trivial⟩
      have hlt : k < m := by have := dec_lt h; omega
      have hg : C.getD k (0, 0) = g1.gmul g1.gG (P.getD k 0) := by
        rw [h4, cmt, List.getD_eq_getElem?_getD, List.getElem?_map, List.getElem?_eq_getElem (by omega : k < P.length), List.getD_eq_getElem?_getD, List.getElem?_eq_getElem (by omega : k < P.length)]; rfl
      rw [wrap_succ (by omega), hg, eqP]
      exact ⟨⟨by omega, by omega⟩, hlt, trivial, ⟨by omega, by omega⟩, by omega, trivial, fun h => absurd h (by simp), fun _ => triv_intro ⟨⟨k + 1, hlt, rfl⟩, by rw [Int.toNat_natCast]; omega⟩⟩
    rintro ⟨⟩ _
    refine tr_cut hsp mixed 3 (rGt fm tn old L P0.length d need P O2 n W) True ?_ (fun _ => ?_)
    · refine vcx (X := (((0 : Int) ≤ IntKind.i64.wrap ((↑n : Int) - (1 : Int)) ∧ IntKind.i64.wrap ((↑n : Int) - (1 : Int)) ≤ (↑n : Int)) ∧ (0 : Nat) + L ≤ L ∧ (0 : Nat) + L ≤ L ∧ (0 : Nat) + (need - (0 : Int)).toNat ≤ (2 : Nat) ∧ (0 : Nat) + (IntKind.i64.wrap ((↑n : Int) - (1 : Int)) - (0 : Int)).toNat ≤ n ∧ preRd ((List.take L d, List.take L d, need, List.take (need - (0 : Int)).toNat O2), fm, List.take (IntKind.i64.wrap ((↑n : Int) - (1 : Int)) - (0 : Int)).toNat W, ()) ∧ (((rdF (List.take L d) need (List.take (need - (0 : Int)).toNat O2) fm (List.take (IntKind.i64.wrap ((↑n : Int) - (1 : Int)) - (0 : Int)).toNat W)).snd != (10 : Int)) = true → (false, ()) = (true, ())) ∧ (((rdF (List.take L d) need (List.take (need - (0 : Int)).toNat O2) fm (List.take (IntKind.i64.wrap ((↑n : Int) - (1 : Int)) - (0 : Int)).toNat W)).snd != (10 : Int)) = false → (rGt fm tn old L P0.length d need P O2 n W).triv True))) (by kernel_rfl) ?_
      have e1 : IntKind.i64.wrap ((n : Int) - 1) = ((n - 1 : Nat) : Int) := by rw [wrap_i64' (by omega) (by omega)]; omega
      have e2 : (((n - 1 : Nat) : Int) - 0).toNat = n - 1 := by omega
      simp only [e1, e2, hLd]
      have hs : rdF d need (O2.take (need - 0).toNat) fm (List.take (n - 1) W) = ([], 10) := by
        rw [rdF, if_pos hfd, if_neg]
        rintro ⟨c, _⟩
        rw [List.length_take] at c
        omega
      rw [hs]
      exact ⟨⟨by omega, by omega⟩, by omega, by omega, by omega, by omega, ⟨by show d.length < _; omega, ⟨hOl, hfm⟩, fun x hx => hWb x (List.mem_of_mem_take hx), by show (List.take _ _).length ≤ _; exact Nat.le_trans (List.length_take_le' _ _) (by omega)⟩, fun h => absurd h (by decide), fun _ => triv_intro trivial⟩
    refine tr_vc hsp mixed _ _ ?_
    refine vcx (X := ((decide (tn ≥ (0 : Int)) = true → (decide (tn < (↑n : Int)) = true → ((0 : Int) ≤ tn ∧ tn < (↑n : Int)) ∧ tn.toNat < n ∧ ((0 : Int) ≤ tn ∧ tn < (↑n : Int)) ∧ tn.toNat < n ∧ ((48 : Int) = (0 : Int) → False) ∧ ((0 : Int) ≤ IntKind.i64.wrap (tn - tn.tmod (48 : Int)) ∧ IntKind.i64.wrap (tn - tn.tmod (48 : Int)) ≤ IntKind.i64.wrap (IntKind.i64.wrap (tn - tn.tmod (48 : Int)) + (48 : Int)) ∧ IntKind.i64.wrap (IntKind.i64.wrap (tn - tn.tmod (48 : Int)) + (48 : Int)) ≤ (↑n : Int)) ∧ (IntKind.i64.wrap (tn - tn.tmod (48 : Int))).toNat + (IntKind.i64.wrap (IntKind.i64.wrap (tn - tn.tmod (48 : Int)) + (48 : Int)) - IntKind.i64.wrap (tn - tn.tmod (48 : Int))).toNat ≤ n ∧ ref01.preCopy (List.take (IntKind.i64.wrap (IntKind.i64.wrap (tn - tn.tmod (48 : Int)) + (48 : Int)) - IntKind.i64.wrap (tn - tn.tmod (48 : Int))).toNat (List.drop (IntKind.i64.wrap (tn - tn.tmod (48 : Int))).toNat (W.set tn.toNat (bitOp BinOp.xor IntKind.u8 (W.getD tn.toNat (0 : Int)) (1 : Int)))), ()) ∧ (0 : Nat) + (List.take (IntKind.i64.wrap (IntKind.i64.wrap (tn - tn.tmod (48 : Int)) + (48 : Int)) - IntKind.i64.wrap (tn - tn.tmod (48 : Int))).toNat (List.drop (IntKind.i64.wrap (tn - tn.tmod (48 : Int))).toNat (W.set tn.toNat (bitOp BinOp.xor IntKind.u8 (W.getD tn.toNat (0 : Int)) (1 : Int))))).length ≤ (List.take (IntKind.i64.wrap (IntKind.i64.wrap (tn - tn.tmod (48 : Int)) + (48 : Int)) - IntKind.i64.wrap (tn - tn.tmod (48 : Int))).toNat (List.drop (IntKind.i64.wrap (tn - tn.tmod (48 : Int))).toNat (W.set tn.toNat (bitOp BinOp.xor IntKind.u8 (W.getD tn.toNat (0 : Int)) (1 : Int))))).length ∧ codec.preRG (List.take (List.take (IntKind.i64.wrap (IntKind.i64.wrap (tn - tn.tmod (48 : Int)) + (48 : Int)) - IntKind.i64.wrap (tn - tn.tmod (48 : Int))).toNat (List.drop (IntKind.i64.wrap (tn - tn.tmod (48 : Int))).toNat (W.set tn.toNat (bitOp BinOp.xor IntKind.u8 (W.getD tn.toNat (0 : Int)) (1 : Int))))).length (List.take (IntKind.i64.wrap (IntKind.i64.wrap (tn - tn.tmod (48 : Int)) + (48 : Int)) - IntKind.i64.wrap (tn - tn.tmod (48 : Int))).toNat (List.drop (IntKind.i64.wrap (tn - tn.tmod (48 : Int))).toNat (W.set tn.toNat (bitOp BinOp.xor IntKind.u8 (W.getD tn.toNat (0 : Int)) (1 : Int))))), ()) ∧ (0 : Nat) + L ≤ L ∧ (0 : Nat) + L ≤ L ∧ (0 : Nat) + (need - (0 : Int)).toNat ≤ (2 : Nat) ∧ (0 : Nat) + n ≤ n ∧ preRd ((List.take L d, List.take L d, need, List.take (need - (0 : Int)).toNat O2), fm, List.take n (W.set tn.toNat (bitOp BinOp.xor IntKind.u8 (W.getD tn.toNat (0 : Int)) (1 : Int))), ()) ∧ (((codec.or1 (List.take (List.take (IntKind.i64.wrap (IntKind.i64.wrap (tn - tn.tmod (48 : Int)) + (48 : Int)) - IntKind.i64.wrap (tn - tn.tmod (48 : Int))).toNat (List.drop (IntKind.i64.wrap (tn - tn.tmod (48 : Int))).toNat (W.set tn.toNat (bitOp BinOp.xor IntKind.u8 (W.getD tn.toNat (0 : Int)) (1 : Int))))).length (List.take (IntKind.i64.wrap (IntKind.i64.wrap (tn - tn.tmod (48 : Int)) + (48 : Int)) - IntKind.i64.wrap (tn - tn.tmod (48 : Int))).toNat (List.drop (IntKind.i64.wrap (tn - tn.tmod (48 : Int))).toNat (W.set tn.toNat (bitOp BinOp.xor IntKind.u8 (W.getD tn.toNat (0 : Int)) (1 : Int))))))).snd != (0 : Int)) = true → (((rdF (List.take L d) need (List.take (need - (0 : Int)).toNat O2) fm (List.take n (W.set tn.toNat (bitOp BinOp.xor IntKind.u8 (W.getD tn.toNat (0 : Int)) (1 : Int))))).snd == (codec.or1 (List.take (List.take (IntKind.i64.wrap (IntKind.i64.wrap (tn - tn.tmod (48 : Int)) + (48 : Int)) - IntKind.i64.wrap (tn - tn.tmod (48 : Int))).toNat (List.drop (IntKind.i64.wrap (tn - tn.tmod (48 : Int))).toNat (W.set tn.toNat (bitOp BinOp.xor IntKind.u8 (W.getD tn.toNat (0 : Int)) (1 : Int))))).length (List.take (IntKind.i64.wrap (IntKind.i64.wrap (tn - tn.tmod (48 : Int)) + (48 : Int)) - IntKind.i64.wrap (tn - tn.tmod (48 : Int))).toNat (List.drop (IntKind.i64.wrap (tn - tn.tmod (48 : Int))).toNat (W.set tn.toNat (bitOp BinOp.xor IntKind.u8 (W.getD tn.toNat (0 : Int)) (1 : Int))))))).snd) = true → ((↑(rdF (List.take L d) need (List.take (need - (0 : Int)).toNat O2) fm (List.take n (W.set tn.toNat (bitOp BinOp.xor IntKind.u8 (W.getD tn.toNat (0 : Int)) (1 : Int))))).fst.length : Int) == (0 : Int), ()) = (true, ())) ∧ (((rdF (List.take L d) need (List.take (need - (0 : Int)).toNat O2) fm (List.take n (W.set tn.toNat (bitOp BinOp.xor IntKind.u8 (W.getD tn.toNat (0 : Int)) (1 : Int))))).snd == (codec.or1 (List.take (List.take (IntKind.i64.wrap (IntKind.i64.wrap (tn - tn.tmod (48 : Int)) + (48 : Int)) - IntKind.i64.wrap (tn - tn.tmod (48 : Int))).toNat (List.drop (IntKind.i64.wrap (tn - tn.tmod (48 : Int))).toNat (W.set tn.toNat (bitOp BinOp.xor IntKind.u8 (W.getD tn.toNat (0 : Int)) (1 : Int))))).length (List.take (IntKind.i64.wrap (IntKind.i64.wrap (tn - tn.tmod (48 : Int)) + (48 : Int)) - IntKind.i64.wrap (tn - tn.tmod (48 : Int))).toNat (List.drop (IntKind.i64.wrap (tn - tn.tmod (48 : Int))).toNat (W.set tn.toNat (bitOp BinOp.xor IntKind.u8 (W.getD tn.toNat (0 : Int)) (1 : Int))))))).snd) = false → (false, ()) = (true, ()))) ∧ (((codec.or1 (List.take (List.take (IntKind.i64.wrap (IntKind.i64.wrap (tn - tn.tmod (48 : Int)) + (48 : Int)) - IntKind.i64.wrap (tn - tn.tmod (48 : Int))).toNat (List.drop (IntKind.i64.wrap (tn - tn.tmod (48 : Int))).toNat (W.set tn.toNat (bitOp BinOp.xor IntKind.u8 (W.getD tn.toNat (0 : Int)) (1 : Int))))).length (List.take (IntKind.i64.wrap (IntKind.i64.wrap (tn - tn.tmod (48 : Int)) + (48 : Int)) - IntKind.i64.wrap (tn - tn.tmod (48 : Int))).toNat (List.drop (IntKind.i64.wrap (tn - tn.tmod (48 : Int))).toNat (W.set tn.toNat (bitOp BinOp.xor IntKind.u8 (W.getD tn.toNat (0 : Int)) (1 : Int))))))).snd != (0 : Int)) = false → (old = true → ((IntKind.i64.wrap (tn - tn.tmod (48 : Int)) == (0 : Int)) = true → ((rdF (List.take L d) need (List.take (need - (0 : Int)).toNat O2) fm (List.take n (W.set tn.toNat (bitOp BinOp.xor IntKind.u8 (W.getD tn.toNat (0 : Int)) (1 : Int))))).snd == (31 : Int), ()) = (true, ())) ∧ ((IntKind.i64.wrap (tn - tn.tmod (48 : Int)) == (0 : Int)) = false → (((rdF (List.take L d) need (List.take (need - (0 : Int)).toNat O2) fm (List.take n (W.set tn.toNat (bitOp BinOp.xor IntKind.u8 (W.getD tn.toNat (0 : Int)) (1 : Int))))).snd == (0 : Int)) = true → ((48 : Int) = (0 : Int) → False) ∧ ((0 : Int) ≤ IntKind.i64.wrap (tn.tdiv (48 : Int)) ∧ IntKind.i64.wrap (tn.tdiv (48 : Int)) < (↑(rdF (List.take L d) need (List.take (need - (0 : Int)).toNat O2) fm (List.take n (W.set tn.toNat (bitOp BinOp.xor IntKind.u8 (W.getD tn.toNat (0 : Int)) (1 : Int))))).fst.length : Int)) ∧ (IntKind.i64.wrap (tn.tdiv (48 : Int))).toNat < (rdF (List.take L d) need (List.take (need - (0 : Int)).toNat O2) fm (List.take n (W.set tn.toNat (bitOp BinOp.xor IntKind.u8 (W.getD tn.toNat (0 : Int)) (1 : Int))))).fst.length ∧ (eqC (Kd.fp.pair Kd.fp) ((rdF (List.take L d) need (List.take (need - (0 : Int)).toNat O2) fm (List.take n (W.set tn.toNat (bitOp BinOp.xor IntKind.u8 (W.getD tn.toNat (0 : Int)) (1 : Int))))).fst.getD (IntKind.i64.wrap (tn.tdiv (48 : Int))).toNat ((0 : Fp), (0 : Fp))) (codec.or1 (List.take (List.take (IntKind.i64.wrap (IntKind.i64.wrap (tn - tn.tmod (48 : Int)) + (48 : Int)) - IntKind.i64.wrap (tn - tn.tmod (48 : Int))).toNat (List.drop (IntKind.i64.wrap (tn - tn.tmod (48 : Int))).toNat (W.set tn.toNat (bitOp BinOp.xor IntKind.u8 (W.getD tn.toNat (0 : Int)) (1 : Int))))).length (List.take (IntKind.i64.wrap (IntKind.i64.wrap (tn - tn.tmod (48 : Int)) + (48 : Int)) - IntKind.i64.wrap (tn - tn.tmod (48 : Int))).toNat (List.drop (IntKind.i64.wrap (tn - tn.tmod (48 : Int))).toNat (W.set tn.toNat (bitOp BinOp.xor IntKind.u8 (W.getD tn.toNat (0 : Int)) (1 : Int))))))).fst, ()) = (true, ())) ∧ (((rdF (List.take L d) need (List.take (need - (0 : Int)).toNat O2) fm (List.take n (W.set tn.toNat (bitOp BinOp.xor IntKind.u8 (W.getD tn.toNat (0 : Int)) (1 : Int))))).snd == (0 : Int)) = false → (false, ()) = (true, ())))) ∧ (old = false → (((rdF (List.take L d) need (List.take (need - (0 : Int)).toNat O2) fm (List.take n (W.set tn.toNat (bitOp BinOp.xor IntKind.u8 (W.getD tn.toNat (0 : Int)) (1 : Int))))).snd == (0 : Int)) = true → ((48 : Int) = (0 : Int) → False) ∧ ((0 : Int) ≤ IntKind.i64.wrap (tn.tdiv (48 : Int)) ∧ IntKind.i64.wrap (tn.tdiv (48 : Int)) < (↑(rdF (List.take L d) need (List.take (need - (0 : Int)).toNat O2) fm (List.take n (W.set tn.toNat (bitOp BinOp.xor IntKind.u8 (W.getD tn.toNat (0 : Int)) (1 : Int))))).fst.length : Int)) ∧ (IntKind.i64.wrap (tn.tdiv (48 : Int))).toNat < (rdF (List.take L d) need (List.take (need - (0 : Int)).toNat O2) fm (List.take n (W.set tn.toNat (bitOp BinOp.xor IntKind.u8 (W.getD tn.toNat (0 : Int)) (1 : Int))))).fst.length ∧ (eqC (Kd.fp.pair Kd.fp) ((rdF (List.take L d) need (List.take (need - (0 : Int)).toNat O2) fm (List.take n (W.set tn.toNat (bitOp BinOp.xor IntKind.u8 (W.getD tn.toNat (0 : Int)) (1 : Int))))).fst.getD (IntKind.i64.wrap (tn.tdiv (48 : Int))).toNat ((0 : Fp), (0 : Fp))) (codec.or1 (List.take (List.take (IntKind.i64.wrap (IntKind.i64.wrap (tn - tn.tmod (48 : Int)) + (48 : Int)) - IntKind.i64.wrap (tn - tn.tmod (48 : Int))).toNat (List.drop (IntKind.i64.wrap (tn - tn.tmod (48 : Int))).toNat (W.set tn.toNat (bitOp BinOp.xor IntKind.u8 (W.getD tn.toNat (0 : Int)) (1 : Int))))).length (List.take (IntKind.i64.wrap (IntKind.i64.wrap (tn - tn.tmod (48 : Int)) + (48 : Int)) - IntKind.i64.wrap (tn - tn.tmod (48 : Int))).toNat (List.drop (IntKind.i64.wrap (tn - tn.tmod (48 : Int))).toNat (W.set tn.toNat (bitOp BinOp.xor IntKind.u8 (W.getD tn.toNat (0 : Int)) (1 : Int))))))).fst, ()) = (true, ())) ∧ (((rdF (List.take L d) need (List.take (need - (0 : Int)).toNat O2) fm (List.take n (W.set tn.toNat (bitOp BinOp.xor IntKind.u8 (W.getD tn.toNat (0 : Int)) (1 : Int))))).snd == (0 : Int)) = false → (false, ()) = (true, ()))))) ∧ (decide (tn < (↑n : Int)) = false → (true, ()) = (true, ()))) ∧ (decide (tn ≥ (0 : Int)) = false → (true, ()) = (true, ())))) (by kernel_rfl) ?_
    refine ⟨fun c1 => ⟨fun c2 => ?_, fun _ => rfl⟩, fun _ => rfl⟩
    obtain ⟨t, rfl⟩ := Int.eq_ofNat_of_zero_le (of_decide_eq_true c1)
    have htn : t < n := by have := of_decide_eq_true c2; omega
    have hq : t / 48 < (cmt P).length := by omega
    have eAT : IntKind.i64.wrap ((t : Int) - (t : Int).tmod 48) = ((48 * (t / 48) : Nat) : Int) := by
      have : (t : Int).tmod 48 = ((t % 48 : Nat) : Int) := rfl
      rw [this, wrap_i64' (by omega) (by omega)]; omega
    have eF : IntKind.i64.wrap (((48 * (t / 48) : Nat) : Int) + 48) = ((48 * (t / 48) + 48 : Nat) : Int) := by rw [wrap_i64' (by omega) (by omega)]; omega
    have eD : IntKind.i64.wrap ((t : Int).tdiv 48) = ((t / 48 : Nat) : Int) := by
      have : (t : Int).tdiv 48 = ((t / 48 : Nat) : Int) := rfl
      rw [this, wrap_i64' (by omega) (by omega)]
    have e48 : (((48 * (t / 48) + 48 : Nat) : Int) - ((48 * (t / 48) : Nat) : Int)).toNat = 48 := by omega
    simp only [eAT, eF, eD, e48, Int.toNat_natCast, hLd]
    have hx0 : 0 ≤ W.getD t 0 ∧ W.getD t 0 < 256 := by
      rw [List.getD_eq_getElem?_getD, List.getElem?_eq_getElem (by omega), Option.getD_some]
      exact hWb _ (List.getElem_mem _)
    have hv := xor1_ne hx0.1 hx0.2
    have hvb := codec.xor_u8 (W.getD t 0) 1
    generalize hvv : bitOp BinOp.xor IntKind.u8 (W.getD t 0) 1 = v at *
    have hW2l : (W.set t v).length = n := by rw [List.length_set, h1]
    have tW2 : List.take n (W.set t v) = W.set t v := List.take_of_length_le (by omega)
    have ePC : List.take 48 (List.drop (48 * (t / 48)) (W.set t v)) = pcs (W.set t v) (t / 48) := rfl
    have hW2b : Bs (W.set t v) := set_BsAt hWb hvb
    have hpl : (pcs (W.set t v) (t / 48)).length = 48 := by rw [pcs, List.length_take, List.length_drop]; omega
    have prg : codec.preRG (pcs (W.set t v) (t / 48), ()) := ⟨fun x hx => hW2b x (List.mem_of_mem_drop (List.mem_of_mem_take hx)), by show (pcs _ _).length ≤ _; omega⟩
    have pr2 : preRd ((d, d, need, (O2.take (need - 0).toNat)), fm, W.set t v, ()) := ⟨by show d.length < _; omega, ⟨hOl, hfm⟩, hW2b, by show (W.set t v).length ≤ _; omega⟩
    obtain ⟨r1, r2, r3⟩ := rd_set (need := need) (fm := fm) (O := (O2.take (need - 0).toNat)) hsub hfd (by omega) hq (hO.imp id fun c => by rw [c, hC0]) hvb (by rw [← h2]; exact hv)
    have hpt : (codec.or1 (pcs ((wrF (cmt P)).set t v) (t / 48))).2 = 0 → (ptK ((wrF (cmt P)).set t v) (cmt P).length).getD (t / 48) (0, 0) = (codec.or1 (pcs ((wrF (cmt P)).set t v) (t / 48))).1 := fun _ => by rw [pt_set hsub v hq, if_pos rfl]
    rw [← h2] at r1 r2 r3 hpt
    simp only [tW2, ePC, List.take_length, eqP]
    have hpk := ptK_len (W.set t v) (cmt P).length
    generalize pcs (W.set t v) (t / 48) = pc at *
    generalize ptK (W.set t v) (cmt P).length = pk at *
    refine ⟨⟨by omega, by omega⟩, by omega, ⟨by omega, by omega⟩, by omega, by decide, ⟨by omega, by omega, by omega⟩, by omega, by show pc.length ≤ _; omega, by omega, prg, by omega, by omega, by omega, by omega, pr2, fun h => ?_, fun h => ?_⟩
    · rw [r1 (bne_iff_ne.1 h)]
      exact ⟨fun _ => rfl, fun h => absurd h (by simp)⟩
    · have hz : (codec.or1 pc).2 = 0 := by simpa using h
      refine ⟨fun _ => ⟨fun ha => ?_, fun ha => ?_⟩, fun c => absurd (ht.symm.trans c) (by decide)⟩
      · have hq0 : t / 48 = 0 := by have : ((48 * (t / 48) : Nat) : Int) = 0 := by simpa using ha
                                    omega
        rw [r3 hz hOne hq0]
        rfl
      · have hq0 : ¬ t / 48 = 0 := fun c => by rw [c] at ha; simp at ha
        rw [r2 hz (.inr hq0)]
        exact ⟨fun _ => ⟨by decide, ⟨by omega, by show _ < ((pk.length : Nat) : Int); omega⟩, by show _ < pk.length; omega, by show (decide (pk.getD (t / 48) (0, 0) = _), ()) = _; rw [hpt hz]; simp⟩, fun h => absurd h (by simp)⟩
  · refine tr_cut hsp mixed 0 (rCf fm tn old L P0.length d need P0 []) True ?_ (fun _ => ?_)
    · refine vcx (X := ((rCf fm tn old L P0.length d need P0 []).triv True)) (by kernel_rfl) ?_
      exact triv_intro trivial
    have hP : P0 = mdP b (bitOp BinOp.and IntKind.i64 fm (15 : Int)) need.toNat := hP0
    obtain ⟨P, eP⟩ : ∃ P : List Fr, P = P0 := ⟨_, rfl⟩
    rw [← eP] at hP
    have hPN : P.length = P0.length := by rw [eP]
    refine tr_cut hsp mixed 0 (rCf fm tn old L P0.length d need P []) True ?_ (fun _ => ?_)
    · rw [eP]
      refine vcx (X := ((rCf fm tn old L P0.length d need P0 []).triv True)) (by kernel_rfl) ?_
      exact triv_intro trivial
    have hO : ([] : List (Fp × Fp)) = [] ∨ catF fm ([] : List (Fp × Fp)) = g1.gmul g1.gG (P.getD 0 0) := .inl rfl
    have hOl : List.length ([] : List (Fp × Fp)) < 4611686018427387904 := by decide
    have hPn : P.length = need.toNat := by omega
    have hCl : (cmt P).length = need.toNat := by rw [cmt, List.length_map, hPn]
    have hsub : ∀ p ∈ cmt P, g1.Sub p := fun p hp => by
      obtain ⟨k, _, rfl⟩ := List.mem_map.1 hp
      exact g1.sub_gmul g1.sub_G k
    have hWl : (wrF (cmt P)).length = 48 * need.toNat := by rw [wrF_len, hCl]
    have hC0 : (cmt P).getD 0 (0, 0) = g1.gmul g1.gG (P.getD 0 0) := by
      rw [cmt, List.getD_eq_getElem?_getD, List.getElem?_map, List.getElem?_eq_getElem (by omega : 0 < P.length), List.getD_eq_getElem?_getD, List.getElem?_eq_getElem (by omega : 0 < P.length)]; rfl
    refine tr_cutF hsp mixed 3 (fun σ => (rdL 16 σ, rdR (.int .u8) 240 σ)) (rDf fm tn old L P0.length d need P []) (fun g => g.1 = g.2.length ∧ g.2 = wrF (cmt P)) ?_ ?_
    · refine vcx (X := ((0 : Nat) + P0.length ≤ P0.length ∧ preCommit (List.take P0.length P, ()) ∧ (0 : Nat) + (cmt (List.take P0.length P)).length ≤ (cmt (List.take P0.length P)).length ∧ preWrite (List.take (cmt (List.take P0.length P)).length (cmt (List.take P0.length P)), ()) ∧ (((↑(wro (List.take (cmt (List.take P0.length P)).length (cmt (List.take P0.length P)))).length : Int) != IntKind.i64.wrap ((48 : Int) * need)) = true → (false, ()) = (true, ())) ∧ (((↑(wro (List.take (cmt (List.take P0.length P)).length (cmt (List.take P0.length P)))).length : Int) != IntKind.i64.wrap ((48 : Int) * need)) = false → (rDf fm tn old L P0.length d need P [] ((wro (List.take (cmt (List.take P0.length P)).length (cmt (List.take P0.length P))), ()).fst.length, (wro (List.take (cmt (List.take P0.length P)).length (cmt (List.take P0.length P))), ()).fst)).triv ((wro (List.take (cmt (List.take P0.length P)).length (cmt (List.take P0.length P)))).length = (wro (List.take (cmt (List.take P0.length P)).length (cmt (List.take P0.length P)))).length ∧ wro (List.take (cmt (List.take P0.length P)).length (cmt (List.take P0.length P))) = wrF (cmt P))))) (by kernel_rfl) ?_
      have tP : List.take P0.length P = P := List.take_of_length_le (by omega)
      have eW : wro (cmt P) = wrF (cmt P) := by rw [wro, opq_eq]
      rw [tP, List.take_length, eW, hWl, wrap_i64' (by omega) (by omega)]
      refine ⟨by omega, by show P.length < _; omega, by omega, by show (cmt P).length ≤ _; omega, fun h => absurd h (by simp; omega), fun h => triv_intro ⟨rfl, rfl⟩⟩
    rintro ⟨n, W⟩ hK
    revert W
    intro (W : List Int) ⟨h1, h2⟩
    have h1 : n = W.length := h1
    have h2 : W = wrF (cmt P) := h2
    have hn48 : n = 48 * need.toNat := by rw [h1, h2, hWl]
    have hWb : Bs W := by rw [h2]; exact wrF_Bs _
    have hLd : List.take L d = d := List.take_of_length_le (by omega)
    have hrd : fm ∈ d → rdF d need ([] : List (Fp × Fp)) fm W = (cmt P, 0) := fun hfd => by
      rw [rdF, if_pos hfd, if_pos ⟨by omega, by omega⟩, show W.length / 48 = (cmt P).length by omega, h2, err_wr hsub, if_pos rfl, pt_wr hsub, if_pos]
      rcases hO with c | c
      · exact .inl c
      · exact .inr ⟨by omega, by rw [c, hC0]⟩
    have hrn : ¬ fm ∈ d → rdF d need ([] : List (Fp × Fp)) fm W = ([], 34) := fun hfd => by rw [rdF, if_neg hfd]
    have ss : ∀ l : List Int, ref01.sameF l l = true := fun l => by rw [ref01.sameF]; simp
    have pr : preRd ((d, d, need, ([] : List (Fp × Fp))), fm, W, ()) := ⟨by show d.length < _; omega, ⟨hOl, hfm⟩, hWb, by show W.length ≤ _; omega⟩
    refine tr_cutF hsp mixed 8 (fun σ => (rdL 18 σ, rdR pt1 304 σ)) (rEf fm tn old L P0.length d need P [] n W) (fun g => g.1 = g.2.length ∧ g.2 = cmt P ∧ fm ∈ d) ?_ ?_
    · refine vcx (X := ((0 : Nat) + n ≤ n ∧ ref01.preCopy (List.take n W, ()) ∧ (0 : Nat) + L ≤ L ∧ (0 : Nat) + L ≤ L ∧ (0 : Nat) + (List.take n W).length ≤ (List.take n W).length ∧ preRd ((List.take L d, List.take L d, need, []), fm, List.take (List.take n W).length (List.take n W), ()) ∧ (0 : Nat) + (List.take n W).length ≤ (List.take n W).length ∧ (0 : Nat) + n ≤ n ∧ ref01.preSame (List.take (List.take n W).length (List.take n W), List.take n W, ()) ∧ ((!ref01.sameF (List.take (List.take n W).length (List.take n W)) (List.take n W)) = true → (false, ()) = (true, ())) ∧ ((!ref01.sameF (List.take (List.take n W).length (List.take n W)) (List.take n W)) = false → (0 : Nat) + L ≤ L ∧ preIn (List.take L d, fm, ()) ∧ ((!decide (fm ∈ List.take L d)) = true → (((rdF (List.take L d) need [] fm (List.take (List.take n W).length (List.take n W))).snd == (34 : Int)) = true → ((↑(rdF (List.take L d) need [] fm (List.take (List.take n W).length (List.take n W))).fst.length : Int) == (0 : Int), ()) = (true, ())) ∧ (((rdF (List.take L d) need [] fm (List.take (List.take n W).length (List.take n W))).snd == (34 : Int)) = false → (false, ()) = (true, ()))) ∧ ((!decide (fm ∈ List.take L d)) = false → (((rdF (List.take L d) need [] fm (List.take (List.take n W).length (List.take n W))).snd != (0 : Int)) = true → (false, ()) = (true, ())) ∧ (((rdF (List.take L d) need [] fm (List.take (List.take n W).length (List.take n W))).snd != (0 : Int)) = false → (((↑(rdF (List.take L d) need [] fm (List.take (List.take n W).length (List.take n W))).fst.length : Int) != need) = true → (false, ()) = (true, ())) ∧ (((↑(rdF (List.take L d) need [] fm (List.take (List.take n W).length (List.take n W))).fst.length : Int) != need) = false → (rEf fm tn old L P0.length d need P [] n W ((rdF (List.take L d) need [] fm (List.take (List.take n W).length (List.take n W))).fst.length, (rdF (List.take L d) need [] fm (List.take (List.take n W).length (List.take n W))).fst)).triv ((rdF (List.take L d) need [] fm (List.take (List.take n W).length (List.take n W))).fst.length = (rdF (List.take L d) need [] fm (List.take (List.take n W).length (List.take n W))).fst.length ∧ (rdF (List.take L d) need [] fm (List.take (List.take n W).length (List.take n W))).fst = cmt P ∧ fm ∈ d))))))) (by kernel_rfl) ?_
      have tW : List.take n W = W := List.take_of_length_le (by omega)
      simp only [tW, List.take_length, hLd, ss]
      refine ⟨by omega, by show W.length ≤ _; omega, by omega, by omega, by omega, pr, by omega, by omega, by show W.length < _; omega, fun h => absurd h (by decide), fun _ => ⟨by omega, by show d.length < _; omega, fun h => ?_, fun h => ?_⟩⟩
      · have h : ¬ fm ∈ d := by simpa using h
        rw [hrn h]
        exact ⟨fun _ => rfl, fun h => absurd h (by decide)⟩
      · have h : fm ∈ d := by simpa using h
        rw [hrd h]
        refine ⟨fun h => absurd h (by simp), fun _ => ⟨fun h => ?_, fun _ => triv_intro (by first | exact ⟨rfl, rfl, h⟩ | exact ⟨trivial, rfl, h⟩ | exact ⟨trivial, trivial, h⟩)⟩⟩
        have h : ¬ ((cmt P).length : Int) = need := bne_iff_ne.1 h
        omega
    rintro ⟨m, C⟩ hK
    revert C
    intro (C : List (Fp × Fp)) ⟨h3, h4, hfd⟩
    have h3 : m = C.length := h3
    have h4 : C = cmt P := h4
    have hm : m = need.toNat := by rw [h3, h4, hCl]
    refine tr_cut hsp mixed 1 (rFf fm tn old L P0.length d need P [] n W m C 0) True ?_ (fun _ => ?_)
    · refine vcx (X := ((rFf fm tn old L P0.length d need P [] n W m C (0 : Int)).triv True)) (by kernel_rfl) ?_
      exact triv_intro trivial
    refine tr_while hsp mixed noSw (fun σ => rdS (.int .i64) 112 σ) (rFf fm tn old L P0.length d need P [] n W m C) (fun g => ∃ k : Nat, k ≤ m ∧ g = (k : Int)) (fun g => m - g.toNat)
      (fun _ => ()) (fun _ => rGf fm tn old L P0.length d need P [] n W) (fun _ => True) 0 (c := nthC (codeOf Try.f8) 27) (by kernel_rfl) (by kernel_rfl) (le_of_proj (by kernel_rfl) (by kernel_rfl) ?_) ?_ ?_
    · exact ⟨0, Nat.zero_le _, rfl⟩
    · intro (i : Int) ⟨k, hk, ei⟩
      subst ei
      refine vcx (X := ((decide ((↑k : Int) < (↑m : Int)) = true → ((0 : Int) ≤ (↑k : Int) ∧ (↑k : Int) < (↑m : Int)) ∧ (↑k : Int).toNat < m ∧ True ∧ ((0 : Int) ≤ (↑k : Int) ∧ (↑k : Int) < (↑P0.length : Int)) ∧ (↑k : Int).toNat < P0.length ∧ True ∧ ((!eqC (Kd.fp.pair Kd.fp) (C.getD (↑k : Int).toNat ((0 : Fp), (0 : Fp))) (g1.gmul g1.gG (P.getD (↑k : Int).toNat (0 : Fr)))) = true → (false, ()) = (true, ())) ∧ ((!eqC (Kd.fp.pair Kd.fp) (C.getD (↑k : Int).toNat ((0 : Fp), (0 : Fp))) (g1.gmul g1.gG (P.getD (↑k : Int).toNat (0 : Fr)))) = false → (rFf fm tn old L P0.length d need P [] n W m C (IntKind.i64.wrap ((↑k : Int) + (1 : Int)))).triv ((∃ k_1, k_1 ≤ m ∧ IntKind.i64.wrap ((↑k : Int) + (1 : Int)) = (↑k_1 : Int)) ∧ m - (IntKind.i64.wrap ((↑k : Int) + (1 : Int))).toNat < m - (↑k : Int).toNat))) ∧ (decide ((↑k : Int) < (↑m : Int)) = false → (rGf fm tn old L P0.length d need P [] n W).triv True))) (by kernel_rfl) ?_
      rw [Int.toNat_natCast]
      refine ⟨fun h => ?_, fun h => triv_intro trivial⟩
      have hlt : k < m := by have := dec_lt h; omega
      have hg : C.getD k (0, 0) = g1.gmul g1.gG (P.getD k 0) := by
        rw [h4, cmt, List.getD_eq_getElem?_getD, List.getElem?_map, List.getElem?_eq_getElem (by omega : k < P.length), List.getD_eq_getElem?_getD, List.getElem?_eq_getElem (by omega : k < P.length)]; rfl
      rw [wrap_succ (by omega), hg, eqP]
      exact ⟨⟨by omega, by omega⟩, hlt, trivial, ⟨by omega, by omega⟩, by omega, trivial, fun h => absurd h (by simp), fun _ => triv_intro ⟨⟨k + 1, hlt, rfl⟩, by rw [Int.toNat_natCast]; omega⟩⟩
    rintro ⟨⟩ _
    refine tr_cut hsp mixed 3 (rGf fm tn old L P0.length d need P [] n W) True ?_ (fun _ => ?_)
    · refine vcx (X := (((0 : Int) ≤ IntKind.i64.wrap ((↑n : Int) - (1 : Int)) ∧ IntKind.i64.wrap ((↑n : Int) - (1 : Int)) ≤ (↑n : Int)) ∧ (0 : Nat) + L ≤ L ∧ (0 : Nat) + L ≤ L ∧ (0 : Nat) + (IntKind.i64.wrap ((↑n : Int) - (1 : Int)) - (0 : Int)).toNat ≤ n ∧ preRd ((List.take L d, List.take L d, need, []), fm, List.take (IntKind.i64.wrap ((↑n : Int) - (1 : Int)) - (0 : Int)).toNat W, ()) ∧ (((rdF (List.take L d) need [] fm (List.take (IntKind.i64.wrap ((↑n : Int) - (1 : Int)) - (0 : Int)).toNat W)).snd != (10 : Int)) = true → (false, ()) = (true, ())) ∧ (((rdF (List.take L d) need [] fm (List.take (IntKind.i64.wrap ((↑n : Int) - (1 : Int)) - (0 : Int)).toNat W)).snd != (10 : Int)) = false → (rGf fm tn old L P0.length d need P [] n W).triv True))) (by kernel_rfl) ?_
      have e1 : IntKind.i64.wrap ((n : Int) - 1) = ((n - 1 : Nat) : Int) := by rw [wrap_i64' (by omega) (by omega)]; omega
      have e2 : (((n - 1 : Nat) : Int) - 0).toNat = n - 1 := by omega
      simp only [e1, e2, hLd]
      have hs : rdF d need ([] : List (Fp × Fp)) fm (List.take (n - 1) W) = ([], 10) := by
        rw [rdF, if_pos hfd, if_neg]
        rintro ⟨c, _⟩
        rw [List.length_take] at c
        omega
      rw [hs]
      exact ⟨⟨by omega, by omega⟩, by omega, by omega, by omega, ⟨by show d.length < _; omega, ⟨hOl, hfm⟩, fun x hx => hWb x (List.mem_of_mem_take hx), by show (List.take _ _).length ≤ _; exact Nat.le_trans (List.length_take_le' _ _) (by omega)⟩, fun h => absurd h (by decide), fun _ => triv_intro trivial⟩
    refine tr_vc hsp mixed _ _ ?_
    refine vcx (X := ((decide (tn ≥ (0 : Int)) = true → (decide (tn < (↑n : Int)) = true → ((0 : Int) ≤ tn ∧ tn < (↑n : Int)) ∧ tn.toNat < n ∧ ((0 : Int) ≤ tn ∧ tn < (↑n : Int)) ∧ tn.toNat < n ∧ ((48 : Int) = (0 : Int) → False) ∧ ((0 : Int) ≤ IntKind.i64.wrap (tn - tn.tmod (48 : Int)) ∧ IntKind.i64.wrap (tn - tn.tmod (48 : Int)) ≤ IntKind.i64.wrap (IntKind.i64.wrap (tn - tn.tmod (48 : Int)) + (48 : Int)) ∧ IntKind.i64.wrap (IntKind.i64.wrap (tn - tn.tmod (48 : Int)) + (48 : Int)) ≤ (↑n : Int)) ∧ (IntKind.i64.wrap (tn - tn.tmod (48 : Int))).toNat + (IntKind.i64.wrap (IntKind.i64.wrap (tn - tn.tmod (48 : Int)) + (48 : Int)) - IntKind.i64.wrap (tn - tn.tmod (48 : Int))).toNat ≤ n ∧ ref01.preCopy (List.take (IntKind.i64.wrap (IntKind.i64.wrap (tn - tn.tmod (48 : Int)) + (48 : Int)) - IntKind.i64.wrap (tn - tn.tmod (48 : Int))).toNat (List.drop (IntKind.i64.wrap (tn - tn.tmod (48 : Int))).toNat (W.set tn.toNat (bitOp BinOp.xor IntKind.u8 (W.getD tn.toNat (0 : Int)) (1 : Int)))), ()) ∧ (0 : Nat) + (List.take (IntKind.i64.wrap (IntKind.i64.wrap (tn - tn.tmod (48 : Int)) + (48 : Int)) - IntKind.i64.wrap (tn - tn.tmod (48 : Int))).toNat (List.drop (IntKind.i64.wrap (tn - tn.tmod (48 : Int))).toNat (W.set tn.toNat (bitOp BinOp.xor IntKind.u8 (W.getD tn.toNat (0 : Int)) (1 : Int))))).length ≤ (List.take (IntKind.i64.wrap (IntKind.i64.wrap (tn - tn.tmod (48 : Int)) + (48 : Int)) - IntKind.i64.wrap (tn - tn.tmod (48 : Int))).toNat (List.drop (IntKind.i64.wrap (tn - tn.tmod (48 : Int))).toNat (W.set tn.toNat (bitOp BinOp.xor IntKind.u8 (W.getD tn.toNat (0 : Int)) (1 : Int))))).length ∧ codec.preRG (List.take (List.take (IntKind.i64.wrap (IntKind.i64.wrap (tn - tn.tmod (48 : Int)) + (48 : Int)) - IntKind.i64.wrap (tn - tn.tmod (48 : Int))).toNat (List.drop (IntKind.i64.wrap (tn - tn.tmod (48 : Int))).toNat (W.set tn.toNat (bitOp BinOp.xor IntKind.u8 (W.getD tn.toNat (0 : Int)) (1 : Int))))).length (List.take (IntKind.i64.wrap (IntKind.i64.wrap (tn - tn.tmod (48 : Int)) + (48 : Int)) - IntKind.i64.wrap (tn - tn.tmod (48 : Int))).toNat (List.drop (IntKind.i64.wrap (tn - tn.tmod (48 : Int))).toNat (W.set tn.toNat (bitOp BinOp.xor IntKind.u8 (W.getD tn.toNat (0 : Int)) (1 : Int))))), ()) ∧ (0 : Nat) + L ≤ L ∧ (0 : Nat) + L ≤ L ∧ (0 : Nat) + n ≤ n ∧ preRd ((List.take L d, List.take L d, need, []), fm, List.take n (W.set tn.toNat (bitOp BinOp.xor IntKind.u8 (W.getD tn.toNat (0 : Int)) (1 : Int))), ()) ∧ (((codec.or1 (List.take (List.take (IntKind.i64.wrap (IntKind.i64.wrap (tn - tn.tmod (48 : Int)) + (48 : Int)) - IntKind.i64.wrap (tn - tn.tmod (48 : Int))).toNat (List.drop (IntKind.i64.wrap (tn - tn.tmod (48 : Int))).toNat (W.set tn.toNat (bitOp BinOp.xor IntKind.u8 (W.getD tn.toNat (0 : Int)) (1 : Int))))).length (List.take (IntKind.i64.wrap (IntKind.i64.wrap (tn - tn.tmod (48 : Int)) + (48 : Int)) - IntKind.i64.wrap (tn - tn.tmod (48 : Int))).toNat (List.drop (IntKind.i64.wrap (tn - tn.tmod (48 : Int))).toNat (W.set tn.toNat (bitOp BinOp.xor IntKind.u8 (W.getD tn.toNat (0 : Int)) (1 : Int))))))).snd != (0 : Int)) = true → (((rdF (List.take L d) need [] fm (List.take n (W.set tn.toNat (bitOp BinOp.xor IntKind.u8 (W.getD tn.toNat (0 : Int)) (1 : Int))))).snd == (codec.or1 (List.take (List.take (IntKind.i64.wrap (IntKind.i64.wrap (tn - tn.tmod (48 : Int)) + (48 : Int)) - IntKind.i64.wrap (tn - tn.tmod (48 : Int))).toNat (List.drop (IntKind.i64.wrap (tn - tn.tmod (48 : Int))).toNat (W.set tn.toNat (bitOp BinOp.xor IntKind.u8 (W.getD tn.toNat (0 : Int)) (1 : Int))))).length (List.take (IntKind.i64.wrap (IntKind.i64.wrap (tn - tn.tmod (48 : Int)) + (48 : Int)) - IntKind.i64.wrap (tn - tn.tmod (48 : Int))).toNat (List.drop (IntKind.i64.wrap (tn - tn.tmod (48 : Int))).toNat (W.set tn.toNat (bitOp BinOp.xor IntKind.u8 (W.getD tn.toNat (0 : Int)) (1 : Int))))))).snd) = true → ((↑(rdF (List.take L d) need [] fm (List.take n (W.set tn.toNat (bitOp BinOp.xor IntKind.u8 (W.getD tn.toNat (0 : Int)) (1 : Int))))).fst.length : Int) == (0 : Int), ()) = (true, ())) ∧ (((rdF (List.take L d) need [] fm (List.take n (W.set tn.toNat (bitOp BinOp.xor IntKind.u8 (W.getD tn.toNat (0 : Int)) (1 : Int))))).snd == (codec.or1 (List.take (List.take (IntKind.i64.wrap (IntKind.i64.wrap (tn - tn.tmod (48 : Int)) + (48 : Int)) - IntKind.i64.wrap (tn - tn.tmod (48 : Int))).toNat (List.drop (IntKind.i64.wrap (tn - tn.tmod (48 : Int))).toNat (W.set tn.toNat (bitOp BinOp.xor IntKind.u8 (W.getD tn.toNat (0 : Int)) (1 : Int))))).length (List.take (IntKind.i64.wrap (IntKind.i64.wrap (tn - tn.tmod (48 : Int)) + (48 : Int)) - IntKind.i64.wrap (tn - tn.tmod (48 : Int))).toNat (List.drop (IntKind.i64.wrap (tn - tn.tmod (48 : Int))).toNat (W.set tn.toNat (bitOp BinOp.xor IntKind.u8 (W.getD tn.toNat (0 : Int)) (1 : Int))))))).snd) = false → (false, ()) = (true, ()))) ∧ (((codec.or1 (List.take (List.take (IntKind.i64.wrap (IntKind.i64.wrap (tn - tn.tmod (48 : Int)) + (48 : Int)) - IntKind.i64.wrap (tn - tn.tmod (48 : Int))).toNat (List.drop (IntKind.i64.wrap (tn - tn.tmod (48 : Int))).toNat (W.set tn.toNat (bitOp BinOp.xor IntKind.u8 (W.getD tn.toNat (0 : Int)) (1 : Int))))).length (List.take (IntKind.i64.wrap (IntKind.i64.wrap (tn - tn.tmod (48 : Int)) + (48 : Int)) - IntKind.i64.wrap (tn - tn.tmod (48 : Int))).toNat (List.drop (IntKind.i64.wrap (tn - tn.tmod (48 : Int))).toNat (W.set tn.toNat (bitOp BinOp.xor IntKind.u8 (W.getD tn.toNat (0 : Int)) (1 : Int))))))).snd != (0 : Int)) = false → (old = true → ((IntKind.i64.wrap (tn - tn.tmod (48 : Int)) == (0 : Int)) = true → ((rdF (List.take L d) need [] fm (List.take n (W.set tn.toNat (bitOp BinOp.xor IntKind.u8 (W.getD tn.toNat (0 : Int)) (1 : Int))))).snd == (31 : Int), ()) = (true, ())) ∧ ((IntKind.i64.wrap (tn - tn.tmod (48 : Int)) == (0 : Int)) = false → (((rdF (List.take L d) need [] fm (List.take n (W.set tn.toNat (bitOp BinOp.xor IntKind.u8 (W.getD tn.toNat (0 : Int)) (1 : Int))))).snd == (0 : Int)) = true → ((48 : Int) = (0 : Int) → False) ∧ ((0 : Int) ≤ IntKind.i64.wrap (tn.tdiv (48 : Int)) ∧ IntKind.i64.wrap (tn.tdiv (48 : Int)) < (↑(rdF (List.take L d) need [] fm (List.take n (W.set tn.toNat (bitOp BinOp.xor IntKind.u8 (W.getD tn.toNat (0 : Int)) (1 : Int))))).fst.length : Int)) ∧ (IntKind.i64.wrap (tn.tdiv (48 : Int))).toNat < (rdF (List.take L d) need [] fm (List.take n (W.set tn.toNat (bitOp BinOp.xor IntKind.u8 (W.getD tn.toNat (0 : Int)) (1 : Int))))).fst.length ∧ (eqC (Kd.fp.pair Kd.fp) ((rdF (List.take L d) need [] fm (List.take n (W.set tn.toNat (bitOp BinOp.xor IntKind.u8 (W.getD tn.toNat (0 : Int)) (1 : Int))))).fst.getD (IntKind.i64.wrap (tn.tdiv (48 : Int))).toNat ((0 : Fp), (0 : Fp))) (codec.or1 (List.take (List.take (IntKind.i64.wrap (IntKind.i64.wrap (tn - tn.tmod (48 : Int)) + (48 : Int)) - IntKind.i64.wrap (tn - tn.tmod (48 : Int))).toNat (List.drop (IntKind.i64.wrap (tn - tn.tmod (48 : Int))).toNat (W.set tn.toNat (bitOp BinOp.xor IntKind.u8 (W.getD tn.toNat (0 : Int)) (1 : Int))))).length (List.take (IntKind.i64.wrap (IntKind.i64.wrap (tn - tn.tmod (48 : Int)) + (48 : Int)) - IntKind.i64.wrap (tn - tn.tmod (48 : Int))).toNat (List.drop (IntKind.i64.wrap (tn - tn.tmod (48 : Int))).toNat (W.set tn.toNat (bitOp BinOp.xor IntKind.u8 (W.getD tn.toNat (0 : Int)) (1 : Int))))))).fst, ()) = (true, ())) ∧ (((rdF (List.take L d) need [] fm (List.take n (W.set tn.toNat (bitOp BinOp.xor IntKind.u8 (W.getD tn.toNat (0 : Int)) (1 : Int))))).snd == (0 : Int)) = false → (false, ()) = (true, ())))) ∧ (old = false → (((rdF (List.take L d) need [] fm (List.take n (W.set tn.toNat (bitOp BinOp.xor IntKind.u8 (W.getD tn.toNat (0 : Int)) (1 : Int))))).snd == (0 : Int)) = true → ((48 : Int) = (0 : Int) → False) ∧ ((0 : Int) ≤ IntKind.i64.wrap (tn.tdiv (48 : Int)) ∧ IntKind.i64.wrap (tn.tdiv (48 : Int)) < (↑(rdF (List.take L d) need [] fm (List.take n (W.set tn.toNat (bitOp BinOp.xor IntKind.u8 (W.getD tn.toNat (0 : Int)) (1 : Int))))).fst.length : Int)) ∧ (IntKind.i64.wrap (tn.tdiv (48 : Int))).toNat < (rdF (List.take L d) need [] fm (List.take n (W.set tn.toNat (bitOp BinOp.xor IntKind.u8 (W.getD tn.toNat (0 : Int)) (1 : Int))))).fst.length ∧ (eqC (Kd.fp.pair Kd.fp) ((rdF (List.take L d) need [] fm (List.take n (W.set tn.toNat (bitOp BinOp.xor IntKind.u8 (W.getD tn.toNat (0 : Int)) (1 : Int))))).fst.getD (IntKind.i64.wrap (tn.tdiv (48 : Int))).toNat ((0 : Fp), (0 : Fp))) (codec.or1 (List.take (List.take (IntKind.i64.wrap (IntKind.i64.wrap (tn - tn.tmod (48 : Int)) + (48 : Int)) - IntKind.i64.wrap (tn - tn.tmod (48 : Int))).toNat (List.drop (IntKind.i64.wrap (tn - tn.tmod (48 : Int))).toNat (W.set tn.toNat (bitOp BinOp.xor IntKind.u8 (W.getD tn.toNat (0 : Int)) (1 : Int))))).length (List.take (IntKind.i64.wrap (IntKind.i64.wrap (tn - tn.tmod (48 : Int)) + (48 : Int)) - IntKind.i64.wrap (tn - tn.tmod (48 : Int))).toNat (List.drop (IntKind.i64.wrap (tn - tn.tmod (48 : Int))).toNat (W.set tn.toNat (bitOp BinOp.xor IntKind.u8 (W.getD tn.toNat (0 : Int)) (1 : Int))))))).fst, ()) = (true, ())) ∧ (((rdF (List.take L d) need [] fm (List.take n (W.set tn.toNat (bitOp BinOp.xor IntKind.u8 (W.getD tn.toNat (0 : Int)) (1 : Int))))).snd == (0 : Int)) = false → (false, ()) = (true, ()))))) ∧ (decide (tn < (↑n : Int)) = false → (true, ()) = (true, ()))) ∧ (decide (tn ≥ (0 : Int)) = false → (true, ()) = (true, ())))) (by kernel_rfl) ?_
    refine ⟨fun c1 => ⟨fun c2 => ?_, fun _ => rfl⟩, fun _ => rfl⟩
    obtain ⟨t, rfl⟩ := Int.eq_ofNat_of_zero_le (of_decide_eq_true c1)
    have htn : t < n := by have := of_decide_eq_true c2; omega
    have hq : t / 48 < (cmt P).length := by omega
    have eAT : IntKind.i64.wrap ((t : Int) - (t : Int).tmod 48) = ((48 * (t / 48) : Nat) : Int) := by
      have : (t : Int).tmod 48 = ((t % 48 : Nat) : Int) := rfl
      rw [this, wrap_i64' (by omega) (by omega)]; omega
    have eF : IntKind.i64.wrap (((48 * (t / 48) : Nat) : Int) + 48) = ((48 * (t / 48) + 48 : Nat) : Int) := by rw [wrap_i64' (by omega) (by omega)]; omega
    have eD : IntKind.i64.wrap ((t : Int).tdiv 48) = ((t / 48 : Nat) : Int) := by
      have : (t : Int).tdiv 48 = ((t / 48 : Nat) : Int) := rfl
      rw [this, wrap_i64' (by omega) (by omega)]
    have e48 : (((48 * (t / 48) + 48 : Nat) : Int) - ((48 * (t / 48) : Nat) : Int)).toNat = 48 := by omega
    simp only [eAT, eF, eD, e48, Int.toNat_natCast, hLd]
    have hx0 : 0 ≤ W.getD t 0 ∧ W.getD t 0 < 256 := by
      rw [List.getD_eq_getElem?_getD, List.getElem?_eq_getElem (by omega), Option.getD_some]
      exact hWb _ (List.getElem_mem _)
    have hv := xor1_ne hx0.1 hx0.2
    have hvb := codec.xor_u8 (W.getD t 0) 1
    generalize hvv : bitOp BinOp.xor IntKind.u8 (W.getD t 0) 1 = v at *
    have hW2l : (W.set t v).length = n := by rw [List.length_set, h1]
    have tW2 : List.take n (W.set t v) = W.set t v := List.take_of_length_le (by omega)
    have ePC : List.take 48 (List.drop (48 * (t / 48)) (W.set t v)) = pcs (W.set t v) (t / 48) := rfl
    have hW2b : Bs (W.set t v) := set_BsAt hWb hvb
    have hpl : (pcs (W.set t v) (t / 48)).length = 48 := by rw [pcs, List.length_take, List.length_drop]; omega
    have prg : codec.preRG (pcs (W.set t v) (t / 48), ()) := ⟨fun x hx => hW2b x (List.mem_of_mem_drop (List.mem_of_mem_take hx)), by show (pcs _ _).length ≤ _; omega⟩
    have pr2 : preRd ((d, d, need, ([] : List (Fp × Fp))), fm, W.set t v, ()) := ⟨by show d.length < _; omega, ⟨hOl, hfm⟩, hW2b, by show (W.set t v).length ≤ _; omega⟩
    obtain ⟨r1, r2, r3⟩ := rd_set (need := need) (fm := fm) (O := ([] : List (Fp × Fp))) hsub hfd (by omega) hq (hO.imp id fun c => by rw [c, hC0]) hvb (by rw [← h2]; exact hv)
    have hpt : (codec.or1 (pcs ((wrF (cmt P)).set t v) (t / 48))).2 = 0 → (ptK ((wrF (cmt P)).set t v) (cmt P).length).getD (t / 48) (0, 0) = (codec.or1 (pcs ((wrF (cmt P)).set t v) (t / 48))).1 := fun _ => by rw [pt_set hsub v hq, if_pos rfl]
    rw [← h2] at r1 r2 r3 hpt
    simp only [tW2, ePC, List.take_length, eqP]
    have hpk := ptK_len (W.set t v) (cmt P).length
    generalize pcs (W.set t v) (t / 48) = pc at *
    generalize ptK (W.set t v) (cmt P).length = pk at *
    refine ⟨⟨by omega, by omega⟩, by omega, ⟨by omega, by omega⟩, by omega, by decide, ⟨by omega, by omega, by omega⟩, by omega, by show pc.length ≤ _; omega, by omega, prg, by omega, by omega, by omega, pr2, fun h => ?_, fun h => ?_⟩
    · rw [r1 (bne_iff_ne.1 h)]
      exact ⟨fun _ => rfl, fun h => absurd h (by simp)⟩
    · have hz : (codec.or1 pc).2 = 0 := by simpa using h
      refine ⟨fun c => absurd (ht.symm.trans c) (by decide), fun _ => ?_⟩
      rw [r2 hz (.inl rfl)]
      exact ⟨fun _ => ⟨by decide, ⟨by omega, by show _ < ((pk.length : Nat) : Int); omega⟩, by show _ < pk.length; omega, by show (decide (pk.getD (t / 48) (0, 0) = _), ()) = _; rw [hpt hz]; simp⟩, fun h => absurd h (by simp)⟩
end Go.Proofs.Ytlhgcbmanifpiaa.law22
namespace Go.Proofs.Ytlhgcbmanifpiaa
set_option maxRecDepth 100000
open Go Go.Eng Go.RowKit Cr Go.ChangeShapes Go.WideShapes Go.ChangeAt

namespace dealReads
theorem own : ownKnob Try.prog.godebug = none := by kernel_rfl
theorem laidOut : laidOutB Try.prog = true := by kernel_rfl
abbrev wtI : Car (.int .i64) → Prop := fun x => (Lit.int .i64 x).wf = true
theorem oI : OpnV Try.prog 3 (.int .i64) wtI := opnV_int (by kernel_rfl)
theorem pI {x : Int} (h : wtI x) : preI x := by
  have : (Lit.int .i64 x).wf = true := h
  simp [Lit.wf, IntKind.min, IntKind.max, IntKind.signed, IntKind.bits] at this
  exact ⟨by omega, by omega⟩
abbrev wtB : Car bsl → Prop := fun ys => List.length ys * Try.prog.bytesOf 5 ≤ reachBytes ∧ ∀ y ∈ ys, (Lit.int .u8 y).wf = true
theorem oB : OpnV Try.prog 46 bsl wtB := opnV_slice (e := 5) (by kernel_rfl) (by kernel_rfl) (by decide) (opnC_int (by kernel_rfl))
theorem bytes5 : Try.prog.bytesOf 5 = 1 := by kernel_rfl
theorem pB {xs : List Int} (h : wtB xs) : preB xs := by
  obtain ⟨h1, h2⟩ := h
  rw [bytes5] at h1
  refine ⟨fun x hx => ?_, ?_⟩
  · have := h2 x hx
    simp [Lit.wf, IntKind.min, IntKind.max, IntKind.signed, IntKind.bits] at this
    omega
  · show List.length xs ≤ _
    simp only [reachBytes] at h1
    omega
abbrev wtL : Car .bool → Prop := fun _ => True
theorem oL : OpnV Try.prog 4 .bool wtL := opnV_bool (by kernel_rfl)
theorem pL {x : Bool} (_ : wtL x) : preL x := trivial
theorem opened : OpnL Try.prog [3, 3, 46, 3, 3, 4] [.int .i64, .int .i64, bsl, .int .i64, .int .i64, .bool] (fun x => wtI x.1 ∧ wtI x.2.1 ∧ wtB x.2.2.1 ∧ wtI x.2.2.2.1 ∧ wtI x.2.2.2.2.1 ∧ wtL x.2.2.2.2.2.1 ∧ True) :=
  .cons oI (by kernel_rfl) (of_decide_eq_true (by kernel_rfl)) (.cons oI (by kernel_rfl) (of_decide_eq_true (by kernel_rfl)) (.cons oB (by kernel_rfl) (of_decide_eq_true (by kernel_rfl)) (.cons oI (by kernel_rfl) (of_decide_eq_true (by kernel_rfl)) (.cons oI (by kernel_rfl) (of_decide_eq_true (by kernel_rfl)) (.cons oL (by kernel_rfl) (of_decide_eq_true (by kernel_rfl)) .nil)))))
theorem lifted (os : Os) (started : os.Started) (H : Type) (enc : TypeId × Value → H) :
    ReturnsInHanded {} Try.checked os 8 .any (Rows.dealReadsSpec.pre6 enc Try.prog Try.f8 Rows.dealReadsRow.domain false) (Rows.dealReadsSpec.post enc Try.prog Try.f8 false true false false) := by
  refine returnsInHanded_of_change_sized (C := Try.checked) own started (by kernel_rfl) Try.func8
    (ChangeSpec.witness6 (enc := enc) (C := Try.checked) false ⟨#[], #[.int .i64 0, .int .i64 0, .slice none 0 0, .int .i64 0, .int .i64 0, .bool false], []⟩ 8 (by kernel_rfl) (by kernel_rfl) (by kernel_rfl) (by kernel_rfl)) ?_
  intro W base args ds gs before hval hW _ hsz _
  refine law_row (C := Try.checked) (bt := 4) (ts := [3, 3, 46, 3, 3, 4]) law22.ent_reads law22.fn_reads laidOut (by kernel_rfl) (by kernel_rfl) (by kernel_rfl) opened ?_ rfl ?_ W base args ds gs before hval hW hsz
  · rintro ⟨x0, x1, x2, x3, x4, x5, ⟨⟩⟩ ⟨h0, h1, h2, h3, h4, h5, _⟩
    exact ⟨pI h0, pI h1, pB h2, pI h3, pI h4⟩
  · intro ds hl
    match ds, hl with
    | [d0, d1, d2, d3, d4, d5], _ => rfl

theorem proved : Rows.DealReadsSaid :=
  OpenClaim.holds_of_wide 8 Try.f8 rfl rfl rfl rfl rfl rfl rfl ⟨rfl, rfl, rfl, rfl, rfl⟩ rfl rfl rfl rfl rfl (by kernel_rfl) Try.func8 (by kernel_rfl)
    (of_decide_eq_true (by kernel_rfl)) (by unfold Func.isWrapper; first | (rw [if_pos (by decide +kernel)]; kernel_rfl) | (rw [if_neg (by decide +kernel)]; exact ⟨rfl, rfl⟩))
    (fun os started H enc _ => lifted os started H enc)
#print axioms proved
end dealReads
end Go.Proofs.Ytlhgcbmanifpiaa
