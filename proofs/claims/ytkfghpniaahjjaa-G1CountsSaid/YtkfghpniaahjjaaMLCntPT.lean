/- G1Counts, for every input: true; the input reads as it did. No condition. -/
import Derived.Test.YtkfghpniaahjjaaMLCntPS
/- G1Counts: the walk. -/
namespace Go.Proofs.Ytkfghpniaahjjaa.law07
set_option maxRecDepth 100000
open Go Go.Eng Go.RowKit Cr Go.Proofs.Ytkfghpniaahjjaa Go.Proofs.Ytkfghpniaahjjaa.g1
theorem ent_counts : enters Try.prog 8 Try.f8 := enters_mk (by kernel_rfl) (by kernel_rfl) (by kernel_rfl)
abbrev preCounts : HL [bsl, .int .u8, .int .u16] → Prop := fun (a, n, m, _) => preB a ∧ preY n ∧ preW m
theorem and31 {b : Int} (h0 : 0 ≤ b) (h1 : b < 256) : 0 ≤ bitOp .and .u8 b 31 ∧ bitOp .and .u8 b 31 < 32 := by
  obtain ⟨n, rfl⟩ := Int.eq_ofNat_of_zero_le h0
  have e : bitOp .and .u8 (n : Int) 31 = (n : Int) % 32 := by
    show IntKind.u8.wrap ((BitVec.ofInt 8 (n : Int) &&& BitVec.ofInt 8 31 : BitVec 8).toNat : Int) = _
    have h1 : (BitVec.ofInt 8 (n : Int)).toNat = n := by rw [show BitVec.ofInt 8 (n : Int) = BitVec.ofNat 8 n from BitVec.ofInt_natCast .., BitVec.toNat_ofNat, Nat.mod_eq_of_lt (by omega)]
    rw [BitVec.toNat_and, h1, show (BitVec.ofInt 8 31).toNat = 31 from rfl]
    have h := Nat.and_two_pow_sub_one_eq_mod n 5
    rw [show 2 ^ 5 - 1 = 31 from rfl] at h
    rw [h]
    have : IntKind.u8.wrap ((n % 2 ^ 5 : Nat) : Int) = ((n % 2 ^ 5 : Nat) : Int) := by
      simp [IntKind.wrap, IntKind.signed, IntKind.bits]; omega
    rw [this]; omega
  rw [e]; omega
noncomputable def itr (p : Fp × Fp) : Nat → Fp × Fp
  | 0 => (0, 0)
  | k + 1 => gadd (itr p k) p
theorem itr_eq {p : Fp × Fp} (h : Onb p) : ∀ k, itr p k = nmul p k
  | 0 => rfl
  | k + 1 => by rw [itr, itr_eq h k, gadd_eq (nmul_on b4_ne h k) h]; rfl
noncomputable def cntI (p q : Fp × Fp) (n : Int) (g : Int × (Fp × Fp) × (Fp × Fp)) : St := mkSt Try.f8.ntmps 176 [(1, sI .u8 n), (7, .is (.one (.ptr 72 0))), (8, .is (.one (.ptr 104 0))), (9, .is (.one (.ptr 128 0))), (10, .is (.one (.ptr 152 0))), (11, sI .i64 g.1)] [(72, pc p), (104, pc q), (128, pc g.2.1), (152, pc g.2.2)]
noncomputable def cntN (p q : Fp × Fp) (g : Int × (Fp × Fp) × (Fp × Fp)) : Int × (Fp × Fp) × (Fp × Fp) := (IntKind.i64.wrap (g.1 + 1), gadd g.2.1 p, gadd g.2.2 q)
theorem fn_counts : FnOk Try.prog 8 [bsl, .int .u8, .int .u16] [.val .bool] noG preCounts (fun _ => (true, ())) := by
  have hsp : SpecsOk Try.prog (sps [spHead, spLong, soGen, spScalar, soMul, soAdd, soTimes, spWild, fr.spOf]) := sps_cons (fnSpec_ok fn_head) (sps_cons (fnSpec_ok fn_long) (sps_cons (fnSpec_ok fo_gen) (sps_cons (fnSpec_ok fn_scalar) (sps_cons (fnSpec_ok fo_mul) (sps_cons (fnSpec_ok fo_add) (sps_cons (fnSpec_ok fo_times) (sps_cons (fnSpec_ok fn_wild) (sps_cons (fnSpec_ok fr.fn_of) sps_nil))))))))
  refine fn_of_tr (sp := sps [spHead, spLong, soGen, spScalar, soMul, soAdd, soTimes, spWild, fr.spOf]) ent_counts (by decide) (by decide) (by kernel_rfl) ?_
  rintro w M0 ⟨a, n, m, ⟨⟩⟩
  revert a n m
  intro (a : List Int) (n : Int) (m : Int) _ hp
  obtain ⟨h1, h2, h3⟩ := hp
  show Tr _ _ _ _ _ _ _

  refine tr_cutF hsp mixed 10 (fun σ => (rdB pt1 72 σ, rdB pt1 104 σ)) (fun g => cntI g.1 g.2 n (0, (0, 0), (0, 0))) (fun g => Sub g.1 ∧ Onb g.2) ?_ ?_
  · refine vcx (X := (True ∧ ((!true) = true → (false, ()) = (true, ())) ∧ ((!true) = false → True ∧ (lng a [] [] = true → (true, ()) = (true, ())) ∧ (lng a [] [] = false → True ∧ preSca (a, ()) ∧ True ∧ preWild (m, ()) ∧ (cntI (gmul gG (sca a), wildF (200 : Nat) m).fst (gmul gG (sca a), wildF (200 : Nat) m).snd n ((0 : Int), ((0 : Fp), (0 : Fp)), (0 : Fp), (0 : Fp))).triv (Sub (gmul gG (sca a), wildF (200 : Nat) m).fst ∧ Onb (gmul gG (sca a), wildF (200 : Nat) m).snd))))) (by kernel_rfl) ?_
    exact ⟨trivial, fun h => absurd h (by decide), fun _ => ⟨trivial, fun _ => rfl, fun _ => ⟨trivial, h1, trivial, h3, triv_intro ⟨sub_gmul sub_G _, (wild_ok _ _).1⟩⟩⟩⟩
  rintro ⟨p, q⟩ ⟨hp, hq⟩
  have hp : Sub p := hp
  have hq : Onb q := hq
  have hc := and31 h2.1 h2.2
  obtain ⟨c, ec⟩ : ∃ c : Nat, bitOp .and .u8 n 31 = (c : Int) := Int.eq_ofNat_of_zero_le hc.1
  rw [ec] at hc
  have ew : IntKind.i64.wrap (bitOp .and .u8 n 31) = (c : Int) := by rw [ec, wrap_i64' (by omega) (by omega)]
  refine tr_count hsp mixed (cntI p q n) (fun k => ((k : Int), itr p k, itr q k)) c (cntN p q) (cntI p q n) (c := nthC (codeOf Try.f8) 10) (by kernel_rfl) (by kernel_rfl) (le_of_proj (by kernel_rfl) (by kernel_rfl) trivial)
    (fun k hk => by show (_, _, _) = (_, _, _); rw [wrap_succ (by omega)]; rfl) ?_ ?_
  · intro k hk
    refine vcx (X := ((decide ((↑k : Int) < IntKind.i64.wrap (bitOp BinOp.and IntKind.u8 n (31 : Int))) = true → True ∧ True ∧ (cntI p q n (cntN p q ((↑k : Int), itr p k, itr q k))).triv (k < c)) ∧ (decide ((↑k : Int) < IntKind.i64.wrap (bitOp BinOp.and IntKind.u8 n (31 : Int))) = false → (cntI p q n ((↑k : Int), itr p k, itr q k)).triv (k = c)))) (by kernel_rfl) ?_
    rw [ew]
    refine ⟨fun h => ⟨trivial, trivial, triv_intro (by have := dec_lt h; omega)⟩, fun h => triv_intro (by have := dec_ge h; omega)⟩
  refine tr_vc hsp mixed _ _ ?_
  refine vcx (X := ((0 : Nat) + (1 : Nat) ≤ (1 : Nat) ∧ preTimes (p, List.take (1 : Nat) (List.drop (0 : Nat) [bitOp BinOp.and IntKind.u8 n (31 : Int)]), ()) ∧ (eqC (Kd.fp.pair Kd.fp) (gtms p (List.take (1 : Nat) (List.drop (0 : Nat) [bitOp BinOp.and IntKind.u8 n (31 : Int)]))) (itr p c) = true → (0 : Nat) + (3 : Nat) ≤ (3 : Nat) ∧ preTimes (p, List.take (3 : Nat) (List.drop (0 : Nat) [(0 : Int), (0 : Int), bitOp BinOp.and IntKind.u8 n (31 : Int)]), ()) ∧ (eqC (Kd.fp.pair Kd.fp) (gtms p (List.take (3 : Nat) (List.drop (0 : Nat) [(0 : Int), (0 : Int), bitOp BinOp.and IntKind.u8 n (31 : Int)]))) (itr p c) = true → (0 : Nat) + (1 : Nat) ≤ (1 : Nat) ∧ preTimes (q, List.take (1 : Nat) (List.drop (0 : Nat) [bitOp BinOp.and IntKind.u8 n (31 : Int)]), ()) ∧ (eqC (Kd.fp.pair Kd.fp) (gtms q (List.take (1 : Nat) (List.drop (0 : Nat) [bitOp BinOp.and IntKind.u8 n (31 : Int)]))) (itr q c) = true → preTimes (q, [], ()) ∧ (eqC (Kd.fp.pair Kd.fp) (gtms q []) ((0 : Fp), (0 : Fp)) = true → U64 (IntKind.u64.wrap (bitOp BinOp.and IntKind.u8 n (31 : Int))) ∧ True ∧ (eqC (Kd.fp.pair Kd.fp) (gmul p (zmr (IntKind.u64.wrap (bitOp BinOp.and IntKind.u8 n (31 : Int))))) (itr p c), ()) = (true, ())) ∧ (eqC (Kd.fp.pair Kd.fp) (gtms q []) ((0 : Fp), (0 : Fp)) = false → (false, ()) = (true, ()))) ∧ (eqC (Kd.fp.pair Kd.fp) (gtms q (List.take (1 : Nat) (List.drop (0 : Nat) [bitOp BinOp.and IntKind.u8 n (31 : Int)]))) (itr q c) = false → (false, ()) = (true, ()))) ∧ (eqC (Kd.fp.pair Kd.fp) (gtms p (List.take (3 : Nat) (List.drop (0 : Nat) [(0 : Int), (0 : Int), bitOp BinOp.and IntKind.u8 n (31 : Int)]))) (itr p c) = false → (false, ()) = (true, ()))) ∧ (eqC (Kd.fp.pair Kd.fp) (gtms p (List.take (1 : Nat) (List.drop (0 : Nat) [bitOp BinOp.and IntKind.u8 n (31 : Int)]))) (itr p c) = false → (false, ()) = (true, ())))) (by kernel_rfl) ?_
  rw [ec]
  have b1 : Bs [(c : Int)] := by intro x hx; simp at hx; omega
  have b3 : Bs [0, 0, (c : Int)] := by intro x hx; simp at hx; omega
  have b0 : Bs [] := by intro x hx; simp at hx
  have n1 : (num [(c : Int)]).toNat = c := by simp [num]
  have n3 : (num [0, 0, (c : Int)]).toNat = c := by simp [num]
  have e1 := gtms_eq hp.1 b1
  have e3 := gtms_eq hp.1 b3
  have e4 := gtms_eq hq b1
  have e0 := gtms_eq hq b0
  rw [n1] at e1 e4
  rw [n3] at e3
  have eu : IntKind.u64.wrap (c : Int) = (c : Int) := wrap_u64 (by omega) (by omega)
  have em : gmul p (zmr (c : Int)) = nmul p c := mul_of hp (x := zm (c : Int)) rfl
  rw [eu, show List.take 1 (List.drop 0 [(c : Int)]) = [(c : Int)] from rfl, show List.take 3 (List.drop 0 [0, 0, (c : Int)]) = [0, 0, (c : Int)] from rfl]
  simp only [eqP, e1, e3, e4, e0, em, itr_eq hp.1, itr_eq hq]
  have p1 : preTimes (p, [(c : Int)], ()) := ⟨b1, show 1 < _ by decide⟩
  have p2 : preTimes (p, [0, 0, (c : Int)], ()) := ⟨b3, show 3 < _ by decide⟩
  have p3 : preTimes (q, [(c : Int)], ()) := ⟨b1, show 1 < _ by decide⟩
  have p4 : preTimes (q, [], ()) := ⟨b0, show 0 < _ by decide⟩
  have z0 : nmul q (num []).toNat = (0, 0) := rfl
  rw [z0]
  refine ⟨by decide, p1, fun _ => ⟨by decide, p2, fun _ => ⟨by decide, p3, fun _ => ⟨p4, fun _ => ⟨⟨by omega, by omega⟩, trivial, by simp⟩, fun h => absurd h (by simp)⟩, fun h => absurd h (by simp)⟩, fun h => absurd h (by simp)⟩, fun h => absurd h (by simp)⟩
end Go.Proofs.Ytkfghpniaahjjaa.law07
namespace Go.Proofs.Ytkfghpniaahjjaa
set_option maxRecDepth 100000
open Go Go.Eng Go.RowKit Cr Go.ChangeShapes Go.WideShapes Go.ChangeAt

namespace g1Counts
theorem own : ownKnob Try.prog.godebug = none := by kernel_rfl
theorem laidOut : laidOutB Try.prog = true := by kernel_rfl
abbrev wtB : Car bsl → Prop := fun ys => List.length ys * Try.prog.bytesOf 5 ≤ reachBytes ∧ ∀ y ∈ ys, (Lit.int .u8 y).wf = true
theorem oB : OpnV Try.prog 33 bsl wtB := opnV_slice (e := 5) (by kernel_rfl) (by kernel_rfl) (by decide) (opnC_int (by kernel_rfl))
theorem bytes5 : Try.prog.bytesOf 5 = 1 := by kernel_rfl
theorem pB {xs : List Int} (h : wtB xs) : preB xs := by
  obtain ⟨h1, h2⟩ := h
  rw [bytes5] at h1
  refine ⟨fun x hx => ?_, ?_⟩
  · have := h2 x hx
    simp [Lit.wf, IntKind.min, IntKind.max, IntKind.signed, IntKind.bits] at this
    omega
  · show List.length xs ≤ _
    simp only [reachBytes] at h1
    omega
abbrev wtY : Car (.int .u8) → Prop := fun x => (Lit.int .u8 x).wf = true
theorem oY : OpnV Try.prog 5 (.int .u8) wtY := opnV_int (by kernel_rfl)
theorem pY {x : Int} (h : wtY x) : preY x := by
  have : (Lit.int .u8 x).wf = true := h
  simp [Lit.wf, IntKind.min, IntKind.max, IntKind.signed, IntKind.bits] at this
  exact ⟨by omega, by omega⟩
abbrev wtW : Car (.int .u16) → Prop := fun x => (Lit.int .u16 x).wf = true
theorem oW : OpnV Try.prog 55 (.int .u16) wtW := opnV_int (by kernel_rfl)
theorem pW {x : Int} (h : wtW x) : preW x := by
  have : (Lit.int .u16 x).wf = true := h
  simp [Lit.wf, IntKind.min, IntKind.max, IntKind.signed, IntKind.bits] at this
  exact ⟨by omega, by omega⟩
theorem opened : OpnL Try.prog [33, 5, 55] [bsl, .int .u8, .int .u16] (fun x => wtB x.1 ∧ wtY x.2.1 ∧ wtW x.2.2.1 ∧ True) :=
  .cons oB (by kernel_rfl) (of_decide_eq_true (by kernel_rfl)) (.cons oY (by kernel_rfl) (of_decide_eq_true (by kernel_rfl)) (.cons oW (by kernel_rfl) (of_decide_eq_true (by kernel_rfl)) .nil))
theorem lifted (os : Os) (started : os.Started) (H : Type) (enc : TypeId × Value → H) :
    ReturnsInHanded {} Try.checked os 8 .any (Rows.g1CountsSpec.pre6 enc Try.prog Try.f8 Rows.g1CountsRow.domain false) (Rows.g1CountsSpec.post enc Try.prog Try.f8 false true false false) := by
  refine returnsInHanded_of_change_sized (C := Try.checked) own started (by kernel_rfl) Try.func8
    (ChangeSpec.witness6 (enc := enc) (C := Try.checked) false ⟨#[], #[.slice none 0 0, .int .u8 0, .int .u16 0], []⟩ 8 (by kernel_rfl) (by kernel_rfl) (by kernel_rfl) (by kernel_rfl)) ?_
  intro W base args ds gs before hval hW _ hsz _
  refine law_row (C := Try.checked) (bt := 4) (ts := [33, 5, 55]) law07.ent_counts law07.fn_counts laidOut (by kernel_rfl) (by kernel_rfl) (by kernel_rfl) opened ?_ rfl ?_ W base args ds gs before hval hW hsz
  · rintro ⟨x0, x1, x2, ⟨⟩⟩ ⟨h0, h1, h2, _⟩
    exact ⟨pB h0, pY h1, pW h2⟩
  · intro ds hl
    match ds, hl with
    | [d0, d1, d2], _ => rfl

theorem proved : Rows.G1CountsSaid :=
  OpenClaim.holds_of_wide 8 Try.f8 rfl rfl rfl rfl rfl rfl rfl ⟨rfl, rfl, rfl, rfl, rfl⟩ rfl rfl rfl rfl rfl (by kernel_rfl) Try.func8 (by kernel_rfl)
    (of_decide_eq_true (by kernel_rfl)) (by unfold Func.isWrapper; first | (rw [if_pos (by decide +kernel)]; kernel_rfl) | (rw [if_neg (by decide +kernel)]; exact ⟨rfl, rfl⟩))
    (fun os started H enc _ => lifted os started H enc)
#print axioms proved
end g1Counts
end Go.Proofs.Ytkfghpniaahjjaa
