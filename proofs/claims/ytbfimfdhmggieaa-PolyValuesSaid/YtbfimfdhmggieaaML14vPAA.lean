/- PolyValues, for every input: true; the input reads as it did. No condition. -/
import Derived.Test.YtbfimfdhmggieaaML14vPZ
/- The references' Same. -/
namespace Go.Proofs.Ytbfimfdhmggieaa.ref01
set_option maxRecDepth 100000
open Go Go.Eng Go.RowKit Cr Go.Proofs.Ytbfimfdhmggieaa
theorem ent_same : enters Try.prog 14 Try.f14 := enters_mk (by kernel_rfl) (by kernel_rfl) (by kernel_rfl)
abbrev preSame : HL [.sl (.int .u8), .sl (.int .u8)] → Prop := fun (a, _, _) => List.length a < 4611686018427387904
def sameF (a b : List Int) : Bool := decide (a = b)
abbrev outSame : HL [.sl (.int .u8), .sl (.int .u8)] → HO [.val .bool] := fun (a, b, _) => (sameF a b, ())
noncomputable def saI (a b : List Int) (g : Int) : St := mkSt Try.f14.ntmps 72 [(0, .is (.one (.ro (.int .u8) a))), (1, .is (.one (.ro (.int .u8) b))), (4, .is (.one .F)), (12, sI .i64 a.length), (13, sI .i64 g)] []
def saJ (a b : List Int) (g : Int) : Prop := ∃ k : Nat, k ≤ a.length ∧ g = (k : Int) ∧ a.take k = b.take k
theorem fn_same : FnOk Try.prog 14 [.sl (.int .u8), .sl (.int .u8)] [.val .bool] noG preSame outSame := by
  have hsp : SpecsOk Try.prog (sps []) := sps_nil
  refine fn_of_tr (sp := sps []) ent_same (by decide) (by decide) (by kernel_rfl) ?_
  rintro w M0 ⟨a, b, ⟨⟩⟩
  revert a b
  intro (a : List Int) (b : List Int) _ hl
  have hl : a.length < 4611686018427387904 := hl
  show Tr _ _ _ _ _ _ _
  refine tr_cut hsp mixed 4 (saI a b 0) (a.length = b.length) ?_ (fun he => ?_)
  · refine vcx (X := ((((↑a.length : Int) != (↑b.length : Int)) = true → (false, ()) = outSame (a, b, ())) ∧ (((↑a.length : Int) != (↑b.length : Int)) = false → (saI a b (0 : Int)).triv (a.length = b.length)))) (by kernel_rfl) ?_
    refine ⟨fun h => ?_, fun h => triv_intro (by simp at h; omega)⟩
    have h : ¬ a.length = b.length := by simp at h; omega
    show _ = (sameF a b, ())
    rw [sameF, decide_eq_false (fun e => h (by rw [e]))]
  refine tr_while hsp mixed noSw (fun σ => rdS (.int .i64) 13 σ) (saI a b) (saJ a b) (fun g => a.length - g.toNat)
    (fun σ => rdS (.int .i64) 13 σ) (saI a b) (fun _ => a = b) 0 (c := nthC (codeOf Try.f14) 4) (by kernel_rfl) (by kernel_rfl) (le_of_proj (by kernel_rfl) (by kernel_rfl) ?_) ?_ ?_
  · exact ⟨0, Nat.zero_le _, rfl, rfl⟩
  · intro (i : Int) ⟨k, hk, ei, ht⟩
    subst ei
    refine vcx (X := ((decide ((↑k : Int) < (↑a.length : Int)) = true → ((0 : Int) ≤ (↑k : Int) ∧ (↑k : Int) < (↑a.length : Int)) ∧ (↑k : Int).toNat < a.length ∧ ((0 : Int) ≤ (↑k : Int) ∧ (↑k : Int) < (↑b.length : Int)) ∧ (↑k : Int).toNat < b.length ∧ ((a.getD (↑k : Int).toNat (0 : Int) != b.getD (↑k : Int).toNat (0 : Int)) = true → (false, ()) = outSame (a, b, ())) ∧ ((a.getD (↑k : Int).toNat (0 : Int) != b.getD (↑k : Int).toNat (0 : Int)) = false → (saI a b (IntKind.i64.wrap ((↑k : Int) + (1 : Int)))).triv (saJ a b (IntKind.i64.wrap ((↑k : Int) + (1 : Int))) ∧ a.length - (IntKind.i64.wrap ((↑k : Int) + (1 : Int))).toNat < a.length - (↑k : Int).toNat))) ∧ (decide ((↑k : Int) < (↑a.length : Int)) = false → (saI a b (↑k : Int)).triv (a = b)))) (by kernel_rfl) ?_
    rw [Int.toNat_natCast]
    refine ⟨fun h => ?_, fun h => triv_intro ?_⟩
    · have hlt : k < a.length := by have := dec_lt h; omega
      have ga : a.getD k 0 = a[k] := by rw [List.getD_eq_getElem?_getD, List.getElem?_eq_getElem hlt, Option.getD_some]
      have gb : b.getD k 0 = b[k] := by rw [List.getD_eq_getElem?_getD, List.getElem?_eq_getElem (by omega), Option.getD_some]
      rw [wrap_succ (by omega), ga, gb]
      refine ⟨⟨by omega, by omega⟩, hlt, ⟨by omega, by omega⟩, by omega, fun h2 => ?_, fun h2 => triv_intro ⟨⟨k + 1, hlt, rfl, ?_⟩, by rw [Int.toNat_natCast]; omega⟩⟩
      · have h2 : a[k] ≠ b[k] := by simpa using h2
        show _ = (sameF a b, ())
        rw [sameF, decide_eq_false (fun e => h2 (by subst e; rfl))]
      · have h2 : a[k] = b[k] := by simpa using h2
        rw [List.take_succ_eq_append_getElem hlt, List.take_succ_eq_append_getElem (by omega), ht, h2]
    · have : k = a.length := by have := dec_ge h; omega
      subst this
      rw [List.take_length] at ht
      rw [ht, he, List.take_length]
  intro (i : Int) (h : a = b)
  refine tr_vc hsp mixed _ _ ?_
  refine vcx (X := ((true, ()) = outSame (a, b, ()))) (by kernel_rfl) ?_
  show _ = (sameF a b, ())
  rw [sameF, decide_eq_true h]
noncomputable def spSame : Nat × Eng.Spec := (14, fnSpec [.sl (.int .u8), .sl (.int .u8)] [.val .bool] preSame outSame)
end Go.Proofs.Ytbfimfdhmggieaa.ref01
/- law14: PolyValues. -/
namespace Go.Proofs.Ytbfimfdhmggieaa.law14
set_option maxRecDepth 100000
open Go Go.Eng Go.RowKit Cr Go.Proofs.Ytbfimfdhmggieaa Go.Proofs.Ytbfimfdhmggieaa.poly Go.Proofs.Ytbfimfdhmggieaa.ref03
abbrev uK : Kd := .int .u32
noncomputable def nbo (b : List Int) : List Int := opq (numbF b)
theorem fr_number : FnOk Try.prog 7 [.sl (.int .u8)] [.val wsl] noG preNumb (fun (b, _) => (nbo b, ())) := fn_number.frz.out fun (b, _) => by show (nbo b, ()) = (numbF b, ()); rw [nbo, opq_eq]
noncomputable def srNumber : Nat × Eng.Spec := (7, fnSpec [.sl (.int .u8)] [.val wsl] preNumb (fun (b, _) => (nbo b, ())))
theorem fr_made : FnOk Try.prog 5 [.sl bsl] [.val (.sl .fr), .val .bool] noG preMade (fun (bs, _) => (madF bs, fitB bs, ())) := fn_made.frz2
noncomputable def srMade : Nat × Eng.Spec := (5, fnSpec [.sl bsl] [.val (.sl .fr), .val .bool] preMade (fun (bs, _) => (madF bs, fitB bs, ())))
theorem md_v (y : Int) : v16 (w16 mdw.length (y % v16 mdw)) = y % Mr := by
  rw [mdw_len, mdw_v]
  exact lt_w (Int.emod_nonneg _ (by decide)) (Int.lt_trans (Int.emod_lt_of_pos _ (by decide)) (of_decide_eq_true (by kernel_rfl)))
theorem zm_md (y : Int) : (zm (v16 (w16 mdw.length (y % v16 mdw))) : Fr) = zm y := by
  rw [md_v]; exact zm_eq (Int.emod_emod_of_dvd _ (Int.dvd_refl _))
theorem md_W (y : Int) : W16 (w16 mdw.length (y % v16 mdw)) ∧ (w16 mdw.length (y % v16 mdw)).length = 16 ∧ v16 (w16 mdw.length (y % v16 mdw)) < Mr :=
  ⟨w16_W _ _, by rw [w16_len, mdw_len], by rw [md_v]; exact Int.emod_lt_of_pos _ (by decide)⟩
theorem peval_snoc {F : Type} [Rg F] (x c : F) : ∀ l : List F, peval (l ++ [c]) x = peval l x + c * peval (List.replicate l.length 0 ++ [1]) x
  | [] => by
    show peval [] x * x + c = peval [] x + c * (peval [] x * x + 1)
    show 0 * x + c = 0 + c * (0 * x + 1)
    rw [Rg.zero_mul, Rg.zero_add, Rg.zero_add, Rg.zero_add, Rg.mul_one]
  | a :: l => by
    show peval (l ++ [c]) x * x + a = (peval l x * x + a) + c * (peval (List.replicate l.length 0 ++ [1]) x * x + 0)
    rw [peval_snoc x c l, Rg.add_zero, Rg.add_mul]
    have e : c * peval (List.replicate l.length 0 ++ [1]) x * x = c * (peval (List.replicate l.length 0 ++ [1]) x * x) := Rg.mul_assoc _ _ _
    rw [e, Rg.add_assoc, Rg.add_comm _ a, ← Rg.add_assoc]
noncomputable def mn (X : Fr) (k : Nat) : Fr := peval (List.replicate k 0 ++ [1]) X
theorem mn_succ (X : Fr) (k : Nat) : mn X (k + 1) = mn X k * X := by
  show peval (List.replicate k 0 ++ [1]) X * X + 0 = _
  rw [Rg.add_zero]; rfl
theorem mn_zero (X : Fr) : mn X 0 = 1 := by
  show 0 * X + 1 = (1 : Fr)
  rw [Rg.zero_mul, Rg.zero_add]
def by8 (u : Int) : List Int := [IntKind.u8.wrap (u.fdiv (2 ^ min 56 IntKind.u64.bits)), IntKind.u8.wrap (u.fdiv (2 ^ min 48 IntKind.u64.bits)), IntKind.u8.wrap (u.fdiv (2 ^ min 40 IntKind.u64.bits)), IntKind.u8.wrap (u.fdiv (2 ^ min 32 IntKind.u64.bits)), IntKind.u8.wrap (u.fdiv (2 ^ min 24 IntKind.u64.bits)), IntKind.u8.wrap (u.fdiv (2 ^ min 16 IntKind.u64.bits)), IntKind.u8.wrap (u.fdiv (2 ^ min 8 IntKind.u64.bits)), IntKind.u8.wrap u]
theorem t8 (u : Int) : List.take 8 [IntKind.u8.wrap (u.fdiv (2 ^ min 56 IntKind.u64.bits)), IntKind.u8.wrap (u.fdiv (2 ^ min 48 IntKind.u64.bits)), IntKind.u8.wrap (u.fdiv (2 ^ min 40 IntKind.u64.bits)), IntKind.u8.wrap (u.fdiv (2 ^ min 32 IntKind.u64.bits)), IntKind.u8.wrap (u.fdiv (2 ^ min 24 IntKind.u64.bits)), IntKind.u8.wrap (u.fdiv (2 ^ min 16 IntKind.u64.bits)), IntKind.u8.wrap (u.fdiv (2 ^ min 8 IntKind.u64.bits)), IntKind.u8.wrap u] = by8 u := rfl
theorem by8_num {u : Int} (h0 : 0 ≤ u) (h1 : u < 18446744073709551616) : num (by8 u) = u := by
  have fd : ∀ k : Nat, u.fdiv (2 ^ min k IntKind.u64.bits) = u / 2 ^ min k IntKind.u64.bits := fun k => Int.fdiv_eq_ediv_of_nonneg _ (Int.le_of_lt (Int.pow_pos (by decide)))
  show (((((((0 * 256 + IntKind.u8.wrap (u.fdiv (2 ^ min 56 IntKind.u64.bits))) * 256 + IntKind.u8.wrap (u.fdiv (2 ^ min 48 IntKind.u64.bits))) * 256 + IntKind.u8.wrap (u.fdiv (2 ^ min 40 IntKind.u64.bits))) * 256 + IntKind.u8.wrap (u.fdiv (2 ^ min 32 IntKind.u64.bits))) * 256 + IntKind.u8.wrap (u.fdiv (2 ^ min 24 IntKind.u64.bits))) * 256 + IntKind.u8.wrap (u.fdiv (2 ^ min 16 IntKind.u64.bits))) * 256 + IntKind.u8.wrap (u.fdiv (2 ^ min 8 IntKind.u64.bits))) * 256 + IntKind.u8.wrap u = u
  simp only [fd, Eng.wrap_u8]
  show (((((((0 * 256 + u / 72057594037927936 % 256) * 256 + u / 281474976710656 % 256) * 256 + u / 1099511627776 % 256) * 256 + u / 4294967296 % 256) * 256 + u / 16777216 % 256) * 256 + u / 65536 % 256) * 256 + u / 256 % 256) * 256 + u % 256 = u
  omega
theorem by8_Bs (u : Int) : Bs (by8 u) := by
  intro y hy
  have key : ∀ z, 0 ≤ IntKind.u8.wrap z ∧ IntKind.u8.wrap z < 256 := fun z => by rw [Eng.wrap_u8]; omega
  simp only [by8, List.mem_cons, List.not_mem_nil, or_false] at hy
  rcases hy with h | h | h | h | h | h | h | h
  all_goals rw [h]; exact key _
theorem nbo_ok {b : List Int} (hb : Bs b) : W16 (nbo b) ∧ (nbo b).length = (b.length + 1) / 2 ∧ v16 (nbo b) = num b := by
  rw [nbo, opq_eq, numbF]
  have h := num_bd hb
  refine ⟨w16_W _ _, w16_len _ _, lt_w h.1 ?_⟩
  have h2 : pv16 ((b.length + 1) / 2) = p256 (2 * ((b.length + 1) / 2)) := pv16_256 _
  have h3 := p256_mono (show b.length ≤ 2 * ((b.length + 1) / 2) by omega)
  omega
theorem nb8_ok {u : Int} (h0 : 0 ≤ u) (h1 : u < 18446744073709551616) : preNumb (by8 u, ()) ∧ W16 (nbo (by8 u)) ∧ (nbo (by8 u)).length = 4 ∧ v16 (nbo (by8 u)) = u := by
  obtain ⟨a, b, c⟩ := nbo_ok (by8_Bs u)
  exact ⟨⟨by8_Bs u, by show 8 ≤ _; decide⟩, a, b.trans (by show (8 + 1) / 2 = 4; decide), by rw [c, by8_num h0 h1]⟩
theorem md_pos : 0 < v16 mdw := by rw [mdw_v]; decide
theorem ent_values : enters Try.prog 3 Try.f3 := enters_mk (by kernel_rfl) (by kernel_rfl) (by kernel_rfl)
noncomputable def vlA (bs : List (List Int)) (x : Int) (K : List Int) : St := mkSt Try.f3.ntmps 376 [(0, .is (.one (.ro bsl bs))), (1, sI .i64 x), (5, .is (.one (.ro .fr (madF bs)))), (7, .is (.one (.ro uK mdw))), (9, .is (.one (.ro uK K)))] []
noncomputable def vlB (bs : List (List Int)) (x : Int) (K : List Int) : St := mkSt Try.f3.ntmps 432 [(1, sI .i64 x), (5, .is (.one (.ro .fr (madF bs)))), (7, .is (.one (.ro uK mdw))), (9, .is (.one (.ro uK K))), (10, .is (.one (.sl 376 0 0 1 1))), (11, .is (.one (.sl 392 0 0 1 1))), (64, .is (.one (.ro bsl bs))), (65, sI .i64 bs.length), (66, sI .i64 0)] [(392, [.ints .u32 1 [1]]), (376, [.ints .u32 1 [0]])]
noncomputable def vlI (bs : List (List Int)) (x : Int) (K : List Int) (g : Int × List Int × List Int) : St := mkSt Try.f3.ntmps 432 [(1, sI .i64 x), (5, .is (.one (.ro .fr (madF bs)))), (7, .is (.one (.ro uK mdw))), (9, .is (.one (.ro uK K))), (10, .is (.one (.ro uK g.2.1))), (11, .is (.one (.ro uK g.2.2))), (64, .is (.one (.ro bsl bs))), (65, sI .i64 bs.length), (66, sI .i64 g.1)] []
noncomputable def vlJ (bs : List (List Int)) (x : Int) (g : Int × List Int × List Int) : Prop := ∃ k : Nat, k ≤ bs.length ∧ g.1 = (k : Int) ∧ (W16 g.2.1 ∧ g.2.1.length ≤ 100 ∧ v16 g.2.1 < Mr ∧ (zm (v16 g.2.1) : Fr) = peval ((bs.map scw).take k) (zm x)) ∧ W16 g.2.2 ∧ g.2.2.length ≤ 100 ∧ (zm (v16 g.2.2) : Fr) = mn (zm x) k
theorem fn_values : FnOk Try.prog 3 [.sl bsl, .int .i64] [.val .bool] noG (fun (bs, x, _) => preBB bs ∧ preI x) (fun _ => (true, ())) := by
  have hsp : SpecsOk Try.prog (sps [spHead, srMade, ref03.spModulus, srNumber, ref03.spSub, ref03.srMod, ref03.spMul, ref03.spAdd, poly.spAt, fr.spBytes, ref03.spBytes, ref01.spSame]) := sps_cons (fnSpec_ok fn_head) (sps_cons (fnSpec_ok fr_made) (sps_cons (fnSpec_ok ref03.fn_modulus) (sps_cons (fnSpec_ok fr_number) (sps_cons (fnSpec_ok ref03.fn_sub) (sps_cons (fnSpec_ok ref03.fr_mod) (sps_cons (fnSpec_ok ref03.fn_mul) (sps_cons (fnSpec_ok ref03.fn_add) (sps_cons (fnSpec_ok poly.fn_at) (sps_cons (fnSpec_ok fr.fn_bytes) (sps_cons (fnSpec_ok ref03.fn_bytes) (sps_cons (fnSpec_ok ref01.fn_same) sps_nil)))))))))))
  refine fn_of_tr (sp := sps [spHead, srMade, ref03.spModulus, srNumber, ref03.spSub, ref03.srMod, ref03.spMul, ref03.spAdd, poly.spAt, fr.spBytes, ref03.spBytes, ref01.spSame]) ent_values (by decide) (by decide) (by kernel_rfl) ?_
  rintro w M0 ⟨bs, x, ⟨⟩⟩
  revert bs x
  intro (bs : List (List Int)) (x : Int) _ hp
  obtain ⟨hb, hx⟩ := hp
  have hx : -9223372036854775808 ≤ x ∧ x < 9223372036854775808 := hx
  show Tr _ _ _ _ _ _ _
  refine tr_cutF hsp mixed 13 (fun σ => rdO uK 9 σ) (vlA bs x) (fun K => fitB bs = true ∧ W16 K ∧ K.length ≤ 100 ∧ (zm (v16 K) : Fr) = zm x) ?_ ?_
  · refine vcx (X := (True ∧ ((!true) = true → (false, ()) = (true, ())) ∧ ((!true) = false → preMade (bs, ()) ∧ ((!fitB bs) = true → (true, ()) = (true, ())) ∧ ((!fitB bs) = false → True ∧ (decide (x < (0 : Int)) = true → (0 : Int) ≤ (56 : Int) ∧ (0 : Int) ≤ (48 : Int) ∧ (0 : Int) ≤ (40 : Int) ∧ (0 : Int) ≤ (32 : Int) ∧ (0 : Int) ≤ (24 : Int) ∧ (0 : Int) ≤ (16 : Int) ∧ (0 : Int) ≤ (8 : Int) ∧ (0 : Nat) + (8 : Nat) ≤ (8 : Nat) ∧ preNumb (List.take (8 : Nat) [IntKind.u8.wrap ((IntKind.u64.wrap ((0 : Int) - IntKind.u64.wrap x)).fdiv ((2 : Int) ^ min (56 : Nat) IntKind.u64.bits)), IntKind.u8.wrap ((IntKind.u64.wrap ((0 : Int) - IntKind.u64.wrap x)).fdiv ((2 : Int) ^ min (48 : Nat) IntKind.u64.bits)), IntKind.u8.wrap ((IntKind.u64.wrap ((0 : Int) - IntKind.u64.wrap x)).fdiv ((2 : Int) ^ min (40 : Nat) IntKind.u64.bits)), IntKind.u8.wrap ((IntKind.u64.wrap ((0 : Int) - IntKind.u64.wrap x)).fdiv ((2 : Int) ^ min (32 : Nat) IntKind.u64.bits)), IntKind.u8.wrap ((IntKind.u64.wrap ((0 : Int) - IntKind.u64.wrap x)).fdiv ((2 : Int) ^ min (24 : Nat) IntKind.u64.bits)), IntKind.u8.wrap ((IntKind.u64.wrap ((0 : Int) - IntKind.u64.wrap x)).fdiv ((2 : Int) ^ min (16 : Nat) IntKind.u64.bits)), IntKind.u8.wrap ((IntKind.u64.wrap ((0 : Int) - IntKind.u64.wrap x)).fdiv ((2 : Int) ^ min (8 : Nat) IntKind.u64.bits)), IntKind.u8.wrap (IntKind.u64.wrap ((0 : Int) - IntKind.u64.wrap x))], ()) ∧ (decide (x < (0 : Int)) = true → (pre3 ([], nbo (List.take (8 : Nat) [IntKind.u8.wrap ((IntKind.u64.wrap ((0 : Int) - IntKind.u64.wrap x)).fdiv ((2 : Int) ^ min (56 : Nat) IntKind.u64.bits)), IntKind.u8.wrap ((IntKind.u64.wrap ((0 : Int) - IntKind.u64.wrap x)).fdiv ((2 : Int) ^ min (48 : Nat) IntKind.u64.bits)), IntKind.u8.wrap ((IntKind.u64.wrap ((0 : Int) - IntKind.u64.wrap x)).fdiv ((2 : Int) ^ min (40 : Nat) IntKind.u64.bits)), IntKind.u8.wrap ((IntKind.u64.wrap ((0 : Int) - IntKind.u64.wrap x)).fdiv ((2 : Int) ^ min (32 : Nat) IntKind.u64.bits)), IntKind.u8.wrap ((IntKind.u64.wrap ((0 : Int) - IntKind.u64.wrap x)).fdiv ((2 : Int) ^ min (24 : Nat) IntKind.u64.bits)), IntKind.u8.wrap ((IntKind.u64.wrap ((0 : Int) - IntKind.u64.wrap x)).fdiv ((2 : Int) ^ min (16 : Nat) IntKind.u64.bits)), IntKind.u8.wrap ((IntKind.u64.wrap ((0 : Int) - IntKind.u64.wrap x)).fdiv ((2 : Int) ^ min (8 : Nat) IntKind.u64.bits)), IntKind.u8.wrap (IntKind.u64.wrap ((0 : Int) - IntKind.u64.wrap x))]), mdw, ()) ∧ v16 (nbo (List.take (8 : Nat) [IntKind.u8.wrap ((IntKind.u64.wrap ((0 : Int) - IntKind.u64.wrap x)).fdiv ((2 : Int) ^ min (56 : Nat) IntKind.u64.bits)), IntKind.u8.wrap ((IntKind.u64.wrap ((0 : Int) - IntKind.u64.wrap x)).fdiv ((2 : Int) ^ min (48 : Nat) IntKind.u64.bits)), IntKind.u8.wrap ((IntKind.u64.wrap ((0 : Int) - IntKind.u64.wrap x)).fdiv ((2 : Int) ^ min (40 : Nat) IntKind.u64.bits)), IntKind.u8.wrap ((IntKind.u64.wrap ((0 : Int) - IntKind.u64.wrap x)).fdiv ((2 : Int) ^ min (32 : Nat) IntKind.u64.bits)), IntKind.u8.wrap ((IntKind.u64.wrap ((0 : Int) - IntKind.u64.wrap x)).fdiv ((2 : Int) ^ min (24 : Nat) IntKind.u64.bits)), IntKind.u8.wrap ((IntKind.u64.wrap ((0 : Int) - IntKind.u64.wrap x)).fdiv ((2 : Int) ^ min (16 : Nat) IntKind.u64.bits)), IntKind.u8.wrap ((IntKind.u64.wrap ((0 : Int) - IntKind.u64.wrap x)).fdiv ((2 : Int) ^ min (8 : Nat) IntKind.u64.bits)), IntKind.u8.wrap (IntKind.u64.wrap ((0 : Int) - IntKind.u64.wrap x))])) ≤ v16 [] + v16 mdw) ∧ (vlA bs x (subM [] (nbo (List.take (8 : Nat) [IntKind.u8.wrap ((IntKind.u64.wrap ((0 : Int) - IntKind.u64.wrap x)).fdiv ((2 : Int) ^ min (56 : Nat) IntKind.u64.bits)), IntKind.u8.wrap ((IntKind.u64.wrap ((0 : Int) - IntKind.u64.wrap x)).fdiv ((2 : Int) ^ min (48 : Nat) IntKind.u64.bits)), IntKind.u8.wrap ((IntKind.u64.wrap ((0 : Int) - IntKind.u64.wrap x)).fdiv ((2 : Int) ^ min (40 : Nat) IntKind.u64.bits)), IntKind.u8.wrap ((IntKind.u64.wrap ((0 : Int) - IntKind.u64.wrap x)).fdiv ((2 : Int) ^ min (32 : Nat) IntKind.u64.bits)), IntKind.u8.wrap ((IntKind.u64.wrap ((0 : Int) - IntKind.u64.wrap x)).fdiv ((2 : Int) ^ min (24 : Nat) IntKind.u64.bits)), IntKind.u8.wrap ((IntKind.u64.wrap ((0 : Int) - IntKind.u64.wrap x)).fdiv ((2 : Int) ^ min (16 : Nat) IntKind.u64.bits)), IntKind.u8.wrap ((IntKind.u64.wrap ((0 : Int) - IntKind.u64.wrap x)).fdiv ((2 : Int) ^ min (8 : Nat) IntKind.u64.bits)), IntKind.u8.wrap (IntKind.u64.wrap ((0 : Int) - IntKind.u64.wrap x))]), ()).fst mdw, ()).fst).triv (fitB bs = true ∧ W16 (subM [] (nbo (List.take (8 : Nat) [IntKind.u8.wrap ((IntKind.u64.wrap ((0 : Int) - IntKind.u64.wrap x)).fdiv ((2 : Int) ^ min (56 : Nat) IntKind.u64.bits)), IntKind.u8.wrap ((IntKind.u64.wrap ((0 : Int) - IntKind.u64.wrap x)).fdiv ((2 : Int) ^ min (48 : Nat) IntKind.u64.bits)), IntKind.u8.wrap ((IntKind.u64.wrap ((0 : Int) - IntKind.u64.wrap x)).fdiv ((2 : Int) ^ min (40 : Nat) IntKind.u64.bits)), IntKind.u8.wrap ((IntKind.u64.wrap ((0 : Int) - IntKind.u64.wrap x)).fdiv ((2 : Int) ^ min (32 : Nat) IntKind.u64.bits)), IntKind.u8.wrap ((IntKind.u64.wrap ((0 : Int) - IntKind.u64.wrap x)).fdiv ((2 : Int) ^ min (24 : Nat) IntKind.u64.bits)), IntKind.u8.wrap ((IntKind.u64.wrap ((0 : Int) - IntKind.u64.wrap x)).fdiv ((2 : Int) ^ min (16 : Nat) IntKind.u64.bits)), IntKind.u8.wrap ((IntKind.u64.wrap ((0 : Int) - IntKind.u64.wrap x)).fdiv ((2 : Int) ^ min (8 : Nat) IntKind.u64.bits)), IntKind.u8.wrap (IntKind.u64.wrap ((0 : Int) - IntKind.u64.wrap x))])) mdw) ∧ (subM [] (nbo (List.take (8 : Nat) [IntKind.u8.wrap ((IntKind.u64.wrap ((0 : Int) - IntKind.u64.wrap x)).fdiv ((2 : Int) ^ min (56 : Nat) IntKind.u64.bits)), IntKind.u8.wrap ((IntKind.u64.wrap ((0 : Int) - IntKind.u64.wrap x)).fdiv ((2 : Int) ^ min (48 : Nat) IntKind.u64.bits)), IntKind.u8.wrap ((IntKind.u64.wrap ((0 : Int) - IntKind.u64.wrap x)).fdiv ((2 : Int) ^ min (40 : Nat) IntKind.u64.bits)), IntKind.u8.wrap ((IntKind.u64.wrap ((0 : Int) - IntKind.u64.wrap x)).fdiv ((2 : Int) ^ min (32 : Nat) IntKind.u64.bits)), IntKind.u8.wrap ((IntKind.u64.wrap ((0 : Int) - IntKind.u64.wrap x)).fdiv ((2 : Int) ^ min (24 : Nat) IntKind.u64.bits)), IntKind.u8.wrap ((IntKind.u64.wrap ((0 : Int) - IntKind.u64.wrap x)).fdiv ((2 : Int) ^ min (16 : Nat) IntKind.u64.bits)), IntKind.u8.wrap ((IntKind.u64.wrap ((0 : Int) - IntKind.u64.wrap x)).fdiv ((2 : Int) ^ min (8 : Nat) IntKind.u64.bits)), IntKind.u8.wrap (IntKind.u64.wrap ((0 : Int) - IntKind.u64.wrap x))])) mdw).length ≤ (100 : Nat) ∧ zmr (v16 (subM [] (nbo (List.take (8 : Nat) [IntKind.u8.wrap ((IntKind.u64.wrap ((0 : Int) - IntKind.u64.wrap x)).fdiv ((2 : Int) ^ min (56 : Nat) IntKind.u64.bits)), IntKind.u8.wrap ((IntKind.u64.wrap ((0 : Int) - IntKind.u64.wrap x)).fdiv ((2 : Int) ^ min (48 : Nat) IntKind.u64.bits)), IntKind.u8.wrap ((IntKind.u64.wrap ((0 : Int) - IntKind.u64.wrap x)).fdiv ((2 : Int) ^ min (40 : Nat) IntKind.u64.bits)), IntKind.u8.wrap ((IntKind.u64.wrap ((0 : Int) - IntKind.u64.wrap x)).fdiv ((2 : Int) ^ min (32 : Nat) IntKind.u64.bits)), IntKind.u8.wrap ((IntKind.u64.wrap ((0 : Int) - IntKind.u64.wrap x)).fdiv ((2 : Int) ^ min (24 : Nat) IntKind.u64.bits)), IntKind.u8.wrap ((IntKind.u64.wrap ((0 : Int) - IntKind.u64.wrap x)).fdiv ((2 : Int) ^ min (16 : Nat) IntKind.u64.bits)), IntKind.u8.wrap ((IntKind.u64.wrap ((0 : Int) - IntKind.u64.wrap x)).fdiv ((2 : Int) ^ min (8 : Nat) IntKind.u64.bits)), IntKind.u8.wrap (IntKind.u64.wrap ((0 : Int) - IntKind.u64.wrap x))])) mdw)) = zmr x)) ∧ (decide (x < (0 : Int)) = false → (vlA bs x (nbo (List.take (8 : Nat) [IntKind.u8.wrap ((IntKind.u64.wrap ((0 : Int) - IntKind.u64.wrap x)).fdiv ((2 : Int) ^ min (56 : Nat) IntKind.u64.bits)), IntKind.u8.wrap ((IntKind.u64.wrap ((0 : Int) - IntKind.u64.wrap x)).fdiv ((2 : Int) ^ min (48 : Nat) IntKind.u64.bits)), IntKind.u8.wrap ((IntKind.u64.wrap ((0 : Int) - IntKind.u64.wrap x)).fdiv ((2 : Int) ^ min (40 : Nat) IntKind.u64.bits)), IntKind.u8.wrap ((IntKind.u64.wrap ((0 : Int) - IntKind.u64.wrap x)).fdiv ((2 : Int) ^ min (32 : Nat) IntKind.u64.bits)), IntKind.u8.wrap ((IntKind.u64.wrap ((0 : Int) - IntKind.u64.wrap x)).fdiv ((2 : Int) ^ min (24 : Nat) IntKind.u64.bits)), IntKind.u8.wrap ((IntKind.u64.wrap ((0 : Int) - IntKind.u64.wrap x)).fdiv ((2 : Int) ^ min (16 : Nat) IntKind.u64.bits)), IntKind.u8.wrap ((IntKind.u64.wrap ((0 : Int) - IntKind.u64.wrap x)).fdiv ((2 : Int) ^ min (8 : Nat) IntKind.u64.bits)), IntKind.u8.wrap (IntKind.u64.wrap ((0 : Int) - IntKind.u64.wrap x))]), ()).fst).triv (fitB bs = true ∧ W16 (nbo (List.take (8 : Nat) [IntKind.u8.wrap ((IntKind.u64.wrap ((0 : Int) - IntKind.u64.wrap x)).fdiv ((2 : Int) ^ min (56 : Nat) IntKind.u64.bits)), IntKind.u8.wrap ((IntKind.u64.wrap ((0 : Int) - IntKind.u64.wrap x)).fdiv ((2 : Int) ^ min (48 : Nat) IntKind.u64.bits)), IntKind.u8.wrap ((IntKind.u64.wrap ((0 : Int) - IntKind.u64.wrap x)).fdiv ((2 : Int) ^ min (40 : Nat) IntKind.u64.bits)), IntKind.u8.wrap ((IntKind.u64.wrap ((0 : Int) - IntKind.u64.wrap x)).fdiv ((2 : Int) ^ min (32 : Nat) IntKind.u64.bits)), IntKind.u8.wrap ((IntKind.u64.wrap ((0 : Int) - IntKind.u64.wrap x)).fdiv ((2 : Int) ^ min (24 : Nat) IntKind.u64.bits)), IntKind.u8.wrap ((IntKind.u64.wrap ((0 : Int) - IntKind.u64.wrap x)).fdiv ((2 : Int) ^ min (16 : Nat) IntKind.u64.bits)), IntKind.u8.wrap ((IntKind.u64.wrap ((0 : Int) - IntKind.u64.wrap x)).fdiv ((2 : Int) ^ min (8 : Nat) IntKind.u64.bits)), IntKind.u8.wrap (IntKind.u64.wrap ((0 : Int) - IntKind.u64.wrap x))])) ∧ (nbo (List.take (8 : Nat) [IntKind.u8.wrap ((IntKind.u64.wrap ((0 : Int) - IntKind.u64.wrap x)).fdiv ((2 : Int) ^ min (56 : Nat) IntKind.u64.bits)), IntKind.u8.wrap ((IntKind.u64.wrap ((0 : Int) - IntKind.u64.wrap x)).fdiv ((2 : Int) ^ min (48 : Nat) IntKind.u64.bits)), IntKind.u8.wrap ((IntKind.u64.wrap ((0 : Int) - IntKind.u64.wrap x)).fdiv ((2 : Int) ^ min (40 : Nat) IntKind.u64.bits)), IntKind.u8.wrap ((IntKind.u64.wrap ((0 : Int) - IntKind.u64.wrap x)).fdiv ((2 : Int) ^ min (32 : Nat) IntKind.u64.bits)), IntKind.u8.wrap ((IntKind.u64.wrap ((0 : Int) - IntKind.u64.wrap x)).fdiv ((2 : Int) ^ min (24 : Nat) IntKind.u64.bits)), IntKind.u8.wrap ((IntKind.u64.wrap ((0 : Int) - IntKind.u64.wrap x)).fdiv ((2 : Int) ^ min (16 : Nat) IntKind.u64.bits)), IntKind.u8.wrap ((IntKind.u64.wrap ((0 : Int) - IntKind.u64.wrap x)).fdiv ((2 : Int) ^ min (8 : Nat) IntKind.u64.bits)), IntKind.u8.wrap (IntKind.u64.wrap ((0 : Int) - IntKind.u64.wrap x))])).length ≤ (100 : Nat) ∧ zmr (v16 (nbo (List.take (8 : Nat) [IntKind.u8.wrap ((IntKind.u64.wrap ((0 : Int) - IntKind.u64.wrap x)).fdiv ((2 : Int) ^ min (56 : Nat) IntKind.u64.bits)), IntKind.u8.wrap ((IntKind.u64.wrap ((0 : Int) - IntKind.u64.wrap x)).fdiv ((2 : Int) ^ min (48 : Nat) IntKind.u64.bits)), IntKind.u8.wrap ((IntKind.u64.wrap ((0 : Int) - IntKind.u64.wrap x)).fdiv ((2 : Int) ^ min (40 : Nat) IntKind.u64.bits)), IntKind.u8.wrap ((IntKind.u64.wrap ((0 : Int) - IntKind.u64.wrap x)).fdiv ((2 : Int) ^ min (32 : Nat) IntKind.u64.bits)), IntKind.u8.wrap ((IntKind.u64.wrap ((0 : Int) - IntKind.u64.wrap x)).fdiv ((2 : Int) ^ min (24 : Nat) IntKind.u64.bits)), IntKind.u8.wrap ((IntKind.u64.wrap ((0 : Int) - IntKind.u64.wrap x)).fdiv ((2 : Int) ^ min (16 : Nat) IntKind.u64.bits)), IntKind.u8.wrap ((IntKind.u64.wrap ((0 : Int) - IntKind.u64.wrap x)).fdiv ((2 : Int) ^ min (8 : Nat) IntKind.u64.bits)), IntKind.u8.wrap (IntKind.u64.wrap ((0 : Int) - IntKind.u64.wrap x))]))) = zmr x))) ∧ (decide (x < (0 : Int)) = false → (0 : Int) ≤ (56 : Int) ∧ (0 : Int) ≤ (48 : Int) ∧ (0 : Int) ≤ (40 : Int) ∧ (0 : Int) ≤ (32 : Int) ∧ (0 : Int) ≤ (24 : Int) ∧ (0 : Int) ≤ (16 : Int) ∧ (0 : Int) ≤ (8 : Int) ∧ (0 : Nat) + (8 : Nat) ≤ (8 : Nat) ∧ preNumb (List.take (8 : Nat) [IntKind.u8.wrap ((IntKind.u64.wrap x).fdiv ((2 : Int) ^ min (56 : Nat) IntKind.u64.bits)), IntKind.u8.wrap ((IntKind.u64.wrap x).fdiv ((2 : Int) ^ min (48 : Nat) IntKind.u64.bits)), IntKind.u8.wrap ((IntKind.u64.wrap x).fdiv ((2 : Int) ^ min (40 : Nat) IntKind.u64.bits)), IntKind.u8.wrap ((IntKind.u64.wrap x).fdiv ((2 : Int) ^ min (32 : Nat) IntKind.u64.bits)), IntKind.u8.wrap ((IntKind.u64.wrap x).fdiv ((2 : Int) ^ min (24 : Nat) IntKind.u64.bits)), IntKind.u8.wrap ((IntKind.u64.wrap x).fdiv ((2 : Int) ^ min (16 : Nat) IntKind.u64.bits)), IntKind.u8.wrap ((IntKind.u64.wrap x).fdiv ((2 : Int) ^ min (8 : Nat) IntKind.u64.bits)), IntKind.u8.wrap (IntKind.u64.wrap x)], ()) ∧ (decide (x < (0 : Int)) = true → (pre3 ([], nbo (List.take (8 : Nat) [IntKind.u8.wrap ((IntKind.u64.wrap x).fdiv ((2 : Int) ^ min (56 : Nat) IntKind.u64.bits)), IntKind.u8.wrap ((IntKind.u64.wrap x).fdiv ((2 : Int) ^ min (48 : Nat) IntKind.u64.bits)), IntKind.u8.wrap ((IntKind.u64.wrap x).fdiv ((2 : Int) ^ min (40 : Nat) IntKind.u64.bits)), IntKind.u8.wrap ((IntKind.u64.wrap x).fdiv ((2 : Int) ^ min (32 : Nat) IntKind.u64.bits)), IntKind.u8.wrap ((IntKind.u64.wrap x).fdiv ((2 : Int) ^ min (24 : Nat) IntKind.u64.bits)), IntKind.u8.wrap ((IntKind.u64.wrap x).fdiv ((2 : Int) ^ min (16 : Nat) IntKind.u64.bits)), IntKind.u8.wrap ((IntKind.u64.wrap x).fdiv ((2 : Int) ^ min (8 : Nat) IntKind.u64.bits)), IntKind.u8.wrap (IntKind.u64.wrap x)]), mdw, ()) ∧ v16 (nbo (List.take (8 : Nat) [IntKind.u8.wrap ((IntKind.u64.wrap x).fdiv ((2 : Int) ^ min (56 : Nat) IntKind.u64.bits)), IntKind.u8.wrap ((IntKind.u64.wrap x).fdiv ((2 : Int) ^ min (48 : Nat) IntKind.u64.bits)), IntKind.u8.wrap ((IntKind.u64.wrap x).fdiv ((2 : Int) ^ min (40 : Nat) IntKind.u64.bits)), IntKind.u8.wrap ((IntKind.u64.wrap x).fdiv ((2 : Int) ^ min (32 : Nat) IntKind.u64.bits)), IntKind.u8.wrap ((IntKind.u64.wrap x).fdiv ((2 : Int) ^ min (24 : Nat) IntKind.u64.bits)), IntKind.u8.wrap ((IntKind.u64.wrap x).fdiv ((2 : Int) ^ min (16 : Nat) IntKind.u64.bits)), IntKind.u8.wrap ((IntKind.u64.wrap x).fdiv ((2 : Int) ^ min (8 : Nat) IntKind.u64.bits)), IntKind.u8.wrap (IntKind.u64.wrap x)])) ≤ v16 [] + v16 mdw) ∧ (vlA bs x (subM [] (nbo (List.take (8 : Nat) [IntKind.u8.wrap ((IntKind.u64.wrap x).fdiv ((2 : Int) ^ min (56 : Nat) IntKind.u64.bits)), IntKind.u8.wrap ((IntKind.u64.wrap x).fdiv ((2 : Int) ^ min (48 : Nat) IntKind.u64.bits)), IntKind.u8.wrap ((IntKind.u64.wrap x).fdiv ((2 : Int) ^ min (40 : Nat) IntKind.u64.bits)), IntKind.u8.wrap ((IntKind.u64.wrap x).fdiv ((2 : Int) ^ min (32 : Nat) IntKind.u64.bits)), IntKind.u8.wrap ((IntKind.u64.wrap x).fdiv ((2 : Int) ^ min (24 : Nat) IntKind.u64.bits)), IntKind.u8.wrap ((IntKind.u64.wrap x).fdiv ((2 : Int) ^ min (16 : Nat) IntKind.u64.bits)), IntKind.u8.wrap ((IntKind.u64.wrap x).fdiv ((2 : Int) ^ min (8 : Nat) IntKind.u64.bits)), IntKind.u8.wrap (IntKind.u64.wrap x)]), ()).fst mdw, ()).fst).triv (fitB bs = true ∧ W16 (subM [] (nbo (List.take (8 : Nat) [IntKind.u8.wrap ((IntKind.u64.wrap x).fdiv ((2 : Int) ^ min (56 : Nat) IntKind.u64.bits)), IntKind.u8.wrap ((IntKind.u64.wrap x).fdiv ((2 : Int) ^ min (48 : Nat) IntKind.u64.bits)), IntKind.u8.wrap ((IntKind.u64.wrap x).fdiv ((2 : Int) ^ min (40 : Nat) IntKind.u64.bits)), IntKind.u8.wrap ((IntKind.u64.wrap x).fdiv ((2 : Int) ^ min (32 : Nat) IntKind.u64.bits)), IntKind.u8.wrap ((IntKind.u64.wrap x).fdiv ((2 : Int) ^ min (24 : Nat) IntKind.u64.bits)), IntKind.u8.wrap ((IntKind.u64.wrap x).fdiv ((2 : Int) ^ min (16 : Nat) IntKind.u64.bits)), IntKind.u8.wrap ((IntKind.u64.wrap x).fdiv ((2 : Int) ^ min (8 : Nat) IntKind.u64.bits)), IntKind.u8.wrap (IntKind.u64.wrap x)])) mdw) ∧ (subM [] (nbo (List.take (8 : Nat) [IntKind.u8.wrap ((IntKind.u64.wrap x).fdiv ((2 : Int) ^ min (56 : Nat) IntKind.u64.bits)), IntKind.u8.wrap ((IntKind.u64.wrap x).fdiv ((2 : Int) ^ min (48 : Nat) IntKind.u64.bits)), IntKind.u8.wrap ((IntKind.u64.wrap x).fdiv ((2 : Int) ^ min (40 : Nat) IntKind.u64.bits)), IntKind.u8.wrap ((IntKind.u64.wrap x).fdiv ((2 : Int) ^ min (32 : Nat) IntKind.u64.bits)), IntKind.u8.wrap ((IntKind.u64.wrap x).fdiv ((2 : Int) ^ min (24 : Nat) IntKind.u64.bits)), IntKind.u8.wrap ((IntKind.u64.wrap x).fdiv ((2 : Int) ^ min (16 : Nat) IntKind.u64.bits)), IntKind.u8.wrap ((IntKind.u64.wrap x).fdiv ((2 : Int) ^ min (8 : Nat) IntKind.u64.bits)), IntKind.u8.wrap (IntKind.u64.wrap x)])) mdw).length ≤ (100 : Nat) ∧ zmr (v16 (subM [] (nbo (List.take (8 : Nat) [IntKind.u8.wrap ((IntKind.u64.wrap x).fdiv ((2 : Int) ^ min (56 : Nat) IntKind.u64.bits)), IntKind.u8.wrap ((IntKind.u64.wrap x).fdiv ((2 : Int) ^ min (48 : Nat) IntKind.u64.bits)), IntKind.u8.wrap ((IntKind.u64.wrap x).fdiv ((2 : Int) ^ min (40 : Nat) IntKind.u64.bits)), IntKind.u8.wrap ((IntKind.u64.wrap x).fdiv ((2 : Int) ^ min (32 : Nat) IntKind.u64.bits)), IntKind.u8.wrap ((IntKind.u64.wrap x).fdiv ((2 : Int) ^ min (24 : Nat) IntKind.u64.bits)), IntKind.u8.wrap ((IntKind.u64.wrap x).fdiv ((2 : Int) ^ min (16 : Nat) IntKind.u64.bits)), IntKind.u8.wrap ((IntKind.u64.wrap x).fdiv ((2 : Int) ^ min (8 : Nat) IntKind.u64.bits)), IntKind.u8.wrap (IntKind.u64.wrap x)])) mdw)) = zmr x)) ∧ (decide (x < (0 : Int)) = false → (vlA bs x (nbo (List.take (8 : Nat) [IntKind.u8.wrap ((IntKind.u64.wrap x).fdiv ((2 : Int) ^ min (56 : Nat) IntKind.u64.bits)), IntKind.u8.wrap ((IntKind.u64.wrap x).fdiv ((2 : Int) ^ min (48 : Nat) IntKind.u64.bits)), IntKind.u8.wrap ((IntKind.u64.wrap x).fdiv ((2 : Int) ^ min (40 : Nat) IntKind.u64.bits)), IntKind.u8.wrap ((IntKind.u64.wrap x).fdiv ((2 : Int) ^ min (32 : Nat) IntKind.u64.bits)), IntKind.u8.wrap ((IntKind.u64.wrap x).fdiv ((2 : Int) ^ min (24 : Nat) IntKind.u64.bits)), IntKind.u8.wrap ((IntKind.u64.wrap x).fdiv ((2 : Int) ^ min (16 : Nat) IntKind.u64.bits)), IntKind.u8.wrap ((IntKind.u64.wrap x).fdiv ((2 : Int) ^ min (8 : Nat) IntKind.u64.bits)), IntKind.u8.wrap (IntKind.u64.wrap x)]), ()).fst).triv (fitB bs = true ∧ W16 (nbo (List.take (8 : Nat) [IntKind.u8.wrap ((IntKind.u64.wrap x).fdiv ((2 : Int) ^ min (56 : Nat) IntKind.u64.bits)), IntKind.u8.wrap ((IntKind.u64.wrap x).fdiv ((2 : Int) ^ min (48 : Nat) IntKind.u64.bits)), IntKind.u8.wrap ((IntKind.u64.wrap x).fdiv ((2 : Int) ^ min (40 : Nat) IntKind.u64.bits)), IntKind.u8.wrap ((IntKind.u64.wrap x).fdiv ((2 : Int) ^ min (32 : Nat) IntKind.u64.bits)), IntKind.u8.wrap ((IntKind.u64.wrap x).fdiv ((2 : Int) ^ min (24 : Nat) IntKind.u64.bits)), IntKind.u8.wrap ((IntKind.u64.wrap x).fdiv ((2 : Int) ^ min (16 : Nat) IntKind.u64.bits)), IntKind.u8.wrap ((IntKind.u64.wrap x).fdiv ((2 : Int) ^ min (8 : Nat) IntKind.u64.bits)), IntKind.u8.wrap (IntKind.u64.wrap x)])) ∧ (nbo (List.take (8 : Nat) [IntKind.u8.wrap ((IntKind.u64.wrap x).fdiv ((2 : Int) ^ min (56 : Nat) IntKind.u64.bits)), IntKind.u8.wrap ((IntKind.u64.wrap x).fdiv ((2 : Int) ^ min (48 : Nat) IntKind.u64.bits)), IntKind.u8.wrap ((IntKind.u64.wrap x).fdiv ((2 : Int) ^ min (40 : Nat) IntKind.u64.bits)), IntKind.u8.wrap ((IntKind.u64.wrap x).fdiv ((2 : Int) ^ min (32 : Nat) IntKind.u64.bits)), IntKind.u8.wrap ((IntKind.u64.wrap x).fdiv ((2 : Int) ^ min (24 : Nat) IntKind.u64.bits)), IntKind.u8.wrap ((IntKind.u64.wrap x).fdiv ((2 : Int) ^ min (16 : Nat) IntKind.u64.bits)), IntKind.u8.wrap ((IntKind.u64.wrap x).fdiv ((2 : Int) ^ min (8 : Nat) IntKind.u64.bits)), IntKind.u8.wrap (IntKind.u64.wrap x)])).length ≤ (100 : Nat) ∧ zmr (v16 (nbo (List.take (8 : Nat) [IntKind.u8.wrap ((IntKind.u64.wrap x).fdiv ((2 : Int) ^ min (56 : Nat) IntKind.u64.bits)), IntKind.u8.wrap ((IntKind.u64.wrap x).fdiv ((2 : Int) ^ min (48 : Nat) IntKind.u64.bits)), IntKind.u8.wrap ((IntKind.u64.wrap x).fdiv ((2 : Int) ^ min (40 : Nat) IntKind.u64.bits)), IntKind.u8.wrap ((IntKind.u64.wrap x).fdiv ((2 : Int) ^ min (32 : Nat) IntKind.u64.bits)), IntKind.u8.wrap ((IntKind.u64.wrap x).fdiv ((2 : Int) ^ min (24 : Nat) IntKind.u64.bits)), IntKind.u8.wrap ((IntKind.u64.wrap x).fdiv ((2 : Int) ^ min (16 : Nat) IntKind.u64.bits)), IntKind.u8.wrap ((IntKind.u64.wrap x).fdiv ((2 : Int) ^ min (8 : Nat) IntKind.u64.bits)), IntKind.u8.wrap (IntKind.u64.wrap x)]))) = zmr x))))))) (by kernel_rfl) ?_
    rw [t8, t8]
    have hu1 : x < 0 → IntKind.u64.wrap (0 - IntKind.u64.wrap x) = -x := fun h => by
      rw [wrap_u64_mod, wrap_u64_mod]; omega
    have hu2 : ¬ x < 0 → IntKind.u64.wrap x = x := fun h => wrap_u64 (by omega) (by omega)
    have dl : ∀ {P : Prop} {c : Bool}, c = true → c = false → P := fun h k => by rw [h] at k; cases k
    refine ⟨trivial, fun h => absurd h (by decide), fun _ => ⟨hb, fun _ => rfl, fun hfit => ⟨trivial, fun hn => ?_, fun hn => ?_⟩⟩⟩
    · have hfit : fitB bs = true := by simpa using hfit
      have hn1 : x < 0 := of_decide_eq_true hn
      rw [hu1 hn1]
      obtain ⟨n1, n2, n3, n4⟩ := nb8_ok (u := -x) (by omega) (by omega)
      have sv : v16 ([] : List Int) = 0 := rfl
      have sle : v16 (nbo (by8 (-x))) ≤ v16 [] + v16 mdw := by
        rw [n4, sv, mdw_v]
        have : (9223372036854775808 : Int) < Mr := by decide
        omega
      have se : subM [] (nbo (by8 (-x))) mdw = w16 mdw.length ((v16 [] + v16 mdw - -x) % v16 mdw) := by rw [subM, opq_eq, n4]
      refine ⟨by decide, by decide, by decide, by decide, by decide, by decide, by decide, Nat.le_refl _, n1, fun _ => ⟨⟨⟨⟨(fun y hy => by cases hy), n2, mdw_W⟩, ⟨by show 0 ≤ _; decide, by show (nbo (by8 (-x))).length ≤ _; omega, by show mdw.length ≤ _; rw [mdw_len]; decide⟩, md_pos⟩, sle⟩, triv_intro ⟨hfit, ?_, ?_, ?_⟩⟩, fun h => dl hn h⟩
      · rw [se]; exact (md_W _).1
      · rw [se, (md_W _).2.1]; decide
      · rw [se]
        refine (zm_md _).trans ?_
        rw [sv, mdw_v]
        refine zm_eq ?_
        have : (0 + Mr - -x) = x + Mr := by omega
        rw [this, Int.add_emod_right]
    · have hfit : fitB bs = true := by simpa using hfit
      have hn1 : ¬ x < 0 := of_decide_eq_false hn
      rw [hu2 hn1]
      obtain ⟨n1, n2, n3, n4⟩ := nb8_ok (u := x) (by omega) (by omega)
      exact ⟨by decide, by decide, by decide, by decide, by decide, by decide, by decide, Nat.le_refl _, n1, fun h => dl h hn, fun _ => triv_intro ⟨hfit, n2, by omega, by rw [n4]⟩⟩
  rintro K ⟨hf, hK1, hK2, hK3⟩
  revert K
  intro (K : List Int) (wK : W16 K) (lK : K.length ≤ 100) (zK : (zm (v16 K) : Fr) = zm x)
  refine tr_cut hsp mixed 3 (vlB bs x K) True ?_ (fun _ => ?_)
  · refine vcx (X := ((vlB bs x K).triv True)) (by kernel_rfl) ?_
    exact triv_intro trivial
  refine tr_frzI 10 376 1 1 .u32 [0] (by kernel_rfl) (by kernel_rfl) rfl ?_
  refine tr_frzI 11 392 1 1 .u32 [1] (by kernel_rfl) (by kernel_rfl) rfl ?_
  refine tr_while hsp mixed noSw (fun σ => (rdS (.int .i64) 66 σ, rdO uK 10 σ, rdO uK 11 σ)) (vlI bs x K) (vlJ bs x) (fun g => bs.length - g.1.toNat)
    (fun σ => (rdS (.int .i64) 66 σ, rdO uK 10 σ, rdO uK 11 σ)) (vlI bs x K) (fun g => W16 g.2.1 ∧ g.2.1.length ≤ 100 ∧ v16 g.2.1 < Mr ∧ (zm (v16 g.2.1) : Fr) = peval (bs.map scw) (zm x)) (0, [0], [1]) (c := nthC (codeOf Try.f3) 16) (by kernel_rfl) (by kernel_rfl) (le_of_proj (by kernel_rfl) (by kernel_rfl) ?_) ?_ ?_
  · refine ⟨0, Nat.zero_le _, rfl, ⟨?_, by decide, by decide, rfl⟩, ?_, by decide, ?_⟩
    · intro y hy
      have hy : y ∈ [(0 : Int)] := hy
      simp at hy; omega
    · intro y hy
      have hy : y ∈ [(1 : Int)] := hy
      simp at hy; omega
    · rw [mn_zero]; rfl
  · rintro ⟨i, s, q⟩ hj
    revert i s q
    intro (i : Int) (s : List Int) (q : List Int) ⟨k, hk, ei, ⟨ws, ls, vs, zs⟩, wq, lq, zq⟩
    have ei : i = (k : Int) := ei
    have kws : W16 s := ws
    have kls : s.length ≤ 100 := ls
    have kvs : v16 s < Mr := vs
    have kzs : (zm (v16 s) : Fr) = peval ((bs.map scw).take k) (zm x) := zs
    have kwq : W16 q := wq
    have klq : q.length ≤ 100 := lq
    have kzq : (zm (v16 q) : Fr) = mn (zm x) k := zq
    subst ei
    refine vcx (X := ((decide ((↑k : Int) < (↑bs.length : Int)) = true → ((0 : Int) ≤ (↑k : Int) ∧ (↑k : Int) < (↑bs.length : Int)) ∧ (↑k : Int).toNat < bs.length ∧ preNumb (bs.getD (↑k : Int).toNat [], ()) ∧ preMod (nbo (bs.getD (↑k : Int).toNat []), mdw, ()) ∧ pre3 (mdo (nbo (bs.getD (↑k : Int).toNat [])) mdw, q, mdw, ()) ∧ pre3 (s, ref03.mulM (mdo (nbo (bs.getD (↑k : Int).toNat [])) mdw) q mdw, mdw, ()) ∧ pre3 (q, K, mdw, ()) ∧ (vlI bs x K (IntKind.i64.wrap ((↑k : Int) + (1 : Int)), (addM s (ref03.mulM (mdo (nbo (bs.getD (↑k : Int).toNat []), ()).fst mdw, ()).fst q mdw, ()).fst mdw, ()).fst, (ref03.mulM q K mdw, ()).fst)).triv (vlJ bs x (IntKind.i64.wrap ((↑k : Int) + (1 : Int)), addM s (ref03.mulM (mdo (nbo (bs.getD (↑k : Int).toNat [])) mdw) q mdw) mdw, ref03.mulM q K mdw) ∧ bs.length - (IntKind.i64.wrap ((↑k : Int) + (1 : Int))).toNat < bs.length - (↑k : Int).toNat)) ∧ (decide ((↑k : Int) < (↑bs.length : Int)) = false → (vlI bs x K ((↑k : Int), s, q)).triv (W16 s ∧ s.length ≤ (100 : Nat) ∧ v16 s < Mr ∧ zmr (v16 s) = peval (List.map scw bs) (zmr x))))) (by kernel_rfl) ?_
    simp only [Int.toNat_natCast]
    refine ⟨fun h => ?_, fun h => triv_intro ?_⟩
    · have hlt : k < bs.length := by have := of_decide_eq_true h; omega
      obtain ⟨b, hbd⟩ : ∃ b, b = bs.getD k [] := ⟨_, rfl⟩
      have eb : bs.getD k [] = bs[k] := by rw [List.getD_eq_getElem?_getD, List.getElem?_eq_getElem hlt]; rfl
      have mem : b ∈ bs := by rw [hbd, eb]; exact List.getElem_mem hlt
      rw [← hbd]
      have lb : b.length ≤ 100 := by
        unfold fitB at hf
        rw [Bool.and_eq_true] at hf
        exact of_decide_eq_true (List.all_eq_true.1 hf.2 b mem)
      have bb : Bs b := (hb.1 b mem).1
      obtain ⟨n1, n2, n3⟩ := nbo_ok bb
      have eF : mdo (nbo b) mdw = w16 mdw.length (num b % v16 mdw) := by rw [mdo, opq_eq, modF, n3]
      obtain ⟨f1, f2, f3⟩ := md_W (num b)
      have fz := zm_md (num b)
      rw [← eF] at f1 f2 f3 fz
      have eM : ref03.mulM (mdo (nbo b) mdw) q mdw = w16 mdw.length ((v16 (mdo (nbo b) mdw) * v16 q) % v16 mdw) := by rw [ref03.mulM, opq_eq]
      obtain ⟨m1, m2, m3⟩ := md_W (v16 (mdo (nbo b) mdw) * v16 q)
      have mz := zm_md (v16 (mdo (nbo b) mdw) * v16 q)
      rw [← eM, ← zm_mul, fz, kzq] at mz
      rw [← eM] at m1 m2 m3
      have eA : addM s (ref03.mulM (mdo (nbo b) mdw) q mdw) mdw = w16 mdw.length ((v16 s + v16 (ref03.mulM (mdo (nbo b) mdw) q mdw)) % v16 mdw) := by rw [addM, opq_eq]
      obtain ⟨a1, a2, a3⟩ := md_W (v16 s + v16 (ref03.mulM (mdo (nbo b) mdw) q mdw))
      have az := zm_md (v16 s + v16 (ref03.mulM (mdo (nbo b) mdw) q mdw))
      rw [← eA, ← zm_add, mz, kzs] at az
      rw [← eA] at a1 a2 a3
      have eP : ref03.mulM q K mdw = w16 mdw.length ((v16 q * v16 K) % v16 mdw) := by rw [ref03.mulM, opq_eq]
      obtain ⟨p1, p2, p3⟩ := md_W (v16 q * v16 K)
      have pz := zm_md (v16 q * v16 K)
      rw [← eP, ← zm_mul, kzq, zK, ← mn_succ] at pz
      rw [← eP] at p1 p2 p3
      rw [wrap_succ (by omega)]
      have lm := mdw_len
      have ln : (nbo b).length ≤ 100 := by omega
      refine ⟨⟨by omega, by omega⟩, hlt, ⟨bb, by show b.length ≤ _; omega⟩, ⟨⟨n1, mdw_W, by show (nbo b).length ≤ _; omega, by show mdw.length < _; omega⟩, md_pos⟩,
        ⟨⟨f1, kwq, mdw_W⟩, ⟨by show (mdo (nbo b) mdw).length ≤ _; omega, by show q.length ≤ _; omega, by show mdw.length ≤ _; omega⟩, md_pos⟩,
        ⟨⟨kws, m1, mdw_W⟩, ⟨by show s.length ≤ _; omega, by show (ref03.mulM (mdo (nbo b) mdw) q mdw).length ≤ _; omega, by show mdw.length ≤ _; omega⟩, md_pos⟩,
        ⟨⟨kwq, wK, mdw_W⟩, ⟨by show q.length ≤ _; omega, by show K.length ≤ _; omega, by show mdw.length ≤ _; omega⟩, md_pos⟩, triv_intro ⟨⟨k + 1, hlt, rfl, ⟨a1, ?_, a3, ?_⟩, p1, ?_, pz⟩, ?_⟩⟩
      · show (addM _ _ _).length ≤ 100
        omega
      · show (zm (v16 (addM s (ref03.mulM (mdo (nbo b) mdw) q mdw) mdw)) : Fr) = _
        have lk : k < (bs.map scw).length := by rw [List.length_map]; exact hlt
        have lt2 : ((bs.map scw).take k).length = k := by rw [List.length_take]; omega
        rw [az, List.take_succ_eq_append_getElem lk, peval_snoc, lt2]
        congr 1
        have e9 : (bs.map scw)[k] = zm (num b) := by
          rw [List.getElem_map, ← eb, ← hbd, scw, opq_eq]
        rw [e9]; rfl
      · show (ref03.mulM q K mdw).length ≤ 100
        omega
      · rw [Int.toNat_natCast]; omega
    · have hk2 : k = bs.length := by have := of_decide_eq_false h; omega
      refine ⟨kws, kls, kvs, ?_⟩
      refine kzs.trans ?_
      rw [hk2, List.take_of_length_le (by rw [List.length_map]; exact Nat.le_refl _)]
  rintro ⟨i, s, q⟩ hj
  revert i s q
  intro (i : Int) (s : List Int) (q : List Int) ⟨ws, ls, vs, zs⟩
  have ws : W16 s := ws
  have ls : s.length ≤ 100 := ls
  have vs : v16 s < Mr := vs
  have zs : (zm (v16 s) : Fr) = peval (bs.map scw) (zm x) := zs
  refine tr_vc hsp mixed _ _ ?_
  refine vcx (X := (preAt (madF bs, x, ()) ∧ True ∧ preBytes (s, (32 : Int), ()) ∧ (0 : Nat) + (32 : Nat) ≤ (32 : Nat) ∧ (0 : Nat) + (bytesN (32 : Nat) (v16 s)).length ≤ (bytesN (32 : Nat) (v16 s)).length ∧ ref01.preSame (List.take (32 : Nat) (bytesN (32 : Nat) (pat (madF bs) x).v), List.take (bytesN (32 : Nat) (v16 s)).length (bytesN (32 : Nat) (v16 s)), ()) ∧ (ref01.sameF (List.take (32 : Nat) (bytesN (32 : Nat) (pat (madF bs) x).v)) (List.take (bytesN (32 : Nat) (v16 s)).length (bytesN (32 : Nat) (v16 s))), ()) = (true, ()))) (by kernel_rfl) ?_
  have em : madF bs = bs.map scw := by rw [madF, if_pos hf]
  have ev : (pat (madF bs) x).v = v16 s := by
    rw [pat_eq, em, ← zs]
    show v16 s % Mr = v16 s
    exact Int.emod_eq_of_lt (v16_nn ws) vs
  have lb : (bytesN 32 (v16 s)).length = 32 := bytesN_length _ _
  have l9 : (madF bs).length ≤ 9 := by
    rw [em, List.length_map]
    unfold fitB at hf
    rw [Bool.and_eq_true] at hf
    exact of_decide_eq_true hf.1
  rw [ev, List.take_length]
  refine ⟨⟨by omega, hx⟩, trivial, ⟨⟨ws, by show s.length ≤ _; omega⟩, by decide, by decide⟩, Nat.le_refl _, Nat.le_of_eq (Nat.zero_add _), ?_, ?_⟩
  · show (List.take 32 _).length < _
    rw [List.length_take]; omega
  · rw [List.take_of_length_le (by omega), ref01.sameF, decide_eq_true rfl]
end Go.Proofs.Ytbfimfdhmggieaa.law14
namespace Go.Proofs.Ytbfimfdhmggieaa
set_option maxRecDepth 100000
open Go Go.Eng Go.RowKit Cr Go.ChangeShapes Go.WideShapes Go.ChangeAt

namespace polyValues
theorem own : ownKnob Try.prog.godebug = none := by kernel_rfl
theorem laidOut : laidOutB Try.prog = true := by kernel_rfl
abbrev wtB : Car bsl → Prop := fun ys => List.length ys * Try.prog.bytesOf 5 ≤ reachBytes ∧ ∀ y ∈ ys, (Lit.int .u8 y).wf = true
theorem cB : OpnC Try.prog 33 bsl wtB := opnC_slice (e := 5) (by kernel_rfl) (by kernel_rfl) (by decide) (opnC_int (by kernel_rfl))
abbrev wtBB : Car (.sl bsl) → Prop := fun ys => List.length ys * Try.prog.bytesOf 33 ≤ reachBytes ∧ ∀ y ∈ ys, wtB y
theorem oBB : OpnV Try.prog 22 (.sl bsl) wtBB := opnV_slice (e := 33) (by kernel_rfl) (by kernel_rfl) (by decide) cB
theorem bytes5 : Try.prog.bytesOf 5 = 1 := by kernel_rfl
theorem bytes33 : Try.prog.bytesOf 33 = 24 := by kernel_rfl
theorem pB {xs : List Int} (h : wtB xs) : preB xs := by
  obtain ⟨h1, h2⟩ := h
  rw [bytes5] at h1
  refine ⟨fun x hx => ?_, ?_⟩
  · have := h2 x hx
    simp [Lit.wf, IntKind.min, IntKind.max, IntKind.signed, IntKind.bits] at this
    omega
  · show List.length xs ≤ _
    simp only [reachBytes] at h1
    omega
theorem pBB {xs : List (List Int)} (h : wtBB xs) : preBB xs := by
  obtain ⟨h1, h2⟩ := h
  rw [bytes33] at h1
  refine ⟨fun x hx => pB (h2 x hx), ?_⟩
  show List.length xs ≤ _
  simp only [reachBytes] at h1
  omega
abbrev wtI : Car (.int .i64) → Prop := fun x => (Lit.int .i64 x).wf = true
theorem oI : OpnV Try.prog 3 (.int .i64) wtI := opnV_int (by kernel_rfl)
theorem pI {x : Int} (h : wtI x) : preI x := by
  have : (Lit.int .i64 x).wf = true := h
  simp [Lit.wf, IntKind.min, IntKind.max, IntKind.signed, IntKind.bits] at this
  exact ⟨by omega, by omega⟩
theorem opened : OpnL Try.prog [22, 3] [.sl bsl, .int .i64] (fun x => wtBB x.1 ∧ wtI x.2.1 ∧ True) :=
  .cons oBB (by kernel_rfl) (of_decide_eq_true (by kernel_rfl)) (.cons oI (by kernel_rfl) (of_decide_eq_true (by kernel_rfl)) .nil)
theorem lifted (os : Os) (started : os.Started) (H : Type) (enc : TypeId × Value → H) :
    ReturnsInHanded {} Try.checked os 3 .any (Rows.polyValuesSpec.pre6 enc Try.prog Try.f3 Rows.polyValuesRow.domain false) (Rows.polyValuesSpec.post enc Try.prog Try.f3 false true false false) := by
  refine returnsInHanded_of_change_sized (C := Try.checked) own started (by kernel_rfl) Try.func3
    (ChangeSpec.witness6 (enc := enc) (C := Try.checked) false ⟨#[], #[.slice none 0 0, .int .i64 0], []⟩ 8 (by kernel_rfl) (by kernel_rfl) (by kernel_rfl) (by kernel_rfl)) ?_
  intro W base args ds gs before hval hW _ hsz _
  refine law_row (C := Try.checked) (bt := 4) (ts := [22, 3]) law14.ent_values law14.fn_values laidOut (by kernel_rfl) (by kernel_rfl) (by kernel_rfl) opened ?_ rfl ?_ W base args ds gs before hval hW hsz
  · rintro ⟨x0, x1, ⟨⟩⟩ ⟨h0, h1, _⟩
    exact ⟨pBB h0, pI h1⟩
  · intro ds hl
    match ds, hl with
    | [d0, d1], _ => rfl

theorem proved : Rows.PolyValuesSaid :=
  OpenClaim.holds_of_wide 3 Try.f3 rfl rfl rfl rfl rfl rfl rfl ⟨rfl, rfl, rfl, rfl, rfl⟩ rfl rfl rfl rfl rfl (by kernel_rfl) Try.func3 (by kernel_rfl)
    (of_decide_eq_true (by kernel_rfl)) (by unfold Func.isWrapper; first | (rw [if_pos (by decide +kernel)]; kernel_rfl) | (rw [if_neg (by decide +kernel)]; exact ⟨rfl, rfl⟩))
    (fun os started H enc _ => lifted os started H enc)
#print axioms proved
end polyValues
end Go.Proofs.Ytbfimfdhmggieaa
