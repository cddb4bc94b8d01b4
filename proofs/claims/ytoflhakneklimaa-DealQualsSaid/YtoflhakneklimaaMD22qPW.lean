/- deal: function literals that capture variables, and slices.IndexFunc over them. -/
import Derived.Test.YtoflhakneklimaaMD22qPV
namespace Go.Eng
/-- The first of a list's places at which a test holds, or -1. -/
def idxP {α : Type} (p : α → Bool) (xs : List α) : Int := if xs.findIdx p < xs.length then (xs.findIdx p : Int) else -1
theorem idxP_at {α : Type} {p : α → Bool} {xs : List α} {k : Nat} (d : α) (hk : k < xs.length) (h : k ≤ xs.findIdx p) (h2 : p (xs.getD k d) = true) : (k : Int) = idxP p xs := by
  have e : xs.findIdx p = k := by
    rcases Nat.lt_or_ge k (xs.findIdx p) with c | c
    · have := List.not_of_lt_findIdx c
      rw [List.getD_eq_getElem?_getD, List.getElem?_eq_getElem hk, Option.getD_some] at h2
      rw [h2] at this; cases this
    · omega
  rw [idxP, e, if_pos hk]
theorem idxP_step {α : Type} {p : α → Bool} {xs : List α} {k : Nat} (d : α) (hk : k < xs.length) (h : k ≤ xs.findIdx p) (h2 : p (xs.getD k d) = false) : k + 1 ≤ xs.findIdx p := by
  rcases Nat.lt_or_ge k (xs.findIdx p) with c | c
  · exact c
  · have e : xs.findIdx p = k := by omega
    have := List.findIdx_getElem (p := p) (xs := xs) (w := by omega)
    rw [List.getD_eq_getElem?_getD, List.getElem?_eq_getElem hk, Option.getD_some] at h2
    simp only [e] at this
    rw [this] at h2; cases h2
theorem idxP_end {α : Type} {p : α → Bool} {xs : List α} (h : xs.length ≤ xs.findIdx p) : idxP p xs = -1 := by
  rw [idxP, if_neg (by omega)]
end Go.Eng
namespace Go.Proofs.Ytoflhakneklimaa.deal
set_option maxRecDepth 100000
open Go Go.Eng Go.RowKit Cr Go.Proofs.Ytoflhakneklimaa Go.Proofs.Ytoflhakneklimaa.law14 Go.Proofs.Ytoflhakneklimaa.poly
abbrev dealK : Kd := .pair (.int .i64) (.sl pt1)
abbrev proofK : Kd := .pair (.int .i64) (.pair (.int .i64) .fr)
abbrev iK : Kd := .int .i64
theorem ent_ixab : enters Try.prog 78 Try.f78 := enters_mk (by kernel_rfl) (by kernel_rfl) (by kernel_rfl)
theorem fn_ixab : FnOk Try.prog 78 [dealK, .ptr iK] [.val .bool] noG (fun _ => True) (fun (d, x, _) => (d.1 == x, ())) := by
  refine fn_of_vc (sp := sps []) sps_nil mixed ent_ixab (by decide) (by decide) ?_
  rintro w M0 ⟨d, x, ⟨⟩⟩
  revert x
  intro (x : Int) _ _
  refine vcx (X := ((0 : Nat) < [x].length ∧ (d.fst == x, ()) = (d.fst == x, ()))) (by kernel_rfl) ?_
  exact ⟨Nat.zero_lt_one, rfl⟩
noncomputable def spIxab : Nat × Eng.Spec := (78, fnSpec [dealK, .ptr iK] [.val .bool] (fun _ => True) (fun (d, x, _) => (d.1 == x, ())))
abbrev cloIxa : Kd := .cap (.fn 78) iK
theorem ent_ixa : enters Try.prog 55 Try.f55 := enters_mk (by kernel_rfl) (by kernel_rfl) (by kernel_rfl)
noncomputable def ixaI (xs : List (Int × List (Fp × Fp))) (x : Int) (g : Int) : St := mkSt Try.f55.ntmps 32 [(0, .is (.one (.ro (dealK) xs))), (1, .is (.one (.fv cloIxa ((), x)))), (7, sI .i64 xs.length), (8, sI .i64 g)] []
theorem fn_ixa : FnOk Try.prog 55 [.sl (dealK), cloIxa] [.val iK] noG (fun (xs, _, _) => List.length xs < 4611686018427387904) (fun (xs, (_, x), _) => (idxP (fun d : Int × List (Fp × Fp) => d.1 == x) xs, ())) := by
  have hsp : SpecsOk Try.prog (sps [spIxab]) := sps_cons (fnSpec_ok fn_ixab) sps_nil
  refine fn_of_tr (sp := sps [spIxab]) ent_ixa (by decide) (by decide) (by kernel_rfl) ?_
  rintro w M0 ⟨xs, ⟨⟨⟩, x⟩, ⟨⟩⟩
  revert xs x
  intro (xs : List (Int × List (Fp × Fp))) (x : Int) _ hl
  have hl : xs.length < 4611686018427387904 := hl
  show Tr _ _ _ _ _ _ _
  refine tr_cut hsp mixed 2 (ixaI xs x 0) True ?_ (fun _ => ?_)
  · refine vcx (X := ((ixaI xs x (0 : Int)).triv True)) (by kernel_rfl) ?_
    exact triv_intro trivial
  refine tr_while hsp mixed noSw (fun σ => rdS (.int .i64) 8 σ) (ixaI xs x) (fun g => ∃ k : Nat, k ≤ xs.length ∧ g = (k : Int) ∧ k ≤ xs.findIdx (fun d : Int × List (Fp × Fp) => d.1 == x)) (fun g => xs.length - g.toNat)
    (fun _ => ()) (fun _ => mkSt Try.f55.ntmps 32 [] []) (fun _ => xs.length ≤ xs.findIdx (fun d : Int × List (Fp × Fp) => d.1 == x)) 0 (c := nthC (codeOf Try.f55) 2) (by kernel_rfl) (by kernel_rfl) (le_of_proj (by kernel_rfl) (by kernel_rfl) ?_) ?_ ?_
  · exact ⟨0, Nat.zero_le _, rfl, Nat.zero_le _⟩
  · intro (i : Int) ⟨k, hk, ei, hn⟩
    subst ei
    refine vcx (X := ((decide ((↑k : Int) < (↑xs.length : Int)) = true → ((0 : Int) ≤ (↑k : Int) ∧ (↑k : Int) < (↑xs.length : Int)) ∧ (↑k : Int).toNat < xs.length ∧ True ∧ (((xs.getD (↑k : Int).toNat ((0 : Int), [])).fst == x) = true → ((↑k : Int), ()) = (idxP (fun d => d.fst == x) xs, ())) ∧ (((xs.getD (↑k : Int).toNat ((0 : Int), [])).fst == x) = false → (ixaI xs x (IntKind.i64.wrap ((↑k : Int) + (1 : Int)))).triv ((∃ k_1, k_1 ≤ xs.length ∧ IntKind.i64.wrap ((↑k : Int) + (1 : Int)) = (↑k_1 : Int) ∧ k_1 ≤ List.findIdx (fun d => d.fst == x) xs) ∧ xs.length - (IntKind.i64.wrap ((↑k : Int) + (1 : Int))).toNat < xs.length - (↑k : Int).toNat))) ∧ (decide ((↑k : Int) < (↑xs.length : Int)) = false → (mkSt Try.f55.ntmps (32 : Nat) [] []).triv (xs.length ≤ List.findIdx (fun d => d.fst == x) xs)))) (by kernel_rfl) ?_
    rw [Int.toNat_natCast]
    refine ⟨fun h => ?_, fun h => triv_intro (by have := dec_ge h; omega)⟩
    have hlt : k < xs.length := by have := dec_lt h; omega
    rw [wrap_succ (by omega)]
    refine ⟨⟨by omega, by omega⟩, hlt, trivial, fun h2 => ?_, fun h2 => triv_intro ⟨⟨k + 1, hlt, rfl, idxP_step ((0 : Int), ([] : List (Fp × Fp))) hlt hn (by exact h2)⟩, by rw [Int.toNat_natCast]; omega⟩⟩
    show ((k : Int), ()) = (idxP _ xs, ())
    rw [idxP_at ((0 : Int), ([] : List (Fp × Fp))) hlt hn (by exact h2)]
  rintro ⟨⟩ (hn : _ ≤ _)
  refine tr_vc hsp mixed _ _ ?_
  refine vcx (X := (((-1 : Int), ()) = (idxP (fun d => d.fst == x) xs, ()))) (by kernel_rfl) ?_
  show _ = (idxP _ xs, ())
  rw [idxP_end hn]
noncomputable def spIxa : Nat × Eng.Spec := (55, fnSpec [.sl (dealK), cloIxa] [.val iK] (fun (xs, _, _) => List.length xs < 4611686018427387904) (fun (xs, (_, x), _) => (idxP (fun d : Int × List (Fp × Fp) => d.1 == x) xs, ())))
theorem ent_ixjb : enters Try.prog 56 Try.f56 := enters_mk (by kernel_rfl) (by kernel_rfl) (by kernel_rfl)
theorem fn_ixjb : FnOk Try.prog 56 [dealK, .ptr iK] [.val .bool] noG (fun _ => True) (fun (d, x, _) => (d.1 == x, ())) := by
  refine fn_of_vc (sp := sps []) sps_nil mixed ent_ixjb (by decide) (by decide) ?_
  rintro w M0 ⟨d, x, ⟨⟩⟩
  revert x
  intro (x : Int) _ _
  refine vcx (X := ((0 : Nat) < [x].length ∧ (d.fst == x, ()) = (d.fst == x, ()))) (by kernel_rfl) ?_
  exact ⟨Nat.zero_lt_one, rfl⟩
noncomputable def spIxjb : Nat × Eng.Spec := (56, fnSpec [dealK, .ptr iK] [.val .bool] (fun _ => True) (fun (d, x, _) => (d.1 == x, ())))
abbrev cloIxj : Kd := .cap (.fn 56) iK
theorem ent_ixj : enters Try.prog 55 Try.f55 := enters_mk (by kernel_rfl) (by kernel_rfl) (by kernel_rfl)
noncomputable def ixjI (xs : List (Int × List (Fp × Fp))) (x : Int) (g : Int) : St := mkSt Try.f55.ntmps 32 [(0, .is (.one (.ro (dealK) xs))), (1, .is (.one (.fv cloIxj ((), x)))), (7, sI .i64 xs.length), (8, sI .i64 g)] []
theorem fn_ixj : FnOk Try.prog 55 [.sl (dealK), cloIxj] [.val iK] noG (fun (xs, _, _) => List.length xs < 4611686018427387904) (fun (xs, (_, x), _) => (idxP (fun d : Int × List (Fp × Fp) => d.1 == x) xs, ())) := by
  have hsp : SpecsOk Try.prog (sps [spIxjb]) := sps_cons (fnSpec_ok fn_ixjb) sps_nil
  refine fn_of_tr (sp := sps [spIxjb]) ent_ixj (by decide) (by decide) (by kernel_rfl) ?_
  rintro w M0 ⟨xs, ⟨⟨⟩, x⟩, ⟨⟩⟩
  revert xs x
  intro (xs : List (Int × List (Fp × Fp))) (x : Int) _ hl
  have hl : xs.length < 4611686018427387904 := hl
  show Tr _ _ _ _ _ _ _
  refine tr_cut hsp mixed 2 (ixjI xs x 0) True ?_ (fun _ => ?_)
  · refine vcx (X := ((ixjI xs x (0 : Int)).triv True)) (by kernel_rfl) ?_
    exact triv_intro trivial
  refine tr_while hsp mixed noSw (fun σ => rdS (.int .i64) 8 σ) (ixjI xs x) (fun g => ∃ k : Nat, k ≤ xs.length ∧ g = (k : Int) ∧ k ≤ xs.findIdx (fun d : Int × List (Fp × Fp) => d.1 == x)) (fun g => xs.length - g.toNat)
    (fun _ => ()) (fun _ => mkSt Try.f55.ntmps 32 [] []) (fun _ => xs.length ≤ xs.findIdx (fun d : Int × List (Fp × Fp) => d.1 == x)) 0 (c := nthC (codeOf Try.f55) 2) (by kernel_rfl) (by kernel_rfl) (le_of_proj (by kernel_rfl) (by kernel_rfl) ?_) ?_ ?_
  · exact ⟨0, Nat.zero_le _, rfl, Nat.zero_le _⟩
  · intro (i : Int) ⟨k, hk, ei, hn⟩
    subst ei
    refine vcx (X := ((decide ((↑k : Int) < (↑xs.length : Int)) = true → ((0 : Int) ≤ (↑k : Int) ∧ (↑k : Int) < (↑xs.length : Int)) ∧ (↑k : Int).toNat < xs.length ∧ True ∧ (((xs.getD (↑k : Int).toNat ((0 : Int), [])).fst == x) = true → ((↑k : Int), ()) = (idxP (fun d => d.fst == x) xs, ())) ∧ (((xs.getD (↑k : Int).toNat ((0 : Int), [])).fst == x) = false → (ixjI xs x (IntKind.i64.wrap ((↑k : Int) + (1 : Int)))).triv ((∃ k_1, k_1 ≤ xs.length ∧ IntKind.i64.wrap ((↑k : Int) + (1 : Int)) = (↑k_1 : Int) ∧ k_1 ≤ List.findIdx (fun d => d.fst == x) xs) ∧ xs.length - (IntKind.i64.wrap ((↑k : Int) + (1 : Int))).toNat < xs.length - (↑k : Int).toNat))) ∧ (decide ((↑k : Int) < (↑xs.length : Int)) = false → (mkSt Try.f55.ntmps (32 : Nat) [] []).triv (xs.length ≤ List.findIdx (fun d => d.fst == x) xs)))) (by kernel_rfl) ?_
    rw [Int.toNat_natCast]
    refine ⟨fun h => ?_, fun h => triv_intro (by have := dec_ge h; omega)⟩
    have hlt : k < xs.length := by have := dec_lt h; omega
    rw [wrap_succ (by omega)]
    refine ⟨⟨by omega, by omega⟩, hlt, trivial, fun h2 => ?_, fun h2 => triv_intro ⟨⟨k + 1, hlt, rfl, idxP_step ((0 : Int), ([] : List (Fp × Fp))) hlt hn (by exact h2)⟩, by rw [Int.toNat_natCast]; omega⟩⟩
    show ((k : Int), ()) = (idxP _ xs, ())
    rw [idxP_at ((0 : Int), ([] : List (Fp × Fp))) hlt hn (by exact h2)]
  rintro ⟨⟩ (hn : _ ≤ _)
  refine tr_vc hsp mixed _ _ ?_
  refine vcx (X := (((-1 : Int), ()) = (idxP (fun d => d.fst == x) xs, ()))) (by kernel_rfl) ?_
  show _ = (idxP _ xs, ())
  rw [idxP_end hn]
noncomputable def spIxj : Nat × Eng.Spec := (55, fnSpec [.sl (dealK), cloIxj] [.val iK] (fun (xs, _, _) => List.length xs < 4611686018427387904) (fun (xs, (_, x), _) => (idxP (fun d : Int × List (Fp × Fp) => d.1 == x) xs, ())))
theorem ent_ixtb : enters Try.prog 61 Try.f61 := enters_mk (by kernel_rfl) (by kernel_rfl) (by kernel_rfl)
theorem fn_ixtb : FnOk Try.prog 61 [iK, .ptr iK] [.val .bool] noG (fun _ => True) (fun (d, x, _) => (d == x, ())) := by
  refine fn_of_vc (sp := sps []) sps_nil mixed ent_ixtb (by decide) (by decide) ?_
  rintro w M0 ⟨d, x, ⟨⟩⟩
  revert x
  intro (x : Int) _ _
  refine vcx (X := ((0 : Nat) < [x].length ∧ (d == x, ()) = (d == x, ()))) (by kernel_rfl) ?_
  exact ⟨Nat.zero_lt_one, rfl⟩
noncomputable def spIxtb : Nat × Eng.Spec := (61, fnSpec [iK, .ptr iK] [.val .bool] (fun _ => True) (fun (d, x, _) => (d == x, ())))
abbrev cloIxt : Kd := .cap (.fn 61) iK
theorem ent_ixt : enters Try.prog 60 Try.f60 := enters_mk (by kernel_rfl) (by kernel_rfl) (by kernel_rfl)
noncomputable def ixtI (xs : List (Int)) (x : Int) (g : Int) : St := mkSt Try.f60.ntmps 32 [(0, .is (.one (.ro (iK) xs))), (1, .is (.one (.fv cloIxt ((), x)))), (7, sI .i64 xs.length), (8, sI .i64 g)] []
theorem fn_ixt : FnOk Try.prog 60 [.sl (iK), cloIxt] [.val iK] noG (fun (xs, _, _) => List.length xs < 4611686018427387904) (fun (xs, (_, x), _) => (idxP (fun d : Int => d == x) xs, ())) := by
  have hsp : SpecsOk Try.prog (sps [spIxtb]) := sps_cons (fnSpec_ok fn_ixtb) sps_nil
  refine fn_of_tr (sp := sps [spIxtb]) ent_ixt (by decide) (by decide) (by kernel_rfl) ?_
  rintro w M0 ⟨xs, ⟨⟨⟩, x⟩, ⟨⟩⟩
  revert xs x
  intro (xs : List (Int)) (x : Int) _ hl
  have hl : xs.length < 4611686018427387904 := hl
  show Tr _ _ _ _ _ _ _
  refine tr_cut hsp mixed 2 (ixtI xs x 0) True ?_ (fun _ => ?_)
  · refine vcx (X := ((ixtI xs x (0 : Int)).triv True)) (by kernel_rfl) ?_
    exact triv_intro trivial
  refine tr_while hsp mixed noSw (fun σ => rdS (.int .i64) 8 σ) (ixtI xs x) (fun g => ∃ k : Nat, k ≤ xs.length ∧ g = (k : Int) ∧ k ≤ xs.findIdx (fun d : Int => d == x)) (fun g => xs.length - g.toNat)
    (fun _ => ()) (fun _ => mkSt Try.f60.ntmps 32 [] []) (fun _ => xs.length ≤ xs.findIdx (fun d : Int => d == x)) 0 (c := nthC (codeOf Try.f60) 2) (by kernel_rfl) (by kernel_rfl) (le_of_proj (by kernel_rfl) (by kernel_rfl) ?_) ?_ ?_
  · exact ⟨0, Nat.zero_le _, rfl, Nat.zero_le _⟩
  · intro (i : Int) ⟨k, hk, ei, hn⟩
    subst ei
    refine vcx (X := ((decide ((↑k : Int) < (↑xs.length : Int)) = true → ((0 : Int) ≤ (↑k : Int) ∧ (↑k : Int) < (↑xs.length : Int)) ∧ (↑k : Int).toNat < xs.length ∧ True ∧ ((xs.getD (↑k : Int).toNat (0 : Int) == x) = true → ((↑k : Int), ()) = (idxP (fun d => d == x) xs, ())) ∧ ((xs.getD (↑k : Int).toNat (0 : Int) == x) = false → (ixtI xs x (IntKind.i64.wrap ((↑k : Int) + (1 : Int)))).triv ((∃ k_1, k_1 ≤ xs.length ∧ IntKind.i64.wrap ((↑k : Int) + (1 : Int)) = (↑k_1 : Int) ∧ k_1 ≤ List.findIdx (fun d => d == x) xs) ∧ xs.length - (IntKind.i64.wrap ((↑k : Int) + (1 : Int))).toNat < xs.length - (↑k : Int).toNat))) ∧ (decide ((↑k : Int) < (↑xs.length : Int)) = false → (mkSt Try.f60.ntmps (32 : Nat) [] []).triv (xs.length ≤ List.findIdx (fun d => d == x) xs)))) (by kernel_rfl) ?_
    rw [Int.toNat_natCast]
    refine ⟨fun h => ?_, fun h => triv_intro (by have := dec_ge h; omega)⟩
    have hlt : k < xs.length := by have := dec_lt h; omega
    rw [wrap_succ (by omega)]
    refine ⟨⟨by omega, by omega⟩, hlt, trivial, fun h2 => ?_, fun h2 => triv_intro ⟨⟨k + 1, hlt, rfl, idxP_step (0 : Int) hlt hn (by exact h2)⟩, by rw [Int.toNat_natCast]; omega⟩⟩
    show ((k : Int), ()) = (idxP _ xs, ())
    rw [idxP_at (0 : Int) hlt hn (by exact h2)]
  rintro ⟨⟩ (hn : _ ≤ _)
  refine tr_vc hsp mixed _ _ ?_
  refine vcx (X := (((-1 : Int), ()) = (idxP (fun d => d == x) xs, ()))) (by kernel_rfl) ?_
  show _ = (idxP _ xs, ())
  rw [idxP_end hn]
noncomputable def spIxt : Nat × Eng.Spec := (60, fnSpec [.sl (iK), cloIxt] [.val iK] (fun (xs, _, _) => List.length xs < 4611686018427387904) (fun (xs, (_, x), _) => (idxP (fun d : Int => d == x) xs, ())))
end Go.Proofs.Ytoflhakneklimaa.deal
