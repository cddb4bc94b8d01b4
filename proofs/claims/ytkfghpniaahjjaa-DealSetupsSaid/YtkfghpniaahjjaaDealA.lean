/- deal: rising, fresh, Check, Least; slices.Equal on ints. -/
import Derived.Test.YtkfghpniaahjjaaG1a
namespace Go.Proofs.Ytkfghpniaahjjaa.deal
set_option maxRecDepth 100000
open Go Go.Eng Go.RowKit Cr Go.Proofs.Ytkfghpniaahjjaa

/-- Members' numbers, each above the one ahead. -/
def risF : Int → List Int → Bool
  | _, [] => true
  | a, x :: xs => if x ≤ a ∨ x > 9 then false else risF x xs
def ahead (xs : List Int) : Nat → Int
  | 0 => 0
  | k + 1 => xs.getD k 0

theorem risF_step {xs : List Int} {k : Nat} (h : k < xs.length) : risF (ahead xs k) (xs.drop k) = if xs.getD k 0 ≤ ahead xs k ∨ xs.getD k 0 > 9 then false else risF (ahead xs (k + 1)) (xs.drop (k + 1)) := by
  rw [List.drop_eq_getElem_cons h]
  simp [risF, ahead, h]

theorem ent_rising : enters Try.prog 45 Try.f45 := enters_mk (by kernel_rfl) (by kernel_rfl) (by kernel_rfl)
noncomputable def risI (xs : List Int) (g : Int × Int) : St := mkSt Try.f45.ntmps 40 [(6, .is (.one (.ro (.int .i64) xs))), (7, sI .i64 xs.length), (3, sI .i64 g.1), (8, sI .i64 g.2)] []
abbrev preLen : HL [.sl (.int .i64)] → Prop := fun (xs, _) => List.length xs < 4611686018427387904
abbrev outRising : HL [.sl (.int .i64)] → HO [.val .bool] := fun (xs, _) => (risF 0 xs, ())
theorem fn_rising : FnOk Try.prog 45 [.sl (.int .i64)] [.val .bool] noG preLen outRising := by
  have hsp : SpecsOk Try.prog (sps []) := sps_nil
  refine fn_of_tr (sp := sps []) ent_rising (by decide) (by decide) (by kernel_rfl) ?_
  rintro w M0 ⟨xs, ⟨⟩⟩ _ hl
  have hl : List.length xs < 4611686018427387904 := hl
  show Tr _ _ _ _ _ _ _
  refine tr_cut hsp mixed 3 (risI xs (0, 0)) True ?_ (fun _ => ?_)
  · refine vcx (X := (risI xs (0, 0)).triv True) (by kernel_rfl) (triv_intro trivial)
  refine tr_countJ hsp mixed [] (risI xs) (fun k => (ahead xs k, (k : Int))) (fun k => risF 0 xs = risF (ahead xs k) (xs.drop k)) xs.length (fun g => (xs.getD g.2.toNat 0, IntKind.i64.wrap (g.2 + 1))) (risI xs) (c := nthC (codeOf Try.f45) 3) (by kernel_rfl) (by kernel_rfl) (le_of_proj (by kernel_rfl) (by kernel_rfl) trivial) rfl
    (fun k hk _ _ => by show (_, _) = (_, _); rw [wrap_succ (by omega)]; rfl) ?_ ?_
  · intro k hk hj
    refine vcx (X := ((decide ((k : Int) < (xs.length : Int)) = true → (0 ≤ (k : Int) ∧ (k : Int) < (xs.length : Int)) ∧ (k : Int).toNat < xs.length ∧
        (decide (xs.getD (k : Int).toNat 0 ≤ ahead xs k) = true → (false, ()) = outRising (xs, ())) ∧
        (decide (xs.getD (k : Int).toNat 0 ≤ ahead xs k) = false →
          (decide (xs.getD (k : Int).toNat 0 > 9) = true → (false, ()) = outRising (xs, ())) ∧
          (decide (xs.getD (k : Int).toNat 0 > 9) = false → (risI xs (xs.getD (k : Int).toNat 0, IntKind.i64.wrap ((k : Int) + 1))).triv (k < xs.length ∧ risF 0 xs = risF (ahead xs (k + 1)) (xs.drop (k + 1)))))) ∧
      (decide ((k : Int) < (xs.length : Int)) = false → (risI xs (ahead xs k, (k : Int))).triv (k = xs.length)))) (by kernel_rfl) ?_
    refine ⟨fun h => ?_, fun h => triv_intro (by have := dec_ge h; omega)⟩
    have hlt : k < xs.length := by have := dec_lt h; omega
    have hs := risF_step hlt
    rw [Int.toNat_natCast]
    refine ⟨⟨by omega, by omega⟩, hlt, fun h1 => ?_, fun h1 => ⟨fun h2 => ?_, fun h2 => triv_intro ⟨hlt, ?_⟩⟩⟩
    · rw [if_pos (.inl (of_decide_eq_true h1))] at hs
      simp [outRising, hj, hs]
    · rw [if_pos (.inr (of_decide_eq_true h2))] at hs
      simp [outRising, hj, hs]
    · rw [if_neg (fun hh => hh.elim (of_decide_eq_false h1) (of_decide_eq_false h2))] at hs
      rw [hj, hs]
  · intro hj
    refine tr_vc hsp mixed _ _ ?_
    refine vcx (X := ((true, ()) = outRising (xs, ()))) (by kernel_rfl) ?_
    rw [show outRising (xs, ()) = (risF 0 xs, ()) from rfl, hj, List.drop_length]
    rfl
noncomputable def spRising : Nat × Eng.Spec := (45, fnSpec [.sl (.int .i64)] [.val .bool] preLen outRising)

/-- slices.Equal -/
theorem ent_equal : enters Try.prog 47 Try.f47 := enters_mk (by kernel_rfl) (by kernel_rfl) (by kernel_rfl)
noncomputable def eqI (xs ys : List Int) (i : Int) : St := mkSt Try.f47.ntmps 56 [(0, .is (.one (.ro (.int .i64) xs))), (1, .is (.one (.ro (.int .i64) ys))), (12, sI .i64 xs.length), (13, sI .i64 i)] []
abbrev preEqual : HL [.sl (.int .i64), .sl (.int .i64)] → Prop := fun (xs, _, _) => List.length xs < 4611686018427387904
abbrev outEqual : HL [.sl (.int .i64), .sl (.int .i64)] → HO [.val .bool] := fun (xs, ys, _) => (decide ((xs : List Int) = ys), ())
theorem take_step {xs ys : List Int} {k : Nat} (h1 : k < xs.length) (h2 : k < ys.length) : xs.take (k + 1) = ys.take (k + 1) ↔ xs.take k = ys.take k ∧ xs.getD k 0 = ys.getD k 0 := by
  rw [List.take_succ_eq_append_getElem h1, List.take_succ_eq_append_getElem h2]
  constructor
  · intro h
    have := List.append_inj h (by simp; omega)
    exact ⟨this.1, by simpa [h1, h2] using this.2⟩
  · rintro ⟨h3, h4⟩
    rw [h3]
    have : xs[k] = ys[k] := by simpa [h1, h2] using h4
    rw [this]
theorem fn_equal : FnOk Try.prog 47 [.sl (.int .i64), .sl (.int .i64)] [.val .bool] noG preEqual outEqual := by
  have hsp : SpecsOk Try.prog (sps []) := sps_nil
  refine fn_of_tr (sp := sps []) ent_equal (by decide) (by decide) (by kernel_rfl) ?_
  rintro w M0 ⟨xs, ys, ⟨⟩⟩ _ hl
  have hl : List.length xs < 4611686018427387904 := hl
  show Tr _ _ _ _ _ _ _
  refine tr_cut hsp mixed 4 (eqI xs ys 0) (xs.length = ys.length) ?_ (fun hlen => ?_)
  · refine vcx (X := ((((xs.length : Int) != (ys.length : Int)) = true → (false, ()) = outEqual (xs, ys, ())) ∧ (((xs.length : Int) != (ys.length : Int)) = false → (eqI xs ys 0).triv (xs.length = ys.length)))) (by kernel_rfl) ?_
    refine ⟨fun h => ?_, fun h => triv_intro ?_⟩
    · have : ¬ ((xs : List Int) = ys) := by intro e; subst e; simp at h
      simp [outEqual, this]
    · have : ¬ ((xs.length : Int) ≠ (ys.length : Int)) := by simpa using h
      omega
  refine tr_countJ hsp mixed [] (eqI xs ys) (fun k => (k : Int)) (fun k => List.take k xs = List.take k ys) xs.length (fun i => IntKind.i64.wrap (i + 1)) (eqI xs ys) (c := nthC (codeOf Try.f47) 4) (by kernel_rfl) (by kernel_rfl) (le_of_proj (by kernel_rfl) (by kernel_rfl) trivial) rfl
    (fun k hk _ _ => by show IntKind.i64.wrap _ = _; rw [wrap_succ (by omega)]) ?_ ?_
  · intro k hk hj
    refine vcx (X := ((decide ((k : Int) < (xs.length : Int)) = true → (0 ≤ (k : Int) ∧ (k : Int) < (xs.length : Int)) ∧ (k : Int).toNat < xs.length ∧ (0 ≤ (k : Int) ∧ (k : Int) < (ys.length : Int)) ∧ (k : Int).toNat < ys.length ∧
        ((xs.getD (k : Int).toNat 0 != ys.getD (k : Int).toNat 0) = true → (false, ()) = outEqual (xs, ys, ())) ∧
        ((xs.getD (k : Int).toNat 0 != ys.getD (k : Int).toNat 0) = false → (eqI xs ys (IntKind.i64.wrap ((k : Int) + 1))).triv (k < xs.length ∧ List.take (k + 1) xs = List.take (k + 1) ys))) ∧
      (decide ((k : Int) < (xs.length : Int)) = false → (eqI xs ys (k : Int)).triv (k = xs.length)))) (by kernel_rfl) ?_
    refine ⟨fun h => ?_, fun h => triv_intro (by have := dec_ge h; omega)⟩
    have hlt : k < xs.length := by have := dec_lt h; omega
    have hlt2 : k < ys.length := by omega
    rw [Int.toNat_natCast]
    refine ⟨⟨by omega, by omega⟩, hlt, ⟨by omega, by omega⟩, hlt2, fun h1 => ?_, fun h1 => triv_intro ⟨hlt, (take_step hlt hlt2).2 ⟨hj, ?_⟩⟩⟩
    · have : ¬ ((xs : List Int) = ys) := by intro e; subst e; simp at h1
      simp [outEqual, this]
    · simpa using h1
  · intro hj
    refine tr_vc hsp mixed _ _ ?_
    refine vcx (X := ((true, ()) = outEqual (xs, ys, ()))) (by kernel_rfl) ?_
    have : (xs : List Int) = ys := by
      rw [List.take_length, List.take_of_length_le (by omega)] at hj; exact hj
    simp [outEqual, this]
noncomputable def spEqual : Nat × Eng.Spec := (47, fnSpec [.sl (.int .i64), .sl (.int .i64)] [.val .bool] preEqual outEqual)

/-- deal.Setup: dealers, takers, need, old. -/
abbrev setK : Kd := .pair (.sl (.int .i64)) (.pair (.sl (.int .i64)) (.pair (.int .i64) (.sl pt1)))

theorem ent_fresh : enters Try.prog 46 Try.f46 := enters_mk (by kernel_rfl) (by kernel_rfl) (by kernel_rfl)
abbrev outFresh : HL [setK] → HO [.val .bool] := fun ((_, _, _, o), _) => ((List.length o : Int) == 0, ())
theorem fn_fresh : FnOk Try.prog 46 [setK] [.val .bool] noG (fun _ => True) outFresh := by
  refine fn_of_vc (sp := sps []) sps_nil mixed ent_fresh (by decide) (by decide) ?_
  rintro w M0 ⟨⟨d, t, n, o⟩, ⟨⟩⟩ _ _
  exact vcx (X := ((((List.length o : Int) == 0, ()) : Bool × Unit) = outFresh ((d, t, n, o), ()))) (by kernel_rfl) rfl
noncomputable def spFresh : Nat × Eng.Spec := (46, fnSpec [setK] [.val .bool] (fun _ => True) outFresh)
end Go.Proofs.Ytkfghpniaahjjaa.deal
