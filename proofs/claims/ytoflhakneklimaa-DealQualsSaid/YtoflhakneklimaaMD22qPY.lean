/- deal: who is left, plainly. -/
import Derived.Test.YtoflhakneklimaaMD22qPX
/- deal: slices.Clone, taken. -/
namespace Go.Proofs.Ytoflhakneklimaa.deal
set_option maxRecDepth 100000
open Go Go.Eng Go.RowKit Cr Go.Proofs.Ytoflhakneklimaa Go.Proofs.Ytoflhakneklimaa.law14 Go.Proofs.Ytoflhakneklimaa.poly
theorem ent_clone : enters Try.prog 57 Try.f57 := enters_mk (by kernel_rfl) (by kernel_rfl) (by kernel_rfl)
abbrev preClone : HL [.sl pt1] → Prop := fun (c, _) => List.length c < 1048576
theorem fn_clone : FnOk Try.prog 57 [.sl pt1] [.own pt1] noG preClone (fun (c, _) => (c, ())) := by
  have hsp : SpecsOk Try.prog (sps []) := sps_nil
  refine fn_of_trN (sp := sps []) ent_clone (by decide) (by decide) (by kernel_rfl) ?_ ?_
  · rintro w M0 ⟨⟩ _ hp
    show Tr _ _ _ _ _ _ _
    refine tr_vc hsp mixed _ _ ?_
    refine vcx (X := ((([] : List (Fp × Fp)), ()) = (([] : List (Fp × Fp)), ()))) (by kernel_rfl) rfl
  · rintro w M0 c ⟨⟩ _ _ hp
    revert c
    intro (c : List (Fp × Fp)) _ hp
    have hp : c.length < 1048576 := hp
    show Tr _ _ _ _ _ _ _
    refine tr_vc hsp mixed _ _ ?_
    refine vcx (X := ((0 : Nat) ≤ (0 : Nat) ∧ ((0 : Nat) + c.length) * (96 : Nat) ≤ (140737488355328 : Nat) ∧ (0 : Nat) + c.length ≤ (4611686018427387904 : Nat) ∧ (0 : Nat) + ((0 : Nat) + c.length) ≤ (0 : Nat) + c.length ∧ (List.take ((0 : Nat) + c.length) (List.take (0 : Nat) [] ++ c), ()) = (c, ()))) (by kernel_rfl) ?_
    rw [List.take_zero, List.nil_append, Nat.zero_add, List.take_length]
    exact ⟨Nat.le_refl _, by omega, by omega, by omega, rfl⟩
noncomputable def spClone : Nat × Eng.Spec := (57, fnSpec [.sl pt1] [.own pt1] preClone (fun (c, _) => (c, ())))
theorem ris_bd : ∀ {xs : List Int} {a : Int}, risF a xs = true → ∀ x ∈ xs, a < x ∧ x ≤ 9 := by
  intro xs
  induction xs with
  | nil => intro a _ x hx; cases hx
  | cons y xs ih =>
    intro a h x hx
    rw [risF] at h
    split at h
    · cases h
    · rcases List.mem_cons.1 hx with rfl | hx
      · omega
      · have := ih h x hx; omega
theorem ent_taken : enters Try.prog 54 Try.f54 := enters_mk (by kernel_rfl) (by kernel_rfl) (by kernel_rfl)
noncomputable def tknF (d : List Int) (o : List (Fp × Fp)) (q : List Int) : List Int × List Fr × Int :=
  if risF 0 q = true ∧ lst d o ≤ (q.length : Int) then (if o.length = 0 then (q, [], 0) else (q.take o.length, wtsF (q.take o.length), plE [] (q.take o.length))) else ([], [], 32)
abbrev preTkn : HL [setK, .sl iK] → Prop := fun ((_, _, _, o), q, _) => List.length o < 1048576 ∧ List.length q < 4611686018427387904
noncomputable abbrev outTkn : HL [setK, .sl iK] → HO [.val (.sl iK), .own .fr, .val iK] := fun ((d, _, _, o), q, _) => ((tknF d o q).1, (tknF d o q).2.1, (tknF d o q).2.2, ())
theorem fn_taken : FnOk Try.prog 54 [setK, .sl iK] [.val (.sl iK), .own .fr, .val iK] noG preTkn outTkn := by
  refine fn_of_vc (sp := sps [spRising, spLeast, spFresh, spWeights]) (sps_cons (fnSpec_ok fn_rising) (sps_cons (fnSpec_ok fn_least) (sps_cons (fnSpec_ok fn_fresh) (sps_cons (fnSpec_ok fn_weights) sps_nil)))) mixed ent_taken (by decide) (by decide) ?_
  rintro w M0 ⟨⟨d, t, n, o⟩, q, ⟨⟩⟩
  revert d t n o q
  intro (d : List Int) (t : List Int) (n : Int) (o : List (Fp × Fp)) (q : List Int) _ hp
  obtain ⟨ho, hq⟩ := hp
  have ho : o.length < 1048576 := ho
  have hq : q.length < 4611686018427387904 := hq
  refine vcx (X := (preLen (q, ()) ∧ ((!risF (0 : Int) q) = true → ([], [], (32 : Int), ()) = outTkn ((d, t, n, o), q, ())) ∧ ((!risF (0 : Int) q) = false → True ∧ (decide ((↑q.length : Int) < lst d o) = true → ([], [], (32 : Int), ()) = outTkn ((d, t, n, o), q, ())) ∧ (decide ((↑q.length : Int) < lst d o) = false → True ∧ (((↑o.length : Int) == (0 : Int)) = true → (q, [], (0 : Int), ()) = outTkn ((d, t, n, o), q, ())) ∧ (((↑o.length : Int) == (0 : Int)) = false → ((0 : Int) ≤ (↑o.length : Int) ∧ (↑o.length : Int) ≤ (↑q.length : Int)) ∧ preWeights (List.take ((↑o.length : Int) - (0 : Int)).toNat q, ()) ∧ (0 : Nat) + (wtsF (List.take ((↑o.length : Int) - (0 : Int)).toNat q)).length ≤ (wtsF (List.take ((↑o.length : Int) - (0 : Int)).toNat q)).length ∧ (List.take ((↑o.length : Int) - (0 : Int)).toNat q, List.take (wtsF (List.take ((↑o.length : Int) - (0 : Int)).toNat q)).length (wtsF (List.take ((↑o.length : Int) - (0 : Int)).toNat q)), plE [] (List.take ((↑o.length : Int) - (0 : Int)).toNat q), ()) = outTkn ((d, t, n, o), q, ())))))) (by kernel_rfl) ?_
  have e0 : ((o.length : Int) - 0).toNat = o.length := by omega
  rw [e0]
  refine ⟨hq, fun h => ?_, fun h => ⟨trivial, fun h1 => ?_, fun h1 => ⟨trivial, fun h2 => ?_, fun h2 => ?_⟩⟩⟩
  · show _ = ((tknF d o q).1, (tknF d o q).2.1, (tknF d o q).2.2, ())
    rw [tknF, if_neg (fun c => by rw [c.1] at h; cases h)]
  · show _ = ((tknF d o q).1, (tknF d o q).2.1, (tknF d o q).2.2, ())
    rw [tknF, if_neg (fun c => by have := of_decide_eq_true h1; omega)]
  · show _ = ((tknF d o q).1, (tknF d o q).2.1, (tknF d o q).2.2, ())
    have h2 : (o.length : Int) = 0 := eq_of_beq h2
    have h1 := of_decide_eq_false h1
    rw [tknF, if_pos ⟨by simpa using h, by omega⟩, if_pos (by omega)]
  · have h3 := h2
    have h2 : ¬ (o.length : Int) = 0 := fun c => by rw [c] at h2; simp at h2
    have h1 := of_decide_eq_false h1
    have hr : risF 0 q = true := by simpa using h
    have el : lst d o = (o.length : Int) := by rw [lst, if_pos (by rw [h3]; rfl)]
    have hle : (o.length : Int) ≤ q.length := by rw [el] at h1; omega
    refine ⟨⟨by omega, hle⟩, ⟨by show (q.take o.length).length < _; rw [List.length_take]; omega, fun x hx => ?_⟩, by omega, ?_⟩
    · have := ris_bd hr x (List.mem_of_mem_take hx)
      exact ⟨by omega, by omega⟩
    · rw [List.take_length]
      show _ = ((tknF d o q).1, (tknF d o q).2.1, (tknF d o q).2.2, ())
      rw [tknF, if_pos ⟨hr, by omega⟩, if_neg (by omega)]
noncomputable def spTaken : Nat × Eng.Spec := (54, fnSpec [setK, .sl iK] [.val (.sl iK), .own .fr, .val iK] preTkn outTkn)
end Go.Proofs.Ytoflhakneklimaa.deal
/- deal: Join. -/
namespace Go.Proofs.Ytoflhakneklimaa.deal
set_option maxRecDepth 100000
open Go Go.Eng Go.RowKit Cr Go.Proofs.Ytoflhakneklimaa Go.Proofs.Ytoflhakneklimaa.law14 Go.Proofs.Ytoflhakneklimaa.poly
abbrev Dl : Type := Int × List (Fp × Fp)
noncomputable def dIx (ds : List Dl) (x : Int) : Int := opq (idxP (fun d : Dl => d.1 == x) ds)
theorem fo_ixj : FnOk Try.prog 55 [.sl dealK, cloIxj] [.val iK] noG (fun (xs, _, _) => List.length xs < 4611686018427387904) (fun (xs, (_, x), _) => (dIx xs x, ())) := fn_ixj.out fun (xs, (_, x), _) => by show (dIx xs x, ()) = (idxP (fun d : Dl => d.1 == x) xs, ()); rw [dIx, opq_eq]
noncomputable def soIxj : Nat × Eng.Spec := (55, fnSpec [.sl dealK, cloIxj] [.val iK] (fun (xs, _, _) => List.length xs < 4611686018427387904) (fun (xs, (_, x), _) => (dIx xs x, ())))
noncomputable def dPub (ds : List Dl) (x : Int) : List (Fp × Fp) := (ds.getD (dIx ds x).toNat (0, [])).2
noncomputable def dOk (ds : List Dl) (n x : Int) : Bool := decide (0 ≤ dIx ds x) && decide (((dPub ds x).length : Int) = n)
noncomputable def jW (ws : List Fr) (k : Nat) (c : List (Fp × Fp)) : List (Fp × Fp) := if ws.length = 0 then c else c.map fun p => g1.gmul p (ws.getD k 0)
noncomputable def jS (ds : List Dl) (tk : List Int) (ws : List Fr) : Nat → List (Fp × Fp)
  | 0 => []
  | k + 1 => plusF (jS ds tk ws k) (jW ws k (dPub ds (tk.getD k 0)))
noncomputable def joinT (n : Int) (ds : List Dl) (tk : List Int) (ws : List Fr) (e : Int) : List (Fp × Fp) × Int := if e = 0 then (if tk.all (dOk ds n) = true then (jS ds tk ws tk.length, 0) else ([], 41)) else ([], e)
noncomputable def joinF (d : List Int) (n : Int) (o : List (Fp × Fp)) (q : List Int) (ds : List Dl) : List (Fp × Fp) × Int := joinT n ds (tknF d o q).1 (tknF d o q).2.1 (tknF d o q).2.2
theorem tkn_len (d : List Int) (o : List (Fp × Fp)) (q : List Int) : (tknF d o q).1.length ≤ q.length ∧ ((tknF d o q).2.2 = 0 → (tknF d o q).2.1.length = 0 ∨ (tknF d o q).2.1.length = (tknF d o q).1.length) := by
  unfold tknF
  split
  · split
    · exact ⟨Nat.le_refl _, fun _ => .inl rfl⟩
    · refine ⟨by rw [List.length_take]; exact Nat.min_le_right _ _, fun h => .inr ?_⟩
      show (wtsF _).length = _
      rw [wtsF, if_pos h, List.length_map]
  · exact ⟨Nat.zero_le _, fun h => absurd h (by decide)⟩
theorem ent_join : enters Try.prog 29 Try.f29 := enters_mk (by kernel_rfl) (by kernel_rfl) (by kernel_rfl)
abbrev preJoin : HL [setK, .sl iK, .sl dealK] → Prop := fun ((_, _, n, o), q, ds, _) => List.length o < 1048576 ∧ List.length q < 4611686018427387904 ∧ List.length ds < 4611686018427387904 ∧ n < 1048576
noncomputable abbrev outJoin : HL [setK, .sl iK, .sl dealK] → HO [.val (.sl pt1), .val iK] := fun ((d, _, n, o), q, ds, _) => ((joinF d n o q ds).1, (joinF d n o q ds).2, ())
noncomputable def joA (d t : List Int) (n : Int) (o : List (Fp × Fp)) (ds : List Dl) (tk : List Int) (ws : List Fr) (e : Int) : St := mkSt Try.f29.ntmps 104 [(2, .is (.one (.ro dealK ds))), (3, .is (.one (.ptr 0 0))), (6, .is (.one (.v (.slice none 0 0)))), (7, sI .i64 0), (8, .is (.one (.ro iK tk))), (9, .is (.one (.sl 40 0 0 ws.length 4))), (10, sI .i64 e)] [(40, [.row .fr ws.length ws]), (0, [.ro iK d, .ro iK t, .v (.int .i64 n), .ro pt1 o])]
noncomputable def joB (d t : List Int) (n : Int) (o : List (Fp × Fp)) (ds : List Dl) (tk : List Int) (ws : List Fr) : St := mkSt Try.f29.ntmps 152 [(2, .is (.one (.ro dealK ds))), (3, .is (.one (.ptr 0 0))), (9, .is (.one (.sl 40 0 0 ws.length 4))), (11, .is (.one (.v (.slice none 0 0)))), (28, .is (.one (.ro iK tk))), (29, sI .i64 tk.length), (30, sI .i64 0)] [(40, [.row .fr ws.length ws]), (0, [.ro iK d, .ro iK t, .v (.int .i64 n), .ro pt1 o])]
noncomputable def joI (d t : List Int) (n : Int) (o : List (Fp × Fp)) (ds : List Dl) (tk : List Int) (ws : List Fr) (g : Int × List (Fp × Fp)) : St := mkSt Try.f29.ntmps 152 [(2, .is (.one (.ro dealK ds))), (3, .is (.one (.ptr 0 0))), (9, .is (.one (.sl 40 0 0 ws.length 4))), (11, .is (.one (.ro pt1 g.2))), (28, .is (.one (.ro iK tk))), (29, sI .i64 tk.length), (30, sI .i64 g.1)] [(40, [.row .fr ws.length ws]), (0, [.ro iK d, .ro iK t, .v (.int .i64 n), .ro pt1 o])]
noncomputable def joC (d t : List Int) (n : Int) (o : List (Fp × Fp)) (ds : List Dl) (tk : List Int) (ws : List Fr) (l : List (Fp × Fp)) (k : Nat) (I : Int) : St := mkSt Try.f29.ntmps 232 [(2, .is (.one (.ro dealK ds))), (3, .is (.one (.ptr 0 0))), (9, .is (.one (.sl 40 0 0 ws.length 4))), (11, .is (.one (.ro pt1 l))), (12, sI .i64 k), (14, sI .i64 I), (28, .is (.one (.ro iK tk))), (29, sI .i64 tk.length), (30, sI .i64 k)] [(40, [.row .fr ws.length ws]), (0, [.ro iK d, .ro iK t, .v (.int .i64 n), .ro pt1 o])]
noncomputable def joD (d t : List Int) (n : Int) (o : List (Fp × Fp)) (ds : List Dl) (tk : List Int) (ws : List Fr) (l : List (Fp × Fp)) (k : Nat) (c : List (Fp × Fp)) : St := mkSt Try.f29.ntmps 416 [(2, .is (.one (.ro dealK ds))), (3, .is (.one (.ptr 0 0))), (9, .is (.one (.sl 40 0 0 ws.length 4))), (11, .is (.one (.ro pt1 l))), (12, sI .i64 k), (28, .is (.one (.ro iK tk))), (29, sI .i64 tk.length), (30, sI .i64 k), (15, .is (.one (.sl 376 0 0 c.length 12))), (59, .is (.one (.v (.bool (decide ((ws.length : Int) > 0))))))] [(376, [.row pt1 c.length c]), (40, [.row .fr ws.length ws]), (0, [.ro iK d, .ro iK t, .v (.int .i64 n), .ro pt1 o])]
noncomputable def joE (d t : List Int) (n : Int) (o : List (Fp × Fp)) (ds : List Dl) (tk : List Int) (ws : List Fr) (l : List (Fp × Fp)) (k : Nat) (m : Nat) (g : Int × List (Fp × Fp)) : St := mkSt Try.f29.ntmps 416 [(2, .is (.one (.ro dealK ds))), (3, .is (.one (.ptr 0 0))), (9, .is (.one (.sl 40 0 0 ws.length 4))), (11, .is (.one (.ro pt1 l))), (12, sI .i64 k), (28, .is (.one (.ro iK tk))), (29, sI .i64 tk.length), (30, sI .i64 k), (15, .is (.one (.sl 376 0 0 m 12))), (60, .is (.one (.sl 376 0 0 m 12))), (61, sI .i64 m), (62, sI .i64 g.1)] [(376, [.row pt1 m g.2]), (40, [.row .fr ws.length ws]), (0, [.ro iK d, .ro iK t, .v (.int .i64 n), .ro pt1 o])]
noncomputable def joF (d t : List Int) (n : Int) (o : List (Fp × Fp)) (ds : List Dl) (tk : List Int) (ws : List Fr) (l : List (Fp × Fp)) (k : Nat) (m : Nat) (c : List (Fp × Fp)) : St := mkSt Try.f29.ntmps 416 [(2, .is (.one (.ro dealK ds))), (3, .is (.one (.ptr 0 0))), (9, .is (.one (.sl 40 0 0 ws.length 4))), (11, .is (.one (.ro pt1 l))), (12, sI .i64 k), (28, .is (.one (.ro iK tk))), (29, sI .i64 tk.length), (30, sI .i64 k), (15, .is (.one (.sl 376 0 0 m 12)))] [(376, [.row pt1 m c]), (40, [.row .fr ws.length ws]), (0, [.ro iK d, .ro iK t, .v (.int .i64 n), .ro pt1 o])]
noncomputable def mapK (f : Fp × Fp → Fp × Fp) (c : List (Fp × Fp)) (j : Nat) : List (Fp × Fp) := (c.take j).map f ++ c.drop j
theorem mapK_len (f : Fp × Fp → Fp × Fp) (c : List (Fp × Fp)) (j : Nat) : (mapK f c j).length = c.length := by simp [mapK]; omega
theorem mapK_step (f : Fp × Fp → Fp × Fp) (c : List (Fp × Fp)) {j : Nat} (h : j < c.length) : (mapK f c j).set j (f ((mapK f c j).getD j (0, 0))) = mapK f c (j + 1) := by
  have e1 : (mapK f c j).getD j (0, 0) = c[j] := by
    rw [mapK, List.getD_eq_getElem?_getD, List.getElem?_append_right (by simp; omega)]
    simp [h, Nat.min_eq_left (Nat.le_of_lt h)]
  rw [e1, mapK, mapK, List.set_append_right _ _ (by simp; omega), List.take_succ_eq_append_getElem h, List.map_append]
  have e2 : j - ((c.take j).map f).length = 0 := by simp; omega
  rw [e2, List.drop_eq_getElem_cons h, List.set_cons_zero, List.append_assoc]
  rfl
noncomputable def joEJ (c : List (Fp × Fp)) (f : Fp × Fp → Fp × Fp) (g : Int × List (Fp × Fp)) : Prop := ∃ j : Nat, j ≤ c.length ∧ g.1 = (j : Int) ∧ g.2 = mapK f c j
noncomputable def joJ (n : Int) (ds : List Dl) (tk : List Int) (ws : List Fr) (g : Int × List (Fp × Fp)) : Prop := ∃ k : Nat, k ≤ tk.length ∧ g.1 = (k : Int) ∧ g.2 = jS ds tk ws k ∧ ∀ x ∈ tk.take k, dOk ds n x = true
theorem jS_len (ds : List Dl) (tk : List Int) (ws : List Fr) (n : Int) : ∀ k, k ≤ tk.length → (∀ x ∈ tk.take k, dOk ds n x = true) → (jS ds tk ws k).length = 0 ∨ ((jS ds tk ws k).length : Int) = n := by
  intro k
  induction k with
  | zero => intro _ _; exact .inl rfl
  | succ k ih =>
    intro hk h
    have hlt : k < tk.length := hk
    have h1 := ih (by omega) (fun x hx => h x (by rw [List.take_succ_eq_append_getElem hlt]; exact List.mem_append_left _ hx))
    have h2 := h tk[k] (by rw [List.take_succ_eq_append_getElem hlt]; exact List.mem_append_right _ (List.mem_singleton.2 rfl))
    rw [dOk, Bool.and_eq_true] at h2
    have h3 := of_decide_eq_true h2.2
    have e : (jW ws k (dPub ds (tk.getD k 0))).length = (dPub ds tk[k]).length := by
      have : tk.getD k 0 = tk[k] := by rw [List.getD_eq_getElem?_getD, List.getElem?_eq_getElem hlt, Option.getD_some]
      rw [this, jW]
      split
      · rfl
      · rw [List.length_map]
    have e2 : (jS ds tk ws (k + 1)).length = max (jS ds tk ws k).length (dPub ds tk[k]).length := by
      show (plusF _ _).length = _
      rw [plusF, plusK, List.length_map, List.length_range, e]
    right
    rw [e2]; omega
theorem fo_plus : FnOk Try.prog 28 [.sl pt1, .sl pt1] [.val (.sl pt1)] noG prePlus (fun (c, d, _) => (plusF c d, ())) := fn_plus.frz
noncomputable def soPlus : Nat × Eng.Spec := (28, fnSpec [.sl pt1, .sl pt1] [.val (.sl pt1)] prePlus (fun (c, d, _) => (plusF c d, ())))
theorem fn_join : FnOk Try.prog 29 [setK, .sl iK, .sl dealK] [.val (.sl pt1), .val iK] noG preJoin outJoin := by
  have hsp : SpecsOk Try.prog (sps [spTaken, soIxj, spClone, g1.soMul, soPlus]) := sps_cons (fnSpec_ok fn_taken) (sps_cons (fnSpec_ok fo_ixj) (sps_cons (fnSpec_ok fn_clone) (sps_cons (fnSpec_ok g1.fo_mul) (sps_cons (fnSpec_ok fo_plus) sps_nil))))
  refine fn_of_tr (sp := sps [spTaken, soIxj, spClone, g1.soMul, soPlus]) ent_join (by decide) (by decide) (by kernel_rfl) ?_
  rintro w M0 ⟨⟨d, t, n, o⟩, q, ds, ⟨⟩⟩
  revert d t n o q ds
  intro (d : List Int) (t : List Int) (n : Int) (o : List (Fp × Fp)) (q : List Int) (ds : List Dl) _ hp
  obtain ⟨ho, hq, hds, hn⟩ := hp
  have ho : o.length < 1048576 := ho
  have hq : q.length < 4611686018427387904 := hq
  have hds : ds.length < 4611686018427387904 := hds
  have hn : n < 1048576 := hn
  show Tr _ _ _ _ _ _ _
  refine tr_cut hsp mixed 2 (joA d t n o ds (tknF d o q).1 (tknF d o q).2.1 (tknF d o q).2.2) True ?_ (fun _ => ?_)
  · refine vcx (X := (preTkn ((d, t, n, o), q, ()) ∧ (joA d t n o ds (tknF d o q).fst (tknF d o q).snd.fst (tknF d o q).snd.snd).triv True)) (by kernel_rfl) ?_
    exact ⟨⟨ho, hq⟩, triv_intro trivial⟩
  have hF : joinF d n o q ds = joinT n ds (tknF d o q).1 (tknF d o q).2.1 (tknF d o q).2.2 := rfl
  obtain ⟨htl, hws⟩ := tkn_len d o q
  generalize (tknF d o q).1 = tk at *
  generalize (tknF d o q).2.1 = ws at *
  generalize (tknF d o q).2.2 = e at *
  refine tr_cut hsp mixed 4 (joB d t n o ds tk ws) (e = 0) ?_ (fun he => ?_)
  · refine vcx (X := (((e != (0 : Int)) = true → ([], e, ()) = outJoin ((d, t, n, o), q, ds, ())) ∧ ((e != (0 : Int)) = false → (joB d t n o ds tk ws).triv (e = (0 : Int))))) (by kernel_rfl) ?_
    refine ⟨fun h => ?_, fun h => triv_intro (by simpa using h)⟩
    show _ = ((joinF d n o q ds).1, (joinF d n o q ds).2, ())
    rw [hF, joinT, if_neg (by simpa using h)]
  subst he
  refine tr_ro 11 pt1 (by kernel_rfl) ?_
  refine tr_whileT noSw (fun σ => (rdS (.int .i64) 30 σ, rdO pt1 11 σ)) (joI d t n o ds tk ws) (joJ n ds tk ws) (fun g => tk.length - g.1.toNat)
    (fun σ => (rdS (.int .i64) 30 σ, rdO pt1 11 σ)) (joI d t n o ds tk ws) (fun g => tk.all (dOk ds n) = true ∧ g.2 = jS ds tk ws tk.length) (0, []) (c := nthC (codeOf Try.f29) 6) (by kernel_rfl) (by kernel_rfl) (le_of_proj (by kernel_rfl) (by kernel_rfl) ?_) ?_ ?_
  · exact ⟨0, Nat.zero_le _, rfl, rfl, by simp⟩
  · rintro ⟨i, l⟩ hj
    revert i l
    intro (i : Int) (l : List (Fp × Fp)) ⟨k, hk, ei, el, hok⟩
    have ei : i = (k : Int) := ei
    have kl : l = jS ds tk ws k := el
    subst ei
    have hl1 : l.length < 1048576 := by
      have := jS_len ds tk ws n k hk hok
      rw [kl]; omega
    refine tr_cut hsp mixed 2 (joI d t n o ds tk ws ((k : Int), l)) (k < tk.length) ?_ (fun hlt => ?_)
    · refine vcx (X := ((decide ((↑k : Int) < (↑tk.length : Int)) = true → (joI d t n o ds tk ws ((↑k : Int), l)).triv (k < tk.length)) ∧ (decide ((↑k : Int) < (↑tk.length : Int)) = false → (joI d t n o ds tk ws ((↑k : Int), l)).triv (tk.all (dOk ds n) = true ∧ l = jS ds tk ws tk.length)))) (by kernel_rfl) ?_
      refine ⟨fun h => triv_intro (by have := dec_lt h; omega), fun h => triv_intro ?_⟩
      have : k = tk.length := by have := dec_ge h; omega
      rw [this, List.take_length] at hok
      exact ⟨List.all_eq_true.2 hok, by rw [kl, this]⟩
    refine tr_block (c := nthC (loopOf (nthC (codeOf Try.f29) 6)) 2) (by kernel_rfl) (by kernel_rfl) ?_
    refine tr_cut hsp mixed 2 (joC d t n o ds tk ws l k (dIx ds (tk.getD (k : Int).toNat 0))) True ?_ (fun _ => ?_)
    · refine vcx (X := (((0 : Int) ≤ (↑k : Int) ∧ (↑k : Int) < (↑tk.length : Int)) ∧ (↑k : Int).toNat < tk.length ∧ ds.length < (4611686018427387904 : Nat) ∧ (joC d t n o ds tk ws l k (dIx ds (tk.getD (↑k : Int).toNat (0 : Int)))).triv True)) (by kernel_rfl) ?_
      rw [Int.toNat_natCast]
      exact ⟨⟨by omega, by omega⟩, hlt, hds, triv_intro trivial⟩
    generalize hx : tk.getD (k : Int).toNat 0 = x
    generalize hI : dIx ds x = I
    refine tr_cutF hsp mixed 4 (fun σ => rdR pt1 376 σ) (joD d t n o ds tk ws l k) (fun c => c = dPub ds x ∧ dOk ds n x = true) ?_ ?_
    · refine vcx (X := ((decide (I < (0 : Int)) = true → ([], (41 : Int), ()) = outJoin ((d, t, n, o), q, ds, ())) ∧ (decide (I < (0 : Int)) = false → ((0 : Int) ≤ I ∧ I < (↑ds.length : Int)) ∧ I.toNat < ds.length ∧ (((↑(ds.getD I.toNat ((0 : Int), [])).snd.length : Int) != n) = true → ([], (41 : Int), ()) = outJoin ((d, t, n, o), q, ds, ())) ∧ (((↑(ds.getD I.toNat ((0 : Int), [])).snd.length : Int) != n) = false → ((0 : Int) ≤ I ∧ I < (↑ds.length : Int)) ∧ I.toNat < ds.length ∧ preClone ((ds.getD I.toNat ((0 : Int), [])).snd, ()) ∧ (joD d t n o ds tk ws l k ((ds.getD I.toNat ((0 : Int), [])).snd, ()).fst).triv ((ds.getD I.toNat ((0 : Int), [])).snd = dPub ds x ∧ dOk ds n x = true))))) (by kernel_rfl) ?_
      have hP : (ds.getD I.toNat ((0 : Int), ([] : List (Fp × Fp)))).2 = dPub ds x := by rw [dPub, hI]
      have hxm : x ∈ tk := by
        rw [← hx, Int.toNat_natCast, List.getD_eq_getElem?_getD, List.getElem?_eq_getElem hlt, Option.getD_some]
        exact List.getElem_mem hlt
      have hbad : dOk ds n x = false → ([], (41 : Int), ()) = outJoin ((d, t, n, o), q, ds, ()) := fun hb => by
        show _ = ((joinF d n o q ds).1, (joinF d n o q ds).2, ())
        have : ¬ tk.all (dOk ds n) = true := fun c => by
          have := List.all_eq_true.1 c x hxm
          rw [hb] at this; cases this
        rw [hF, joinT, if_pos rfl, if_neg this]
      rw [hP]
      have hidx : I.toNat < ds.length ∨ I < 0 := by
        rcases Int.lt_or_le I 0 with h | h
        · exact .inr h
        · left
          rw [← hI, dIx, opq_eq, idxP] at h ⊢
          split at h
          · rename_i h2; rw [if_pos h2]; omega
          · exact absurd h (by omega)
      refine ⟨fun h => hbad (by rw [dOk, hI, decide_eq_false (by have := of_decide_eq_true h; omega)]; rfl), fun h => ?_⟩
      have h0 : 0 ≤ I := by have := of_decide_eq_false h; omega
      have h1 : I.toNat < ds.length := by omega
      refine ⟨⟨h0, by omega⟩, h1, fun h2 => hbad ?_, fun h2 => ?_⟩
      · have h2 : ¬ ((dPub ds x).length : Int) = n := by simpa using h2
        rw [dOk, decide_eq_false h2, Bool.and_false]
      · have h2 : ((dPub ds x).length : Int) = n := by simpa using h2
        exact ⟨⟨h0, by omega⟩, h1, by show (dPub ds x).length < _; omega, triv_intro ⟨rfl, by rw [dOk, hI, decide_eq_true h0, decide_eq_true h2]; rfl⟩⟩
    intro (c : List (Fp × Fp)) ⟨hc, hok'⟩
    have hxe : tk.getD k 0 = x := by rw [← hx, Int.toNat_natCast]
    have hcn : c.length < 1048576 := by
      rw [dOk, Bool.and_eq_true] at hok'
      have := of_decide_eq_true hok'.2
      rw [hc]; omega
    have hfin : ∀ l' : List (Fp × Fp), l' = plusF l (jW ws k c) → joJ n ds tk ws (((k + 1 : Nat) : Int), l') := fun l' e => by
      refine ⟨k + 1, hlt, rfl, ?_, ?_⟩
      · show l' = plusF (jS ds tk ws k) (jW ws k (dPub ds (tk.getD k 0)))
        rw [e, hxe, kl, hc]
      · intro y hy
        rw [List.take_succ_eq_append_getElem hlt, List.mem_append, List.mem_singleton] at hy
        rcases hy with hy | rfl
        · exact hok y hy
        · rw [List.getD_eq_getElem?_getD, List.getElem?_eq_getElem hlt, Option.getD_some] at hxe
          rw [hxe]; exact hok'
    refine tr_cond (c := nthC (bodyOf (nthC (loopOf (nthC (codeOf Try.f29) 6)) 2)) 6) (decide ((ws.length : Int) > 0)) (by kernel_rfl) (by kernel_rfl) (by kernel_rfl) (fun ht => ?_) (fun ht => ?_)
    · have hwl : ws.length = tk.length := by have := of_decide_eq_true ht; have := hws rfl; omega
      refine tr_cut hsp mixed 1 (joE d t n o ds tk ws l k c.length (0, c)) True ?_ (fun _ => ?_)
      · refine vcx (X := ((joE d t n o ds tk ws l k c.length ((0 : Int), c)).triv True)) (by kernel_rfl) ?_
        exact triv_intro trivial
      refine tr_while hsp mixed noSw (fun σ => (rdS (.int .i64) 62 σ, rdR pt1 376 σ)) (joE d t n o ds tk ws l k c.length) (joEJ c (fun p => g1.gmul p (ws.getD k 0))) (fun g => c.length - g.1.toNat)
        (fun σ => (rdS (.int .i64) 62 σ, rdR pt1 376 σ)) (joE d t n o ds tk ws l k c.length) (fun g => g.2 = c.map (fun p => g1.gmul p (ws.getD k 0))) (0, c) (c := nthC (thenOf (nthC (bodyOf (nthC (loopOf (nthC (codeOf Try.f29) 6)) 2)) 6)) 1) (by kernel_rfl) (by kernel_rfl) (le_of_proj (by kernel_rfl) (by kernel_rfl) ?_) ?_ ?_
      · exact ⟨0, Nat.zero_le _, rfl, rfl⟩
      · rintro ⟨j, c'⟩ hj
        revert j c'
        intro (j : Int) (c' : List (Fp × Fp)) ⟨m, hm, ej, ec⟩
        have ej : j = (m : Int) := ej
        have kc : c' = mapK (fun p => g1.gmul p (ws.getD k 0)) c m := ec
        subst ej
        refine vcx (X := ((decide ((↑m : Int) < (↑c.length : Int)) = true → ((0 : Int) ≤ (↑m : Int) ∧ (↑m : Int) < (↑c.length : Int)) ∧ (↑m : Int).toNat < c.length ∧ ((0 : Int) ≤ (↑k : Int) ∧ (↑k : Int) < (↑ws.length : Int)) ∧ (↑k : Int).toNat < ws.length ∧ True ∧ ((0 : Int) ≤ (↑m : Int) ∧ (↑m : Int) < (↑c.length : Int)) ∧ (↑m : Int).toNat < c.length ∧ (joE d t n o ds tk ws l k c.length (IntKind.i64.wrap ((↑m : Int) + (1 : Int)), c'.set (↑m : Int).toNat (g1.gmul (c'.getD (↑m : Int).toNat ((0 : Fp), (0 : Fp))) (ws.getD (↑k : Int).toNat (0 : Fr))))).triv (joEJ c (fun p => g1.gmul p (ws.getD k (0 : Fr))) (IntKind.i64.wrap ((↑m : Int) + (1 : Int)), c'.set (↑m : Int).toNat (g1.gmul (c'.getD (↑m : Int).toNat ((0 : Fp), (0 : Fp))) (ws.getD (↑k : Int).toNat (0 : Fr)))) ∧ c.length - (IntKind.i64.wrap ((↑m : Int) + (1 : Int))).toNat < c.length - (↑m : Int).toNat)) ∧ (decide ((↑m : Int) < (↑c.length : Int)) = false → (joE d t n o ds tk ws l k c.length ((↑m : Int), c')).triv (c' = List.map (fun p => g1.gmul p (ws.getD k (0 : Fr))) c)))) (by kernel_rfl) ?_
        rw [Int.toNat_natCast, Int.toNat_natCast]
        refine ⟨fun h => ?_, fun h => triv_intro ?_⟩
        · have hlm : m < c.length := by have := dec_lt h; omega
          rw [wrap_succ (by omega)]
          refine ⟨⟨by omega, by omega⟩, hlm, ⟨by omega, by omega⟩, by omega, trivial, ⟨by omega, by omega⟩, hlm, triv_intro ⟨⟨m + 1, hlm, rfl, ?_⟩, by rw [Int.toNat_natCast]; omega⟩⟩
          show c'.set m _ = _
          rw [kc]
          exact mapK_step (fun p => g1.gmul p (ws.getD k 0)) c hlm
        · have : m = c.length := by have := dec_ge h; omega
          rw [kc, mapK, this, List.take_length, List.drop_length, List.append_nil]
      rintro ⟨j, c'⟩ hj
      revert j c'
      intro (j : Int) (c' : List (Fp × Fp)) hj
      have kc : c' = c.map (fun p => g1.gmul p (ws.getD k 0)) := hj
      have hc'l : c'.length = c.length := by rw [kc, List.length_map]
      have hjW : c' = jW ws k c := by rw [jW, if_neg (by omega), kc]
      refine tr_cut hsp mixed 1 (joI d t n o ds tk ws ((k : Int), plusF l (c'.take c.length))) True ?_ (fun _ => ?_)
      · refine vcx (X := ((0 : Nat) + c.length ≤ c.length ∧ prePlus (l, List.take c.length c', ()) ∧ (joI d t n o ds tk ws ((↑k : Int), plusF l (List.take c.length c'))).triv True)) (by kernel_rfl) ?_
        rw [← hc'l, List.take_length]
        exact ⟨by omega, ⟨hl1, by show c'.length < _; omega⟩, triv_intro trivial⟩
      rw [← hc'l, List.take_length]
      refine tr_nil ?_
      refine tr_vc hsp mixed _ _ ?_
      refine vcx (X := ((joI d t n o ds tk ws (IntKind.i64.wrap ((↑k : Int) + (1 : Int)), plusF l c')).triv (joJ n ds tk ws (IntKind.i64.wrap ((↑k : Int) + (1 : Int)), plusF l c') ∧ tk.length - (IntKind.i64.wrap ((↑k : Int) + (1 : Int))).toNat < tk.length - (↑k : Int).toNat))) (by kernel_rfl) ?_
      rw [wrap_succ (by omega)]
      exact triv_intro ⟨hfin _ (by rw [hjW]), by rw [Int.toNat_natCast, Int.toNat_natCast]; omega⟩
    · have hwl : ws.length = 0 := by have := of_decide_eq_false ht; omega
      have hjW : c = jW ws k c := by rw [jW, if_pos hwl]
      refine tr_cut hsp mixed 1 (joI d t n o ds tk ws ((k : Int), plusF l (c.take c.length))) True ?_ (fun _ => ?_)
      · refine vcx (X := ((0 : Nat) + c.length ≤ c.length ∧ prePlus (l, List.take c.length c, ()) ∧ (joI d t n o ds tk ws ((↑k : Int), plusF l (List.take c.length c))).triv True)) (by kernel_rfl) ?_
        rw [List.take_length]
        exact ⟨by omega, ⟨hl1, hcn⟩, triv_intro trivial⟩
      rw [List.take_length]
      refine tr_nil ?_
      refine tr_vc hsp mixed _ _ ?_
      refine vcx (X := ((joI d t n o ds tk ws (IntKind.i64.wrap ((↑k : Int) + (1 : Int)), plusF l c)).triv (joJ n ds tk ws (IntKind.i64.wrap ((↑k : Int) + (1 : Int)), plusF l c) ∧ tk.length - (IntKind.i64.wrap ((↑k : Int) + (1 : Int))).toNat < tk.length - (↑k : Int).toNat))) (by kernel_rfl) ?_
      rw [wrap_succ (by omega)]
      exact triv_intro ⟨hfin _ (by rw [← hjW]), by rw [Int.toNat_natCast, Int.toNat_natCast]; omega⟩
  rintro ⟨i, l⟩ hj
  revert i l
  intro (i : Int) (l : List (Fp × Fp)) ⟨hall, el⟩
  have el : l = jS ds tk ws tk.length := el
  refine tr_vc hsp mixed _ _ ?_
  refine vcx (X := ((l, (0 : Int), ()) = outJoin ((d, t, n, o), q, ds, ()))) (by kernel_rfl) ?_
  show _ = ((joinF d n o q ds).1, (joinF d n o q ds).2, ())
  rw [hF, joinT, if_pos rfl, if_pos hall, el]
noncomputable def spJoin : Nat × Eng.Spec := (29, fnSpec [setK, .sl iK, .sl dealK] [.val (.sl pt1), .val iK] preJoin outJoin)
end Go.Proofs.Ytoflhakneklimaa.deal
/- deal: Total, Key. -/
namespace Go.Proofs.Ytoflhakneklimaa.deal
set_option maxRecDepth 100000
open Go Go.Eng Go.RowKit Cr Go.Proofs.Ytoflhakneklimaa Go.Proofs.Ytoflhakneklimaa.law14 Go.Proofs.Ytoflhakneklimaa.poly
noncomputable def tIx (fs : List Int) (x : Int) : Int := opq (idxP (fun d : Int => d == x) fs)
theorem fo_ixt : FnOk Try.prog 60 [.sl iK, cloIxt] [.val iK] noG (fun (xs, _, _) => List.length xs < 4611686018427387904) (fun (xs, (_, x), _) => (tIx xs x, ())) := fn_ixt.out fun (xs, (_, x), _) => by show (tIx xs x, ()) = (idxP (fun d : Int => d == x) xs, ()); rw [tIx, opq_eq]
noncomputable def soIxt : Nat × Eng.Spec := (60, fnSpec [.sl iK, cloIxt] [.val iK] (fun (xs, _, _) => List.length xs < 4611686018427387904) (fun (xs, (_, x), _) => (tIx xs x, ())))
noncomputable def tOk (fs : List Int) (sh : List Fr) (x : Int) : Bool := decide (0 ≤ tIx fs x) && decide (tIx fs x < (sh.length : Int))
noncomputable def tW (ws : List Fr) (k : Nat) (s : Fr) : Fr := if ws.length = 0 then s else s * ws.getD k 0
noncomputable def tS (fs : List Int) (sh : List Fr) (tk : List Int) (ws : List Fr) : Nat → Fr
  | 0 => 0
  | k + 1 => tS fs sh tk ws k + tW ws k (sh.getD (tIx fs (tk.getD k 0)).toNat 0)
noncomputable def totT (fs : List Int) (sh : List Fr) (tk : List Int) (ws : List Fr) (e : Int) : Fr × Int := if e = 0 then (if tk.all (tOk fs sh) = true then (tS fs sh tk ws tk.length, 0) else (0, 41)) else (0, e)
noncomputable def totF (d : List Int) (o : List (Fp × Fp)) (q fs : List Int) (sh : List Fr) : Fr × Int := totT fs sh (tknF d o q).1 (tknF d o q).2.1 (tknF d o q).2.2
theorem ent_total : enters Try.prog 32 Try.f32 := enters_mk (by kernel_rfl) (by kernel_rfl) (by kernel_rfl)
abbrev preTotal : HL [setK, .sl iK, .sl iK, .sl .fr] → Prop := fun ((_, _, _, o), q, fs, _, _) => List.length o < 1048576 ∧ List.length q < 4611686018427387904 ∧ List.length fs < 4611686018427387904
noncomputable abbrev outTotal : HL [setK, .sl iK, .sl iK, .sl .fr] → HO [.val .fr, .val iK] := fun ((d, _, _, o), q, fs, sh, _) => ((totF d o q fs sh).1, (totF d o q fs sh).2, ())
noncomputable def toA (fs : List Int) (sh : List Fr) (tk : List Int) (ws : List Fr) (e : Int) : St := mkSt Try.f32.ntmps 104 [(2, .is (.one (.ro iK fs))), (3, .is (.one (.ro .fr sh))), (8, .is (.one (.ptr 8 0))), (9, sI .i64 0), (10, .is (.one (.ro iK tk))), (11, .is (.one (.sl 40 0 0 ws.length 4))), (12, sI .i64 e)] [(40, [.row .fr ws.length ws]), (8, [.row .fr 1 [0]])]
noncomputable def toI (fs : List Int) (sh : List Fr) (tk : List Int) (ws : List Fr) (g : Int × Fr) : St := mkSt Try.f32.ntmps 152 [(2, .is (.one (.ro iK fs))), (3, .is (.one (.ro .fr sh))), (8, .is (.one (.ptr 8 0))), (11, .is (.one (.sl 40 0 0 ws.length 4))), (13, .is (.one (.ptr 120 0))), (29, .is (.one (.ro iK tk))), (30, sI .i64 tk.length), (31, sI .i64 g.1)] [(40, [.row .fr ws.length ws]), (8, [.row .fr 1 [0]]), (120, [.row .fr 1 [g.2]])]
noncomputable def toC (fs : List Int) (sh : List Fr) (tk : List Int) (ws : List Fr) (k : Nat) (s : Fr) (I : Int) : St := mkSt Try.f32.ntmps 152 [(2, .is (.one (.ro iK fs))), (3, .is (.one (.ro .fr sh))), (8, .is (.one (.ptr 8 0))), (11, .is (.one (.sl 40 0 0 ws.length 4))), (13, .is (.one (.ptr 120 0))), (29, .is (.one (.ro iK tk))), (30, sI .i64 tk.length), (31, sI .i64 k), (14, sI .i64 k), (16, sI .i64 I)] [(40, [.row .fr ws.length ws]), (8, [.row .fr 1 [0]]), (120, [.row .fr 1 [s]])]
noncomputable def toJ (fs : List Int) (sh : List Fr) (tk : List Int) (ws : List Fr) (g : Int × Fr) : Prop := ∃ k : Nat, k ≤ tk.length ∧ g.1 = (k : Int) ∧ g.2 = tS fs sh tk ws k ∧ ∀ x ∈ tk.take k, tOk fs sh x = true
theorem fn_total : FnOk Try.prog 32 [setK, .sl iK, .sl iK, .sl .fr] [.val .fr, .val iK] noG preTotal outTotal := by
  have hsp : SpecsOk Try.prog (sps [spTaken, soIxt, fr.spMul, fr.spAdd]) := sps_cons (fnSpec_ok fn_taken) (sps_cons (fnSpec_ok fo_ixt) (sps_cons (fnSpec_ok fr.fn_mul) (sps_cons (fnSpec_ok fr.fn_add) sps_nil)))
  refine fn_of_tr (sp := sps [spTaken, soIxt, fr.spMul, fr.spAdd]) ent_total (by decide) (by decide) (by kernel_rfl) ?_
  rintro w M0 ⟨⟨d, t, n, o⟩, q, fs, sh, ⟨⟩⟩
  revert d t n o q fs sh
  intro (d : List Int) (t : List Int) (n : Int) (o : List (Fp × Fp)) (q : List Int) (fs : List Int) (sh : List Fr) _ hp
  obtain ⟨ho, hq, hfs⟩ := hp
  have ho : o.length < 1048576 := ho
  have hq : q.length < 4611686018427387904 := hq
  have hfs : fs.length < 4611686018427387904 := hfs
  show Tr _ _ _ _ _ _ _
  refine tr_cut hsp mixed 2 (toA fs sh (tknF d o q).1 (tknF d o q).2.1 (tknF d o q).2.2) True ?_ (fun _ => ?_)
  · refine vcx (X := (preTkn ((d, t, n, o), q, ()) ∧ (toA fs sh (tknF d o q).fst (tknF d o q).snd.fst (tknF d o q).snd.snd).triv True)) (by kernel_rfl) ?_
    exact ⟨⟨ho, hq⟩, triv_intro trivial⟩
  have hF : totF d o q fs sh = totT fs sh (tknF d o q).1 (tknF d o q).2.1 (tknF d o q).2.2 := rfl
  obtain ⟨htl, hws⟩ := tkn_len d o q
  generalize (tknF d o q).1 = tk at *
  generalize (tknF d o q).2.1 = ws at *
  generalize (tknF d o q).2.2 = e at *
  refine tr_cut hsp mixed 4 (toI fs sh tk ws (0, 0)) (e = 0) ?_ (fun he => ?_)
  · refine vcx (X := (((e != (0 : Int)) = true → ((0 : Fr), e, ()) = outTotal ((d, t, n, o), q, fs, sh, ())) ∧ ((e != (0 : Int)) = false → (toI fs sh tk ws ((0 : Int), (0 : Fr))).triv (e = (0 : Int))))) (by kernel_rfl) ?_
    refine ⟨fun h => ?_, fun h => triv_intro (by simpa using h)⟩
    show _ = ((totF d o q fs sh).1, (totF d o q fs sh).2, ())
    rw [hF, totT, if_neg (by simpa using h)]
  subst he
  refine tr_whileT noSw (fun σ => (rdS (.int .i64) 31 σ, rdB .fr 120 σ)) (toI fs sh tk ws) (toJ fs sh tk ws) (fun g => tk.length - g.1.toNat)
    (fun σ => (rdS (.int .i64) 31 σ, rdB .fr 120 σ)) (toI fs sh tk ws) (fun g => tk.all (tOk fs sh) = true ∧ g.2 = tS fs sh tk ws tk.length) (0, 0) (c := nthC (codeOf Try.f32) 6) (by kernel_rfl) (by kernel_rfl) (le_of_proj (by kernel_rfl) (by kernel_rfl) ?_) ?_ ?_
  · exact ⟨0, Nat.zero_le _, rfl, rfl, by simp⟩
  · rintro ⟨i, s⟩ hj
    revert i s
    intro (i : Int) (s : Fr) ⟨k, hk, ei, es, hok⟩
    have ei : i = (k : Int) := ei
    have ks : s = tS fs sh tk ws k := es
    subst ei
    refine tr_cut hsp mixed 2 (toI fs sh tk ws ((k : Int), s)) (k < tk.length) ?_ (fun hlt => ?_)
    · refine vcx (X := ((decide ((↑k : Int) < (↑tk.length : Int)) = true → (toI fs sh tk ws ((↑k : Int), s)).triv (k < tk.length)) ∧ (decide ((↑k : Int) < (↑tk.length : Int)) = false → (toI fs sh tk ws ((↑k : Int), s)).triv (tk.all (tOk fs sh) = true ∧ s = tS fs sh tk ws tk.length)))) (by kernel_rfl) ?_
      refine ⟨fun h => triv_intro (by have := dec_lt h; omega), fun h => triv_intro ?_⟩
      have : k = tk.length := by have := dec_ge h; omega
      rw [this, List.take_length] at hok
      exact ⟨List.all_eq_true.2 hok, by rw [ks, this]⟩
    refine tr_block (c := nthC (loopOf (nthC (codeOf Try.f32) 6)) 2) (by kernel_rfl) (by kernel_rfl) ?_
    refine tr_cut hsp mixed 2 (toC fs sh tk ws k s (tIx fs (tk.getD (k : Int).toNat 0))) True ?_ (fun _ => ?_)
    · refine vcx (X := (((0 : Int) ≤ (↑k : Int) ∧ (↑k : Int) < (↑tk.length : Int)) ∧ (↑k : Int).toNat < tk.length ∧ fs.length < (4611686018427387904 : Nat) ∧ (toC fs sh tk ws k s (tIx fs (tk.getD (↑k : Int).toNat (0 : Int)))).triv True)) (by kernel_rfl) ?_
      rw [Int.toNat_natCast]
      exact ⟨⟨by omega, by omega⟩, hlt, hfs, triv_intro trivial⟩
    generalize hx : tk.getD (k : Int).toNat 0 = x
    generalize hI : tIx fs x = I
    have hxe : tk.getD k 0 = x := by rw [← hx, Int.toNat_natCast]
    have hxk : tk[k] = x := by rwa [List.getD_eq_getElem?_getD, List.getElem?_eq_getElem hlt, Option.getD_some] at hxe
    have hxm : x ∈ tk := hxk ▸ List.getElem_mem hlt
    refine tr_cutF hsp mixed 6 (fun σ => ((k : Int), rdB .fr 120 σ)) (toI fs sh tk ws) (fun g => g.1 = (k : Int) ∧ toJ fs sh tk ws (((k + 1 : Nat) : Int), g.2)) ?_ ?_
    · refine vcx (X := ((decide (I < (0 : Int)) = true → ((0 : Fr), (41 : Int), ()) = outTotal ((d, t, n, o), q, fs, sh, ())) ∧ (decide (I < (0 : Int)) = false → (decide (I ≥ (↑sh.length : Int)) = true → ((0 : Fr), (41 : Int), ()) = outTotal ((d, t, n, o), q, fs, sh, ())) ∧ (decide (I ≥ (↑sh.length : Int)) = false → ((0 : Int) ≤ I ∧ I < (↑sh.length : Int)) ∧ I.toNat < sh.length ∧ (decide ((↑ws.length : Int) > (0 : Int)) = true → ((0 : Int) ≤ (↑k : Int) ∧ (↑k : Int) < (↑ws.length : Int)) ∧ (↑k : Int).toNat < ws.length ∧ True ∧ True ∧ (toI fs sh tk ws ((↑k : Int), s + sh.getD I.toNat (0 : Fr) * ws.getD (↑k : Int).toNat (0 : Fr))).triv ((↑k : Int) = (↑k : Int) ∧ toJ fs sh tk ws ((↑(k + (1 : Nat)) : Int), s + sh.getD I.toNat (0 : Fr) * ws.getD (↑k : Int).toNat (0 : Fr)))) ∧ (decide ((↑ws.length : Int) > (0 : Int)) = false → True ∧ (toI fs sh tk ws ((↑k : Int), s + sh.getD I.toNat (0 : Fr))).triv ((↑k : Int) = (↑k : Int) ∧ toJ fs sh tk ws ((↑(k + (1 : Nat)) : Int), s + sh.getD I.toNat (0 : Fr)))))))) (by kernel_rfl) ?_
      have hbad : tOk fs sh x = false → ((0 : Fr), (41 : Int), ()) = outTotal ((d, t, n, o), q, fs, sh, ()) := fun hb => by
        show _ = ((totF d o q fs sh).1, (totF d o q fs sh).2, ())
        have : ¬ tk.all (tOk fs sh) = true := fun c => by
          have := List.all_eq_true.1 c x hxm
          rw [hb] at this; cases this
        rw [hF, totT, if_pos rfl, if_neg this]
      have hgood : tOk fs sh x = true → ∀ s' : Fr, s' = s + tW ws k (sh.getD I.toNat 0) → toJ fs sh tk ws (((k + 1 : Nat) : Int), s') := fun hg s' e => by
        refine ⟨k + 1, hlt, rfl, ?_, ?_⟩
        · show s' = tS fs sh tk ws k + tW ws k (sh.getD (tIx fs (tk.getD k 0)).toNat 0)
          rw [e, hxe, hI, ks]
        · intro y hy
          rw [List.take_succ_eq_append_getElem hlt, List.mem_append, List.mem_singleton] at hy
          rcases hy with hy | rfl
          · exact hok y hy
          · rw [hxk]; exact hg
      refine ⟨fun h => hbad (by rw [tOk, hI, decide_eq_false (by have := of_decide_eq_true h; omega)]; rfl), fun h => ?_⟩
      have h0 : 0 ≤ I := by have := of_decide_eq_false h; omega
      refine ⟨fun h2 => hbad (by rw [tOk, hI, decide_eq_false (show ¬ I < (sh.length : Int) by have := of_decide_eq_true h2; omega), Bool.and_false]), fun h2 => ?_⟩
      have h1 : I < (sh.length : Int) := by have := of_decide_eq_false h2; omega
      have hg : tOk fs sh x = true := by rw [tOk, hI, decide_eq_true h0, decide_eq_true h1]; rfl
      rw [Int.toNat_natCast]
      refine ⟨⟨h0, h1⟩, by omega, fun h3 => ?_, fun h3 => ?_⟩
      · have h3 := of_decide_eq_true h3
        have hwl : ws.length = tk.length := by have := hws rfl; omega
        exact ⟨⟨by omega, by omega⟩, by omega, trivial, trivial, triv_intro ⟨rfl, hgood hg _ (by rw [tW, if_neg (by omega)])⟩⟩
      · have h3 := of_decide_eq_false h3
        exact ⟨trivial, triv_intro ⟨rfl, hgood hg _ (by rw [tW, if_pos (by omega)])⟩⟩
    rintro ⟨i, s'⟩ hj
    revert i s'
    intro (i : Int) (s' : Fr) ⟨ei, hj⟩
    have ei : i = (k : Int) := ei
    subst ei
    refine tr_nil ?_
    refine tr_vc hsp mixed _ _ ?_
    refine vcx (X := ((toI fs sh tk ws (IntKind.i64.wrap ((↑k : Int) + (1 : Int)), s')).triv (toJ fs sh tk ws (IntKind.i64.wrap ((↑k : Int) + (1 : Int)), s') ∧ tk.length - (IntKind.i64.wrap ((↑k : Int) + (1 : Int))).toNat < tk.length - (↑k : Int).toNat))) (by kernel_rfl) ?_
    rw [wrap_succ (by omega)]
    exact triv_intro ⟨hj, by rw [Int.toNat_natCast, Int.toNat_natCast]; omega⟩
  rintro ⟨i, l⟩ hj
  revert i l
  intro (i : Int) (l : Fr) ⟨hall, el⟩
  have el : l = tS fs sh tk ws tk.length := el
  refine tr_vc hsp mixed _ _ ?_
  refine vcx (X := ((l, (0 : Int), ()) = outTotal ((d, t, n, o), q, fs, sh, ()))) (by kernel_rfl) ?_
  show _ = ((totF d o q fs sh).1, (totF d o q fs sh).2, ())
  rw [hF, totT, if_pos rfl, if_pos hall, el]
noncomputable def spTotal : Nat × Eng.Spec := (32, fnSpec [setK, .sl iK, .sl iK, .sl .fr] [.val .fr, .val iK] preTotal outTotal)
theorem ent_key : enters Try.prog 33 Try.f33 := enters_mk (by kernel_rfl) (by kernel_rfl) (by kernel_rfl)
abbrev preDKey : HL [.sl pt1] → Prop := fun (c, _) => List.length c < 4611686018427387904
noncomputable abbrev outDKey : HL [.sl pt1] → HO [.val pt1] := fun (c, _) => (catF 0 c, ())
theorem fn_dkey : FnOk Try.prog 33 [.sl pt1] [.val pt1] noG preDKey outDKey := by
  refine fn_of_vc (sp := sps [spCat]) (sps_cons (fnSpec_ok fn_cat) sps_nil) mixed ent_key (by decide) (by decide) ?_
  rintro w M0 ⟨c, ⟨⟩⟩
  revert c
  intro (c : List (Fp × Fp)) _ hc
  refine vcx (X := (preCat (c, (0 : Int), ()) ∧ (catF (0 : Int) c, ()) = outDKey (c, ()))) (by kernel_rfl) ?_
  exact ⟨⟨hc, by decide⟩, rfl⟩
noncomputable def spDKey : Nat × Eng.Spec := (33, fnSpec [.sl pt1] [.val pt1] preDKey outDKey)
end Go.Proofs.Ytoflhakneklimaa.deal
/- The references' Same. -/
namespace Go.Proofs.Ytoflhakneklimaa.ref01
set_option maxRecDepth 100000
open Go Go.Eng Go.RowKit Cr Go.Proofs.Ytoflhakneklimaa
theorem ent_same : enters Try.prog 18 Try.f18 := enters_mk (by kernel_rfl) (by kernel_rfl) (by kernel_rfl)
abbrev preSame : HL [.sl (.int .u8), .sl (.int .u8)] → Prop := fun (a, _, _) => List.length a < 4611686018427387904
def sameF (a b : List Int) : Bool := decide (a = b)
abbrev outSame : HL [.sl (.int .u8), .sl (.int .u8)] → HO [.val .bool] := fun (a, b, _) => (sameF a b, ())
noncomputable def saI (a b : List Int) (g : Int) : St := mkSt Try.f18.ntmps 72 [(0, .is (.one (.ro (.int .u8) a))), (1, .is (.one (.ro (.int .u8) b))), (4, .is (.one .F)), (12, sI .i64 a.length), (13, sI .i64 g)] []
def saJ (a b : List Int) (g : Int) : Prop := ∃ k : Nat, k ≤ a.length ∧ g = (k : Int) ∧ a.take k = b.take k
theorem fn_same : FnOk Try.prog 18 [.sl (.int .u8), .sl (.int .u8)] [.val .bool] noG preSame outSame := by
  have hsp : SpecsOk Try.prog (sps []) := sps_nil
  refine fn_of_tr (sp := sps []) ent_same (by decide) (by decide) (by kernel_rfl) ?_
  rintro w M0 ⟨a, b, ⟨⟩⟩
  revert a b
  intro (a : List Int) (b : List Int) _ hl
  have hl : a.length < 4611686018427387904 := hl
  show Tr _ _ _ _ _ _ _
  refine tr_cut hsp mixed 4 (saI a b 0) (a.length = b.length) ?_ (fun he => ?_)
  · refine vcx (X := ((((↑a.length : Int) != (↑b.length : Int)) = true → (false, ()) = outSame (a, b, ())) ∧ (((↑a.length : Int) != (↑b.length : Int)) = false → (saI a b (0 : Int)).triv (a.length = b.length)))) (by kernel_rfl) ?_
    refine ⟨fun h => ?_, fun h => triv_intro (by simp at h; omega)⟩
    have h : ¬ a.length = b.length := by simp at h; omega
    show _ = (sameF a b, ())
    rw [sameF, decide_eq_false (fun e => h (by rw [e]))]
  refine tr_while hsp mixed noSw (fun σ => rdS (.int .i64) 13 σ) (saI a b) (saJ a b) (fun g => a.length - g.toNat)
    (fun σ => rdS (.int .i64) 13 σ) (saI a b) (fun _ => a = b) 0 (c := nthC (codeOf Try.f18) 4) (by kernel_rfl) (by kernel_rfl) (le_of_proj (by kernel_rfl) (by kernel_rfl) ?_) ?_ ?_
  · exact ⟨0, Nat.zero_le _, rfl, rfl⟩
  · intro (i : Int) ⟨k, hk, ei, ht⟩
    subst ei
    refine vcx (X := ((decide ((↑k : Int) < (↑a.length : Int)) = true → ((0 : Int) ≤ (↑k : Int) ∧ (↑k : Int) < (↑a.length : Int)) ∧ (↑k : Int).toNat < a.length ∧ ((0 : Int) ≤ (↑k : Int) ∧ (↑k : Int) < (↑b.length : Int)) ∧ (↑k : Int).toNat < b.length ∧ ((a.getD (↑k : Int).toNat (0 : Int) != b.getD (↑k : Int).toNat (0 : Int)) = true → (false, ()) = outSame (a, b, ())) ∧ ((a.getD (↑k : Int).toNat (0 : Int) != b.getD (↑k : Int).toNat (0 : Int)) = false → (saI a b (IntKind.i64.wrap ((↑k : Int) + (1 : Int)))).triv (saJ a b (IntKind.i64.wrap ((↑k : Int) + (1 : Int))) ∧ a.length - (IntKind.i64.wrap ((↑k : Int) + (1 : Int))).toNat < a.length - (↑k : Int).toNat))) ∧ (decide ((↑k : Int) < (↑a.length : Int)) = false → (saI a b (↑k : Int)).triv (a = b)))) (by kernel_rfl) ?_
    rw [Int.toNat_natCast]
    refine ⟨fun h => ?_, fun h => triv_intro ?_⟩
    · have hlt : k < a.length := by have := dec_lt h; omega
      have ga : a.getD k 0 = a[k] := by rw [List.getD_eq_getElem?_getD, List.getElem?_eq_getElem hlt, Option.getD_some]
      have gb : b.getD k 0 = b[k] := by rw [List.getD_eq_getElem?_getD, List.getElem?_eq_getElem (by omega), Option.getD_some]
      rw [wrap_succ (by omega), ga, gb]
      refine ⟨⟨by omega, by omega⟩, hlt, ⟨by omega, by omega⟩, by omega, fun h2 => ?_, fun h2 => triv_intro ⟨⟨k + 1, hlt, rfl, ?_⟩, by rw [Int.toNat_natCast]; omega⟩⟩
      · have h2 : a[k] ≠ b[k] := by simpa using h2
        show _ = (sameF a b, ())
        rw [sameF, decide_eq_false (fun e => h2 (by subst e; rfl))]
      · have h2 : a[k] = b[k] := by simpa using h2
        rw [List.take_succ_eq_append_getElem hlt, List.take_succ_eq_append_getElem (by omega), ht, h2]
    · have : k = a.length := by have := dec_ge h; omega
      subst this
      rw [List.take_length] at ht
      rw [ht, he, List.take_length]
  intro (i : Int) (h : a = b)
  refine tr_vc hsp mixed _ _ ?_
  refine vcx (X := ((true, ()) = outSame (a, b, ()))) (by kernel_rfl) ?_
  show _ = (sameF a b, ())
  rw [sameF, decide_eq_true h]
noncomputable def spSame : Nat × Eng.Spec := (18, fnSpec [.sl (.int .u8), .sl (.int .u8)] [.val .bool] preSame outSame)
end Go.Proofs.Ytoflhakneklimaa.ref01
/- DealOrders: the walk. -/
namespace Go.Proofs.Ytoflhakneklimaa.law22
set_option maxRecDepth 100000
open Go Go.Eng Go.RowKit Cr Go.Proofs.Ytoflhakneklimaa Go.Proofs.Ytoflhakneklimaa.law14 Go.Proofs.Ytoflhakneklimaa.poly Go.Proofs.Ytoflhakneklimaa.deal
noncomputable def wro (ps : List (Fp × Fp)) : List Int := opq (wrF ps)
theorem fo_write : FnOk Try.prog 30 [.sl pt1] [.own (.int .u8)] noG preWrite (fun (ps, _) => (wro ps, ())) := fn_write.out fun (ps, _) => by show (wro ps, ()) = (wrF ps, ()); rw [wro, opq_eq]
noncomputable def soWrite : Nat × Eng.Spec := (30, fnSpec [.sl pt1] [.own (.int .u8)] preWrite (fun (ps, _) => (wro ps, ())))
theorem fo_commit : FnOk Try.prog 23 [.sl .fr] [.val (.sl pt1)] noG preCommit outCommit := fn_commit.frz
noncomputable def soCommit : Nat × Eng.Spec := (23, fnSpec [.sl .fr] [.val (.sl pt1)] preCommit outCommit)
theorem fo_numbers : FnOk Try.prog 21 [.int .i64] [.val (.sl iK)] noG (fun _ => True) (fun (b, _) => (numF b, ())) := fn_numbers.frz
noncomputable def soNumbers : Nat × Eng.Spec := (21, fnSpec [.int .i64] [.val (.sl iK)] (fun _ => True) (fun (b, _) => (numF b, ())))
noncomputable def jno (d : List Int) (n : Int) (o : List (Fp × Fp)) (q : List Int) (ds : List Dl) : List (Fp × Fp) × Int := opq (joinF d n o q ds)
theorem fo_join : FnOk Try.prog 29 [setK, .sl iK, .sl dealK] [.val (.sl pt1), .val iK] noG preJoin (fun ((d, _, n, o), q, ds, _) => ((jno d n o q ds).1, (jno d n o q ds).2, ())) := fn_join.out fun ((d, _, n, o), q, ds, _) => by show ((jno d n o q ds).1, (jno d n o q ds).2, ()) = ((joinF d n o q ds).1, (joinF d n o q ds).2, ()); rw [jno, opq_eq]
noncomputable def soJoin : Nat × Eng.Spec := (29, fnSpec [setK, .sl iK, .sl dealK] [.val (.sl pt1), .val iK] preJoin (fun ((d, _, n, o), q, ds, _) => ((jno d n o q ds).1, (jno d n o q ds).2, ())))
/-- The first deal of a dealer. -/
theorem dpub_app {A B : List Dl} {x : Int} {P : List (Fp × Fp)} (h1 : ∀ e ∈ A, e.1 = x → e.2 = P) (h2 : ∃ e ∈ A, e.1 = x) : 0 ≤ dIx (A ++ B) x ∧ dPub (A ++ B) x = P := by
  obtain ⟨e, he, hx⟩ := h2
  have hlt : (A ++ B).findIdx (fun d : Dl => d.1 == x) < A.length := by
    have h := List.findIdx_lt_length_of_exists (xs := A) (p := fun d : Dl => d.1 == x) ⟨e, he, by simpa using hx⟩
    rw [List.findIdx_append, if_pos h]; exact h
  have hlt2 : (A ++ B).findIdx (fun d : Dl => d.1 == x) < (A ++ B).length := by rw [List.length_append]; omega
  have hi : dIx (A ++ B) x = ((A ++ B).findIdx (fun d : Dl => d.1 == x) : Nat) := by rw [dIx, opq_eq, idxP, if_pos hlt2]
  refine ⟨by rw [hi]; omega, ?_⟩
  have hg := List.findIdx_getElem (p := fun d : Dl => d.1 == x) (xs := A ++ B) (w := hlt2)
  rw [dPub, hi, Int.toNat_natCast, List.getD_eq_getElem?_getD, List.getElem?_eq_getElem hlt2, Option.getD_some]
  have hm : (A ++ B)[(A ++ B).findIdx (fun d : Dl => d.1 == x)] = A[(A ++ B).findIdx (fun d : Dl => d.1 == x)] := List.getElem_append_left hlt
  rw [hm] at hg ⊢
  exact h1 _ (List.getElem_mem hlt) (by simpa using hg)
/-- 1 to n. -/
def dn (n : Int) : List Int := (List.range n.toNat).map fun t : Nat => (t : Int) + 1
theorem and3 (n : Int) : 0 ≤ bitOp .and .i64 n 3 ∧ bitOp .and .i64 n 3 ≤ 3 := by
  have h : ((BitVec.ofInt 64 n &&& BitVec.ofInt 64 3 : BitVec 64).toNat) ≤ 3 := by
    rw [BitVec.toNat_and]
    exact Nat.and_le_right
  have e : bitOp .and .i64 n 3 = (((BitVec.ofInt 64 n &&& BitVec.ofInt 64 3 : BitVec 64).toNat : Nat) : Int) := by
    show IntKind.i64.wrap (((BitVec.ofInt 64 n &&& BitVec.ofInt 64 3 : BitVec 64).toNat : Nat) : Int) = _
    exact wrap_i64' (by omega) (by omega)
  rw [e]; omega
theorem and1023 (n : Int) : 0 ≤ bitOp .and .i64 n 1023 ∧ bitOp .and .i64 n 1023 ≤ 1023 := by
  have h : ((BitVec.ofInt 64 n &&& BitVec.ofInt 64 1023 : BitVec 64).toNat) ≤ 1023 := by
    rw [BitVec.toNat_and]
    exact Nat.and_le_right
  have e : bitOp .and .i64 n 1023 = (((BitVec.ofInt 64 n &&& BitVec.ofInt 64 1023 : BitVec 64).toNat : Nat) : Int) := by
    show IntKind.i64.wrap (((BitVec.ofInt 64 n &&& BitVec.ofInt 64 1023 : BitVec 64).toNat : Nat) : Int) = _
    exact wrap_i64' (by omega) (by omega)
  rw [e]; omega
theorem ent_orders : enters Try.prog 5 Try.f5 := enters_mk (by kernel_rfl) (by kernel_rfl) (by kernel_rfl)
abbrev preOrders : HL [iK, iK, bsl, iK] → Prop := fun (n, need, b, turn, _) => preI n ∧ preI need ∧ preB b ∧ preI turn
noncomputable def orA (b : List Int) (tn : Int) (g : Int × Int) : St := mkSt Try.f5.ntmps 96 [(0, sI .i64 g.1), (1, sI .i64 g.2), (2, .is (.one (.ro (.int .u8) b))), (3, sI .i64 tn)] []
noncomputable def orB (b : List Int) (tn n need : Int) (d : List Int) : St := mkSt Try.f5.ntmps 152 [(0, sI .i64 n), (1, sI .i64 need), (2, .is (.one (.ro (.int .u8) b))), (3, sI .i64 tn), (9, .is (.one (.ro iK d)))] []
noncomputable def mkD (b : List Int) (need x : Int) : Dl := (x, cmt (mdP b x need.toNat))
noncomputable def smP (b : List Int) (need : Int) (d : List Int) : Nat → List (Fp × Fp)
  | 0 => []
  | k + 1 => plusF (smP b need d k) (mkD b need (d.getD k 0)).2
theorem mdP_len (b : List Int) (no : Int) (n : Nat) : (mdP b no n).length = n := by rw [mdP]; simp
theorem mkD_len (b : List Int) (need x : Int) : (mkD b need x).2.length = need.toNat := by show (cmt _).length = _; rw [cmt, List.length_map, mdP_len]
theorem smP_len (b : List Int) (need : Int) (d : List Int) : ∀ k, (smP b need d k).length ≤ need.toNat
  | 0 => Nat.zero_le _
  | k + 1 => by
    show (plusF _ _).length ≤ _
    rw [plusF, plusK, List.length_map, List.length_range, mkD_len]
    have := smP_len b need d k
    omega
abbrev G5 : Type := Int × (Nat × List Dl) × (Nat × List (Fp × Fp))
noncomputable def orI (b : List Int) (tn n need : Int) (d : List Int) (g : G5) : St := mkSt Try.f5.ntmps 256 [(0, sI .i64 n), (1, sI .i64 need), (2, .is (.one (.ro (.int .u8) b))), (3, sI .i64 tn), (9, .is (.one (.ro iK d))), (10, .is (.one (.ptr 184 0))), (11, .is (.one (.sl 200 0 0 g.2.1.1 2))), (12, .is (.one (.sl 216 0 0 g.2.2.1 12))), (48, .is (.one (.ro iK d))), (49, sI .i64 d.length), (50, sI .i64 g.1)] [(216, [.row pt1 g.2.2.1 g.2.2.2]), (200, [.row dealK g.2.1.1 g.2.1.2]), (184, [.ro iK d, .ro iK d, .v (.int .i64 need), .v (.slice none 0 0)])]
noncomputable def orC (b : List Int) (tn n need : Int) (d : List Int) (g : G5) (x : Int) (c : List (Fp × Fp)) : St := mkSt Try.f5.ntmps 312 [(0, sI .i64 n), (1, sI .i64 need), (2, .is (.one (.ro (.int .u8) b))), (3, sI .i64 tn), (9, .is (.one (.ro iK d))), (10, .is (.one (.ptr 184 0))), (11, .is (.one (.sl 200 0 0 g.2.1.1 2))), (12, .is (.one (.sl 216 0 0 g.2.2.1 12))), (14, sI .i64 x), (15, .is (.one (.ro pt1 c))), (48, .is (.one (.ro iK d))), (49, sI .i64 d.length), (50, sI .i64 g.1)] [(216, [.row pt1 g.2.2.1 g.2.2.2]), (200, [.row dealK g.2.1.1 g.2.1.2]), (184, [.ro iK d, .ro iK d, .v (.int .i64 need), .v (.slice none 0 0)])]
noncomputable def orD (b : List Int) (n need : Int) (d : List Int) (m : Nat) (ds : List Dl) (m2 : Nat) (l : List (Fp × Fp)) (u : Int) : St := mkSt Try.f5.ntmps 296 [(0, sI .i64 n), (1, sI .i64 need), (2, .is (.one (.ro (.int .u8) b))), (3, sI .i64 u), (9, .is (.one (.ro iK d))), (10, .is (.one (.ptr 184 0))), (11, .is (.one (.sl 200 0 0 m 2))), (12, .is (.one (.sl 216 0 0 m2 12)))] [(216, [.row pt1 m2 l]), (200, [.row dealK m ds]), (184, [.ro iK d, .ro iK d, .v (.int .i64 need), .v (.slice none 0 0)])]
noncomputable def orE (b : List Int) (n need : Int) (d : List Int) (m : Nat) (ds : List Dl) (m2 : Nat) (l : List (Fp × Fp)) (u : Int) (g : Nat × List Dl) : St := mkSt Try.f5.ntmps 376 [(0, sI .i64 n), (1, sI .i64 need), (2, .is (.one (.ro (.int .u8) b))), (3, sI .i64 u), (9, .is (.one (.ro iK d))), (10, .is (.one (.ptr 184 0))), (11, .is (.one (.sl 200 0 0 m 2))), (12, .is (.one (.sl 216 0 0 m2 12))), (16, .is (.one (.sl 360 0 0 g.1 2)))] [(360, [.row dealK g.1 g.2]), (216, [.row pt1 m2 l]), (200, [.row dealK m ds]), (184, [.ro iK d, .ro iK d, .v (.int .i64 need), .v (.slice none 0 0)])]
noncomputable def orF (need : Int) (d : List Int) (m : Nat) (ds : List Dl) (m2 : Nat) (l : List (Fp × Fp)) (g : Nat × List Dl) : St := mkSt Try.f5.ntmps 456 [(9, .is (.one (.ro iK d))), (10, .is (.one (.ptr 184 0))), (11, .is (.one (.sl 200 0 0 m 2))), (12, .is (.one (.sl 216 0 0 m2 12))), (16, .is (.one (.sl 440 0 0 g.1 2)))] [(440, [.row dealK g.1 g.2]), (216, [.row pt1 m2 l]), (200, [.row dealK m ds]), (184, [.ro iK d, .ro iK d, .v (.int .i64 need), .v (.slice none 0 0)])]
theorem join_of {b : List Int} {need : Int} {d : List Int} {ds : List Dl} (hr : risF 0 d = true) (hl : lst d [] ≤ (d.length : Int)) (he : 0 ≤ need) (hP : ∀ x ∈ d, 0 ≤ dIx ds x ∧ dPub ds x = (mkD b need x).2) : jno d need [] d ds = (smP b need d d.length, 0) := by
  have ht : tknF d [] d = (d, [], 0) := by rw [tknF, if_pos ⟨hr, hl⟩, if_pos (show ([] : List (Fp × Fp)).length = 0 from rfl)]
  have hS : ∀ k, k ≤ d.length → jS ds d [] k = smP b need d k := by
    intro k
    induction k with
    | zero => intro _; rfl
    | succ k ih =>
      intro hk
      have hm : d.getD k 0 ∈ d := by
        rw [List.getD_eq_getElem?_getD, List.getElem?_eq_getElem hk, Option.getD_some]
        exact List.getElem_mem _
      show plusF (jS ds d [] k) (jW [] k (dPub ds (d.getD k 0))) = plusF (smP b need d k) _
      rw [ih (by omega), jW, if_pos (show ([] : List Fr).length = 0 from rfl), (hP _ hm).2]
  rw [jno, opq_eq, joinF, ht, joinT, if_pos rfl, if_pos ?_, hS _ (Nat.le_refl _)]
  refine List.all_eq_true.2 fun x hx => ?_
  obtain ⟨h1, h2⟩ := hP x hx
  rw [dOk, h2, mkD_len, decide_eq_true h1, decide_eq_true (by omega)]; rfl
theorem dn_ok {n : Int} (h1 : 1 ≤ n) (h4 : n ≤ 4) : risF 0 (dn n) = true ∧ lst (dn n) [] ≤ ((dn n).length : Int) := by
  have h : n = 1 ∨ n = 2 ∨ n = 3 ∨ n = 4 := by omega
  rcases h with rfl | rfl | rfl | rfl <;> decide
noncomputable def orJ (b : List Int) (need : Int) (d : List Int) (g : G5) : Prop := ∃ k : Nat, k ≤ d.length ∧ g.1 = (k : Int) ∧ g.2.1.2 = (d.take k).map (mkD b need) ∧ g.2.1.1 = k ∧ g.2.2.2 = smP b need d k ∧ g.2.2.1 = g.2.2.2.length
noncomputable def orO (b : List Int) (need : Int) (d : List Int) (g : G5) : Prop := g.2.1.2 = d.map (mkD b need) ∧ g.2.1.1 = d.length ∧ g.2.2.2 = smP b need d d.length ∧ g.2.2.1 = g.2.2.2.length
theorem fn_orders : FnOk Try.prog 5 [iK, iK, bsl, iK] [.val .bool] noG preOrders (fun _ => (true, ())) := by
  have hsp : SpecsOk Try.prog (sps [spHead, soNumbers, spMade, soCommit, spPlus, soJoin, soWrite, ref01.spSame]) := sps_cons (fnSpec_ok fn_head) (sps_cons (fnSpec_ok fo_numbers) (sps_cons (fnSpec_ok fn_made) (sps_cons (fnSpec_ok fo_commit) (sps_cons (fnSpec_ok fn_plus) (sps_cons (fnSpec_ok fo_join) (sps_cons (fnSpec_ok fo_write) (sps_cons (fnSpec_ok ref01.fn_same) sps_nil)))))))
  refine fn_of_tr (sp := sps [spHead, soNumbers, spMade, soCommit, spPlus, soJoin, soWrite, ref01.spSame]) ent_orders (by decide) (by decide) (by kernel_rfl) ?_
  rintro w M0 ⟨n, need, b, tn, ⟨⟩⟩
  revert n need b tn
  intro (n : Int) (need : Int) (b : List Int) (tn : Int) _ hp
  obtain ⟨hn, hne, ⟨hb, hl⟩, htn⟩ := hp
  show Tr _ _ _ _ _ _ _
  refine tr_cutF hsp mixed 9 (fun σ => (rdS iK 0 σ, rdS iK 1 σ)) (orA b tn) (fun g => b.length ≤ 100 ∧ 1 ≤ g.1 ∧ g.1 ≤ 4 ∧ 1 ≤ g.2 ∧ g.2 ≤ g.1) ?_ ?_
  · refine vcx (X := (True ∧ ((!true) = true → (false, ()) = (true, ())) ∧ ((!true) = false → (decide ((↑b.length : Int) > (100 : Int)) = true → (true, ()) = (true, ())) ∧ (decide ((↑b.length : Int) > (100 : Int)) = false → (decide (IntKind.i64.wrap ((1 : Int) + bitOp BinOp.and IntKind.i64 need (3 : Int)) > IntKind.i64.wrap ((1 : Int) + bitOp BinOp.and IntKind.i64 n (3 : Int))) = true → (orA b tn (IntKind.i64.wrap ((1 : Int) + bitOp BinOp.and IntKind.i64 n (3 : Int)), IntKind.i64.wrap ((1 : Int) + bitOp BinOp.and IntKind.i64 n (3 : Int)))).triv (b.length ≤ (100 : Nat) ∧ (1 : Car iK) ≤ IntKind.i64.wrap ((1 : Int) + bitOp BinOp.and IntKind.i64 n (3 : Int)) ∧ IntKind.i64.wrap ((1 : Int) + bitOp BinOp.and IntKind.i64 n (3 : Int)) ≤ (4 : Car iK) ∧ (1 : Car iK) ≤ IntKind.i64.wrap ((1 : Int) + bitOp BinOp.and IntKind.i64 n (3 : Int)) ∧ IntKind.i64.wrap ((1 : Int) + bitOp BinOp.and IntKind.i64 n (3 : Int)) ≤ IntKind.i64.wrap ((1 : Int) + bitOp BinOp.and IntKind.i64 n (3 : Int)))) ∧ (decide (IntKind.i64.wrap ((1 : Int) + bitOp BinOp.and IntKind.i64 need (3 : Int)) > IntKind.i64.wrap ((1 : Int) + bitOp BinOp.and IntKind.i64 n (3 : Int))) = false → (orA b tn (IntKind.i64.wrap ((1 : Int) + bitOp BinOp.and IntKind.i64 n (3 : Int)), IntKind.i64.wrap ((1 : Int) + bitOp BinOp.and IntKind.i64 need (3 : Int)))).triv (b.length ≤ (100 : Nat) ∧ (1 : Car iK) ≤ IntKind.i64.wrap ((1 : Int) + bitOp BinOp.and IntKind.i64 n (3 : Int)) ∧ IntKind.i64.wrap ((1 : Int) + bitOp BinOp.and IntKind.i64 n (3 : Int)) ≤ (4 : Car iK) ∧ (1 : Car iK) ≤ IntKind.i64.wrap ((1 : Int) + bitOp BinOp.and IntKind.i64 need (3 : Int)) ∧ IntKind.i64.wrap ((1 : Int) + bitOp BinOp.and IntKind.i64 need (3 : Int)) ≤ IntKind.i64.wrap ((1 : Int) + bitOp BinOp.and IntKind.i64 n (3 : Int)))))))) (by kernel_rfl) ?_
    obtain ⟨a0, a1⟩ := and3 n
    obtain ⟨c0, c1⟩ := and3 need
    rw [wrap_i64' (show -9223372036854775808 ≤ 1 + bitOp BinOp.and IntKind.i64 n 3 by omega) (by omega), wrap_i64' (show -9223372036854775808 ≤ 1 + bitOp BinOp.and IntKind.i64 need 3 by omega) (by omega)]
    generalize bitOp BinOp.and IntKind.i64 n 3 = u at *
    generalize bitOp BinOp.and IntKind.i64 need 3 = v at *
    refine ⟨trivial, fun h => absurd h (by decide), fun _ => ⟨fun _ => rfl, fun h => ⟨fun h1 => triv_intro ⟨?_, ?_⟩, fun h1 => triv_intro ⟨?_, ?_⟩⟩⟩⟩
    · have := of_decide_eq_false h; omega
    · exact ⟨show 1 ≤ 1 + u by omega, show 1 + u ≤ 4 by omega, show 1 ≤ 1 + u by omega, show 1 + u ≤ 1 + u by omega⟩
    · have := of_decide_eq_false h; omega
    · have h1 := of_decide_eq_false h1
      exact ⟨show 1 ≤ 1 + u by omega, show 1 + u ≤ 4 by omega, show 1 ≤ 1 + v by omega, show 1 + v ≤ 1 + u by omega⟩
  rintro ⟨n, need⟩ hK
  revert n need
  intro (n : Int) (need : Int) ⟨hb1, hn1, hn4, he1, hen⟩
  have hb1 : b.length ≤ 100 := hb1
  have hn1 : 1 ≤ n := hn1
  have hn4 : n ≤ 4 := hn4
  have he1 : 1 ≤ need := he1
  have hen : need ≤ n := hen
  refine tr_cutF hsp mixed 1 (fun σ => rdO iK 9 σ) (orB b tn n need) (fun d => d = dn n) ?_ ?_
  · refine vcx (X := ((0 : Int) ≤ IntKind.u64.wrap (IntKind.i64.wrap (n + (1 : Int))) ∧ True ∧ (orB b tn n need (numF (IntKind.i64.wrap (IntKind.i64.wrap ((1 : Int) * (2 : Int) ^ min (IntKind.u64.wrap (IntKind.i64.wrap (n + (1 : Int)))).toNat IntKind.i64.bits) - (2 : Int))), ()).fst).triv (numF (IntKind.i64.wrap (IntKind.i64.wrap ((1 : Int) * (2 : Int) ^ min (IntKind.u64.wrap (IntKind.i64.wrap (n + (1 : Int)))).toNat IntKind.i64.bits) - (2 : Int))) = dn n))) (by kernel_rfl) ?_
    have h4 : n = 1 ∨ n = 2 ∨ n = 3 ∨ n = 4 := by omega
    rcases h4 with rfl | rfl | rfl | rfl <;> exact ⟨by decide, trivial, triv_intro (by decide +kernel)⟩
  intro (d : List Int) (hd : d = dn n)
  have hdl : d.length = n.toNat := by rw [hd, dn]; simp
  refine tr_cut hsp mixed 4 (orI b tn n need d (0, (0, []), (0, []))) True ?_ (fun _ => ?_)
  · refine vcx (X := ((orI b tn n need d ((0 : Int), ((0 : Nat), []), (0 : Nat), [])).triv True)) (by kernel_rfl) ?_
    exact triv_intro trivial
  refine tr_whileT (fun σ => [(200, rdI 11 σ), (216, rdI 12 σ)]) (fun σ => (rdS iK 50 σ, (rdL 11 σ, rdR dealK 200 σ), (rdL 12 σ, rdR pt1 216 σ))) (orI b tn n need d) (orJ b need d) (fun g => d.length - g.1.toNat)
    (fun σ => (rdS iK 50 σ, (rdL 11 σ, rdR dealK 200 σ), (rdL 12 σ, rdR pt1 216 σ))) (orI b tn n need d) (orO b need d) (0, (0, []), (0, [])) (c := nthC (codeOf Try.f5) 14) (by kernel_rfl) (by kernel_rfl) (le_of_proj (by kernel_rfl) (by kernel_rfl) ?_) ?_ ?_
  · exact ⟨0, Nat.zero_le _, rfl, rfl, rfl, rfl, rfl⟩
  · rintro ⟨i, ⟨m, ds⟩, ⟨m2, l⟩⟩ hj
    revert i ds l
    intro (i : Int) (ds : List Dl) (l : List (Fp × Fp)) ⟨k, hk, ei, eds, em, el, em2⟩
    have ei : i = (k : Int) := ei
    have kds : ds = (d.take k).map (mkD b need) := eds
    have km : m = k := em
    have kl : l = smP b need d k := el
    have km2 : m2 = l.length := em2
    subst ei
    refine tr_cut hsp mixed 2 (orI b tn n need d ((k : Int), (m, ds), (m2, l))) (k < d.length) ?_ (fun hlt => ?_)
    · refine vcx (X := ((decide ((↑k : Int) < (↑d.length : Int)) = true → (orI b tn n need d ((↑k : Int), (m, ds), m2, l)).triv (k < d.length)) ∧ (decide ((↑k : Int) < (↑d.length : Int)) = false → (orI b tn n need d ((↑k : Int), (m, ds), m2, l)).triv (orO b need d ((↑k : Int), (m, ds), m2, l))))) (by kernel_rfl) ?_
      refine ⟨fun h => triv_intro (by have := dec_lt h; omega), fun h => triv_intro ?_⟩
      have : k = d.length := by have := dec_ge h; omega
      exact ⟨by rw [kds, this, List.take_length], by rw [km, this], by rw [kl, this], km2⟩
    refine tr_block (c := nthC (loopOf (nthC (codeOf Try.f5) 14)) 2) (by kernel_rfl) (by kernel_rfl) ?_
    refine tr_cutF hsp mixed 2 (fun σ => (rdS iK 14 σ, rdO pt1 15 σ)) (fun y => orC b tn n need d ((k : Int), (m, ds), (m2, l)) y.1 y.2) (fun y => y = mkD b need (d.getD k 0)) ?_ ?_
    · refine vcx (X := (((0 : Int) ≤ (↑k : Int) ∧ (↑k : Int) < (↑d.length : Int)) ∧ (↑k : Int).toNat < d.length ∧ preMade2 (b, d.getD (↑k : Int).toNat (0 : Int), need, ()) ∧ (0 : Nat) + (mdP b (d.getD (↑k : Int).toNat (0 : Int)) need.toNat).length ≤ (mdP b (d.getD (↑k : Int).toNat (0 : Int)) need.toNat).length ∧ preCommit (List.take (mdP b (d.getD (↑k : Int).toNat (0 : Int)) need.toNat).length (mdP b (d.getD (↑k : Int).toNat (0 : Int)) need.toNat), ()) ∧ (orC b tn n need d ((↑k : Int), (m, ds), m2, l) (d.getD (↑k : Int).toNat (0 : Int), cmt (List.take (mdP b (d.getD (↑k : Int).toNat (0 : Int)) need.toNat).length (mdP b (d.getD (↑k : Int).toNat (0 : Int)) need.toNat))).fst (d.getD (↑k : Int).toNat (0 : Int), cmt (List.take (mdP b (d.getD (↑k : Int).toNat (0 : Int)) need.toNat).length (mdP b (d.getD (↑k : Int).toNat (0 : Int)) need.toNat))).snd).triv ((d.getD (↑k : Int).toNat (0 : Int), cmt (List.take (mdP b (d.getD (↑k : Int).toNat (0 : Int)) need.toNat).length (mdP b (d.getD (↑k : Int).toNat (0 : Int)) need.toNat))) = mkD b need (d.getD k (0 : Int))))) (by kernel_rfl) ?_
      rw [Int.toNat_natCast, List.take_length]
      refine ⟨⟨by omega, by omega⟩, hlt, ⟨⟨hb, by show b.length ≤ _; omega⟩, by show 0 ≤ need; omega, by show need ≤ 1000; omega⟩, by omega, ?_, triv_intro rfl⟩
      show (mdP b (d.getD k 0) need.toNat).length < _
      rw [mdP_len]; omega
    rintro ⟨x, c⟩ hy
    revert x c
    intro (x : Int) (c : List (Fp × Fp)) hy
    have hcl : c.length = need.toNat := by
      have : c = cmt (mdP b (d.getD k 0) need.toNat) := congrArg Prod.snd hy
      rw [this, cmt, List.length_map, mdP_len]
    refine tr_cutSF hsp mixed 2 (fun σ => [(200, rdI 11 σ), (216, rdI 12 σ)]) (fun σ => (rdS iK 50 σ, (rdL 11 σ, rdR dealK 200 σ), (rdL 12 σ, rdR pt1 216 σ))) (orI b tn n need d) (fun g => g.1 = (k : Int) ∧ orJ b need d (((k + 1 : Nat) : Int), g.2)) ?_ ?_
    · refine vcx (X := ((0 : Nat) + (1 : Nat) ≤ (1 : Nat) ∧ m ≤ m ∧ (m + (1 : Nat)) * (32 : Nat) ≤ (140737488355328 : Nat) ∧ m + (1 : Nat) ≤ (4611686018427387904 : Nat) ∧ (0 : Nat) + m2 ≤ m2 ∧ prePlus (List.take m2 l, c, ()) ∧ (orI b tn n need d ((↑k : Int), (m + (1 : Nat), List.take m ds ++ List.take (1 : Nat) [(x, c)]), (plusF (List.take m2 l) c).length, plusF (List.take m2 l) c)).triv ((↑k : Int) = (↑k : Int) ∧ orJ b need d ((↑(k + (1 : Nat)) : Int), (m + (1 : Nat), List.take m ds ++ List.take (1 : Nat) [(x, c)]), (plusF (List.take m2 l) c).length, plusF (List.take m2 l) c)))) (by kernel_rfl) ?_
      have hml : m = ds.length := by rw [km, kds, List.length_map, List.length_take]; omega
      rw [km2, hml, List.take_length, List.take_length]
      have hll := smP_len b need d k
      rw [← kl] at hll
      refine ⟨by omega, by omega, by omega, by omega, by omega, ⟨by show l.length < _; omega, by show c.length < _; omega⟩, triv_intro ⟨rfl, k + 1, hlt, rfl, ?_, by show ds.length + 1 = k + 1; omega, ?_, rfl⟩⟩
      · show ds ++ [(x, c)] = _
        rw [kds, hy, List.take_succ_eq_append_getElem hlt, List.map_append, List.getD_eq_getElem?_getD, List.getElem?_eq_getElem hlt]; rfl
      · show plusF l c = plusF (smP b need d k) (mkD b need (d.getD k 0)).2
        rw [← hy, kl]
    rintro ⟨i, ⟨m', ds'⟩, ⟨m2', l'⟩⟩ hj
    revert i ds' l'
    intro (i : Int) (ds' : List Dl) (l' : List (Fp × Fp)) ⟨ei, hj⟩
    have ei : i = (k : Int) := ei
    subst ei
    refine tr_nil ?_
    refine tr_vc hsp mixed _ _ ?_
    refine vcx (X := ((orI b tn n need d (IntKind.i64.wrap ((↑k : Int) + (1 : Int)), (m', ds'), m2', l')).triv (orJ b need d (IntKind.i64.wrap ((↑k : Int) + (1 : Int)), (m', ds'), m2', l') ∧ d.length - (IntKind.i64.wrap ((↑k : Int) + (1 : Int))).toNat < d.length - (↑k : Int).toNat))) (by kernel_rfl) ?_
    rw [wrap_succ (by omega)]
    exact triv_intro ⟨hj, by rw [Int.toNat_natCast, Int.toNat_natCast]; omega⟩
  rintro ⟨i, ⟨m, ds⟩, ⟨m2, l⟩⟩ hj
  revert i ds l
  intro (i : Int) (ds : List Dl) (l : List (Fp × Fp)) ⟨eds, em, el, em2⟩
  refine tr_cutF hsp mixed 1 (fun σ => rdS iK 3 σ) (orD b n need d m ds m2 l) (fun u => 0 ≤ u ∧ u < n) ?_ ?_
  · refine vcx (X := ((n = (0 : Int) → False) ∧ (orD b n need d m ds m2 l ((bitOp BinOp.and IntKind.i64 tn (1023 : Int)).tmod n)).triv ((0 : Car iK) ≤ (bitOp BinOp.and IntKind.i64 tn (1023 : Int)).tmod n ∧ (bitOp BinOp.and IntKind.i64 tn (1023 : Int)).tmod n < n))) (by kernel_rfl) ?_
    obtain ⟨a0, a1⟩ := and1023 tn
    have h0 : (bitOp BinOp.and IntKind.i64 tn 1023).tmod n = (bitOp BinOp.and IntKind.i64 tn 1023) % n := Int.tmod_eq_emod_of_nonneg a0
    rw [h0]
    exact ⟨fun h => by omega, triv_intro ⟨Int.emod_nonneg _ (by omega), Int.emod_lt_of_pos _ (by omega)⟩⟩
  intro (u : Int) ⟨hu0, hun⟩
  have hu0 : 0 ≤ u := hu0
  have hun : u < n := hun
  refine tr_cutF hsp mixed 1 (fun σ => (rdL 16 σ, rdR dealK 360 σ)) (orE b n need d m ds m2 l u) (fun g => g.2 = ds.drop u.toNat ++ ds.take u.toNat ∧ g.1 = m) ?_ ?_
  · refine vcx (X := (((0 : Int) ≤ u ∧ u ≤ (↑m : Int)) ∧ u.toNat + ((↑m : Int) - u).toNat ≤ m ∧ (0 : Nat) ≤ (0 : Nat) ∧ ((0 : Nat) + ((↑m : Int) - u).toNat) * (32 : Nat) ≤ (140737488355328 : Nat) ∧ (0 : Nat) + ((↑m : Int) - u).toNat ≤ (4611686018427387904 : Nat) ∧ ((0 : Int) ≤ u ∧ u ≤ (↑m : Int)) ∧ (0 : Nat) + (u - (0 : Int)).toNat ≤ m ∧ (0 : Nat) + ((↑m : Int) - u).toNat ≤ (0 : Nat) + ((↑m : Int) - u).toNat ∧ ((0 : Nat) + ((↑m : Int) - u).toNat + (u - (0 : Int)).toNat) * (32 : Nat) ≤ (140737488355328 : Nat) ∧ (0 : Nat) + ((↑m : Int) - u).toNat + (u - (0 : Int)).toNat ≤ (4611686018427387904 : Nat) ∧ (orE b n need d m ds m2 l u ((0 : Nat) + ((↑m : Int) - u).toNat + (u - (0 : Int)).toNat, List.take ((0 : Nat) + ((↑m : Int) - u).toNat) (List.take (0 : Nat) [] ++ List.take ((↑m : Int) - u).toNat (List.drop u.toNat ds)) ++ List.take (u - (0 : Int)).toNat ds)).triv (List.take ((0 : Nat) + ((↑m : Int) - u).toNat) (List.take (0 : Nat) [] ++ List.take ((↑m : Int) - u).toNat (List.drop u.toNat ds)) ++ List.take (u - (0 : Int)).toNat ds = List.drop u.toNat ds ++ List.take u.toNat ds ∧ (0 : Nat) + ((↑m : Int) - u).toNat + (u - (0 : Int)).toNat = m))) (by kernel_rfl) ?_
    have eds : ds.length = m := by
      have h1 : ds = d.map (mkD b need) := eds
      have h2 : m = d.length := em
      rw [h1, List.length_map, h2]
    have hmn : (m : Int) = n := by have h2 : m = d.length := em; omega
    have e1 : List.take ((m : Int) - u).toNat (List.drop u.toNat ds) = List.drop u.toNat ds := List.take_of_length_le (by rw [List.length_drop]; omega)
    have e2 : List.take ((m : Int) - u).toNat (List.drop u.toNat ds) = List.drop u.toNat ds := e1
    rw [e1, List.take_zero, List.nil_append, Nat.zero_add, e1, show (u - 0).toNat = u.toNat by omega, Nat.zero_add]
    exact ⟨⟨hu0, by omega⟩, by omega, by omega, by omega, by omega, ⟨hu0, by omega⟩, by omega, by omega, by omega, by omega, triv_intro ⟨rfl, by omega⟩⟩
  rintro ⟨mo, os⟩ hK
  revert os
  intro (os : List Dl) ⟨hos, hmo⟩
  have hos : os = ds.drop u.toNat ++ ds.take u.toNat := hos
  have hmo : mo = m := hmo
  have eds : ds = d.map (mkD b need) := eds
  have em : m = d.length := em
  have el : l = smP b need d d.length := el
  have em2 : m2 = l.length := em2
  have hosl : os.length = mo := by
    rw [hos, List.length_append, List.length_drop, List.length_take, eds, List.length_map, ← em]; omega
  refine tr_cutF hsp mixed 1 (fun σ => (rdL 16 σ, rdR dealK 440 σ)) (orF need d m ds m2 l) (fun g => (∃ B, g.2 = os ++ B) ∧ g.1 = mo + 2 ∧ g.2.length = mo + 2) ?_ ?_
  · refine vcx (X := (preMade2 (b, (99 : Int), need, ()) ∧ (0 : Nat) + (mdP b (99 : Int) need.toNat).length ≤ (mdP b (99 : Int) need.toNat).length ∧ preCommit (List.take (mdP b (99 : Int) need.toNat).length (mdP b (99 : Int) need.toNat), ()) ∧ (0 : Nat) + (2 : Nat) ≤ (2 : Nat) ∧ mo ≤ mo ∧ (mo + (2 : Nat)) * (32 : Nat) ≤ (140737488355328 : Nat) ∧ mo + (2 : Nat) ≤ (4611686018427387904 : Nat) ∧ (orF need d m ds m2 l (mo + (2 : Nat), List.take mo os ++ List.take (2 : Nat) [((1 : Int), cmt (List.take (mdP b (99 : Int) need.toNat).length (mdP b (99 : Int) need.toNat))), ((9 : Int), [])])).triv ((∃ B, List.take mo os ++ List.take (2 : Nat) [((1 : Int), cmt (List.take (mdP b (99 : Int) need.toNat).length (mdP b (99 : Int) need.toNat))), ((9 : Int), [])] = os ++ B) ∧ mo + (2 : Nat) = mo + (2 : Nat) ∧ (List.take mo os ++ List.take (2 : Nat) [((1 : Int), cmt (List.take (mdP b (99 : Int) need.toNat).length (mdP b (99 : Int) need.toNat))), ((9 : Int), [])]).length = mo + (2 : Nat)))) (by kernel_rfl) ?_
    have hp : preMade2 (b, (99 : Int), need, ()) := ⟨⟨hb, by show b.length ≤ _; omega⟩, by show 0 ≤ need; omega, by show need ≤ 1000; omega⟩
    rw [List.take_length]
    refine ⟨hp, by omega, by show (mdP b 99 need.toNat).length < _; rw [mdP_len]; omega, by omega, by omega, by omega, by omega, triv_intro ⟨⟨_, by rw [← hosl, List.take_length]⟩, rfl, ?_⟩⟩
    show (List.take mo os ++ _).length = _
    rw [← hosl, List.take_length, List.length_append]; rfl
  rintro ⟨m3, o3⟩ hK
  revert o3
  intro (o3 : List Dl) ⟨⟨B, h3⟩, hm3, hl3⟩
  have h3 : o3 = os ++ B := h3
  have hm3 : m3 = mo + 2 := hm3
  have hl3 : o3.length = mo + 2 := hl3
  refine tr_vc hsp mixed _ _ ?_
  refine vcx (X := ((0 : Nat) + m ≤ m ∧ preJoin ((d, d, need, []), d, List.take m ds, ()) ∧ (0 : Nat) + m3 ≤ m3 ∧ preJoin ((d, d, need, []), d, List.take m3 o3, ()) ∧ (((jno d need [] d (List.take m ds)).snd == (0 : Int)) = true → (((jno d need [] d (List.take m3 o3)).snd == (0 : Int)) = true → preWrite ((jno d need [] d (List.take m ds)).fst, ()) ∧ preWrite ((jno d need [] d (List.take m3 o3)).fst, ()) ∧ (0 : Nat) + (wro (jno d need [] d (List.take m ds)).fst).length ≤ (wro (jno d need [] d (List.take m ds)).fst).length ∧ (0 : Nat) + (wro (jno d need [] d (List.take m3 o3)).fst).length ≤ (wro (jno d need [] d (List.take m3 o3)).fst).length ∧ ref01.preSame (List.take (wro (jno d need [] d (List.take m ds)).fst).length (wro (jno d need [] d (List.take m ds)).fst), List.take (wro (jno d need [] d (List.take m3 o3)).fst).length (wro (jno d need [] d (List.take m3 o3)).fst), ()) ∧ (ref01.sameF (List.take (wro (jno d need [] d (List.take m ds)).fst).length (wro (jno d need [] d (List.take m ds)).fst)) (List.take (wro (jno d need [] d (List.take m3 o3)).fst).length (wro (jno d need [] d (List.take m3 o3)).fst)) = true → preWrite ((jno d need [] d (List.take m ds)).fst, ()) ∧ (0 : Nat) + m2 ≤ m2 ∧ preWrite (List.take m2 l, ()) ∧ (0 : Nat) + (wro (jno d need [] d (List.take m ds)).fst).length ≤ (wro (jno d need [] d (List.take m ds)).fst).length ∧ (0 : Nat) + (wro (List.take m2 l)).length ≤ (wro (List.take m2 l)).length ∧ ref01.preSame (List.take (wro (jno d need [] d (List.take m ds)).fst).length (wro (jno d need [] d (List.take m ds)).fst), List.take (wro (List.take m2 l)).length (wro (List.take m2 l)), ()) ∧ (ref01.sameF (List.take (wro (jno d need [] d (List.take m ds)).fst).length (wro (jno d need [] d (List.take m ds)).fst)) (List.take (wro (List.take m2 l)).length (wro (List.take m2 l))), ()) = (true, ())) ∧ (ref01.sameF (List.take (wro (jno d need [] d (List.take m ds)).fst).length (wro (jno d need [] d (List.take m ds)).fst)) (List.take (wro (jno d need [] d (List.take m3 o3)).fst).length (wro (jno d need [] d (List.take m3 o3)).fst)) = false → (false, ()) = (true, ()))) ∧ (((jno d need [] d (List.take m3 o3)).snd == (0 : Int)) = false → (false, ()) = (true, ()))) ∧ (((jno d need [] d (List.take m ds)).snd == (0 : Int)) = false → (false, ()) = (true, ())))) (by kernel_rfl) ?_
  have edl : m = ds.length := by rw [eds, List.length_map, em]
  obtain ⟨hr, hlst⟩ := dn_ok hn1 hn4
  rw [← hd] at hr hlst
  have key : ∀ x ∈ d, ∀ L : List Dl, (∀ e ∈ L, e ∈ ds) → (∃ e ∈ L, e.1 = x) → ∀ B, 0 ≤ dIx (L ++ B) x ∧ dPub (L ++ B) x = (mkD b need x).2 := fun x hx L hL hE B => dpub_app (fun e he hex => by
    have := hL e he
    rw [eds] at this
    obtain ⟨y, hy, rfl⟩ := List.mem_map.1 this
    have hyx : y = x := hex
    rw [hyx]) hE
  have hmem : ∀ x ∈ d, ∃ e ∈ ds, e.1 = x := fun x hx => ⟨mkD b need x, by rw [eds]; exact List.mem_map.2 ⟨x, hx, rfl⟩, rfl⟩
  have j1 : jno d need [] d ds = (smP b need d d.length, 0) := join_of hr hlst (by omega) fun x hx => by
    have := key x hx ds (fun _ h => h) (hmem x hx) []
    rwa [List.append_nil] at this
  have j2 : jno d need [] d o3 = (smP b need d d.length, 0) := join_of hr hlst (by omega) fun x hx => by
    rw [h3]
    refine key x hx os (fun e he => ?_) ?_ B
    · rw [hos] at he
      rcases List.mem_append.1 he with h | h
      · exact List.mem_of_mem_drop h
      · exact List.mem_of_mem_take h
    · obtain ⟨e, he, hx⟩ := hmem x hx
      refine ⟨e, ?_, hx⟩
      rw [hos, List.mem_append]
      rw [← List.take_append_drop u.toNat ds] at he
      rcases List.mem_append.1 he with h | h
      · exact .inr h
      · exact .inl h
  rw [edl, List.take_length, show m3 = o3.length by omega, List.take_length, j1, j2, em2, List.take_length]
  have hw : ∀ ps : List (Fp × Fp), (wro ps).length = 48 * ps.length := fun ps => by rw [wro, opq_eq, wrF_len]
  have hsl := smP_len b need d d.length
  have hdl4 : d.length ≤ 4 := by omega
  rw [el] at em2 ⊢
  generalize smP b need d d.length = S at *
  have hpw : preWrite (S, ()) := by show S.length ≤ _; omega
  have hps : ref01.preSame (wro S, wro S, ()) := by show (wro S).length < _; rw [hw]; omega
  have hpj : ∀ L : List Dl, L.length ≤ 10 → preJoin ((d, d, need, []), d, L, ()) := fun L hL => ⟨by show 0 < _; omega, by show d.length < _; omega, by show L.length < _; omega, by show need < _; omega⟩
  have hsf : ref01.sameF (wro S) (wro S) = true := decide_eq_true rfl
  simp only [List.take_length, hsf]
  refine ⟨by omega, hpj _ (by omega), by omega, hpj _ (by omega), fun _ => ⟨fun _ => ⟨hpw, hpw, by omega, by omega, hps, fun _ => ⟨hpw, by omega, hpw, by omega, by omega, hps, trivial⟩, fun h => absurd h (by decide)⟩, fun h => (by cases h)⟩, fun h => (by cases h)⟩
noncomputable def spOrders : Nat × Eng.Spec := (5, fnSpec [iK, iK, bsl, iK] [.val .bool] preOrders (fun _ => (true, ())))
end Go.Proofs.Ytoflhakneklimaa.law22
/- Sums and products of polynomials. -/
namespace Go.Proofs.Ytoflhakneklimaa.poly
set_option maxRecDepth 100000
open Go Go.Eng Go.RowKit Cr Go.Proofs.Ytoflhakneklimaa
/-- The sum of two polynomials. -/
def psmM (p q : List Fr) : List Fr := (List.range (max p.length q.length)).map fun i => p.getD i 0 + q.getD i 0
theorem pevm_add {α : Type} (f g : α → Fr) (x : Fr) : ∀ l : List α, peval (l.map fun i => f i + g i) x = peval (l.map f) x + peval (l.map g) x
  | [] => by show (0 : Fr) = 0 + 0; rw [Rg.add_zero]
  | a :: l => by
    show peval (l.map fun i => f i + g i) x * x + (f a + g a) = peval (l.map f) x * x + f a + (peval (l.map g) x * x + g a)
    rw [pevm_add f g x l, Rg.add_mul, Rg.add_add_add]
theorem pevm_pad (x : Fr) : ∀ (n : Nat) (p : List Fr), p.length ≤ n → peval ((List.range n).map fun i => p.getD i 0) x = peval p x
  | 0, p, h => by
    have : p = [] := List.eq_nil_of_length_eq_zero (by omega)
    subst this; rfl
  | n + 1, p, h => by
    rw [List.range_succ_eq_map, List.map_cons, List.map_map]
    cases p with
    | nil =>
      have := pevm_pad x n [] (Nat.zero_le _)
      show peval ((List.range n).map fun i => ([] : List Fr).getD (i + 1) 0) x * x + 0 = 0
      have e : (fun i => ([] : List Fr).getD (i + 1) 0) = fun i => ([] : List Fr).getD i 0 := by funext i; rfl
      rw [e, this]
      show 0 * x + 0 = 0
      rw [Rg.zero_mul, Rg.add_zero]
    | cons a p =>
      have := pevm_pad x n p (by simpa using h)
      show peval ((List.range n).map fun i => p.getD i 0) x * x + a = peval p x * x + a
      rw [this]
theorem pat_psmM (p q : List Fr) (x : Int) : pat (psmM p q) x = pat p x + pat q x := by
  rw [pat_eq, pat_eq, pat_eq, psmM, pevm_add, pevm_pad _ _ p (by omega), pevm_pad _ _ q (by omega)]
theorem pevm_mul {α : Type} (f : α → Fr) (k x : Fr) : ∀ l : List α, peval (l.map fun i => f i * k) x = peval (l.map f) x * k
  | [] => by show (0 : Fr) = 0 * k; rw [Rg.zero_mul]
  | a :: l => by
    show peval (l.map fun i => f i * k) x * x + f a * k = (peval (l.map f) x * x + f a) * k
    rw [pevm_mul f k x l, Rg.add_mul, Rg.mul_assoc, Rg.mul_comm k x, ← Rg.mul_assoc]
/-- q + k X q, the first j steps. -/
def nxE (q : List Fr) (k : Fr) (j t : Nat) : Fr := q.getD t 0 + (if t = 0 then 0 else if t ≤ j then q.getD (t - 1) 0 * k else 0)
def nxK (q : List Fr) (k : Fr) (j : Nat) : List Fr := (List.range (q.length + 1)).map (nxE q k j)
theorem nxK_len (q : List Fr) (k : Fr) (j : Nat) : (nxK q k j).length = q.length + 1 := by simp [nxK]
theorem nxK_zero (q : List Fr) (k : Fr) : q ++ [0] = nxK q k 0 := by
  refine List.ext_getElem (by simp [nxK]) fun i h1 h2 => ?_
  have hi : i < q.length + 1 := by simpa using h1
  simp only [nxK, nxE, List.getElem_map, List.getElem_range]
  have e : (if i = 0 then (0 : Fr) else if i ≤ 0 then q.getD (i - 1) 0 * k else 0) = 0 := by
    by_cases h : i = 0
    · rw [if_pos h]
    · rw [if_neg h, if_neg (by omega)]
  rw [e, Rg.add_zero]
  by_cases h : i < q.length
  · rw [List.getElem_append_left h, List.getD_eq_getElem?_getD, List.getElem?_eq_getElem h]; rfl
  · rw [List.getElem_append_right (by omega), List.getD_eq_getElem?_getD, List.getElem?_eq_none (by omega)]; simp
theorem nxK_step {q : List Fr} {k : Fr} {j : Nat} (h : j < q.length) : (nxK q k j).set (j + 1) ((nxK q k j).getD (j + 1) 0 + q.getD j 0 * k) = nxK q k (j + 1) := by
  have e1 : (nxK q k j).getD (j + 1) 0 = q.getD (j + 1) 0 := by
    have hj : j + 1 < q.length + 1 := by omega
    rw [List.getD_eq_getElem?_getD, List.getElem?_eq_getElem (by rw [nxK_len]; exact hj), Option.getD_some]
    simp only [nxK, nxE, List.getElem_map, List.getElem_range]
    rw [if_neg (by omega), if_neg (by omega), Rg.add_zero]
  rw [e1]
  refine List.ext_getElem (by simp [nxK]) fun i h1 h2 => ?_
  rw [List.getElem_set]
  split
  · rename_i e
    subst e
    simp only [nxK, nxE, List.getElem_map, List.getElem_range]
    rw [if_neg (by omega), if_pos (Nat.le_refl _)]; rfl
  · rename_i e
    simp only [nxK, nxE, List.getElem_map, List.getElem_range]
    by_cases h0 : i = 0
    · rw [if_pos h0, if_pos h0]
    · rw [if_neg h0, if_neg h0]
      by_cases hij : i ≤ j
      · rw [if_pos hij, if_pos (by omega)]
      · rw [if_neg hij, if_neg (by omega)]
theorem nx_eval (q : List Fr) (k x : Fr) : peval (nxK q k q.length) x = peval q x * (1 + k * x) := by
  unfold nxK
  have e : (List.range (q.length + 1)).map (nxE q k q.length) = (List.range (q.length + 1)).map (fun t => q.getD t 0 + (if t = 0 then 0 else q.getD (t - 1) 0 * k)) := by
    refine List.map_congr_left fun t ht => ?_
    have := List.mem_range.1 ht
    unfold nxE
    by_cases h0 : t = 0
    · rw [if_pos h0, if_pos h0]
    · rw [if_neg h0, if_neg h0, if_pos (by omega)]
  rw [e, pevm_add, pevm_pad _ _ q (by omega)]
  have e2 : peval ((List.range (q.length + 1)).map fun t => if t = 0 then 0 else q.getD (t - 1) 0 * k) x = peval q x * k * x := by
    rw [List.range_succ_eq_map, List.map_cons, List.map_map]
    show peval ((List.range q.length).map fun t => q.getD t 0 * k) x * x + 0 = _
    rw [pevm_mul, pevm_pad _ _ q (Nat.le_refl _), Rg.add_zero]
  rw [e2, Rg.mul_add, Rg.mul_one, ← Rg.mul_assoc]
/-- p + q, the first j steps. -/
def asE (p q : List Fr) (j t : Nat) : Fr := p.getD t 0 + (if t < j then q.getD t 0 else 0)
def asK (p q : List Fr) (j : Nat) : List Fr := (List.range p.length).map (asE p q j)
theorem asK_len (p q : List Fr) (j : Nat) : (asK p q j).length = p.length := by simp [asK]
theorem asK_zero (p q : List Fr) : p = asK p q 0 := by
  refine List.ext_getElem (by simp [asK]) fun i h1 h2 => ?_
  simp only [asK, asE, List.getElem_map, List.getElem_range]
  rw [if_neg (by omega), Rg.add_zero, List.getD_eq_getElem?_getD, List.getElem?_eq_getElem h1]; rfl
theorem asK_step {p q : List Fr} {j : Nat} (h : j < p.length) : (asK p q j).set j ((asK p q j).getD j 0 + q.getD j 0) = asK p q (j + 1) := by
  have e1 : (asK p q j).getD j 0 = p.getD j 0 := by
    rw [List.getD_eq_getElem?_getD, List.getElem?_eq_getElem (by rw [asK_len]; exact h), Option.getD_some]
    simp only [asK, asE, List.getElem_map, List.getElem_range]
    rw [if_neg (by omega), Rg.add_zero]
  rw [e1]
  refine List.ext_getElem (by simp [asK]) fun i h1 h2 => ?_
  rw [List.getElem_set]
  split
  · rename_i e
    subst e
    simp only [asK, asE, List.getElem_map, List.getElem_range]
    rw [if_pos (by omega)]
  · rename_i e
    simp only [asK, asE, List.getElem_map, List.getElem_range]
    by_cases hij : i < j
    · rw [if_pos hij, if_pos (by omega)]
    · rw [if_neg hij, if_neg (by omega)]
theorem as_eval {p q : List Fr} (h : q.length ≤ p.length) (x : Fr) : peval (asK p q q.length) x = peval p x + peval q x := by
  unfold asK
  have e : (List.range p.length).map (asE p q q.length) = (List.range p.length).map (fun t => p.getD t 0 + q.getD t 0) := by
    refine List.map_congr_left fun t _ => ?_
    unfold asE
    by_cases h0 : t < q.length
    · rw [if_pos h0]
    · rw [if_neg h0, List.getD_eq_getElem?_getD (l := q), List.getElem?_eq_none (by omega)]; rfl
  rw [e, pevm_add, pevm_pad _ _ p (Nat.le_refl _), pevm_pad _ _ q h]
end Go.Proofs.Ytoflhakneklimaa.poly
/- deal, plainly: what is joined commits to the sum of the dealers' polynomials. -/
namespace Go.Proofs.Ytoflhakneklimaa.law22
set_option maxRecDepth 100000
open Go Go.Eng Go.RowKit Cr Go.Proofs.Ytoflhakneklimaa Go.Proofs.Ytoflhakneklimaa.law14 Go.Proofs.Ytoflhakneklimaa.poly Go.Proofs.Ytoflhakneklimaa.deal
theorem cmtM_get (p : List Fr) (i : Nat) : (cmt p).getD i (0, 0) = g1.gmul g1.gG (p.getD i 0) := by
  by_cases h : i < p.length
  · rw [cmt, getD_map _ h, List.getD_eq_getElem?_getD, List.getElem?_eq_getElem h]; rfl
  · rw [List.getD_eq_getElem?_getD, List.getElem?_eq_none (by rw [cmt, List.length_map]; omega), List.getD_eq_getElem?_getD, List.getElem?_eq_none (by omega)]
    show (0, 0) = g1.gmul g1.gG 0
    rw [g1.mul_zero g1.sub_G]
theorem plusM_cmt (p q : List Fr) : plusF (cmt p) (cmt q) = cmt (psmM p q) := by
  have hp : (cmt p).length = p.length := by rw [cmt, List.length_map]
  have hq : (cmt q).length = q.length := by rw [cmt, List.length_map]
  rw [plusF, plusK, hp, hq]
  conv => rhs; rw [cmt, psmM, List.map_map]
  refine List.map_congr_left fun i _ => ?_
  show plE1 (cmt p) (cmt q) q.length i = g1.gmul g1.gG (p.getD i 0 + q.getD i 0)
  rw [plE1, cmtM_get, cmtM_get]
  split
  · rw [g1.gadd_eq (g1.sub_gmul g1.sub_G _).1 (g1.sub_gmul g1.sub_G _).1, g1.mul_add g1.sub_G]
  · rename_i h
    have : q.getD i 0 = 0 := by rw [List.getD_eq_getElem?_getD, List.getElem?_eq_none (by omega)]; rfl
    rw [this, Rg.add_zero]

/-- A polynomial with a weight. -/
noncomputable def wP (ws : List Fr) (k : Nat) (p : List Fr) : List Fr := if ws.length = 0 then p else p.map fun a => a * ws.getD k 0
/-- The sum of the polynomials of the first k dealers that are taken. -/
noncomputable def jP (pl : Int → List Fr) (ws : List Fr) (tk : List Int) : Nat → List Fr
  | 0 => []
  | k + 1 => psmM (jP pl ws tk k) (wP ws k (pl (tk.getD k 0)))
theorem wP_len (ws : List Fr) (k : Nat) (p : List Fr) : (wP ws k p).length = p.length := by
  unfold wP; split
  · rfl
  · rw [List.length_map]
theorem jP_len {pl : Int → List Fr} {ws : List Fr} {tk : List Int} {n : Nat} (h : ∀ x, (pl x).length = n) : ∀ k, (jP pl ws tk k).length ≤ n ∧ (0 < k → (jP pl ws tk k).length = n)
  | 0 => ⟨Nat.zero_le _, fun h => absurd h (by decide)⟩
  | k + 1 => by
    have := (jP_len (ws := ws) (tk := tk) h k).1
    have e : (jP pl ws tk (k + 1)).length = n := by
      show (psmM _ _).length = n
      rw [psmM, List.length_map, List.length_range, wP_len, h]
      omega
    exact ⟨by omega, fun _ => e⟩
theorem cmt_wP (ws : List Fr) (k : Nat) (p : List Fr) : jW ws k (cmt p) = cmt (wP ws k p) := by
  unfold jW wP
  split
  · rfl
  · rw [cmt, cmt, List.map_map, List.map_map]
    refine List.map_congr_left fun a _ => ?_
    show g1.gmul (g1.gmul g1.gG a) _ = g1.gmul g1.gG (a * _)
    rw [g1.mul_mul g1.sub_G]
theorem jS_cmt {ds : List Dl} {tk : List Int} {ws : List Fr} {pl : Int → List Fr} (h : ∀ x ∈ tk, dPub ds x = cmt (pl x)) : ∀ k, k ≤ tk.length → jS ds tk ws k = cmt (jP pl ws tk k)
  | 0, _ => rfl
  | k + 1, hk => by
    have hm : tk.getD k 0 ∈ tk := by
      rw [List.getD_eq_getElem?_getD, List.getElem?_eq_getElem hk, Option.getD_some]
      exact List.getElem_mem _
    show plusF (jS ds tk ws k) (jW ws k (dPub ds (tk.getD k 0))) = _
    rw [jS_cmt h k (by omega), h _ hm, cmt_wP, plusM_cmt]; rfl
theorem pat_wP (ws : List Fr) (k : Nat) (p : List Fr) (x : Int) : pat (wP ws k p) x = tW ws k (pat p x) := by
  unfold wP tW
  split
  · rfl
  · rw [pat_eq, pat_eq, pevm_mul (fun a => a), List.map_id'']
    exact fun _ => rfl
theorem pat_nil (x : Int) : pat [] x = 0 := by rw [pat_eq]; rfl
theorem tS_pat {fs : List Int} {sh : List Fr} {tk : List Int} {ws : List Fr} {pl : Int → List Fr} {t : Int} (h : ∀ x ∈ tk, sh.getD (tIx fs x).toNat 0 = pat (pl x) t) : ∀ k, k ≤ tk.length → tS fs sh tk ws k = pat (jP pl ws tk k) t
  | 0, _ => by rw [jP, pat_nil]; rfl
  | k + 1, hk => by
    have hm : tk.getD k 0 ∈ tk := by
      rw [List.getD_eq_getElem?_getD, List.getElem?_eq_getElem hk, Option.getD_some]
      exact List.getElem_mem _
    show tS fs sh tk ws k + tW ws k (sh.getD (tIx fs (tk.getD k 0)).toNat 0) = _
    rw [tS_pat h k (by omega), h _ hm, jP, pat_psmM, pat_wP]
/-- The place of a number among others. -/
theorem tix_map {d : List Int} (f : Int → Fr) {x : Int} (hx : x ∈ d) : tOk d (d.map f) x = true ∧ (d.map f).getD (tIx d x).toNat 0 = f x := by
  have hlt : d.findIdx (fun y : Int => y == x) < d.length := List.findIdx_lt_length_of_exists ⟨x, hx, by simp⟩
  have hi : tIx d x = ((d.findIdx (fun y : Int => y == x) : Nat) : Int) := by rw [tIx, opq_eq, idxP, if_pos hlt]
  have hg := List.findIdx_getElem (p := fun y : Int => y == x) (xs := d) (w := hlt)
  have hg : d[d.findIdx (fun y : Int => y == x)] = x := by simpa using hg
  refine ⟨?_, ?_⟩
  · rw [tOk, hi, decide_eq_true (by omega), decide_eq_true (by rw [List.length_map]; omega)]; rfl
  · rw [hi, Int.toNat_natCast, getD_map _ hlt, hg]
end Go.Proofs.Ytoflhakneklimaa.law22
/- DealFresh: the walk. -/
namespace Go.Proofs.Ytoflhakneklimaa.law22
set_option maxRecDepth 100000
open Go Go.Eng Go.RowKit Cr Go.Proofs.Ytoflhakneklimaa Go.Proofs.Ytoflhakneklimaa.law14 Go.Proofs.Ytoflhakneklimaa.poly Go.Proofs.Ytoflhakneklimaa.deal
noncomputable def tno (d : List Int) (o : List (Fp × Fp)) (q fs : List Int) (sh : List Fr) : Fr × Int := opq (totF d o q fs sh)
theorem fo_total : FnOk Try.prog 32 [setK, .sl iK, .sl iK, .sl .fr] [.val .fr, .val iK] noG preTotal (fun ((d, _, _, o), q, fs, sh, _) => ((tno d o q fs sh).1, (tno d o q fs sh).2, ())) := fn_total.out fun ((d, _, _, o), q, fs, sh, _) => by show ((tno d o q fs sh).1, (tno d o q fs sh).2, ()) = ((totF d o q fs sh).1, (totF d o q fs sh).2, ()); rw [tno, opq_eq]
noncomputable def soTotal : Nat × Eng.Spec := (32, fnSpec [setK, .sl iK, .sl iK, .sl .fr] [.val .fr, .val iK] preTotal (fun ((d, _, _, o), q, fs, sh, _) => ((tno d o q fs sh).1, (tno d o q fs sh).2, ())))
noncomputable def mno (xs : List Int) (ts : List Fr) : Fr × Int := opq (mixR xs ts)
theorem fo_secret : FnOk Try.prog 37 [.sl (.int .i64), .sl .fr] [.val .fr, .val (.int .i64)] noG preMixR (fun (xs, ts, _) => ((mno xs ts).1, (mno xs ts).2, ())) := fn_secret.out fun (xs, ts, _) => by show ((mno xs ts).1, (mno xs ts).2, ()) = ((mixR xs ts).1, (mixR xs ts).2, ()); rw [mno, opq_eq]
noncomputable def soSecret : Nat × Eng.Spec := (37, fnSpec [.sl (.int .i64), .sl .fr] [.val .fr, .val (.int .i64)] preMixR (fun (xs, ts, _) => ((mno xs ts).1, (mno xs ts).2, ())))
theorem fo_made : FnOk Try.prog 22 [bsl, .int .i64, .int .i64] [.val (.sl .fr)] noG preMade2 outMade2 := fn_made.frz
noncomputable def soMade : Nat × Eng.Spec := (22, fnSpec [bsl, .int .i64, .int .i64] [.val (.sl .fr)] preMade2 outMade2)
noncomputable def cto (c : List (Fp × Fp)) (x : Int) : Fp × Fp := opq (catF x c)
theorem fo_dkey : FnOk Try.prog 33 [.sl pt1] [.val pt1] noG preDKey (fun (c, _) => (cto c 0, ())) := fn_dkey.out fun (c, _) => by show (cto c 0, ()) = (catF 0 c, ()); rw [cto, opq_eq]
noncomputable def soDKey : Nat × Eng.Spec := (33, fnSpec [.sl pt1] [.val pt1] preDKey (fun (c, _) => (cto c 0, ())))
noncomputable def fto (c : List (Fp × Fp)) (x : Int) (s : Fr) : Bool := opq (fitF c x s)
theorem fo_fits : FnOk Try.prog 36 [.sl pt1, .int .i64, .fr] [.val .bool] noG preFits (fun (c, x, s, _) => (fto c x s, ())) := fn_fits.out fun (c, x, s, _) => by show (fto c x s, ()) = (fitF c x s, ()); rw [fto, opq_eq]
noncomputable def soFits : Nat × Eng.Spec := (36, fnSpec [.sl pt1, .int .i64, .fr] [.val .bool] preFits (fun (c, x, s, _) => (fto c x s, ())))
theorem ent_freshl : enters Try.prog 6 Try.f6 := enters_mk (by kernel_rfl) (by kernel_rfl) (by kernel_rfl)
abbrev preFresh : HL [iK, iK, bsl, iK] → Prop := fun (n, need, b, bits, _) => preI n ∧ preI need ∧ preB b ∧ preI bits
noncomputable def feA (b : List Int) (bits need n : Int) : St := mkSt Try.f6.ntmps 80 [(0, sI .i64 n), (1, sI .i64 need), (2, .is (.one (.ro (.int .u8) b))), (3, sI .i64 bits)] []
noncomputable def feB (b : List Int) (bits need n : Int) (d : List Int) : St := mkSt Try.f6.ntmps 136 [(0, sI .i64 n), (1, sI .i64 need), (2, .is (.one (.ro (.int .u8) b))), (3, sI .i64 bits), (9, .is (.one (.ro iK d)))] []
noncomputable def feC (b : List Int) (bits n : Int) (d : List Int) (need : Int) : St := mkSt Try.f6.ntmps 136 [(0, sI .i64 n), (1, sI .i64 need), (2, .is (.one (.ro (.int .u8) b))), (3, sI .i64 bits), (9, .is (.one (.ro iK d)))] []
noncomputable def feD (b : List Int) (n need : Int) (d q : List Int) : St := mkSt Try.f6.ntmps 200 [(0, sI .i64 n), (1, sI .i64 need), (2, .is (.one (.ro (.int .u8) b))), (9, .is (.one (.ro iK d))), (10, .is (.one (.ptr 168 0))), (11, .is (.one (.ro iK q)))] [(168, [.ro iK d, .ro iK d, .v (.int .i64 need), .v (.slice none 0 0)])]
noncomputable def feI (b : List Int) (n need : Int) (d q : List Int) (g : Int × (Nat × List Dl) × Fr) : St := mkSt Try.f6.ntmps 264 [(0, sI .i64 n), (1, sI .i64 need), (2, .is (.one (.ro (.int .u8) b))), (9, .is (.one (.ro iK d))), (10, .is (.one (.ptr 168 0))), (11, .is (.one (.ro iK q))), (12, .is (.one (.sl 200 0 0 g.2.1.1 2))), (13, .is (.one (.ptr 224 0))), (68, .is (.one (.ro iK d))), (69, sI .i64 d.length), (70, sI .i64 g.1)] [(200, [.row dealK g.2.1.1 g.2.1.2]), (224, [.row .fr 1 [g.2.2]]), (168, [.ro iK d, .ro iK d, .v (.int .i64 need), .v (.slice none 0 0)])]
noncomputable def feJ (b : List Int) (n need : Int) (d q : List Int) (g : Int × (Nat × List Dl) × Fr) (x : Int) (p : List Fr) : St := mkSt Try.f6.ntmps 264 [(0, sI .i64 n), (1, sI .i64 need), (2, .is (.one (.ro (.int .u8) b))), (9, .is (.one (.ro iK d))), (10, .is (.one (.ptr 168 0))), (11, .is (.one (.ro iK q))), (12, .is (.one (.sl 200 0 0 g.2.1.1 2))), (13, .is (.one (.ptr 224 0))), (15, sI .i64 x), (16, .is (.one (.ro .fr p))), (68, .is (.one (.ro iK d))), (69, sI .i64 d.length), (70, sI .i64 g.1)] [(200, [.row dealK g.2.1.1 g.2.1.2]), (224, [.row .fr 1 [g.2.2]]), (168, [.ro iK d, .ro iK d, .v (.int .i64 need), .v (.slice none 0 0)])]
noncomputable def plD (b : List Int) (need x : Int) : List Fr := mdP b x need.toNat
noncomputable def smZ (b : List Int) (need : Int) (q : List Int) : List Int → Fr
  | [] => 0
  | x :: l => (if x ∈ q then (plD b need x).getD 0 0 else 0) + smZ b need q l
noncomputable def frJ (b : List Int) (need : Int) (d q : List Int) (g : Int × (Nat × List Dl) × Fr) : Prop := ∃ k : Nat, k ≤ d.length ∧ g.1 = (k : Int) ∧ g.2.1.2 = (d.take k).map (mkD b need) ∧ g.2.1.1 = k ∧ g.2.2 = smZ b need q (d.take k).reverse
noncomputable def frO (b : List Int) (need : Int) (d q : List Int) (g : Int × (Nat × List Dl) × Fr) : Prop := g.2.1.2 = d.map (mkD b need) ∧ g.2.1.1 = d.length ∧ g.2.2 = smZ b need q d.reverse
def qok (m k : Nat) : Bool := risF 0 (numF (k : Int)) && (numF (k : Int)).all (fun x => (dn (m : Int)).contains x) && decide ((dn (m : Int)).filter (fun x => decide (x ∈ numF (k : Int))) = numF (k : Int))
theorem qok_all : ∀ m, m < 5 → ∀ k, k < 31 → k + 2 ≤ 2 ^ (m + 1) → qok m k = true := by decide +kernel
theorem qual_ok {n v : Int} (h1 : 1 ≤ n) (h4 : n ≤ 4) (h0 : 0 ≤ v) (hv : v ≤ 2 ^ (n + 1).toNat - 2) : risF 0 (numF v) = true ∧ (∀ x ∈ numF v, x ∈ dn n) ∧ (dn n).filter (fun x => decide (x ∈ numF v)) = numF v := by
  obtain ⟨k, rfl⟩ : ∃ k : Nat, v = (k : Int) := ⟨v.toNat, by omega⟩
  obtain ⟨m, rfl⟩ : ∃ m : Nat, n = (m : Int) := ⟨n.toNat, by omega⟩
  have e : ((2 : Int) ^ ((m : Int) + 1).toNat) = ((2 ^ (m + 1) : Nat) : Int) := by
    rw [show ((m : Int) + 1).toNat = m + 1 by omega, Int.natCast_pow]; rfl
  rw [e] at hv
  have hm : 2 ^ (m + 1) ≤ 2 ^ 5 := Nat.pow_le_pow_right (by decide) (by omega)
  have h := qok_all m (by omega) k (by omega) (by omega)
  simp only [qok, Bool.and_eq_true, decide_eq_true_eq, List.all_eq_true, List.contains_iff_mem] at h
  exact ⟨h.1.1, h.1.2, h.2⟩
theorem and_mask {x m : Int} (h0 : 0 ≤ m) (h1 : m < 4294967296) : 0 ≤ bitOp .and .i64 x m ∧ bitOp .and .i64 x m ≤ m := by
  have h64 : ((2 ^ 64 : Nat) : Int) = 18446744073709551616 := by decide
  have hm : (BitVec.ofInt 64 m).toNat = m.toNat := by
    rw [BitVec.toNat_ofInt, Int.emod_eq_of_lt h0 (by rw [h64]; omega)]
  have h : ((BitVec.ofInt 64 x &&& BitVec.ofInt 64 m : BitVec 64).toNat) ≤ m.toNat := by
    rw [BitVec.toNat_and, hm]
    exact Nat.and_le_right
  have e : bitOp .and .i64 x m = (((BitVec.ofInt 64 x &&& BitVec.ofInt 64 m : BitVec 64).toNat : Nat) : Int) := by
    show IntKind.i64.wrap (((BitVec.ofInt 64 x &&& BitVec.ofInt 64 m : BitVec 64).toNat : Nat) : Int) = _
    exact wrap_i64' (by omega) (by omega)
  rw [e]; omega
noncomputable def feE (b : List Int) (n need : Int) (d q : List Int) (s : Fr) (y : List (Fp × Fp) × Int) : St := mkSt Try.f6.ntmps 312 [(0, sI .i64 n), (1, sI .i64 need), (2, .is (.one (.ro (.int .u8) b))), (9, .is (.one (.ro iK d))), (10, .is (.one (.ptr 168 0))), (11, .is (.one (.ro iK q))), (13, .is (.one (.ptr 224 0))), (17, .is (.one (.ro pt1 y.1))), (18, sI .i64 y.2)] [(224, [.row .fr 1 [s]]), (168, [.ro iK d, .ro iK d, .v (.int .i64 need), .v (.slice none 0 0)])]
noncomputable def feK (b : List Int) (n need : Int) (d q : List Int) (s : Fr) (c : List (Fp × Fp)) (g : Int × Nat × List Fr) : St := mkSt Try.f6.ntmps 480 [(0, sI .i64 n), (1, sI .i64 need), (2, .is (.one (.ro (.int .u8) b))), (9, .is (.one (.ro iK d))), (10, .is (.one (.ptr 168 0))), (11, .is (.one (.ro iK q))), (13, .is (.one (.ptr 224 0))), (17, .is (.one (.ro pt1 c))), (21, .is (.one (.sl 440 0 0 g.2.1 4))), (145, .is (.one (.ro iK d))), (146, sI .i64 d.length), (147, sI .i64 g.1)] [(440, [.row .fr g.2.1 g.2.2]), (224, [.row .fr 1 [s]]), (168, [.ro iK d, .ro iK d, .v (.int .i64 need), .v (.slice none 0 0)])]
noncomputable def feL (b : List Int) (n need : Int) (d q : List Int) (s : Fr) (c : List (Fp × Fp)) (k : Nat) (mt : Nat) (ts : List Fr) (x : Int) (g : Int × Nat × List Fr) : St := mkSt Try.f6.ntmps 544 [(0, sI .i64 n), (1, sI .i64 need), (2, .is (.one (.ro (.int .u8) b))), (9, .is (.one (.ro iK d))), (10, .is (.one (.ptr 168 0))), (11, .is (.one (.ro iK q))), (13, .is (.one (.ptr 224 0))), (17, .is (.one (.ro pt1 c))), (21, .is (.one (.sl 440 0 0 mt 4))), (23, sI .i64 x), (24, .is (.one (.sl 504 0 0 g.2.1 4))), (145, .is (.one (.ro iK d))), (146, sI .i64 d.length), (147, sI .i64 k), (152, .is (.one (.ro iK d))), (153, sI .i64 d.length), (154, sI .i64 g.1)] [(504, [.row .fr g.2.1 g.2.2]), (440, [.row .fr mt ts]), (224, [.row .fr 1 [s]]), (168, [.ro iK d, .ro iK d, .v (.int .i64 need), .v (.slice none 0 0)])]
noncomputable def feM (b : List Int) (n need : Int) (d q : List Int) (s : Fr) (c : List (Fp × Fp)) (k : Nat) (mt : Nat) (ts : List Fr) (x : Int) (y : Fr × Int) : St := mkSt Try.f6.ntmps 664 [(0, sI .i64 n), (1, sI .i64 need), (2, .is (.one (.ro (.int .u8) b))), (9, .is (.one (.ro iK d))), (10, .is (.one (.ptr 168 0))), (11, .is (.one (.ro iK q))), (13, .is (.one (.ptr 224 0))), (17, .is (.one (.ro pt1 c))), (21, .is (.one (.sl 440 0 0 mt 4))), (23, sI .i64 x), (27, .is (.one (.ptr 640 0))), (28, sI .i64 y.2), (145, .is (.one (.ro iK d))), (146, sI .i64 d.length), (147, sI .i64 k)] [(640, [.row .fr 1 [y.1]]), (440, [.row .fr mt ts]), (224, [.row .fr 1 [s]]), (168, [.ro iK d, .ro iK d, .v (.int .i64 need), .v (.slice none 0 0)])]
noncomputable def fkJ (d : List Int) (Q : List Fr) (g : Int × Nat × List Fr) : Prop := ∃ k : Nat, k ≤ d.length ∧ g.1 = (k : Int) ∧ g.2.2 = (d.take k).map (pat Q) ∧ g.2.1 = k
noncomputable def flJ (b : List Int) (need : Int) (d : List Int) (x : Int) (g : Int × Nat × List Fr) : Prop := ∃ k : Nat, k ≤ d.length ∧ g.1 = (k : Int) ∧ g.2.2 = (d.take k).map (fun y => pat (plD b need y) x) ∧ g.2.1 = k
theorem dn_mem {n x : Int} (h4 : n ≤ 4) (h : x ∈ dn n) : 1 ≤ x ∧ x ≤ 4 := by
  obtain ⟨t, ht, rfl⟩ := List.mem_map.1 h
  have := List.mem_range.1 ht
  omega
theorem dn_lst {n : Int} (h1 : 1 ≤ n) (h4 : n ≤ 4) : 1 ≤ lst (dn n) [] := by
  have h : n = 1 ∨ n = 2 ∨ n = 3 ∨ n = 4 := by omega
  rcases h with rfl | rfl | rfl | rfl <;> decide
theorem dn_ple0 : ∀ m, m < 5 → ∀ k, k < 5 → plE [] ((dn ((m : Nat) : Int)).drop k) = 0 := by decide +kernel
theorem dn_ple {n : Int} (h1 : 1 ≤ n) (h4 : n ≤ 4) (k : Nat) : plE [] ((dn n).drop k) = 0 := by
  obtain ⟨m, rfl⟩ : ∃ m : Nat, n = (m : Int) := ⟨n.toNat, by omega⟩
  by_cases hk : k < 5
  · exact dn_ple0 m (by omega) k hk
  · rw [List.drop_eq_nil_of_le (by rw [dn]; simp; omega)]; rfl
theorem pat_zero (p : List Fr) : pat p 0 = p.getD 0 0 := by
  rw [pat_eq]
  cases p with
  | nil => rfl
  | cons a p =>
    show peval p (zm 0) * zm 0 + a = a
    have : (zm 0 : Fr) = 0 := rfl
    rw [this, Rg.mul_zero, Rg.zero_add]
theorem pat_jP0 (pl : Int → List Fr) (q : List Int) : ∀ k, k ≤ q.length → pat (jP pl [] q k) 0 = sm ((q.take k).map fun x => (pl x).getD 0 0)
  | 0, _ => by rw [jP, pat_nil]; rfl
  | k + 1, hk => by
    have hg : q.getD k 0 = q[k] := by rw [List.getD_eq_getElem?_getD, List.getElem?_eq_getElem hk, Option.getD_some]
    rw [jP, pat_psmM, pat_jP0 pl q k (by omega), pat_wP, tW, if_pos (show ([] : List Fr).length = 0 from rfl), pat_zero, List.take_succ_eq_append_getElem hk, List.map_append, List.map_cons, List.map_nil, sm_snoc, hg]
theorem smZ_eq (b : List Int) (need : Int) (q : List Int) : ∀ l, smZ b need q l = sm ((l.filter fun x => decide (x ∈ q)).map fun x => (plD b need x).getD 0 0)
  | [] => rfl
  | x :: l => by
    rw [smZ, smZ_eq b need q l]
    by_cases h : x ∈ q
    · rw [if_pos h, List.filter_cons_of_pos (by simpa using h), List.map_cons]; rfl
    · rw [if_neg h, List.filter_cons_of_neg (by simpa using h), Rg.zero_add]
theorem sm_rev (l : List Fr) : sm l.reverse = sm l := by
  induction l with
  | nil => rfl
  | cons a l ih => rw [List.reverse_cons, sm_snoc, ih, Rg.add_comm]; rfl
theorem fn_freshl : FnOk Try.prog 6 [iK, iK, bsl, iK] [.val .bool] noG preFresh (fun _ => (true, ())) := by
  have hsp : SpecsOk Try.prog (sps [spHead, soNumbers, soMade, soCommit, spIn, fr.spAdd, soJoin, spLeast, soTotal, soDKey, g1.soGen, g1.soMul, spAt, soFits, soSecret]) := sps_cons (fnSpec_ok fn_head) (sps_cons (fnSpec_ok fo_numbers) (sps_cons (fnSpec_ok fo_made) (sps_cons (fnSpec_ok fo_commit) (sps_cons (fnSpec_ok fn_in) (sps_cons (fnSpec_ok fr.fn_add) (sps_cons (fnSpec_ok fo_join) (sps_cons (fnSpec_ok fn_least) (sps_cons (fnSpec_ok fo_total) (sps_cons (fnSpec_ok fo_dkey) (sps_cons (fnSpec_ok g1.fo_gen) (sps_cons (fnSpec_ok g1.fo_mul) (sps_cons (fnSpec_ok fn_at) (sps_cons (fnSpec_ok fo_fits) (sps_cons (fnSpec_ok fo_secret) sps_nil))))))))))))))
  refine fn_of_tr (sp := sps [spHead, soNumbers, soMade, soCommit, spIn, fr.spAdd, soJoin, spLeast, soTotal, soDKey, g1.soGen, g1.soMul, spAt, soFits, soSecret]) ent_freshl (by decide) (by decide) (by kernel_rfl) ?_
  rintro w M0 ⟨n, need, b, bits, ⟨⟩⟩
  revert n need b bits
  intro (n : Int) (need : Int) (b : List Int) (bits : Int) _ hp
  obtain ⟨hn, hne, ⟨hb, hl⟩, hbi⟩ := hp
  show Tr _ _ _ _ _ _ _
  refine tr_cutF hsp mixed 6 (fun σ => rdS iK 0 σ) (feA b bits need) (fun g => b.length ≤ 100 ∧ 1 ≤ g ∧ g ≤ 4) ?_ ?_
  · refine vcx (X := (True ∧ ((!true) = true → (false, ()) = (true, ())) ∧ ((!true) = false → (decide ((↑b.length : Int) > (100 : Int)) = true → (true, ()) = (true, ())) ∧ (decide ((↑b.length : Int) > (100 : Int)) = false → (feA b bits need (IntKind.i64.wrap ((1 : Int) + bitOp BinOp.and IntKind.i64 n (3 : Int)))).triv (b.length ≤ (100 : Nat) ∧ (1 : Car iK) ≤ IntKind.i64.wrap ((1 : Int) + bitOp BinOp.and IntKind.i64 n (3 : Int)) ∧ IntKind.i64.wrap ((1 : Int) + bitOp BinOp.and IntKind.i64 n (3 : Int)) ≤ (4 : Car iK)))))) (by kernel_rfl) ?_
    obtain ⟨a0, a1⟩ := and3 n
    rw [wrap_i64' (show -9223372036854775808 ≤ 1 + bitOp BinOp.and IntKind.i64 n 3 by omega) (by omega)]
    generalize bitOp BinOp.and IntKind.i64 n 3 = u at *
    refine ⟨trivial, fun h => absurd h (by decide), fun _ => ⟨fun _ => rfl, fun h => triv_intro ⟨?_, ?_⟩⟩⟩
    · have := of_decide_eq_false h; omega
    · exact ⟨show 1 ≤ 1 + u by omega, show 1 + u ≤ 4 by omega⟩
  intro (n : Int) ⟨hb1, hn1, hn4⟩
  have hn1 : 1 ≤ n := hn1
  have hn4 : n ≤ 4 := hn4
  refine tr_cutF hsp mixed 1 (fun σ => rdO iK 9 σ) (feB b bits need n) (fun d => d = dn n) ?_ ?_
  · refine vcx (X := ((0 : Int) ≤ IntKind.u64.wrap (IntKind.i64.wrap (n + (1 : Int))) ∧ True ∧ (feB b bits need n (numF (IntKind.i64.wrap (IntKind.i64.wrap ((1 : Int) * (2 : Int) ^ min (IntKind.u64.wrap (IntKind.i64.wrap (n + (1 : Int)))).toNat IntKind.i64.bits) - (2 : Int))), ()).fst).triv (numF (IntKind.i64.wrap (IntKind.i64.wrap ((1 : Int) * (2 : Int) ^ min (IntKind.u64.wrap (IntKind.i64.wrap (n + (1 : Int)))).toNat IntKind.i64.bits) - (2 : Int))) = dn n))) (by kernel_rfl) ?_
    have h4 : n = 1 ∨ n = 2 ∨ n = 3 ∨ n = 4 := by omega
    rcases h4 with rfl | rfl | rfl | rfl <;> exact ⟨by decide, trivial, triv_intro (by decide +kernel)⟩
  intro (d : List Int) (hd : d = dn n)
  refine tr_cutF hsp mixed 3 (fun σ => rdS iK 1 σ) (feC b bits n d) (fun g => 1 ≤ g ∧ g ≤ n) ?_ ?_
  · refine vcx (X := ((decide (IntKind.i64.wrap ((1 : Int) + bitOp BinOp.and IntKind.i64 need (3 : Int)) > n) = true → (feC b bits n d n).triv ((1 : Car iK) ≤ n ∧ n ≤ n)) ∧ (decide (IntKind.i64.wrap ((1 : Int) + bitOp BinOp.and IntKind.i64 need (3 : Int)) > n) = false → (feC b bits n d (IntKind.i64.wrap ((1 : Int) + bitOp BinOp.and IntKind.i64 need (3 : Int)))).triv ((1 : Car iK) ≤ IntKind.i64.wrap ((1 : Int) + bitOp BinOp.and IntKind.i64 need (3 : Int)) ∧ IntKind.i64.wrap ((1 : Int) + bitOp BinOp.and IntKind.i64 need (3 : Int)) ≤ n)))) (by kernel_rfl) ?_
    obtain ⟨c0, c1⟩ := and3 need
    rw [wrap_i64' (show -9223372036854775808 ≤ 1 + bitOp BinOp.and IntKind.i64 need 3 by omega) (by omega)]
    generalize bitOp BinOp.and IntKind.i64 need 3 = v at *
    refine ⟨fun h1 => triv_intro ⟨show 1 ≤ n by omega, show n ≤ n by omega⟩, fun h1 => triv_intro ?_⟩
    have h1 := of_decide_eq_false h1
    exact ⟨show 1 ≤ 1 + v by omega, show 1 + v ≤ n by omega⟩
  intro (need : Int) ⟨he1, hen⟩
  have he1 : 1 ≤ need := he1
  have hen : need ≤ n := hen
  refine tr_cutF hsp mixed 2 (fun σ => rdO iK 11 σ) (feD b n need d) (fun q => risF 0 q = true ∧ (∀ x ∈ q, x ∈ d) ∧ d.filter (fun x => decide (x ∈ q)) = q) ?_ ?_
  · refine vcx (X := ((0 : Int) ≤ IntKind.u64.wrap (IntKind.i64.wrap (n + (1 : Int))) ∧ True ∧ (feD b n need d (numF (bitOp BinOp.and IntKind.i64 bits (IntKind.i64.wrap (IntKind.i64.wrap ((1 : Int) * (2 : Int) ^ min (IntKind.u64.wrap (IntKind.i64.wrap (n + (1 : Int)))).toNat IntKind.i64.bits) - (2 : Int)))), ()).fst).triv (risF (0 : Int) (numF (bitOp BinOp.and IntKind.i64 bits (IntKind.i64.wrap (IntKind.i64.wrap ((1 : Int) * (2 : Int) ^ min (IntKind.u64.wrap (IntKind.i64.wrap (n + (1 : Int)))).toNat IntKind.i64.bits) - (2 : Int))))) = true ∧ (∀ (x : Car iK), x ∈ numF (bitOp BinOp.and IntKind.i64 bits (IntKind.i64.wrap (IntKind.i64.wrap ((1 : Int) * (2 : Int) ^ min (IntKind.u64.wrap (IntKind.i64.wrap (n + (1 : Int)))).toNat IntKind.i64.bits) - (2 : Int)))) → x ∈ d) ∧ List.filter (fun x => decide (x ∈ numF (bitOp BinOp.and IntKind.i64 bits (IntKind.i64.wrap (IntKind.i64.wrap ((1 : Int) * (2 : Int) ^ min (IntKind.u64.wrap (IntKind.i64.wrap (n + (1 : Int)))).toNat IntKind.i64.bits) - (2 : Int)))))) d = numF (bitOp BinOp.and IntKind.i64 bits (IntKind.i64.wrap (IntKind.i64.wrap ((1 : Int) * (2 : Int) ^ min (IntKind.u64.wrap (IntKind.i64.wrap (n + (1 : Int)))).toNat IntKind.i64.bits) - (2 : Int))))))) (by kernel_rfl) ?_
    have h4 : n = 1 ∨ n = 2 ∨ n = 3 ∨ n = 4 := by omega
    have e : IntKind.i64.wrap (IntKind.i64.wrap ((1 : Int) * (2 : Int) ^ min (IntKind.u64.wrap (IntKind.i64.wrap (n + (1 : Int)))).toNat IntKind.i64.bits) - 2) = 2 ^ (n + 1).toNat - 2 := by
      rcases h4 with rfl | rfl | rfl | rfl <;> decide
    have e2 : (2 : Int) ^ (n + 1).toNat - 2 < 4294967296 ∧ 0 ≤ (2 : Int) ^ (n + 1).toNat - 2 := by
      rcases h4 with rfl | rfl | rfl | rfl <;> decide
    have e3 : 0 ≤ IntKind.u64.wrap (IntKind.i64.wrap (n + (1 : Int))) := by
      rcases h4 with rfl | rfl | rfl | rfl <;> decide
    rw [e]
    obtain ⟨a0, a1⟩ := and_mask (x := bits) e2.2 e2.1
    rw [hd]
    exact ⟨e3, trivial, triv_intro (qual_ok hn1 hn4 a0 a1)⟩
  intro (q : List Int) ⟨hqr, hqd, hqf⟩
  have hdl : d.length = n.toNat := by rw [hd, dn]; simp
  have hql : q.length ≤ d.length := by rw [← hqf]; exact List.length_filter_le _ _
  refine tr_cut hsp mixed 3 (feI b n need d q (0, (0, []), 0)) True ?_ (fun _ => ?_)
  · refine vcx (X := ((feI b n need d q ((0 : Int), ((0 : Nat), []), (0 : Fr))).triv True)) (by kernel_rfl) ?_
    exact triv_intro trivial
  refine tr_whileT (fun σ => [(200, rdI 12 σ)]) (fun σ => (rdS iK 70 σ, (rdL 12 σ, rdR dealK 200 σ), rdB .fr 224 σ)) (feI b n need d q) (frJ b need d q) (fun g => d.length - g.1.toNat)
    (fun σ => (rdS iK 70 σ, (rdL 12 σ, rdR dealK 200 σ), rdB .fr 224 σ)) (feI b n need d q) (frO b need d q) (0, (0, []), 0) (c := nthC (codeOf Try.f6) 15) (by kernel_rfl) (by kernel_rfl) (le_of_proj (by kernel_rfl) (by kernel_rfl) ?_) ?_ ?_
  · exact ⟨0, Nat.zero_le _, rfl, rfl, rfl, rfl⟩
  · rintro ⟨i, ⟨m, ds⟩, s⟩ hj
    revert i ds s
    intro (i : Int) (s : Fr) (ds : List Dl) ⟨k, hk, ei, eds, em, es⟩
    have ei : i = (k : Int) := ei
    have kds : ds = (d.take k).map (mkD b need) := eds
    have km : m = k := em
    have ks : s = smZ b need q (d.take k).reverse := es
    subst ei
    refine tr_cut hsp mixed 2 (feI b n need d q ((k : Int), (m, ds), s)) (k < d.length) ?_ (fun hlt => ?_)
    · refine vcx (X := ((decide ((↑k : Int) < (↑d.length : Int)) = true → (feI b n need d q ((↑k : Int), (m, ds), s)).triv (k < d.length)) ∧ (decide ((↑k : Int) < (↑d.length : Int)) = false → (feI b n need d q ((↑k : Int), (m, ds), s)).triv (frO b need d q ((↑k : Int), (m, ds), s))))) (by kernel_rfl) ?_
      refine ⟨fun h => triv_intro (by have := dec_lt h; omega), fun h => triv_intro ?_⟩
      have : k = d.length := by have := dec_ge h; omega
      exact ⟨by rw [kds, this, List.take_length], by rw [km, this], by rw [ks, this, List.take_length]⟩
    refine tr_block (c := nthC (loopOf (nthC (codeOf Try.f6) 15)) 2) (by kernel_rfl) (by kernel_rfl) ?_
    refine tr_cutF hsp mixed 2 (fun σ => (rdS iK 15 σ, rdO .fr 16 σ)) (fun y => feJ b n need d q ((k : Int), (m, ds), s) y.1 y.2) (fun y => y.1 = d.getD k 0 ∧ y.2 = plD b need y.1) ?_ ?_
    · refine vcx (X := (((0 : Int) ≤ (↑k : Int) ∧ (↑k : Int) < (↑d.length : Int)) ∧ (↑k : Int).toNat < d.length ∧ preMade2 (b, d.getD (↑k : Int).toNat (0 : Int), need, ()) ∧ (feJ b n need d q ((↑k : Int), (m, ds), s) (d.getD (↑k : Int).toNat (0 : Int), mdP b (d.getD (↑k : Int).toNat (0 : Int)) need.toNat).fst (d.getD (↑k : Int).toNat (0 : Int), mdP b (d.getD (↑k : Int).toNat (0 : Int)) need.toNat).snd).triv (d.getD (↑k : Int).toNat (0 : Int) = d.getD k (0 : Int) ∧ mdP b (d.getD (↑k : Int).toNat (0 : Int)) need.toNat = plD b need (d.getD (↑k : Int).toNat (0 : Int))))) (by kernel_rfl) ?_
      rw [Int.toNat_natCast]
      exact ⟨⟨by omega, by omega⟩, hlt, ⟨⟨hb, by show b.length ≤ _; omega⟩, by show 0 ≤ need; omega, by show need ≤ 1000; omega⟩, triv_intro ⟨rfl, rfl⟩⟩
    rintro ⟨x, p⟩ hy
    revert x p
    intro (x : Int) (p : List Fr) ⟨hx, hpp⟩
    have hx : x = d.getD k 0 := hx
    have hpp : p = plD b need x := hpp
    have hpl : p.length = need.toNat := by rw [hpp, plD, mdP_len]
    refine tr_cutSF hsp mixed 3 (fun σ => [(200, rdI 12 σ)]) (fun σ => (rdS iK 70 σ, (rdL 12 σ, rdR dealK 200 σ), rdB .fr 224 σ)) (feI b n need d q) (fun g => g.1 = (k : Int) ∧ frJ b need d q (((k + 1 : Nat) : Int), g.2)) ?_ ?_
    · refine vcx (X := (preCommit (p, ()) ∧ (0 : Nat) + (1 : Nat) ≤ (1 : Nat) ∧ m ≤ m ∧ (m + (1 : Nat)) * (32 : Nat) ≤ (140737488355328 : Nat) ∧ m + (1 : Nat) ≤ (4611686018427387904 : Nat) ∧ preIn (q, x, ()) ∧ (decide (x ∈ q) = true → ((0 : Int) ≤ (0 : Int) ∧ (0 : Int) < (↑p.length : Int)) ∧ (0 : Nat) < p.length ∧ True ∧ (feI b n need d q ((↑k : Int), (m + (1 : Nat), List.take m ds ++ List.take (1 : Nat) [(x, cmt p)]), s + p.getD (0 : Nat) (0 : Fr))).triv ((↑k : Int) = (↑k : Int) ∧ frJ b need d q ((↑(k + (1 : Nat)) : Int), (m + (1 : Nat), List.take m ds ++ List.take (1 : Nat) [(x, cmt p)]), s + p.getD (0 : Nat) (0 : Fr)))) ∧ (decide (x ∈ q) = false → (feI b n need d q ((↑k : Int), (m + (1 : Nat), List.take m ds ++ List.take (1 : Nat) [(x, cmt p)]), s)).triv ((↑k : Int) = (↑k : Int) ∧ frJ b need d q ((↑(k + (1 : Nat)) : Int), (m + (1 : Nat), List.take m ds ++ List.take (1 : Nat) [(x, cmt p)]), s))))) (by kernel_rfl) ?_
      have hml : m = ds.length := by rw [km, kds, List.length_map, List.length_take]; omega
      have hxm : (d.take (k + 1)).reverse = x :: (d.take k).reverse := by
        rw [List.take_succ_eq_append_getElem hlt, List.reverse_append]
        rw [hx, List.getD_eq_getElem?_getD, List.getElem?_eq_getElem hlt]; rfl
      have eds' : List.take m ds ++ List.take 1 [(x, cmt p)] = (d.take (k + 1)).map (mkD b need) := by
        rw [hml, List.take_length, kds, List.take_succ_eq_append_getElem hlt, List.map_append, hpp, hx, List.getD_eq_getElem?_getD, List.getElem?_eq_getElem hlt]; rfl
      have hpc : preCommit (p, ()) := by show p.length < _; omega
      have hpi : preIn (q, x, ()) := by show q.length < _; omega
      refine ⟨hpc, by omega, by omega, by omega, by omega, hpi, fun h => ⟨⟨by omega, by omega⟩, by omega, trivial, triv_intro ⟨rfl, k + 1, hlt, rfl, eds', by show m + 1 = k + 1; omega, ?_⟩⟩, fun h => triv_intro ⟨rfl, k + 1, hlt, rfl, eds', by show m + 1 = k + 1; omega, ?_⟩⟩
      · show s + p.getD 0 0 = smZ b need q (d.take (k + 1)).reverse
        rw [hxm, smZ, if_pos (of_decide_eq_true h), ← hpp, ks, Rg.add_comm]
      · show s = smZ b need q (d.take (k + 1)).reverse
        rw [hxm, smZ, if_neg (of_decide_eq_false h), ks, Rg.zero_add]
    rintro ⟨i, ⟨m', ds'⟩, s'⟩ hj
    revert i ds' s'
    intro (i : Int) (s' : Fr) (ds' : List Dl) ⟨ei, hj⟩
    have ei : i = (k : Int) := ei
    subst ei
    refine tr_nil ?_
    refine tr_vc hsp mixed _ _ ?_
    refine vcx (X := ((feI b n need d q (IntKind.i64.wrap ((↑k : Int) + (1 : Int)), (m', ds'), s')).triv (frJ b need d q (IntKind.i64.wrap ((↑k : Int) + (1 : Int)), (m', ds'), s') ∧ d.length - (IntKind.i64.wrap ((↑k : Int) + (1 : Int))).toNat < d.length - (↑k : Int).toNat))) (by kernel_rfl) ?_
    rw [wrap_succ (by omega)]
    exact triv_intro ⟨hj, by rw [Int.toNat_natCast, Int.toNat_natCast]; omega⟩
  rintro ⟨i, ⟨m, ds⟩, s⟩ hj
  revert i ds s
  intro (i : Int) (s : Fr) (ds : List Dl) ⟨eds, em, es⟩
  have eds : ds = d.map (mkD b need) := eds
  have em : m = d.length := em
  have es : s = smZ b need q d.reverse := es
  have edl : m = ds.length := by rw [em, eds, List.length_map]
  obtain ⟨hdr, hdls⟩ := dn_ok hn1 hn4
  rw [← hd] at hdr hdls
  have hPb : ∀ x ∈ q, 0 ≤ dIx ds x ∧ dPub ds x = cmt (plD b need x) := fun x hx => by
    have := dpub_app (A := ds) (B := []) (x := x) (P := (mkD b need x).2) (fun e he hex => by
      rw [eds] at he
      obtain ⟨y, hy, rfl⟩ := List.mem_map.1 he
      have hyx : y = x := hex
      rw [hyx]) ⟨mkD b need x, by rw [eds]; exact List.mem_map.2 ⟨x, hqd x hx, rfl⟩, rfl⟩
    rw [List.append_nil] at this
    exact this
  have hjg : lst d [] ≤ (q.length : Int) → tknF d [] q = (q, [], 0) := fun h => by rw [tknF, if_pos ⟨hqr, h⟩, if_pos (show ([] : List (Fp × Fp)).length = 0 from rfl)]
  have hjb : ¬ lst d [] ≤ (q.length : Int) → tknF d [] q = ([], [], 32) := fun h => by rw [tknF, if_neg (fun c => h c.2)]
  have hJ : lst d [] ≤ (q.length : Int) → jno d need [] q ds = (cmt (jP (plD b need) [] q q.length), 0) := fun h => by
    rw [jno, opq_eq, joinF, hjg h, joinT, if_pos rfl, if_pos ?_, jS_cmt (fun x hx => (hPb x hx).2) q.length (Nat.le_refl _)]
    refine List.all_eq_true.2 fun x hx => ?_
    obtain ⟨h1, h2⟩ := hPb x hx
    have hl2 : ((cmt (plD b need x)).length : Int) = need := by rw [cmt, List.length_map, plD, mdP_len]; omega
    rw [dOk, h2, hl2, decide_eq_true h1]; simp
  have hJb : ¬ lst d [] ≤ (q.length : Int) → jno d need [] q ds = ([], 32) := fun h => by rw [jno, opq_eq, joinF, hjb h, joinT, if_neg (by decide)]
  refine tr_cutF hsp mixed 1 (fun σ => (rdO pt1 17 σ, rdS iK 18 σ)) (feE b n need d q s) (fun y => y = jno d need [] q ds) ?_ ?_
  · refine vcx (X := ((0 : Nat) ≤ (0 : Nat) ∧ ((0 : Nat) + q.length) * (8 : Nat) ≤ (140737488355328 : Nat) ∧ (0 : Nat) + q.length ≤ (4611686018427387904 : Nat) ∧ (0 : Nat) + ((0 : Nat) + q.length) ≤ (0 : Nat) + q.length ∧ (0 : Nat) + m ≤ m ∧ preJoin ((d, d, need, []), List.take ((0 : Nat) + q.length) (List.take (0 : Nat) [] ++ q), List.take m ds, ()) ∧ (feE b n need d q s (((jno d need [] (List.take ((0 : Nat) + q.length) (List.take (0 : Nat) [] ++ q)) (List.take m ds)).fst, (jno d need [] (List.take ((0 : Nat) + q.length) (List.take (0 : Nat) [] ++ q)) (List.take m ds)).snd, ()).fst, (jno d need [] (List.take ((0 : Nat) + q.length) (List.take (0 : Nat) [] ++ q)) (List.take m ds)).snd)).triv (((jno d need [] (List.take ((0 : Nat) + q.length) (List.take (0 : Nat) [] ++ q)) (List.take m ds)).fst, (jno d need [] (List.take ((0 : Nat) + q.length) (List.take (0 : Nat) [] ++ q)) (List.take m ds)).snd) = jno d need [] q ds))) (by kernel_rfl) ?_
    rw [List.take_zero, List.nil_append, Nat.zero_add, List.take_length, edl, List.take_length]
    exact ⟨by omega, by omega, by omega, by omega, by omega, ⟨by show 0 < _; omega, by show q.length < _; omega, by show ds.length < _; omega, by show need < _; omega⟩, triv_intro rfl⟩
  rintro ⟨c, e⟩ hy
  revert c e
  intro (c : List (Fp × Fp)) (e : Int) hy
  refine tr_cut hsp mixed 2 (feE b n need d q s (c, e)) (lst d [] ≤ (q.length : Int)) ?_ (fun hle => ?_)
  · refine vcx (X := (True ∧ (decide ((↑q.length : Int) < lst d []) = true → ((0 : Int) ≤ n ∧ n ≤ n ∧ (↑(32 : Nat) : Int) * n ≤ (281474976710656 : Int) ∧ n ≤ (9223372036854775807 : Int)) ∧ (0 : Nat) + n.toNat ≤ n.toNat ∧ preTotal ((d, d, need, []), q, d, List.take n.toNat (List.replicate n.toNat (0 : Fr)), ()) ∧ ((e == (32 : Int)) = true → (((tno d [] q d (List.take n.toNat (List.replicate n.toNat (0 : Fr)))).snd == (32 : Int)) = true → ((↑c.length : Int) == (0 : Int), ()) = (true, ())) ∧ (((tno d [] q d (List.take n.toNat (List.replicate n.toNat (0 : Fr)))).snd == (32 : Int)) = false → (false, ()) = (true, ()))) ∧ ((e == (32 : Int)) = false → (false, ()) = (true, ()))) ∧ (decide ((↑q.length : Int) < lst d []) = false → (feE b n need d q s (c, e)).triv (lst d [] ≤ (↑q.length : Int))))) (by kernel_rfl) ?_
    refine ⟨trivial, fun h => ?_, fun h => triv_intro (by have := of_decide_eq_false h; omega)⟩
    have hlt' := of_decide_eq_true h
    have hje := hJb (by omega)
    rw [← hy] at hje
    have hc : c = [] := congrArg Prod.fst hje
    have he : e = 32 := congrArg Prod.snd hje
    have ht : ∀ sh, (tno d [] q d sh).2 = 32 := fun sh => by rw [tno, opq_eq, totF, hjb (by omega)]; rfl
    subst hc he
    rw [ht]
    exact ⟨⟨by omega, by omega, by omega, by omega⟩, by omega, ⟨by show 0 < _; omega, by show q.length < _; omega, by show d.length < _; omega⟩, fun _ => ⟨fun _ => rfl, fun h => absurd h (by decide)⟩, fun h => absurd h (by decide)⟩
  have hce := hJ hle
  rw [← hy] at hce
  have hc : c = cmt (jP (plD b need) [] q q.length) := congrArg Prod.fst hce
  have he : e = 0 := congrArg Prod.snd hce
  have hq1 : 1 ≤ q.length := by have := dn_lst hn1 hn4; rw [← hd] at this; omega
  have hQl := jP_len (pl := plD b need) (ws := []) (tk := q) (n := need.toNat) (fun x => by rw [plD, mdP_len]) q.length
  have hs0 : s = pat (jP (plD b need) [] q q.length) 0 := by
    rw [es, smZ_eq, List.filter_reverse, hqf, List.map_reverse, sm_rev, pat_jP0 _ q q.length (Nat.le_refl _), List.take_length]
  have hTot : ∀ x, tno d [] q d (d.map fun y => pat (plD b need y) x) = (pat (jP (plD b need) [] q q.length) x, 0) := fun x => by
    rw [tno, opq_eq, totF, hjg hle, totT, if_pos rfl, if_pos ?_, tS_pat (pl := plD b need) (t := x) (fun y hy => (tix_map (fun y => pat (plD b need y) x) (hqd y hy)).2) q.length (Nat.le_refl _)]
    exact List.all_eq_true.2 fun y hy => (tix_map (fun y => pat (plD b need y) x) (hqd y hy)).1
  generalize hQ : jP (plD b need) [] q q.length = Q at *
  have hcl : (c.length : Int) = need := by
    have := hQl.2 (by omega)
    rw [hc, cmt, List.length_map]; omega
  have hkey : cto c 0 = g1.gmul g1.gG s := by rw [cto, opq_eq, hc, cat_cmt (by decide), hs0]
  refine tr_cut hsp mixed 4 (feK b n need d q s c (0, 0, [])) True ?_ (fun _ => ?_)
  · refine vcx (X := (((e != (0 : Int)) = true → (false, ()) = (true, ())) ∧ ((e != (0 : Int)) = false → (((↑c.length : Int) != need) = true → (false, ()) = (true, ())) ∧ (((↑c.length : Int) != need) = false → preDKey (c, ()) ∧ True ∧ True ∧ ((!eqC (Kd.fp.pair Kd.fp) (cto c (0 : Int)) (g1.gmul g1.gG s)) = true → (false, ()) = (true, ())) ∧ ((!eqC (Kd.fp.pair Kd.fp) (cto c (0 : Int)) (g1.gmul g1.gG s)) = false → (feK b n need d q s c ((0 : Int), (0 : Nat), [])).triv True))))) (by kernel_rfl) ?_
    refine ⟨fun h => absurd h (by rw [he]; decide), fun _ => ⟨fun h => absurd h (by rw [hcl]; simp), fun _ => ⟨by show c.length < _; omega, trivial, trivial, fun h => ?_, fun _ => triv_intro trivial⟩⟩⟩
    rw [eqP, hkey, decide_eq_true rfl] at h
    cases h
  refine tr_whileT (fun σ => [(440, rdI 21 σ)]) (fun σ => (rdS iK 147 σ, rdL 21 σ, rdR .fr 440 σ)) (feK b n need d q s c) (fkJ d Q) (fun g => d.length - g.1.toNat)
    (fun σ => (rdS iK 147 σ, rdL 21 σ, rdR .fr 440 σ)) (feK b n need d q s c) (fun g => g.2.2 = d.map (pat Q) ∧ g.2.1 = d.length) (0, 0, []) (c := nthC (codeOf Try.f6) 23) (by kernel_rfl) (by kernel_rfl) (le_of_proj (by kernel_rfl) (by kernel_rfl) ?_) ?_ ?_
  · exact ⟨0, Nat.zero_le _, rfl, rfl, rfl⟩
  · rintro ⟨i, mt, ts⟩ hj
    revert i ts
    intro (i : Int) (ts : List Fr) ⟨k, hk, ei, ets, emt⟩
    have ei : i = (k : Int) := ei
    have kts : ts = (d.take k).map (pat Q) := ets
    have kmt : mt = k := emt
    subst ei
    refine tr_cut hsp mixed 2 (feK b n need d q s c ((k : Int), mt, ts)) (k < d.length) ?_ (fun hlt => ?_)
    · refine vcx (X := ((decide ((↑k : Int) < (↑d.length : Int)) = true → (feK b n need d q s c ((↑k : Int), mt, ts)).triv (k < d.length)) ∧ (decide ((↑k : Int) < (↑d.length : Int)) = false → (feK b n need d q s c ((↑k : Int), mt, ts)).triv (ts = List.map (pat Q) d ∧ mt = d.length)))) (by kernel_rfl) ?_
      refine ⟨fun h => triv_intro (by have := dec_lt h; omega), fun h => triv_intro ?_⟩
      have : k = d.length := by have := dec_ge h; omega
      exact ⟨by rw [kts, this, List.take_length], by rw [kmt, this]⟩
    refine tr_block (c := nthC (loopOf (nthC (codeOf Try.f6) 23)) 2) (by kernel_rfl) (by kernel_rfl) ?_
    refine tr_cutF hsp mixed 3 (fun σ => rdS iK 23 σ) (fun x => feL b n need d q s c k mt ts x (0, 0, [])) (fun x => x = d.getD k 0) ?_ ?_
    · refine vcx (X := (((0 : Int) ≤ (↑k : Int) ∧ (↑k : Int) < (↑d.length : Int)) ∧ (↑k : Int).toNat < d.length ∧ (feL b n need d q s c k mt ts (d.getD (↑k : Int).toNat (0 : Int)) ((0 : Int), (0 : Nat), [])).triv (d.getD (↑k : Int).toNat (0 : Int) = d.getD k (0 : Int)))) (by kernel_rfl) ?_
      rw [Int.toNat_natCast]
      exact ⟨⟨by omega, by omega⟩, hlt, triv_intro rfl⟩
    intro (x : Int) (hx : x = d.getD k 0)
    have hxd : d.getD k 0 = d[k] := by rw [List.getD_eq_getElem?_getD, List.getElem?_eq_getElem hlt, Option.getD_some]
    have hx4 : 1 ≤ x ∧ x ≤ 4 := by
      have hm : x ∈ dn n := by rw [← hd, hx, hxd]; exact List.getElem_mem hlt
      exact dn_mem hn4 hm
    refine tr_while hsp mixed (fun σ => [(504, rdI 24 σ)]) (fun σ => (rdS iK 154 σ, rdL 24 σ, rdR .fr 504 σ)) (feL b n need d q s c k mt ts x) (flJ b need d x) (fun g => d.length - g.1.toNat)
      (fun σ => (rdS iK 154 σ, rdL 24 σ, rdR .fr 504 σ)) (feL b n need d q s c k mt ts x) (fun g => g.2.2 = d.map (fun y => pat (plD b need y) x) ∧ g.2.1 = d.length) (0, 0, []) (c := nthC (bodyOf (nthC (loopOf (nthC (codeOf Try.f6) 23)) 2)) 3) (by kernel_rfl) (by kernel_rfl) (le_of_proj (by kernel_rfl) (by kernel_rfl) ?_) ?_ ?_
    · exact ⟨0, Nat.zero_le _, rfl, rfl, rfl⟩
    · rintro ⟨i, mu, us⟩ hj
      revert i us
      intro (i : Int) (us : List Fr) ⟨j, hjl, ei, eus, emu⟩
      have ei : i = (j : Int) := ei
      have kus : us = (d.take j).map (fun y => pat (plD b need y) x) := eus
      have kmu : mu = j := emu
      subst ei
      refine vcx (X := ((decide ((↑j : Int) < (↑d.length : Int)) = true → ((0 : Int) ≤ (↑j : Int) ∧ (↑j : Int) < (↑d.length : Int)) ∧ (↑j : Int).toNat < d.length ∧ preMade2 (b, d.getD (↑j : Int).toNat (0 : Int), need, ()) ∧ preAt (mdP b (d.getD (↑j : Int).toNat (0 : Int)) need.toNat, x, ()) ∧ (0 : Nat) + (1 : Nat) ≤ (1 : Nat) ∧ mu ≤ mu ∧ (mu + (1 : Nat)) * (32 : Nat) ≤ (140737488355328 : Nat) ∧ mu + (1 : Nat) ≤ (4611686018427387904 : Nat) ∧ (feL b n need d q s c k mt ts x (IntKind.i64.wrap ((↑j : Int) + (1 : Int)), mu + (1 : Nat), List.take mu us ++ List.take (1 : Nat) [pat (mdP b (d.getD (↑j : Int).toNat (0 : Int)) need.toNat) x])).triv (flJ b need d x (IntKind.i64.wrap ((↑j : Int) + (1 : Int)), mu + (1 : Nat), List.take mu us ++ List.take (1 : Nat) [pat (mdP b (d.getD (↑j : Int).toNat (0 : Int)) need.toNat) x]) ∧ d.length - (IntKind.i64.wrap ((↑j : Int) + (1 : Int))).toNat < d.length - (↑j : Int).toNat)) ∧ (decide ((↑j : Int) < (↑d.length : Int)) = false → (feL b n need d q s c k mt ts x ((↑j : Int), mu, us)).triv (us = List.map (fun y => pat (plD b need y) x) d ∧ mu = d.length)))) (by kernel_rfl) ?_
      rw [Int.toNat_natCast]
      refine ⟨fun h => ?_, fun h => triv_intro ?_⟩
      · have hjt : j < d.length := by have := dec_lt h; omega
        have hdj : d.getD j 0 = d[j] := by rw [List.getD_eq_getElem?_getD, List.getElem?_eq_getElem hjt, Option.getD_some]
        have hul : us.length = mu := by rw [kus, List.length_map, List.length_take]; omega
        rw [wrap_succ (by omega)]
        refine ⟨⟨by omega, by omega⟩, hjt, ⟨⟨hb, by show b.length ≤ _; omega⟩, by show 0 ≤ need; omega, by show need ≤ 1000; omega⟩, ⟨by show (mdP b (d.getD j 0) need.toNat).length < _; rw [mdP_len]; omega, by omega, by omega⟩, by omega, by omega, by omega, by omega, triv_intro ⟨⟨j + 1, hjt, rfl, ?_, by show mu + 1 = j + 1; omega⟩, by rw [Int.toNat_natCast]; omega⟩⟩
        show List.take mu us ++ [pat (mdP b (d.getD j 0) need.toNat) x] = _
        rw [← hul, List.take_length, kus, List.take_succ_eq_append_getElem hjt, List.map_append, hdj]; rfl
      · have : j = d.length := by have := dec_ge h; omega
        exact ⟨by rw [kus, this, List.take_length], by rw [kmu, this]⟩
    rintro ⟨i, mu, us⟩ hj
    revert i us
    intro (i : Int) (us : List Fr) ⟨eus, emu⟩
    have eus : us = d.map (fun y => pat (plD b need y) x) := eus
    have emu : mu = d.length := emu
    refine tr_cutF hsp mixed 1 (fun σ => (rdB .fr 640 σ, rdS iK 28 σ)) (feM b n need d q s c k mt ts x) (fun y => y = tno d [] q d us) ?_ ?_
    · refine vcx (X := ((0 : Nat) ≤ (0 : Nat) ∧ ((0 : Nat) + q.length) * (8 : Nat) ≤ (140737488355328 : Nat) ∧ (0 : Nat) + q.length ≤ (4611686018427387904 : Nat) ∧ (0 : Nat) ≤ (0 : Nat) ∧ ((0 : Nat) + d.length) * (8 : Nat) ≤ (140737488355328 : Nat) ∧ (0 : Nat) + d.length ≤ (4611686018427387904 : Nat) ∧ (0 : Nat) + ((0 : Nat) + q.length) ≤ (0 : Nat) + q.length ∧ (0 : Nat) + ((0 : Nat) + d.length) ≤ (0 : Nat) + d.length ∧ (0 : Nat) + mu ≤ mu ∧ preTotal ((d, d, need, []), List.take ((0 : Nat) + q.length) (List.take (0 : Nat) [] ++ q), List.take ((0 : Nat) + d.length) (List.take (0 : Nat) [] ++ d), List.take mu us, ()) ∧ (feM b n need d q s c k mt ts x (((tno d [] (List.take ((0 : Nat) + q.length) (List.take (0 : Nat) [] ++ q)) (List.take ((0 : Nat) + d.length) (List.take (0 : Nat) [] ++ d)) (List.take mu us)).fst, (tno d [] (List.take ((0 : Nat) + q.length) (List.take (0 : Nat) [] ++ q)) (List.take ((0 : Nat) + d.length) (List.take (0 : Nat) [] ++ d)) (List.take mu us)).snd, ()).fst, (tno d [] (List.take ((0 : Nat) + q.length) (List.take (0 : Nat) [] ++ q)) (List.take ((0 : Nat) + d.length) (List.take (0 : Nat) [] ++ d)) (List.take mu us)).snd)).triv (((tno d [] (List.take ((0 : Nat) + q.length) (List.take (0 : Nat) [] ++ q)) (List.take ((0 : Nat) + d.length) (List.take (0 : Nat) [] ++ d)) (List.take mu us)).fst, (tno d [] (List.take ((0 : Nat) + q.length) (List.take (0 : Nat) [] ++ q)) (List.take ((0 : Nat) + d.length) (List.take (0 : Nat) [] ++ d)) (List.take mu us)).snd) = tno d [] q d us))) (by kernel_rfl) ?_
      have hul : us.length = mu := by rw [eus, List.length_map, emu]
      have tk0 : ∀ l : List Int, List.take (0 + l.length) (List.take 0 [] ++ l) = l := fun l => by rw [List.take_zero, List.nil_append, Nat.zero_add, List.take_length]
      rw [tk0, tk0, ← hul, List.take_length]
      exact ⟨by omega, by omega, by omega, by omega, by omega, by omega, by omega, by omega, by omega, ⟨by show 0 < _; omega, by show q.length < _; omega, by show d.length < _; omega⟩, triv_intro rfl⟩
    rintro ⟨t, f⟩ hy
    revert t f
    intro (t : Fr) (f : Int) hy
    rw [eus, hTot x] at hy
    have ht : t = pat Q x := congrArg Prod.fst hy
    have hf : f = 0 := congrArg Prod.snd hy
    refine tr_cutSF hsp mixed 3 (fun σ => [(440, rdI 21 σ)]) (fun σ => (rdS iK 147 σ, rdL 21 σ, rdR .fr 440 σ)) (feK b n need d q s c) (fun g => g.1 = (k : Int) ∧ fkJ d Q (((k + 1 : Nat) : Int), g.2)) ?_ ?_
    · refine vcx (X := (((f != (0 : Int)) = true → (false, ()) = (true, ())) ∧ ((f != (0 : Int)) = false → preFits (c, x, t, ()) ∧ ((!fto c x t) = true → (false, ()) = (true, ())) ∧ ((!fto c x t) = false → (0 : Nat) + (1 : Nat) ≤ (1 : Nat) ∧ mt ≤ mt ∧ (mt + (1 : Nat)) * (32 : Nat) ≤ (140737488355328 : Nat) ∧ mt + (1 : Nat) ≤ (4611686018427387904 : Nat) ∧ (feK b n need d q s c ((↑k : Int), mt + (1 : Nat), List.take mt ts ++ List.take (1 : Nat) [t])).triv ((↑k : Int) = (↑k : Int) ∧ fkJ d Q ((↑(k + (1 : Nat)) : Int), mt + (1 : Nat), List.take mt ts ++ List.take (1 : Nat) [t])))))) (by kernel_rfl) ?_
      have htl : ts.length = mt := by rw [kts, List.length_map, List.length_take]; omega
      have hfit : fto c x t = true := by rw [fto, opq_eq, hc, fit_cmt ⟨by omega, by omega⟩, ht, decide_eq_true rfl]
      refine ⟨fun h => absurd h (by rw [hf]; decide), fun _ => ⟨⟨by show c.length < _; omega, by omega, by omega⟩, fun h => absurd h (by rw [hfit]; decide), fun _ => ⟨by omega, by omega, by omega, by omega, triv_intro ⟨rfl, k + 1, hlt, rfl, ?_, by show mt + 1 = k + 1; omega⟩⟩⟩⟩
      show List.take mt ts ++ [t] = _
      rw [← htl, List.take_length, kts, List.take_succ_eq_append_getElem hlt, List.map_append, ht, hx, hxd]; rfl
    rintro ⟨i, m', ts'⟩ hj
    revert i ts'
    intro (i : Int) (ts' : List Fr) ⟨ei, hj⟩
    have ei : i = (k : Int) := ei
    subst ei
    refine tr_nil ?_
    refine tr_vc hsp mixed _ _ ?_
    refine vcx (X := ((feK b n need d q s c (IntKind.i64.wrap ((↑k : Int) + (1 : Int)), m', ts')).triv (fkJ d Q (IntKind.i64.wrap ((↑k : Int) + (1 : Int)), m', ts') ∧ d.length - (IntKind.i64.wrap ((↑k : Int) + (1 : Int))).toNat < d.length - (↑k : Int).toNat))) (by kernel_rfl) ?_
    rw [wrap_succ (by omega)]
    exact triv_intro ⟨hj, by rw [Int.toNat_natCast, Int.toNat_natCast]; omega⟩
  rintro ⟨i, mt, ts⟩ hj
  revert i ts
  intro (i : Int) (ts : List Fr) ⟨ets, emt⟩
  have ets : ts = d.map (pat Q) := ets
  have emt : mt = d.length := emt
  refine tr_vc hsp mixed _ _ ?_
  refine vcx (X := (((0 : Int) ≤ IntKind.i64.wrap (n - need) ∧ IntKind.i64.wrap (n - need) ≤ (↑d.length : Int)) ∧ ((0 : Int) ≤ IntKind.i64.wrap (n - need) ∧ IntKind.i64.wrap (n - need) ≤ (↑mt : Int)) ∧ (IntKind.i64.wrap (n - need)).toNat + ((↑mt : Int) - IntKind.i64.wrap (n - need)).toNat ≤ mt ∧ preMixR (List.take ((↑d.length : Int) - IntKind.i64.wrap (n - need)).toNat (List.drop (IntKind.i64.wrap (n - need)).toNat d), List.take ((↑mt : Int) - IntKind.i64.wrap (n - need)).toNat (List.drop (IntKind.i64.wrap (n - need)).toNat ts), ()) ∧ preJoin ((d, d, need, []), q, [], ()) ∧ (((mno (List.take ((↑d.length : Int) - IntKind.i64.wrap (n - need)).toNat (List.drop (IntKind.i64.wrap (n - need)).toNat d)) (List.take ((↑mt : Int) - IntKind.i64.wrap (n - need)).toNat (List.drop (IntKind.i64.wrap (n - need)).toNat ts))).snd == (0 : Int)) = true → (eqC Kd.fr (mno (List.take ((↑d.length : Int) - IntKind.i64.wrap (n - need)).toNat (List.drop (IntKind.i64.wrap (n - need)).toNat d)) (List.take ((↑mt : Int) - IntKind.i64.wrap (n - need)).toNat (List.drop (IntKind.i64.wrap (n - need)).toNat ts))).fst s = true → ((jno d need [] q []).snd == (41 : Int), ()) = (true, ())) ∧ (eqC Kd.fr (mno (List.take ((↑d.length : Int) - IntKind.i64.wrap (n - need)).toNat (List.drop (IntKind.i64.wrap (n - need)).toNat d)) (List.take ((↑mt : Int) - IntKind.i64.wrap (n - need)).toNat (List.drop (IntKind.i64.wrap (n - need)).toNat ts))).fst s = false → (false, ()) = (true, ()))) ∧ (((mno (List.take ((↑d.length : Int) - IntKind.i64.wrap (n - need)).toNat (List.drop (IntKind.i64.wrap (n - need)).toNat d)) (List.take ((↑mt : Int) - IntKind.i64.wrap (n - need)).toNat (List.drop (IntKind.i64.wrap (n - need)).toNat ts))).snd == (0 : Int)) = false → (false, ()) = (true, ())))) (by kernel_rfl) ?_
  have hw : IntKind.i64.wrap (n - need) = n - need := wrap_i64' (by omega) (by omega)
  have hnd : (n - need).toNat ≤ d.length := by omega
  have e1 : List.take ((d.length : Int) - (n - need)).toNat (List.drop (n - need).toNat d) = d.drop (n - need).toNat := List.take_of_length_le (by rw [List.length_drop]; omega)
  have e2 : List.take ((mt : Int) - (n - need)).toNat (List.drop (n - need).toNat ts) = (d.drop (n - need).toNat).map (pat Q) := by
    rw [ets, ← List.map_drop]
    exact List.take_of_length_le (by rw [List.length_map, List.length_drop]; omega)
  rw [hw, e1, e2]
  have hpl : plE [] (d.drop (n - need).toNat) = 0 := by rw [hd]; exact dn_ple hn1 hn4 _
  have hsec : mno (d.drop (n - need).toNat) ((d.drop (n - need).toNat).map (pat Q)) = (s, 0) := by
    rw [mno, opq_eq, mix_ok hpl (by rw [List.length_drop]; omega), hs0]
  have hnil : jno d need [] q [] = ([], 41) := by
    have hno : ¬ q.all (dOk [] need) = true := fun h => by
      match q, hq1 with
      | y :: q', _ =>
        rw [List.all_cons, Bool.and_eq_true] at h
        have h1 := h.1
        rw [dOk, Bool.and_eq_true] at h1
        have h2 := of_decide_eq_true h1.1
        rw [dIx, opq_eq, idxP, if_neg (by simp)] at h2
        exact absurd h2 (by decide)
    rw [jno, opq_eq, joinF, hjg hle, joinT, if_pos rfl, if_neg hno]
  rw [hsec, hnil, eqR, decide_eq_true (show (s, (0 : Int)).1 = s from rfl)]
  refine ⟨⟨by omega, by omega⟩, ⟨by omega, by omega⟩, by omega, ⟨by show (d.drop _).length < _; rw [List.length_drop]; omega, fun x hx => ?_⟩, ⟨by show 0 < _; omega, by show q.length < _; omega, by show 0 < _; omega, by show need < _; omega⟩, fun _ => ⟨fun _ => rfl, fun h => by cases h⟩, fun h => by cases h⟩
  have hm : x ∈ dn n := by rw [← hd]; exact List.mem_of_mem_drop hx
  have := dn_mem hn4 hm
  exact ⟨by omega, by omega⟩
end Go.Proofs.Ytoflhakneklimaa.law22
/- deal: the proofs that fit, accusers, left, Qual. -/
namespace Go.Proofs.Ytoflhakneklimaa.deal
set_option maxRecDepth 100000
open Go Go.Eng Go.RowKit Cr Go.Proofs.Ytoflhakneklimaa Go.Proofs.Ytoflhakneklimaa.law14 Go.Proofs.Ytoflhakneklimaa.poly Go.Proofs.Ytoflhakneklimaa.law22
theorem ent_ixdb : enters Try.prog 81 Try.f81 := enters_mk (by kernel_rfl) (by kernel_rfl) (by kernel_rfl)
abbrev Pf : Type := Int × Int × Fr
/-- Does a proof show a dealer's share of a taker? -/
noncomputable def shw (x t : Int) (c : List (Fp × Fp)) (p : Pf) : Bool := opq (p.1 == x && (p.2.1 == t && fto c t p.2.2))
abbrev preShw : Int → List (Fp × Fp) → Prop := fun t c => List.length c < 4611686018427387904 ∧ preI t
theorem fn_ixdb : FnOk Try.prog 81 [proofK, .ptr iK, .ptr iK, .ptr (.sl pt1)] [.val .bool] noG (fun (_, _, t, c, _) => preShw t c) (fun (p, x, t, c, _) => (shw x t c p, ())) := by
  refine fn_of_vc (sp := sps [soFits]) (sps_cons (fnSpec_ok fo_fits) sps_nil) mixed ent_ixdb (by decide) (by decide) ?_
  rintro w M0 ⟨⟨d1, d2, d3⟩, x, t, c, ⟨⟩⟩
  revert d1 d2 d3 x t c
  intro (d1 : Int) (d2 : Int) (d3 : Fr) (x : Int) (t : Int) (c : List (Fp × Fp)) _ hp
  refine vcx (X := ((0 : Nat) < [x].length ∧ ((d1 == x) = true → (0 : Nat) < [t].length ∧ ((d2 == t) = true → (0 : Nat) < [c].length ∧ (0 : Nat) < [t].length ∧ preFits (c, t, d3, ()) ∧ (fto c t d3, ()) = (shw x t c (d1, d2, d3), ())) ∧ ((d2 == t) = false → (false, ()) = (shw x t c (d1, d2, d3), ()))) ∧ ((d1 == x) = false → (false, ()) = (shw x t c (d1, d2, d3), ())))) (by kernel_rfl) ?_
  have e : shw x t c (d1, d2, d3) = (d1 == x && (d2 == t && fto c t d3)) := by rw [shw, opq_eq]
  rw [e]
  refine ⟨Nat.zero_lt_one, fun h1 => ⟨Nat.zero_lt_one, fun h2 => ⟨Nat.zero_lt_one, Nat.zero_lt_one, hp, by rw [h1, h2]; rfl⟩, fun h2 => by rw [h1, h2]; rfl⟩, fun h1 => by rw [h1]; rfl⟩
noncomputable def spIxdb : Nat × Eng.Spec := (81, fnSpec [proofK, .ptr iK, .ptr iK, .ptr (.sl pt1)] [.val .bool] (fun (_, _, t, c, _) => preShw t c) (fun (p, x, t, c, _) => (shw x t c p, ())))
abbrev cloIxd : Kd := .cap (.cap (.cap (.fn 81) iK) iK) (.sl pt1)
theorem ent_ixd : enters Try.prog 98 Try.f98 := enters_mk (by kernel_rfl) (by kernel_rfl) (by kernel_rfl)
noncomputable def ixdI (xs : List Pf) (x t : Int) (c : List (Fp × Fp)) (g : Int) : St := mkSt Try.f98.ntmps 32 [(0, .is (.one (.ro proofK xs))), (1, .is (.one (.fv cloIxd ((((), x), t), c)))), (7, sI .i64 xs.length), (8, sI .i64 g)] []
theorem fn_ixd : FnOk Try.prog 98 [.sl proofK, cloIxd] [.val iK] noG (fun (xs, (((_, _), t), c), _) => List.length xs < 4611686018427387904 ∧ preShw t c) (fun (xs, (((_, x), t), c), _) => (idxP (shw x t c) xs, ())) := by
  have hsp : SpecsOk Try.prog (sps [spIxdb]) := sps_cons (fnSpec_ok fn_ixdb) sps_nil
  refine fn_of_tr (sp := sps [spIxdb]) ent_ixd (by decide) (by decide) (by kernel_rfl) ?_
  rintro w M0 ⟨xs, ⟨⟨⟨⟨⟩, x⟩, t⟩, c⟩, ⟨⟩⟩
  revert xs x t c
  intro (xs : List Pf) (c : List (Fp × Fp)) (t : Int) (x : Int) _ ⟨hl, hs⟩
  have hl : xs.length < 4611686018427387904 := hl
  show Tr _ _ _ _ _ _ _
  refine tr_cut hsp mixed 2 (ixdI xs x t c 0) True ?_ (fun _ => ?_)
  · refine vcx (X := ((ixdI xs x t c (0 : Int)).triv True)) (by kernel_rfl) ?_
    exact triv_intro trivial
  refine tr_while hsp mixed noSw (fun σ => rdS (.int .i64) 8 σ) (ixdI xs x t c) (fun g => ∃ k : Nat, k ≤ xs.length ∧ g = (k : Int) ∧ k ≤ xs.findIdx (shw x t c)) (fun g => xs.length - g.toNat)
    (fun _ => ()) (fun _ => mkSt Try.f98.ntmps 32 [] []) (fun _ => xs.length ≤ xs.findIdx (shw x t c)) 0 (c := nthC (codeOf Try.f98) 2) (by kernel_rfl) (by kernel_rfl) (le_of_proj (by kernel_rfl) (by kernel_rfl) ?_) ?_ ?_
  · exact ⟨0, Nat.zero_le _, rfl, Nat.zero_le _⟩
  · intro (i : Int) ⟨k, hk, ei, hn⟩
    subst ei
    refine vcx (X := ((decide ((↑k : Int) < (↑xs.length : Int)) = true → ((0 : Int) ≤ (↑k : Int) ∧ (↑k : Int) < (↑xs.length : Int)) ∧ (↑k : Int).toNat < xs.length ∧ preShw t c ∧ (shw x t c (xs.getD (↑k : Int).toNat ((0 : Int), (0 : Int), (0 : Fr))) = true → ((↑k : Int), ()) = (idxP (shw x t c) xs, ())) ∧ (shw x t c (xs.getD (↑k : Int).toNat ((0 : Int), (0 : Int), (0 : Fr))) = false → (ixdI xs x t c (IntKind.i64.wrap ((↑k : Int) + (1 : Int)))).triv ((∃ k_1, k_1 ≤ xs.length ∧ IntKind.i64.wrap ((↑k : Int) + (1 : Int)) = (↑k_1 : Int) ∧ k_1 ≤ List.findIdx (shw x t c) xs) ∧ xs.length - (IntKind.i64.wrap ((↑k : Int) + (1 : Int))).toNat < xs.length - (↑k : Int).toNat))) ∧ (decide ((↑k : Int) < (↑xs.length : Int)) = false → (mkSt Try.f98.ntmps (32 : Nat) [] []).triv (xs.length ≤ List.findIdx (shw x t c) xs)))) (by kernel_rfl) ?_
    rw [Int.toNat_natCast]
    refine ⟨fun h => ?_, fun h => triv_intro (by have := dec_ge h; omega)⟩
    have hlt : k < xs.length := by have := dec_lt h; omega
    rw [wrap_succ (by omega)]
    refine ⟨⟨by omega, by omega⟩, hlt, hs, fun h2 => ?_, fun h2 => triv_intro ⟨⟨k + 1, hlt, rfl, idxP_step ((0 : Int), (0 : Int), (0 : Fr)) hlt hn (by exact h2)⟩, by rw [Int.toNat_natCast]; omega⟩⟩
    show ((k : Int), ()) = (idxP _ xs, ())
    rw [idxP_at ((0 : Int), (0 : Int), (0 : Fr)) hlt hn (by exact h2)]
  rintro ⟨⟩ (hn : _ ≤ _)
  refine tr_vc hsp mixed _ _ ?_
  refine vcx (X := (((-1 : Int), ()) = (idxP (shw x t c) xs, ()))) (by kernel_rfl) ?_
  show _ = (idxP _ xs, ())
  rw [idxP_end hn]
noncomputable def spIxd : Nat × Eng.Spec := (98, fnSpec [.sl proofK, cloIxd] [.val iK] (fun (xs, (((_, _), t), c), _) => List.length xs < 4611686018427387904 ∧ preShw t c) (fun (xs, (((_, x), t), c), _) => (idxP (shw x t c) xs, ())))
theorem ent_cfd : enters Try.prog 80 Try.f80 := enters_mk (by kernel_rfl) (by kernel_rfl) (by kernel_rfl)
/-- Is one of the proofs such? -/
noncomputable def anyP (ps : List Pf) (x t : Int) (c : List (Fp × Fp)) : Bool := opq (ps.any (shw x t c))
theorem fn_cfd : FnOk Try.prog 80 [.sl proofK, cloIxd] [.val .bool] noG (fun (xs, (((_, _), t), c), _) => List.length xs < 4611686018427387904 ∧ preShw t c) (fun (xs, (((_, x), t), c), _) => (anyP xs x t c, ())) := by
  refine fn_of_vc (sp := sps [spIxd]) (sps_cons (fnSpec_ok fn_ixd) sps_nil) mixed ent_cfd (by decide) (by decide) ?_
  rintro w M0 ⟨xs, ⟨⟨⟨⟨⟩, x⟩, t⟩, c⟩, ⟨⟩⟩
  revert xs x t c
  intro (xs : List Pf) (c : List (Fp × Fp)) (t : Int) (x : Int) _ hp
  refine vcx (X := ((xs.length < (4611686018427387904 : Nat) ∧ preShw t c) ∧ (decide (idxP (shw x t c) xs ≥ (0 : Int)), ()) = (anyP xs x t c, ()))) (by kernel_rfl) ?_
  refine ⟨hp, ?_⟩
  show (decide ((if xs.findIdx (shw x t c) < xs.length then ((xs.findIdx (shw x t c) : Nat) : Int) else -1) ≥ 0), ()) = (anyP xs x t c, ())
  rw [anyP, opq_eq]
  by_cases h : xs.findIdx (shw x t c) < xs.length
  · have h2 : xs.any (shw x t c) = true := List.any_eq_true.2 ⟨_, List.getElem_mem h, List.findIdx_getElem⟩
    rw [if_pos h, h2, decide_eq_true (by omega)]
  · have h2 : xs.any (shw x t c) = false := by
      cases hb : xs.any (shw x t c) with
      | false => rfl
      | true =>
        obtain ⟨y, hy, hp⟩ := List.any_eq_true.1 hb
        exact absurd (List.findIdx_lt_length_of_exists ⟨y, hy, hp⟩) h
    rw [if_neg h, h2]; rfl
noncomputable def spCfd : Nat × Eng.Spec := (80, fnSpec [.sl proofK, cloIxd] [.val .bool] (fun (xs, (((_, _), t), c), _) => List.length xs < 4611686018427387904 ∧ preShw t c) (fun (xs, (((_, x), t), c), _) => (anyP xs x t c, ())))
abbrev faultK : Kd := .pair iK (.sl iK)
abbrev Flt : Type := Int × List Int
/-- The takers that accuse a dealer, each once. -/
def accF (t : List Int) (x : Int) : List Flt → List Int → List Int
  | [], by' => by'
  | f :: fs, by' => accF t x fs (if f.1 ∈ t ∧ f.1 ∉ by' ∧ x ∈ f.2 then by' ++ [f.1] else by')
theorem acc_step (t : List Int) (x : Int) {fs : List Flt} {k : Nat} (l : List Int) (h : k < fs.length) : accF t x (fs.drop k) l = accF t x (fs.drop (k + 1)) (if (fs.getD k ((0 : Int), [])).1 ∈ t ∧ (fs.getD k ((0 : Int), [])).1 ∉ l ∧ x ∈ (fs.getD k ((0 : Int), [])).2 then l ++ [(fs.getD k ((0 : Int), [])).1] else l) := by
  have hg : fs.getD k ((0 : Int), []) = fs[k] := by rw [List.getD_eq_getElem?_getD, List.getElem?_eq_getElem h, Option.getD_some]
  rw [List.drop_eq_getElem_cons h, hg]; rfl
theorem getD_mem {fs : List Flt} {k : Nat} (h : k < fs.length) : fs.getD k ((0 : Int), []) ∈ fs := by
  rw [List.getD_eq_getElem?_getD, List.getElem?_eq_getElem h, Option.getD_some]
  exact List.getElem_mem h
theorem ent_acc : enters Try.prog 79 Try.f79 := enters_mk (by kernel_rfl) (by kernel_rfl) (by kernel_rfl)
abbrev preAcc : HL [setK, iK, .sl faultK] → Prop := fun ((_, t, _, _), _, fs, _) => List.length t < 1048576 ∧ List.length fs < 1048576 ∧ ∀ f ∈ (fs : List Flt), f.2.length < 4611686018427387904
abbrev outAcc : HL [setK, iK, .sl faultK] → HO [.own iK] := fun ((_, t, _, _), x, fs, _) => (accF t x fs [], ())
noncomputable def acI (d t : List Int) (n : Int) (o : List (Fp × Fp)) (x : Int) (fs : List Flt) (g : Int × Bool × Nat × List Int) : St := mkSt Try.f79.ntmps 48 [(1, sI .i64 x), (3, .is (.one (.ptr 0 0))), (7, bif g.2.1 then .is (.one (.v (.slice none 0 0))) else .is (.one (.sl 40 0 0 g.2.2.1 1))), (10, .is (.one (.ro faultK fs))), (11, sI .i64 fs.length), (12, sI .i64 g.1)] ((0, [.ro iK d, .ro iK t, .v (.int .i64 n), .ro pt1 o]) :: (bif g.2.1 then [] else [(40, [.ints .i64 g.2.2.1 g.2.2.2])]))
def acJ (t : List Int) (x : Int) (fs : List Flt) (g : Int × Bool × Nat × List Int) : Prop := ∃ k : Nat, k ≤ fs.length ∧ g.1 = (k : Int) ∧ accF t x (fs.drop k) g.2.2.2 = accF t x fs [] ∧ g.2.2.1 = g.2.2.2.length ∧ (g.2.1 = true → g.2.2.2 = []) ∧ g.2.2.2.length ≤ k
def acO (t : List Int) (x : Int) (fs : List Flt) (g : Int × Bool × Nat × List Int) : Prop := g.2.2.2 = accF t x fs [] ∧ g.2.2.1 = g.2.2.2.length ∧ (g.2.1 = true → g.2.2.2 = [])
theorem fn_acc : FnOk Try.prog 79 [setK, iK, .sl faultK] [.own iK] noG preAcc outAcc := by
  have hsp : SpecsOk Try.prog (sps [spContains]) := sps_cons (fnSpec_ok fn_contains) sps_nil
  refine fn_of_tr (sp := sps [spContains]) ent_acc (by decide) (by decide) (by kernel_rfl) ?_
  rintro w M0 ⟨⟨d, t, n, o⟩, x, fs, ⟨⟩⟩
  revert d t n o x fs
  intro (d : List Int) (t : List Int) (n : Int) (o : List (Fp × Fp)) (x : Int) (fs : List Flt) _ hp
  obtain ⟨ht, hfs, hfl⟩ := hp
  have ht : t.length < 1048576 := ht
  have hfs : fs.length < 1048576 := hfs
  have hfl : ∀ f ∈ fs, f.2.length < 4611686018427387904 := hfl
  show Tr _ _ _ _ _ _ _
  refine tr_cut hsp mixed 3 (acI d t n o x fs (0, true, 0, [])) True ?_ (fun _ => ?_)
  · refine vcx (X := ((acI d t n o x fs ((0 : Int), true, (0 : Nat), [])).triv True)) (by kernel_rfl) ?_
    exact triv_intro trivial
  refine tr_while hsp mixed (fun σ => [(40, rdJ 40 7 σ)]) (fun σ => (rdS iK 12 σ, rdE 7 σ, rdL 7 σ, rdR iK 40 σ)) (acI d t n o x fs) (acJ t x fs) (fun g => fs.length - g.1.toNat)
    (fun σ => (rdS iK 12 σ, rdE 7 σ, rdL 7 σ, rdR iK 40 σ)) (acI d t n o x fs) (acO t x fs) (0, true, 0, []) (c := nthC (codeOf Try.f79) 3) (by kernel_rfl) (by kernel_rfl) (le_of_proj (by kernel_rfl) (by kernel_rfl) ?_) ?_ ?_
  · exact ⟨0, Nat.zero_le _, rfl, rfl, rfl, fun _ => rfl, Nat.le_refl _⟩
  · rintro ⟨i, e, m, l⟩ hj
    revert i l
    intro (i : Int) (l : List Int) ⟨k, hk, ei, ea, em, el, elk⟩
    have ei : i = (k : Int) := ei
    have ea : accF t x (fs.drop k) l = accF t x fs [] := ea
    have km : m = l.length := em
    have elk : l.length ≤ k := elk
    subst ei
    cases e with
    | true =>
      have hl : l = [] := el rfl
      subst hl
      have hm : m = 0 := km
      subst hm
      refine vcx (X := ((decide ((↑k : Int) < (↑fs.length : Int)) = true → ((0 : Int) ≤ (↑k : Int) ∧ (↑k : Int) < (↑fs.length : Int)) ∧ (↑k : Int).toNat < fs.length ∧ preIn (t, (fs.getD (↑k : Int).toNat ((0 : Int), [])).fst, ()) ∧ (decide ((fs.getD (↑k : Int).toNat ((0 : Int), [])).fst ∈ t) = true → preIn ([], (fs.getD (↑k : Int).toNat ((0 : Int), [])).fst, ()) ∧ ((!decide ((fs.getD (↑k : Int).toNat ((0 : Int), [])).fst ∈ [])) = true → preIn ((fs.getD (↑k : Int).toNat ((0 : Int), [])).snd, x, ()) ∧ (decide (x ∈ (fs.getD (↑k : Int).toNat ((0 : Int), [])).snd) = true → (0 : Nat) + (1 : Nat) ≤ (1 : Nat) ∧ (1 : Nat) * (8 : Nat) ≤ (140737488355328 : Nat) ∧ (1 : Nat) ≤ (4611686018427387904 : Nat) ∧ (acI d t n o x fs (IntKind.i64.wrap ((↑k : Int) + (1 : Int)), false, (1 : Nat), [(fs.getD (↑k : Int).toNat ((0 : Int), [])).fst])).triv (acJ t x fs (IntKind.i64.wrap ((↑k : Int) + (1 : Int)), false, (1 : Nat), [(fs.getD (↑k : Int).toNat ((0 : Int), [])).fst]) ∧ fs.length - (IntKind.i64.wrap ((↑k : Int) + (1 : Int))).toNat < fs.length - (↑k : Int).toNat)) ∧ (decide (x ∈ (fs.getD (↑k : Int).toNat ((0 : Int), [])).snd) = false → (acI d t n o x fs (IntKind.i64.wrap ((↑k : Int) + (1 : Int)), true, (0 : Nat), [])).triv (acJ t x fs (IntKind.i64.wrap ((↑k : Int) + (1 : Int)), true, (0 : Nat), []) ∧ fs.length - (IntKind.i64.wrap ((↑k : Int) + (1 : Int))).toNat < fs.length - (↑k : Int).toNat))) ∧ ((!decide ((fs.getD (↑k : Int).toNat ((0 : Int), [])).fst ∈ [])) = false → (acI d t n o x fs (IntKind.i64.wrap ((↑k : Int) + (1 : Int)), true, (0 : Nat), [])).triv (acJ t x fs (IntKind.i64.wrap ((↑k : Int) + (1 : Int)), true, (0 : Nat), []) ∧ fs.length - (IntKind.i64.wrap ((↑k : Int) + (1 : Int))).toNat < fs.length - (↑k : Int).toNat))) ∧ (decide ((fs.getD (↑k : Int).toNat ((0 : Int), [])).fst ∈ t) = false → (acI d t n o x fs (IntKind.i64.wrap ((↑k : Int) + (1 : Int)), true, (0 : Nat), [])).triv (acJ t x fs (IntKind.i64.wrap ((↑k : Int) + (1 : Int)), true, (0 : Nat), []) ∧ fs.length - (IntKind.i64.wrap ((↑k : Int) + (1 : Int))).toNat < fs.length - (↑k : Int).toNat))) ∧ (decide ((↑k : Int) < (↑fs.length : Int)) = false → (acI d t n o x fs ((↑k : Int), true, (0 : Nat), [])).triv (acO t x fs ((↑k : Int), true, (0 : Nat), []))))) (by kernel_rfl) ?_
      rw [Int.toNat_natCast]
      refine ⟨fun h => ?_, fun h => triv_intro ?_⟩
      · have hlt : k < fs.length := by have := dec_lt h; omega
        have hmu : fs.length - ((k + 1 : Nat) : Int).toNat < fs.length - (k : Int).toNat := by rw [Int.toNat_natCast, Int.toNat_natCast]; omega
        have hst := acc_step t x [] hlt
        rw [ea] at hst
        have hf2 := hfl _ (getD_mem hlt)
        rw [wrap_succ (by omega)]
        have hno : ¬ ((fs.getD k ((0 : Int), [])).1 ∈ t ∧ (fs.getD k ((0 : Int), [])).1 ∉ ([] : List Int) ∧ x ∈ (fs.getD k ((0 : Int), [])).2) → acJ t x fs (((k + 1 : Nat) : Int), true, 0, []) := fun hc => by
          rw [if_neg hc] at hst
          exact ⟨k + 1, hlt, rfl, hst.symm, rfl, fun _ => rfl, Nat.zero_le _⟩
        refine ⟨⟨by omega, by omega⟩, hlt, by show t.length < _; omega, fun h1 => ⟨by show (0 : Nat) < 4611686018427387904; decide, fun _ => ⟨hf2, fun h3 => ⟨by decide, by decide, by decide, triv_intro ⟨?_, hmu⟩⟩, fun h3 => triv_intro ⟨hno fun c => of_decide_eq_false h3 c.2.2, hmu⟩⟩, fun h2 => absurd h2 (by simp)⟩, fun h1 => triv_intro ⟨hno fun c => of_decide_eq_false h1 c.1, hmu⟩⟩
        rw [if_pos ⟨of_decide_eq_true h1, by simp, of_decide_eq_true h3⟩] at hst
        exact ⟨k + 1, hlt, rfl, hst.symm, rfl, fun h => (by cases h), by show 1 ≤ k + 1; omega⟩
      · have : k = fs.length := by have := dec_ge h; omega
        rw [this, List.drop_length] at ea
        exact ⟨ea, rfl, fun _ => rfl⟩
    | false =>
      refine vcx (X := ((decide ((↑k : Int) < (↑fs.length : Int)) = true → ((0 : Int) ≤ (↑k : Int) ∧ (↑k : Int) < (↑fs.length : Int)) ∧ (↑k : Int).toNat < fs.length ∧ preIn (t, (fs.getD (↑k : Int).toNat ((0 : Int), [])).fst, ()) ∧ (decide ((fs.getD (↑k : Int).toNat ((0 : Int), [])).fst ∈ t) = true → (0 : Nat) + m ≤ m ∧ preIn (List.take m l, (fs.getD (↑k : Int).toNat ((0 : Int), [])).fst, ()) ∧ ((!decide ((fs.getD (↑k : Int).toNat ((0 : Int), [])).fst ∈ List.take m l)) = true → preIn ((fs.getD (↑k : Int).toNat ((0 : Int), [])).snd, x, ()) ∧ (decide (x ∈ (fs.getD (↑k : Int).toNat ((0 : Int), [])).snd) = true → (0 : Nat) + (1 : Nat) ≤ (1 : Nat) ∧ m ≤ m ∧ (m + (1 : Nat)) * (8 : Nat) ≤ (140737488355328 : Nat) ∧ m + (1 : Nat) ≤ (4611686018427387904 : Nat) ∧ (acI d t n o x fs (IntKind.i64.wrap ((↑k : Int) + (1 : Int)), false, m + (1 : Nat), List.take m l ++ List.take (1 : Nat) [(fs.getD (↑k : Int).toNat ((0 : Int), [])).fst])).triv (acJ t x fs (IntKind.i64.wrap ((↑k : Int) + (1 : Int)), false, m + (1 : Nat), List.take m l ++ List.take (1 : Nat) [(fs.getD (↑k : Int).toNat ((0 : Int), [])).fst]) ∧ fs.length - (IntKind.i64.wrap ((↑k : Int) + (1 : Int))).toNat < fs.length - (↑k : Int).toNat)) ∧ (decide (x ∈ (fs.getD (↑k : Int).toNat ((0 : Int), [])).snd) = false → (acI d t n o x fs (IntKind.i64.wrap ((↑k : Int) + (1 : Int)), false, m, l)).triv (acJ t x fs (IntKind.i64.wrap ((↑k : Int) + (1 : Int)), false, m, l) ∧ fs.length - (IntKind.i64.wrap ((↑k : Int) + (1 : Int))).toNat < fs.length - (↑k : Int).toNat))) ∧ ((!decide ((fs.getD (↑k : Int).toNat ((0 : Int), [])).fst ∈ List.take m l)) = false → (acI d t n o x fs (IntKind.i64.wrap ((↑k : Int) + (1 : Int)), false, m, l)).triv (acJ t x fs (IntKind.i64.wrap ((↑k : Int) + (1 : Int)), false, m, l) ∧ fs.length - (IntKind.i64.wrap ((↑k : Int) + (1 : Int))).toNat < fs.length - (↑k : Int).toNat))) ∧ (decide ((fs.getD (↑k : Int).toNat ((0 : Int), [])).fst ∈ t) = false → (acI d t n o x fs (IntKind.i64.wrap ((↑k : Int) + (1 : Int)), false, m, l)).triv (acJ t x fs (IntKind.i64.wrap ((↑k : Int) + (1 : Int)), false, m, l) ∧ fs.length - (IntKind.i64.wrap ((↑k : Int) + (1 : Int))).toNat < fs.length - (↑k : Int).toNat))) ∧ (decide ((↑k : Int) < (↑fs.length : Int)) = false → (acI d t n o x fs ((↑k : Int), false, m, l)).triv (acO t x fs ((↑k : Int), false, m, l))))) (by kernel_rfl) ?_
      rw [Int.toNat_natCast]
      refine ⟨fun h => ?_, fun h => triv_intro ?_⟩
      · have hlt : k < fs.length := by have := dec_lt h; omega
        have hmu : fs.length - ((k + 1 : Nat) : Int).toNat < fs.length - (k : Int).toNat := by rw [Int.toNat_natCast, Int.toNat_natCast]; omega
        have hst := acc_step t x l hlt
        rw [ea] at hst
        have hf2 := hfl _ (getD_mem hlt)
        simp only [wrap_succ (show k < 9223372036854775807 by omega), km, List.take_length]
        have hno : ¬ ((fs.getD k ((0 : Int), [])).1 ∈ t ∧ (fs.getD k ((0 : Int), [])).1 ∉ l ∧ x ∈ (fs.getD k ((0 : Int), [])).2) → acJ t x fs (((k + 1 : Nat) : Int), false, l.length, l) := fun hc => by
          rw [if_neg hc] at hst
          exact ⟨k + 1, hlt, rfl, hst.symm, rfl, fun h => (by cases h), by show l.length ≤ k + 1; omega⟩
        refine ⟨⟨by omega, by omega⟩, hlt, by show t.length < _; omega, fun h1 => ⟨by omega, by show l.length < _; omega, fun h2 => ⟨hf2, fun h3 => ⟨by decide, by omega, by omega, by omega, triv_intro ⟨?_, hmu⟩⟩, fun h3 => triv_intro ⟨hno fun c => of_decide_eq_false h3 c.2.2, hmu⟩⟩, fun h2 => triv_intro ⟨hno fun c => c.2.1 (by simpa using h2), hmu⟩⟩, fun h1 => triv_intro ⟨hno fun c => of_decide_eq_false h1 c.1, hmu⟩⟩
        rw [if_pos ⟨of_decide_eq_true h1, by simpa using h2, of_decide_eq_true h3⟩] at hst
        exact ⟨k + 1, hlt, rfl, hst.symm, by show l.length + 1 = (l ++ [(fs.getD k ((0 : Int), [])).1]).length; simp, fun h => (by cases h), by show (l ++ [(fs.getD k ((0 : Int), [])).1]).length ≤ k + 1; simp; omega⟩
      · have : k = fs.length := by have := dec_ge h; omega
        rw [this, List.drop_length] at ea
        exact ⟨ea, km, fun h => (by cases h)⟩
  rintro ⟨i, e, m, l⟩ ho
  revert i l
  intro (i : Int) (l : List Int) ⟨h1, h2, h3⟩
  have k1 : l = accF t x fs [] := h1
  have k2 : m = l.length := h2
  refine tr_vc hsp mixed _ _ ?_
  cases e with
  | true =>
    have hl : l = [] := h3 rfl
    refine vcx (X := (([], ()) = outAcc ((d, t, n, o), x, fs, ()))) (by kernel_rfl) ?_
    show _ = (accF t x fs [], ())
    rw [← k1, hl]
  | false =>
    refine vcx (X := ((0 : Nat) + m ≤ m ∧ (List.take m l, ()) = outAcc ((d, t, n, o), x, fs, ()))) (by kernel_rfl) ?_
    rw [k2, List.take_length]
    exact ⟨by omega, by show _ = (accF t x fs [], ()); rw [k1]⟩
noncomputable def spAcc : Nat × Eng.Spec := (79, fnSpec [setK, iK, .sl faultK] [.own iK] preAcc outAcc)
noncomputable def acco (t : List Int) (x : Int) (fs : List Flt) : List Int := opq (accF t x fs [])
theorem fo_acc : FnOk Try.prog 79 [setK, iK, .sl faultK] [.val (.sl iK)] noG preAcc (fun ((_, t, _, _), x, fs, _) => (acco t x fs, ())) := FnOk.out fn_acc.frz fun ((_, t, _, _), x, fs, _) => by show (acco t x fs, ()) = (accF t x fs [], ()); rw [acco, opq_eq]
noncomputable def soAcc : Nat × Eng.Spec := (79, fnSpec [setK, iK, .sl faultK] [.val (.sl iK)] preAcc (fun ((_, t, _, _), x, fs, _) => (acco t x fs, ())))
theorem fo_ixa : FnOk Try.prog 55 [.sl dealK, cloIxa] [.val iK] noG (fun (xs, _, _) => List.length xs < 4611686018427387904) (fun (xs, (_, x), _) => (dIx xs x, ())) := fn_ixa.out fun (xs, (_, x), _) => by show (dIx xs x, ()) = (idxP (fun d : Dl => d.1 == x) xs, ()); rw [dIx, opq_eq]
noncomputable def soIxa : Nat × Eng.Spec := (55, fnSpec [.sl dealK, cloIxa] [.val iK] (fun (xs, _, _) => List.length xs < 4611686018427387904) (fun (xs, (_, x), _) => (dIx xs x, ())))
theorem ent_left : enters Try.prog 52 Try.f52 := enters_mk (by kernel_rfl) (by kernel_rfl) (by kernel_rfl)
/-- Is a dealer left? -/
noncomputable def leftF (t : List Int) (n x : Int) (ds : List Dl) (fs : List Flt) (ps : List Pf) : Bool := dOk ds n x && (decide (((acco t x fs).length : Int) < n) && (acco t x fs).all fun y => anyP ps x y (dPub ds x))
abbrev preLeft : HL [setK, iK, .sl dealK, .sl faultK, .sl proofK] → Prop := fun ((_, t, n, _), _, ds, fs, ps, _) => (List.length t < 1048576 ∧ List.length fs < 1048576 ∧ (∀ f ∈ (fs : List Flt), f.2.length < 4611686018427387904)) ∧ List.length ds < 4611686018427387904 ∧ List.length ps < 4611686018427387904 ∧ (∀ y ∈ (t : List Int), preI y) ∧ n < 1048576
noncomputable abbrev outLeft : HL [setK, iK, .sl dealK, .sl faultK, .sl proofK] → HO [.val .bool] := fun ((_, t, n, _), x, ds, fs, ps, _) => (leftF t n x ds fs ps, ())
noncomputable def leA (d t : List Int) (n : Int) (o : List (Fp × Fp)) (x : Int) (ds : List Dl) (fs : List Flt) (ps : List Pf) (I : Int) : St := mkSt Try.f52.ntmps 56 [(2, .is (.one (.ro dealK ds))), (3, .is (.one (.ro faultK fs))), (4, .is (.one (.ro proofK ps))), (5, .is (.one (.ptr 0 0))), (6, .is (.one (.ptr 8 0))), (11, sI .i64 I)] [(8, [.v (.int .i64 x)]), (0, [.ro iK d, .ro iK t, .v (.int .i64 n), .ro pt1 o])]
noncomputable def leB (d t : List Int) (n : Int) (o : List (Fp × Fp)) (x : Int) (fs : List Flt) (ps : List Pf) (c : List (Fp × Fp)) : St := mkSt Try.f52.ntmps 216 [(3, .is (.one (.ro faultK fs))), (4, .is (.one (.ro proofK ps))), (5, .is (.one (.ptr 0 0))), (6, .is (.one (.ptr 8 0))), (12, .is (.one (.ptr 200 0)))] [(200, [.ro pt1 c]), (8, [.v (.int .i64 x)]), (0, [.ro iK d, .ro iK t, .v (.int .i64 n), .ro pt1 o])]
noncomputable def leC (d t : List Int) (n : Int) (o : List (Fp × Fp)) (x : Int) (ps : List Pf) (c : List (Fp × Fp)) (by' : List Int) : St := mkSt Try.f52.ntmps 216 [(4, .is (.one (.ro proofK ps))), (6, .is (.one (.ptr 8 0))), (12, .is (.one (.ptr 200 0))), (13, .is (.one (.ro iK by')))] [(200, [.ro pt1 c]), (8, [.v (.int .i64 x)])]
noncomputable def leD (x : Int) (ps : List Pf) (c : List (Fp × Fp)) (by' : List Int) (g : Int) : St := mkSt Try.f52.ntmps 216 [(4, .is (.one (.ro proofK ps))), (6, .is (.one (.ptr 8 0))), (12, .is (.one (.ptr 200 0))), (47, .is (.one (.ro iK by'))), (48, sI .i64 by'.length), (49, sI .i64 g)] [(200, [.ro pt1 c]), (8, [.v (.int .i64 x)])]
theorem acc_sub (t : List Int) (x : Int) : ∀ (fs : List Flt) (l : List Int), (∀ y ∈ l, y ∈ t) → ∀ y ∈ accF t x fs l, y ∈ t
  | [], l, h => h
  | f :: fs, l, h => acc_sub t x fs _ fun y hy => by
    split at hy
    · rename_i hc
      rcases List.mem_append.1 hy with hy | hy
      · exact h y hy
      · rw [List.mem_singleton] at hy; rw [hy]; exact hc.1
    · exact h y hy
theorem acc_len (t : List Int) (x : Int) : ∀ (fs : List Flt) (l : List Int), (accF t x fs l).length ≤ l.length + fs.length
  | [], l => Nat.le_refl _
  | f :: fs, l => by
    have := acc_len t x fs (if f.1 ∈ t ∧ f.1 ∉ l ∧ x ∈ f.2 then l ++ [f.1] else l)
    have h2 : (if f.1 ∈ t ∧ f.1 ∉ l ∧ x ∈ f.2 then l ++ [f.1] else l).length ≤ l.length + 1 := by split <;> simp
    show (accF t x fs _).length ≤ _
    simp only [List.length_cons]; omega
theorem fn_left : FnOk Try.prog 52 [setK, iK, .sl dealK, .sl faultK, .sl proofK] [.val .bool] noG preLeft outLeft := by
  have hsp : SpecsOk Try.prog (sps [soIxa, soAcc, spCfd]) := sps_cons (fnSpec_ok fo_ixa) (sps_cons (fnSpec_ok fo_acc) (sps_cons (fnSpec_ok fn_cfd) sps_nil))
  refine fn_of_tr (sp := sps [soIxa, soAcc, spCfd]) ent_left (by decide) (by decide) (by kernel_rfl) ?_
  rintro w M0 ⟨⟨d, t, n, o⟩, x, ds, fs, ps, ⟨⟩⟩
  revert d t n o x ds fs ps
  intro (d : List Int) (t : List Int) (n : Int) (o : List (Fp × Fp)) (x : Int) (ds : List Dl) (fs : List Flt) (ps : List Pf) _ hp
  obtain ⟨⟨ht, hfs, hfl⟩, hds, hps, hti, hn⟩ := hp
  have ht : t.length < 1048576 := ht
  have hfs : fs.length < 1048576 := hfs
  have hds : ds.length < 4611686018427387904 := hds
  have hps : ps.length < 4611686018427387904 := hps
  have hn : n < 1048576 := hn
  show Tr _ _ _ _ _ _ _
  refine tr_cut hsp mixed 2 (leA d t n o x ds fs ps (dIx ds x)) True ?_ (fun _ => ?_)
  · refine vcx (X := (ds.length < (4611686018427387904 : Nat) ∧ (leA d t n o x ds fs ps (dIx ds x)).triv True)) (by kernel_rfl) ?_
    exact ⟨hds, triv_intro trivial⟩
  generalize hI : dIx ds x = I
  have hidx : I.toNat < ds.length ∨ I < 0 := by
    rcases Int.lt_or_le I 0 with h | h
    · exact .inr h
    · left
      rw [← hI, dIx, opq_eq, idxP] at h ⊢
      split at h
      · rename_i h2; rw [if_pos h2]; omega
      · exact absurd h (by omega)
  have hbad : dOk ds n x = false → (false, ()) = outLeft ((d, t, n, o), x, ds, fs, ps, ()) := fun h => by
    show _ = (leftF t n x ds fs ps, ())
    rw [leftF, h]; rfl
  refine tr_cutF hsp mixed 3 (fun σ => rdB (.sl pt1) 200 σ) (leB d t n o x fs ps) (fun c => c = dPub ds x ∧ dOk ds n x = true) ?_ ?_
  · refine vcx (X := ((decide (I < (0 : Int)) = true → (false, ()) = outLeft ((d, t, n, o), x, ds, fs, ps, ())) ∧ (decide (I < (0 : Int)) = false → ((0 : Int) ≤ I ∧ I < (↑ds.length : Int)) ∧ I.toNat < ds.length ∧ (((↑(ds.getD I.toNat ((0 : Int), [])).snd.length : Int) != n) = true → (false, ()) = outLeft ((d, t, n, o), x, ds, fs, ps, ())) ∧ (((↑(ds.getD I.toNat ((0 : Int), [])).snd.length : Int) != n) = false → ((0 : Int) ≤ I ∧ I < (↑ds.length : Int)) ∧ I.toNat < ds.length ∧ (leB d t n o x fs ps (ds.getD I.toNat ((0 : Int), [])).snd).triv ((ds.getD I.toNat ((0 : Int), [])).snd = dPub ds x ∧ dOk ds n x = true))))) (by kernel_rfl) ?_
    have hP : (ds.getD I.toNat ((0 : Int), ([] : List (Fp × Fp)))).2 = dPub ds x := by rw [dPub, hI]
    rw [hP]
    refine ⟨fun h => hbad (by rw [dOk, hI, decide_eq_false (by have := of_decide_eq_true h; omega)]; rfl), fun h => ?_⟩
    have h0 : 0 ≤ I := by have := of_decide_eq_false h; omega
    have h1 : I.toNat < ds.length := by omega
    refine ⟨⟨h0, by omega⟩, h1, fun h2 => hbad ?_, fun h2 => ?_⟩
    · have h2 : ¬ ((dPub ds x).length : Int) = n := by simpa using h2
      rw [dOk, decide_eq_false h2, Bool.and_false]
    · have h2 : ((dPub ds x).length : Int) = n := by simpa using h2
      exact ⟨⟨h0, by omega⟩, h1, triv_intro ⟨rfl, by rw [dOk, hI, decide_eq_true h0, decide_eq_true h2]; rfl⟩⟩
  intro (c : List (Fp × Fp)) ⟨hc, hok⟩
  have hcn : c.length < 1048576 := by
    have h := hok
    rw [dOk, Bool.and_eq_true] at h
    have := of_decide_eq_true h.2
    rw [hc]; omega
  refine tr_cutF hsp mixed 3 (fun σ => rdO iK 13 σ) (leC d t n o x ps c) (fun l => l = acco t x fs ∧ ((acco t x fs).length : Int) < n) ?_ ?_
  · refine vcx (X := (preAcc ((d, t, n, o), x, fs, ()) ∧ (decide ((↑(acco t x fs).length : Int) ≥ n) = true → (false, ()) = outLeft ((d, t, n, o), x, ds, fs, ps, ())) ∧ (decide ((↑(acco t x fs).length : Int) ≥ n) = false → (leC d t n o x ps c (acco t x fs, ()).fst).triv (acco t x fs = acco t x fs ∧ (↑(acco t x fs).length : Int) < n)))) (by kernel_rfl) ?_
    refine ⟨⟨ht, hfs, hfl⟩, fun h => ?_, fun h => triv_intro ⟨rfl, by have := of_decide_eq_false h; omega⟩⟩
    show _ = (leftF t n x ds fs ps, ())
    rw [leftF, hok, decide_eq_false (show ¬ ((acco t x fs).length : Int) < n by have := of_decide_eq_true h; omega)]; rfl
  intro (by' : List Int) ⟨hby, hbn⟩
  have hbt : ∀ y ∈ by', y ∈ t := by
    rw [hby, acco, opq_eq]; exact acc_sub t x fs [] (by simp)
  have hbl : by'.length < 1048576 := by
    have := acc_len t x fs []
    rw [hby, acco, opq_eq]; simp at this; omega
  refine tr_cut hsp mixed 1 (leD x ps c by' 0) True ?_ (fun _ => ?_)
  · refine vcx (X := ((leD x ps c by' (0 : Int)).triv True)) (by kernel_rfl) ?_
    exact triv_intro trivial
  refine tr_while hsp mixed noSw (fun σ => rdS iK 49 σ) (leD x ps c by') (fun g => ∃ k : Nat, k ≤ by'.length ∧ g = (k : Int) ∧ ∀ y ∈ by'.take k, anyP ps x y c = true) (fun g => by'.length - g.toNat)
    (fun σ => rdS iK 49 σ) (leD x ps c by') (fun _ => by'.all (fun y => anyP ps x y c) = true) 0 (c := nthC (codeOf Try.f52) 9) (by kernel_rfl) (by kernel_rfl) (le_of_proj (by kernel_rfl) (by kernel_rfl) ?_) ?_ ?_
  · exact ⟨0, Nat.zero_le _, rfl, by simp⟩
  · intro (i : Int) ⟨k, hk, ei, hall⟩
    subst ei
    refine vcx (X := ((decide ((↑k : Int) < (↑by'.length : Int)) = true → ((0 : Int) ≤ (↑k : Int) ∧ (↑k : Int) < (↑by'.length : Int)) ∧ (↑k : Int).toNat < by'.length ∧ (ps.length < (4611686018427387904 : Nat) ∧ preShw (by'.getD (↑k : Int).toNat (0 : Int)) c) ∧ ((!anyP ps x (by'.getD (↑k : Int).toNat (0 : Int)) c) = true → (false, ()) = outLeft ((d, t, n, o), x, ds, fs, ps, ())) ∧ ((!anyP ps x (by'.getD (↑k : Int).toNat (0 : Int)) c) = false → (leD x ps c by' (IntKind.i64.wrap ((↑k : Int) + (1 : Int)))).triv ((∃ k_1, k_1 ≤ by'.length ∧ IntKind.i64.wrap ((↑k : Int) + (1 : Int)) = (↑k_1 : Int) ∧ ∀ (y : Int), y ∈ List.take k_1 by' → anyP ps x y c = true) ∧ by'.length - (IntKind.i64.wrap ((↑k : Int) + (1 : Int))).toNat < by'.length - (↑k : Int).toNat))) ∧ (decide ((↑k : Int) < (↑by'.length : Int)) = false → (leD x ps c by' (↑k : Int)).triv ((by'.all fun y => anyP ps x y c) = true)))) (by kernel_rfl) ?_
    rw [Int.toNat_natCast]
    refine ⟨fun h => ?_, fun h => triv_intro ?_⟩
    · have hlt : k < by'.length := by have := dec_lt h; omega
      have hg : by'.getD k 0 = by'[k] := by rw [List.getD_eq_getElem?_getD, List.getElem?_eq_getElem hlt, Option.getD_some]
      have hm : by'[k] ∈ by' := List.getElem_mem hlt
      rw [hg, wrap_succ (by omega)]
      refine ⟨⟨by omega, by omega⟩, hlt, ⟨hps, by omega, hti _ (hbt _ hm)⟩, fun h2 => ?_, fun h2 => triv_intro ⟨⟨k + 1, hlt, rfl, fun y hy => ?_⟩, by rw [Int.toNat_natCast]; omega⟩⟩
      · have h3 : anyP ps x by'[k] c = false := by simpa using h2
        have h4 : by'.all (fun y => anyP ps x y c) = false := by
          cases hb : by'.all (fun y => anyP ps x y c) with
          | false => rfl
          | true =>
            have := List.all_eq_true.1 hb _ hm
            rw [h3] at this; cases this
        show _ = (leftF t n x ds fs ps, ())
        rw [leftF, hok, decide_eq_true hbn, ← hby, ← hc, h4]; rfl
      · rw [List.take_succ_eq_append_getElem hlt, List.mem_append, List.mem_singleton] at hy
        rcases hy with hy | rfl
        · exact hall y hy
        · simpa using h2
    · have : k = by'.length := by have := dec_ge h; omega
      rw [this, List.take_length] at hall
      exact List.all_eq_true.2 hall
  intro (i : Int) hall
  refine tr_vc hsp mixed _ _ ?_
  refine vcx (X := ((true, ()) = outLeft ((d, t, n, o), x, ds, fs, ps, ()))) (by kernel_rfl) ?_
  show _ = (leftF t n x ds fs ps, ())
  rw [leftF, hok, decide_eq_true hbn, ← hby, ← hc, hall]; rfl
noncomputable def spLeft : Nat × Eng.Spec := (52, fnSpec [setK, iK, .sl dealK, .sl faultK, .sl proofK] [.val .bool] preLeft outLeft)
noncomputable def lefto (t : List Int) (n x : Int) (ds : List Dl) (fs : List Flt) (ps : List Pf) : Bool := opq (leftF t n x ds fs ps)
theorem fo_left : FnOk Try.prog 52 [setK, iK, .sl dealK, .sl faultK, .sl proofK] [.val .bool] noG preLeft (fun ((_, t, n, _), x, ds, fs, ps, _) => (lefto t n x ds fs ps, ())) := fn_left.out fun ((_, t, n, _), x, ds, fs, ps, _) => by show (lefto t n x ds fs ps, ()) = (leftF t n x ds fs ps, ()); rw [lefto, opq_eq]
noncomputable def soLeft : Nat × Eng.Spec := (52, fnSpec [setK, iK, .sl dealK, .sl faultK, .sl proofK] [.val .bool] preLeft (fun ((_, t, n, _), x, ds, fs, ps, _) => (lefto t n x ds fs ps, ())))
theorem ent_qual : enters Try.prog 26 Try.f26 := enters_mk (by kernel_rfl) (by kernel_rfl) (by kernel_rfl)
noncomputable def qualF (d t : List Int) (n : Int) (ds : List Dl) (fs : List Flt) (ps : List Pf) : List Int := d.filter fun x => lefto t n x ds fs ps
abbrev preQual : HL [setK, .sl dealK, .sl faultK, .sl proofK] → Prop := fun ((d, t, n, _), ds, fs, ps, _) => List.length d < 1048576 ∧ (List.length t < 1048576 ∧ List.length fs < 1048576 ∧ (∀ f ∈ (fs : List Flt), f.2.length < 4611686018427387904)) ∧ List.length ds < 4611686018427387904 ∧ List.length ps < 4611686018427387904 ∧ (∀ y ∈ (t : List Int), preI y) ∧ n < 1048576
noncomputable abbrev outQual : HL [setK, .sl dealK, .sl faultK, .sl proofK] → HO [.own iK] := fun ((d, t, n, _), ds, fs, ps, _) => (qualF d t n ds fs ps, ())
noncomputable def quI (d t : List Int) (n : Int) (o : List (Fp × Fp)) (ds : List Dl) (fs : List Flt) (ps : List Pf) (g : Int × Bool × Nat × List Int) : St := mkSt Try.f26.ntmps 56 [(1, .is (.one (.ro dealK ds))), (2, .is (.one (.ro faultK fs))), (3, .is (.one (.ro proofK ps))), (4, .is (.one (.ptr 0 0))), (9, bif g.2.1 then .is (.one (.v (.slice none 0 0))) else .is (.one (.sl 48 0 0 g.2.2.1 1))), (13, .is (.one (.ro iK d))), (14, sI .i64 d.length), (15, sI .i64 g.1)] ((0, [.ro iK d, .ro iK t, .v (.int .i64 n), .ro pt1 o]) :: (bif g.2.1 then [] else [(48, [.ints .i64 g.2.2.1 g.2.2.2])]))
noncomputable def quJ (d t : List Int) (n : Int) (ds : List Dl) (fs : List Flt) (ps : List Pf) (g : Int × Bool × Nat × List Int) : Prop := ∃ k : Nat, k ≤ d.length ∧ g.1 = (k : Int) ∧ g.2.2.2 = qualF (d.take k) t n ds fs ps ∧ g.2.2.1 = g.2.2.2.length ∧ (g.2.1 = true → g.2.2.2 = [])
noncomputable def quO (d t : List Int) (n : Int) (ds : List Dl) (fs : List Flt) (ps : List Pf) (g : Int × Bool × Nat × List Int) : Prop := g.2.2.2 = qualF d t n ds fs ps ∧ g.2.2.1 = g.2.2.2.length ∧ (g.2.1 = true → g.2.2.2 = [])
theorem qual_step {d t : List Int} {n : Int} {ds : List Dl} {fs : List Flt} {ps : List Pf} {k : Nat} (h : k < d.length) : qualF (d.take (k + 1)) t n ds fs ps = qualF (d.take k) t n ds fs ps ++ if lefto t n d[k] ds fs ps = true then [d[k]] else [] := by
  rw [qualF, List.take_succ_eq_append_getElem h, List.filter_append, qualF]
  congr 1
  by_cases hc : lefto t n d[k] ds fs ps = true
  · rw [if_pos hc, List.filter_cons_of_pos (by simpa using hc)]; rfl
  · rw [if_neg hc, List.filter_cons_of_neg (by simpa using hc)]; rfl
theorem fn_qual : FnOk Try.prog 26 [setK, .sl dealK, .sl faultK, .sl proofK] [.own iK] noG preQual outQual := by
  have hsp : SpecsOk Try.prog (sps [soLeft]) := sps_cons (fnSpec_ok fo_left) sps_nil
  refine fn_of_tr (sp := sps [soLeft]) ent_qual (by decide) (by decide) (by kernel_rfl) ?_
  rintro w M0 ⟨⟨d, t, n, o⟩, ds, fs, ps, ⟨⟩⟩
  revert d t n o ds fs ps
  intro (d : List Int) (t : List Int) (n : Int) (o : List (Fp × Fp)) (ds : List Dl) (fs : List Flt) (ps : List Pf) _ ⟨hd, hp⟩
  have hd : d.length < 1048576 := hd
  show Tr _ _ _ _ _ _ _
  refine tr_cut hsp mixed 3 (quI d t n o ds fs ps (0, true, 0, [])) True ?_ (fun _ => ?_)
  · refine vcx (X := ((quI d t n o ds fs ps ((0 : Int), true, (0 : Nat), [])).triv True)) (by kernel_rfl) ?_
    exact triv_intro trivial
  refine tr_while hsp mixed (fun σ => [(48, rdJ 48 9 σ)]) (fun σ => (rdS iK 15 σ, rdE 9 σ, rdL 9 σ, rdR iK 48 σ)) (quI d t n o ds fs ps) (quJ d t n ds fs ps) (fun g => d.length - g.1.toNat)
    (fun σ => (rdS iK 15 σ, rdE 9 σ, rdL 9 σ, rdR iK 48 σ)) (quI d t n o ds fs ps) (quO d t n ds fs ps) (0, true, 0, []) (c := nthC (codeOf Try.f26) 3) (by kernel_rfl) (by kernel_rfl) (le_of_proj (by kernel_rfl) (by kernel_rfl) ?_) ?_ ?_
  · exact ⟨0, Nat.zero_le _, rfl, rfl, rfl, fun _ => rfl⟩
  · rintro ⟨i, e, m, l⟩ hj
    revert i l
    intro (i : Int) (l : List Int) ⟨k, hk, ei, ea, em, el⟩
    have ei : i = (k : Int) := ei
    have ea : l = qualF (d.take k) t n ds fs ps := ea
    have km : m = l.length := em
    subst ei
    cases e with
    | true =>
      have hl : l = [] := el rfl
      subst hl
      have hm : m = 0 := km
      subst hm
      refine vcx (X := ((decide ((↑k : Int) < (↑d.length : Int)) = true → ((0 : Int) ≤ (↑k : Int) ∧ (↑k : Int) < (↑d.length : Int)) ∧ (↑k : Int).toNat < d.length ∧ preLeft ((d, t, n, o), d.getD (↑k : Int).toNat (0 : Int), ds, fs, ps, ()) ∧ (lefto t n (d.getD (↑k : Int).toNat (0 : Int)) ds fs ps = true → (0 : Nat) + (1 : Nat) ≤ (1 : Nat) ∧ (1 : Nat) * (8 : Nat) ≤ (140737488355328 : Nat) ∧ (1 : Nat) ≤ (4611686018427387904 : Nat) ∧ (quI d t n o ds fs ps (IntKind.i64.wrap ((↑k : Int) + (1 : Int)), false, (1 : Nat), [d.getD (↑k : Int).toNat (0 : Int)])).triv (quJ d t n ds fs ps (IntKind.i64.wrap ((↑k : Int) + (1 : Int)), false, (1 : Nat), [d.getD (↑k : Int).toNat (0 : Int)]) ∧ d.length - (IntKind.i64.wrap ((↑k : Int) + (1 : Int))).toNat < d.length - (↑k : Int).toNat)) ∧ (lefto t n (d.getD (↑k : Int).toNat (0 : Int)) ds fs ps = false → (quI d t n o ds fs ps (IntKind.i64.wrap ((↑k : Int) + (1 : Int)), true, (0 : Nat), [])).triv (quJ d t n ds fs ps (IntKind.i64.wrap ((↑k : Int) + (1 : Int)), true, (0 : Nat), []) ∧ d.length - (IntKind.i64.wrap ((↑k : Int) + (1 : Int))).toNat < d.length - (↑k : Int).toNat))) ∧ (decide ((↑k : Int) < (↑d.length : Int)) = false → (quI d t n o ds fs ps ((↑k : Int), true, (0 : Nat), [])).triv (quO d t n ds fs ps ((↑k : Int), true, (0 : Nat), []))))) (by kernel_rfl) ?_
      rw [Int.toNat_natCast]
      refine ⟨fun h => ?_, fun h => triv_intro ?_⟩
      · have hlt : k < d.length := by have := dec_lt h; omega
        have hg : d.getD k 0 = d[k] := by rw [List.getD_eq_getElem?_getD, List.getElem?_eq_getElem hlt, Option.getD_some]
        have hst := qual_step (t := t) (n := n) (ds := ds) (fs := fs) (ps := ps) hlt
        rw [← ea] at hst
        have hmu : d.length - ((k + 1 : Nat) : Int).toNat < d.length - (k : Int).toNat := by rw [Int.toNat_natCast, Int.toNat_natCast]; omega
        rw [hg, wrap_succ (by omega)]
        refine ⟨⟨by omega, by omega⟩, hlt, hp, fun h2 => ⟨by decide, by decide, by decide, triv_intro ⟨⟨k + 1, hlt, rfl, ?_, rfl, fun h => (by cases h)⟩, hmu⟩⟩, fun h2 => triv_intro ⟨⟨k + 1, hlt, rfl, ?_, rfl, fun _ => rfl⟩, hmu⟩⟩
        · rw [hst, if_pos h2]; rfl
        · rw [hst, if_neg (by rw [h2]; decide)]; rfl
      · have : k = d.length := by have := dec_ge h; omega
        rw [this, List.take_length] at ea
        exact ⟨ea, rfl, fun _ => rfl⟩
    | false =>
      refine vcx (X := ((decide ((↑k : Int) < (↑d.length : Int)) = true → ((0 : Int) ≤ (↑k : Int) ∧ (↑k : Int) < (↑d.length : Int)) ∧ (↑k : Int).toNat < d.length ∧ preLeft ((d, t, n, o), d.getD (↑k : Int).toNat (0 : Int), ds, fs, ps, ()) ∧ (lefto t n (d.getD (↑k : Int).toNat (0 : Int)) ds fs ps = true → (0 : Nat) + (1 : Nat) ≤ (1 : Nat) ∧ m ≤ m ∧ (m + (1 : Nat)) * (8 : Nat) ≤ (140737488355328 : Nat) ∧ m + (1 : Nat) ≤ (4611686018427387904 : Nat) ∧ (quI d t n o ds fs ps (IntKind.i64.wrap ((↑k : Int) + (1 : Int)), false, m + (1 : Nat), List.take m l ++ List.take (1 : Nat) [d.getD (↑k : Int).toNat (0 : Int)])).triv (quJ d t n ds fs ps (IntKind.i64.wrap ((↑k : Int) + (1 : Int)), false, m + (1 : Nat), List.take m l ++ List.take (1 : Nat) [d.getD (↑k : Int).toNat (0 : Int)]) ∧ d.length - (IntKind.i64.wrap ((↑k : Int) + (1 : Int))).toNat < d.length - (↑k : Int).toNat)) ∧ (lefto t n (d.getD (↑k : Int).toNat (0 : Int)) ds fs ps = false → (quI d t n o ds fs ps (IntKind.i64.wrap ((↑k : Int) + (1 : Int)), false, m, l)).triv (quJ d t n ds fs ps (IntKind.i64.wrap ((↑k : Int) + (1 : Int)), false, m, l) ∧ d.length - (IntKind.i64.wrap ((↑k : Int) + (1 : Int))).toNat < d.length - (↑k : Int).toNat))) ∧ (decide ((↑k : Int) < (↑d.length : Int)) = false → (quI d t n o ds fs ps ((↑k : Int), false, m, l)).triv (quO d t n ds fs ps ((↑k : Int), false, m, l))))) (by kernel_rfl) ?_
      rw [Int.toNat_natCast]
      have hll : l.length ≤ k := by
        have ea' : l = qualF (d.take k) t n ds fs ps := ea
        rw [ea', qualF]; exact Nat.le_trans (List.length_filter_le _ _) (by rw [List.length_take]; omega)
      refine ⟨fun h => ?_, fun h => triv_intro ?_⟩
      · have hlt : k < d.length := by have := dec_lt h; omega
        have hg : d.getD k 0 = d[k] := by rw [List.getD_eq_getElem?_getD, List.getElem?_eq_getElem hlt, Option.getD_some]
        have hst := qual_step (t := t) (n := n) (ds := ds) (fs := fs) (ps := ps) hlt
        rw [← ea] at hst
        have hmu : d.length - ((k + 1 : Nat) : Int).toNat < d.length - (k : Int).toNat := by rw [Int.toNat_natCast, Int.toNat_natCast]; omega
        rw [hg, wrap_succ (by omega), km, List.take_length]
        refine ⟨⟨by omega, by omega⟩, hlt, hp, fun h2 => ⟨by decide, by omega, by omega, by omega, triv_intro ⟨⟨k + 1, hlt, rfl, ?_, by show l.length + 1 = (l ++ [d[k]]).length; simp, fun h => (by cases h)⟩, hmu⟩⟩, fun h2 => triv_intro ⟨⟨k + 1, hlt, rfl, ?_, rfl, fun h => (by cases h)⟩, hmu⟩⟩
        · rw [hst, if_pos h2]; rfl
        · rw [hst, if_neg (by rw [h2]; decide)]; exact (List.append_nil l).symm
      · have : k = d.length := by have := dec_ge h; omega
        rw [this, List.take_length] at ea
        exact ⟨ea, km, fun h => (by cases h)⟩
  rintro ⟨i, e, m, l⟩ ho
  revert i l
  intro (i : Int) (l : List Int) ⟨h1, h2, h3⟩
  have k1 : l = qualF d t n ds fs ps := h1
  have k2 : m = l.length := h2
  refine tr_vc hsp mixed _ _ ?_
  cases e with
  | true =>
    have hl : l = [] := h3 rfl
    refine vcx (X := (([], ()) = outQual ((d, t, n, o), ds, fs, ps, ()))) (by kernel_rfl) ?_
    show _ = (qualF d t n ds fs ps, ())
    rw [← k1, hl]
  | false =>
    refine vcx (X := ((0 : Nat) + m ≤ m ∧ (List.take m l, ()) = outQual ((d, t, n, o), ds, fs, ps, ()))) (by kernel_rfl) ?_
    rw [k2, List.take_length]
    exact ⟨by omega, by show _ = (qualF d t n ds fs ps, ()); rw [k1]⟩
noncomputable def spQual : Nat × Eng.Spec := (26, fnSpec [setK, .sl dealK, .sl faultK, .sl proofK] [.own iK] preQual outQual)
end Go.Proofs.Ytoflhakneklimaa.deal
namespace Go.Proofs.Ytoflhakneklimaa.law22
set_option maxRecDepth 100000
open Go Go.Eng Go.RowKit Cr Go.Proofs.Ytoflhakneklimaa Go.Proofs.Ytoflhakneklimaa.law14 Go.Proofs.Ytoflhakneklimaa.poly Go.Proofs.Ytoflhakneklimaa.deal
def whoD (x : Int) : Int := IntKind.i64.wrap (1 + bitOp .and .i64 x 7)
def kD (need x : Int) : Int := if (bitOp .and .i64 x 64 != 0) = true then IntKind.i64.wrap (need - 1) else need
noncomputable def dlF (b : List Int) (need x : Int) : Dl := (whoD x, cmt (mdP b (whoD x) (kD need x).toNat))
def whoP (z : Int) : Int := IntKind.i64.wrap (1 + bitOp .and .i64 z 3)
def toP (z : Int) : Int := IntKind.i64.wrap (1 + bitOp .and .i64 (z.fdiv (2 ^ min (2 : Nat) IntKind.i64.bits)) 3)
noncomputable def shP (b : List Int) (need z : Int) : Fr := if (bitOp .and .i64 z 64 != 0) = true then pat (mdP b (whoP z) need.toNat) (toP z) + zm 1 else pat (mdP b (whoP z) need.toNat) (toP z)
def gdF (z : Int) : Bool := bitOp .and .i64 z 64 == 0
noncomputable def pfF (b : List Int) (need z : Int) : Pf := (whoP z, toP z, shP b need z)
/-- The first deal of a dealer: is it whole? -/
def okR (need x : Int) : List Dl → Bool
  | [] => false
  | e :: l => if e.1 = x then decide ((e.2.length : Int) = need) else okR need x l
def accB (x y : Int) (f : Flt) : Bool := f.1 == y && decide (x ∈ f.2)
def shwB (x y z : Int) : Bool := whoP z == x && (toP z == y && gdF z)
def acB (fl : List Flt) (x y : Int) : Bool := fl.any (accB x y)
def shB (pl : List Int) (x y : Int) : Bool := pl.any (shwB x y)
theorem dix_cons (e : Dl) (l : List Dl) (x : Int) : dIx (e :: l) x = if e.1 = x then 0 else if 0 ≤ dIx l x then dIx l x + 1 else -1 := by
  rw [dIx, dIx, opq_eq, opq_eq, idxP, idxP, List.findIdx_cons]
  by_cases h : e.1 = x
  · rw [if_pos h, show ((e.1 == x) : Bool) = true from decide_eq_true h]
    simp
  · rw [if_neg h, show ((e.1 == x) : Bool) = false from decide_eq_false h]
    simp only [cond_false, List.length_cons]
    by_cases h2 : l.findIdx (fun d : Dl => d.1 == x) < l.length
    · rw [if_pos (by omega), if_pos h2, if_pos (by omega)]; omega
    · rw [if_neg (by omega), if_neg h2, if_neg (by decide)]
theorem ok_eq (n x : Int) : ∀ ds : List Dl, dOk ds n x = okR n x ds
  | [] => by
    have : dIx [] x = -1 := by rw [dIx, opq_eq]; rfl
    rw [dOk, this]; rfl
  | e :: l => by
    have ih := ok_eq n x l
    rw [dOk, dPub] at ih ⊢
    rw [dix_cons, okR]
    by_cases h : e.1 = x
    · rw [if_pos h, if_pos h]; rfl
    · rw [if_neg h, if_neg h, ← ih]
      by_cases h2 : 0 ≤ dIx l x
      · have e1 : (dIx l x + 1).toNat = (dIx l x).toNat + 1 := by omega
        rw [if_pos h2, e1, decide_eq_true (show 0 ≤ dIx l x + 1 by omega), decide_eq_true h2]
        rfl
      · rw [if_neg h2, decide_eq_false h2]; rfl
theorem pub_mem {ds : List Dl} {x : Int} (h : 0 ≤ dIx ds x) : ∃ e ∈ ds, e.1 = x ∧ e.2 = dPub ds x := by
  rw [dPub]
  rw [dIx, opq_eq, idxP] at h ⊢
  by_cases h2 : ds.findIdx (fun d : Dl => d.1 == x) < ds.length
  · rw [if_pos h2, Int.toNat_natCast, List.getD_eq_getElem?_getD, List.getElem?_eq_getElem h2, Option.getD_some]
    have h3 := List.findIdx_getElem (w := h2)
    exact ⟨_, List.getElem_mem h2, eq_of_beq h3, rfl⟩
  · rw [if_neg h2] at h; exact absurd h (by decide)
theorem shw_law {b : List Int} {need x y : Int} (hy : preI y) (z : Int) : shw x y (cmt (mdP b x need.toNat)) (pfF b need z) = shwB x y z := by
  rw [shw, opq_eq, shwB]
  show (whoP z == x && (toP z == y && fto _ y (shP b need z))) = _
  by_cases h1 : whoP z = x
  · by_cases h2 : toP z = y
    · subst h1; subst h2
      rw [fto, opq_eq, fit_cmt hy]
      have : decide (shP b need z = pat (mdP b (whoP z) need.toNat) (toP z)) = gdF z := by
        rw [shP, gdF]
        by_cases h : (bitOp .and .i64 z 64 != 0) = true
        · have h3 : (bitOp .and .i64 z 64 == 0) = false := by simpa [bne] using h
          rw [if_pos h, h3, decide_eq_false_iff_not]
          intro e
          have e : pat (mdP b (whoP z) need.toNat) (toP z) + 1 = pat (mdP b (whoP z) need.toNat) (toP z) + 0 := by rw [Rg.add_zero]; exact e
          exact absurd (Rg.add_left e) (by decide)
        · have h3 : (bitOp .and .i64 z 64 == 0) = true := by simpa [bne] using h
          rw [if_neg h, h3]; exact decide_eq_true rfl
      rw [this]
    · rw [show (toP z == y) = false from decide_eq_false h2]; rfl
  · rw [show (whoP z == x) = false from decide_eq_false h1]; rfl
theorem anyP_law {b : List Int} {need x y : Int} {pl : List Int} (hy : preI y) : anyP (pl.map (pfF b need)) x y (cmt (mdP b x need.toNat)) = shB pl x y := by
  rw [anyP, opq_eq, List.any_map, shB]
  exact congrArg (fun q => pl.any q) (funext fun z => shw_law hy z)
theorem acc_mem (t : List Int) (x : Int) : ∀ (fs : List Flt) (l : List Int) (y : Int), y ∈ accF t x fs l ↔ y ∈ l ∨ (y ∈ t ∧ fs.any (accB x y) = true)
  | [], l, y => by simp [accF]
  | f :: fs, l, y => by
    rw [accF, acc_mem t x fs, List.any_cons, Bool.or_eq_true]
    have hB : accB x y f = true ↔ f.1 = y ∧ x ∈ f.2 := by rw [accB, Bool.and_eq_true, beq_iff_eq, decide_eq_true_iff]
    rw [hB]
    by_cases hc : f.1 ∈ t ∧ f.1 ∉ l ∧ x ∈ f.2
    · rw [if_pos hc, List.mem_append, List.mem_singleton]
      constructor
      · rintro ((h | h) | h)
        · exact .inl h
        · exact .inr ⟨h ▸ hc.1, .inl ⟨h.symm, hc.2.2⟩⟩
        · exact .inr ⟨h.1, .inr h.2⟩
      · rintro (h | ⟨h1, (h2 | h2)⟩)
        · exact .inl (.inl h)
        · exact .inl (.inr h2.1.symm)
        · exact .inr ⟨h1, h2⟩
    · rw [if_neg hc]
      constructor
      · rintro (h | h)
        · exact .inl h
        · exact .inr ⟨h.1, .inr h.2⟩
      · rintro (h | ⟨h1, (h2 | h2)⟩)
        · exact .inl h
        · by_cases hl : y ∈ l
          · exact .inl hl
          · obtain ⟨rfl, h3⟩ := h2
            exact absurd ⟨h1, hl, h3⟩ hc
        · exact .inr ⟨h1, h2⟩
theorem acc_nodup (t : List Int) (x : Int) : ∀ (fs : List Flt) (l : List Int), l.Nodup → (accF t x fs l).Nodup
  | [], l, h => h
  | f :: fs, l, h => by
    rw [accF]
    refine acc_nodup t x fs _ ?_
    split
    · rename_i hc
      exact List.nodup_append.2 ⟨h, by simp, fun a ha b hb => by rw [List.mem_singleton] at hb; rw [hb]; exact fun e => hc.2.1 (e ▸ ha)⟩
    · exact h
theorem nd_len : ∀ {a b : List Int}, a.Nodup → (∀ y ∈ a, y ∈ b) → a.length ≤ b.length
  | [], b, _, _ => Nat.zero_le _
  | y :: a, b, h, hs => by
    have h' := List.nodup_cons.1 h
    have h1 := nd_len (a := a) (b := b.erase y) h'.2 (fun z hz => (List.mem_erase_of_ne (fun e : z = y => h'.1 (by rw [← e]; exact hz))).2 (hs z (List.mem_cons_of_mem _ hz)))
    have hm := List.length_erase_of_mem (hs y List.mem_cons_self)
    have : 0 < b.length := List.length_pos_of_mem (hs y List.mem_cons_self)
    simp only [List.length_cons]; omega
theorem left_law {b dl : List Int} {fl : List Flt} {pl : List Int} {need : Int} {d : List Int} (hdn : d.Nodup) (hdi : ∀ y ∈ d, preI y) (x : Int) (hne : 0 ≤ need) :
    lefto d need x (dl.map (dlF b need)) fl (pl.map (pfF b need)) = (okR need x (dl.map (dlF b need)) && ((d.filter (acB fl x)).all (shB pl x) && decide (((d.filter (acB fl x)).length : Int) < need))) := by
  rw [lefto, opq_eq, leftF, ok_eq]
  cases hok : okR need x (dl.map (dlF b need)) with
  | false => rfl
  | true =>
    have hc : dPub (dl.map (dlF b need)) x = cmt (mdP b x need.toNat) := by
      have h := (ok_eq need x (dl.map (dlF b need))).trans hok
      rw [dOk, Bool.and_eq_true] at h
      have h1 := of_decide_eq_true h.1
      have h2 := of_decide_eq_true h.2
      obtain ⟨e, he, e1, e2⟩ := pub_mem h1
      obtain ⟨z, _, rfl⟩ := List.mem_map.1 he
      rw [← e2] at h2 ⊢
      have e1 : whoD z = x := e1
      have h2 : ((cmt (mdP b (whoD z) (kD need z).toNat)).length : Int) = need := h2
      rw [cmt, List.length_map, mdP_len] at h2
      have h3 : (kD need z).toNat = need.toNat := by omega
      show cmt (mdP b (whoD z) (kD need z).toNat) = _
      rw [e1, h3]
    have hn := acc_nodup d x fl [] List.nodup_nil
    have hf : (d.filter (acB fl x)).Nodup := List.Pairwise.filter _ hdn
    have hm : ∀ y, y ∈ acco d x fl ↔ y ∈ d.filter (acB fl x) := fun y => by
      rw [acco, opq_eq, acc_mem, List.mem_filter]; simp [acB]
    have hl : (acco d x fl).length = (d.filter (acB fl x)).length := Nat.le_antisymm (nd_len (by rw [acco, opq_eq]; exact hn) fun y hy => (hm y).1 hy) (nd_len hf fun y hy => (hm y).2 hy)
    have ha : (acco d x fl).all (fun y => anyP (pl.map (pfF b need)) x y (dPub (dl.map (dlF b need)) x)) = (d.filter (acB fl x)).all (shB pl x) := by
      rw [Bool.eq_iff_iff, List.all_eq_true, List.all_eq_true, hc]
      constructor
      · intro h y hy
        have := h y ((hm y).2 hy)
        rwa [anyP_law (hdi y (List.mem_filter.1 hy).1)] at this
      · intro h y hy
        have hy' := (hm y).1 hy
        rw [anyP_law (hdi y (List.mem_filter.1 hy').1)]
        exact h y hy'
    rw [hl, ha, Bool.true_and, Bool.true_and, Bool.and_comm]
end Go.Proofs.Ytoflhakneklimaa.law22
