/- Numbers of package cresset/fp: Mul, Square, Add, Sub, Neg, Zero, one, shift, Of. Printed by gen_el.py. -/
import Derived.Test.YtkfghpniaahjjaaFpL
import Derived.Test.YtkfghpniaahjjaaFldE
namespace Go.Proofs.Ytkfghpniaahjjaa.fp
set_option maxRecDepth 100000
open Go Go.Eng Go.RowKit Cr Go.Proofs.Ytkfghpniaahjjaa


theorem ent_mul : enters Try.prog 57 Try.f57 := enters_mk (by kernel_rfl) (by kernel_rfl) (by kernel_rfl)
abbrev outMul : HL [.fp, .fp] → HO [.val .fp] := fun (x, y, _) => ((x : Fp) * y, ())
theorem fn_mul : FnOk Try.prog 57 [.fp, .fp] [.val .fp] noG (fun _ => True) outMul := by
  refine fn_of_vc (sp := sps [spTimes]) (sps_cons (fnSpec_ok fn_times) sps_nil) mixed ent_mul (by decide) (by decide) ?_
  rintro w M0 ⟨x, y, ⟨⟩⟩ _ _
  refine vcx (X := (preTimes (enc x, enc y, ()) ∧ Canon Mp (lim 6 (val (enc x) * val (enc y) * rinv % M)) ∧ (dec (lim 6 (val (enc x) * val (enc y) * rinv % M)), ()) = outMul (x, y, ()))) (by kernel_rfl) ?_
  rw [show lim 6 (val (enc x) * val (enc y) * rinv % M) = enc (x * y) from times_enc x y]
  exact ⟨⟨enc_ws x, enc_ws y, (enc_canon x).2.2⟩, enc_canon _, by rw [dec_enc]⟩
noncomputable def spMul : Nat × Eng.Spec := (57, fnSpec [.fp, .fp] [.val .fp] (fun _ => True) outMul)


theorem ent_square : enters Try.prog 56 Try.f56 := enters_mk (by kernel_rfl) (by kernel_rfl) (by kernel_rfl)
abbrev outSquare : HL [.fp] → HO [.val .fp] := fun (x, _) => ((x : Fp) * x, ())
theorem fn_square : FnOk Try.prog 56 [.fp] [.val .fp] noG (fun _ => True) outSquare := by
  refine fn_of_vc (sp := sps [spTimes]) (sps_cons (fnSpec_ok fn_times) sps_nil) mixed ent_square (by decide) (by decide) ?_
  rintro w M0 ⟨x, ⟨⟩⟩ _ _
  refine vcx (X := (preTimes (enc x, enc x, ()) ∧ Canon Mp (lim 6 (val (enc x) * val (enc x) * rinv % M)) ∧ (dec (lim 6 (val (enc x) * val (enc x) * rinv % M)), ()) = outSquare (x, ()))) (by kernel_rfl) ?_
  rw [show lim 6 (val (enc x) * val (enc x) * rinv % M) = enc (x * x) from times_enc x x]
  exact ⟨⟨enc_ws x, enc_ws x, (enc_canon x).2.2⟩, enc_canon _, by rw [dec_enc]⟩
noncomputable def spSquare : Nat × Eng.Spec := (56, fnSpec [.fp] [.val .fp] (fun _ => True) outSquare)


theorem ent_add : enters Try.prog 34 Try.f34 := enters_mk (by kernel_rfl) (by kernel_rfl) (by kernel_rfl)
abbrev outAdd : HL [.fp, .fp] → HO [.val .fp] := fun (x, y, _) => ((x : Fp) + y, ())
theorem fn_add : FnOk Try.prog 34 [.fp, .fp] [.val .fp] noG (fun _ => True) outAdd := by
  refine fn_of_vc (sp := sps [spFit, spPlus]) (sps_cons (fnSpec_ok fn_fit) (sps_cons (fnSpec_ok fn_plus) sps_nil)) mixed ent_add (by decide) (by decide) ?_
  rintro w M0 ⟨x, y, ⟨⟩⟩ _ _
  refine vcx (X := (pre2 (enc x, enc y, ()) ∧ preFit (lim 6 (val (enc x) + val (enc y)), ()) ∧
    Canon Mp (if val (lim 6 (val (enc x) + val (enc y))) < M then lim 6 (val (enc x) + val (enc y)) else lim 6 (val (lim 6 (val (enc x) + val (enc y))) - M)) ∧
    (dec (if val (lim 6 (val (enc x) + val (enc y))) < M then lim 6 (val (enc x) + val (enc y)) else lim 6 (val (lim 6 (val (enc x) + val (enc y))) - M)), ()) = outAdd (x, y, ()))) (by kernel_rfl) ?_
  rw [show (if val (lim 6 (val (enc x) + val (enc y))) < M then lim 6 (val (enc x) + val (enc y)) else lim 6 (val (lim 6 (val (enc x) + val (enc y))) - M)) = enc (x + y) from add_enc x y]
  exact ⟨⟨enc_ws x, enc_ws y⟩, lim_ws _ _, enc_canon _, by rw [dec_enc]⟩
noncomputable def spAdd : Nat × Eng.Spec := (34, fnSpec [.fp, .fp] [.val .fp] (fun _ => True) outAdd)


theorem ent_sub : enters Try.prog 66 Try.f66 := enters_mk (by kernel_rfl) (by kernel_rfl) (by kernel_rfl)
abbrev outSub : HL [.fp, .fp] → HO [.val .fp] := fun (x, y, _) => ((x : Fp) - y, ())
theorem fn_sub : FnOk Try.prog 66 [.fp, .fp] [.val .fp] noG (fun _ => True) outSub := by
  refine fn_of_vc (sp := sps [spMinus, spPlus, spModulus]) (sps_cons (fnSpec_ok fn_minus) (sps_cons (fnSpec_ok fn_plus) (sps_cons (fnSpec_ok fn_modulus) sps_nil))) mixed ent_sub (by decide) (by decide) ?_
  rintro w M0 ⟨x, y, ⟨⟩⟩ _ _
  refine vcx (X := (pre2 (enc x, enc y, ()) ∧
    ((((if val (enc x) < val (enc y) then 1 else 0 : Int) != 0) = true → True ∧ pre2 (lim 6 (val (enc x) - val (enc y)), ms, ()) ∧ Canon Mp (lim 6 (val (lim 6 (val (enc x) - val (enc y))) + val ms)) ∧ (dec (lim 6 (val (lim 6 (val (enc x) - val (enc y))) + val ms)), ()) = outSub (x, y, ())) ∧
     (((if val (enc x) < val (enc y) then 1 else 0 : Int) != 0) = false → Canon Mp (lim 6 (val (enc x) - val (enc y))) ∧ (dec (lim 6 (val (enc x) - val (enc y))), ()) = outSub (x, y, ()))))) (by kernel_rfl) ?_
  rw [val_ms]
  refine ⟨⟨enc_ws x, enc_ws y⟩, ?_⟩
  by_cases h : val (enc x) < val (enc y)
  · rw [show lim 6 (val (lim 6 (val (enc x) - val (enc y))) + M) = enc (x - y) from sub_enc_lt h]
    exact ⟨fun _ => ⟨trivial, ⟨lim_ws _ _, ws_ms⟩, enc_canon _, by rw [dec_enc]⟩, fun hf => by simp [h] at hf⟩
  · rw [show lim 6 (val (enc x) - val (enc y)) = enc (x - y) from sub_enc_ge h]
    exact ⟨fun hf => by simp [h] at hf, fun _ => ⟨enc_canon _, by rw [dec_enc]⟩⟩
noncomputable def spSub : Nat × Eng.Spec := (66, fnSpec [.fp, .fp] [.val .fp] (fun _ => True) outSub)


theorem ent_neg : enters Try.prog 55 Try.f55 := enters_mk (by kernel_rfl) (by kernel_rfl) (by kernel_rfl)
abbrev outNeg : HL [.fp] → HO [.val .fp] := fun (x, _) => (-(x : Fp), ())
theorem zero_sub' (x : Fp) : 0 - x = -x := Zm.ext (by rw [sub_v, neg_v, zero_v]; simp)
theorem fn_neg : FnOk Try.prog 55 [.fp] [.val .fp] noG (fun _ => True) outNeg := by
  refine fn_of_vc (sp := sps [spSub]) (sps_cons (fnSpec_ok fn_sub) sps_nil) mixed ent_neg (by decide) (by decide) ?_
  rintro w M0 ⟨x, ⟨⟩⟩ _ _
  refine vcx (X := (True ∧ ((0 : Fp) - x, ()) = outNeg (x, ()))) (by kernel_rfl) ?_
  exact ⟨trivial, by rw [zero_sub']⟩
noncomputable def spNeg : Nat × Eng.Spec := (55, fnSpec [.fp] [.val .fp] (fun _ => True) outNeg)


theorem ent_zero : enters Try.prog 65 Try.f65 := enters_mk (by kernel_rfl) (by kernel_rfl) (by kernel_rfl)
abbrev outZero : HL [.fp] → HO [.val .bool] := fun (x, _) => (decide ((x : Fp) = 0), ())
theorem fn_zero : FnOk Try.prog 65 [.fp] [.val .bool] noG (fun _ => True) outZero := by
  refine fn_of_vc (sp := sps []) sps_nil mixed ent_zero (by decide) (by decide) ?_
  rintro w M0 ⟨x, ⟨⟩⟩ _ _
  exact vcx (X := ((decide (x = (0 : Fp)), ()) = outZero (x, ()))) (by kernel_rfl) rfl
noncomputable def spZero : Nat × Eng.Spec := (65, fnSpec [.fp] [.val .bool] (fun _ => True) outZero)


theorem ent_one : enters Try.prog 109 Try.f109 := enters_mk (by kernel_rfl) (by kernel_rfl) (by kernel_rfl)
theorem fn_one : FnOk Try.prog 109 [] [.val .fp] noG (fun _ => True) (fun _ => ((1 : Fp), ())) := by
  refine fn_of_vc (sp := sps []) sps_nil mixed ent_one (by decide) (by decide) ?_
  rintro w M0 ⟨⟩ _ _
  refine vcx (X := (Canon Mp [8505329371266088957, 17002214543764226050, 6865905132761471162, 8632934651105793861, 6631298214892334189, 1582556514881692819] ∧ (dec [8505329371266088957, 17002214543764226050, 6865905132761471162, 8632934651105793861, 6631298214892334189, 1582556514881692819], ()) = ((1 : Fp), ()))) (by kernel_rfl) ?_
  refine ⟨⟨rfl, ?_, by decide⟩, ?_⟩
  · intro x hx; simp at hx; rcases hx with rfl | rfl | rfl | rfl | rfl | rfl <;> exact ⟨by decide, by decide⟩
  · rw [show (dec [8505329371266088957, 17002214543764226050, 6865905132761471162, 8632934651105793861, 6631298214892334189, 1582556514881692819] : Fp) = 1 from Zm.ext (by decide)]
noncomputable def spOne : Nat × Eng.Spec := (109, fnSpec [] [.val .fp] (fun _ => True) (fun _ => ((1 : Fp), ())))

end Go.Proofs.Ytkfghpniaahjjaa.fp
