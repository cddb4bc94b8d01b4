/- Numbers of package cresset/fr: Mul, Square, Add, Sub, Neg, Zero, one, shift, Of. Printed by gen_el.py. -/
import Derived.Test.YtkfghpniaahjjaaFrL
import Derived.Test.YtkfghpniaahjjaaFldE
namespace Go.Proofs.Ytkfghpniaahjjaa.fr
set_option maxRecDepth 100000
open Go Go.Eng Go.RowKit Cr Go.Proofs.Ytkfghpniaahjjaa


theorem ent_mul : enters Try.prog 27 Try.f27 := enters_mk (by kernel_rfl) (by kernel_rfl) (by kernel_rfl)
abbrev outMul : HL [.fr, .fr] → HO [.val .fr] := fun (x, y, _) => ((x : Fr) * y, ())
theorem fn_mul : FnOk Try.prog 27 [.fr, .fr] [.val .fr] noG (fun _ => True) outMul := by
  refine fn_of_vc (sp := sps [spTimes]) (sps_cons (fnSpec_ok fn_times) sps_nil) mixed ent_mul (by decide) (by decide) ?_
  rintro w M0 ⟨x, y, ⟨⟩⟩ _ _
  refine vcx (X := (preTimes (enc x, enc y, ()) ∧ Canon Mr (lim 4 (val (enc x) * val (enc y) * rinv % M)) ∧ (dec (lim 4 (val (enc x) * val (enc y) * rinv % M)), ()) = outMul (x, y, ()))) (by kernel_rfl) ?_
  rw [show lim 4 (val (enc x) * val (enc y) * rinv % M) = enc (x * y) from times_enc x y]
  exact ⟨⟨enc_ws x, enc_ws y, (enc_canon x).2.2⟩, enc_canon _, by rw [dec_enc]⟩
noncomputable def spMul : Nat × Eng.Spec := (27, fnSpec [.fr, .fr] [.val .fr] (fun _ => True) outMul)


theorem ent_square : enters Try.prog 95 Try.f95 := enters_mk (by kernel_rfl) (by kernel_rfl) (by kernel_rfl)
abbrev outSquare : HL [.fr] → HO [.val .fr] := fun (x, _) => ((x : Fr) * x, ())
theorem fn_square : FnOk Try.prog 95 [.fr] [.val .fr] noG (fun _ => True) outSquare := by
  refine fn_of_vc (sp := sps [spTimes]) (sps_cons (fnSpec_ok fn_times) sps_nil) mixed ent_square (by decide) (by decide) ?_
  rintro w M0 ⟨x, ⟨⟩⟩ _ _
  refine vcx (X := (preTimes (enc x, enc x, ()) ∧ Canon Mr (lim 4 (val (enc x) * val (enc x) * rinv % M)) ∧ (dec (lim 4 (val (enc x) * val (enc x) * rinv % M)), ()) = outSquare (x, ()))) (by kernel_rfl) ?_
  rw [show lim 4 (val (enc x) * val (enc x) * rinv % M) = enc (x * x) from times_enc x x]
  exact ⟨⟨enc_ws x, enc_ws x, (enc_canon x).2.2⟩, enc_canon _, by rw [dec_enc]⟩
noncomputable def spSquare : Nat × Eng.Spec := (95, fnSpec [.fr] [.val .fr] (fun _ => True) outSquare)


theorem ent_add : enters Try.prog 26 Try.f26 := enters_mk (by kernel_rfl) (by kernel_rfl) (by kernel_rfl)
abbrev outAdd : HL [.fr, .fr] → HO [.val .fr] := fun (x, y, _) => ((x : Fr) + y, ())
theorem fn_add : FnOk Try.prog 26 [.fr, .fr] [.val .fr] noG (fun _ => True) outAdd := by
  refine fn_of_vc (sp := sps [spFit, spPlus]) (sps_cons (fnSpec_ok fn_fit) (sps_cons (fnSpec_ok fn_plus) sps_nil)) mixed ent_add (by decide) (by decide) ?_
  rintro w M0 ⟨x, y, ⟨⟩⟩ _ _
  refine vcx (X := (pre2 (enc x, enc y, ()) ∧ preFit (lim 4 (val (enc x) + val (enc y)), ()) ∧
    Canon Mr (if val (lim 4 (val (enc x) + val (enc y))) < M then lim 4 (val (enc x) + val (enc y)) else lim 4 (val (lim 4 (val (enc x) + val (enc y))) - M)) ∧
    (dec (if val (lim 4 (val (enc x) + val (enc y))) < M then lim 4 (val (enc x) + val (enc y)) else lim 4 (val (lim 4 (val (enc x) + val (enc y))) - M)), ()) = outAdd (x, y, ()))) (by kernel_rfl) ?_
  rw [show (if val (lim 4 (val (enc x) + val (enc y))) < M then lim 4 (val (enc x) + val (enc y)) else lim 4 (val (lim 4 (val (enc x) + val (enc y))) - M)) = enc (x + y) from add_enc x y]
  exact ⟨⟨enc_ws x, enc_ws y⟩, lim_ws _ _, enc_canon _, by rw [dec_enc]⟩
noncomputable def spAdd : Nat × Eng.Spec := (26, fnSpec [.fr, .fr] [.val .fr] (fun _ => True) outAdd)


theorem ent_sub : enters Try.prog 59 Try.f59 := enters_mk (by kernel_rfl) (by kernel_rfl) (by kernel_rfl)
abbrev outSub : HL [.fr, .fr] → HO [.val .fr] := fun (x, y, _) => ((x : Fr) - y, ())
theorem fn_sub : FnOk Try.prog 59 [.fr, .fr] [.val .fr] noG (fun _ => True) outSub := by
  refine fn_of_vc (sp := sps [spMinus, spPlus, spModulus]) (sps_cons (fnSpec_ok fn_minus) (sps_cons (fnSpec_ok fn_plus) (sps_cons (fnSpec_ok fn_modulus) sps_nil))) mixed ent_sub (by decide) (by decide) ?_
  rintro w M0 ⟨x, y, ⟨⟩⟩ _ _
  refine vcx (X := (pre2 (enc x, enc y, ()) ∧
    ((((if val (enc x) < val (enc y) then 1 else 0 : Int) != 0) = true → True ∧ pre2 (lim 4 (val (enc x) - val (enc y)), ms, ()) ∧ Canon Mr (lim 4 (val (lim 4 (val (enc x) - val (enc y))) + val ms)) ∧ (dec (lim 4 (val (lim 4 (val (enc x) - val (enc y))) + val ms)), ()) = outSub (x, y, ())) ∧
     (((if val (enc x) < val (enc y) then 1 else 0 : Int) != 0) = false → Canon Mr (lim 4 (val (enc x) - val (enc y))) ∧ (dec (lim 4 (val (enc x) - val (enc y))), ()) = outSub (x, y, ()))))) (by kernel_rfl) ?_
  rw [val_ms]
  refine ⟨⟨enc_ws x, enc_ws y⟩, ?_⟩
  by_cases h : val (enc x) < val (enc y)
  · rw [show lim 4 (val (lim 4 (val (enc x) - val (enc y))) + M) = enc (x - y) from sub_enc_lt h]
    exact ⟨fun _ => ⟨trivial, ⟨lim_ws _ _, ws_ms⟩, enc_canon _, by rw [dec_enc]⟩, fun hf => by simp [h] at hf⟩
  · rw [show lim 4 (val (enc x) - val (enc y)) = enc (x - y) from sub_enc_ge h]
    exact ⟨fun hf => by simp [h] at hf, fun _ => ⟨enc_canon _, by rw [dec_enc]⟩⟩
noncomputable def spSub : Nat × Eng.Spec := (59, fnSpec [.fr, .fr] [.val .fr] (fun _ => True) outSub)


theorem ent_neg : enters Try.prog 25 Try.f25 := enters_mk (by kernel_rfl) (by kernel_rfl) (by kernel_rfl)
abbrev outNeg : HL [.fr] → HO [.val .fr] := fun (x, _) => (-(x : Fr), ())
theorem zero_sub' (x : Fr) : 0 - x = -x := Zm.ext (by rw [sub_v, neg_v, zero_v]; simp)
theorem fn_neg : FnOk Try.prog 25 [.fr] [.val .fr] noG (fun _ => True) outNeg := by
  refine fn_of_vc (sp := sps [spSub]) (sps_cons (fnSpec_ok fn_sub) sps_nil) mixed ent_neg (by decide) (by decide) ?_
  rintro w M0 ⟨x, ⟨⟩⟩ _ _
  refine vcx (X := (True ∧ ((0 : Fr) - x, ()) = outNeg (x, ()))) (by kernel_rfl) ?_
  exact ⟨trivial, by rw [zero_sub']⟩
noncomputable def spNeg : Nat × Eng.Spec := (25, fnSpec [.fr] [.val .fr] (fun _ => True) outNeg)


theorem ent_one : enters Try.prog 94 Try.f94 := enters_mk (by kernel_rfl) (by kernel_rfl) (by kernel_rfl)
theorem fn_one : FnOk Try.prog 94 [] [.val .fr] noG (fun _ => True) (fun _ => ((1 : Fr), ())) := by
  refine fn_of_vc (sp := sps []) sps_nil mixed ent_one (by decide) (by decide) ?_
  rintro w M0 ⟨⟩ _ _
  refine vcx (X := (Canon Mr [8589934590, 6378425256633387010, 11064306276430008309, 1739710354780652911] ∧ (dec [8589934590, 6378425256633387010, 11064306276430008309, 1739710354780652911], ()) = ((1 : Fr), ()))) (by kernel_rfl) ?_
  refine ⟨⟨rfl, ?_, by decide⟩, ?_⟩
  · intro x hx; simp at hx; rcases hx with rfl | rfl | rfl | rfl <;> exact ⟨by decide, by decide⟩
  · rw [show (dec [8589934590, 6378425256633387010, 11064306276430008309, 1739710354780652911] : Fr) = 1 from Zm.ext (by decide)]
noncomputable def spOne : Nat × Eng.Spec := (94, fnSpec [] [.val .fr] (fun _ => True) (fun _ => ((1 : Fr), ())))

end Go.Proofs.Ytkfghpniaahjjaa.fr
