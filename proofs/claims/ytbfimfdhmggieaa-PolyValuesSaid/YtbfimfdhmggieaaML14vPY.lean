/- ref03: Modulus, Add, Sub, Mul. -/
import Derived.Test.YtbfimfdhmggieaaML14vPX
namespace Go.Proofs.Ytbfimfdhmggieaa.ref03
set_option maxRecDepth 100000
open Go Go.Eng Go.RowKit Cr Go.Proofs.Ytbfimfdhmggieaa
def balR3h0 : ByteArray := (ByteArray.mk (#[(55 : UInt8), (51 : UInt8), (101 : UInt8), (100 : UInt8), (97 : UInt8), (55 : UInt8), (53 : UInt8), (51 : UInt8), (50 : UInt8), (57 : UInt8), (57 : UInt8), (100 : UInt8), (55 : UInt8), (100 : UInt8), (52 : UInt8), (56 : UInt8), (51 : UInt8), (51 : UInt8), (51 : UInt8), (57 : UInt8), (100 : UInt8), (56 : UInt8), (48 : UInt8), (56 : UInt8), (48 : UInt8), (57 : UInt8), (97 : UInt8), (49 : UInt8), (100 : UInt8), (56 : UInt8), (48 : UInt8), (53 : UInt8), (53 : UInt8), (51 : UInt8), (98 : UInt8), (100 : UInt8), (97 : UInt8), (52 : UInt8), (48 : UInt8), (50 : UInt8), (102 : UInt8), (102 : UInt8), (102 : UInt8), (101 : UInt8), (53 : UInt8), (98 : UInt8), (102 : UInt8), (101 : UInt8), (102 : UInt8), (102 : UInt8), (102 : UInt8), (102 : UInt8), (102 : UInt8), (102 : UInt8), (102 : UInt8), (102 : UInt8), (48 : UInt8), (48 : UInt8), (48 : UInt8), (48 : UInt8), (48 : UInt8), (48 : UInt8), (48 : UInt8), (49 : UInt8)] ))
noncomputable def mdw : List Int := opq (w16 16 Mr)
theorem mdw_v : v16 mdw = Mr := by
  rw [mdw, opq_eq, v16_w16]; exact of_decide_eq_true (by kernel_rfl)
theorem mdw_W : W16 mdw := by rw [mdw, opq_eq]; exact w16_W _ _
theorem mdw_len : mdw.length = 16 := by rw [mdw, opq_eq]; exact w16_len _ _
noncomputable def hxo (s : ByteArray) : List Int := opq (hxK s s.size).2
theorem fr_hex : FnOk Try.prog 22 [.str] [.val wsl] noG (fun (s, _) => ByteArray.size s ≤ 1000) (fun (s, _) => (hxo s, ())) := fn_hex.frz.out fun (s, _) => by show (hxo s, ()) = (_, ()); rw [hxo, opq_eq]
noncomputable def srHex : Nat × Eng.Spec := (22, fnSpec [.str] [.val wsl] (fun (s, _) => ByteArray.size s ≤ 1000) (fun (s, _) => (hxo s, ())))
theorem ent_modulus : enters Try.prog 6 Try.f6 := enters_mk (by kernel_rfl) (by kernel_rfl) (by kernel_rfl)
theorem hx_md {s : ByteArray} (h : decide ((hxK s s.size).2 = w16 16 Mr) = true) : (hxo s, ()) = (mdw, ()) := by
  rw [hxo, opq_eq, of_decide_eq_true h, mdw, opq_eq]
theorem fn_modulus : FnOk Try.prog 6 [] [.val wsl] noG (fun _ => True) (fun _ => (mdw, ())) := by
  refine fn_of_vc (sp := sps [srHex]) (sps_cons (fnSpec_ok fr_hex) sps_nil) mixed ent_modulus (by decide) (by decide) ?_
  rintro w M0 ⟨⟩ _ _
  refine vcx (X := (balR3h0.size ≤ (1000 : Nat) ∧ (hxo balR3h0, ()) = (mdw, ()))) (by kernel_rfl) ?_
  exact ⟨by decide, hx_md (by kernel_rfl)⟩
noncomputable def spModulus : Nat × Eng.Spec := (6, fnSpec [] [.val wsl] (fun _ => True) (fun _ => (mdw, ())))
theorem lt_w {x : Int} {k : Nat} (h0 : 0 ≤ x) (h1 : x < pv16 k) : v16 (w16 k x) = x := by rw [v16_w16, Int.emod_eq_of_lt h0 h1]
abbrev pre3 : HL [wsl, wsl, wsl] → Prop := fun (a, b, m, _) => (W16 a ∧ W16 b ∧ W16 m) ∧ (List.length a ≤ 1000 ∧ List.length b ≤ 1000 ∧ List.length m ≤ 1000) ∧ 0 < v16 m
noncomputable def addM (a b m : List Int) : List Int := opq (w16 m.length ((v16 a + v16 b) % v16 m))
noncomputable def mulM (a b m : List Int) : List Int := opq (w16 m.length ((v16 a * v16 b) % v16 m))
noncomputable def subM (a b m : List Int) : List Int := opq (w16 m.length ((v16 a + v16 m - v16 b) % v16 m))
noncomputable def mdo (a m : List Int) : List Int := opq (modF a m)
theorem fr_mod : FnOk Try.prog 9 [wsl, wsl] [.val wsl] noG preMod (fun (a, m, _) => (mdo a m, ())) := fn_mod.frz.out fun (a, m, _) => by show (mdo a m, ()) = (modF a m, ()); rw [mdo, opq_eq]
theorem fr_plus : FnOk Try.prog 24 [wsl, wsl] [.val wsl] noG preW2 outPlus := fn_plus.frz
theorem fr_minus : FnOk Try.prog 23 [wsl, wsl] [.val wsl] noG preW2 outMinus := fn_minus.frz
theorem fr_times : FnOk Try.prog 26 [wsl, wsl] [.val wsl] noG preW2 outTimes := fn_times.frz
noncomputable def srMod : Nat × Eng.Spec := (9, fnSpec [wsl, wsl] [.val wsl] preMod (fun (a, m, _) => (mdo a m, ())))
noncomputable def srPlus : Nat × Eng.Spec := (24, fnSpec [wsl, wsl] [.val wsl] preW2 outPlus)
noncomputable def srMinus : Nat × Eng.Spec := (23, fnSpec [wsl, wsl] [.val wsl] preW2 outMinus)
noncomputable def srTimes : Nat × Eng.Spec := (26, fnSpec [wsl, wsl] [.val wsl] preW2 outTimes)
theorem ent_add : enters Try.prog 10 Try.f10 := enters_mk (by kernel_rfl) (by kernel_rfl) (by kernel_rfl)
theorem fn_add : FnOk Try.prog 10 [wsl, wsl, wsl] [.val wsl] noG pre3 (fun (a, b, m, _) => (addM a b m, ())) := by
  refine fn_of_vc (sp := sps [srPlus, srMod]) (sps_cons (fnSpec_ok fr_plus) (sps_cons (fnSpec_ok fr_mod) sps_nil)) mixed ent_add (by decide) (by decide) ?_
  rintro w M0 ⟨a, b, m, ⟨⟩⟩
  revert a b m
  intro (a : List Int) (b : List Int) (m : List Int) _ hp
  obtain ⟨⟨wa, wb, wm⟩, ⟨la, lb, lm⟩, hm⟩ := hp
  have la : a.length ≤ 1000 := la
  have lb : b.length ≤ 1000 := lb
  have lm : m.length ≤ 1000 := lm
  refine vcx (X := (preW2 (a, b, ()) ∧ preMod (plusF a b, m, ()) ∧ (mdo (plusF a b) m, ()) = (addM a b m, ()))) (by kernel_rfl) ?_
  have hv : v16 (plusF a b) = v16 a + v16 b := by
    rw [plusF]
    have h1 := v16_lt wa
    have h2 := v16_lt wb
    have h3 := pv16_mono (Nat.le_max_left a.length b.length)
    have h4 := pv16_mono (Nat.le_max_right a.length b.length)
    have h5 := v16_nn wa
    have h6 := v16_nn wb
    exact lt_w (by omega) (by rw [pv16_S]; omega)
  refine ⟨⟨wa, wb, by show a.length ≤ _; omega, by show b.length ≤ _; omega⟩, ⟨⟨w16_W _ _, wm, ?_, by show m.length < _; omega⟩, hm⟩, ?_⟩
  · show (plusF a b).length ≤ _
    rw [plusF, w16_len]; omega
  · rw [mdo, opq_eq, modF, hv, addM, opq_eq]
noncomputable def spAdd : Nat × Eng.Spec := (10, fnSpec [wsl, wsl, wsl] [.val wsl] pre3 (fun (a, b, m, _) => (addM a b m, ())))
theorem ent_mul : enters Try.prog 11 Try.f11 := enters_mk (by kernel_rfl) (by kernel_rfl) (by kernel_rfl)
theorem fn_mul : FnOk Try.prog 11 [wsl, wsl, wsl] [.val wsl] noG pre3 (fun (a, b, m, _) => (mulM a b m, ())) := by
  refine fn_of_vc (sp := sps [srTimes, srMod]) (sps_cons (fnSpec_ok fr_times) (sps_cons (fnSpec_ok fr_mod) sps_nil)) mixed ent_mul (by decide) (by decide) ?_
  rintro w M0 ⟨a, b, m, ⟨⟩⟩
  revert a b m
  intro (a : List Int) (b : List Int) (m : List Int) _ hp
  obtain ⟨⟨wa, wb, wm⟩, ⟨la, lb, lm⟩, hm⟩ := hp
  have la : a.length ≤ 1000 := la
  have lb : b.length ≤ 1000 := lb
  have lm : m.length ≤ 1000 := lm
  refine vcx (X := (preW2 (a, b, ()) ∧ preMod (timesF a b, m, ()) ∧ (mdo (timesF a b) m, ()) = (mulM a b m, ()))) (by kernel_rfl) ?_
  have hv : v16 (timesF a b) = v16 a * v16 b := by
    rw [timesF]
    have h := prod_lt wa wb a.length
    rw [Int.emod_eq_of_lt (v16_nn wa) (v16_lt wa)] at h
    have h3 := pv16_mono (show a.length + b.length ≤ a.length + b.length + 1 by omega)
    exact lt_w h.1 (by omega)
  refine ⟨⟨wa, wb, by show a.length ≤ _; omega, by show b.length ≤ _; omega⟩, ⟨⟨w16_W _ _, wm, ?_, by show m.length < _; omega⟩, hm⟩, ?_⟩
  · show (timesF a b).length ≤ _
    rw [timesF, w16_len]; omega
  · rw [mdo, opq_eq, modF, hv, mulM, opq_eq]
noncomputable def spMul : Nat × Eng.Spec := (11, fnSpec [wsl, wsl, wsl] [.val wsl] pre3 (fun (a, b, m, _) => (mulM a b m, ())))
theorem ent_sub : enters Try.prog 8 Try.f8 := enters_mk (by kernel_rfl) (by kernel_rfl) (by kernel_rfl)
theorem fn_sub : FnOk Try.prog 8 [wsl, wsl, wsl] [.val wsl] noG (fun x => pre3 x ∧ v16 x.2.1 ≤ v16 x.1 + v16 x.2.2.1) (fun (a, b, m, _) => (subM a b m, ())) := by
  refine fn_of_vc (sp := sps [srPlus, srMinus, srMod]) (sps_cons (fnSpec_ok fr_plus) (sps_cons (fnSpec_ok fr_minus) (sps_cons (fnSpec_ok fr_mod) sps_nil))) mixed ent_sub (by decide) (by decide) ?_
  rintro w M0 ⟨a, b, m, ⟨⟩⟩
  revert a b m
  intro (a : List Int) (b : List Int) (m : List Int) _ hp
  obtain ⟨⟨⟨wa, wb, wm⟩, ⟨la, lb, lm⟩, hm⟩, hle⟩ := hp
  have la : a.length ≤ 1000 := la
  have lb : b.length ≤ 1000 := lb
  have lm : m.length ≤ 1000 := lm
  have hle : v16 b ≤ v16 a + v16 m := hle
  refine vcx (X := (preW2 (a, m, ()) ∧ preW2 (plusF a m, b, ()) ∧ preMod (minusF (plusF a m) b, m, ()) ∧ (mdo (minusF (plusF a m) b) m, ()) = (subM a b m, ()))) (by kernel_rfl) ?_
  have hv : v16 (plusF a m) = v16 a + v16 m := by
    rw [plusF]
    have h1 := v16_lt wa
    have h2 := v16_lt wm
    have h3 := pv16_mono (Nat.le_max_left a.length m.length)
    have h4 := pv16_mono (Nat.le_max_right a.length m.length)
    have h5 := v16_nn wa
    have h6 := v16_nn wm
    exact lt_w (by omega) (by rw [pv16_S]; omega)
  have hv2 : v16 (minusF (plusF a m) b) = v16 a + v16 m - v16 b := by
    have h7 := v16_lt (w16_W (max a.length m.length + 1) (v16 a + v16 m))
    have h8 := v16_nn wb
    rw [minusF, hv]
    refine lt_w (by omega) ?_
    have h9 : v16 (plusF a m) < pv16 (plusF a m).length := v16_lt (w16_W _ _)
    omega
  have wp : W16 (plusF a m) := w16_W _ _
  have lp : (plusF a m).length ≤ 1001 := by rw [plusF, w16_len]; omega
  refine ⟨⟨wa, wm, by show a.length ≤ _; omega, by show m.length ≤ _; omega⟩, ⟨wp, wb, by show (plusF a m).length ≤ _; omega, by show b.length ≤ _; omega⟩, ⟨⟨w16_W _ _, wm, ?_, by show m.length < _; omega⟩, hm⟩, ?_⟩
  · show (minusF (plusF a m) b).length ≤ _
    rw [minusF, w16_len]; omega
  · rw [mdo, opq_eq, modF, hv2, subM, opq_eq]
noncomputable def spSub : Nat × Eng.Spec := (8, fnSpec [wsl, wsl, wsl] [.val wsl] (fun x => pre3 x ∧ v16 x.2.1 ≤ v16 x.1 + v16 x.2.2.1) (fun (a, b, m, _) => (subM a b m, ())))
end Go.Proofs.Ytbfimfdhmggieaa.ref03
