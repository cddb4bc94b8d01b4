/- g1: the same contracts, for laws: what is computed is not unfolded; what it is on points of the curve. -/
import Derived.Test.YtkfghpniaahjjaaG1m
import Derived.Test.YtkfghpniaahjjaaCpy
namespace Go.Eng
open Go
/-- The same; nothing unfolds it. -/
noncomputable def opq {α : Type} (x : α) : α := Classical.choose (⟨x, rfl⟩ : ∃ y, y = x)
theorem opq_eq {α : Type} (x : α) : opq x = x := Classical.choose_spec (⟨x, rfl⟩ : ∃ y, y = x)
theorem FnOk.out {P : Program} {f : FuncId} {ins : List Kd} {outs : List OutK} {G : Glob} {pre : HL ins → Prop} {A B : HL ins → HO outs} (h : FnOk P f ins outs G pre A) (e : ∀ x, B x = A x) : FnOk P f ins outs G pre B := by
  have : B = A := funext e
  rw [this]; exact h
end Go.Eng
namespace Go.Proofs.Ytkfghpniaahjjaa.g1
set_option maxRecDepth 100000
open Go Go.Eng Go.RowKit Cr Go.Proofs.Ytkfghpniaahjjaa
theorem b4_ne : b4 ≠ 0 := by decide
noncomputable def gG : Fp × Fp := opq (gx, gy)
noncomputable def gadd (p q : Fp × Fp) : Fp × Fp := opq (jpoint (F := Fp) (jsm [p, q] 2))
noncomputable def gsum (ps : List (Fp × Fp)) : Fp × Fp := opq (jpoint (F := Fp) (jsm ps ps.length))
noncomputable def gneg (p : Fp × Fp) : Fp × Fp := opq (pneg (F := Fp) p)
noncomputable def gtms (p : Fp × Fp) (k : List Int) : Fp × Fp := opq (tms p k)
noncomputable def gmul (p : Fp × Fp) (k : Fr) : Fp × Fp := opq (pml p k)
noncomputable def gon (p : Fp × Fp) : Bool := opq (isOn p)
noncomputable def gin (p : Fp × Fp) : Bool := opq (isIn p)

theorem fo_gen : FnOk Try.prog 18 [] [.val pt1] noG (fun _ => True) (fun _ => (gG, ())) := fn_gen.out fun _ => by show (gG, ()) = ((gx, gy), ()); rw [gG, opq_eq]
theorem fo_add : FnOk Try.prog 21 [pt1, pt1] [.val pt1] noG (fun _ => True) (fun (p, q, _) => (gadd p q, ())) := fn_padd.out fun (p, q, _) => by show (gadd p q, ()) = (_, ()); rw [gadd, opq_eq]
theorem fo_sum : FnOk Try.prog 22 [.sl pt1] [.val pt1] noG preSum (fun (ps, _) => (gsum ps, ())) := fn_sum.out fun (ps, _) => by show (gsum ps, ()) = (_, ()); rw [gsum, opq_eq]
theorem fo_neg : FnOk Try.prog 23 [pt1] [.val pt1] noG (fun _ => True) (fun (p, _) => (gneg p, ())) := fn_pneg.out fun (p, _) => by show (gneg p, ()) = (_, ()); rw [gneg, opq_eq]
theorem fo_times : FnOk Try.prog 32 [pt1, .sl (.int .u8)] [.val pt1] noG preTimes (fun (p, k, _) => (gtms p k, ())) := fn_times.out fun (p, k, _) => by show (gtms p k, ()) = (_, ()); rw [gtms, opq_eq]; rfl
theorem fo_mul : FnOk Try.prog 19 [pt1, .fr] [.val pt1] noG (fun _ => True) (fun (p, k, _) => (gmul p k, ())) := fn_pmul.out fun (p, k, _) => by show (gmul p k, ()) = (_, ()); rw [gmul, opq_eq]
theorem fo_on : FnOk Try.prog 24 [pt1] [.val .bool] noG (fun _ => True) (fun (p, _) => (gon p, ())) := fn_on.out fun (p, _) => by show (gon p, ()) = (_, ()); rw [gon, opq_eq]
theorem fo_in : FnOk Try.prog 29 [pt1] [.val .bool] noG (fun _ => True) (fun (p, _) => (gin p, ())) := fn_in.out fun (p, _) => by show (gin p, ()) = (_, ()); rw [gin, opq_eq]
noncomputable def soGen : Nat × Eng.Spec := (18, fnSpec [] [.val pt1] (fun _ => True) (fun _ => (gG, ())))
noncomputable def soAdd : Nat × Eng.Spec := (21, fnSpec [pt1, pt1] [.val pt1] (fun _ => True) (fun (p, q, _) => (gadd p q, ())))
noncomputable def soSum : Nat × Eng.Spec := (22, fnSpec [.sl pt1] [.val pt1] preSum (fun (ps, _) => (gsum ps, ())))
noncomputable def soNeg : Nat × Eng.Spec := (23, fnSpec [pt1] [.val pt1] (fun _ => True) (fun (p, _) => (gneg p, ())))
noncomputable def soTimes : Nat × Eng.Spec := (32, fnSpec [pt1, .sl (.int .u8)] [.val pt1] preTimes (fun (p, k, _) => (gtms p k, ())))
noncomputable def soMul : Nat × Eng.Spec := (19, fnSpec [pt1, .fr] [.val pt1] (fun _ => True) (fun (p, k, _) => (gmul p k, ())))
noncomputable def soOn : Nat × Eng.Spec := (24, fnSpec [pt1] [.val .bool] (fun _ => True) (fun (p, _) => (gon p, ())))
noncomputable def soIn : Nat × Eng.Spec := (29, fnSpec [pt1] [.val .bool] (fun _ => True) (fun (p, _) => (gin p, ())))

/-! On points of the curve. -/
abbrev Onb (p : Fp × Fp) : Prop := OnP b4 p
theorem gG_eq : gG = (gx, gy) := opq_eq _
theorem gG_on : Onb gG := by rw [gG_eq]; exact (isOn_iff _).1 (by decide +kernel)
theorem gadd_eq {p q : Fp × Fp} (hp : Onb p) (hq : Onb q) : gadd p q = padd p q := by rw [gadd, opq_eq]; exact add_eq b4_ne hp hq
theorem gsum_eq {ps : List (Fp × Fp)} (h : ∀ p ∈ ps, Onb p) : gsum ps = psum ps := by rw [gsum, opq_eq]; exact sum_eq b4_ne h
theorem gneg_eq (p : Fp × Fp) : gneg p = pneg p := opq_eq _
theorem gtms_eq {p : Fp × Fp} (hp : Onb p) {k : List Int} (hk : Bs k) : gtms p k = nmul p (num k).toNat := by rw [gtms, opq_eq]; exact times_eq b4_ne hp hk
theorem gmul_eq {p : Fp × Fp} (hp : Onb p) (k : Fr) : gmul p k = nmul p k.v.toNat := by
  rw [gmul, opq_eq, pml, tms, times_eq b4_ne hp (bytesN_Bs _ _), num_bytesN 32 _ k.nn (Int.lt_trans k.lt (by decide))]
theorem gon_iff (p : Fp × Fp) : gon p = true ↔ Onb p := by rw [gon, opq_eq]; exact isOn_iff p
end Go.Proofs.Ytkfghpniaahjjaa.g1
