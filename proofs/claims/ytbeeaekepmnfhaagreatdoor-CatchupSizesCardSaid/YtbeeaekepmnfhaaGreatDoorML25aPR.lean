/- g1: the same contracts, for laws: what is computed is not unfolded; what it is on points of the curve. -/
import Derived.Test.YtbeeaekepmnfhaaGreatDoorML25aPQ
namespace Go.Proofs.YtbeeaekepmnfhaaGreatDoor.g1
set_option maxRecDepth 100000
open Go Go.Eng Go.RowKit Cr Go.Proofs.YtbeeaekepmnfhaaGreatDoor
noncomputable def gG : Fp × Fp := opq (gx, gy)
noncomputable def gmul (p : Fp × Fp) (k : Fr) : Fp × Fp := opq (pml p k)
theorem fo_gen : FnOk Tryz.prog 41 [] [.val pt1] noG (fun _ => True) (fun _ => (gG, ())) := fn_gen.out fun _ => by show (gG, ()) = ((gx, gy), ()); rw [gG, opq_eq]
theorem fo_mul : FnOk Tryz.prog 42 [pt1, .fr] [.val pt1] noG (fun _ => True) (fun (p, k, _) => (gmul p k, ())) := fn_pmul.out fun (p, k, _) => by show (gmul p k, ()) = (_, ()); rw [gmul, opq_eq]
noncomputable def soGen : Nat × Eng.Spec := (41, fnSpec [] [.val pt1] (fun _ => True) (fun _ => (gG, ())))
noncomputable def soMul : Nat × Eng.Spec := (42, fnSpec [pt1, .fr] [.val pt1] (fun _ => True) (fun (p, k, _) => (gmul p k, ())))
end Go.Proofs.YtbeeaekepmnfhaaGreatDoor.g1
