import Derived.Test.YtbfimfdhmggieaaGreatDoorML13sPV
set_option maxRecDepth 100000
namespace Go.Proofs.YtbfimfdhmggieaaGreatDoor.h2c
noncomputable section
open Go Go.Eng Go.RowKit Cr fp2
abbrev csH2d0:=(List.take 4 [(zmp (1012 : Int),zmp (1012 : Int)),(zmp (0 : Int),zmp (240 : Int)),((0 : Fp),(0 : Fp)),(zmp (1 : Int),zmp (0 : Int))])
def odo (y : F2) : Bool:=opq (od y)
theorem fo_odd : FnOk Tryz.prog 166 [f2] [.val .bool] noG (fun _ => True) (fun (y,_) => (odo y,())):=fp2.fn_odd.out fun (y,_) => by show (odo y,())=(_,()); rw [odo,opq_eq]; rfl
def soOdd : Nat × Eng.Spec:=(166,fnSpec [f2] [.val .bool] (fun _ => True) (fun (y,_) => (odo y,())))
def gsq (x : F2) : F2 × Bool:=sqrt2 (hq x cG)
def fixy (u y : F2) : F2:=if odo y=odo u then y else -y
def swm (u t x : F2) : F2 × F2:=if (gsq x).2=true then acro x (fixy u (gsq x).1) else acro (x * t) (fixy u (gsq (x * t)).1)
def swx (u : F2) : F2:=if inv2 (cz * (u * u) * (cz * (u * u)) + cz * (u * u))=0 then cb * inv2 (cz * ca) else -cb * inv2 ca * (1 + inv2 (cz * (u * u) * (cz * (u * u)) + cz * (u * u)))
def mapo (u : F2) : F2 × F2:=opq (swm u (cz * (u * u)) (swx u))
theorem k_a : ((zmp (0 : Int),zmp (240 : Int)) : F2)=ca:=rfl
theorem k_b : ((zmp (1012 : Int),zmp (1012 : Int)) : F2)=cb:=rfl
theorem k_z : ((zmp (-2 : Int),zmp (-1 : Int)) : F2)=cz:=F2.ext (Zm.ext (of_decide_eq_true (by kernel_rfl))) (Zm.ext (of_decide_eq_true (by kernel_rfl)))
theorem k_1 : ((zmp (1 : Int),zmp (0 : Int)) : F2)=1:=F2.ext (Zm.ext (of_decide_eq_true (by kernel_rfl))) (Zm.ext (of_decide_eq_true (by kernel_rfl)))
theorem hG4 (x : F2) : hvo x csH2d0=hq x cG:=hvo_4 (p:=(1012,1012)) (q:=(0,240)) (r:=(0,0)) (s:=(1,0)) k_b k_a rfl (k_1.trans rfl)
theorem map_o {u y : F2} {x : F2} {R : F2 × F2} (hR : R=acro x (fixy u y)) : ((!odo y == odo u)=true -> True /\ True /\ (acro x (-y),())=(R,())) /\ ((!odo y == odo u)=false -> True /\ (acro x y,())=(R,())):=by
 refine ⟨fun h => ⟨trivial,trivial,?_⟩,fun h => ⟨trivial,?_⟩⟩
 ·have h1 : ¬ odo y=odo u:=by simpa using h
  rw [hR,fixy,if_neg h1]
 ·have h1 : odo y=odo u:=by simpa using h
  rw [hR,fixy,if_pos h1]
theorem map_t {u T x : F2} {R : F2 × F2} (hR : R=swm u T x) : ((!(sqrt2 (hvo x csH2d0)).snd)=true -> True /\ 0 + 4 <= 4 /\ csH2d0.length <= (1048576 : Nat) /\ True /\ True /\ True /\ ((!odo (sqrt2 (hvo (x * T) csH2d0)).fst == odo u)=true -> True /\ True /\ (acro (x * T) (-(sqrt2 (hvo (x * T) csH2d0)).fst),())=(R,())) /\ ((!odo (sqrt2 (hvo (x * T) csH2d0)).fst == odo u)=false -> True /\ (acro (x * T) (sqrt2 (hvo (x * T) csH2d0)).fst,())=(R,()))) /\ ((!(sqrt2 (hvo x csH2d0)).snd)=false -> True /\ True /\ ((!odo (sqrt2 (hvo x csH2d0)).fst == odo u)=true -> True /\ True /\ (acro x (-(sqrt2 (hvo x csH2d0)).fst),())=(R,())) /\ ((!odo (sqrt2 (hvo x csH2d0)).fst == odo u)=false -> True /\ (acro x (sqrt2 (hvo x csH2d0)).fst,())=(R,()))):=by
 rw [hG4,hG4]
 refine ⟨fun h => ⟨trivial,Nat.le_refl _,by decide,trivial,trivial,trivial,map_o ?_⟩,fun h => ⟨trivial,trivial,map_o ?_⟩⟩
 ·have h1 : ¬ (gsq x).2=true:=by
   have h : (!(gsq x).2)=true:=h
   simpa using h
  rw [hR,swm,if_neg h1]; rfl
 ·have h1 : (gsq x).2=true:=by
   have h : (!(gsq x).2)=false:=h
   simpa using h
  rw [hR,swm,if_pos h1]; rfl
theorem ent_map : enters Tryz.prog 116 Tryz.f116:=ek
theorem fn_map : FnOk Tryz.prog 116 [f2] [.val pt2] noG (fun _ => True) (fun (u,_) => (mapo u,())):=by
 refine fn_of_vc (sp:=sps [spSmall,spSm2,fp2.spSquare,fp2.spMul,fp2.spAdd,fp2.spInv,fp2.spZero,fp2.spNeg,spValue,fp2.spSqrt,soOdd,spAcross]) (scn (fok fn_small) (scn (fok fn_sm2) (scn (fok fp2.fn_square) (scn (fok fp2.fn_mul) (scn (fok fp2.fn_add) (scn (fok fp2.fn_inv) (scn (fok fp2.fn_zero) (scn (fok fp2.fn_neg) (scn (fok fn_value) (scn (fok fp2.fn_sqrt) (scn (fok fo_odd) (scn (fok fn_across) snl)))))))))))) mixed ent_map (by decide) (by decide) ?_
 rintro w M0 ⟨u,⟨⟩⟩
 revert u
 intro (u : F2) _ _
 refine vcx (X:=(True /\ (smA (0 : Int) /\ smA (240 : Int)) /\ (smA (1012 : Int) /\ smA (1012 : Int)) /\ (smA (-2 : Int) /\ smA (-1 : Int)) /\ (smA (1 : Int) /\ smA (0 : Int)) /\ True /\ True /\ True /\ True /\ True /\ True /\ (decide (inv2 ((zmp (-2 : Int),zmp (-1 : Int)) * (u * u) * ((zmp (-2 : Int),zmp (-1 : Int)) * (u * u)) + (zmp (-2 : Int),zmp (-1 : Int)) * (u * u))=(0 : Car Kd.fp × Car Kd.fp))=true -> True /\ True /\ True /\ 0 + 4 <= 4 /\ csH2d0.length <= (1048576 : Nat) /\ True /\ ((!(sqrt2 (hvo ((zmp (1012 : Int),zmp (1012 : Int)) * inv2 ((zmp (-2 : Int),zmp (-1 : Int)) * (zmp (0 : Int),zmp (240 : Int)))) csH2d0)).snd)=true -> True /\ 0 + 4 <= 4 /\ csH2d0.length <= (1048576 : Nat) /\ True /\ True /\ True /\ ((!odo (sqrt2 (hvo ((zmp (1012 : Int),zmp (1012 : Int)) * inv2 ((zmp (-2 : Int),zmp (-1 : Int)) * (zmp (0 : Int),zmp (240 : Int))) * ((zmp (-2 : Int),zmp (-1 : Int)) * (u * u))) csH2d0)).fst == odo u)=true -> True /\ True /\ (acro ((zmp (1012 : Int),zmp (1012 : Int)) * inv2 ((zmp (-2 : Int),zmp (-1 : Int)) * (zmp (0 : Int),zmp (240 : Int))) * ((zmp (-2 : Int),zmp (-1 : Int)) * (u * u))) (-(sqrt2 (hvo ((zmp (1012 : Int),zmp (1012 : Int)) * inv2 ((zmp (-2 : Int),zmp (-1 : Int)) * (zmp (0 : Int),zmp (240 : Int))) * ((zmp (-2 : Int),zmp (-1 : Int)) * (u * u))) csH2d0)).fst),())=(mapo u,())) /\ ((!odo (sqrt2 (hvo ((zmp (1012 : Int),zmp (1012 : Int)) * inv2 ((zmp (-2 : Int),zmp (-1 : Int)) * (zmp (0 : Int),zmp (240 : Int))) * ((zmp (-2 : Int),zmp (-1 : Int)) * (u * u))) csH2d0)).fst == odo u)=false -> True /\ (acro ((zmp (1012 : Int),zmp (1012 : Int)) * inv2 ((zmp (-2 : Int),zmp (-1 : Int)) * (zmp (0 : Int),zmp (240 : Int))) * ((zmp (-2 : Int),zmp (-1 : Int)) * (u * u))) (sqrt2 (hvo ((zmp (1012 : Int),zmp (1012 : Int)) * inv2 ((zmp (-2 : Int),zmp (-1 : Int)) * (zmp (0 : Int),zmp (240 : Int))) * ((zmp (-2 : Int),zmp (-1 : Int)) * (u * u))) csH2d0)).fst,())=(mapo u,()))) /\ ((!(sqrt2 (hvo ((zmp (1012 : Int),zmp (1012 : Int)) * inv2 ((zmp (-2 : Int),zmp (-1 : Int)) * (zmp (0 : Int),zmp (240 : Int)))) csH2d0)).snd)=false -> True /\ True /\ ((!odo (sqrt2 (hvo ((zmp (1012 : Int),zmp (1012 : Int)) * inv2 ((zmp (-2 : Int),zmp (-1 : Int)) * (zmp (0 : Int),zmp (240 : Int)))) csH2d0)).fst == odo u)=true -> True /\ True /\ (acro ((zmp (1012 : Int),zmp (1012 : Int)) * inv2 ((zmp (-2 : Int),zmp (-1 : Int)) * (zmp (0 : Int),zmp (240 : Int)))) (-(sqrt2 (hvo ((zmp (1012 : Int),zmp (1012 : Int)) * inv2 ((zmp (-2 : Int),zmp (-1 : Int)) * (zmp (0 : Int),zmp (240 : Int)))) csH2d0)).fst),())=(mapo u,())) /\ ((!odo (sqrt2 (hvo ((zmp (1012 : Int),zmp (1012 : Int)) * inv2 ((zmp (-2 : Int),zmp (-1 : Int)) * (zmp (0 : Int),zmp (240 : Int)))) csH2d0)).fst == odo u)=false -> True /\ (acro ((zmp (1012 : Int),zmp (1012 : Int)) * inv2 ((zmp (-2 : Int),zmp (-1 : Int)) * (zmp (0 : Int),zmp (240 : Int)))) (sqrt2 (hvo ((zmp (1012 : Int),zmp (1012 : Int)) * inv2 ((zmp (-2 : Int),zmp (-1 : Int)) * (zmp (0 : Int),zmp (240 : Int)))) csH2d0)).fst,())=(mapo u,())))) /\ (decide (inv2 ((zmp (-2 : Int),zmp (-1 : Int)) * (u * u) * ((zmp (-2 : Int),zmp (-1 : Int)) * (u * u)) + (zmp (-2 : Int),zmp (-1 : Int)) * (u * u))=(0 : Car Kd.fp × Car Kd.fp))=false -> True /\ True /\ True /\ True /\ True /\ 0 + 4 <= 4 /\ csH2d0.length <= (1048576 : Nat) /\ True /\ ((!(sqrt2 (hvo (-(zmp (1012 : Int),zmp (1012 : Int)) * inv2 (zmp (0 : Int),zmp (240 : Int)) * ((zmp (1 : Int),zmp (0 : Int)) + inv2 ((zmp (-2 : Int),zmp (-1 : Int)) * (u * u) * ((zmp (-2 : Int),zmp (-1 : Int)) * (u * u)) + (zmp (-2 : Int),zmp (-1 : Int)) * (u * u)))) csH2d0)).snd)=true -> True /\ 0 + 4 <= 4 /\ csH2d0.length <= (1048576 : Nat) /\ True /\ True /\ True /\ ((!odo (sqrt2 (hvo (-(zmp (1012 : Int),zmp (1012 : Int)) * inv2 (zmp (0 : Int),zmp (240 : Int)) * ((zmp (1 : Int),zmp (0 : Int)) + inv2 ((zmp (-2 : Int),zmp (-1 : Int)) * (u * u) * ((zmp (-2 : Int),zmp (-1 : Int)) * (u * u)) + (zmp (-2 : Int),zmp (-1 : Int)) * (u * u))) * ((zmp (-2 : Int),zmp (-1 : Int)) * (u * u))) csH2d0)).fst == odo u)=true -> True /\ True /\ (acro (-(zmp (1012 : Int),zmp (1012 : Int)) * inv2 (zmp (0 : Int),zmp (240 : Int)) * ((zmp (1 : Int),zmp (0 : Int)) + inv2 ((zmp (-2 : Int),zmp (-1 : Int)) * (u * u) * ((zmp (-2 : Int),zmp (-1 : Int)) * (u * u)) + (zmp (-2 : Int),zmp (-1 : Int)) * (u * u))) * ((zmp (-2 : Int),zmp (-1 : Int)) * (u * u))) (-(sqrt2 (hvo (-(zmp (1012 : Int),zmp (1012 : Int)) * inv2 (zmp (0 : Int),zmp (240 : Int)) * ((zmp (1 : Int),zmp (0 : Int)) + inv2 ((zmp (-2 : Int),zmp (-1 : Int)) * (u * u) * ((zmp (-2 : Int),zmp (-1 : Int)) * (u * u)) + (zmp (-2 : Int),zmp (-1 : Int)) * (u * u))) * ((zmp (-2 : Int),zmp (-1 : Int)) * (u * u))) csH2d0)).fst),())=(mapo u,())) /\ ((!odo (sqrt2 (hvo (-(zmp (1012 : Int),zmp (1012 : Int)) * inv2 (zmp (0 : Int),zmp (240 : Int)) * ((zmp (1 : Int),zmp (0 : Int)) + inv2 ((zmp (-2 : Int),zmp (-1 : Int)) * (u * u) * ((zmp (-2 : Int),zmp (-1 : Int)) * (u * u)) + (zmp (-2 : Int),zmp (-1 : Int)) * (u * u))) * ((zmp (-2 : Int),zmp (-1 : Int)) * (u * u))) csH2d0)).fst == odo u)=false -> True /\ (acro (-(zmp (1012 : Int),zmp (1012 : Int)) * inv2 (zmp (0 : Int),zmp (240 : Int)) * ((zmp (1 : Int),zmp (0 : Int)) + inv2 ((zmp (-2 : Int),zmp (-1 : Int)) * (u * u) * ((zmp (-2 : Int),zmp (-1 : Int)) * (u * u)) + (zmp (-2 : Int),zmp (-1 : Int)) * (u * u))) * ((zmp (-2 : Int),zmp (-1 : Int)) * (u * u))) (sqrt2 (hvo (-(zmp (1012 : Int),zmp (1012 : Int)) * inv2 (zmp (0 : Int),zmp (240 : Int)) * ((zmp (1 : Int),zmp (0 : Int)) + inv2 ((zmp (-2 : Int),zmp (-1 : Int)) * (u * u) * ((zmp (-2 : Int),zmp (-1 : Int)) * (u * u)) + (zmp (-2 : Int),zmp (-1 : Int)) * (u * u))) * ((zmp (-2 : Int),zmp (-1 : Int)) * (u * u))) csH2d0)).fst,())=(mapo u,()))) /\ ((!(sqrt2 (hvo (-(zmp (1012 : Int),zmp (1012 : Int)) * inv2 (zmp (0 : Int),zmp (240 : Int)) * ((zmp (1 : Int),zmp (0 : Int)) + inv2 ((zmp (-2 : Int),zmp (-1 : Int)) * (u * u) * ((zmp (-2 : Int),zmp (-1 : Int)) * (u * u)) + (zmp (-2 : Int),zmp (-1 : Int)) * (u * u)))) csH2d0)).snd)=false -> True /\ True /\ ((!odo (sqrt2 (hvo (-(zmp (1012 : Int),zmp (1012 : Int)) * inv2 (zmp (0 : Int),zmp (240 : Int)) * ((zmp (1 : Int),zmp (0 : Int)) + inv2 ((zmp (-2 : Int),zmp (-1 : Int)) * (u * u) * ((zmp (-2 : Int),zmp (-1 : Int)) * (u * u)) + (zmp (-2 : Int),zmp (-1 : Int)) * (u * u)))) csH2d0)).fst == odo u)=true -> True /\ True /\ (acro (-(zmp (1012 : Int),zmp (1012 : Int)) * inv2 (zmp (0 : Int),zmp (240 : Int)) * ((zmp (1 : Int),zmp (0 : Int)) + inv2 ((zmp (-2 : Int),zmp (-1 : Int)) * (u * u) * ((zmp (-2 : Int),zmp (-1 : Int)) * (u * u)) + (zmp (-2 : Int),zmp (-1 : Int)) * (u * u)))) (-(sqrt2 (hvo (-(zmp (1012 : Int),zmp (1012 : Int)) * inv2 (zmp (0 : Int),zmp (240 : Int)) * ((zmp (1 : Int),zmp (0 : Int)) + inv2 ((zmp (-2 : Int),zmp (-1 : Int)) * (u * u) * ((zmp (-2 : Int),zmp (-1 : Int)) * (u * u)) + (zmp (-2 : Int),zmp (-1 : Int)) * (u * u)))) csH2d0)).fst),())=(mapo u,())) /\ ((!odo (sqrt2 (hvo (-(zmp (1012 : Int),zmp (1012 : Int)) * inv2 (zmp (0 : Int),zmp (240 : Int)) * ((zmp (1 : Int),zmp (0 : Int)) + inv2 ((zmp (-2 : Int),zmp (-1 : Int)) * (u * u) * ((zmp (-2 : Int),zmp (-1 : Int)) * (u * u)) + (zmp (-2 : Int),zmp (-1 : Int)) * (u * u)))) csH2d0)).fst == odo u)=false -> True /\ (acro (-(zmp (1012 : Int),zmp (1012 : Int)) * inv2 (zmp (0 : Int),zmp (240 : Int)) * ((zmp (1 : Int),zmp (0 : Int)) + inv2 ((zmp (-2 : Int),zmp (-1 : Int)) * (u * u) * ((zmp (-2 : Int),zmp (-1 : Int)) * (u * u)) + (zmp (-2 : Int),zmp (-1 : Int)) * (u * u)))) (sqrt2 (hvo (-(zmp (1012 : Int),zmp (1012 : Int)) * inv2 (zmp (0 : Int),zmp (240 : Int)) * ((zmp (1 : Int),zmp (0 : Int)) + inv2 ((zmp (-2 : Int),zmp (-1 : Int)) * (u * u) * ((zmp (-2 : Int),zmp (-1 : Int)) * (u * u)) + (zmp (-2 : Int),zmp (-1 : Int)) * (u * u)))) csH2d0)).fst,())=(mapo u,())))))) (by kernel_rfl) ?_
 refine ⟨trivial,⟨⟨by decide,by decide⟩,⟨by decide,by decide⟩⟩,⟨⟨by decide,by decide⟩,⟨by decide,by decide⟩⟩,⟨⟨by decide,by decide⟩,⟨by decide,by decide⟩⟩,⟨⟨by decide,by decide⟩,⟨by decide,by decide⟩⟩,trivial,trivial,trivial,trivial,trivial,trivial,fun h => ⟨trivial,trivial,trivial,Nat.le_refl _,by decide,trivial,map_t ?_⟩,fun h => ⟨trivial,trivial,trivial,trivial,trivial,Nat.le_refl _,by decide,trivial,map_t ?_⟩⟩
 ·rw [k_z] at h
  rw [mapo,opq_eq,swx,if_pos (of_decide_eq_true h),k_z,k_a,k_b]
 ·rw [k_z] at h
  rw [mapo,opq_eq,swx,if_neg (of_decide_eq_false h),k_z,k_a,k_b,k_1]
def spMap : Nat × Eng.Spec:=(116,fnSpec [f2] [.val pt2] (fun _ => True) (fun (u,_) => (mapo u,())))
end
end Go.Proofs.YtbfimfdhmggieaaGreatDoor.h2c
namespace Cr
open Rg Fd Go.Eng
theorem line12_ww (a b c : F2) : line12 a b c=e2 a + ww * (ww * (e2 b + ww * e2 c)):=by
 have h:=horner a 0 b c 0 0
 have h0 : e2 0=(0 : F12):=rfl
 rw [h0,mul_zero,add_zero,mul_zero,add_zero,zero_add] at h
 exact h
end Cr
namespace Cr
open Rg Fd Go.Eng
theorem up_6 {F : Type} [Rg F] (w i : F) : w * i * (w * i) * (w * i) * (w * i * (w * i) * (w * i))=w * (w * (w * (w * (w * w)))) * (i * i * i * (i * i * i)) :=
 rid [w,i] ((fun (w i : PE) => (w * i * (w * i) * (w * i) * (w * i * (w * i) * (w * i)))) (.v 0) (.v 1)) ((fun (w i : PE) => (w * (w * (w * (w * (w * w)))) * (i * i * i * (i * i * i)))) (.v 0) (.v 1)) (by kernel_rfl)
theorem up_2 {F : Type} [Rg F] (w i k : F) : w * i * (w * i) * k=w * (w * k) * (i * i) :=
 rid [w,i,k] ((fun (w i k : PE) => (w * i * (w * i) * k)) (.v 0) (.v 1) (.v 2)) ((fun (w i k : PE) => (w * (w * k) * (i * i))) (.v 0) (.v 1) (.v 2)) (by kernel_rfl)
theorem up_b {F : Type} [Rg F] (b x v : F) : b * x * v=b * (x * v) :=
 rid [b,x,v] ((fun (b x v : PE) => (b * x * v)) (.v 0) (.v 1) (.v 2)) ((fun (b x v : PE) => (b * (x * v))) (.v 0) (.v 1) (.v 2)) (by kernel_rfl)
theorem e2_add' (c d : F2) : e2 (c + d)=e2 c + e2 d:=by rw [e2_add]; rfl
theorem e2_mul' (c d : F2) : e2 (c * d)=e2 c * e2 d:=by
 rw [e2_mul]
 show _=((c * d,c * (0 : F2),c * (0 : F2)),c * (0 : F2),c * (0 : F2),c * (0 : F2))
 rw [mul_zero]; rfl
theorem hm_e2 : Hm e2:=⟨e2_add',e2_mul',fun x => (e2_neg x).symm,rfl,fun _ h => congrArg (fun t : F12 => t.1.1) h⟩
def e0 (x : Fp) : F2:=(x,(0 : Fp))
theorem hm_e0 : Hm e0:=by
 refine ⟨fun x y => ?_,fun x y => ?_,fun x => ?_,rfl,fun _ h => congrArg (fun t : F2 => t.1) h⟩
 ·rw [F2.add_def]; refine F2.ext rfl ?_
  show (0 : Fp)=0 + 0
  rw [add_zero]
 ·rw [F2.mul_def]; refine F2.ext ?_ ?_
  ·show x * y=x * y - 0 * 0
   rw [mul_zero,sub_z]
  ·show (0 : Fp)=x * 0 + 0 * y
   rw [mul_zero,zero_mul,add_zero]
 ·rw [F2.neg_def]; exact F2.ext rfl neg_z.symm
theorem Hm.comp {F G E : Type} [Fd F] [Fd G] [Fd E] {f : F -> G} {g : G -> E} (H : Hm f) (K : Hm g) : Hm (fun x => g (f x)) :=
 ⟨fun x y => by rw [H.add,K.add],fun x y => by rw [H.mul,K.mul],fun x => by rw [H.neg,K.neg],by rw [H.one,K.one],fun x h => H.inj _ (K.inj _ h)⟩
def e1 (x : Fp) : F12:=e2 (e0 x)
theorem hm_e1 : Hm e1:=hm_e0.comp hm_e2
theorem pwn_ne {F : Type} [Fd F] {x : F} (hx : x ≠ 0) : ∀ n,pwn x n ≠ 0
 | 0 => one_ne
 | n + 1 => mul_ne (pwn_ne hx n) hx
theorem pwn_zr {F : Type} [Rg F] {n : Nat} (h : 0 < n) : pwn (0 : F) n=0:=by
 obtain ⟨m,rfl⟩ : ∃ m,n=m + 1:=⟨n - 1,by omega⟩
 exact mul_zero _
noncomputable def fro (p : Nat) (x : F12) : F12:=pwn x p
theorem hm_fro {p : Nat} (hp : p=fpP) : Hm (fro p):=by
 have ha : ∀ x y : F12,fro p (x + y)=fro p x + fro p y:=fun x y => pwn_sum (prm_q hp) (nc_p12 hp) x y
 refine ⟨ha,fun x y => pwn_prod x y p,fun x => ?_,pwn_one p,fun x h => ?_⟩
 ·have h0 : fro p (-x) + fro p x=0:=by
   rw [<- ha,Rg.neg_add]
   have hz : 0 < p:=by rw [hp]; exact of_decide_eq_true (by kernel_rfl)
   exact pwn_zr hz
  rw [add_comm] at h0
  exact (neg_eq h0).symm
 ·by_cases hx : x=0
  ·exact hx
  ·exact absurd h (pwn_ne hx p)
theorem fro_e1 {p : Nat} (hp : p=fpP) (x : Fp) : fro p (e1 x)=e1 x:=by
 show pwn (e2 (e0 x)) p=e2 (e0 x)
 rw [e2_pw,pw_f2 hp]
 show e2 (x,-(0 : Fp))=e2 (x,0)
 rw [neg_z]
theorem hmp_fro {p : Nat} (hp : p=fpP) (P : Fp × Fp) : hmp (fro p) (hmp e1 P)=hmp e1 P:=Prod.ext (fro_e1 hp P.1) (fro_e1 hp P.2)
noncomputable def wi : F12:=inv ww
theorem ww_ne : ww ≠ 0:=fun h => absurd (congrArg (fun t : F12 => t.2.1) h) one_ne
theorem ww_wi : ww * wi=1:=mul_inv ww ww_ne
theorem wi_ne : wi ≠ 0:=fun h => by
 have e:=ww_wi
 rw [h,mul_zero] at e
 exact one_ne e.symm
theorem wi_six : e2 xi * (wi * wi * wi * (wi * wi * wi))=1:=by
 rw [<- ww_six,<- up_6,ww_wi]; simp only [mul_one]
noncomputable def k2 : F12:=(((0 : F2),(0 : F2),inv xi),(0 : F2),(0 : F2),(0 : F2))
theorem wi_two : wi * wi=k2:=by
 have h1 : ww * (ww * k2)=1:=by
  rw [ww_mul,ww_mul]
  show ((xi * inv xi,(0 : F2),(0 : F2)),xi * (0 : F2),(0 : F2),(0 : F2))=_
  rw [mul_zero,mul_inv xi xi_ne]; rfl
 have h2 : ww * wi * (ww * wi) * k2=ww * (ww * k2) * (wi * wi):=up_2 _ _ _
 rw [ww_wi,h1,mul_one,one_mul,one_mul] at h2
 exact h2.symm
theorem ver_two (a c : F2) : (e2 a - e2 c * (wi * wi)).2=0 /\ (e2 a - e2 c * (wi * wi)).1.2.2=-(c * inv xi):=by
 rw [wi_two,e2_mul,F12.sub_def]
 refine ⟨?_,?_⟩
 ·show (0 : F6) - (c * (0 : F2),c * (0 : F2),c * (0 : F2))=0
  rw [mul_zero]; exact sub_self (0 : F6)
 ·show ((e6 a) - (c * (0 : F2),c * (0 : F2),c * inv xi) : F6).2.2=_
  rw [F6.sub_def]
  show (0 : F2) - c * inv xi=_
  rw [Rg.sub_def,zero_add]
theorem ver_ne {c : F2} (a : F2) (hc : c ≠ 0) : e2 a - e2 c * (wi * wi) ≠ 0:=fun h => by
 have h1:=(ver_two a c).2
 rw [h] at h1
 have h2 : (0 : F2)=-(c * inv xi):=h1
 have h3 : c * inv xi=0:=by rw [<- neg_neg (c * inv xi),<- h2,neg_z]
 have h4 : inv xi ≠ 0:=fun e => by
  have:=mul_inv xi xi_ne
  rw [e,mul_zero] at this
  exact one_ne this.symm
 exact (mul_eq_zero h3).elim hc h4
theorem fac_one (c : F2) : (e2 c * (ww * (ww * ww))).1=0 /\ (e2 c * (ww * (ww * ww))).2.2.1=c:=by
 rw [ww_mul ww,ww_mul,e2_mul]
 refine ⟨?_,?_⟩
 ·show (c * (xi * (0 : F2)),c * (0 : F2),c * (0 : F2))=(0 : F6)
  rw [mul_zero,mul_zero]; rfl
 ·show c * (1 : F2)=c
  exact mul_one c
structure LastP (N p u r : Nat) : Prop where
 pp : p=fpP
 six : ∀ x : F12,x ≠ 0 -> x.2=0 -> pwn x N=1
 odd : ∀ x : F12,x ≠ 0 -> x.1=0 -> pwn x N=1
 ord : ∀ x : F12,x ≠ 0 -> pwn (pwn x N) r=1
 np : ∃ s,u + p=r * s
 pos : 0 < N
section
variable {N p u r : Nat} (L : LastP N p u r)
include L
theorem LastP.up {x : F12} (hx : x ≠ 0) : pwn (pwn x N) u * pwn (pwn x N) p=1:=by
 obtain ⟨s,hs⟩:=L.np
 rw [<- pwn_add,hs,pwn_mul,L.ord x hx,pwn_one]
theorem LastP.neg : pwn (-1 : F12) N=1:=by
 refine L.six _ ?_ ?_
 ·intro h
  have h1 : (1 : F12)=0:=by rw [<- neg_neg (1 : F12),h,neg_z]
  exact one_ne h1
 ·rw [F12.neg_def]; exact neg_z (F:=F6)
noncomputable def kil : Kill F12:=⟨fun x => pwn x N,fun x y => pwn_prod x y N,pwn_one N,L.neg⟩
theorem kil_ne {x y : F12} (h : (kil L).χ x * y=1) : x ≠ 0:=by
 rintro rfl
 have h1 : pwn (0 : F12) N * y=1:=h
 rw [pwn_zr L.pos,zero_mul] at h1
 exact one_ne h1.symm
theorem kil_up {x : F12} (hx : x ≠ 0) : pwn ((kil L).χ x) u * pwn ((kil L).χ x) p=1:=L.up hx
theorem kil_fro (x : F12) : (kil L).χ (fro p x)=pwn ((kil L).χ x) p:=by
 show pwn (pwn x p) N=pwn (pwn x N) p
 rw [<- pwn_mul,<- pwn_mul,Nat.mul_comm]
theorem kil_fac {c : F2} (hc : c ≠ 0) : (kil L).χ (e2 c * (ww * (ww * ww)))=1:=by
 refine L.odd _ ?_ (fac_one c).1
 intro h
 have h1:=(fac_one c).2
 rw [h] at h1
 exact hc h1.symm
variable {b1 : Fp} {b2 : F2} (hb1 : b1 ≠ 0) (hb2 : b2 ≠ 0) (hns : ∀ y : F2,y * y=b2 -> False) (he : b2=e0 b1 * xi)
omit L in
theorem bb_2 (he : b2=e0 b1 * xi) : e1 b1=e2 b2 * (wi * wi * wi * (wi * wi * wi)):=by
 rw [he,e2_mul',up_b,wi_six,mul_one]; rfl
omit L in
theorem bb_ne (hb1 : b1 ≠ 0) : e1 b1 ≠ 0:=fun h => hb1 (hm_e1.inj _ h)
def TT (b1 : Fp) (R : F12 × F12) : Prop:=∃ P,OnP b1 P /\ R=hmp e1 P
def SS (b2 : F2) (A : F12 × F12) : Prop:=∃ Q,OnP b2 Q /\ A=tws e2 wi Q
include hb1 hb2 hns he
theorem two12 : Two (e1 b1) (kil L) (SS b2) (TT b1) where
 onS:=by
  rintro _ ⟨Q,o,rfl⟩
  exact tws_onP hm_e2 (bb_2 he) o
 addS:=by
  rintro _ _ ⟨Q,o,rfl⟩ ⟨Q',o',rfl⟩
  exact ⟨padd Q Q',padd_on hb2 o o',(tws_add hm_e2 (bb_2 he) hb2 (bb_ne hb1) o o').symm⟩
 onT:=by
  rintro _ ⟨P,o,rfl⟩
  exact hmp_onP hm_e1 rfl o
 addT:=by
  rintro _ _ ⟨P,o,rfl⟩ ⟨P',o',rfl⟩
  exact ⟨padd P P',padd_on hb1 o o',(hmp_add hm_e1 rfl hb1 (bb_ne hb1) o o').symm⟩
 vt:=by
  rintro _ _ ⟨Q,o,rfl⟩ ⟨P,o',rfl⟩ nA nR
  have oQ : OnF b2 Q:=o.resolve_left (fun e => nA (by rw [e]; exact tws_O hm_e2))
  have hq : Q.1 ≠ 0:=fun e => by
   have h : Q.2 * Q.2=Q.1 * Q.1 * Q.1 + b2:=oQ
   rw [e,mul_zero,zero_add] at h
   exact hns _ h
  show (kil L).χ (e2 (e0 P.1) - e2 Q.1 * (wi * wi))=1
  exact L.six _ (ver_ne _ hq) (ver_two _ _).1
theorem grp12 {P : Fp × Fp} (oP : OnP b1 P) (nP : P ≠ O2) : Grp (e1 b1) (kil L) (hmp e1 P) (SS b2) where
 on:=(two12 L hb1 hb2 hns he).onS
 add:=(two12 L hb1 hb2 hns he).addS
 vt:=by
  intro A sA
  have g:=two12 L hb1 hb2 hns he
  by_cases h : A=O2
  ·rw [h,Vt_O,(kil L).one]
  ·have oA:=(g.onS A sA).resolve_left h
   rw [Vt_on oA (bb_ne hb1)]
   refine g.vt A (hmp e1 P) sA ⟨P,oP,rfl⟩ h ?_
   rw [<- tws_1]
   exact tws_ne hm_e1 one_ne nP
end
end Cr
namespace Cr
noncomputable section
open Rg Fd Go.Eng
theorem tc_x {F : Type} [Rg F] (x r z : F) : x * (z * z) * (r * r)=x * (r * r) * (z * z) :=
 rid [x,r,z] ((fun (x r z : PE) => (x * (z * z) * (r * r))) (.v 0) (.v 1) (.v 2)) ((fun (x r z : PE) => (x * (r * r) * (z * z))) (.v 0) (.v 1) (.v 2)) (by kernel_rfl)
theorem tc_y {F : Type} [Rg F] (y r z : F) : y * (z * (z * z)) * (r * r * r)=y * (r * r * r) * (z * (z * z)) :=
 rid [y,r,z] ((fun (y r z : PE) => (y * (z * (z * z)) * (r * r * r))) (.v 0) (.v 1) (.v 2)) ((fun (y r z : PE) => (y * (r * r * r) * (z * (z * z)))) (.v 0) (.v 1) (.v 2)) (by kernel_rfl)
theorem tc_n {F : Type} [Rg F] (y z : F) : -(y * z)=-y * z :=
 rid [y,z] ((fun (y z : PE) => (-(y * z))) (.v 0) (.v 1)) ((fun (y z : PE) => (-y * z)) (.v 0) (.v 1)) (by kernel_rfl)
theorem hm_cj : Hm cjg:=by
 refine ⟨fun x y => ?_,fun x y => ?_,fun x => ?_,F2.ext rfl neg_z,fun x h => ?_⟩
 ·show (_,_)=(_ : F2)
  rw [F2.add_def,F2.add_def]
  exact F2.ext rfl (neg_add_rev _ _)
 ·show (_,_)=(_ : F2)
  rw [F2.mul_def,F2.mul_def]
  refine F2.ext ?_ ?_
  ·show x.1 * y.1 - x.2 * y.2=x.1 * y.1 - -x.2 * -y.2
   rw [neg_mul,mul_neg,neg_neg]
  ·show -(x.1 * y.2 + x.2 * y.1)=x.1 * -y.2 + -x.2 * y.1
   rw [neg_add_rev,mul_neg,neg_mul]
 ·show (_,_)=(_ : F2)
  rw [F2.neg_def,F2.neg_def]; rfl
 ·have h1 : x.1=0:=congrArg Prod.fst h
  have h2 : -x.2=0:=congrArg Prod.snd h
  exact F2.ext h1 (by rw [<- neg_neg x.2,h2]; exact neg_z)
def ir : F2:=q2 irv
def tau (P : F2 × F2) : F2 × F2:=tws cjg ir P
theorem tbc : evP2.isz (vsub (vmul (vcj (4,4)) (vmul (vmul (vmul irv irv) irv) (vmul (vmul irv irv) irv))) (4,4))=true:=by kernel_rfl
theorem tb_tau : tb=cjg tb * (ir * ir * ir * (ir * ir * ir)):=by
 have h1 : q2 (vsub (vmul (vcj (4,4)) (vmul (vmul (vmul irv irv) irv) (vmul (vmul irv irv) irv))) (4,4))=0:=(evP2.isz_φ _).1 tbc
 simp only [q2_sub,q2_mul,q2_cj] at h1
 exact (eq_of_sub h1).symm
structure Ad (f : F2 × F2 -> F2 × F2) : Prop where
 on : ∀ P,OnP tb P -> OnP tb (f P)
 add : ∀ P Q,OnP tb P -> OnP tb Q -> f (padd P Q)=padd (f P) (f Q)
theorem ad_id : Ad fun P => P:=⟨fun _ h => h,fun _ _ _ _ => rfl⟩
theorem ad_mul (n : Nat) : Ad fun P => nmul P n:=⟨fun _ h => nmul_on tb_ne h n,fun _ _ h k => nmul_padd tb_ne h k n⟩
theorem ad_neg : Ad pneg:=⟨fun _ h => pneg_onP h,fun _ _ h k => pneg_add tb_ne h k⟩
theorem ad_tau : Ad tau:=⟨fun _ h => tws_onP hm_cj tb_tau h,fun _ _ h k => tws_add hm_cj tb_tau tb_ne tb_ne h k⟩
theorem Ad.comp {f g : F2 × F2 -> F2 × F2} (hf : Ad f) (hg : Ad g) : Ad fun P => f (g P):=⟨fun P h => hf.on _ (hg.on P h),fun P Q h k => by rw [hg.add P Q h k,hf.add _ _ (hg.on P h) (hg.on Q k)]⟩
theorem Ad.sum {f g : F2 × F2 -> F2 × F2} (hf : Ad f) (hg : Ad g) : Ad fun P => padd (f P) (g P):=⟨fun P h => padd_on tb_ne (hf.on P h) (hg.on P h),fun P Q h k => by
 show padd (f (padd P Q)) (g (padd P Q))=_
 rw [hf.add P Q h k,hg.add P Q h k]
 exact add4 tb_ne (hf.on P h) (hf.on Q k) (hg.on P h) (hg.on Q k)⟩
theorem Ad.zero {f : F2 × F2 -> F2 × F2} (hf : Ad f) : f O2=O2:=by
 have oO : OnP tb (O2 : F2 × F2):=.inl rfl
 have h:=hf.add O2 O2 oO oO
 rw [O_add] at h
 have c:=cancel tb_ne (hf.on _ oO) (hf.on _ oO)
 rw [<- h,neg_add_self] at c
 exact c.symm
theorem Ad.nmul {f : F2 × F2 -> F2 × F2} (hf : Ad f) {P : F2 × F2} (oP : OnP tb P) : ∀ n,f (nmul P n)=nmul (f P) n
 | 0 => hf.zero
 | n + 1 => by
  show f (padd (Cr.nmul P n) P)=padd (Cr.nmul (f P) n) (f P)
  rw [hf.add _ _ (nmul_on tb_ne oP n) oP,hf.nmul oP n]
theorem Ad.eq {f g : F2 × F2 -> F2 × F2} (hf : Ad f) (hg : Ad g) (h1 : f T1=g T1) (h2 : f T2=g T2) {P : F2 × F2} (oP : OnP tb P) : f P=g P:=by
 have oa : OnP tb T1:=.inr T1_on
 have ob : OnP tb T2:=.inr T2_on
 obtain ⟨a,c,rfl⟩:=all_tw oP
 rw [hf.add _ _ (nmul_on tb_ne oa a) (nmul_on tb_ne ob c),hg.add _ _ (nmul_on tb_ne oa a) (nmul_on tb_ne ob c),hf.nmul oa,hf.nmul ob,hg.nmul oa,hg.nmul ob,h1,h2]
def uN : Nat:=15132376222941642752
def clr (P : F2 × F2) : F2 × F2:=psum [nmul (nmul P uN) uN,nmul P uN,pneg P,pneg (tau (padd (nmul P uN) P)),tau (tau (padd P P))]
def clr' (P : F2 × F2) : F2 × F2:=padd (nmul (nmul P uN) uN) (padd (nmul P uN) (padd (pneg P) (padd (pneg (tau (padd (nmul P uN) P))) (tau (tau (padd P P))))))
theorem clr_eq (P : F2 × F2) : clr P=clr' P:=by
 simp only [clr,clr',psum,add_O]
theorem ad_clr : Ad clr':=((ad_mul uN).comp (ad_mul uN)).sum ((ad_mul uN).sum (ad_neg.sum ((ad_neg.comp (ad_tau.comp ((ad_mul uN).sum ad_id))).sum (ad_tau.comp (ad_tau.comp (ad_id.sum ad_id))))))
def tauJ (a : J3) : J3:=fo2 (vmul irv irv) fun r2 => fo2 (vmul r2 irv) fun r3 => fo2 (vmul (vcj a.1) r2) fun x => fo2 (vmul (vcj a.2.1) r3) fun y => fo2 (vcj a.2.2) fun z => (x,y,z)
theorem tauJ_rep {a : J3} {P : F2 × F2} (h : Rep tb (j3 a) P) : Rep tb (j3 (tauJ a)) (tau P):=by
 have e : j3 (tauJ a)=(cjg (q2 a.1) * (ir * ir),cjg (q2 a.2.1) * (ir * ir * ir),cjg (q2 a.2.2)):=by
  have e1 : j3 (tauJ a)=(q2 (tauJ a).1,q2 (tauJ a).2.1,q2 (tauJ a).2.2):=rfl
  rw [e1]
  simp only [tauJ,fo2_eq,q2_mul,q2_cj]; rfl
 rw [e]
 rcases h with ⟨h1,rfl⟩ | ⟨h1,h2,h3,h4⟩
 ·refine .inl ⟨?_,tws_O hm_cj⟩
  show cjg (q2 a.2.2)=0
  have h1 : q2 a.2.2=0:=h1
  rw [h1,hm_cj.zero]
 ·have h1 : q2 a.2.2 ≠ 0:=h1
  have h2 : q2 a.1=P.1 * (q2 a.2.2 * q2 a.2.2):=h2
  have h3 : q2 a.2.1=P.2 * (q2 a.2.2 * (q2 a.2.2 * q2 a.2.2)):=h3
  refine .inr ⟨fun z => h1 (hm_cj.inj _ z),?_,?_,tws_on hm_cj tb_tau h4⟩
  ·show cjg (q2 a.1) * (ir * ir)=cjg P.1 * (ir * ir) * (cjg (q2 a.2.2) * cjg (q2 a.2.2))
   rw [h2,hm_cj.mul,hm_cj.mul]; exact tc_x _ _ _
  ·show cjg (q2 a.2.1) * (ir * ir * ir)=cjg P.2 * (ir * ir * ir) * (cjg (q2 a.2.2) * (cjg (q2 a.2.2) * cjg (q2 a.2.2)))
   rw [h3,hm_cj.mul,hm_cj.mul,hm_cj.mul]; exact tc_y _ _ _
def negJ (a : J3) : J3:=fo2 (vneg a.2.1) fun y => (a.1,y,a.2.2)
theorem negJ_rep {a : J3} {P : F2 × F2} (h : Rep tb (j3 a) P) : Rep tb (j3 (negJ a)) (pneg P):=by
 have e : j3 (negJ a)=(q2 a.1,-q2 a.2.1,q2 a.2.2):=by
  have e1 : j3 (negJ a)=(q2 (negJ a).1,q2 (negJ a).2.1,q2 (negJ a).2.2):=rfl
  rw [e1]
  simp only [negJ,fo2_eq,q2_neg]
 rw [e]
 rcases h with ⟨h1,rfl⟩ | ⟨h1,h2,h3,h4⟩
 ·exact .inl ⟨h1,pneg_O⟩
 ·have h3 : q2 a.2.1=P.2 * (q2 a.2.2 * (q2 a.2.2 * q2 a.2.2)):=h3
  refine .inr ⟨h1,h2,?_,pneg_on h4⟩
  show -q2 a.2.1=-P.2 * (q2 a.2.2 * (q2 a.2.2 * q2 a.2.2))
  rw [h3]; exact tc_n _ _
def addJ (a c : J3) : J3:=evP2.jadd a c
theorem addJ_rep {a c : J3} {P Q : F2 × F2} (h : Rep tb (j3 a) P) (k : Rep tb (j3 c) Q) : Rep tb (j3 (addJ a c)) (padd P Q):=by
 have e : j3 (addJ a c)=Cr.jadd (j3 a) (j3 c):=evP2.jadd_φ a c
 rw [e]; exact rep_add tb_ne h k
theorem uN_lt : uN < 2 ^ 760:=of_decide_eq_true (by kernel_rfl)
theorem hN_lt : hN < 2 ^ 760:=of_decide_eq_true (by kernel_rfl)
def clJ (o : J3) : J3:=fo6 (mj o uN) fun A => fo6 (mj A uN) fun B => fo6 (negJ (tauJ (addJ A o))) fun D => fo6 (tauJ (tauJ (addJ o o))) fun E => fo6 (negJ o) fun C =>
 fo6 (addJ D E) fun X => fo6 (addJ C X) fun Y => fo6 (addJ A Y) fun Z => fo6 (addJ B Z) fun W => fo6 (mj o hN) fun H => addJ W (negJ H)
theorem clJ_rep {o : J3} {P : F2 × F2} (h : Rep tb (j3 o) P) : Rep tb (j3 (clJ o)) (padd (clr' P) (pneg (nmul P hN))):=by
 have hA:=mj_rep h uN_lt
 have e : clJ o=addJ (addJ (mj (mj o uN) uN) (addJ (mj o uN) (addJ (negJ o) (addJ (negJ (tauJ (addJ (mj o uN) o))) (tauJ (tauJ (addJ o o))))))) (negJ (mj o hN)):=by
  unfold clJ; simp only [fo6_eq]
 rw [e]
 exact addJ_rep (addJ_rep (mj_rep hA uN_lt) (addJ_rep hA (addJ_rep (negJ_rep h) (addJ_rep (negJ_rep (tauJ_rep (addJ_rep hA h))) (tauJ_rep (tauJ_rep (addJ_rep h h))))))) (negJ_rep (mj_rep h hN_lt))
theorem cl_1 : evP2.isz (clJ o1).2.2=true:=by kernel_rfl
theorem cl_2 : evP2.isz (clJ o2).2.2=true:=by kernel_rfl
theorem eq_of_dif {P Q : F2 × F2} (oP : OnP tb P) (oQ : OnP tb Q) (h : padd P (pneg Q)=O2) : P=Q:=by
 have c:=cancel' tb_ne oP (pneg_onP oQ)
 rw [h,O_add,pneg_pneg] at c
 exact c.symm
theorem clr_h {P : F2 × F2} (oP : OnP tb P) : clr P=nmul P hN:=by
 rw [clr_eq]
 have oa : OnP tb T1:=.inr T1_on
 have ob : OnP tb T2:=.inr T2_on
 refine ad_clr.eq (ad_mul hN) ?_ ?_ oP
 ·exact eq_of_dif (ad_clr.on _ oa) (nmul_on tb_ne oa hN) ((rep_z (clJ_rep T1_rep)).1 cl_1)
 ·exact eq_of_dif (ad_clr.on _ ob) (nmul_on tb_ne ob hN) ((rep_z (clJ_rep T2_rep)).1 cl_2)
def rQ : Nat:=52435875175126190479447740508185965837690552500527637822603658699938581184513
theorem nmul_dvd {P : F2 × F2} (oP : OnP tb P) {m n : Nat} (h : nmul P m=O2) (hd : n % m=0) : nmul P n=O2:=by
 obtain ⟨s,rfl⟩:=Nat.dvd_of_mod_eq_zero hd
 rw [<- nmul_mul tb_ne oP,h,nmul_O]
theorem h_r {P : F2 × F2} (oP : OnP tb P) : nmul (nmul P hN) rQ=O2:=by
 have oa : OnP tb T1:=.inr T1_on
 have ob : OnP tb T2:=.inr T2_on
 have z : Ad fun _ => (O2 : F2 × F2):=⟨fun _ _ => .inl rfl,fun _ _ _ _ => (O_add _).symm⟩
 refine ((ad_mul rQ).comp (ad_mul hN)).eq z ?_ ?_ oP
 ·show nmul (nmul T1 hN) rQ=O2
  rw [nmul_mul tb_ne oa]; exact nmul_dvd oa T1_k (of_decide_eq_true (by kernel_rfl))
 ·show nmul (nmul T2 hN) rQ=O2
  rw [nmul_mul tb_ne ob]; exact nmul_dvd ob T2_k (of_decide_eq_true (by kernel_rfl))
end
end Cr
namespace Go.Proofs.YtbfimfdhmggieaaGreatDoor.h2c
open Go Go.Eng Go.RowKit Cr fp2 Rg Fd
theorem fpsqrt_sq (y : Fp) : (fp.fpSqrt (y * y)).2=true:=by
 by_cases hy : y=0
 ·rw [hy,mul_zero]; exact fp2.fpsqrt_zero
 ·unfold fp.fpSqrt
  have e : zpw (y * y) fp.p14 * zpw (y * y) fp.p14=y * y:=by
   have hf:=zpw_inv hy
   rw [zpw_eq] at hf ⊢
   rw [<- zpow_sq,<- zpow_add]
   have en : 2 * fp.p14.toNat + 2 * fp.p14.toNat=(4002409555221667393417789825735904156556882819939007885332058136124031650490837864442687629129015664037894272559785 : Int).toNat + 1 + 1 + 1:=of_decide_eq_true (by kernel_rfl)
   rw [en]
   generalize (4002409555221667393417789825735904156556882819939007885332058136124031650490837864442687629129015664037894272559785 : Int).toNat=m at *
   show zpow y m * y * y * y=y * y
   rw [mul_comm (zpow y m) y,hf,one_mul]
  rw [if_pos e]
theorem sqrt2_sq (z : F2) : (fp2.sqrt2 (z * z)).2=true:=by
 obtain ⟨c,d⟩:=z
 have e1 : (((c,d) : F2) * (c,d)).1=c * c - d * d:=F2.mul1 _ _
 have e2 : (((c,d) : F2) * (c,d)).2=c * d + d * c:=F2.mul2 _ _
 by_cases hb : (((c,d) : F2) * (c,d)).2=0
 ·rw [fp2.sqrt2,if_pos hb]
  by_cases h1 : (fp.fpSqrt (((c,d) : F2) * (c,d)).1).2=true
  ·rw [if_pos h1]
  ·rw [if_neg h1]
   show (fp.fpSqrt (-(((c,d) : F2) * (c,d)).1)).2=true
   rw [e1] at h1 ⊢
   rw [e2,mul_comm d c] at hb
   rcases mul_eq_zero (double_eq_zero hb) with h | h
   ·rw [h,q_8,neg_neg]; exact fpsqrt_sq d
   ·rw [h,mul_zero,sub_def,neg_zero,add_zero] at h1
    exact absurd (fpsqrt_sq c) h1
 ·rw [fp2.sqrt2,if_neg hb,e1,e2,q_5,if_pos (fpsqrt_sq _)]
  have hn:=fp2.fpsqrt_ok (fpsqrt_sq (c * c + d * d))
  generalize (fp.fpSqrt ((c * c + d * d) * (c * c + d * d))).1=n at *
  rcases sq_eq hn with h | h
  ·rw [h,q_6,if_pos (fpsqrt_sq _)]
  ·by_cases h2 : (fp.fpSqrt (c * c - d * d + n + (c * c - d * d + n))).2=true
   ·rw [if_pos h2]
   ·rw [if_neg h2]
    show (fp.fpSqrt (c * c - d * d - n + (c * c - d * d - n))).2=true
    rw [h,q_7]
    exact fpsqrt_sq _
theorem gsq_of {x y : F2} (h : y * y=hq x cG) : (gsq x).2=true:=by rw [gsq,<- h]; exact sqrt2_sq y
theorem gsq_sq {x : F2} (h : (gsq x).2=true) : (gsq x).1 * (gsq x).1=hq x cG:=sqrt2_ok h
theorem inv2_0 : inv2 0=0:=by
 rw [inv2_def]
 refine F2.ext ?_ ?_
 ·show (0 : Fp) * _=0
  rw [zero_mul]
 ·show -(0 : Fp) * _=0
  rw [neg_zero,zero_mul]
theorem inv2_m {x : F2} (h : x ≠ 0) : x * inv2 x=1:=mul_inv (F:=F2) x h
theorem inv2_u {x y : F2} (h : y * x=1) : inv2 x=y:=by
 have hx : x ≠ 0:=fun e => by
  rw [e,mul_zero] at h
  exact absurd (congrArg Prod.fst h) (by decide)
 refine mul_left hx ?_
 rw [inv2_m hx,mul_comm x y,h]
theorem map_sq (u : F2) : (gsq (swx u)).2=true \/ (gsq (swx u * (cz * (u * u)))).2=true:=by
 by_cases h : ∃ y : F2,y * y=hq (swx u) cG
 ·obtain ⟨y,hy⟩:=h
  exact .inl (gsq_of hy)
 ·right
  have hn : ∀ y : F2,y * y ≠ hq (swx u) cG:=fun y e => h ⟨y,e⟩
  by_cases hd : inv2 (cz * (u * u) * (cz * (u * u)) + cz * (u * u))=0
  ·exfalso
   obtain ⟨y,hy⟩:=sw_0
   refine hn y ?_
   rw [swx,if_pos hd]; exact hy
  ·have ht : cz * (u * u) * (cz * (u * u)) + cz * (u * u) ≠ 0:=fun e => hd (by rw [e]; exact inv2_0)
   obtain ⟨y,hy⟩:=sw_two (u:=u) (t:=cz * (u * u)) (d:=inv2 (cz * (u * u) * (cz * (u * u)) + cz * (u * u))) (x:=swx u) rfl (by rw [mul_comm]; exact inv2_m ht) (by rw [swx,if_neg hd]; rfl) hn
   exact gsq_of hy
theorem fixy_sq (u y : F2) : fixy u y * fixy u y=y * y:=by
 rw [fixy]
 by_cases h : odo y=odo u
 ·rw [if_pos h]
 ·rw [if_neg h,neg_mul,mul_neg,neg_neg]
theorem acro_on {x y : F2} (h : y * y=hq x cG) : OnP tb (acro x y):=by
 rw [acro,opq_eq]
 by_cases hz : hq x cU * hq x cB=0
 ·rw [if_pos hz]; exact .inl rfl
 ·rw [if_neg hz]; exact .inr (iso_on h (inv2_m hz))
theorem mapo_form (u : F2) : ∃ x y : F2,y * y=hq x cG /\ mapo u=acro x (fixy u y) /\ mapo (-u)=acro x (fixy (-u) y):=by
 have e1 : -u * -u=u * u:=by rw [neg_mul,mul_neg,neg_neg]
 have e2 : swx (-u)=swx u:=by rw [swx,swx,e1]
 by_cases h : (gsq (swx u)).2=true
 ·refine ⟨swx u,(gsq (swx u)).1,gsq_sq h,?_,?_⟩
  ·rw [mapo,opq_eq,swm,if_pos h]
  ·rw [mapo,opq_eq,e2,swm,if_pos h]
 ·have h2:=(map_sq u).resolve_left h
  refine ⟨swx u * (cz * (u * u)),(gsq (swx u * (cz * (u * u)))).1,gsq_sq h2,?_,?_⟩
  ·rw [mapo,opq_eq,swm,if_neg h]
  ·rw [mapo,opq_eq,e2,e1,swm,if_neg h]
theorem mapo_on (u : F2) : OnP tb (mapo u):=by
 obtain ⟨x,y,h,e,_⟩:=mapo_form u
 rw [e]
 exact acro_on (by rw [fixy_sq,h])
noncomputable def eqv (a b : V2) : Bool:=evP2.isz (vsub a b)
theorem eqv_ok {a b : V2} (h : eqv a b=true) : q2 a=q2 b:=by
 have h1 : q2 (vsub a b)=0:=(evP2.isz_φ _).1 h
 rw [q2_sub] at h1
 exact eq_of_sub h1
theorem q2_one : q2 (1,0)=1:=rfl
end Go.Proofs.YtbfimfdhmggieaaGreatDoor.h2c
namespace Go.Proofs.YtbfimfdhmggieaaGreatDoor.xmd
open Go Go.Eng Go.RowKit Cr sha
noncomputable def nmb (E : List Int) (i : Nat) : F2:=(zm (num ((E.drop (128 * i)).take 64)),zm (num ((E.drop (128 * i + 64)).take 64)))
noncomputable def nums (m t : List Int) (n : Nat) : List F2:=opq ((List.range n).map (nmb (expo m t (128 * (n : Int)))))
theorem nums_len (m t : List Int) (n : Nat) : (nums m t n).length=n:=by rw [nums,opq_eq,List.length_map,List.length_range]
theorem nums_two (m t : List Int) : nums m t 2=[nmb (expo m t 256) 0,nmb (expo m t 256) 1]:=by rw [nums,opq_eq]; rfl
end Go.Proofs.YtbfimfdhmggieaaGreatDoor.xmd
