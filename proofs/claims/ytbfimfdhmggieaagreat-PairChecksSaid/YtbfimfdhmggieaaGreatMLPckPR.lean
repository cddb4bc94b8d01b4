/- Contracts of package tower: straight functions. -/
import Derived.Test.YtbfimfdhmggieaaGreatMLPckPQ
/- Contracts of package fp2. -/
namespace Go.Proofs.YtbfimfdhmggieaaGreat.fp2
set_option maxRecDepth 100000
open Go Go.Eng Go.RowKit Cr Go.Proofs.YtbfimfdhmggieaaGreat
abbrev f2 : Kd := .pair .fp .fp
theorem eqF2 (a b : F2) : eqC (.pair .fp .fp) a b = decide (a = b) := by
  have h := eqC_iff (e := .pair .fp .fp) a b
  rw [Bool.eq_iff_iff, h, decide_eq_true_iff]

theorem ent_small : enters Tryz.prog 31 Tryz.f31 := enters_mk (by kernel_rfl) (by kernel_rfl) (by kernel_rfl)
noncomputable abbrev outSmall : HL [.int .u64, .int .u64] → HO [.val f2] := fun (a, b, _) => ((zm a, zm b), ())
theorem fn_small : FnOk Tryz.prog 31 [.int .u64, .int .u64] [.val f2] noG (fun (a, b, _) => U64 a ∧ U64 b) outSmall := by
  refine fn_of_vc (sp := sps [fp.spOf]) (sps_cons (fnSpec_ok fp.fn_of) sps_nil) mixed ent_small (by decide) (by decide) ?_
  rintro w M0 ⟨a, b, ⟨⟩⟩
  revert a b
  intro (a : Int) (b : Int) _ hp
  refine vcx (X := (U64 a ∧ U64 b ∧ ((zmp a, zmp b), ()) = outSmall (a, b, ()))) (by kernel_rfl) ?_
  exact ⟨hp.1, hp.2, rfl⟩
noncomputable def spSmall : Nat × Eng.Spec := (31, fnSpec [.int .u64, .int .u64] [.val f2] (fun (a, b, _) => U64 a ∧ U64 b) outSmall)

theorem ent_zero : enters Tryz.prog 76 Tryz.f76 := enters_mk (by kernel_rfl) (by kernel_rfl) (by kernel_rfl)
noncomputable abbrev outZero : HL [f2] → HO [.val .bool] := fun (x, _) => (decide ((x : F2) = 0), ())
theorem fn_zero : FnOk Tryz.prog 76 [f2] [.val .bool] noG (fun _ => True) outZero := by
  refine fn_of_vc (sp := sps []) sps_nil mixed ent_zero (by decide) (by decide) ?_
  rintro w M0 ⟨x, ⟨⟩⟩
  revert x
  intro (x : F2) _ _
  refine vcx (X := ((eqC (Kd.fp.pair Kd.fp) x ((0 : Fp), (0 : Fp)), ()) = outZero (x, ()))) (by kernel_rfl) ?_
  rw [eqF2]; rfl
noncomputable def spZero : Nat × Eng.Spec := (76, fnSpec [f2] [.val .bool] (fun _ => True) outZero)

theorem ent_add : enters Tryz.prog 80 Tryz.f80 := enters_mk (by kernel_rfl) (by kernel_rfl) (by kernel_rfl)
noncomputable abbrev outAdd : HL [f2, f2] → HO [.val f2] := fun (x, y, _) => ((x : F2) + y, ())
theorem fn_add : FnOk Tryz.prog 80 [f2, f2] [.val f2] noG (fun _ => True) outAdd := by
  refine fn_of_vc (sp := sps [fp.spAdd]) (sps_cons (fnSpec_ok fp.fn_add) sps_nil) mixed ent_add (by decide) (by decide) ?_
  rintro w M0 ⟨x, y, ⟨⟩⟩
  revert x y
  intro (x : F2) (y : F2) _ _
  refine vcx (X := (True ∧ True ∧ ((x.fst + y.fst, x.snd + y.snd), ()) = outAdd (x, y, ()))) (by kernel_rfl) ?_
  exact ⟨trivial, trivial, by show _ = ((x : F2) + y, ()); rw [F2.add_def]⟩
noncomputable def spAdd : Nat × Eng.Spec := (80, fnSpec [f2, f2] [.val f2] (fun _ => True) outAdd)

theorem ent_sub : enters Tryz.prog 79 Tryz.f79 := enters_mk (by kernel_rfl) (by kernel_rfl) (by kernel_rfl)
noncomputable abbrev outSub : HL [f2, f2] → HO [.val f2] := fun (x, y, _) => ((x : F2) - y, ())
theorem fn_sub : FnOk Tryz.prog 79 [f2, f2] [.val f2] noG (fun _ => True) outSub := by
  refine fn_of_vc (sp := sps [fp.spSub]) (sps_cons (fnSpec_ok fp.fn_sub) sps_nil) mixed ent_sub (by decide) (by decide) ?_
  rintro w M0 ⟨x, y, ⟨⟩⟩
  revert x y
  intro (x : F2) (y : F2) _ _
  refine vcx (X := (True ∧ True ∧ ((x.fst - y.fst, x.snd - y.snd), ()) = outSub (x, y, ()))) (by kernel_rfl) ?_
  exact ⟨trivial, trivial, by show _ = ((x : F2) - y, ()); rw [F2.sub_def]⟩
noncomputable def spSub : Nat × Eng.Spec := (79, fnSpec [f2, f2] [.val f2] (fun _ => True) outSub)

theorem ent_neg : enters Tryz.prog 91 Tryz.f91 := enters_mk (by kernel_rfl) (by kernel_rfl) (by kernel_rfl)
noncomputable abbrev outNeg : HL [f2] → HO [.val f2] := fun (x, _) => (-(x : F2), ())
theorem fn_neg : FnOk Tryz.prog 91 [f2] [.val f2] noG (fun _ => True) outNeg := by
  refine fn_of_vc (sp := sps [fp.spNeg]) (sps_cons (fnSpec_ok fp.fn_neg) sps_nil) mixed ent_neg (by decide) (by decide) ?_
  rintro w M0 ⟨x, ⟨⟩⟩
  revert x
  intro (x : F2) _ _
  refine vcx (X := (True ∧ True ∧ ((-x.fst, -x.snd), ()) = outNeg (x, ()))) (by kernel_rfl) ?_
  exact ⟨trivial, trivial, by show _ = (-(x : F2), ()); rw [F2.neg_def]⟩
noncomputable def spNeg : Nat × Eng.Spec := (91, fnSpec [f2] [.val f2] (fun _ => True) outNeg)

theorem ent_mul : enters Tryz.prog 78 Tryz.f78 := enters_mk (by kernel_rfl) (by kernel_rfl) (by kernel_rfl)
noncomputable abbrev outMul : HL [f2, f2] → HO [.val f2] := fun (x, y, _) => ((x : F2) * y, ())
theorem fn_mul : FnOk Tryz.prog 78 [f2, f2] [.val f2] noG (fun _ => True) outMul := by
  refine fn_of_vc (sp := sps [fp.spAdd, fp.spSub, fp.spMul]) (sps_cons (fnSpec_ok fp.fn_add) (sps_cons (fnSpec_ok fp.fn_sub) (sps_cons (fnSpec_ok fp.fn_mul) sps_nil))) mixed ent_mul (by decide) (by decide) ?_
  rintro w M0 ⟨x, y, ⟨⟩⟩
  revert x y
  intro (x : F2) (y : F2) _ _
  refine vcx (X := (True ∧ True ∧ True ∧ True ∧ True ∧ True ∧ True ∧ True ∧ ((x.fst * y.fst - x.snd * y.snd, (x.fst + x.snd) * (y.fst + y.snd) - x.fst * y.fst - x.snd * y.snd), ()) = outMul (x, y, ()))) (by kernel_rfl) ?_
  refine ⟨trivial, trivial, trivial, trivial, trivial, trivial, trivial, trivial, ?_⟩
  show _ = ((x : F2) * y, ())
  rw [F2.mul_def, f2_kar]
noncomputable def spMul : Nat × Eng.Spec := (78, fnSpec [f2, f2] [.val f2] (fun _ => True) outMul)

theorem ent_square : enters Tryz.prog 77 Tryz.f77 := enters_mk (by kernel_rfl) (by kernel_rfl) (by kernel_rfl)
noncomputable abbrev outSquare : HL [f2] → HO [.val f2] := fun (x, _) => ((x : F2) * x, ())
theorem fn_square : FnOk Tryz.prog 77 [f2] [.val f2] noG (fun _ => True) outSquare := by
  refine fn_of_vc (sp := sps [fp.spAdd, fp.spSub, fp.spMul]) (sps_cons (fnSpec_ok fp.fn_add) (sps_cons (fnSpec_ok fp.fn_sub) (sps_cons (fnSpec_ok fp.fn_mul) sps_nil))) mixed ent_square (by decide) (by decide) ?_
  rintro w M0 ⟨x, ⟨⟩⟩
  revert x
  intro (x : F2) _ _
  refine vcx (X := (True ∧ True ∧ True ∧ True ∧ True ∧ (((x.fst + x.snd) * (x.fst - x.snd), x.fst * x.snd + x.fst * x.snd), ()) = outSquare (x, ()))) (by kernel_rfl) ?_
  refine ⟨trivial, trivial, trivial, trivial, trivial, ?_⟩
  show _ = ((x : F2) * x, ())
  rw [F2.mul_def, f2_sq1, f2_sq2]
noncomputable def spSquare : Nat × Eng.Spec := (77, fnSpec [f2] [.val f2] (fun _ => True) outSquare)

theorem ent_conj : enters Tryz.prog 88 Tryz.f88 := enters_mk (by kernel_rfl) (by kernel_rfl) (by kernel_rfl)
noncomputable abbrev outConj : HL [f2] → HO [.val f2] := fun (x, _) => ((Prod.fst (x : F2), -Prod.snd (x : F2)), ())
theorem fn_conj : FnOk Tryz.prog 88 [f2] [.val f2] noG (fun _ => True) outConj := by
  refine fn_of_vc (sp := sps [fp.spNeg]) (sps_cons (fnSpec_ok fp.fn_neg) sps_nil) mixed ent_conj (by decide) (by decide) ?_
  rintro w M0 ⟨x, ⟨⟩⟩
  revert x
  intro (x : F2) _ _
  refine vcx (X := (True ∧ ((x.fst, -x.snd), ()) = outConj (x, ()))) (by kernel_rfl) ?_
  exact ⟨trivial, rfl⟩
noncomputable def spConj : Nat × Eng.Spec := (88, fnSpec [f2] [.val f2] (fun _ => True) outConj)

theorem ent_scale : enters Tryz.prog 90 Tryz.f90 := enters_mk (by kernel_rfl) (by kernel_rfl) (by kernel_rfl)
noncomputable abbrev outScale : HL [f2, .fp] → HO [.val f2] := fun (x, k, _) => ((Prod.fst (x : F2) * k, Prod.snd (x : F2) * k), ())
theorem fn_scale : FnOk Tryz.prog 90 [f2, .fp] [.val f2] noG (fun _ => True) outScale := by
  refine fn_of_vc (sp := sps [fp.spMul]) (sps_cons (fnSpec_ok fp.fn_mul) sps_nil) mixed ent_scale (by decide) (by decide) ?_
  rintro w M0 ⟨x, k, ⟨⟩⟩
  revert x k
  intro (x : F2) (k : Fp) _ _
  refine vcx (X := (True ∧ True ∧ ((x.fst * k, x.snd * k), ()) = outScale (x, k, ()))) (by kernel_rfl) ?_
  exact ⟨trivial, trivial, rfl⟩
noncomputable def spScale : Nat × Eng.Spec := (90, fnSpec [f2, .fp] [.val f2] (fun _ => True) outScale)

theorem ent_norm : enters Tryz.prog 99 Tryz.f99 := enters_mk (by kernel_rfl) (by kernel_rfl) (by kernel_rfl)
noncomputable abbrev outNorm : HL [f2] → HO [.val .fp] := fun (x, _) => (Prod.fst (x : F2) * Prod.fst (x : F2) + Prod.snd (x : F2) * Prod.snd (x : F2), ())
theorem fn_norm : FnOk Tryz.prog 99 [f2] [.val .fp] noG (fun _ => True) outNorm := by
  refine fn_of_vc (sp := sps [fp.spAdd, fp.spSquare]) (sps_cons (fnSpec_ok fp.fn_add) (sps_cons (fnSpec_ok fp.fn_square) sps_nil)) mixed ent_norm (by decide) (by decide) ?_
  rintro w M0 ⟨x, ⟨⟩⟩
  revert x
  intro (x : F2) _ _
  refine vcx (X := (True ∧ True ∧ True ∧ (x.fst * x.fst + x.snd * x.snd, ()) = outNorm (x, ()))) (by kernel_rfl) ?_
  exact ⟨trivial, trivial, trivial, rfl⟩
noncomputable def spNorm : Nat × Eng.Spec := (99, fnSpec [f2] [.val .fp] (fun _ => True) outNorm)

theorem ent_inv : enters Tryz.prog 81 Tryz.f81 := enters_mk (by kernel_rfl) (by kernel_rfl) (by kernel_rfl)
noncomputable abbrev outInv : HL [f2] → HO [.val f2] := fun (x, _) => (inv2 x, ())
theorem fn_inv : FnOk Tryz.prog 81 [f2] [.val f2] noG (fun _ => True) outInv := by
  refine fn_of_vc (sp := sps [fp.spInv, spConj, spNorm, spScale]) (sps_cons (fnSpec_ok fp.fn_inv) (sps_cons (fnSpec_ok fn_conj) (sps_cons (fnSpec_ok fn_norm) (sps_cons (fnSpec_ok fn_scale) sps_nil)))) mixed ent_inv (by decide) (by decide) ?_
  rintro w M0 ⟨x, ⟨⟩⟩
  revert x
  intro (x : F2) _ _
  refine vcx (X := (True ∧ True ∧ True ∧ True ∧ ((x.fst * fp.zinv (x.fst * x.fst + x.snd * x.snd), -x.snd * fp.zinv (x.fst * x.fst + x.snd * x.snd)), ()) = outInv (x, ()))) (by kernel_rfl) ?_
  refine ⟨trivial, trivial, trivial, trivial, ?_⟩
  show _ = (inv2 x, ())
  rw [inv2_def]; rfl
noncomputable def spInv : Nat × Eng.Spec := (81, fnSpec [f2] [.val f2] (fun _ => True) outInv)

end Go.Proofs.YtbfimfdhmggieaaGreat.fp2
/- Bulk points by computation: values forced one by one. No program here. -/
namespace Cr
open Rg Fd

/-- A way to compute in a field. -/
structure Ev (F : Type) [Fd F] where
  V : Type
  φ : V → F
  add : V → V → V
  sub : V → V → V
  mul : V → V → V
  isz : V → Bool
  zero : V
  force : {α : Type} → V → (V → α) → α
  add_φ : ∀ a b, φ (add a b) = φ a + φ b
  sub_φ : ∀ a b, φ (sub a b) = φ a - φ b
  mul_φ : ∀ a b, φ (mul a b) = φ a * φ b
  isz_φ : ∀ a, isz a = true ↔ φ a = 0
  zero_φ : φ zero = 0
  force_eq : ∀ {α : Type} (a : V) (k : V → α), force a k = k a

section
variable {F : Type} [Fd F] (E : Ev F)
abbrev Ev.J := E.V × E.V × E.V
def Ev.φ3 (a : E.J) : Jc F := (E.φ a.1, E.φ a.2.1, E.φ a.2.2)
def Ev.dbl (a : E.J) : E.J := match E.isz a.2.2 with
  | true => (E.zero, E.zero, E.zero)
  | false =>
    E.force (E.mul a.1 a.1) fun xx => E.force (E.mul a.2.1 a.2.1) fun yy => E.force (E.add (E.add xx xx) xx) fun sl =>
    E.force (E.mul a.1 yy) fun m1 => E.force (E.add m1 m1) fun m2 => E.force (E.add m2 m2) fun mid =>
    E.force (E.add yy yy) fun y2 => E.force (E.mul y2 y2) fun fall =>
    E.force (E.sub (E.sub (E.mul sl sl) mid) mid) fun x =>
    E.force (E.sub (E.sub (E.mul sl (E.sub mid x)) fall) fall) fun y =>
    E.force (E.mul a.2.1 a.2.2) fun z1 => E.force (E.add z1 z1) fun z => (x, y, z)
theorem Ev.dbl_φ (a : E.J) : E.φ3 (E.dbl a) = jdbl (E.φ3 a) := by
  unfold Ev.dbl jdbl
  cases h : E.isz a.2.2 with
  | true =>
    have : (E.φ3 a).2.2 = 0 := (E.isz_φ _).1 h
    rw [if_pos this]
    show (E.φ E.zero, E.φ E.zero, E.φ E.zero) = _
    rw [E.zero_φ]
  | false =>
    have : (E.φ3 a).2.2 ≠ 0 := fun e => by have := (E.isz_φ a.2.2).2 e; rw [h] at this; cases this
    rw [if_neg this]
    simp only [E.force_eq]
    simp only [Ev.φ3, jdbN, jdX, E.add_φ, E.sub_φ, E.mul_φ]
def Ev.jadd (a c : E.J) : E.J := match E.isz a.2.2 with
  | true => c
  | false => match E.isz c.2.2 with
    | true => a
    | false =>
      E.force (E.mul a.2.2 a.2.2) fun aa => E.force (E.mul c.2.2 c.2.2) fun bb =>
      E.force (E.mul a.1 bb) fun left => E.force (E.mul c.1 aa) fun right =>
      E.force (E.mul (E.mul a.2.1 bb) c.2.2) fun low => E.force (E.mul (E.mul c.2.1 aa) a.2.2) fun high =>
      E.force (E.sub right left) fun wide => E.force (E.sub high low) fun rise =>
      match E.isz wide with
      | true => match E.isz rise with
        | true => E.dbl a
        | false => (E.zero, E.zero, E.zero)
      | false =>
        E.force (E.mul wide wide) fun sq => E.force (E.mul sq wide) fun cube => E.force (E.mul left sq) fun l2 =>
        E.force (E.sub (E.sub (E.sub (E.mul rise rise) cube) l2) l2) fun x =>
        E.force (E.sub (E.mul rise (E.sub l2 x)) (E.mul low cube)) fun y =>
        E.force (E.mul (E.mul a.2.2 c.2.2) wide) fun z => (x, y, z)
theorem Ev.jadd_φ (a c : E.J) : E.φ3 (E.jadd a c) = Cr.jadd (E.φ3 a) (E.φ3 c) := by
  have nz : ∀ v : E.V, E.isz v = false → E.φ v ≠ 0 := fun v h e => by have := (E.isz_φ v).2 e; rw [h] at this; cases this
  unfold Ev.jadd Cr.jadd
  cases h : E.isz a.2.2 with
  | true => rw [if_pos (show (E.φ3 a).2.2 = 0 from (E.isz_φ _).1 h)]
  | false =>
    rw [if_neg (show (E.φ3 a).2.2 ≠ 0 from nz _ h)]
    cases h2 : E.isz c.2.2 with
    | true => rw [if_pos (show (E.φ3 c).2.2 = 0 from (E.isz_φ _).1 h2)]
    | false =>
      rw [if_neg (show (E.φ3 c).2.2 ≠ 0 from nz _ h2)]
      simp only [E.force_eq]
      have ew : E.φ (E.sub (E.mul c.1 (E.mul a.2.2 a.2.2)) (E.mul a.1 (E.mul c.2.2 c.2.2))) = (E.φ3 c).1 * ((E.φ3 a).2.2 * (E.φ3 a).2.2) - (E.φ3 a).1 * ((E.φ3 c).2.2 * (E.φ3 c).2.2) := by simp only [Ev.φ3, E.sub_φ, E.mul_φ]
      have er : E.φ (E.sub (E.mul (E.mul c.2.1 (E.mul a.2.2 a.2.2)) a.2.2) (E.mul (E.mul a.2.1 (E.mul c.2.2 c.2.2)) c.2.2)) = (E.φ3 c).2.1 * ((E.φ3 a).2.2 * (E.φ3 a).2.2) * (E.φ3 a).2.2 - (E.φ3 a).2.1 * ((E.φ3 c).2.2 * (E.φ3 c).2.2) * (E.φ3 c).2.2 := by simp only [Ev.φ3, E.sub_φ, E.mul_φ]
      cases h3 : E.isz (E.sub (E.mul c.1 (E.mul a.2.2 a.2.2)) (E.mul a.1 (E.mul c.2.2 c.2.2))) with
      | true =>
        have := (E.isz_φ _).1 h3
        rw [ew] at this
        rw [if_pos this]
        cases h4 : E.isz (E.sub (E.mul (E.mul c.2.1 (E.mul a.2.2 a.2.2)) a.2.2) (E.mul (E.mul a.2.1 (E.mul c.2.2 c.2.2)) c.2.2)) with
        | true =>
          have := (E.isz_φ _).1 h4
          rw [er] at this
          rw [if_pos this]
          exact E.dbl_φ a
        | false =>
          have := nz _ h4
          rw [er] at this
          rw [if_neg this]
          show (E.φ E.zero, E.φ E.zero, E.φ E.zero) = _
          rw [E.zero_φ]
      | false =>
        have := nz _ h3
        rw [ew] at this
        rw [if_neg this]
        simp only [Ev.φ3, jfin, jaX, E.sub_φ, E.mul_φ]
/-- So many times, by the digits of the number, from its lowest: 2 n, 2 n + 1. -/
def Ev.mul2 (o : E.J) : Nat → Nat → E.J
  | 0, _ => (E.zero, E.zero, E.zero)
  | f + 1, n => match Nat.beq n 0 with
    | true => (E.zero, E.zero, E.zero)
    | false => match Nat.beq (n % 2) 1 with
      | true => E.jadd (E.dbl (Ev.mul2 o f (n / 2))) o
      | false => E.dbl (Ev.mul2 o f (n / 2))
variable {E} in
theorem Ev.mul2_rep {b : F} (hb : b ≠ 0) {o : E.J} {P : F × F} (ho : Rep b (E.φ3 o) P) : ∀ f n, n < 2 ^ f → Rep b (E.φ3 (E.mul2 o f n)) (nmul P n) := by
  have h0 : Rep b (E.φ3 (E.zero, E.zero, E.zero)) (O2 : F × F) := .inl ⟨E.zero_φ, rfl⟩
  intro f
  induction f with
  | zero => intro n h; have : n = 0 := by simp at h; exact h
            subst this; exact h0
  | succ f ih =>
    intro n h
    unfold Ev.mul2
    split
    · rename_i hn; have := Nat.eq_of_beq_eq_true hn; subst this; exact h0
    · have hr := ih (n / 2) (by rw [Nat.pow_succ] at h; omega)
      have hd := rep_dbl hb hr
      rw [← E.dbl_φ, ← nmul_add hb ho.on] at hd
      split
      · rename_i h1
        have h1 := Nat.eq_of_beq_eq_true h1
        have ha := rep_add hb hd ho
        rw [← E.jadd_φ] at ha
        have e : n = n / 2 + n / 2 + 1 := by omega
        have : nmul P n = padd (nmul P (n / 2 + n / 2)) P := by
          conv => lhs; rw [e]
          rfl
        rw [this]
        exact ha
      · rename_i h1
        have h1 : n % 2 ≠ 1 := fun h2 => by rw [h2] at h1; exact absurd h1 (by decide)
        have e : n = n / 2 + n / 2 := by omega
        have : nmul P n = nmul P (n / 2 + n / 2) := by conv => lhs; rw [e]
        rw [this]
        exact hd
end
end Cr
/- The generator's order, by computation. No program here. -/
namespace Cr
open Rg Fd
def fc {α : Type} (n : Nat) (k : Nat → α) : α := Nat.rec (k 0) (fun m _ => k (m + 1)) n
theorem fc_eq {α : Type} (n : Nat) (k : Nat → α) : fc n k = k n := by cases n <;> rfl
def pN : Nat := 4002409555221667393417789825735904156556882819939007885332058136124031650490837864442687629129015664037894272559787
theorem zm_nat (n : Nat) : (zm ((n % pN : Nat) : Int) : Fp) = zm (n : Int) := zm_eq (by rw [Int.natCast_emod]; exact Int.emod_emod_of_dvd _ (Int.dvd_refl _))
noncomputable def evP1 : Ev Fp where
  V := Nat
  φ n := zm (n : Int)
  add a b := (a + b) % pN
  sub a b := (a + (pN - b % pN)) % pN
  mul a b := (a * b) % pN
  isz a := Nat.beq (a % pN) 0
  zero := 0
  force := fc
  add_φ a b := by rw [zm_nat, zm_add, Int.natCast_add]
  sub_φ a b := by
    rw [zm_nat, zm_sub]
    refine zm_eq ?_
    have h := Nat.mod_lt b (show 0 < pN by decide)
    have e : ((a + (pN - b % pN) : Nat) : Int) = (a : Int) - b + (pN : Int) * (1 + (b : Int) / pN) := by
      have h2 := Int.emod_add_mul_ediv (b : Int) (pN : Int)
      rw [Int.mul_add, Int.mul_one]
      omega
    rw [e]
    exact Int.add_mul_emod_self_left _ _ _
  mul_φ a b := by rw [zm_nat, zm_mul, Int.natCast_mul]
  isz_φ a := by
    constructor
    · intro h
      have h := Nat.eq_of_beq_eq_true h
      rw [← zm_nat, h]; rfl
    · intro h
      have h : (zm (a : Int) : Fp).v = 0 := by rw [h, zero_v]
      have h : (a : Int) % (pN : Int) = 0 := h
      have : a % pN = 0 := by omega
      rw [this]; rfl
  zero_φ := rfl
  force_eq := fc_eq
def gxN : Nat := 0x17f1d3a73197d7942695638c4fa9ac0fc3688c4f9774b905a14e3a3f171bac586c55e83ff97a1aeffb3af00adb22c6bb
def gyN : Nat := 0x08b3f481e3aaa0f1a09e30ed741d8ae4fcf5e095d5d00af600db18cb2c04b3edd03cc744a2888ae40caa232946c5e7e1
theorem ord_z : evP1.isz (evP1.mul2 (gxN, gyN, (1 : Nat)) 256 52435875175126190479447740508185965837690552500527637822603658699938581184513).2.2 = true := by kernel_rfl
end Cr
/- The field of numbers a + b v + c v^2 over the field of p^2, v^3 = 1 + i. No program here. -/
namespace Cr
open Rg Fd Go.Eng
abbrev F6 := F2 × F2 × F2
/-- 1 + i. -/
def xi : F2 := ((1 : Fp), (1 : Fp))
theorem xi_mul (x : F2) : xi * x = (x.1 - x.2, x.1 + x.2) := by
  rw [F2.mul_def]
  show ((1 : Fp) * x.1 - 1 * x.2, 1 * x.2 + 1 * x.1) = _
  rw [one_mul, one_mul, add_comm x.2]
theorem f6_c1 {F : Type} [Rg F] (a b c d e f x : F) : a * d + x * (b * f + c * e) = d * a + x * (e * c + f * b) :=
  rid [a, b, c, d, e, f, x] ((fun (a b c d e f x : PE) => (a * d + x * (b * f + c * e))) (.v 0) (.v 1) (.v 2) (.v 3) (.v 4) (.v 5) (.v 6)) ((fun (a b c d e f x : PE) => (d * a + x * (e * c + f * b))) (.v 0) (.v 1) (.v 2) (.v 3) (.v 4) (.v 5) (.v 6)) (by kernel_rfl)
theorem f6_c2 {F : Type} [Rg F] (a b c d e f x : F) : a * e + b * d + x * (c * f) = d * b + e * a + x * (f * c) :=
  rid [a, b, c, d, e, f, x] ((fun (a b c d e f x : PE) => (a * e + b * d + x * (c * f))) (.v 0) (.v 1) (.v 2) (.v 3) (.v 4) (.v 5) (.v 6)) ((fun (a b c d e f x : PE) => (d * b + e * a + x * (f * c))) (.v 0) (.v 1) (.v 2) (.v 3) (.v 4) (.v 5) (.v 6)) (by kernel_rfl)
theorem f6_c3 {F : Type} [Rg F] (a b c d e f x : F) : a * f + b * e + c * d = d * c + e * b + f * a :=
  rid [a, b, c, d, e, f, x] ((fun (a b c d e f x : PE) => (a * f + b * e + c * d)) (.v 0) (.v 1) (.v 2) (.v 3) (.v 4) (.v 5) (.v 6)) ((fun (a b c d e f x : PE) => (d * c + e * b + f * a)) (.v 0) (.v 1) (.v 2) (.v 3) (.v 4) (.v 5) (.v 6)) (by kernel_rfl)
theorem f6_s1 {F : Type} [Rg F] (a b c d e f g h k x : F) : (a * d + x * (b * f + c * e)) * g + x * ((a * e + b * d + x * (c * f)) * k + (a * f + b * e + c * d) * h) = a * (d * g + x * (e * k + f * h)) + x * (b * (d * k + e * h + f * g) + c * (d * h + e * g + x * (f * k))) :=
  rid [a, b, c, d, e, f, g, h, k, x] ((fun (a b c d e f g h k x : PE) => ((a * d + x * (b * f + c * e)) * g + x * ((a * e + b * d + x * (c * f)) * k + (a * f + b * e + c * d) * h))) (.v 0) (.v 1) (.v 2) (.v 3) (.v 4) (.v 5) (.v 6) (.v 7) (.v 8) (.v 9)) ((fun (a b c d e f g h k x : PE) => (a * (d * g + x * (e * k + f * h)) + x * (b * (d * k + e * h + f * g) + c * (d * h + e * g + x * (f * k))))) (.v 0) (.v 1) (.v 2) (.v 3) (.v 4) (.v 5) (.v 6) (.v 7) (.v 8) (.v 9)) (by kernel_rfl)
theorem f6_s2 {F : Type} [Rg F] (a b c d e f g h k x : F) : (a * d + x * (b * f + c * e)) * h + (a * e + b * d + x * (c * f)) * g + x * ((a * f + b * e + c * d) * k) = a * (d * h + e * g + x * (f * k)) + b * (d * g + x * (e * k + f * h)) + x * (c * (d * k + e * h + f * g)) :=
  rid [a, b, c, d, e, f, g, h, k, x] ((fun (a b c d e f g h k x : PE) => ((a * d + x * (b * f + c * e)) * h + (a * e + b * d + x * (c * f)) * g + x * ((a * f + b * e + c * d) * k))) (.v 0) (.v 1) (.v 2) (.v 3) (.v 4) (.v 5) (.v 6) (.v 7) (.v 8) (.v 9)) ((fun (a b c d e f g h k x : PE) => (a * (d * h + e * g + x * (f * k)) + b * (d * g + x * (e * k + f * h)) + x * (c * (d * k + e * h + f * g)))) (.v 0) (.v 1) (.v 2) (.v 3) (.v 4) (.v 5) (.v 6) (.v 7) (.v 8) (.v 9)) (by kernel_rfl)
theorem f6_s3 {F : Type} [Rg F] (a b c d e f g h k x : F) : (a * d + x * (b * f + c * e)) * k + (a * e + b * d + x * (c * f)) * h + (a * f + b * e + c * d) * g = a * (d * k + e * h + f * g) + b * (d * h + e * g + x * (f * k)) + c * (d * g + x * (e * k + f * h)) :=
  rid [a, b, c, d, e, f, g, h, k, x] ((fun (a b c d e f g h k x : PE) => ((a * d + x * (b * f + c * e)) * k + (a * e + b * d + x * (c * f)) * h + (a * f + b * e + c * d) * g)) (.v 0) (.v 1) (.v 2) (.v 3) (.v 4) (.v 5) (.v 6) (.v 7) (.v 8) (.v 9)) ((fun (a b c d e f g h k x : PE) => (a * (d * k + e * h + f * g) + b * (d * h + e * g + x * (f * k)) + c * (d * g + x * (e * k + f * h)))) (.v 0) (.v 1) (.v 2) (.v 3) (.v 4) (.v 5) (.v 6) (.v 7) (.v 8) (.v 9)) (by kernel_rfl)
theorem f6_o1 {F : Type} [Rg F] (a b c x : F) : 1 * a + x * (0 * c + 0 * b) = a :=
  rid [a, b, c, x] ((fun (a b c x : PE) => (1 * a + x * (0 * c + 0 * b))) (.v 0) (.v 1) (.v 2) (.v 3)) ((fun (a b c x : PE) => (a)) (.v 0) (.v 1) (.v 2) (.v 3)) (by kernel_rfl)
theorem f6_o2 {F : Type} [Rg F] (a b c x : F) : 1 * b + 0 * a + x * (0 * c) = b :=
  rid [a, b, c, x] ((fun (a b c x : PE) => (1 * b + 0 * a + x * (0 * c))) (.v 0) (.v 1) (.v 2) (.v 3)) ((fun (a b c x : PE) => (b)) (.v 0) (.v 1) (.v 2) (.v 3)) (by kernel_rfl)
theorem f6_o3 {F : Type} [Rg F] (a b c : F) : 1 * c + 0 * b + 0 * a = c :=
  rid [a, b, c] ((fun (a b c : PE) => (1 * c + 0 * b + 0 * a)) (.v 0) (.v 1) (.v 2)) ((fun (a b c : PE) => (c)) (.v 0) (.v 1) (.v 2)) (by kernel_rfl)
theorem f6_d1 {F : Type} [Rg F] (a b c d e f g h k x : F) : (a + d) * g + x * ((b + e) * k + (c + f) * h) = a * g + x * (b * k + c * h) + (d * g + x * (e * k + f * h)) :=
  rid [a, b, c, d, e, f, g, h, k, x] ((fun (a b c d e f g h k x : PE) => ((a + d) * g + x * ((b + e) * k + (c + f) * h))) (.v 0) (.v 1) (.v 2) (.v 3) (.v 4) (.v 5) (.v 6) (.v 7) (.v 8) (.v 9)) ((fun (a b c d e f g h k x : PE) => (a * g + x * (b * k + c * h) + (d * g + x * (e * k + f * h)))) (.v 0) (.v 1) (.v 2) (.v 3) (.v 4) (.v 5) (.v 6) (.v 7) (.v 8) (.v 9)) (by kernel_rfl)
theorem f6_d2 {F : Type} [Rg F] (a b c d e f g h k x : F) : (a + d) * h + (b + e) * g + x * ((c + f) * k) = a * h + b * g + x * (c * k) + (d * h + e * g + x * (f * k)) :=
  rid [a, b, c, d, e, f, g, h, k, x] ((fun (a b c d e f g h k x : PE) => ((a + d) * h + (b + e) * g + x * ((c + f) * k))) (.v 0) (.v 1) (.v 2) (.v 3) (.v 4) (.v 5) (.v 6) (.v 7) (.v 8) (.v 9)) ((fun (a b c d e f g h k x : PE) => (a * h + b * g + x * (c * k) + (d * h + e * g + x * (f * k)))) (.v 0) (.v 1) (.v 2) (.v 3) (.v 4) (.v 5) (.v 6) (.v 7) (.v 8) (.v 9)) (by kernel_rfl)
theorem f6_d3 {F : Type} [Rg F] (a b c d e f g h k : F) : (a + d) * k + (b + e) * h + (c + f) * g = a * k + b * h + c * g + (d * k + e * h + f * g) :=
  rid [a, b, c, d, e, f, g, h, k] ((fun (a b c d e f g h k : PE) => ((a + d) * k + (b + e) * h + (c + f) * g)) (.v 0) (.v 1) (.v 2) (.v 3) (.v 4) (.v 5) (.v 6) (.v 7) (.v 8)) ((fun (a b c d e f g h k : PE) => (a * k + b * h + c * g + (d * k + e * h + f * g))) (.v 0) (.v 1) (.v 2) (.v 3) (.v 4) (.v 5) (.v 6) (.v 7) (.v 8)) (by kernel_rfl)
section
variable {R : Type} [Rg R] (v : R)
noncomputable def cadd (x y : R × R × R) : R × R × R := opq (x.1 + y.1, x.2.1 + y.2.1, x.2.2 + y.2.2)
noncomputable def csub (x y : R × R × R) : R × R × R := opq (x.1 - y.1, x.2.1 - y.2.1, x.2.2 - y.2.2)
noncomputable def cneg (x : R × R × R) : R × R × R := opq (-x.1, -x.2.1, -x.2.2)
noncomputable def cmul (x y : R × R × R) : R × R × R := opq (x.1 * y.1 + v * (x.2.1 * y.2.2 + x.2.2 * y.2.1), x.1 * y.2.1 + x.2.1 * y.1 + v * (x.2.2 * y.2.2), x.1 * y.2.2 + x.2.1 * y.2.1 + x.2.2 * y.1)
theorem cadd_def (x y : R × R × R) : cadd x y = (x.1 + y.1, x.2.1 + y.2.1, x.2.2 + y.2.2) := opq_eq _
theorem csub_def (x y : R × R × R) : csub x y = (x.1 - y.1, x.2.1 - y.2.1, x.2.2 - y.2.2) := opq_eq _
theorem cneg_def (x : R × R × R) : cneg x = (-x.1, -x.2.1, -x.2.2) := opq_eq _
theorem cmul_def (x y : R × R × R) : cmul v x y = (x.1 * y.1 + v * (x.2.1 * y.2.2 + x.2.2 * y.2.1), x.1 * y.2.1 + x.2.1 * y.1 + v * (x.2.2 * y.2.2), x.1 * y.2.2 + x.2.1 * y.2.1 + x.2.2 * y.1) := opq_eq _
omit [Rg R] in
theorem cext {x y : R × R × R} (h1 : x.1 = y.1) (h2 : x.2.1 = y.2.1) (h3 : x.2.2 = y.2.2) : x = y := Prod.ext h1 (Prod.ext h2 h3)
theorem c_l1 (a b : R × R × R) : cadd a b = cadd b a := by rw [cadd_def, cadd_def, add_comm, add_comm a.2.1, add_comm a.2.2]
theorem c_l2 (a b c : R × R × R) : cadd (cadd a b) c = cadd a (cadd b c) := by rw [cadd_def, cadd_def, cadd_def, cadd_def, add_assoc, add_assoc, add_assoc]
theorem c_l3 (a : R × R × R) : cadd (0, 0, 0) a = a := by rw [cadd_def, zero_add, zero_add, zero_add]
theorem c_l4 (a : R × R × R) : cadd (cneg a) a = (0, 0, 0) := by rw [cadd_def, cneg_def, neg_add, neg_add, neg_add]
theorem c_l5 (a b : R × R × R) : csub a b = cadd a (cneg b) := by rw [cadd_def, cneg_def, csub_def, Rg.sub_def, Rg.sub_def, Rg.sub_def]
theorem c_l6 (a b : R × R × R) : cmul v a b = cmul v b a := by rw [cmul_def, cmul_def]; exact cext (f6_c1 _ _ _ _ _ _ _) (f6_c2 _ _ _ _ _ _ _) (f6_c3 _ _ _ _ _ _ (0 : R))
theorem c_l7 (a b c : R × R × R) : cmul v (cmul v a b) c = cmul v a (cmul v b c) := by rw [cmul_def, cmul_def, cmul_def, cmul_def]; exact cext (f6_s1 _ _ _ _ _ _ _ _ _ _) (f6_s2 _ _ _ _ _ _ _ _ _ _) (f6_s3 _ _ _ _ _ _ _ _ _ _)
theorem c_l8 (a : R × R × R) : cmul v (1, 0, 0) a = a := by rw [cmul_def]; exact cext (f6_o1 _ _ _ _) (f6_o2 _ _ _ _) (f6_o3 _ _ _)
theorem c_l9 (a b c : R × R × R) : cmul v (cadd a b) c = cadd (cmul v a c) (cmul v b c) := by rw [cadd_def, cmul_def, cmul_def, cmul_def, cadd_def]; exact cext (f6_d1 _ _ _ _ _ _ _ _ _ _) (f6_d2 _ _ _ _ _ _ _ _ _ _) (f6_d3 _ _ _ _ _ _ _ _ _)
end
noncomputable instance rgF6 : Rg F6 where
  zero := (0, 0, 0)
  one := (1, 0, 0)
  add := cadd
  sub := csub
  neg := cneg
  mul := cmul xi
  add_comm := c_l1
  add_assoc := c_l2
  zero_add := c_l3
  neg_add := c_l4
  sub_def := c_l5
  mul_comm := c_l6 xi
  mul_assoc := c_l7 xi
  one_mul := c_l8 xi
  add_mul := c_l9 xi
theorem F6.ext {x y : F6} (h1 : x.1 = y.1) (h2 : x.2.1 = y.2.1) (h3 : x.2.2 = y.2.2) : x = y := Prod.ext h1 (Prod.ext h2 h3)
theorem F6.add_def (x y : F6) : x + y = (x.1 + y.1, x.2.1 + y.2.1, x.2.2 + y.2.2) := cadd_def x y
theorem F6.sub_def (x y : F6) : x - y = (x.1 - y.1, x.2.1 - y.2.1, x.2.2 - y.2.2) := csub_def x y
theorem F6.neg_def (x : F6) : -x = (-x.1, -x.2.1, -x.2.2) := cneg_def x
theorem F6.mul_def (x y : F6) : x * y = (x.1 * y.1 + xi * (x.2.1 * y.2.2 + x.2.2 * y.2.1), x.1 * y.2.1 + x.2.1 * y.1 + xi * (x.2.2 * y.2.2), x.1 * y.2.2 + x.2.1 * y.2.1 + x.2.2 * y.1) := cmul_def xi x y
theorem f2_nn {F : Type} [Rg F] (a b c d : F) : (a * c - b * d) * (a * c - b * d) + (a * d + b * c) * (a * d + b * c) = (a * a + b * b) * (c * c + d * d) :=
  rid [a, b, c, d] ((fun (a b c d : PE) => ((a * c - b * d) * (a * c - b * d) + (a * d + b * c) * (a * d + b * c))) (.v 0) (.v 1) (.v 2) (.v 3)) ((fun (a b c d : PE) => ((a * a + b * b) * (c * c + d * d))) (.v 0) (.v 1) (.v 2) (.v 3)) (by kernel_rfl)
/-- The norm. -/
noncomputable def nm2 (x : F2) : Fp := x.1 * x.1 + x.2 * x.2
theorem nm2_mul (x y : F2) : nm2 (x * y) = nm2 x * nm2 y := by
  unfold nm2
  rw [F2.mul1, F2.mul2]
  exact f2_nn _ _ _ _
theorem nm2_xi : nm2 xi = 1 + 1 := by
  unfold nm2 xi
  show (1 : Fp) * 1 + 1 * 1 = 1 + 1
  rw [one_mul]
section
variable {M : Int} [Md M]
theorem zpow_add' (x : Zm M) (m n : Nat) : zpow x (m + n) = zpow x m * zpow x n := by
  induction n with
  | zero => show zpow x m = zpow x m * 1; rw [mul_one]
  | succ n ih => show zpow x (m + n) * x = zpow x m * (zpow x n * x); rw [ih, mul_assoc]
theorem zpow_mul' (x : Zm M) (m n : Nat) : zpow x (m * n) = zpow (zpow x m) n := by
  induction n with
  | zero => rfl
  | succ n ih => show zpow x (m * n + m) = zpow (zpow x m) n * zpow x m; rw [zpow_add', ih]
end
def fpP : Nat := 4002409555221667393417789825735904156556882819939007885332058136124031650490837864442687629129015664037894272559787
theorem fp_fermat {x : Fp} (hx : x ≠ 0) : zpow x (fpP - 1) = 1 := by
  have h1 := zm_fermat Mp_nat prm_p hx (n := fpP - 2) (of_decide_eq_true (by kernel_rfl))
  have h3 : zpow x (fpP - 1) = zpow x (fpP - 2 + 1) := congrArg (zpow x) (of_decide_eq_true (by kernel_rfl))
  have h4 : zpow x (fpP - 2 + 1) = zpow x (fpP - 2) * x := rfl
  rw [h3, h4, mul_comm, h1]
/-- A power by computation, bit by bit. -/
def npm (m x : Nat) : Nat → Nat → Nat
  | 0, _ => 1
  | f + 1, n => match n with
    | 0 => 1
    | n + 1 => fc (npm m x f ((n + 1) / 2)) fun h => match (n + 1) % 2 with
      | 0 => h * h % m
      | _ => h * h % m * x % m
theorem npm_eq (m x : Nat) (hm : 1 < m) : ∀ f n, n < 2 ^ f → npm m x f n = x ^ n % m
  | 0, n, h => by
    have : n = 0 := by simpa using h
    subst this
    show 1 = 1 % m
    rw [Nat.mod_eq_of_lt hm]
  | f + 1, 0, _ => by show 1 = 1 % m; rw [Nat.mod_eq_of_lt hm]
  | f + 1, n + 1, h => by
    have ih := npm_eq m x hm f ((n + 1) / 2) (by rw [Nat.pow_succ] at h; omega)
    rw [npm, fc_eq, ih]
    have e : n + 1 = (n + 1) / 2 + (n + 1) / 2 + (n + 1) % 2 := by omega
    have e2 : x ^ (n + 1) = x ^ ((n + 1) / 2) * x ^ ((n + 1) / 2) * x ^ ((n + 1) % 2) := by rw [← Nat.pow_add, ← Nat.pow_add, ← e]
    rw [e2]
    rcases Nat.mod_two_eq_zero_or_one (n + 1) with h0 | h0
    · rw [h0, Nat.pow_zero, Nat.mul_one, ← Nat.mul_mod]
      rfl
    · rw [h0, Nat.pow_one]
      show x ^ ((n + 1) / 2) % m * (x ^ ((n + 1) / 2) % m) % m * x % m = _
      rw [← Nat.mul_mod, Nat.mul_mod (_ % m) x, Nat.mod_mod, ← Nat.mul_mod]
theorem zpow_two_v (n : Nat) : (zpow (1 + 1 : Fp) n).v = ((2 ^ n % fpP : Nat) : Int) := by
  rw [zpow_v]
  have : (1 + 1 : Fp).v = 2 := by decide
  rw [this, Mp_nat, Int.natCast_emod, Int.natCast_pow]; rfl
theorem no_pow2 {s : Fp} {k : Nat} {q : Nat} (hq : q * k = fpP - 1) (h : zpow s k = 1 + 1) : (2 : Nat) ^ q % fpP = 1 := by
  have hs : zpow (1 + 1 : Fp) q = 1 := by
    rw [← h, ← zpow_mul', Nat.mul_comm, hq]
    refine fp_fermat ?_
    intro e
    subst e
    cases k with
    | zero => rw [Nat.mul_zero] at hq; exact absurd hq (by decide)
    | succ k =>
      have : zpow (0 : Fp) (k + 1) = zpow (0 : Fp) k * 0 := rfl
      rw [this, mul_zero] at h
      exact absurd h (by decide)
  have h2 := zpow_two_v q
  rw [hs] at h2
  have : (1 : Fp).v = 1 := by decide
  rw [this] at h2
  omega
theorem two_sq : npm fpP 2 384 2001204777610833696708894912867952078278441409969503942666029068062015825245418932221343814564507832018947136279893 = fpP - 1 := by kernel_rfl
theorem two_cube : Nat.beq (npm fpP 2 384 1334136518407222464472596608578634718852294273313002628444019378708010550163612621480895876376338554679298090853262) 1 = false := by kernel_rfl
theorem xi_sq {s : F2} (h : s * s = xi) : False := by
  have e := congrArg nm2 h
  rw [nm2_mul, nm2_xi] at e
  have k := no_pow2 (s := nm2 s) (k := 2) (q := 2001204777610833696708894912867952078278441409969503942666029068062015825245418932221343814564507832018947136279893) (of_decide_eq_true (by kernel_rfl)) (by
    show 1 * nm2 s * nm2 s = 1 + 1
    rw [one_mul]; exact e)
  have t := two_sq
  rw [npm_eq _ _ (by decide) 384 _ (of_decide_eq_true (by kernel_rfl)), k] at t
  exact absurd t (by decide)
theorem xi_cube {s : F2} (h : s * s * s = xi) : False := by
  have e := congrArg nm2 h
  rw [nm2_mul, nm2_mul, nm2_xi] at e
  have k := no_pow2 (s := nm2 s) (k := 3) (q := 1334136518407222464472596608578634718852294273313002628444019378708010550163612621480895876376338554679298090853262) (of_decide_eq_true (by kernel_rfl)) (by
    show 1 * nm2 s * nm2 s * nm2 s = 1 + 1
    rw [one_mul]; exact e)
  have t := two_cube
  rw [npm_eq _ _ (by decide) 384 _ (of_decide_eq_true (by kernel_rfl)), k] at t
  exact absurd t (by decide)
theorem n6_id {F : Type} [Rg F] (a b c x : F) : (a * (a * a - x * (b * c)) + x * (c * (x * (c * c) - a * b) + b * (b * b - a * c))) * (x * (c * c * c) - b * b * b) = (x * (c * c) - a * b) * (x * (c * c) - a * b) * (x * (c * c) - a * b) + x * ((c * a - b * b) * (c * a - b * b) * (c * a - b * b)) :=
  rid [a, b, c, x] ((fun (a b c x : PE) => ((a * (a * a - x * (b * c)) + x * (c * (x * (c * c) - a * b) + b * (b * b - a * c))) * (x * (c * c * c) - b * b * b))) (.v 0) (.v 1) (.v 2) (.v 3)) ((fun (a b c x : PE) => ((x * (c * c) - a * b) * (x * (c * c) - a * b) * (x * (c * c) - a * b) + x * ((c * a - b * b) * (c * a - b * b) * (c * a - b * b)))) (.v 0) (.v 1) (.v 2) (.v 3)) (by kernel_rfl)
theorem n6_c0 {F : Type} [Rg F] (a b x : F) : a * (a * a - x * (b * 0)) + x * (0 * (x * (0 * 0) - a * b) + b * (b * b - a * 0)) = a * a * a + x * (b * b * b) :=
  rid [a, b, x] ((fun (a b x : PE) => (a * (a * a - x * (b * 0)) + x * (0 * (x * (0 * 0) - a * b) + b * (b * b - a * 0)))) (.v 0) (.v 1) (.v 2)) ((fun (a b x : PE) => (a * a * a + x * (b * b * b))) (.v 0) (.v 1) (.v 2)) (by kernel_rfl)
theorem n6_t {F : Type} [Rg F] (a j : F) : (- a * j) * (- a * j) * (- a * j) = -(a * a * a * (j * j * j)) :=
  rid [a, j] ((fun (a j : PE) => ((- a * j) * (- a * j) * (- a * j))) (.v 0) (.v 1)) ((fun (a j : PE) => (-(a * a * a * (j * j * j)))) (.v 0) (.v 1)) (by kernel_rfl)
theorem n6_q {F : Type} [Rg F] (x c j : F) : x * (c * c * c) * (j * j * j) = x * ((c * j) * (c * j) * (c * j)) :=
  rid [x, c, j] ((fun (x c j : PE) => (x * (c * c * c) * (j * j * j))) (.v 0) (.v 1) (.v 2)) ((fun (x c j : PE) => (x * ((c * j) * (c * j) * (c * j)))) (.v 0) (.v 1) (.v 2)) (by kernel_rfl)
theorem n6_p1 {F : Type} [Rg F] (b c a x : F) : b * b * b - c * c * c * x = (-b) * (c * a - b * b) + (-c) * (x * (c * c) - a * b) :=
  rid [b, c, a, x] ((fun (b c a x : PE) => (b * b * b - c * c * c * x)) (.v 0) (.v 1) (.v 2) (.v 3)) ((fun (b c a x : PE) => ((-b) * (c * a - b * b) + (-c) * (x * (c * c) - a * b))) (.v 0) (.v 1) (.v 2) (.v 3)) (by kernel_rfl)
theorem n6_p2 {F : Type} [Rg F] (b c j x : F) : b * j * (b * j) * (b * j) - x * ((c * j) * (c * j) * (c * j)) = (j * j * j) * (b * b * b - c * c * c * x) :=
  rid [b, c, j, x] ((fun (b c j x : PE) => (b * j * (b * j) * (b * j) - x * ((c * j) * (c * j) * (c * j)))) (.v 0) (.v 1) (.v 2) (.v 3)) ((fun (b c j x : PE) => ((j * j * j) * (b * b * b - c * c * c * x))) (.v 0) (.v 1) (.v 2) (.v 3)) (by kernel_rfl)
theorem i6_1 {F : Type} [Rg F] (a b c x n : F) : a * ((a * a - x * (b * c)) * n) + x * (b * ((b * b - a * c) * n) + c * ((x * (c * c) - a * b) * n)) = (a * (a * a - x * (b * c)) + x * (c * (x * (c * c) - a * b) + b * (b * b - a * c))) * n :=
  rid [a, b, c, x, n] ((fun (a b c x n : PE) => (a * ((a * a - x * (b * c)) * n) + x * (b * ((b * b - a * c) * n) + c * ((x * (c * c) - a * b) * n)))) (.v 0) (.v 1) (.v 2) (.v 3) (.v 4)) ((fun (a b c x n : PE) => ((a * (a * a - x * (b * c)) + x * (c * (x * (c * c) - a * b) + b * (b * b - a * c))) * n)) (.v 0) (.v 1) (.v 2) (.v 3) (.v 4)) (by kernel_rfl)
theorem i6_2 {F : Type} [Rg F] (a b c x n : F) : a * ((x * (c * c) - a * b) * n) + b * ((a * a - x * (b * c)) * n) + x * (c * ((b * b - a * c) * n)) = 0 :=
  rid [a, b, c, x, n] ((fun (a b c x n : PE) => (a * ((x * (c * c) - a * b) * n) + b * ((a * a - x * (b * c)) * n) + x * (c * ((b * b - a * c) * n)))) (.v 0) (.v 1) (.v 2) (.v 3) (.v 4)) ((fun (a b c x n : PE) => (0)) (.v 0) (.v 1) (.v 2) (.v 3) (.v 4)) (by kernel_rfl)
theorem i6_3 {F : Type} [Rg F] (a b c x n : F) : a * ((b * b - a * c) * n) + b * ((x * (c * c) - a * b) * n) + c * ((a * a - x * (b * c)) * n) = 0 :=
  rid [a, b, c, x, n] ((fun (a b c x n : PE) => (a * ((b * b - a * c) * n) + b * ((x * (c * c) - a * b) * n) + c * ((a * a - x * (b * c)) * n))) (.v 0) (.v 1) (.v 2) (.v 3) (.v 4)) ((fun (a b c x n : PE) => (0)) (.v 0) (.v 1) (.v 2) (.v 3) (.v 4)) (by kernel_rfl)
theorem n6_sq {F : Type} [Rg F] (a b c x : F) : (a * a + x * (b * c + c * b)) * ((a * a + x * (b * c + c * b)) * (a * a + x * (b * c + c * b)) - x * ((a * b + b * a + x * (c * c)) * (a * c + b * b + c * a))) + x * ((a * c + b * b + c * a) * (x * ((a * c + b * b + c * a) * (a * c + b * b + c * a)) - (a * a + x * (b * c + c * b)) * (a * b + b * a + x * (c * c))) + (a * b + b * a + x * (c * c)) * ((a * b + b * a + x * (c * c)) * (a * b + b * a + x * (c * c)) - (a * a + x * (b * c + c * b)) * (a * c + b * b + c * a))) = (a * (a * a - x * (b * c)) + x * (c * (x * (c * c) - a * b) + b * (b * b - a * c))) * (a * (a * a - x * (b * c)) + x * (c * (x * (c * c) - a * b) + b * (b * b - a * c))) :=
  rid [a, b, c, x] ((fun (a b c x : PE) => ((a * a + x * (b * c + c * b)) * ((a * a + x * (b * c + c * b)) * (a * a + x * (b * c + c * b)) - x * ((a * b + b * a + x * (c * c)) * (a * c + b * b + c * a))) + x * ((a * c + b * b + c * a) * (x * ((a * c + b * b + c * a) * (a * c + b * b + c * a)) - (a * a + x * (b * c + c * b)) * (a * b + b * a + x * (c * c))) + (a * b + b * a + x * (c * c)) * ((a * b + b * a + x * (c * c)) * (a * b + b * a + x * (c * c)) - (a * a + x * (b * c + c * b)) * (a * c + b * b + c * a))))) (.v 0) (.v 1) (.v 2) (.v 3)) ((fun (a b c x : PE) => ((a * (a * a - x * (b * c)) + x * (c * (x * (c * c) - a * b) + b * (b * b - a * c))) * (a * (a * a - x * (b * c)) + x * (c * (x * (c * c) - a * b) + b * (b * b - a * c))))) (.v 0) (.v 1) (.v 2) (.v 3)) (by kernel_rfl)
theorem n6_vv {F : Type} [Rg F] (x : F) : 0 * (0 * 0 - x * (1 * 0)) + x * (0 * (x * (0 * 0) - 0 * 1) + 1 * (1 * 1 - 0 * 0)) = x :=
  rid [x] ((fun (x : PE) => (0 * (0 * 0 - x * (1 * 0)) + x * (0 * (x * (0 * 0) - 0 * 1) + 1 * (1 * 1 - 0 * 0)))) (.v 0)) ((fun (x : PE) => (x)) (.v 0)) (by kernel_rfl)
section
variable {R : Type} [Fd R] (x : R)
theorem c_lin (hx : ∀ s : R, s * s * s = x → False) {a c : R} (h : a * a * a + x * (c * c * c) = 0) : a = 0 ∧ c = 0 := by
  have hc : c = 0 := by
    refine Classical.byContradiction fun hc => ?_
    have hi := mul_inv c hc
    refine hx (-a * inv c) ?_
    have e : a * a * a = -(x * (c * c * c)) := by
      have := neg_eq h
      rw [← this, neg_neg]
    rw [n6_t, e, neg_mul, neg_neg]
    have : x * (c * c * c) * (inv c * inv c * inv c) = x * ((c * inv c) * (c * inv c) * (c * inv c)) := n6_q _ _ _
    rw [this, hi, one_mul, one_mul, mul_one]
  refine ⟨?_, hc⟩
  rw [hc, mul_zero, mul_zero, add_zero] at h
  rcases mul_eq_zero h with h | h
  · rcases mul_eq_zero h with h | h <;> exact h
  · exact h
/-- What t is multiplied with to come to its norm. -/
def cadj (t : R × R × R) : R × R × R := (t.1 * t.1 - x * (t.2.1 * t.2.2), x * (t.2.2 * t.2.2) - t.1 * t.2.1, t.2.1 * t.2.1 - t.1 * t.2.2)
def cnm (t : R × R × R) : R := t.1 * (t.1 * t.1 - x * (t.2.1 * t.2.2)) + x * (t.2.2 * (x * (t.2.2 * t.2.2) - t.1 * t.2.1) + t.2.1 * (t.2.1 * t.2.1 - t.1 * t.2.2))
theorem cnm_ne (hx : ∀ s : R, s * s * s = x → False) {t : R × R × R} (h : t ≠ (0, 0, 0)) : cnm x t ≠ 0 := by
  intro e
  unfold cnm at e
  by_cases hc : t.2.2 = 0
  · rw [hc, n6_c0] at e
    obtain ⟨h1, h2⟩ := c_lin x hx e
    exact h (cext h1 h2 hc)
  · have k := n6_id t.1 t.2.1 t.2.2 x
    rw [e, zero_mul] at k
    obtain ⟨h1, h2⟩ := c_lin x hx k.symm
    have hi := mul_inv _ hc
    refine hx (t.2.1 * inv t.2.2) (eq_of_sub ?_)
    have p := n6_p1 t.2.1 t.2.2 t.1 x
    rw [h1, h2, mul_zero, mul_zero, add_zero] at p
    have q := n6_p2 t.2.1 t.2.2 (inv t.2.2) x
    rw [p, mul_zero, hi, one_mul, one_mul, mul_one] at q
    exact q
/-- 1/t. -/
noncomputable def cinv (t : R × R × R) : R × R × R := opq ((cadj x t).1 * inv (cnm x t), (cadj x t).2.1 * inv (cnm x t), (cadj x t).2.2 * inv (cnm x t))
theorem cinv_def (t : R × R × R) : cinv x t = ((cadj x t).1 * inv (cnm x t), (cadj x t).2.1 * inv (cnm x t), (cadj x t).2.2 * inv (cnm x t)) := opq_eq _
theorem cinv_mul (hx : ∀ s : R, s * s * s = x → False) {t : R × R × R} (h : t ≠ (0, 0, 0)) : cmul x t (cinv x t) = (1, 0, 0) := by
  have hn := mul_inv _ (cnm_ne x hx h)
  rw [cmul_def, cinv_def]
  exact cext ((i6_1 _ _ _ _ _).trans hn) (i6_2 _ _ _ _ _) (i6_3 _ _ _ _ _)
theorem cnm_sq (t : R × R × R) : cnm x (cmul x t t) = cnm x t * cnm x t := by
  rw [cmul_def]
  exact n6_sq t.1 t.2.1 t.2.2 x
theorem cnm_v : cnm x ((0 : R), (1 : R), (0 : R)) = x := n6_vv x
end
noncomputable abbrev nm6 (t : F6) : F2 := cnm xi t
noncomputable abbrev inv6 (t : F6) : F6 := cinv xi t
noncomputable instance fdF6 : Fd F6 where
  deq := inferInstanceAs (DecidableEq (F2 × F2 × F2))
  inv := inv6
  mul_inv _ h := cinv_mul xi (fun _ e => xi_cube e) h
  one_ne := fun h => absurd (congrArg Prod.fst h) one_ne
  two_ne := fun h => absurd (congrArg Prod.fst h) (by rw [F6.add_def]; exact two_ne)
  three_ne := fun h => absurd (congrArg Prod.fst h) (by rw [F6.add_def, F6.add_def]; exact three_ne)
end Cr
/- Powers in a commutative ring; the power p where p is nought. No program here. -/
namespace Cr
open Rg
section
variable {F : Type} [Rg F]
def pwn (x : F) : Nat → F
  | 0 => 1
  | n + 1 => pwn x n * x
theorem pwn_add (x : F) (m n : Nat) : pwn x (m + n) = pwn x m * pwn x n := by
  induction n with
  | zero => show pwn x m = pwn x m * 1; rw [mul_one]
  | succ n ih => show pwn x (m + n) * x = pwn x m * (pwn x n * x); rw [ih, mul_assoc]
theorem pwn_mul (x : F) (m n : Nat) : pwn x (m * n) = pwn (pwn x m) n := by
  induction n with
  | zero => rfl
  | succ n ih => show pwn x (m * n + m) = pwn (pwn x m) n * pwn x m; rw [pwn_add, ih]
theorem pwn_prod (x y : F) (n : Nat) : pwn (x * y) n = pwn x n * pwn y n := by
  induction n with
  | zero => show (1 : F) = 1 * 1; rw [one_mul]
  | succ n ih =>
    show pwn (x * y) n * (x * y) = pwn x n * x * (pwn y n * y)
    rw [ih, mul_assoc, mul_assoc, ← mul_assoc (pwn y n), mul_comm (pwn y n), mul_assoc x]
theorem pwn_one (n : Nat) : pwn (1 : F) n = 1 := by
  induction n with
  | zero => rfl
  | succ n ih => show pwn (1 : F) n * 1 = 1; rw [ih, mul_one]
def sumN (f : Nat → F) : Nat → F
  | 0 => 0
  | n + 1 => sumN f n + f n
theorem sumN_congr {f g : Nat → F} : ∀ n, (∀ k, k < n → f k = g k) → sumN f n = sumN g n
  | 0, _ => rfl
  | n + 1, h => by show sumN f n + f n = sumN g n + g n; rw [sumN_congr n (fun k hk => h k (by omega)), h n (by omega)]
theorem sumN_add (f g : Nat → F) : ∀ n, sumN (fun k => f k + g k) n = sumN f n + sumN g n
  | 0 => by show (0 : F) = 0 + 0; rw [zero_add]
  | n + 1 => by show sumN _ n + (f n + g n) = sumN f n + f n + (sumN g n + g n); rw [sumN_add f g n, add_add_add]
theorem sumN_mul (f : Nat → F) (c : F) : ∀ n, sumN f n * c = sumN (fun k => f k * c) n
  | 0 => zero_mul c
  | n + 1 => by show (sumN f n + f n) * c = _ + f n * c; rw [add_mul, sumN_mul f c n]
theorem sumN_shift (f : Nat → F) : ∀ n, sumN f (n + 1) = f 0 + sumN (fun k => f (k + 1)) n
  | 0 => by show 0 + f 0 = f 0 + 0; rw [zero_add, add_zero]
  | n + 1 => by show sumN f (n + 1) + f (n + 1) = f 0 + (sumN _ n + f (n + 1)); rw [sumN_shift f n, add_assoc]
theorem sumN_zero {f : Nat → F} : ∀ n, (∀ k, k < n → f k = 0) → sumN f n = 0
  | 0, _ => rfl
  | n + 1, h => by show sumN f n + f n = 0; rw [sumN_zero n (fun k hk => h k (by omega)), h n (by omega), zero_add]
def bc : Nat → Nat → Nat
  | _, 0 => 1
  | 0, _ + 1 => 0
  | n + 1, k + 1 => bc n k + bc n (k + 1)
theorem bc_big : ∀ n k, n < k → bc n k = 0
  | 0, k + 1, _ => rfl
  | n + 1, k + 1, h => by show bc n k + bc n (k + 1) = 0; rw [bc_big n k (by omega), bc_big n (k + 1) (by omega)]
theorem bc_self : ∀ n, bc n n = 1
  | 0 => rfl
  | n + 1 => by show bc n n + bc n (n + 1) = 1; rw [bc_self n, bc_big n (n + 1) (by omega)]
theorem bc_zero (n : Nat) : bc n 0 = 1 := by cases n <;> rfl
theorem bc_abs : ∀ n k, (k + 1) * bc (n + 1) (k + 1) = (n + 1) * bc n k
  | 0, 0 => rfl
  | 0, k + 1 => by show (k + 2) * (bc 0 (k + 1) + bc 0 (k + 2)) = _; rfl
  | n + 1, 0 => by
    have h := bc_abs n 0
    show 1 * (bc (n + 1) 0 + bc (n + 1) 1) = (n + 2) * bc (n + 1) 0
    rw [bc_zero] at h ⊢
    have h : 1 * bc (n + 1) 1 = (n + 1) * 1 := h
    omega
  | n + 1, k + 1 => by
    have h1 := bc_abs n k
    have h2 := bc_abs n (k + 1)
    show (k + 2) * (bc (n + 1) (k + 1) + bc (n + 1) (k + 2)) = (n + 2) * bc (n + 1) (k + 1)
    have h3 : bc (n + 1) (k + 1) = bc n k + bc n (k + 1) := rfl
    have e1 : (k + 2) * (bc (n + 1) (k + 1) + bc (n + 1) (k + 2)) = (k + 1) * bc (n + 1) (k + 1) + bc (n + 1) (k + 1) + (k + 2) * bc (n + 1) (k + 2) := by
      rw [Nat.mul_add, show (k + 2) * bc (n + 1) (k + 1) = (k + 1) * bc (n + 1) (k + 1) + bc (n + 1) (k + 1) by rw [← Nat.succ_mul]]
    have e2 : (n + 2) * bc (n + 1) (k + 1) = (n + 1) * bc n k + (n + 1) * bc n (k + 1) + bc (n + 1) (k + 1) := by
      rw [show (n + 2) * bc (n + 1) (k + 1) = (n + 1) * bc (n + 1) (k + 1) + bc (n + 1) (k + 1) by rw [← Nat.succ_mul], h3, Nat.mul_add]
    rw [e1, e2, h1, h2]
    omega
theorem pwn_binom (x y : F) : ∀ n, pwn (x + y) n = sumN (fun k => nc (bc n k) * (pwn x k * pwn y (n - k))) (n + 1)
  | 0 => by
    show (1 : F) = 0 + nc 1 * (1 * 1)
    have : (nc 1 : F) = 1 := by show (0 : F) + 1 = 1; rw [zero_add]
    rw [this, one_mul, one_mul, zero_add]
  | n + 1 => by
    have ih := pwn_binom x y n
    show pwn (x + y) n * (x + y) = _
    rw [mul_add, ih, sumN_mul, sumN_mul, sumN_shift _ (n + 1)]
    have a0 : nc (bc (n + 1) 0) * (pwn x 0 * pwn y (n + 1 - 0)) = pwn y (n + 1) := by
      have : (nc 1 : F) = 1 := by show (0 : F) + 1 = 1; rw [zero_add]
      rw [bc_zero, this, one_mul]
      show 1 * pwn y (n + 1) = _
      rw [one_mul]
    have a1 : sumN (fun k => nc (bc (n + 1) (k + 1)) * (pwn x (k + 1) * pwn y (n + 1 - (k + 1)))) (n + 1) =
        sumN (fun k => nc (bc n k) * (pwn x (k + 1) * pwn y (n - k))) (n + 1) + sumN (fun k => nc (bc n (k + 1)) * (pwn x (k + 1) * pwn y (n - k))) (n + 1) := by
      rw [← sumN_add]
      refine sumN_congr _ fun k _ => ?_
      show nc (bc n k + bc n (k + 1)) * _ = _
      rw [nc_add, add_mul, Nat.add_sub_add_right]
    have a2 : sumN (fun k => nc (bc n k) * (pwn x k * pwn y (n - k)) * x) (n + 1) = sumN (fun k => nc (bc n k) * (pwn x (k + 1) * pwn y (n - k))) (n + 1) := by
      refine sumN_congr _ fun k _ => ?_
      show nc (bc n k) * (pwn x k * pwn y (n - k)) * x = nc (bc n k) * (pwn x k * x * pwn y (n - k))
      rw [mul_assoc, mul_assoc, mul_assoc, mul_comm (pwn y (n - k)) x]
    have a3 : sumN (fun k => nc (bc n k) * (pwn x k * pwn y (n - k)) * y) (n + 1) = pwn y (n + 1) + sumN (fun k => nc (bc n (k + 1)) * (pwn x (k + 1) * pwn y (n - k))) (n + 1) := by
      rw [sumN_shift]
      have b0 : nc (bc n 0) * (pwn x 0 * pwn y (n - 0)) * y = pwn y (n + 1) := by
        have : (nc 1 : F) = 1 := by show (0 : F) + 1 = 1; rw [zero_add]
        rw [bc_zero, this, one_mul]
        show 1 * pwn y n * y = pwn y n * y
        rw [one_mul]
      have b1 : sumN (fun k => nc (bc n (k + 1)) * (pwn x (k + 1) * pwn y (n - k))) (n + 1) = sumN (fun k => nc (bc n (k + 1)) * (pwn x (k + 1) * pwn y (n - k))) n := by
        show _ + nc (bc n (n + 1)) * _ = _
        rw [bc_big n (n + 1) (by omega)]
        show _ + (0 : F) * _ = _
        rw [zero_mul, add_zero]
      rw [b0, b1]
      congr 1
      refine sumN_congr _ fun k hk => ?_
      have e : n - k = n - (k + 1) + 1 := by omega
      rw [e]
      show nc _ * (_ * _) * y = nc _ * (_ * (pwn y (n - (k + 1)) * y))
      rw [mul_assoc, mul_assoc]
    rw [a0, a1, a2, a3]
    generalize sumN (fun k => nc (bc n k) * (pwn x (k + 1) * pwn y (n - k))) (n + 1) = A
    generalize sumN (fun k => nc (bc n (k + 1)) * (pwn x (k + 1) * pwn y (n - k))) (n + 1) = B
    rw [← add_assoc, ← add_assoc, add_comm A]
theorem bc_dvd {p : Nat} (hp : Prm p) {k : Nat} (h0 : 0 < k) (h1 : k < p) : p ∣ bc p k := by
  obtain ⟨k, rfl⟩ : ∃ j, k = j + 1 := ⟨k - 1, by omega⟩
  obtain ⟨n, rfl⟩ : ∃ m, p = m + 1 := ⟨p - 1, by omega⟩
  have h := bc_abs n k
  have hd : (n + 1) ∣ (k + 1) * bc (n + 1) (k + 1) := ⟨_, h⟩
  rcases hp.dvd_mul hd with h2 | h2
  · exact absurd (Nat.le_of_dvd (by omega) h2) (by omega)
  · exact h2
/-- The power p of a sum. -/
theorem pwn_sum {p : Nat} (hp : Prm p) (h0 : (nc p : F) = 0) (x y : F) : pwn (x + y) p = pwn x p + pwn y p := by
  have hp1 : 1 < p := hp.1
  obtain ⟨n, rfl⟩ : ∃ m, p = m + 1 := ⟨p - 1, by omega⟩
  have n1 : (nc 1 : F) = 1 := by show (0 : F) + 1 = 1; rw [zero_add]
  rw [pwn_binom, sumN_shift]
  show _ + (sumN _ n + _) = _
  have e1 : sumN (fun k => nc (bc (n + 1) (k + 1)) * (pwn x (k + 1) * pwn y (n + 1 - (k + 1)))) n = 0 := by
    refine sumN_zero _ fun k hk => ?_
    obtain ⟨c, hc⟩ := bc_dvd hp (show 0 < k + 1 by omega) (show k + 1 < n + 1 by omega)
    show nc (bc (n + 1) (k + 1)) * _ = 0
    rw [hc, nc_mul, h0, zero_mul, zero_mul]
  rw [e1]
  show nc (bc (n + 1) 0) * (pwn x 0 * pwn y (n + 1 - 0)) + (0 + nc (bc (n + 1) (n + 1)) * (pwn x (n + 1) * pwn y (n + 1 - (n + 1)))) = _
  rw [zero_add, bc_zero, bc_self, n1, one_mul, one_mul, Nat.sub_self, Nat.sub_zero]
  show 1 * pwn y (n + 1) + pwn x (n + 1) * 1 = _
  rw [one_mul, mul_one, add_comm]
end
end Cr
/- The field of numbers a + b w, w^2 = v; powers, the power p. No program here. -/
namespace Cr
open Rg Fd Go.Eng
abbrev F12 := F6 × F6
/-- v. -/
def vv : F6 := ((0 : F2), (1 : F2), (0 : F2))
theorem vv_1 {F : Type} [Rg F] (a b c x : F) : 0 * a + x * (1 * c + 0 * b) = x * c :=
  rid [a, b, c, x] ((fun (a b c x : PE) => (0 * a + x * (1 * c + 0 * b))) (.v 0) (.v 1) (.v 2) (.v 3)) ((fun (a b c x : PE) => (x * c)) (.v 0) (.v 1) (.v 2) (.v 3)) (by kernel_rfl)
theorem vv_2 {F : Type} [Rg F] (a b c x : F) : 0 * b + 1 * a + x * (0 * c) = a :=
  rid [a, b, c, x] ((fun (a b c x : PE) => (0 * b + 1 * a + x * (0 * c))) (.v 0) (.v 1) (.v 2) (.v 3)) ((fun (a b c x : PE) => (a)) (.v 0) (.v 1) (.v 2) (.v 3)) (by kernel_rfl)
theorem vv_3 {F : Type} [Rg F] (a b c : F) : 0 * c + 1 * b + 0 * a = b :=
  rid [a, b, c] ((fun (a b c : PE) => (0 * c + 1 * b + 0 * a)) (.v 0) (.v 1) (.v 2)) ((fun (a b c : PE) => (b)) (.v 0) (.v 1) (.v 2)) (by kernel_rfl)
section
variable {R : Type} [Rg R] (v : R)
theorem cv_mul (x : R × R × R) : cmul v (0, 1, 0) x = (v * x.2.2, x.1, x.2.1) := by rw [cmul_def]; exact cext (vv_1 _ _ _ _) (vv_2 _ _ _ _) (vv_3 _ _ _)
end
theorem vv_mul (x : F6) : vv * x = (xi * x.2.2, x.1, x.2.1) := cv_mul xi x
theorem q_co1 {F : Type} [Rg F] (a b c d v : F) : a * c + v * (b * d) = c * a + v * (d * b) :=
  rid [a, b, c, d, v] ((fun (a b c d v : PE) => (a * c + v * (b * d))) (.v 0) (.v 1) (.v 2) (.v 3) (.v 4)) ((fun (a b c d v : PE) => (c * a + v * (d * b))) (.v 0) (.v 1) (.v 2) (.v 3) (.v 4)) (by kernel_rfl)
theorem q_co2 {F : Type} [Rg F] (a b c d : F) : a * d + b * c = c * b + d * a :=
  rid [a, b, c, d] ((fun (a b c d : PE) => (a * d + b * c)) (.v 0) (.v 1) (.v 2) (.v 3)) ((fun (a b c d : PE) => (c * b + d * a)) (.v 0) (.v 1) (.v 2) (.v 3)) (by kernel_rfl)
theorem q_as1 {F : Type} [Rg F] (a b c d e f v : F) : (a * c + v * (b * d)) * e + v * ((a * d + b * c) * f) = a * (c * e + v * (d * f)) + v * (b * (c * f + d * e)) :=
  rid [a, b, c, d, e, f, v] ((fun (a b c d e f v : PE) => ((a * c + v * (b * d)) * e + v * ((a * d + b * c) * f))) (.v 0) (.v 1) (.v 2) (.v 3) (.v 4) (.v 5) (.v 6)) ((fun (a b c d e f v : PE) => (a * (c * e + v * (d * f)) + v * (b * (c * f + d * e)))) (.v 0) (.v 1) (.v 2) (.v 3) (.v 4) (.v 5) (.v 6)) (by kernel_rfl)
theorem q_as2 {F : Type} [Rg F] (a b c d e f v : F) : (a * c + v * (b * d)) * f + (a * d + b * c) * e = a * (c * f + d * e) + b * (c * e + v * (d * f)) :=
  rid [a, b, c, d, e, f, v] ((fun (a b c d e f v : PE) => ((a * c + v * (b * d)) * f + (a * d + b * c) * e)) (.v 0) (.v 1) (.v 2) (.v 3) (.v 4) (.v 5) (.v 6)) ((fun (a b c d e f v : PE) => (a * (c * f + d * e) + b * (c * e + v * (d * f)))) (.v 0) (.v 1) (.v 2) (.v 3) (.v 4) (.v 5) (.v 6)) (by kernel_rfl)
theorem q_o1 {F : Type} [Rg F] (a b v : F) : 1 * a + v * (0 * b) = a :=
  rid [a, b, v] ((fun (a b v : PE) => (1 * a + v * (0 * b))) (.v 0) (.v 1) (.v 2)) ((fun (a b v : PE) => (a)) (.v 0) (.v 1) (.v 2)) (by kernel_rfl)
theorem q_o2 {F : Type} [Rg F] (a b : F) : 1 * b + 0 * a = b :=
  rid [a, b] ((fun (a b : PE) => (1 * b + 0 * a)) (.v 0) (.v 1)) ((fun (a b : PE) => (b)) (.v 0) (.v 1)) (by kernel_rfl)
theorem q_d1 {F : Type} [Rg F] (a b c d e f v : F) : (a + c) * e + v * ((b + d) * f) = a * e + v * (b * f) + (c * e + v * (d * f)) :=
  rid [a, b, c, d, e, f, v] ((fun (a b c d e f v : PE) => ((a + c) * e + v * ((b + d) * f))) (.v 0) (.v 1) (.v 2) (.v 3) (.v 4) (.v 5) (.v 6)) ((fun (a b c d e f v : PE) => (a * e + v * (b * f) + (c * e + v * (d * f)))) (.v 0) (.v 1) (.v 2) (.v 3) (.v 4) (.v 5) (.v 6)) (by kernel_rfl)
theorem q_d2 {F : Type} [Rg F] (a b c d e f : F) : (a + c) * f + (b + d) * e = a * f + b * e + (c * f + d * e) :=
  rid [a, b, c, d, e, f] ((fun (a b c d e f : PE) => ((a + c) * f + (b + d) * e)) (.v 0) (.v 1) (.v 2) (.v 3) (.v 4) (.v 5)) ((fun (a b c d e f : PE) => (a * f + b * e + (c * f + d * e))) (.v 0) (.v 1) (.v 2) (.v 3) (.v 4) (.v 5)) (by kernel_rfl)
section
variable {R : Type} [Rg R] (v : R)
noncomputable def qadd (x y : R × R) : R × R := opq (x.1 + y.1, x.2 + y.2)
noncomputable def qsub (x y : R × R) : R × R := opq (x.1 - y.1, x.2 - y.2)
noncomputable def qneg (x : R × R) : R × R := opq (-x.1, -x.2)
noncomputable def qmul (x y : R × R) : R × R := opq (x.1 * y.1 + v * (x.2 * y.2), x.1 * y.2 + x.2 * y.1)
theorem qadd_def (x y : R × R) : qadd x y = (x.1 + y.1, x.2 + y.2) := opq_eq _
theorem qsub_def (x y : R × R) : qsub x y = (x.1 - y.1, x.2 - y.2) := opq_eq _
theorem qneg_def (x : R × R) : qneg x = (-x.1, -x.2) := opq_eq _
theorem qmul_def (x y : R × R) : qmul v x y = (x.1 * y.1 + v * (x.2 * y.2), x.1 * y.2 + x.2 * y.1) := opq_eq _
theorem q_l1 (a b : R × R) : qadd a b = qadd b a := by rw [qadd_def, qadd_def, add_comm, add_comm a.2]
theorem q_l2 (a b c : R × R) : qadd (qadd a b) c = qadd a (qadd b c) := by rw [qadd_def, qadd_def, qadd_def, qadd_def, add_assoc, add_assoc]
theorem q_l3 (a : R × R) : qadd (0, 0) a = a := by rw [qadd_def, zero_add, zero_add]
theorem q_l4 (a : R × R) : qadd (qneg a) a = (0, 0) := by rw [qadd_def, qneg_def, neg_add, neg_add]
theorem q_l5 (a b : R × R) : qsub a b = qadd a (qneg b) := by rw [qadd_def, qneg_def, qsub_def, Rg.sub_def, Rg.sub_def]
theorem q_l6 (a b : R × R) : qmul v a b = qmul v b a := by rw [qmul_def, qmul_def]; exact Prod.ext (q_co1 a.1 a.2 b.1 b.2 v) (q_co2 a.1 a.2 b.1 b.2)
theorem q_l7 (a b c : R × R) : qmul v (qmul v a b) c = qmul v a (qmul v b c) := by rw [qmul_def, qmul_def, qmul_def, qmul_def]; exact Prod.ext (q_as1 a.1 a.2 b.1 b.2 c.1 c.2 v) (q_as2 a.1 a.2 b.1 b.2 c.1 c.2 v)
theorem q_l8 (a : R × R) : qmul v (1, 0) a = a := by rw [qmul_def]; exact Prod.ext (q_o1 a.1 a.2 v) (q_o2 a.1 a.2)
theorem q_l9 (a b c : R × R) : qmul v (qadd a b) c = qadd (qmul v a c) (qmul v b c) := by rw [qadd_def, qmul_def, qmul_def, qmul_def, qadd_def]; exact Prod.ext (q_d1 a.1 a.2 b.1 b.2 c.1 c.2 v) (q_d2 a.1 a.2 b.1 b.2 c.1 c.2)
end
noncomputable instance rgF12 : Rg F12 where
  zero := (0, 0)
  one := (1, 0)
  add := qadd
  sub := qsub
  neg := qneg
  mul := qmul vv
  add_comm := q_l1
  add_assoc := q_l2
  zero_add := q_l3
  neg_add := q_l4
  sub_def := q_l5
  mul_comm := q_l6 vv
  mul_assoc := q_l7 vv
  one_mul := q_l8 vv
  add_mul := q_l9 vv
theorem F12.ext {x y : F12} (h1 : x.1 = y.1) (h2 : x.2 = y.2) : x = y := Prod.ext h1 h2
theorem F12.add_def (x y : F12) : x + y = (x.1 + y.1, x.2 + y.2) := qadd_def x y
theorem F12.sub_def (x y : F12) : x - y = (x.1 - y.1, x.2 - y.2) := qsub_def x y
theorem F12.neg_def (x : F12) : -x = (-x.1, -x.2) := qneg_def x
theorem F12.mul_def (x y : F12) : x * y = (x.1 * y.1 + vv * (x.2 * y.2), x.1 * y.2 + x.2 * y.1) := qmul_def vv x y
theorem F12.a1 (x y : F12) : (x + y).1 = x.1 + y.1 := by rw [F12.add_def]
theorem F12.a2 (x y : F12) : (x + y).2 = x.2 + y.2 := by rw [F12.add_def]
theorem F12.m1 (x y : F12) : (x * y).1 = x.1 * y.1 + vv * (x.2 * y.2) := by rw [F12.mul_def]
theorem F12.m2 (x y : F12) : (x * y).2 = x.1 * y.2 + x.2 * y.1 := by rw [F12.mul_def]
theorem nm6_sq (t : F6) : nm6 (t * t) = nm6 t * nm6 t := cnm_sq xi t
theorem nm6_vv : nm6 vv = xi := cnm_v xi
theorem vv_sq {t : F6} (h : t * t = vv) : False := by
  have e := congrArg nm6 h
  rw [nm6_sq, nm6_vv] at e
  exact xi_sq e
theorem q_nr {F : Type} [Rg F] (a b j v : F) : (a * j) * (a * j) - v = (j * j) * (a * a - v * (b * b)) + v * ((b * j) * (b * j) - 1) :=
  rid [a, b, j, v] ((fun (a b j v : PE) => ((a * j) * (a * j) - v)) (.v 0) (.v 1) (.v 2) (.v 3)) ((fun (a b j v : PE) => ((j * j) * (a * a - v * (b * b)) + v * ((b * j) * (b * j) - 1))) (.v 0) (.v 1) (.v 2) (.v 3)) (by kernel_rfl)
theorem q_i1 {F : Type} [Rg F] (a b n v : F) : a * (a * n) + v * (b * -(b * n)) = (a * a - v * (b * b)) * n :=
  rid [a, b, n, v] ((fun (a b n v : PE) => (a * (a * n) + v * (b * -(b * n)))) (.v 0) (.v 1) (.v 2) (.v 3)) ((fun (a b n v : PE) => ((a * a - v * (b * b)) * n)) (.v 0) (.v 1) (.v 2) (.v 3)) (by kernel_rfl)
theorem q_i2 {F : Type} [Rg F] (a b n : F) : a * -(b * n) + b * (a * n) = 0 :=
  rid [a, b, n] ((fun (a b n : PE) => (a * -(b * n) + b * (a * n))) (.v 0) (.v 1) (.v 2)) ((fun (a b n : PE) => (0)) (.v 0) (.v 1) (.v 2)) (by kernel_rfl)
section
variable {R : Type} [Fd R] (v : R)
theorem qnm_ne (hv : ∀ t : R, t * t = v → False) {x : R × R} (h : x ≠ (0, 0)) : x.1 * x.1 - v * (x.2 * x.2) ≠ 0 := by
  intro e
  by_cases hb : x.2 = 0
  · rw [hb, mul_zero, mul_zero, Rg.sub_def, neg_zero, add_zero] at e
    have ha : x.1 = 0 := by rcases mul_eq_zero e with e | e <;> exact e
    exact h (Prod.ext ha hb)
  · have hi := mul_inv x.2 hb
    refine hv (x.1 * inv x.2) (eq_of_sub ?_)
    have k := q_nr x.1 x.2 (inv x.2) v
    rw [e, hi, one_mul, sub_self, mul_zero, mul_zero, zero_add] at k
    exact k
noncomputable def qinv (x : R × R) : R × R := opq (x.1 * inv (x.1 * x.1 - v * (x.2 * x.2)), -(x.2 * inv (x.1 * x.1 - v * (x.2 * x.2))))
theorem qinv_def (x : R × R) : qinv v x = (x.1 * inv (x.1 * x.1 - v * (x.2 * x.2)), -(x.2 * inv (x.1 * x.1 - v * (x.2 * x.2)))) := opq_eq _
theorem qinv_mul (hv : ∀ t : R, t * t = v → False) {x : R × R} (h : x ≠ (0, 0)) : qmul v x (qinv v x) = (1, 0) := by
  have hn := mul_inv _ (qnm_ne v hv h)
  rw [qmul_def, qinv_def]
  exact Prod.ext ((q_i1 _ _ _ _).trans hn) (q_i2 _ _ _)
end
noncomputable abbrev inv12 (t : F12) : F12 := qinv vv t
noncomputable instance fdF12 : Fd F12 where
  deq := inferInstanceAs (DecidableEq (F6 × F6))
  inv := inv12
  mul_inv _ h := qinv_mul vv (fun _ e => vv_sq e) h
  one_ne := fun h => absurd (congrArg Prod.fst h) one_ne
  two_ne := fun h => absurd (congrArg Prod.fst h) (by rw [F12.add_def]; exact two_ne)
  three_ne := fun h => absurd (congrArg Prod.fst h) (by rw [F12.add_def, F12.add_def]; exact three_ne)
end Cr
/- What tower's functions compute, plainly. No program here. -/
namespace Cr
open Rg Fd
theorem t6_1 {F : Type} [Rg F] (a b c d e f x : F) : a * d + x * ((b + c) * (e + f) - b * e - c * f) = a * d + x * (b * f + c * e) :=
  rid [a, b, c, d, e, f, x] ((fun (a b c d e f x : PE) => (a * d + x * ((b + c) * (e + f) - b * e - c * f))) (.v 0) (.v 1) (.v 2) (.v 3) (.v 4) (.v 5) (.v 6)) ((fun (a b c d e f x : PE) => (a * d + x * (b * f + c * e))) (.v 0) (.v 1) (.v 2) (.v 3) (.v 4) (.v 5) (.v 6)) (by kernel_rfl)
theorem t6_2 {F : Type} [Rg F] (a b c d e f x : F) : ((a + b) * (d + e) - a * d - b * e) + x * (c * f) = a * e + b * d + x * (c * f) :=
  rid [a, b, c, d, e, f, x] ((fun (a b c d e f x : PE) => (((a + b) * (d + e) - a * d - b * e) + x * (c * f))) (.v 0) (.v 1) (.v 2) (.v 3) (.v 4) (.v 5) (.v 6)) ((fun (a b c d e f x : PE) => (a * e + b * d + x * (c * f))) (.v 0) (.v 1) (.v 2) (.v 3) (.v 4) (.v 5) (.v 6)) (by kernel_rfl)
theorem t6_3 {F : Type} [Rg F] (a b c d e f : F) : ((a + c) * (d + f) - a * d - c * f) + b * e = a * f + b * e + c * d :=
  rid [a, b, c, d, e, f] ((fun (a b c d e f : PE) => (((a + c) * (d + f) - a * d - c * f) + b * e)) (.v 0) (.v 1) (.v 2) (.v 3) (.v 4) (.v 5)) ((fun (a b c d e f : PE) => (a * f + b * e + c * d)) (.v 0) (.v 1) (.v 2) (.v 3) (.v 4) (.v 5)) (by kernel_rfl)
theorem tw_mul (x y : F6) : ((x.1 * y.1 + xi * ((x.2.1 + x.2.2) * (y.2.1 + y.2.2) - x.2.1 * y.2.1 - x.2.2 * y.2.2), ((x.1 + x.2.1) * (y.1 + y.2.1) - x.1 * y.1 - x.2.1 * y.2.1) + xi * (x.2.2 * y.2.2), ((x.1 + x.2.2) * (y.1 + y.2.2) - x.1 * y.1 - x.2.2 * y.2.2) + x.2.1 * y.2.1) : F6) = x * y := by
  rw [F6.mul_def, t6_1, t6_2, t6_3]
theorem t6_p1 {F : Type} [Rg F] (a b c d e x : F) : a * d + x * (c * e) = a * d + x * (b * 0 + c * e) :=
  rid [a, b, c, d, e, x] ((fun (a b c d e x : PE) => (a * d + x * (c * e))) (.v 0) (.v 1) (.v 2) (.v 3) (.v 4) (.v 5)) ((fun (a b c d e x : PE) => (a * d + x * (b * 0 + c * e))) (.v 0) (.v 1) (.v 2) (.v 3) (.v 4) (.v 5)) (by kernel_rfl)
theorem t6_p2 {F : Type} [Rg F] (a b c d e x : F) : (a + b) * (d + e) - a * d - b * e = a * e + b * d + x * (c * 0) :=
  rid [a, b, c, d, e, x] ((fun (a b c d e x : PE) => ((a + b) * (d + e) - a * d - b * e)) (.v 0) (.v 1) (.v 2) (.v 3) (.v 4) (.v 5)) ((fun (a b c d e x : PE) => (a * e + b * d + x * (c * 0))) (.v 0) (.v 1) (.v 2) (.v 3) (.v 4) (.v 5)) (by kernel_rfl)
theorem t6_p3 {F : Type} [Rg F] (a b c d e : F) : b * e + c * d = a * 0 + b * e + c * d :=
  rid [a, b, c, d, e] ((fun (a b c d e : PE) => (b * e + c * d)) (.v 0) (.v 1) (.v 2) (.v 3) (.v 4)) ((fun (a b c d e : PE) => (a * 0 + b * e + c * d)) (.v 0) (.v 1) (.v 2) (.v 3) (.v 4)) (by kernel_rfl)
theorem tw_pair (x : F6) (a b : F2) : ((x.1 * a + xi * (x.2.2 * b), (x.1 + x.2.1) * (a + b) - x.1 * a - x.2.1 * b, x.2.1 * b + x.2.2 * a) : F6) = x * ((a, b, 0) : F6) := by
  rw [F6.mul_def, t6_p1 x.1 x.2.1 x.2.2 a b xi, t6_p2 x.1 x.2.1 x.2.2 a b xi, t6_p3 x.1 x.2.1 x.2.2 a b]
theorem t6_s1 {F : Type} [Rg F] (a b c k x : F) : a * k = a * k + x * (b * 0 + c * 0) :=
  rid [a, b, c, k, x] ((fun (a b c k x : PE) => (a * k)) (.v 0) (.v 1) (.v 2) (.v 3) (.v 4)) ((fun (a b c k x : PE) => (a * k + x * (b * 0 + c * 0))) (.v 0) (.v 1) (.v 2) (.v 3) (.v 4)) (by kernel_rfl)
theorem t6_s2 {F : Type} [Rg F] (a b c k x : F) : b * k = a * 0 + b * k + x * (c * 0) :=
  rid [a, b, c, k, x] ((fun (a b c k x : PE) => (b * k)) (.v 0) (.v 1) (.v 2) (.v 3) (.v 4)) ((fun (a b c k x : PE) => (a * 0 + b * k + x * (c * 0))) (.v 0) (.v 1) (.v 2) (.v 3) (.v 4)) (by kernel_rfl)
theorem t6_s3 {F : Type} [Rg F] (a b c k : F) : c * k = a * 0 + b * 0 + c * k :=
  rid [a, b, c, k] ((fun (a b c k : PE) => (c * k)) (.v 0) (.v 1) (.v 2) (.v 3)) ((fun (a b c k : PE) => (a * 0 + b * 0 + c * k)) (.v 0) (.v 1) (.v 2) (.v 3)) (by kernel_rfl)
theorem tw_scale (x : F6) (k : F2) : ((x.1 * k, x.2.1 * k, x.2.2 * k) : F6) = x * ((k, 0, 0) : F6) := by
  rw [F6.mul_def, ← t6_s1, ← t6_s2, ← t6_s3]
theorem tw_inv (x : F6) : ((x.1 * x.1 - xi * (x.2.1 * x.2.2), xi * (x.2.2 * x.2.2) - x.1 * x.2.1, x.2.1 * x.2.1 - x.1 * x.2.2) : F6) * ((inv (x.1 * (x.1 * x.1 - xi * (x.2.1 * x.2.2)) + xi * (x.2.2 * (xi * (x.2.2 * x.2.2) - x.1 * x.2.1) + x.2.1 * (x.2.1 * x.2.1 - x.1 * x.2.2))), 0, 0) : F6) = inv x := by
  rw [← tw_scale]
  show _ = cinv xi x
  rw [cinv_def]; rfl
theorem t12_1 {F : Type} [Rg F] (a b c d v : F) : (a + b) * (c + d) - a * c - b * d = a * d + b * c :=
  rid [a, b, c, d, v] ((fun (a b c d v : PE) => ((a + b) * (c + d) - a * c - b * d)) (.v 0) (.v 1) (.v 2) (.v 3) (.v 4)) ((fun (a b c d v : PE) => (a * d + b * c)) (.v 0) (.v 1) (.v 2) (.v 3) (.v 4)) (by kernel_rfl)
theorem tw_emul (x y : F12) : ((x.1 * y.1 + vv * (x.2 * y.2), (x.1 + x.2) * (y.1 + y.2) - x.1 * y.1 - x.2 * y.2) : F12) = x * y := by
  rw [F12.mul_def, t12_1 x.1 x.2 y.1 y.2 vv]
theorem t12_2 {F : Type} [Rg F] (a b v : F) : (a + b) * (a + v * b) - a * b - v * (a * b) = a * a + v * (b * b) :=
  rid [a, b, v] ((fun (a b v : PE) => ((a + b) * (a + v * b) - a * b - v * (a * b))) (.v 0) (.v 1) (.v 2)) ((fun (a b v : PE) => (a * a + v * (b * b))) (.v 0) (.v 1) (.v 2)) (by kernel_rfl)
theorem t12_3 {F : Type} [Rg F] (a b : F) : a * b + a * b = a * b + b * a :=
  rid [a, b] ((fun (a b : PE) => (a * b + a * b)) (.v 0) (.v 1)) ((fun (a b : PE) => (a * b + b * a)) (.v 0) (.v 1)) (by kernel_rfl)
theorem tw_esq (x : F12) : (((x.1 + x.2) * (x.1 + vv * x.2) - x.1 * x.2 - vv * (x.1 * x.2), x.1 * x.2 + x.1 * x.2) : F12) = x * x := by
  rw [F12.mul_def, t12_2 x.1 x.2 vv, t12_3 x.1 x.2]
noncomputable def conj12 (x : F12) : F12 := (x.1, -x.2)
theorem zero_sub' {R : Type} [Rg R] (b : R) : 0 - b = -b := by rw [Rg.sub_def, zero_add]
theorem tw_conj (x : F12) : ((x.1, (0 : F6) - x.2) : F12) = conj12 x := by rw [zero_sub']; rfl
theorem tw_einv (x : F12) : ((x.1 * inv (x.1 * x.1 - vv * (x.2 * x.2)), (0 : F6) - x.2 * inv (x.1 * x.1 - vv * (x.2 * x.2))) : F12) = inv x := by
  rw [zero_sub']
  show _ = qinv vv x
  rw [qinv_def]
/-- A line's number: a + b v + c v w. -/
def line12 (a b c : F2) : F12 := (((a, b, 0) : F6), ((0, c, 0) : F6))
theorem l12_1 (c : F2) : vv * ((c, 0, 0) : F6) = ((0, c, 0) : F6) := by
  rw [vv_mul]
  show ((xi * 0, c, 0) : F6) = _
  rw [mul_zero]
theorem l12_2 (a b c : F2) : ((a, b + c, 0) : F6) = ((a, b, 0) : F6) + ((0, c, 0) : F6) := by
  rw [F6.add_def]
  show _ = ((a + 0, b + c, 0 + 0) : F6)
  rw [add_zero, add_zero]
theorem t12_l {F : Type} [Rg F] (b c v : F) : v * (b * c) = b * (v * c) :=
  rid [b, c, v] ((fun (b c v : PE) => (v * (b * c))) (.v 0) (.v 1) (.v 2)) ((fun (b c v : PE) => (b * (v * c))) (.v 0) (.v 1) (.v 2)) (by kernel_rfl)
theorem t12_m {F : Type} [Rg F] (a b l m : F) : (a + b) * (l + m) - a * l - b * m = a * m + b * l :=
  rid [a, b, l, m] ((fun (a b l m : PE) => ((a + b) * (l + m) - a * l - b * m)) (.v 0) (.v 1) (.v 2) (.v 3)) ((fun (a b l m : PE) => (a * m + b * l)) (.v 0) (.v 1) (.v 2) (.v 3)) (by kernel_rfl)
theorem tw_line (x : F12) (a b c : F2) : ((x.1 * ((a, b, 0) : F6) + vv * (vv * (x.2 * ((c, 0, 0) : F6))), (x.1 + x.2) * ((a, b + c, 0) : F6) - x.1 * ((a, b, 0) : F6) - vv * (x.2 * ((c, 0, 0) : F6))) : F12) = x * line12 a b c := by
  rw [F12.mul_def, t12_l x.2, l12_1, l12_2, t12_m]
  rfl
end Cr
namespace Go.Proofs.YtbfimfdhmggieaaGreat.tower
set_option maxRecDepth 100000
open Go Go.Eng Go.RowKit Cr Go.Proofs.YtbfimfdhmggieaaGreat Go.Proofs.YtbfimfdhmggieaaGreat.fp2
abbrev f6k : Kd := .pair f2 (.pair f2 f2)
abbrev f12k : Kd := .pair f6k f6k
theorem ent_turn : enters Tryz.prog 100 Tryz.f100 := enters_mk (by kernel_rfl) (by kernel_rfl) (by kernel_rfl)
noncomputable abbrev outTurn : HL [f2] → HO [.val f2] := fun (x, _) => (xi * (x : F2), ())
theorem fn_turn : FnOk Tryz.prog 100 [f2] [.val f2] noG (fun _ => True) outTurn := by
  refine fn_of_vc (sp := sps [fp.spSub, fp.spAdd]) (sps_cons (fnSpec_ok fp.fn_sub) (sps_cons (fnSpec_ok fp.fn_add) sps_nil)) mixed ent_turn (by decide) (by decide) ?_
  rintro w M0 ⟨x, ⟨⟩⟩
  revert x
  intro (x : F2) _ _
  refine vcx (X := (True ∧ True ∧ ((x.fst - x.snd, x.fst + x.snd), ()) = outTurn (x, ()))) (by kernel_rfl) ?_
  repeat refine ⟨trivial, ?_⟩
  show _ = (xi * x, ())
  rw [xi_mul]
noncomputable def spTurn : Nat × Eng.Spec := (100, fnSpec [f2] [.val f2] (fun _ => True) outTurn)
theorem ent_cadd : enters Tryz.prog 84 Tryz.f84 := enters_mk (by kernel_rfl) (by kernel_rfl) (by kernel_rfl)
noncomputable abbrev outCadd : HL [f6k, f6k] → HO [.val f6k] := fun (x, y, _) => ((x : F6) + (y : F6), ())
theorem fn_cadd : FnOk Tryz.prog 84 [f6k, f6k] [.val f6k] noG (fun _ => True) outCadd := by
  refine fn_of_vc (sp := sps [fp2.spAdd]) (sps_cons (fnSpec_ok fp2.fn_add) sps_nil) mixed ent_cadd (by decide) (by decide) ?_
  rintro w M0 ⟨x, y, ⟨⟩⟩
  revert x y
  intro (x : F6) (y : F6) _ _
  refine vcx (X := (True ∧ True ∧ True ∧ ((x.fst + y.fst, x.snd.fst + y.snd.fst, x.snd.snd + y.snd.snd), ()) = outCadd (x, y, ()))) (by kernel_rfl) ?_
  repeat refine ⟨trivial, ?_⟩
  show _ = (x + y, ())
  rw [F6.add_def]
noncomputable def spCadd : Nat × Eng.Spec := (84, fnSpec [f6k, f6k] [.val f6k] (fun _ => True) outCadd)
theorem ent_csub : enters Tryz.prog 82 Tryz.f82 := enters_mk (by kernel_rfl) (by kernel_rfl) (by kernel_rfl)
noncomputable abbrev outCsub : HL [f6k, f6k] → HO [.val f6k] := fun (x, y, _) => ((x : F6) - (y : F6), ())
theorem fn_csub : FnOk Tryz.prog 82 [f6k, f6k] [.val f6k] noG (fun _ => True) outCsub := by
  refine fn_of_vc (sp := sps [fp2.spSub]) (sps_cons (fnSpec_ok fp2.fn_sub) sps_nil) mixed ent_csub (by decide) (by decide) ?_
  rintro w M0 ⟨x, y, ⟨⟩⟩
  revert x y
  intro (x : F6) (y : F6) _ _
  refine vcx (X := (True ∧ True ∧ True ∧ ((x.fst - y.fst, x.snd.fst - y.snd.fst, x.snd.snd - y.snd.snd), ()) = outCsub (x, y, ()))) (by kernel_rfl) ?_
  repeat refine ⟨trivial, ?_⟩
  show _ = (x - y, ())
  rw [F6.sub_def]
noncomputable def spCsub : Nat × Eng.Spec := (82, fnSpec [f6k, f6k] [.val f6k] (fun _ => True) outCsub)
theorem ent_shift : enters Tryz.prog 85 Tryz.f85 := enters_mk (by kernel_rfl) (by kernel_rfl) (by kernel_rfl)
noncomputable abbrev outShift : HL [f6k] → HO [.val f6k] := fun (x, _) => (vv * (x : F6), ())
theorem fn_shift : FnOk Tryz.prog 85 [f6k] [.val f6k] noG (fun _ => True) outShift := by
  refine fn_of_vc (sp := sps [spTurn]) (sps_cons (fnSpec_ok fn_turn) sps_nil) mixed ent_shift (by decide) (by decide) ?_
  rintro w M0 ⟨x, ⟨⟩⟩
  revert x
  intro (x : F6) _ _
  refine vcx (X := (True ∧ ((xi * x.snd.snd, x.fst, x.snd.fst), ()) = outShift (x, ()))) (by kernel_rfl) ?_
  repeat refine ⟨trivial, ?_⟩
  show _ = (vv * x, ())
  rw [vv_mul]
noncomputable def spShift : Nat × Eng.Spec := (85, fnSpec [f6k] [.val f6k] (fun _ => True) outShift)
theorem ent_cmul : enters Tryz.prog 83 Tryz.f83 := enters_mk (by kernel_rfl) (by kernel_rfl) (by kernel_rfl)
noncomputable abbrev outCmul : HL [f6k, f6k] → HO [.val f6k] := fun (x, y, _) => ((x : F6) * (y : F6), ())
theorem fn_cmul : FnOk Tryz.prog 83 [f6k, f6k] [.val f6k] noG (fun _ => True) outCmul := by
  refine fn_of_vc (sp := sps [fp2.spMul, fp2.spAdd, fp2.spSub, spTurn]) (sps_cons (fnSpec_ok fp2.fn_mul) (sps_cons (fnSpec_ok fp2.fn_add) (sps_cons (fnSpec_ok fp2.fn_sub) (sps_cons (fnSpec_ok fn_turn) sps_nil)))) mixed ent_cmul (by decide) (by decide) ?_
  rintro w M0 ⟨x, y, ⟨⟩⟩
  revert x y
  intro (x : F6) (y : F6) _ _
  refine vcx (X := (True ∧ True ∧ True ∧ True ∧ True ∧ True ∧ True ∧ True ∧ True ∧ True ∧ True ∧ True ∧ True ∧ True ∧ True ∧ True ∧ True ∧ True ∧ True ∧ True ∧ True ∧ True ∧ True ∧ ((x.fst * y.fst + xi * ((x.snd.fst + x.snd.snd) * (y.snd.fst + y.snd.snd) - x.snd.fst * y.snd.fst - x.snd.snd * y.snd.snd), (x.fst + x.snd.fst) * (y.fst + y.snd.fst) - x.fst * y.fst - x.snd.fst * y.snd.fst + xi * (x.snd.snd * y.snd.snd), (x.fst + x.snd.snd) * (y.fst + y.snd.snd) - x.fst * y.fst - x.snd.snd * y.snd.snd + x.snd.fst * y.snd.fst), ()) = outCmul (x, y, ()))) (by kernel_rfl) ?_
  repeat refine ⟨trivial, ?_⟩
  exact congrArg (fun t : F6 => (t, ())) (tw_mul x y)
noncomputable def spCmul : Nat × Eng.Spec := (83, fnSpec [f6k, f6k] [.val f6k] (fun _ => True) outCmul)
theorem ent_pair : enters Tryz.prog 92 Tryz.f92 := enters_mk (by kernel_rfl) (by kernel_rfl) (by kernel_rfl)
noncomputable abbrev outPair : HL [f6k, f2, f2] → HO [.val f6k] := fun (x, a, b, _) => ((x : F6) * ((a, b, (0 : F2)) : F6), ())
theorem fn_pair : FnOk Tryz.prog 92 [f6k, f2, f2] [.val f6k] noG (fun _ => True) outPair := by
  refine fn_of_vc (sp := sps [fp2.spMul, fp2.spAdd, fp2.spSub, spTurn]) (sps_cons (fnSpec_ok fp2.fn_mul) (sps_cons (fnSpec_ok fp2.fn_add) (sps_cons (fnSpec_ok fp2.fn_sub) (sps_cons (fnSpec_ok fn_turn) sps_nil)))) mixed ent_pair (by decide) (by decide) ?_
  rintro w M0 ⟨x, a, b, ⟨⟩⟩
  revert x a b
  intro (x : F6) (a : F2) (b : F2) _ _
  refine vcx (X := (True ∧ True ∧ True ∧ True ∧ True ∧ True ∧ True ∧ True ∧ True ∧ True ∧ True ∧ True ∧ ((x.fst * a + xi * (x.snd.snd * b), (x.fst + x.snd.fst) * (a + b) - x.fst * a - x.snd.fst * b, x.snd.fst * b + x.snd.snd * a), ()) = outPair (x, a, b, ()))) (by kernel_rfl) ?_
  repeat refine ⟨trivial, ?_⟩
  exact congrArg (fun t : F6 => (t, ())) (tw_pair x a b)
noncomputable def spPair : Nat × Eng.Spec := (92, fnSpec [f6k, f2, f2] [.val f6k] (fun _ => True) outPair)
theorem ent_scale : enters Tryz.prog 93 Tryz.f93 := enters_mk (by kernel_rfl) (by kernel_rfl) (by kernel_rfl)
noncomputable abbrev outScale : HL [f6k, f2] → HO [.val f6k] := fun (x, k, _) => ((x : F6) * ((k, (0 : F2), (0 : F2)) : F6), ())
theorem fn_scale : FnOk Tryz.prog 93 [f6k, f2] [.val f6k] noG (fun _ => True) outScale := by
  refine fn_of_vc (sp := sps [fp2.spMul]) (sps_cons (fnSpec_ok fp2.fn_mul) sps_nil) mixed ent_scale (by decide) (by decide) ?_
  rintro w M0 ⟨x, k, ⟨⟩⟩
  revert x k
  intro (x : F6) (k : F2) _ _
  refine vcx (X := (True ∧ True ∧ True ∧ ((x.fst * k, x.snd.fst * k, x.snd.snd * k), ()) = outScale (x, k, ()))) (by kernel_rfl) ?_
  repeat refine ⟨trivial, ?_⟩
  exact congrArg (fun t : F6 => (t, ())) (tw_scale x k)
noncomputable def spScale : Nat × Eng.Spec := (93, fnSpec [f6k, f2] [.val f6k] (fun _ => True) outScale)
theorem ent_cinv : enters Tryz.prog 86 Tryz.f86 := enters_mk (by kernel_rfl) (by kernel_rfl) (by kernel_rfl)
noncomputable abbrev outCinv : HL [f6k] → HO [.val f6k] := fun (x, _) => (Fd.inv (x : F6), ())
theorem fn_cinv : FnOk Tryz.prog 86 [f6k] [.val f6k] noG (fun _ => True) outCinv := by
  refine fn_of_vc (sp := sps [fp2.spSquare, fp2.spMul, fp2.spSub, fp2.spAdd, spTurn, fp2.spInv, spScale]) (sps_cons (fnSpec_ok fp2.fn_square) (sps_cons (fnSpec_ok fp2.fn_mul) (sps_cons (fnSpec_ok fp2.fn_sub) (sps_cons (fnSpec_ok fp2.fn_add) (sps_cons (fnSpec_ok fn_turn) (sps_cons (fnSpec_ok fp2.fn_inv) (sps_cons (fnSpec_ok fn_scale) sps_nil))))))) mixed ent_cinv (by decide) (by decide) ?_
  rintro w M0 ⟨x, ⟨⟩⟩
  revert x
  intro (x : F6) _ _
  refine vcx (X := (True ∧ True ∧ True ∧ True ∧ True ∧ True ∧ True ∧ True ∧ True ∧ True ∧ True ∧ True ∧ True ∧ True ∧ True ∧ True ∧ True ∧ True ∧ True ∧ ((x.fst * x.fst - xi * (x.snd.fst * x.snd.snd), xi * (x.snd.snd * x.snd.snd) - x.fst * x.snd.fst, x.snd.fst * x.snd.fst - x.fst * x.snd.snd) * (inv2 (x.fst * (x.fst * x.fst - xi * (x.snd.fst * x.snd.snd)) + xi * (x.snd.snd * (xi * (x.snd.snd * x.snd.snd) - x.fst * x.snd.fst) + x.snd.fst * (x.snd.fst * x.snd.fst - x.fst * x.snd.snd))), (0 : F2), (0 : F2)), ()) = outCinv (x, ()))) (by kernel_rfl) ?_
  repeat refine ⟨trivial, ?_⟩
  exact congrArg (fun t : F6 => (t, ())) (tw_inv x)
noncomputable def spCinv : Nat × Eng.Spec := (86, fnSpec [f6k] [.val f6k] (fun _ => True) outCinv)
theorem ent_one : enters Tryz.prog 16 Tryz.f16 := enters_mk (by kernel_rfl) (by kernel_rfl) (by kernel_rfl)
noncomputable abbrev outOne : HL [] → HO [.val f12k] := fun _ => ((1 : F12), ())
theorem fn_one : FnOk Tryz.prog 16 [] [.val f12k] noG (fun _ => True) outOne := by
  refine fn_of_vc (sp := sps [fp2.spSmall]) (sps_cons (fnSpec_ok fp2.fn_small) sps_nil) mixed ent_one (by decide) (by decide) ?_
  rintro w M0 ⟨⟩ _ _
  refine vcx (X := ((U64 (1 : Int) ∧ U64 (0 : Int)) ∧ ((((zmp (1 : Int), zmp (0 : Int)), ((0 : Fp), (0 : Fp)), (0 : Fp), (0 : Fp)), ((0 : Fp), (0 : Fp)), ((0 : Fp), (0 : Fp)), (0 : Fp), (0 : Fp)), ()) = outOne ())) (by kernel_rfl) ?_
  have h1 : zmp 1 = (1 : Fp) := Zm.ext (by decide)
  have h0 : zmp 0 = (0 : Fp) := Zm.ext (by decide)
  rw [h1, h0]
  exact ⟨⟨⟨by decide, by decide⟩, ⟨by decide, by decide⟩⟩, rfl⟩
noncomputable def spOne : Nat × Eng.Spec := (16, fnSpec [] [.val f12k] (fun _ => True) outOne)
theorem ent_mul : enters Tryz.prog 50 Tryz.f50 := enters_mk (by kernel_rfl) (by kernel_rfl) (by kernel_rfl)
noncomputable abbrev outMul : HL [f12k, f12k] → HO [.val f12k] := fun (x, y, _) => ((x : F12) * (y : F12), ())
theorem fn_mul : FnOk Tryz.prog 50 [f12k, f12k] [.val f12k] noG (fun _ => True) outMul := by
  refine fn_of_vc (sp := sps [spCmul, spCadd, spCsub, spShift]) (sps_cons (fnSpec_ok fn_cmul) (sps_cons (fnSpec_ok fn_cadd) (sps_cons (fnSpec_ok fn_csub) (sps_cons (fnSpec_ok fn_shift) sps_nil)))) mixed ent_mul (by decide) (by decide) ?_
  rintro w M0 ⟨x, y, ⟨⟩⟩
  revert x y
  intro (x : F12) (y : F12) _ _
  refine vcx (X := (True ∧ True ∧ True ∧ True ∧ True ∧ True ∧ True ∧ True ∧ True ∧ ((x.fst * y.fst + vv * (x.snd * y.snd), (x.fst + x.snd) * (y.fst + y.snd) - x.fst * y.fst - x.snd * y.snd), ()) = outMul (x, y, ()))) (by kernel_rfl) ?_
  repeat refine ⟨trivial, ?_⟩
  exact congrArg (fun t : F12 => (t, ())) (tw_emul x y)
noncomputable def spMul : Nat × Eng.Spec := (50, fnSpec [f12k, f12k] [.val f12k] (fun _ => True) outMul)
theorem ent_square : enters Tryz.prog 55 Tryz.f55 := enters_mk (by kernel_rfl) (by kernel_rfl) (by kernel_rfl)
noncomputable abbrev outSquare : HL [f12k] → HO [.val f12k] := fun (x, _) => ((x : F12) * (x : F12), ())
theorem fn_square : FnOk Tryz.prog 55 [f12k] [.val f12k] noG (fun _ => True) outSquare := by
  refine fn_of_vc (sp := sps [spCmul, spCadd, spCsub, spShift]) (sps_cons (fnSpec_ok fn_cmul) (sps_cons (fnSpec_ok fn_cadd) (sps_cons (fnSpec_ok fn_csub) (sps_cons (fnSpec_ok fn_shift) sps_nil)))) mixed ent_square (by decide) (by decide) ?_
  rintro w M0 ⟨x, ⟨⟩⟩
  revert x
  intro (x : F12) _ _
  refine vcx (X := (True ∧ True ∧ True ∧ True ∧ True ∧ True ∧ True ∧ True ∧ True ∧ (((x.fst + x.snd) * (x.fst + vv * x.snd) - x.fst * x.snd - vv * (x.fst * x.snd), x.fst * x.snd + x.fst * x.snd), ()) = outSquare (x, ()))) (by kernel_rfl) ?_
  repeat refine ⟨trivial, ?_⟩
  exact congrArg (fun t : F12 => (t, ())) (tw_esq x)
noncomputable def spSquare : Nat × Eng.Spec := (55, fnSpec [f12k] [.val f12k] (fun _ => True) outSquare)
theorem ent_conj : enters Tryz.prog 49 Tryz.f49 := enters_mk (by kernel_rfl) (by kernel_rfl) (by kernel_rfl)
noncomputable abbrev outConj : HL [f12k] → HO [.val f12k] := fun (x, _) => (conj12 x, ())
theorem fn_conj : FnOk Tryz.prog 49 [f12k] [.val f12k] noG (fun _ => True) outConj := by
  refine fn_of_vc (sp := sps [spCsub]) (sps_cons (fnSpec_ok fn_csub) sps_nil) mixed ent_conj (by decide) (by decide) ?_
  rintro w M0 ⟨x, ⟨⟩⟩
  revert x
  intro (x : F12) _ _
  refine vcx (X := (True ∧ ((x.fst, (((0 : Fp), (0 : Fp)), ((0 : Fp), (0 : Fp)), (0 : Fp), (0 : Fp)) - x.snd), ()) = outConj (x, ()))) (by kernel_rfl) ?_
  repeat refine ⟨trivial, ?_⟩
  exact congrArg (fun t : F12 => (t, ())) (tw_conj x)
theorem ent_inv : enters Tryz.prog 51 Tryz.f51 := enters_mk (by kernel_rfl) (by kernel_rfl) (by kernel_rfl)
noncomputable abbrev outInv : HL [f12k] → HO [.val f12k] := fun (x, _) => (Fd.inv (x : F12), ())
theorem fn_inv : FnOk Tryz.prog 51 [f12k] [.val f12k] noG (fun _ => True) outInv := by
  refine fn_of_vc (sp := sps [spCmul, spCsub, spShift, spCinv]) (sps_cons (fnSpec_ok fn_cmul) (sps_cons (fnSpec_ok fn_csub) (sps_cons (fnSpec_ok fn_shift) (sps_cons (fnSpec_ok fn_cinv) sps_nil)))) mixed ent_inv (by decide) (by decide) ?_
  rintro w M0 ⟨x, ⟨⟩⟩
  revert x
  intro (x : F12) _ _
  refine vcx (X := (True ∧ True ∧ True ∧ True ∧ True ∧ True ∧ True ∧ True ∧ ((x.fst * Fd.inv (x.fst * x.fst - vv * (x.snd * x.snd)), (((0 : Fp), (0 : Fp)), ((0 : Fp), (0 : Fp)), (0 : Fp), (0 : Fp)) - x.snd * Fd.inv (x.fst * x.fst - vv * (x.snd * x.snd))), ()) = outInv (x, ()))) (by kernel_rfl) ?_
  repeat refine ⟨trivial, ?_⟩
  exact congrArg (fun t : F12 => (t, ())) (tw_einv x)
theorem ent_line : enters Tryz.prog 58 Tryz.f58 := enters_mk (by kernel_rfl) (by kernel_rfl) (by kernel_rfl)
noncomputable abbrev outLine : HL [f12k, f2, f2, f2] → HO [.val f12k] := fun (x, a, b, c, _) => ((x : F12) * line12 a b c, ())
theorem fn_line : FnOk Tryz.prog 58 [f12k, f2, f2, f2] [.val f12k] noG (fun _ => True) outLine := by
  refine fn_of_vc (sp := sps [spPair, spScale, spShift, spCadd, spCsub, fp2.spAdd]) (sps_cons (fnSpec_ok fn_pair) (sps_cons (fnSpec_ok fn_scale) (sps_cons (fnSpec_ok fn_shift) (sps_cons (fnSpec_ok fn_cadd) (sps_cons (fnSpec_ok fn_csub) (sps_cons (fnSpec_ok fp2.fn_add) sps_nil)))))) mixed ent_line (by decide) (by decide) ?_
  rintro w M0 ⟨x, a, b, c, ⟨⟩⟩
  revert x a b c
  intro (x : F12) (a : F2) (b : F2) (c : F2) _ _
  refine vcx (X := (True ∧ True ∧ True ∧ True ∧ True ∧ True ∧ True ∧ True ∧ True ∧ True ∧ ((x.fst * (a, b, (0 : F2)) + vv * (vv * (x.snd * (c, (0 : F2), (0 : F2)))), (x.fst + x.snd) * (a, b + c, (0 : F2)) - x.fst * (a, b, (0 : F2)) - vv * (x.snd * (c, (0 : F2), (0 : F2)))), ()) = outLine (x, a, b, c, ()))) (by kernel_rfl) ?_
  repeat refine ⟨trivial, ?_⟩
  exact congrArg (fun t : F12 => (t, ())) (tw_line x a b c)
noncomputable def spLine : Nat × Eng.Spec := (58, fnSpec [f12k, f2, f2, f2] [.val f12k] (fun _ => True) outLine)
end Go.Proofs.YtbfimfdhmggieaaGreat.tower
