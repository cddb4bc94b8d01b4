/- g1: the group; scalars. -/
import Derived.Test.YtbfimfdhmggieaaML14vPQ
/- g1: the same contracts, for laws: what is computed is not unfolded; what it is on points of the curve. -/
namespace Go.Proofs.Ytbfimfdhmggieaa.g1
set_option maxRecDepth 100000
open Go Go.Eng Go.RowKit Cr Go.Proofs.Ytbfimfdhmggieaa
theorem b4_ne : b4 ≠ 0 := by decide
noncomputable def gG : Fp × Fp := opq (gx, gy)
noncomputable def gadd (p q : Fp × Fp) : Fp × Fp := opq (jpoint (F := Fp) (jsm [p, q] 2))
noncomputable def gneg (p : Fp × Fp) : Fp × Fp := opq (pneg (F := Fp) p)
noncomputable def gtms (p : Fp × Fp) (k : List Int) : Fp × Fp := opq (tms p k)
noncomputable def gmul (p : Fp × Fp) (k : Fr) : Fp × Fp := opq (pml p k)
theorem fo_gen : FnOk Try.prog 33 [] [.val pt1] noG (fun _ => True) (fun _ => (gG, ())) := fn_gen.out fun _ => by show (gG, ()) = ((gx, gy), ()); rw [gG, opq_eq]
theorem fo_add : FnOk Try.prog 50 [pt1, pt1] [.val pt1] noG (fun _ => True) (fun (p, q, _) => (gadd p q, ())) := fn_padd.out fun (p, q, _) => by show (gadd p q, ()) = (_, ()); rw [gadd, opq_eq]
theorem fo_neg : FnOk Try.prog 49 [pt1] [.val pt1] noG (fun _ => True) (fun (p, _) => (gneg p, ())) := fn_pneg.out fun (p, _) => by show (gneg p, ()) = (_, ()); rw [gneg, opq_eq]
theorem fo_times : FnOk Try.prog 47 [pt1, .sl (.int .u8)] [.val pt1] noG preTimes (fun (p, k, _) => (gtms p k, ())) := fn_times.out fun (p, k, _) => by show (gtms p k, ()) = (_, ()); rw [gtms, opq_eq]; rfl
theorem fo_mul : FnOk Try.prog 34 [pt1, .fr] [.val pt1] noG (fun _ => True) (fun (p, k, _) => (gmul p k, ())) := fn_pmul.out fun (p, k, _) => by show (gmul p k, ()) = (_, ()); rw [gmul, opq_eq]
noncomputable def soGen : Nat × Eng.Spec := (33, fnSpec [] [.val pt1] (fun _ => True) (fun _ => (gG, ())))
noncomputable def soAdd : Nat × Eng.Spec := (50, fnSpec [pt1, pt1] [.val pt1] (fun _ => True) (fun (p, q, _) => (gadd p q, ())))
noncomputable def soNeg : Nat × Eng.Spec := (49, fnSpec [pt1] [.val pt1] (fun _ => True) (fun (p, _) => (gneg p, ())))
noncomputable def soTimes : Nat × Eng.Spec := (47, fnSpec [pt1, .sl (.int .u8)] [.val pt1] preTimes (fun (p, k, _) => (gtms p k, ())))
noncomputable def soMul : Nat × Eng.Spec := (34, fnSpec [pt1, .fr] [.val pt1] (fun _ => True) (fun (p, k, _) => (gmul p k, ())))
abbrev Onb (p : Fp × Fp) : Prop := OnP b4 p
theorem gG_eq : gG = (gx, gy) := opq_eq _
theorem gG_on : Onb gG := by rw [gG_eq]; exact (isOn_iff _).1 (by decide +kernel)
theorem gadd_eq {p q : Fp × Fp} (hp : Onb p) (hq : Onb q) : gadd p q = padd p q := by rw [gadd, opq_eq]; exact add_eq b4_ne hp hq
theorem gneg_eq (p : Fp × Fp) : gneg p = pneg p := opq_eq _
theorem gtms_eq {p : Fp × Fp} (hp : Onb p) {k : List Int} (hk : Bs k) : gtms p k = nmul p (num k).toNat := by rw [gtms, opq_eq]; exact times_eq b4_ne hp hk
theorem gmul_eq {p : Fp × Fp} (hp : Onb p) (k : Fr) : gmul p k = nmul p k.v.toNat := by
  rw [gmul, opq_eq, pml, tms, times_eq b4_ne hp (bytesN_Bs _ _), num_bytesN 32 _ k.nn (Int.lt_trans k.lt (by decide))]
end Go.Proofs.Ytbfimfdhmggieaa.g1
/- Bulk points by computation: values forced one by one. No program here. -/
namespace Cr
open Rg Fd

/-- A way to compute in a field. -/
structure Ev (F : Type) [Fd F] where
  V : Type
  φ : V → F
  add : V → V → V
  sub : V → V → V
  mul : V → V → V
  isz : V → Bool
  zero : V
  force : {α : Type} → V → (V → α) → α
  add_φ : ∀ a b, φ (add a b) = φ a + φ b
  sub_φ : ∀ a b, φ (sub a b) = φ a - φ b
  mul_φ : ∀ a b, φ (mul a b) = φ a * φ b
  isz_φ : ∀ a, isz a = true ↔ φ a = 0
  zero_φ : φ zero = 0
  force_eq : ∀ {α : Type} (a : V) (k : V → α), force a k = k a

section
variable {F : Type} [Fd F] (E : Ev F)
abbrev Ev.J := E.V × E.V × E.V
def Ev.φ3 (a : E.J) : Jc F := (E.φ a.1, E.φ a.2.1, E.φ a.2.2)
def Ev.dbl (a : E.J) : E.J := match E.isz a.2.2 with
  | true => (E.zero, E.zero, E.zero)
  | false =>
    E.force (E.mul a.1 a.1) fun xx => E.force (E.mul a.2.1 a.2.1) fun yy => E.force (E.add (E.add xx xx) xx) fun sl =>
    E.force (E.mul a.1 yy) fun m1 => E.force (E.add m1 m1) fun m2 => E.force (E.add m2 m2) fun mid =>
    E.force (E.add yy yy) fun y2 => E.force (E.mul y2 y2) fun fall =>
    E.force (E.sub (E.sub (E.mul sl sl) mid) mid) fun x =>
    E.force (E.sub (E.sub (E.mul sl (E.sub mid x)) fall) fall) fun y =>
    E.force (E.mul a.2.1 a.2.2) fun z1 => E.force (E.add z1 z1) fun z => (x, y, z)
theorem Ev.dbl_φ (a : E.J) : E.φ3 (E.dbl a) = jdbl (E.φ3 a) := by
  unfold Ev.dbl jdbl
  cases h : E.isz a.2.2 with
  | true =>
    have : (E.φ3 a).2.2 = 0 := (E.isz_φ _).1 h
    rw [if_pos this]
    show (E.φ E.zero, E.φ E.zero, E.φ E.zero) = _
    rw [E.zero_φ]
  | false =>
    have : (E.φ3 a).2.2 ≠ 0 := fun e => by have := (E.isz_φ a.2.2).2 e; rw [h] at this; cases this
    rw [if_neg this]
    simp only [E.force_eq]
    simp only [Ev.φ3, jdbN, jdX, E.add_φ, E.sub_φ, E.mul_φ]
def Ev.jadd (a c : E.J) : E.J := match E.isz a.2.2 with
  | true => c
  | false => match E.isz c.2.2 with
    | true => a
    | false =>
      E.force (E.mul a.2.2 a.2.2) fun aa => E.force (E.mul c.2.2 c.2.2) fun bb =>
      E.force (E.mul a.1 bb) fun left => E.force (E.mul c.1 aa) fun right =>
      E.force (E.mul (E.mul a.2.1 bb) c.2.2) fun low => E.force (E.mul (E.mul c.2.1 aa) a.2.2) fun high =>
      E.force (E.sub right left) fun wide => E.force (E.sub high low) fun rise =>
      match E.isz wide with
      | true => match E.isz rise with
        | true => E.dbl a
        | false => (E.zero, E.zero, E.zero)
      | false =>
        E.force (E.mul wide wide) fun sq => E.force (E.mul sq wide) fun cube => E.force (E.mul left sq) fun l2 =>
        E.force (E.sub (E.sub (E.sub (E.mul rise rise) cube) l2) l2) fun x =>
        E.force (E.sub (E.mul rise (E.sub l2 x)) (E.mul low cube)) fun y =>
        E.force (E.mul (E.mul a.2.2 c.2.2) wide) fun z => (x, y, z)
theorem Ev.jadd_φ (a c : E.J) : E.φ3 (E.jadd a c) = Cr.jadd (E.φ3 a) (E.φ3 c) := by
  have nz : ∀ v : E.V, E.isz v = false → E.φ v ≠ 0 := fun v h e => by have := (E.isz_φ v).2 e; rw [h] at this; cases this
  unfold Ev.jadd Cr.jadd
  cases h : E.isz a.2.2 with
  | true => rw [if_pos (show (E.φ3 a).2.2 = 0 from (E.isz_φ _).1 h)]
  | false =>
    rw [if_neg (show (E.φ3 a).2.2 ≠ 0 from nz _ h)]
    cases h2 : E.isz c.2.2 with
    | true => rw [if_pos (show (E.φ3 c).2.2 = 0 from (E.isz_φ _).1 h2)]
    | false =>
      rw [if_neg (show (E.φ3 c).2.2 ≠ 0 from nz _ h2)]
      simp only [E.force_eq]
      have ew : E.φ (E.sub (E.mul c.1 (E.mul a.2.2 a.2.2)) (E.mul a.1 (E.mul c.2.2 c.2.2))) = (E.φ3 c).1 * ((E.φ3 a).2.2 * (E.φ3 a).2.2) - (E.φ3 a).1 * ((E.φ3 c).2.2 * (E.φ3 c).2.2) := by simp only [Ev.φ3, E.sub_φ, E.mul_φ]
      have er : E.φ (E.sub (E.mul (E.mul c.2.1 (E.mul a.2.2 a.2.2)) a.2.2) (E.mul (E.mul a.2.1 (E.mul c.2.2 c.2.2)) c.2.2)) = (E.φ3 c).2.1 * ((E.φ3 a).2.2 * (E.φ3 a).2.2) * (E.φ3 a).2.2 - (E.φ3 a).2.1 * ((E.φ3 c).2.2 * (E.φ3 c).2.2) * (E.φ3 c).2.2 := by simp only [Ev.φ3, E.sub_φ, E.mul_φ]
      cases h3 : E.isz (E.sub (E.mul c.1 (E.mul a.2.2 a.2.2)) (E.mul a.1 (E.mul c.2.2 c.2.2))) with
      | true =>
        have := (E.isz_φ _).1 h3
        rw [ew] at this
        rw [if_pos this]
        cases h4 : E.isz (E.sub (E.mul (E.mul c.2.1 (E.mul a.2.2 a.2.2)) a.2.2) (E.mul (E.mul a.2.1 (E.mul c.2.2 c.2.2)) c.2.2)) with
        | true =>
          have := (E.isz_φ _).1 h4
          rw [er] at this
          rw [if_pos this]
          exact E.dbl_φ a
        | false =>
          have := nz _ h4
          rw [er] at this
          rw [if_neg this]
          show (E.φ E.zero, E.φ E.zero, E.φ E.zero) = _
          rw [E.zero_φ]
      | false =>
        have := nz _ h3
        rw [ew] at this
        rw [if_neg this]
        simp only [Ev.φ3, jfin, jaX, E.sub_φ, E.mul_φ]
/-- So many times, by the digits of the number, from its lowest: 2 n, 2 n + 1. -/
def Ev.mul2 (o : E.J) : Nat → Nat → E.J
  | 0, _ => (E.zero, E.zero, E.zero)
  | f + 1, n => match Nat.beq n 0 with
    | true => (E.zero, E.zero, E.zero)
    | false => match Nat.beq (n % 2) 1 with
      | true => E.jadd (E.dbl (Ev.mul2 o f (n / 2))) o
      | false => E.dbl (Ev.mul2 o f (n / 2))
variable {E} in
theorem Ev.mul2_rep {b : F} (hb : b ≠ 0) {o : E.J} {P : F × F} (ho : Rep b (E.φ3 o) P) : ∀ f n, n < 2 ^ f → Rep b (E.φ3 (E.mul2 o f n)) (nmul P n) := by
  have h0 : Rep b (E.φ3 (E.zero, E.zero, E.zero)) (O2 : F × F) := .inl ⟨E.zero_φ, rfl⟩
  intro f
  induction f with
  | zero => intro n h; have : n = 0 := by simp at h; exact h
            subst this; exact h0
  | succ f ih =>
    intro n h
    unfold Ev.mul2
    split
    · rename_i hn; have := Nat.eq_of_beq_eq_true hn; subst this; exact h0
    · have hr := ih (n / 2) (by rw [Nat.pow_succ] at h; omega)
      have hd := rep_dbl hb hr
      rw [← E.dbl_φ, ← nmul_add hb ho.on] at hd
      split
      · rename_i h1
        have h1 := Nat.eq_of_beq_eq_true h1
        have ha := rep_add hb hd ho
        rw [← E.jadd_φ] at ha
        have e : n = n / 2 + n / 2 + 1 := by omega
        have : nmul P n = padd (nmul P (n / 2 + n / 2)) P := by
          conv => lhs; rw [e]
          rfl
        rw [this]
        exact ha
      · rename_i h1
        have h1 : n % 2 ≠ 1 := fun h2 => by rw [h2] at h1; exact absurd h1 (by decide)
        have e : n = n / 2 + n / 2 := by omega
        have : nmul P n = nmul P (n / 2 + n / 2) := by conv => lhs; rw [e]
        rw [this]
        exact hd
end
end Cr
/- The generator's order, by computation. No program here. -/
namespace Cr
open Rg Fd
def fc {α : Type} (n : Nat) (k : Nat → α) : α := Nat.rec (k 0) (fun m _ => k (m + 1)) n
theorem fc_eq {α : Type} (n : Nat) (k : Nat → α) : fc n k = k n := by cases n <;> rfl
def pN : Nat := 4002409555221667393417789825735904156556882819939007885332058136124031650490837864442687629129015664037894272559787
theorem zm_nat (n : Nat) : (zm ((n % pN : Nat) : Int) : Fp) = zm (n : Int) := zm_eq (by rw [Int.natCast_emod]; exact Int.emod_emod_of_dvd _ (Int.dvd_refl _))
noncomputable def evP1 : Ev Fp where
  V := Nat
  φ n := zm (n : Int)
  add a b := (a + b) % pN
  sub a b := (a + (pN - b % pN)) % pN
  mul a b := (a * b) % pN
  isz a := Nat.beq (a % pN) 0
  zero := 0
  force := fc
  add_φ a b := by rw [zm_nat, zm_add, Int.natCast_add]
  sub_φ a b := by
    rw [zm_nat, zm_sub]
    refine zm_eq ?_
    have h := Nat.mod_lt b (show 0 < pN by decide)
    have e : ((a + (pN - b % pN) : Nat) : Int) = (a : Int) - b + (pN : Int) * (1 + (b : Int) / pN) := by
      have h2 := Int.emod_add_mul_ediv (b : Int) (pN : Int)
      rw [Int.mul_add, Int.mul_one]
      omega
    rw [e]
    exact Int.add_mul_emod_self_left _ _ _
  mul_φ a b := by rw [zm_nat, zm_mul, Int.natCast_mul]
  isz_φ a := by
    constructor
    · intro h
      have h := Nat.eq_of_beq_eq_true h
      rw [← zm_nat, h]; rfl
    · intro h
      have h : (zm (a : Int) : Fp).v = 0 := by rw [h, zero_v]
      have h : (a : Int) % (pN : Int) = 0 := h
      have : a % pN = 0 := by omega
      rw [this]; rfl
  zero_φ := rfl
  force_eq := fc_eq
def gxN : Nat := 0x17f1d3a73197d7942695638c4fa9ac0fc3688c4f9774b905a14e3a3f171bac586c55e83ff97a1aeffb3af00adb22c6bb
def gyN : Nat := 0x08b3f481e3aaa0f1a09e30ed741d8ae4fcf5e095d5d00af600db18cb2c04b3edd03cc744a2888ae40caa232946c5e7e1
theorem ord_z : evP1.isz (evP1.mul2 (gxN, gyN, (1 : Nat)) 256 52435875175126190479447740508185965837690552500527637822603658699938581184513).2.2 = true := by kernel_rfl
end Cr
namespace Go.Proofs.Ytbfimfdhmggieaa.g1
set_option maxRecDepth 100000
open Go Go.Eng Go.RowKit Cr Go.Proofs.Ytbfimfdhmggieaa

theorem gG_ne : gG ≠ O2 := by rw [gG_eq]; decide
def rN : Nat := 52435875175126190479447740508185965837690552500527637822603658699938581184513
theorem gG_ord : nmul gG rN = O2 := by
  have h1 : Rep b4 (evP1.φ3 (gxN, gyN, (1 : Nat))) gG := by
    have h := rep_lift gG_on
    unfold jlift at h
    rw [if_neg gG_ne, gG_eq] at h
    rw [gG_eq]
    exact h
  have h2 := Ev.mul2_rep b4_ne h1 256 rN (by decide)
  have h3 := (evP1.isz_φ _).1 ord_z
  rcases h2 with ⟨_, h⟩ | ⟨h, _⟩
  · exact h
  · exact absurd h3 h
/-- Points that come to nought r times. -/
def Sub (p : Fp × Fp) : Prop := Onb p ∧ nmul p rN = O2
theorem sub_G : Sub gG := ⟨gG_on, gG_ord⟩
theorem sub_nmul {p : Fp × Fp} (h : Sub p) (n : Nat) : Sub (nmul p n) := by
  refine ⟨nmul_on b4_ne h.1 n, ?_⟩
  rw [nmul_mul b4_ne h.1, Nat.mul_comm, ← nmul_mul b4_ne h.1, h.2, nmul_O]
theorem sub_gmul {p : Fp × Fp} (h : Sub p) (k : Fr) : Sub (gmul p k) := by rw [gmul_eq h.1]; exact sub_nmul h _
theorem nmul_mod {p : Fp × Fp} (h : Sub p) (m : Nat) : nmul p m = nmul p (m % rN) := by
  conv => lhs; rw [← Nat.div_add_mod m rN]
  rw [nmul_add b4_ne h.1, ← nmul_mul b4_ne h.1, h.2, nmul_O, O_add]
theorem frv (x : Fr) : ∃ n : Nat, x.v = (n : Int) ∧ n < rN := by
  obtain ⟨n, hn⟩ := Int.eq_ofNat_of_zero_le x.nn
  exact ⟨n, hn, by have := x.lt; have e : Mr = (rN : Int) := rfl; omega⟩
theorem mul_of {p : Fp × Fp} (h : Sub p) {x : Fr} {m : Nat} (hx : x.v = (m : Int) % (rN : Int)) : gmul p x = nmul p m := by
  rw [gmul_eq h.1, hx, nmul_mod h m, ← Int.natCast_emod, Int.toNat_natCast]
theorem mul_add {p : Fp × Fp} (h : Sub p) (x y : Fr) : gmul p (x + y) = padd (gmul p x) (gmul p y) := by
  obtain ⟨m, hm, _⟩ := frv x
  obtain ⟨n, hn, _⟩ := frv y
  rw [mul_of h (x := x + y) (m := m + n) (by rw [add_v, hm, hn, Int.natCast_add]; rfl), gmul_eq h.1, gmul_eq h.1, hm, hn, Int.toNat_natCast, Int.toNat_natCast, nmul_add b4_ne h.1]
theorem mul_mul {p : Fp × Fp} (h : Sub p) (x y : Fr) : gmul p (x * y) = gmul (gmul p x) y := by
  obtain ⟨m, hm, _⟩ := frv x
  obtain ⟨n, hn, _⟩ := frv y
  rw [mul_of h (x := x * y) (m := m * n) (by rw [mul_v, hm, hn, Int.natCast_mul]; rfl), gmul_eq (sub_gmul h x).1, gmul_eq h.1, hm, hn, Int.toNat_natCast, Int.toNat_natCast, nmul_mul b4_ne h.1]
theorem mul_zero {p : Fp × Fp} (h : Sub p) : gmul p 0 = O2 := by
  rw [gmul_eq h.1, zero_v]; rfl
theorem mul_one {p : Fp × Fp} (h : Sub p) : gmul p 1 = p := by
  rw [gmul_eq h.1, one_v]; exact nmul_one
theorem mul_neg {p : Fp × Fp} (h : Sub p) (x : Fr) : gmul p (-x) = pneg (gmul p x) := by
  have e : padd (gmul p x) (gmul p (-x)) = O2 := by rw [← mul_add h, Rg.add_neg, mul_zero h]
  have hx := (sub_gmul h x).1
  have hn := (sub_gmul h (-x)).1
  have := cancel b4_ne hx hn
  rw [e, add_O] at this
  exact this.symm
end Go.Proofs.Ytbfimfdhmggieaa.g1
