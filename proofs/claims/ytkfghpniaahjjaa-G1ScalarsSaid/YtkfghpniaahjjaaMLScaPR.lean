/- G1Scalars, for every input: true; the input reads as it did. No condition. -/
import Derived.Test.YtkfghpniaahjjaaMLScaPQ
/- What rows ask of their arguments. -/
namespace Go.Proofs.Ytkfghpniaahjjaa
open Go Go.Eng Cr
abbrev bsl : Kd := .sl (.int .u8)
/-- Bytes of an input. -/
abbrev preB (b : List Int) : Prop := Bs b ∧ List.length b ≤ 281474976710656
abbrev preBB (bs : List (List Int)) : Prop := (∀ b ∈ bs, preB b) ∧ List.length bs ≤ 281474976710656
abbrev preW (x : Int) : Prop := 0 ≤ x ∧ x < 65536
abbrev preY (x : Int) : Prop := 0 ≤ x ∧ x < 256
abbrev preI (x : Int) : Prop := -9223372036854775808 ≤ x ∧ x < 9223372036854775808
abbrev preL (_ : Bool) : Prop := True
abbrev preIS (xs : List Int) : Prop := (∀ x ∈ xs, preI x) ∧ List.length xs ≤ 281474976710656
end Go.Proofs.Ytkfghpniaahjjaa
/- G1Rules, for every input: true; the input reads as it did. No condition. -/
namespace Go.Proofs.Ytkfghpniaahjjaa.law07
set_option maxRecDepth 100000
open Go Go.Eng Go.RowKit Cr Go.Proofs.Ytkfghpniaahjjaa Go.Proofs.Ytkfghpniaahjjaa.g1

abbrev ok (b : Bool) : Prop := ((b, ()) : Bool × Unit) = (true, ())
theorem ent_rules : enters Try.prog 4 Try.f4 := enters_mk (by kernel_rfl) (by kernel_rfl) (by kernel_rfl)
abbrev pre3 : HL [bsl, bsl, bsl] → Prop := fun (a, b, c, _) => preSca (a, ()) ∧ preSca (b, ()) ∧ preSca (c, ())
def rulesX (p q r : Fp × Fp) : Prop :=
  Trs 4 (Cn (!eq2 (gadd (gadd p q) r) (gadd p (gadd q r))) ((0 + 3 : Nat) ≤ 3 ∧ preSum ([p, q, r], ()) ∧ True ∧ True ∧ Cn (!eq2 (gsum [p, q, r]) (gadd (gadd p q) r)) (True ∧ Cn (!eq2 (gadd p (0, 0)) p) (True ∧ Cn (!eq2 (gadd (0, 0) p) p) (True ∧ True ∧ Cn (!eq2 (gadd p (gneg p)) (0, 0))
    (Trs 2 (Ck (eq2 (gneg (gneg p)) p) (Trs 5 (Ck (eq2 (gneg (gadd p q)) (gadd (gneg p) (gneg q))) (preSum ([], ()) ∧ Ck (eq2 (gsum []) (0, 0)) (True ∧ Ck (eq2 (gneg (0, 0)) (0, 0)) (True ∧ ok (gon (0, 0))))))))))))))
theorem nn {p q : Fp × Fp} (h : p = q) : (!eq2 p q) = false := by rw [eq2_of h]; rfl
theorem rules_ok {p q r : Fp × Fp} (hp : Onb p) (hq : Onb q) (hr : Onb r) : rulesX p q r := by
  have h0 : Onb ((0 : Fp), (0 : Fp)) := .inl rfl
  have hpq := padd_on b4_ne hp hq
  have hqr := padd_on b4_ne hq hr
  have e1 : gadd p q = padd p q := gadd_eq hp hq
  have e2 : gadd q r = padd q r := gadd_eq hq hr
  have e3 : gadd (padd p q) r = padd (padd p q) r := gadd_eq hpq hr
  have e4 : gadd p (padd q r) = padd p (padd q r) := gadd_eq hp hqr
  have e5 : gsum [p, q, r] = padd p (padd q r) := by
    rw [gsum_eq (by intro x hx; simp at hx; rcases hx with rfl | rfl | rfl <;> assumption)]
    show padd p (padd q (padd r O2)) = _
    rw [add_O]
  refine trs (cn (nn ?_) ⟨by decide, show (3 : Nat) < 4611686018427387904 by decide, trivial, trivial, cn (nn ?_) ⟨trivial, cn (nn ?_) ⟨trivial, cn (nn ?_) ⟨trivial, trivial, cn (nn ?_) (trs (ck (eq2_of ?_) (trs (ck (eq2_of ?_) ⟨show (0 : Nat) < 4611686018427387904 by decide, ck (eq2_of ?_) ⟨trivial, ck (eq2_of ?_) ⟨trivial, ?_⟩⟩⟩) _)) _)⟩⟩⟩⟩) _
  · rw [e1, e2, e3, e4, padd_assoc b4_ne hp hq hr]
  · rw [e5, e1, e3, padd_assoc b4_ne hp hq hr]
  · rw [gadd_eq hp h0]; exact add_O p
  · rw [gadd_eq h0 hp]; exact O_add p
  · rw [gneg_eq, gadd_eq hp (pneg_onP hp)]; exact add_neg_self p
  · rw [gneg_eq, gneg_eq, pneg_pneg]
  · rw [e1, gneg_eq, gneg_eq, gneg_eq, gadd_eq (pneg_onP hp) (pneg_onP hq), pneg_add b4_ne hp hq]
  · rw [gsum_eq (by intro x hx; simp at hx)]; rfl
  · rw [gneg_eq]; exact pneg_O
  · show (_, ()) = _
    rw [(gon_iff _).2 h0]
theorem gmul_on {p : Fp × Fp} (hp : Onb p) (k : Fr) : Onb (gmul p k) := by rw [gmul_eq hp]; exact nmul_on b4_ne hp _
theorem fn_rules : FnOk Try.prog 4 [bsl, bsl, bsl] [.val .bool] noG pre3 (fun _ => (true, ())) := by
  refine fn_of_vc (sp := sps [spHead, spLong, soGen, spScalar, soMul, soAdd, soSum, soNeg, soOn]) (sps_cons (fnSpec_ok fn_head) (sps_cons (fnSpec_ok fn_long) (sps_cons (fnSpec_ok fo_gen) (sps_cons (fnSpec_ok fn_scalar) (sps_cons (fnSpec_ok fo_mul) (sps_cons (fnSpec_ok fo_add) (sps_cons (fnSpec_ok fo_sum) (sps_cons (fnSpec_ok fo_neg) (sps_cons (fnSpec_ok fo_on) sps_nil))))))))) mixed ent_rules (by decide) (by decide) ?_
  rintro w M0 ⟨a, b, c, ⟨⟩⟩
  revert a b c
  intro (a : List Int) (b : List Int) (c : List Int) _ hp
  obtain ⟨h1, h2, h3⟩ := hp
  refine vcx (X := (True ∧ ((!true) = true → ok false) ∧ ((!true) = false → True ∧ (lng a b c = true → ok true) ∧ (lng a b c = false → True ∧ preSca (a, ()) ∧ True ∧ True ∧ preSca (b, ()) ∧ True ∧ True ∧ preSca (c, ()) ∧ True ∧ rulesX (gmul gG (sca a)) (gmul gG (sca b)) (gmul gG (sca c)))))) (by kernel_rfl) ?_
  exact ⟨trivial, fun h => absurd h (by decide), fun _ => ⟨trivial, fun _ => rfl, fun _ => ⟨trivial, h1, trivial, trivial, h2, trivial, trivial, h3, trivial, rules_ok (gmul_on gG_on _) (gmul_on gG_on _) (gmul_on gG_on _)⟩⟩⟩
end Go.Proofs.Ytkfghpniaahjjaa.law07
/- Bulk points by computation: values forced one by one. No program here. -/
namespace Cr
open Rg Fd

/-- A way to compute in a field. -/
structure Ev (F : Type) [Fd F] where
  V : Type
  φ : V → F
  add : V → V → V
  sub : V → V → V
  mul : V → V → V
  isz : V → Bool
  zero : V
  force : {α : Type} → V → (V → α) → α
  add_φ : ∀ a b, φ (add a b) = φ a + φ b
  sub_φ : ∀ a b, φ (sub a b) = φ a - φ b
  mul_φ : ∀ a b, φ (mul a b) = φ a * φ b
  isz_φ : ∀ a, isz a = true ↔ φ a = 0
  zero_φ : φ zero = 0
  force_eq : ∀ {α : Type} (a : V) (k : V → α), force a k = k a

section
variable {F : Type} [Fd F] (E : Ev F)
abbrev Ev.J := E.V × E.V × E.V
def Ev.φ3 (a : E.J) : Jc F := (E.φ a.1, E.φ a.2.1, E.φ a.2.2)
def Ev.dbl (a : E.J) : E.J := match E.isz a.2.2 with
  | true => (E.zero, E.zero, E.zero)
  | false =>
    E.force (E.mul a.1 a.1) fun xx => E.force (E.mul a.2.1 a.2.1) fun yy => E.force (E.add (E.add xx xx) xx) fun sl =>
    E.force (E.mul a.1 yy) fun m1 => E.force (E.add m1 m1) fun m2 => E.force (E.add m2 m2) fun mid =>
    E.force (E.add yy yy) fun y2 => E.force (E.mul y2 y2) fun fall =>
    E.force (E.sub (E.sub (E.mul sl sl) mid) mid) fun x =>
    E.force (E.sub (E.sub (E.mul sl (E.sub mid x)) fall) fall) fun y =>
    E.force (E.mul a.2.1 a.2.2) fun z1 => E.force (E.add z1 z1) fun z => (x, y, z)
theorem Ev.dbl_φ (a : E.J) : E.φ3 (E.dbl a) = jdbl (E.φ3 a) := by
  unfold Ev.dbl jdbl
  cases h : E.isz a.2.2 with
  | true =>
    have : (E.φ3 a).2.2 = 0 := (E.isz_φ _).1 h
    rw [if_pos this]
    show (E.φ E.zero, E.φ E.zero, E.φ E.zero) = _
    rw [E.zero_φ]
  | false =>
    have : (E.φ3 a).2.2 ≠ 0 := fun e => by have := (E.isz_φ a.2.2).2 e; rw [h] at this; cases this
    rw [if_neg this]
    simp only [E.force_eq]
    simp only [Ev.φ3, jdbN, jdX, E.add_φ, E.sub_φ, E.mul_φ]
def Ev.jadd (a c : E.J) : E.J := match E.isz a.2.2 with
  | true => c
  | false => match E.isz c.2.2 with
    | true => a
    | false =>
      E.force (E.mul a.2.2 a.2.2) fun aa => E.force (E.mul c.2.2 c.2.2) fun bb =>
      E.force (E.mul a.1 bb) fun left => E.force (E.mul c.1 aa) fun right =>
      E.force (E.mul (E.mul a.2.1 bb) c.2.2) fun low => E.force (E.mul (E.mul c.2.1 aa) a.2.2) fun high =>
      E.force (E.sub right left) fun wide => E.force (E.sub high low) fun rise =>
      match E.isz wide with
      | true => match E.isz rise with
        | true => E.dbl a
        | false => (E.zero, E.zero, E.zero)
      | false =>
        E.force (E.mul wide wide) fun sq => E.force (E.mul sq wide) fun cube => E.force (E.mul left sq) fun l2 =>
        E.force (E.sub (E.sub (E.sub (E.mul rise rise) cube) l2) l2) fun x =>
        E.force (E.sub (E.mul rise (E.sub l2 x)) (E.mul low cube)) fun y =>
        E.force (E.mul (E.mul a.2.2 c.2.2) wide) fun z => (x, y, z)
theorem Ev.jadd_φ (a c : E.J) : E.φ3 (E.jadd a c) = Cr.jadd (E.φ3 a) (E.φ3 c) := by
  have nz : ∀ v : E.V, E.isz v = false → E.φ v ≠ 0 := fun v h e => by have := (E.isz_φ v).2 e; rw [h] at this; cases this
  unfold Ev.jadd Cr.jadd
  cases h : E.isz a.2.2 with
  | true => rw [if_pos (show (E.φ3 a).2.2 = 0 from (E.isz_φ _).1 h)]
  | false =>
    rw [if_neg (show (E.φ3 a).2.2 ≠ 0 from nz _ h)]
    cases h2 : E.isz c.2.2 with
    | true => rw [if_pos (show (E.φ3 c).2.2 = 0 from (E.isz_φ _).1 h2)]
    | false =>
      rw [if_neg (show (E.φ3 c).2.2 ≠ 0 from nz _ h2)]
      simp only [E.force_eq]
      have ew : E.φ (E.sub (E.mul c.1 (E.mul a.2.2 a.2.2)) (E.mul a.1 (E.mul c.2.2 c.2.2))) = (E.φ3 c).1 * ((E.φ3 a).2.2 * (E.φ3 a).2.2) - (E.φ3 a).1 * ((E.φ3 c).2.2 * (E.φ3 c).2.2) := by simp only [Ev.φ3, E.sub_φ, E.mul_φ]
      have er : E.φ (E.sub (E.mul (E.mul c.2.1 (E.mul a.2.2 a.2.2)) a.2.2) (E.mul (E.mul a.2.1 (E.mul c.2.2 c.2.2)) c.2.2)) = (E.φ3 c).2.1 * ((E.φ3 a).2.2 * (E.φ3 a).2.2) * (E.φ3 a).2.2 - (E.φ3 a).2.1 * ((E.φ3 c).2.2 * (E.φ3 c).2.2) * (E.φ3 c).2.2 := by simp only [Ev.φ3, E.sub_φ, E.mul_φ]
      cases h3 : E.isz (E.sub (E.mul c.1 (E.mul a.2.2 a.2.2)) (E.mul a.1 (E.mul c.2.2 c.2.2))) with
      | true =>
        have := (E.isz_φ _).1 h3
        rw [ew] at this
        rw [if_pos this]
        cases h4 : E.isz (E.sub (E.mul (E.mul c.2.1 (E.mul a.2.2 a.2.2)) a.2.2) (E.mul (E.mul a.2.1 (E.mul c.2.2 c.2.2)) c.2.2)) with
        | true =>
          have := (E.isz_φ _).1 h4
          rw [er] at this
          rw [if_pos this]
          exact E.dbl_φ a
        | false =>
          have := nz _ h4
          rw [er] at this
          rw [if_neg this]
          show (E.φ E.zero, E.φ E.zero, E.φ E.zero) = _
          rw [E.zero_φ]
      | false =>
        have := nz _ h3
        rw [ew] at this
        rw [if_neg this]
        simp only [Ev.φ3, jfin, jaX, E.sub_φ, E.mul_φ]
/-- So many times, by the digits of the number, from its lowest: 2 n, 2 n + 1. -/
def Ev.mul2 (o : E.J) : Nat → Nat → E.J
  | 0, _ => (E.zero, E.zero, E.zero)
  | f + 1, n => match Nat.beq n 0 with
    | true => (E.zero, E.zero, E.zero)
    | false => match Nat.beq (n % 2) 1 with
      | true => E.jadd (E.dbl (Ev.mul2 o f (n / 2))) o
      | false => E.dbl (Ev.mul2 o f (n / 2))
variable {E} in
theorem Ev.mul2_rep {b : F} (hb : b ≠ 0) {o : E.J} {P : F × F} (ho : Rep b (E.φ3 o) P) : ∀ f n, n < 2 ^ f → Rep b (E.φ3 (E.mul2 o f n)) (nmul P n) := by
  have h0 : Rep b (E.φ3 (E.zero, E.zero, E.zero)) (O2 : F × F) := .inl ⟨E.zero_φ, rfl⟩
  intro f
  induction f with
  | zero => intro n h; have : n = 0 := by simp at h; exact h
            subst this; exact h0
  | succ f ih =>
    intro n h
    unfold Ev.mul2
    split
    · rename_i hn; have := Nat.eq_of_beq_eq_true hn; subst this; exact h0
    · have hr := ih (n / 2) (by rw [Nat.pow_succ] at h; omega)
      have hd := rep_dbl hb hr
      rw [← E.dbl_φ, ← nmul_add hb ho.on] at hd
      split
      · rename_i h1
        have h1 := Nat.eq_of_beq_eq_true h1
        have ha := rep_add hb hd ho
        rw [← E.jadd_φ] at ha
        have e : n = n / 2 + n / 2 + 1 := by omega
        have : nmul P n = padd (nmul P (n / 2 + n / 2)) P := by
          conv => lhs; rw [e]
          rfl
        rw [this]
        exact ha
      · rename_i h1
        have h1 : n % 2 ≠ 1 := fun h2 => by rw [h2] at h1; exact absurd h1 (by decide)
        have e : n = n / 2 + n / 2 := by omega
        have : nmul P n = nmul P (n / 2 + n / 2) := by conv => lhs; rw [e]
        rw [this]
        exact hd
end
end Cr
/- The generator's order, by computation. No program here. -/
namespace Cr
open Rg Fd
def fc {α : Type} (n : Nat) (k : Nat → α) : α := Nat.rec (k 0) (fun m _ => k (m + 1)) n
theorem fc_eq {α : Type} (n : Nat) (k : Nat → α) : fc n k = k n := by cases n <;> rfl
def pN : Nat := 4002409555221667393417789825735904156556882819939007885332058136124031650490837864442687629129015664037894272559787
theorem zm_nat (n : Nat) : (zm ((n % pN : Nat) : Int) : Fp) = zm (n : Int) := zm_eq (by rw [Int.natCast_emod]; exact Int.emod_emod_of_dvd _ (Int.dvd_refl _))
noncomputable def evP1 : Ev Fp where
  V := Nat
  φ n := zm (n : Int)
  add a b := (a + b) % pN
  sub a b := (a + (pN - b % pN)) % pN
  mul a b := (a * b) % pN
  isz a := Nat.beq (a % pN) 0
  zero := 0
  force := fc
  add_φ a b := by rw [zm_nat, zm_add, Int.natCast_add]
  sub_φ a b := by
    rw [zm_nat, zm_sub]
    refine zm_eq ?_
    have h := Nat.mod_lt b (show 0 < pN by decide)
    have e : ((a + (pN - b % pN) : Nat) : Int) = (a : Int) - b + (pN : Int) * (1 + (b : Int) / pN) := by
      have h2 := Int.emod_add_mul_ediv (b : Int) (pN : Int)
      rw [Int.mul_add, Int.mul_one]
      omega
    rw [e]
    exact Int.add_mul_emod_self_left _ _ _
  mul_φ a b := by rw [zm_nat, zm_mul, Int.natCast_mul]
  isz_φ a := by
    constructor
    · intro h
      have h := Nat.eq_of_beq_eq_true h
      rw [← zm_nat, h]; rfl
    · intro h
      have h : (zm (a : Int) : Fp).v = 0 := by rw [h, zero_v]
      have h : (a : Int) % (pN : Int) = 0 := h
      have : a % pN = 0 := by omega
      rw [this]; rfl
  zero_φ := rfl
  force_eq := fc_eq
def gxN : Nat := 0x17f1d3a73197d7942695638c4fa9ac0fc3688c4f9774b905a14e3a3f171bac586c55e83ff97a1aeffb3af00adb22c6bb
def gyN : Nat := 0x08b3f481e3aaa0f1a09e30ed741d8ae4fcf5e095d5d00af600db18cb2c04b3edd03cc744a2888ae40caa232946c5e7e1
theorem ord_z : evP1.isz (evP1.mul2 (gxN, gyN, (1 : Nat)) 256 52435875175126190479447740508185965837690552500527637822603658699938581184513).2.2 = true := by kernel_rfl
end Cr
/- law07: what the generator makes; scalars. -/
namespace Go.Proofs.Ytkfghpniaahjjaa.law07
set_option maxRecDepth 100000
open Go Go.Eng Go.RowKit Cr Go.Proofs.Ytkfghpniaahjjaa Go.Proofs.Ytkfghpniaahjjaa.g1

def rN : Nat := 52435875175126190479447740508185965837690552500527637822603658699938581184513
theorem gG_ord : nmul gG rN = O2 := by
  have h1 : Rep b4 (evP1.φ3 (gxN, gyN, (1 : Nat))) gG := by
    have h := rep_lift gG_on
    unfold jlift at h
    rw [if_neg gG_ne, gG_eq] at h
    rw [gG_eq]
    exact h
  have h2 := Ev.mul2_rep b4_ne h1 256 rN (by decide)
  have h3 := (evP1.isz_φ _).1 ord_z
  rcases h2 with ⟨_, h⟩ | ⟨h, _⟩
  · exact h
  · exact absurd h3 h
/-- Points that come to nought r times. -/
def Sub (p : Fp × Fp) : Prop := Onb p ∧ nmul p rN = O2
theorem sub_G : Sub gG := ⟨gG_on, gG_ord⟩
theorem sub_nmul {p : Fp × Fp} (h : Sub p) (n : Nat) : Sub (nmul p n) := by
  refine ⟨nmul_on b4_ne h.1 n, ?_⟩
  rw [nmul_mul b4_ne h.1, Nat.mul_comm, ← nmul_mul b4_ne h.1, h.2, nmul_O]
theorem sub_gmul {p : Fp × Fp} (h : Sub p) (k : Fr) : Sub (gmul p k) := by rw [gmul_eq h.1]; exact sub_nmul h _
theorem nmul_mod {p : Fp × Fp} (h : Sub p) (m : Nat) : nmul p m = nmul p (m % rN) := by
  conv => lhs; rw [← Nat.div_add_mod m rN]
  rw [nmul_add b4_ne h.1, ← nmul_mul b4_ne h.1, h.2, nmul_O, O_add]
theorem frv (x : Fr) : ∃ n : Nat, x.v = (n : Int) ∧ n < rN := by
  obtain ⟨n, hn⟩ := Int.eq_ofNat_of_zero_le x.nn
  exact ⟨n, hn, by have := x.lt; have e : Mr = (rN : Int) := rfl; omega⟩
theorem mul_of {p : Fp × Fp} (h : Sub p) {x : Fr} {m : Nat} (hx : x.v = (m : Int) % (rN : Int)) : gmul p x = nmul p m := by
  rw [gmul_eq h.1, hx, nmul_mod h m, ← Int.natCast_emod, Int.toNat_natCast]
theorem mul_add {p : Fp × Fp} (h : Sub p) (x y : Fr) : gmul p (x + y) = padd (gmul p x) (gmul p y) := by
  obtain ⟨m, hm, _⟩ := frv x
  obtain ⟨n, hn, _⟩ := frv y
  rw [mul_of h (x := x + y) (m := m + n) (by rw [add_v, hm, hn, Int.natCast_add]; rfl), gmul_eq h.1, gmul_eq h.1, hm, hn, Int.toNat_natCast, Int.toNat_natCast, nmul_add b4_ne h.1]
theorem mul_mul {p : Fp × Fp} (h : Sub p) (x y : Fr) : gmul p (x * y) = gmul (gmul p x) y := by
  obtain ⟨m, hm, _⟩ := frv x
  obtain ⟨n, hn, _⟩ := frv y
  rw [mul_of h (x := x * y) (m := m * n) (by rw [mul_v, hm, hn, Int.natCast_mul]; rfl), gmul_eq (sub_gmul h x).1, gmul_eq h.1, hm, hn, Int.toNat_natCast, Int.toNat_natCast, nmul_mul b4_ne h.1]
theorem mul_zero {p : Fp × Fp} (h : Sub p) : gmul p 0 = O2 := by
  rw [gmul_eq h.1, zero_v]; rfl
theorem mul_one {p : Fp × Fp} (h : Sub p) : gmul p 1 = p := by
  rw [gmul_eq h.1, one_v]; exact nmul_one
theorem mul_neg {p : Fp × Fp} (h : Sub p) (x : Fr) : gmul p (-x) = pneg (gmul p x) := by
  have e : padd (gmul p x) (gmul p (-x)) = O2 := by rw [← mul_add h, Rg.add_neg, mul_zero h]
  have hx := (sub_gmul h x).1
  have hn := (sub_gmul h (-x)).1
  have := cancel b4_ne hx hn
  rw [e, add_O] at this
  exact this.symm
theorem sub_in {p : Fp × Fp} (h : Sub p) : gin p = true := by
  rw [gin, opq_eq, isIn]
  have h1 : isOn p = true := (isOn_iff p).2 h.1
  have h2 : pml p (-1) = pneg p := by
    have := mul_neg h 1
    rw [mul_one h, gmul, opq_eq] at this
    exact this
  rw [h1, h2]; simp
end Go.Proofs.Ytkfghpniaahjjaa.law07
/- G1Scalars: the walk. -/
namespace Go.Proofs.Ytkfghpniaahjjaa.law07
set_option maxRecDepth 100000
open Go Go.Eng Go.RowKit Cr Go.Proofs.Ytkfghpniaahjjaa Go.Proofs.Ytkfghpniaahjjaa.g1

theorem ent_scalars : enters Try.prog 6 Try.f6 := enters_mk (by kernel_rfl) (by kernel_rfl) (by kernel_rfl)
def scalarsX (p : Fp × Fp) (x y : Fr) : Prop :=
  Trs 5 (Cn (!eq2 (gadd (gmul p x) (gmul p y)) (gmul p (x + y))) (Trs 4 (Cn (!eq2 (gmul (gmul p x) y) (gmul p (x * y))) (Trs 4 (Cn (!eq2 (gneg (gmul p x)) (gmul p (-x)))
    (U64 1 ∧ True ∧ Ck (eq2 (gmul p 1) p) (True ∧ Ck (eq2 (gmul p 0) (0, 0)) (True ∧ Ck (gin p) (True ∧ True ∧ ok (gon (gmul p x)))))))))))
theorem scalars_ok {p : Fp × Fp} (h : Sub p) (x y : Fr) : scalarsX p x y := by
  refine trs (cn (nn ?_) (trs (cn (nn ?_) (trs (cn (nn ?_) ⟨by constructor <;> decide, trivial, ck (eq2_of (mul_one h)) ⟨trivial, ck (eq2_of (mul_zero h)) ⟨trivial, ck (sub_in h) ⟨trivial, trivial, ?_⟩⟩⟩⟩) _)) _)) _
  · rw [mul_add h, gadd_eq (sub_gmul h x).1 (sub_gmul h y).1]
  · rw [mul_mul h]
  · rw [mul_neg h, gneg_eq]
  · show (_, ()) = _
    rw [(gon_iff _).2 (sub_gmul h x).1]
theorem fn_scalars : FnOk Try.prog 6 [bsl, bsl, bsl] [.val .bool] noG pre3 (fun _ => (true, ())) := by
  refine fn_of_vc (sp := sps [spHead, spLong, soGen, spScalar, soMul, soAdd, soNeg, soOn, soIn, fr.spAdd, fr.spMul, fr.spNeg, fr.spOf]) (sps_cons (fnSpec_ok fn_head) (sps_cons (fnSpec_ok fn_long) (sps_cons (fnSpec_ok fo_gen) (sps_cons (fnSpec_ok fn_scalar) (sps_cons (fnSpec_ok fo_mul) (sps_cons (fnSpec_ok fo_add) (sps_cons (fnSpec_ok fo_neg) (sps_cons (fnSpec_ok fo_on) (sps_cons (fnSpec_ok fo_in) (sps_cons (fnSpec_ok fr.fn_add) (sps_cons (fnSpec_ok fr.fn_mul) (sps_cons (fnSpec_ok fr.fn_neg) (sps_cons (fnSpec_ok fr.fn_of) sps_nil))))))))))))) mixed ent_scalars (by decide) (by decide) ?_
  rintro w M0 ⟨a, b, c, ⟨⟩⟩
  revert a b c
  intro (a : List Int) (b : List Int) (c : List Int) _ hp
  obtain ⟨h1, h2, h3⟩ := hp
  refine vcx (X := (True ∧ ((!true) = true → ok false) ∧ ((!true) = false → True ∧ (lng a b c = true → ok true) ∧ (lng a b c = false → preSca (a, ()) ∧ preSca (b, ()) ∧ True ∧ preSca (c, ()) ∧ True ∧ scalarsX (gmul gG (sca c)) (sca a) (sca b))))) (by kernel_rfl) ?_
  exact ⟨trivial, fun h => absurd h (by decide), fun _ => ⟨trivial, fun _ => rfl, fun _ => ⟨h1, h2, trivial, h3, trivial, scalars_ok (sub_gmul sub_G _) _ _⟩⟩⟩
end Go.Proofs.Ytkfghpniaahjjaa.law07
namespace Go.Proofs.Ytkfghpniaahjjaa
set_option maxRecDepth 100000
open Go Go.Eng Go.RowKit Cr Go.ChangeShapes Go.WideShapes Go.ChangeAt

namespace g1Scalars
theorem own : ownKnob Try.prog.godebug = none := by kernel_rfl
theorem laidOut : laidOutB Try.prog = true := by kernel_rfl
abbrev wtB : Car bsl → Prop := fun ys => List.length ys * Try.prog.bytesOf 5 ≤ reachBytes ∧ ∀ y ∈ ys, (Lit.int .u8 y).wf = true
theorem oB : OpnV Try.prog 33 bsl wtB := opnV_slice (e := 5) (by kernel_rfl) (by kernel_rfl) (by decide) (opnC_int (by kernel_rfl))
theorem bytes5 : Try.prog.bytesOf 5 = 1 := by kernel_rfl
theorem pB {xs : List Int} (h : wtB xs) : preB xs := by
  obtain ⟨h1, h2⟩ := h
  rw [bytes5] at h1
  refine ⟨fun x hx => ?_, ?_⟩
  · have := h2 x hx
    simp [Lit.wf, IntKind.min, IntKind.max, IntKind.signed, IntKind.bits] at this
    omega
  · show List.length xs ≤ _
    simp only [reachBytes] at h1
    omega
theorem opened : OpnL Try.prog [33, 33, 33] [bsl, bsl, bsl] (fun x => wtB x.1 ∧ wtB x.2.1 ∧ wtB x.2.2.1 ∧ True) :=
  .cons oB (by kernel_rfl) (of_decide_eq_true (by kernel_rfl)) (.cons oB (by kernel_rfl) (of_decide_eq_true (by kernel_rfl)) (.cons oB (by kernel_rfl) (of_decide_eq_true (by kernel_rfl)) .nil))
theorem lifted (os : Os) (started : os.Started) (H : Type) (enc : TypeId × Value → H) :
    ReturnsInHanded {} Try.checked os 6 .any (Rows.g1ScalarsSpec.pre6 enc Try.prog Try.f6 Rows.g1ScalarsRow.domain false) (Rows.g1ScalarsSpec.post enc Try.prog Try.f6 false true false false) := by
  refine returnsInHanded_of_change_sized (C := Try.checked) own started (by kernel_rfl) Try.func6
    (ChangeSpec.witness6 (enc := enc) (C := Try.checked) false ⟨#[], #[.slice none 0 0, .slice none 0 0, .slice none 0 0], []⟩ 8 (by kernel_rfl) (by kernel_rfl) (by kernel_rfl) (by kernel_rfl)) ?_
  intro W base args ds gs before hval hW _ hsz _
  refine law_row (C := Try.checked) (bt := 4) (ts := [33, 33, 33]) law07.ent_scalars law07.fn_scalars laidOut (by kernel_rfl) (by kernel_rfl) (by kernel_rfl) opened ?_ rfl ?_ W base args ds gs before hval hW hsz
  · rintro ⟨x0, x1, x2, ⟨⟩⟩ ⟨h0, h1, h2, _⟩
    exact ⟨pB h0, pB h1, pB h2⟩
  · intro ds hl
    match ds, hl with
    | [d0, d1, d2], _ => rfl

theorem proved : Rows.G1ScalarsSaid :=
  OpenClaim.holds_of_wide 6 Try.f6 rfl rfl rfl rfl rfl rfl rfl ⟨rfl, rfl, rfl, rfl, rfl⟩ rfl rfl rfl rfl rfl (by kernel_rfl) Try.func6 (by kernel_rfl)
    (of_decide_eq_true (by kernel_rfl)) (by unfold Func.isWrapper; first | (rw [if_pos (by decide +kernel)]; kernel_rfl) | (rw [if_neg (by decide +kernel)]; exact ⟨rfl, rfl⟩))
    (fun os started H enc _ => lifted os started H enc)
#print axioms proved
end g1Scalars
end Go.Proofs.Ytkfghpniaahjjaa
