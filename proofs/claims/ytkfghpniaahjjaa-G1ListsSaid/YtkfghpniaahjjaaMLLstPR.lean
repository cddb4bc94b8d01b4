/- law07: wild, sides, threefold, lambda. -/
import Derived.Test.YtkfghpniaahjjaaMLLstPQ
/- What rows ask of their arguments. -/
namespace Go.Proofs.Ytkfghpniaahjjaa
open Go Go.Eng Cr
abbrev bsl : Kd := .sl (.int .u8)
/-- Bytes of an input. -/
abbrev preB (b : List Int) : Prop := Bs b ∧ List.length b ≤ 281474976710656
abbrev preBB (bs : List (List Int)) : Prop := (∀ b ∈ bs, preB b) ∧ List.length bs ≤ 281474976710656
abbrev preW (x : Int) : Prop := 0 ≤ x ∧ x < 65536
abbrev preY (x : Int) : Prop := 0 ≤ x ∧ x < 256
abbrev preI (x : Int) : Prop := -9223372036854775808 ≤ x ∧ x < 9223372036854775808
abbrev preL (_ : Bool) : Prop := True
abbrev preIS (xs : List Int) : Prop := (∀ x ∈ xs, preI x) ∧ List.length xs ≤ 281474976710656
end Go.Proofs.Ytkfghpniaahjjaa
/- G1Rules, for every input: true; the input reads as it did. No condition. -/
namespace Go.Proofs.Ytkfghpniaahjjaa.law07
set_option maxRecDepth 100000
open Go Go.Eng Go.RowKit Cr Go.Proofs.Ytkfghpniaahjjaa Go.Proofs.Ytkfghpniaahjjaa.g1

abbrev ok (b : Bool) : Prop := ((b, ()) : Bool × Unit) = (true, ())
theorem ent_rules : enters Try.prog 4 Try.f4 := enters_mk (by kernel_rfl) (by kernel_rfl) (by kernel_rfl)
abbrev pre3 : HL [bsl, bsl, bsl] → Prop := fun (a, b, c, _) => preSca (a, ()) ∧ preSca (b, ()) ∧ preSca (c, ())
def rulesX (p q r : Fp × Fp) : Prop :=
  Trs 4 (Cn (!eq2 (gadd (gadd p q) r) (gadd p (gadd q r))) ((0 + 3 : Nat) ≤ 3 ∧ preSum ([p, q, r], ()) ∧ True ∧ True ∧ Cn (!eq2 (gsum [p, q, r]) (gadd (gadd p q) r)) (True ∧ Cn (!eq2 (gadd p (0, 0)) p) (True ∧ Cn (!eq2 (gadd (0, 0) p) p) (True ∧ True ∧ Cn (!eq2 (gadd p (gneg p)) (0, 0))
    (Trs 2 (Ck (eq2 (gneg (gneg p)) p) (Trs 5 (Ck (eq2 (gneg (gadd p q)) (gadd (gneg p) (gneg q))) (preSum ([], ()) ∧ Ck (eq2 (gsum []) (0, 0)) (True ∧ Ck (eq2 (gneg (0, 0)) (0, 0)) (True ∧ ok (gon (0, 0))))))))))))))
theorem nn {p q : Fp × Fp} (h : p = q) : (!eq2 p q) = false := by rw [eq2_of h]; rfl
theorem rules_ok {p q r : Fp × Fp} (hp : Onb p) (hq : Onb q) (hr : Onb r) : rulesX p q r := by
  have h0 : Onb ((0 : Fp), (0 : Fp)) := .inl rfl
  have hpq := padd_on b4_ne hp hq
  have hqr := padd_on b4_ne hq hr
  have e1 : gadd p q = padd p q := gadd_eq hp hq
  have e2 : gadd q r = padd q r := gadd_eq hq hr
  have e3 : gadd (padd p q) r = padd (padd p q) r := gadd_eq hpq hr
  have e4 : gadd p (padd q r) = padd p (padd q r) := gadd_eq hp hqr
  have e5 : gsum [p, q, r] = padd p (padd q r) := by
    rw [gsum_eq (by intro x hx; simp at hx; rcases hx with rfl | rfl | rfl <;> assumption)]
    show padd p (padd q (padd r O2)) = _
    rw [add_O]
  refine trs (cn (nn ?_) ⟨by decide, show (3 : Nat) < 4611686018427387904 by decide, trivial, trivial, cn (nn ?_) ⟨trivial, cn (nn ?_) ⟨trivial, cn (nn ?_) ⟨trivial, trivial, cn (nn ?_) (trs (ck (eq2_of ?_) (trs (ck (eq2_of ?_) ⟨show (0 : Nat) < 4611686018427387904 by decide, ck (eq2_of ?_) ⟨trivial, ck (eq2_of ?_) ⟨trivial, ?_⟩⟩⟩) _)) _)⟩⟩⟩⟩) _
  · rw [e1, e2, e3, e4, padd_assoc b4_ne hp hq hr]
  · rw [e5, e1, e3, padd_assoc b4_ne hp hq hr]
  · rw [gadd_eq hp h0]; exact add_O p
  · rw [gadd_eq h0 hp]; exact O_add p
  · rw [gneg_eq, gadd_eq hp (pneg_onP hp)]; exact add_neg_self p
  · rw [gneg_eq, gneg_eq, pneg_pneg]
  · rw [e1, gneg_eq, gneg_eq, gneg_eq, gadd_eq (pneg_onP hp) (pneg_onP hq), pneg_add b4_ne hp hq]
  · rw [gsum_eq (by intro x hx; simp at hx)]; rfl
  · rw [gneg_eq]; exact pneg_O
  · show (_, ()) = _
    rw [(gon_iff _).2 h0]
theorem gmul_on {p : Fp × Fp} (hp : Onb p) (k : Fr) : Onb (gmul p k) := by rw [gmul_eq hp]; exact nmul_on b4_ne hp _
theorem fn_rules : FnOk Try.prog 4 [bsl, bsl, bsl] [.val .bool] noG pre3 (fun _ => (true, ())) := by
  refine fn_of_vc (sp := sps [spHead, spLong, soGen, spScalar, soMul, soAdd, soSum, soNeg, soOn]) (sps_cons (fnSpec_ok fn_head) (sps_cons (fnSpec_ok fn_long) (sps_cons (fnSpec_ok fo_gen) (sps_cons (fnSpec_ok fn_scalar) (sps_cons (fnSpec_ok fo_mul) (sps_cons (fnSpec_ok fo_add) (sps_cons (fnSpec_ok fo_sum) (sps_cons (fnSpec_ok fo_neg) (sps_cons (fnSpec_ok fo_on) sps_nil))))))))) mixed ent_rules (by decide) (by decide) ?_
  rintro w M0 ⟨a, b, c, ⟨⟩⟩
  revert a b c
  intro (a : List Int) (b : List Int) (c : List Int) _ hp
  obtain ⟨h1, h2, h3⟩ := hp
  refine vcx (X := (True ∧ ((!true) = true → ok false) ∧ ((!true) = false → True ∧ (lng a b c = true → ok true) ∧ (lng a b c = false → True ∧ preSca (a, ()) ∧ True ∧ True ∧ preSca (b, ()) ∧ True ∧ True ∧ preSca (c, ()) ∧ True ∧ rulesX (gmul gG (sca a)) (gmul gG (sca b)) (gmul gG (sca c)))))) (by kernel_rfl) ?_
  exact ⟨trivial, fun h => absurd h (by decide), fun _ => ⟨trivial, fun _ => rfl, fun _ => ⟨trivial, h1, trivial, trivial, h2, trivial, trivial, h3, trivial, rules_ok (gmul_on gG_on _) (gmul_on gG_on _) (gmul_on gG_on _)⟩⟩⟩
end Go.Proofs.Ytkfghpniaahjjaa.law07
/- Bulk points by computation: values forced one by one. No program here. -/
namespace Cr
open Rg Fd

/-- A way to compute in a field. -/
structure Ev (F : Type) [Fd F] where
  V : Type
  φ : V → F
  add : V → V → V
  sub : V → V → V
  mul : V → V → V
  isz : V → Bool
  zero : V
  force : {α : Type} → V → (V → α) → α
  add_φ : ∀ a b, φ (add a b) = φ a + φ b
  sub_φ : ∀ a b, φ (sub a b) = φ a - φ b
  mul_φ : ∀ a b, φ (mul a b) = φ a * φ b
  isz_φ : ∀ a, isz a = true ↔ φ a = 0
  zero_φ : φ zero = 0
  force_eq : ∀ {α : Type} (a : V) (k : V → α), force a k = k a

section
variable {F : Type} [Fd F] (E : Ev F)
abbrev Ev.J := E.V × E.V × E.V
def Ev.φ3 (a : E.J) : Jc F := (E.φ a.1, E.φ a.2.1, E.φ a.2.2)
def Ev.dbl (a : E.J) : E.J := match E.isz a.2.2 with
  | true => (E.zero, E.zero, E.zero)
  | false =>
    E.force (E.mul a.1 a.1) fun xx => E.force (E.mul a.2.1 a.2.1) fun yy => E.force (E.add (E.add xx xx) xx) fun sl =>
    E.force (E.mul a.1 yy) fun m1 => E.force (E.add m1 m1) fun m2 => E.force (E.add m2 m2) fun mid =>
    E.force (E.add yy yy) fun y2 => E.force (E.mul y2 y2) fun fall =>
    E.force (E.sub (E.sub (E.mul sl sl) mid) mid) fun x =>
    E.force (E.sub (E.sub (E.mul sl (E.sub mid x)) fall) fall) fun y =>
    E.force (E.mul a.2.1 a.2.2) fun z1 => E.force (E.add z1 z1) fun z => (x, y, z)
theorem Ev.dbl_φ (a : E.J) : E.φ3 (E.dbl a) = jdbl (E.φ3 a) := by
  unfold Ev.dbl jdbl
  cases h : E.isz a.2.2 with
  | true =>
    have : (E.φ3 a).2.2 = 0 := (E.isz_φ _).1 h
    rw [if_pos this]
    show (E.φ E.zero, E.φ E.zero, E.φ E.zero) = _
    rw [E.zero_φ]
  | false =>
    have : (E.φ3 a).2.2 ≠ 0 := fun e => by have := (E.isz_φ a.2.2).2 e; rw [h] at this; cases this
    rw [if_neg this]
    simp only [E.force_eq]
    simp only [Ev.φ3, jdbN, jdX, E.add_φ, E.sub_φ, E.mul_φ]
def Ev.jadd (a c : E.J) : E.J := match E.isz a.2.2 with
  | true => c
  | false => match E.isz c.2.2 with
    | true => a
    | false =>
      E.force (E.mul a.2.2 a.2.2) fun aa => E.force (E.mul c.2.2 c.2.2) fun bb =>
      E.force (E.mul a.1 bb) fun left => E.force (E.mul c.1 aa) fun right =>
      E.force (E.mul (E.mul a.2.1 bb) c.2.2) fun low => E.force (E.mul (E.mul c.2.1 aa) a.2.2) fun high =>
      E.force (E.sub right left) fun wide => E.force (E.sub high low) fun rise =>
      match E.isz wide with
      | true => match E.isz rise with
        | true => E.dbl a
        | false => (E.zero, E.zero, E.zero)
      | false =>
        E.force (E.mul wide wide) fun sq => E.force (E.mul sq wide) fun cube => E.force (E.mul left sq) fun l2 =>
        E.force (E.sub (E.sub (E.sub (E.mul rise rise) cube) l2) l2) fun x =>
        E.force (E.sub (E.mul rise (E.sub l2 x)) (E.mul low cube)) fun y =>
        E.force (E.mul (E.mul a.2.2 c.2.2) wide) fun z => (x, y, z)
theorem Ev.jadd_φ (a c : E.J) : E.φ3 (E.jadd a c) = Cr.jadd (E.φ3 a) (E.φ3 c) := by
  have nz : ∀ v : E.V, E.isz v = false → E.φ v ≠ 0 := fun v h e => by have := (E.isz_φ v).2 e; rw [h] at this; cases this
  unfold Ev.jadd Cr.jadd
  cases h : E.isz a.2.2 with
  | true => rw [if_pos (show (E.φ3 a).2.2 = 0 from (E.isz_φ _).1 h)]
  | false =>
    rw [if_neg (show (E.φ3 a).2.2 ≠ 0 from nz _ h)]
    cases h2 : E.isz c.2.2 with
    | true => rw [if_pos (show (E.φ3 c).2.2 = 0 from (E.isz_φ _).1 h2)]
    | false =>
      rw [if_neg (show (E.φ3 c).2.2 ≠ 0 from nz _ h2)]
      simp only [E.force_eq]
      have ew : E.φ (E.sub (E.mul c.1 (E.mul a.2.2 a.2.2)) (E.mul a.1 (E.mul c.2.2 c.2.2))) = (E.φ3 c).1 * ((E.φ3 a).2.2 * (E.φ3 a).2.2) - (E.φ3 a).1 * ((E.φ3 c).2.2 * (E.φ3 c).2.2) := by simp only [Ev.φ3, E.sub_φ, E.mul_φ]
      have er : E.φ (E.sub (E.mul (E.mul c.2.1 (E.mul a.2.2 a.2.2)) a.2.2) (E.mul (E.mul a.2.1 (E.mul c.2.2 c.2.2)) c.2.2)) = (E.φ3 c).2.1 * ((E.φ3 a).2.2 * (E.φ3 a).2.2) * (E.φ3 a).2.2 - (E.φ3 a).2.1 * ((E.φ3 c).2.2 * (E.φ3 c).2.2) * (E.φ3 c).2.2 := by simp only [Ev.φ3, E.sub_φ, E.mul_φ]
      cases h3 : E.isz (E.sub (E.mul c.1 (E.mul a.2.2 a.2.2)) (E.mul a.1 (E.mul c.2.2 c.2.2))) with
      | true =>
        have := (E.isz_φ _).1 h3
        rw [ew] at this
        rw [if_pos this]
        cases h4 : E.isz (E.sub (E.mul (E.mul c.2.1 (E.mul a.2.2 a.2.2)) a.2.2) (E.mul (E.mul a.2.1 (E.mul c.2.2 c.2.2)) c.2.2)) with
        | true =>
          have := (E.isz_φ _).1 h4
          rw [er] at this
          rw [if_pos this]
          exact E.dbl_φ a
        | false =>
          have := nz _ h4
          rw [er] at this
          rw [if_neg this]
          show (E.φ E.zero, E.φ E.zero, E.φ E.zero) = _
          rw [E.zero_φ]
      | false =>
        have := nz _ h3
        rw [ew] at this
        rw [if_neg this]
        simp only [Ev.φ3, jfin, jaX, E.sub_φ, E.mul_φ]
/-- So many times, by the digits of the number, from its lowest: 2 n, 2 n + 1. -/
def Ev.mul2 (o : E.J) : Nat → Nat → E.J
  | 0, _ => (E.zero, E.zero, E.zero)
  | f + 1, n => match Nat.beq n 0 with
    | true => (E.zero, E.zero, E.zero)
    | false => match Nat.beq (n % 2) 1 with
      | true => E.jadd (E.dbl (Ev.mul2 o f (n / 2))) o
      | false => E.dbl (Ev.mul2 o f (n / 2))
variable {E} in
theorem Ev.mul2_rep {b : F} (hb : b ≠ 0) {o : E.J} {P : F × F} (ho : Rep b (E.φ3 o) P) : ∀ f n, n < 2 ^ f → Rep b (E.φ3 (E.mul2 o f n)) (nmul P n) := by
  have h0 : Rep b (E.φ3 (E.zero, E.zero, E.zero)) (O2 : F × F) := .inl ⟨E.zero_φ, rfl⟩
  intro f
  induction f with
  | zero => intro n h; have : n = 0 := by simp at h; exact h
            subst this; exact h0
  | succ f ih =>
    intro n h
    unfold Ev.mul2
    split
    · rename_i hn; have := Nat.eq_of_beq_eq_true hn; subst this; exact h0
    · have hr := ih (n / 2) (by rw [Nat.pow_succ] at h; omega)
      have hd := rep_dbl hb hr
      rw [← E.dbl_φ, ← nmul_add hb ho.on] at hd
      split
      · rename_i h1
        have h1 := Nat.eq_of_beq_eq_true h1
        have ha := rep_add hb hd ho
        rw [← E.jadd_φ] at ha
        have e : n = n / 2 + n / 2 + 1 := by omega
        have : nmul P n = padd (nmul P (n / 2 + n / 2)) P := by
          conv => lhs; rw [e]
          rfl
        rw [this]
        exact ha
      · rename_i h1
        have h1 : n % 2 ≠ 1 := fun h2 => by rw [h2] at h1; exact absurd h1 (by decide)
        have e : n = n / 2 + n / 2 := by omega
        have : nmul P n = nmul P (n / 2 + n / 2) := by conv => lhs; rw [e]
        rw [this]
        exact hd
end
end Cr
/- The generator's order, by computation. No program here. -/
namespace Cr
open Rg Fd
def fc {α : Type} (n : Nat) (k : Nat → α) : α := Nat.rec (k 0) (fun m _ => k (m + 1)) n
theorem fc_eq {α : Type} (n : Nat) (k : Nat → α) : fc n k = k n := by cases n <;> rfl
def pN : Nat := 4002409555221667393417789825735904156556882819939007885332058136124031650490837864442687629129015664037894272559787
theorem zm_nat (n : Nat) : (zm ((n % pN : Nat) : Int) : Fp) = zm (n : Int) := zm_eq (by rw [Int.natCast_emod]; exact Int.emod_emod_of_dvd _ (Int.dvd_refl _))
noncomputable def evP1 : Ev Fp where
  V := Nat
  φ n := zm (n : Int)
  add a b := (a + b) % pN
  sub a b := (a + (pN - b % pN)) % pN
  mul a b := (a * b) % pN
  isz a := Nat.beq (a % pN) 0
  zero := 0
  force := fc
  add_φ a b := by rw [zm_nat, zm_add, Int.natCast_add]
  sub_φ a b := by
    rw [zm_nat, zm_sub]
    refine zm_eq ?_
    have h := Nat.mod_lt b (show 0 < pN by decide)
    have e : ((a + (pN - b % pN) : Nat) : Int) = (a : Int) - b + (pN : Int) * (1 + (b : Int) / pN) := by
      have h2 := Int.emod_add_mul_ediv (b : Int) (pN : Int)
      rw [Int.mul_add, Int.mul_one]
      omega
    rw [e]
    exact Int.add_mul_emod_self_left _ _ _
  mul_φ a b := by rw [zm_nat, zm_mul, Int.natCast_mul]
  isz_φ a := by
    constructor
    · intro h
      have h := Nat.eq_of_beq_eq_true h
      rw [← zm_nat, h]; rfl
    · intro h
      have h : (zm (a : Int) : Fp).v = 0 := by rw [h, zero_v]
      have h : (a : Int) % (pN : Int) = 0 := h
      have : a % pN = 0 := by omega
      rw [this]; rfl
  zero_φ := rfl
  force_eq := fc_eq
def gxN : Nat := 0x17f1d3a73197d7942695638c4fa9ac0fc3688c4f9774b905a14e3a3f171bac586c55e83ff97a1aeffb3af00adb22c6bb
def gyN : Nat := 0x08b3f481e3aaa0f1a09e30ed741d8ae4fcf5e095d5d00af600db18cb2c04b3edd03cc744a2888ae40caa232946c5e7e1
theorem ord_z : evP1.isz (evP1.mul2 (gxN, gyN, (1 : Nat)) 256 52435875175126190479447740508185965837690552500527637822603658699938581184513).2.2 = true := by kernel_rfl
end Cr
/- law07: what the generator makes; scalars. -/
namespace Go.Proofs.Ytkfghpniaahjjaa.law07
set_option maxRecDepth 100000
open Go Go.Eng Go.RowKit Cr Go.Proofs.Ytkfghpniaahjjaa Go.Proofs.Ytkfghpniaahjjaa.g1

def rN : Nat := 52435875175126190479447740508185965837690552500527637822603658699938581184513
theorem gG_ord : nmul gG rN = O2 := by
  have h1 : Rep b4 (evP1.φ3 (gxN, gyN, (1 : Nat))) gG := by
    have h := rep_lift gG_on
    unfold jlift at h
    rw [if_neg gG_ne, gG_eq] at h
    rw [gG_eq]
    exact h
  have h2 := Ev.mul2_rep b4_ne h1 256 rN (by decide)
  have h3 := (evP1.isz_φ _).1 ord_z
  rcases h2 with ⟨_, h⟩ | ⟨h, _⟩
  · exact h
  · exact absurd h3 h
/-- Points that come to nought r times. -/
def Sub (p : Fp × Fp) : Prop := Onb p ∧ nmul p rN = O2
theorem sub_G : Sub gG := ⟨gG_on, gG_ord⟩
theorem sub_nmul {p : Fp × Fp} (h : Sub p) (n : Nat) : Sub (nmul p n) := by
  refine ⟨nmul_on b4_ne h.1 n, ?_⟩
  rw [nmul_mul b4_ne h.1, Nat.mul_comm, ← nmul_mul b4_ne h.1, h.2, nmul_O]
theorem sub_gmul {p : Fp × Fp} (h : Sub p) (k : Fr) : Sub (gmul p k) := by rw [gmul_eq h.1]; exact sub_nmul h _
theorem nmul_mod {p : Fp × Fp} (h : Sub p) (m : Nat) : nmul p m = nmul p (m % rN) := by
  conv => lhs; rw [← Nat.div_add_mod m rN]
  rw [nmul_add b4_ne h.1, ← nmul_mul b4_ne h.1, h.2, nmul_O, O_add]
theorem frv (x : Fr) : ∃ n : Nat, x.v = (n : Int) ∧ n < rN := by
  obtain ⟨n, hn⟩ := Int.eq_ofNat_of_zero_le x.nn
  exact ⟨n, hn, by have := x.lt; have e : Mr = (rN : Int) := rfl; omega⟩
theorem mul_of {p : Fp × Fp} (h : Sub p) {x : Fr} {m : Nat} (hx : x.v = (m : Int) % (rN : Int)) : gmul p x = nmul p m := by
  rw [gmul_eq h.1, hx, nmul_mod h m, ← Int.natCast_emod, Int.toNat_natCast]
theorem mul_add {p : Fp × Fp} (h : Sub p) (x y : Fr) : gmul p (x + y) = padd (gmul p x) (gmul p y) := by
  obtain ⟨m, hm, _⟩ := frv x
  obtain ⟨n, hn, _⟩ := frv y
  rw [mul_of h (x := x + y) (m := m + n) (by rw [add_v, hm, hn, Int.natCast_add]; rfl), gmul_eq h.1, gmul_eq h.1, hm, hn, Int.toNat_natCast, Int.toNat_natCast, nmul_add b4_ne h.1]
theorem mul_mul {p : Fp × Fp} (h : Sub p) (x y : Fr) : gmul p (x * y) = gmul (gmul p x) y := by
  obtain ⟨m, hm, _⟩ := frv x
  obtain ⟨n, hn, _⟩ := frv y
  rw [mul_of h (x := x * y) (m := m * n) (by rw [mul_v, hm, hn, Int.natCast_mul]; rfl), gmul_eq (sub_gmul h x).1, gmul_eq h.1, hm, hn, Int.toNat_natCast, Int.toNat_natCast, nmul_mul b4_ne h.1]
theorem mul_zero {p : Fp × Fp} (h : Sub p) : gmul p 0 = O2 := by
  rw [gmul_eq h.1, zero_v]; rfl
theorem mul_one {p : Fp × Fp} (h : Sub p) : gmul p 1 = p := by
  rw [gmul_eq h.1, one_v]; exact nmul_one
theorem mul_neg {p : Fp × Fp} (h : Sub p) (x : Fr) : gmul p (-x) = pneg (gmul p x) := by
  have e : padd (gmul p x) (gmul p (-x)) = O2 := by rw [← mul_add h, Rg.add_neg, mul_zero h]
  have hx := (sub_gmul h x).1
  have hn := (sub_gmul h (-x)).1
  have := cancel b4_ne hx hn
  rw [e, add_O] at this
  exact this.symm
theorem sub_in {p : Fp × Fp} (h : Sub p) : gin p = true := by
  rw [gin, opq_eq, isIn]
  have h1 : isOn p = true := (isOn_iff p).2 h.1
  have h2 : pml p (-1) = pneg p := by
    have := mul_neg h 1
    rw [mul_one h, gmul, opq_eq] at this
    exact this
  rw [h1, h2]; simp
end Go.Proofs.Ytkfghpniaahjjaa.law07
/- Sqrt of package fp. -/
namespace Go.Proofs.Ytkfghpniaahjjaa.fp
set_option maxRecDepth 100000
open Go Go.Eng Go.RowKit Cr Go.Proofs.Ytkfghpniaahjjaa

theorem ent_sqrt : enters Try.prog 64 Try.f64 := enters_mk (by kernel_rfl) (by kernel_rfl) (by kernel_rfl)
noncomputable def sqrI (x : Fp) (g : Int × List Int) : St := mkSt Try.f64.ntmps 56 [(1, .is (.one (.ptr 0 0))), (2, .is (.one (.ptr 8 0))), (4, .is (.one (.ptr 32 0))), (8, sI .i64 g.1)] [(0, [.row .fp 1 [x]]), (8, [.row .fp 1 [(0 : Fp)]]), (32, [.ints .u64 6 g.2])]
def sqrN (g : Int × List Int) : Int × List Int := (IntKind.i64.wrap (g.1 + 1), g.2.set g.1.toNat (bitOp .or .u64 (Int.fdiv (g.2.getD g.1.toNat 0) (2 ^ min (Int.toNat 2) IntKind.u64.bits)) (IntKind.u64.wrap (g.2.getD (IntKind.i64.wrap (g.1 + 1)).toNat 0 * 2 ^ min (Int.toNat 62) IntKind.u64.bits))))
def sqrE : List Int := [13402431016077863596, 2210141511517208575, 7435674573564081700, 7239337960414712511, 5412103778470702295, 1873798617647539866]
def sqrG : Nat → Int × List Int
  | 0 => (0, sqrE)
  | k + 1 => sqrN (sqrG k)
def sqrF (es : List Int) : List Int := es.set 5 (Int.fdiv ((es.drop 5).getD 0 0) (2 ^ min (Int.toNat 2) IntKind.u64.bits))

theorem sqrG_fst : ∀ k, k ≤ 5 → (sqrG k).1 = (k : Int) := by
  intro k
  induction k with
  | zero => intro _; rfl
  | succ k ih => intro h; show IntKind.i64.wrap ((sqrG k).1 + 1) = _; rw [ih (by omega), wrap_succ (by omega)]

/-- (p + 1) / 4 -/
def p14 : Int := 1000602388805416848354447456433976039139220704984751971333014534031007912622709466110671907282253916009473568139947
theorem sqrF_val : val (sqrF (sqrG 5).2) = p14 := by decide +kernel
theorem sqrF_ws : Ws (sqrF (sqrG 5).2) := by
  intro x hx
  have e : sqrF (sqrG 5).2 = lim 6 p14 := by decide +kernel
  rw [e] at hx
  exact lim_ws _ _ x hx

/-- What Sqrt answers. -/
noncomputable def fpSqrt (x : Fp) : Fp × Bool := if zpw x p14 * zpw x p14 = x then (zpw x p14, true) else (0, false)
noncomputable abbrev outSqrt : HL [.fp] → HO [.val .fp, .val .bool] := fun (x, _) => ((fpSqrt x).1, (fpSqrt x).2, ())
theorem fn_sqrt : FnOk Try.prog 64 [.fp] [.val .fp, .val .bool] noG (fun _ => True) outSqrt := by
  have hsp : SpecsOk Try.prog (sps [spPower, spSquare]) := sps_cons (fnSpec_ok fn_power) (sps_cons (fnSpec_ok fn_square) sps_nil)
  refine fn_of_tr (sp := sps [spPower, spSquare]) ent_sqrt (by decide) (by decide) (by kernel_rfl) ?_
  rintro w M0 ⟨x, ⟨⟩⟩ _ _
  show Tr _ _ _ _ _ _ _
  refine tr_cut hsp mixed 3 (sqrI x (0, sqrE)) True ?_ (fun _ => ?_)
  · refine vcx (X := (sqrI x (0, sqrE)).triv True) (by kernel_rfl) (triv_intro trivial)
  refine tr_count hsp mixed (sqrI x) sqrG 5 sqrN (sqrI x) (c := nthC (codeOf Try.f64) 3) (by kernel_rfl) (by kernel_rfl) (le_of_proj (by kernel_rfl) (by kernel_rfl) trivial) (fun k hk => rfl) ?_ ?_
  · intro k hk
    have hf := sqrG_fst k hk
    generalize sqrG k = g at *
    obtain ⟨i, es⟩ := g
    simp only at hf
    subst hf
    refine vcx (X := ((decide ((k : Int) < 5) = true → (0 ≤ (k : Int) ∧ (k : Int) < ((6 : Nat) : Int)) ∧ (k : Int).toNat < 6 ∧ (0 : Int) ≤ 2 ∧ (0 ≤ IntKind.i64.wrap ((k : Int) + 1) ∧ IntKind.i64.wrap ((k : Int) + 1) < ((6 : Nat) : Int)) ∧ (IntKind.i64.wrap ((k : Int) + 1)).toNat < 6 ∧ (0 : Int) ≤ 62 ∧ (0 ≤ (k : Int) ∧ (k : Int) < ((6 : Nat) : Int)) ∧ (k : Int).toNat < 6 ∧ (sqrI x (sqrN ((k : Int), es))).triv (k < 5)) ∧
      (decide ((k : Int) < 5) = false → (sqrI x ((k : Int), es)).triv (k = 5)))) (by kernel_rfl) ?_
    refine ⟨fun h => ?_, fun h => triv_intro (by have := dec_ge h; omega)⟩
    have hlt : k < 5 := by have := dec_lt h; omega
    rw [wrap_succ (by omega)]
    exact ⟨⟨by omega, by omega⟩, by omega, by decide, ⟨by omega, by omega⟩, by omega, by decide, ⟨by omega, by omega⟩, by omega, triv_intro hlt⟩
  have hv := sqrF_val
  have hw := sqrF_ws
  generalize sqrG 5 = g at *
  obtain ⟨i, es⟩ := g
  simp only at hv hw
  refine tr_vc hsp mixed _ _ ?_
  refine vcx (X := ((0 : Int) ≤ 2 ∧ (5 : Nat) < 6 ∧ prePower (x, sqrF es, ()) ∧ True ∧
    (((!decide (zpw x (val (sqrF es)) * zpw x (val (sqrF es)) = x)) = true → (((0 : Fp), false, ()) = outSqrt (x, ()))) ∧
     ((!decide (zpw x (val (sqrF es)) * zpw x (val (sqrF es)) = x)) = false → ((zpw x (val (sqrF es)), true, ()) = outSqrt (x, ())))))) (by kernel_rfl) ?_
  rw [hv]
  refine ⟨by decide, by decide, hw, trivial, fun h => ?_, fun h => ?_⟩
  · have h : ¬ zpw x p14 * zpw x p14 = x := by simpa using h
    simp [outSqrt, fpSqrt, h]
  · have h : zpw x p14 * zpw x p14 = x := by simpa using h
    simp [outSqrt, fpSqrt, h]
noncomputable def spSqrt : Nat × Eng.Spec := (64, fnSpec [.fp] [.val .fp, .val .bool] (fun _ => True) outSqrt)
end Go.Proofs.Ytkfghpniaahjjaa.fp
/- Three points of the curve that come to nought lie on a line. No program here. -/
namespace Cr
open Rg Fd
theorem s_tan {F : Type} [Rg F] (x y u v l : F) : (y + y) * (v - y) - (x * x + x * x + x * x) * (u - x) = (-(y + y)) * (l * (u - x) - (v - y)) + (u - x) * (l * (y + y) - (x * x + x * x + x * x)) :=
  rid [x, y, u, v, l] ((fun (x y u v l : PE) => ((y + y) * (v - y) - (x * x + x * x + x * x) * (u - x))) (.v 0) (.v 1) (.v 2) (.v 3) (.v 4)) ((fun (x y u v l : PE) => ((-(y + y)) * (l * (u - x) - (v - y)) + (u - x) * (l * (y + y) - (x * x + x * x + x * x)))) (.v 0) (.v 1) (.v 2) (.v 3) (.v 4)) (by kernel_rfl)
theorem s_y {F : Type} [Rg F] (x y u v l : F) : v - y = (-1) * (l * (u - x) - (v - y)) + l * (u - x) :=
  rid [x, y, u, v, l] ((fun (x y u v l : PE) => (v - y)) (.v 0) (.v 1) (.v 2) (.v 3) (.v 4)) ((fun (x y u v l : PE) => ((-1) * (l * (u - x) - (v - y)) + l * (u - x))) (.v 0) (.v 1) (.v 2) (.v 3) (.v 4)) (by kernel_rfl)
theorem s_three {F : Type} [Rg F] (x y l : F) : (x * x * (x * x) + x * x * (x * x) + x * x * (x * x) + (x * x * (x * x) + x * x * (x * x) + x * x * (x * x)) + (x * x * (x * x) + x * x * (x * x) + x * x * (x * x))) - (x * (y * y) + x * (y * y) + x * (y * y) + (x * (y * y) + x * (y * y) + x * (y * y)) + (x * (y * y) + x * (y * y) + x * (y * y) + (x * (y * y) + x * (y * y) + x * (y * y)))) = (-(l * (y + y) + (x * x + x * x + x * x))) * (l * (y + y) - (x * x + x * x + x * x)) + (y + y) * (y + y) * ((l * l - x - x) - x) :=
  rid [x, y, l] ((fun (x y l : PE) => ((x * x * (x * x) + x * x * (x * x) + x * x * (x * x) + (x * x * (x * x) + x * x * (x * x) + x * x * (x * x)) + (x * x * (x * x) + x * x * (x * x) + x * x * (x * x))) - (x * (y * y) + x * (y * y) + x * (y * y) + (x * (y * y) + x * (y * y) + x * (y * y)) + (x * (y * y) + x * (y * y) + x * (y * y) + (x * (y * y) + x * (y * y) + x * (y * y)))))) (.v 0) (.v 1) (.v 2)) ((fun (x y l : PE) => ((-(l * (y + y) + (x * x + x * x + x * x))) * (l * (y + y) - (x * x + x * x + x * x)) + (y + y) * (y + y) * ((l * l - x - x) - x))) (.v 0) (.v 1) (.v 2)) (by kernel_rfl)
theorem s_chord {F : Type} [Rg F] (a b c d u v l : F) : (c - a) * (v - b) - (u - a) * (d - b) = (-(c - a)) * (l * (u - a) - (v - b)) + (u - a) * (l * (c - a) - (d - b)) :=
  rid [a, b, c, d, u, v, l] ((fun (a b c d u v l : PE) => ((c - a) * (v - b) - (u - a) * (d - b))) (.v 0) (.v 1) (.v 2) (.v 3) (.v 4) (.v 5) (.v 6)) ((fun (a b c d u v l : PE) => ((-(c - a)) * (l * (u - a) - (v - b)) + (u - a) * (l * (c - a) - (d - b)))) (.v 0) (.v 1) (.v 2) (.v 3) (.v 4) (.v 5) (.v 6)) (by kernel_rfl)
theorem s_lam {F : Type} [Rg F] (a b c d l : F) : (a + c + (l * l - a - c)) * ((c - a) * (c - a)) - (d - b) * (d - b) = (l * (c - a) + (d - b)) * (l * (c - a) - (d - b)) :=
  rid [a, b, c, d, l] ((fun (a b c d l : PE) => ((a + c + (l * l - a - c)) * ((c - a) * (c - a)) - (d - b) * (d - b))) (.v 0) (.v 1) (.v 2) (.v 3) (.v 4)) ((fun (a b c d l : PE) => ((l * (c - a) + (d - b)) * (l * (c - a) - (d - b)))) (.v 0) (.v 1) (.v 2) (.v 3) (.v 4)) (by kernel_rfl)
theorem dbl3 {F : Type} [Rg F] (y : F) : (1 + 1 + 1) * (y * y) = (y + y) * (y + y) - y * y :=
  rid [y] ((fun (y : PE) => ((1 + 1 + 1) * (y * y))) (.v 0)) ((fun (y : PE) => ((y + y) * (y + y) - y * y)) (.v 0)) (by kernel_rfl)
def nine {F : Type} [Rg F] (s : F) : F := s + s + s + (s + s + s) + (s + s + s)
def twelve {F : Type} [Rg F] (t : F) : F := t + t + t + (t + t + t) + (t + t + t + (t + t + t))
variable {F : Type} [Fd F] {b : F}
theorem sides3 (hb : b ≠ 0) {P Q R : F × F} (oP : OnP b P) (oQ : OnP b Q) (hP : P ≠ O2) (hQ : Q ≠ O2) (eR : R = pneg (padd P Q)) (hR : R ≠ O2) :
    (P = Q → (R.1 ≠ P.1 → (P.2 + P.2) * (R.2 - P.2) = (P.1 * P.1 + P.1 * P.1 + P.1 * P.1) * (R.1 - P.1)) ∧ (R.1 = P.1 → R = P ∧ nine (P.1 * P.1 * (P.1 * P.1)) = twelve (P.1 * (P.2 * P.2)))) ∧
    (P ≠ Q → P.1 ≠ Q.1 ∧ (Q.1 - P.1) * (R.2 - P.2) = (R.1 - P.1) * (Q.2 - P.2) ∧ (P.1 + Q.1 + R.1) * ((Q.1 - P.1) * (Q.1 - P.1)) = (Q.2 - P.2) * (Q.2 - P.2)) := by
  have oP' : OnF b P := oP.resolve_left hP
  have oQ' : OnF b Q := oQ.resolve_left hQ
  have hn : Q ≠ pneg P := by
    intro e
    rw [eR, e, add_neg_self, pneg_O] at hR
    exact hR rfl
  obtain ⟨l, h⟩ := (ln_or oP' oQ').resolve_left hn
  have eS := padd_ln hb oP' oQ' h
  have h3 := h.third
  have e1 : R.1 = sx P.1 Q.1 l := by rw [eR, eS]; rfl
  have e2 : R.2 = -sy P.1 P.2 Q.1 l := by rw [eR, eS]; rfl
  rw [← e1, ← e2] at h3
  refine ⟨fun e => ⟨fun _ => ?_, fun ex => ?_⟩, fun e => ⟨?_, ?_, ?_⟩⟩
  · subst e
    exact lc2 _ _ (s_tan P.1 P.2 R.1 R.2 l) h3.1 h.2
  · subst e
    have ey : R.2 = P.2 := lc2 _ _ (s_y P.1 P.2 R.1 R.2 l) h3.1 ex
    refine ⟨Prod.ext ex ey, ?_⟩
    rw [e1] at ex
    exact lc2 _ _ (s_three P.1 P.2 l) h.2 ex
  · exact fun e' => x_ne oP' oQ' (fun e'' => e e''.symm) hn e'.symm
  · exact lc2 _ _ (s_chord P.1 P.2 Q.1 Q.2 R.1 R.2 l) h3.1 h.1
  · rw [e1]
    exact lc1 _ (s_lam P.1 P.2 Q.1 Q.2 l) h.1
/-- A point that is in line with two others is the third one, if one of them is nought. -/
theorem sides0 (hb : b ≠ 0) {P Q R : F × F} (oP : OnP b P) (oQ : OnP b Q) (eR : R = pneg (padd P Q)) :
    (P = O2 → Q = pneg R) ∧ (Q = O2 → P = pneg R) ∧ (R = O2 → P = pneg Q) := by
  refine ⟨fun e => ?_, fun e => ?_, fun e => ?_⟩
  · rw [eR, e, O_add, pneg_pneg]
  · rw [eR, e, add_O, pneg_pneg]
  · have h : padd P Q = O2 := by
      have := congrArg pneg (eR.symm.trans e)
      rwa [pneg_pneg, pneg_O] at this
    have := cancel' hb oP oQ
    rw [h, O_add] at this
    exact this.symm
end Cr
namespace Go.Proofs.Ytkfghpniaahjjaa.law07
set_option maxRecDepth 100000
open Go Go.Eng Go.RowKit Cr Go.Proofs.Ytkfghpniaahjjaa Go.Proofs.Ytkfghpniaahjjaa.g1

theorem ent_wild : enters Try.prog 30 Try.f30 := enters_mk (by kernel_rfl) (by kernel_rfl) (by kernel_rfl)
abbrev preWild : HL [.int .u16] → Prop := fun (n, _) => preW n
noncomputable def wildF : Nat → Int → Fp × Fp
  | 0, _ => (0, 0)
  | m + 1, k => if (fp.fpSqrt ((zm k : Fp) * zm k * zm k + b4)).2 = true ∧ ¬ (fp.fpSqrt ((zm k : Fp) * zm k * zm k + b4)).1 = 0 then (zm k, (fp.fpSqrt ((zm k : Fp) * zm k * zm k + b4)).1) else wildF m (k + 1)
theorem wildF_succ (m : Nat) (k : Int) : wildF (m + 1) k = if (fp.fpSqrt ((zm k : Fp) * zm k * zm k + zm 4)).2 = true ∧ ¬ (fp.fpSqrt ((zm k : Fp) * zm k * zm k + zm 4)).1 = 0 then (zm k, (fp.fpSqrt ((zm k : Fp) * zm k * zm k + zm 4)).1) else wildF m (k + 1) := rfl
noncomputable abbrev outWild : HL [.int .u16] → HO [.val pt1] := fun (n, _) => (wildF 200 n, ())
noncomputable def wldI (n k : Int) : St := mkSt Try.f30.ntmps 32 [(0, sI .u16 n), (2, .is (.one (.ptr 0 0))), (3, sI .u64 k)] [(0, pc (0, 0))]
theorem wrap_u64 {a : Int} (h0 : 0 ≤ a) (h1 : a < 18446744073709551616) : IntKind.u64.wrap a = a := by
  have e : IntKind.u64.wrap a = a % 18446744073709551616 := by simp [IntKind.wrap, IntKind.signed, IntKind.bits]
  rw [e]; omega
theorem fn_wild : FnOk Try.prog 30 [.int .u16] [.val pt1] noG preWild outWild := by
  have hsp : SpecsOk Try.prog (sps [fp.spOf, fp.spSquare, fp.spMul, fp.spAdd, fp.spSqrt, fp.spZero]) := sps_cons (fnSpec_ok fp.fn_of) (sps_cons (fnSpec_ok fp.fn_square) (sps_cons (fnSpec_ok fp.fn_mul) (sps_cons (fnSpec_ok fp.fn_add) (sps_cons (fnSpec_ok fp.fn_sqrt) (sps_cons (fnSpec_ok fp.fn_zero) sps_nil)))))
  refine fn_of_tr (sp := sps [fp.spOf, fp.spSquare, fp.spMul, fp.spAdd, fp.spSqrt, fp.spZero]) ent_wild (by decide) (by decide) (by kernel_rfl) ?_
  rintro w M0 ⟨n, ⟨⟩⟩
  revert n
  intro (n : Int) _ hn
  have hn : 0 ≤ n ∧ n < 65536 := hn
  show Tr _ _ _ _ _ _ _
  refine tr_cut hsp mixed 2 (wldI n (IntKind.u64.wrap n)) True ?_ (fun _ => ?_)
  · refine vcx (X := ((wldI n (IntKind.u64.wrap n)).triv True)) (by kernel_rfl) ?_
    exact triv_intro trivial
  rw [show IntKind.u64.wrap n = n + ((0 : Nat) : Int) by rw [wrap_u64 (by omega) (by omega)]; omega]
  refine tr_countJ hsp mixed [] (wldI n) (fun k => n + (k : Int)) (fun k => wildF 200 n = wildF (200 - k) (n + k)) 200 (fun g => IntKind.u64.wrap (g + 1)) (wldI n) (c := nthC (codeOf Try.f30) 2) (by kernel_rfl) (by kernel_rfl) (le_of_proj (by kernel_rfl) (by kernel_rfl) trivial) (by simp)
    (fun k hk _ _ => by show IntKind.u64.wrap _ = _; rw [wrap_u64 (by omega) (by omega)]; omega) ?_ ?_
  · intro k hk hj
    refine vcx (X := ((decide (n + (↑k : Int) < IntKind.u64.wrap (IntKind.u64.wrap n + (200 : Int))) = true → U64 (n + (↑k : Int)) ∧ True ∧ True ∧ U64 (4 : Int) ∧ True ∧ True ∧ ((fp.fpSqrt (zm (n + (↑k : Int)) * zm (n + (↑k : Int)) * zm (n + (↑k : Int)) + zm (4 : Int))).snd = true → True ∧ ((!decide ((fp.fpSqrt (zm (n + (↑k : Int)) * zm (n + (↑k : Int)) * zm (n + (↑k : Int)) + zm (4 : Int))).fst = (0 : Zm Mp))) = true → ((zm (n + (↑k : Int)), (fp.fpSqrt (zm (n + (↑k : Int)) * zm (n + (↑k : Int)) * zm (n + (↑k : Int)) + zm (4 : Int))).fst), ()) = outWild (n, ())) ∧ ((!decide ((fp.fpSqrt (zm (n + (↑k : Int)) * zm (n + (↑k : Int)) * zm (n + (↑k : Int)) + zm (4 : Int))).fst = (0 : Zm Mp))) = false → (wldI n (IntKind.u64.wrap (n + (↑k : Int) + (1 : Int)))).triv (k < (200 : Nat) ∧ wildF (200 : Nat) n = wildF ((200 : Nat) - (k + (1 : Nat))) (n + (↑(k + (1 : Nat)) : Int))))) ∧ ((fp.fpSqrt (zm (n + (↑k : Int)) * zm (n + (↑k : Int)) * zm (n + (↑k : Int)) + zm (4 : Int))).snd = false → (wldI n (IntKind.u64.wrap (n + (↑k : Int) + (1 : Int)))).triv (k < (200 : Nat) ∧ wildF (200 : Nat) n = wildF ((200 : Nat) - (k + (1 : Nat))) (n + (↑(k + (1 : Nat)) : Int))))) ∧ (decide (n + (↑k : Int) < IntKind.u64.wrap (IntKind.u64.wrap n + (200 : Int))) = false → (wldI n (n + (↑k : Int))).triv (k = (200 : Nat))))) (by kernel_rfl) ?_
    have hw : IntKind.u64.wrap (IntKind.u64.wrap n + 200) = n + 200 := by rw [wrap_u64 (a := n) (by omega) (by omega), wrap_u64 (by omega) (by omega)]
    rw [hw]
    refine ⟨fun h => ?_, fun h => triv_intro (by have := dec_ge h; omega)⟩
    have hlt : k < 200 := by have := dec_lt h; omega
    have hs := wildF_succ (200 - (k + 1)) (n + k)
    rw [show 200 - (k + 1) + 1 = 200 - k by omega] at hs
    rw [hs] at hj
    have en : (n + (k : Int) + 1) = n + ((k + 1 : Nat) : Int) := by omega
    rw [en] at hj
    refine ⟨⟨by omega, by omega⟩, trivial, trivial, ⟨by decide, by decide⟩, trivial, trivial, fun h1 => ⟨trivial, fun h2 => ?_, fun h2 => triv_intro ⟨hlt, ?_⟩⟩, fun h1 => triv_intro ⟨hlt, ?_⟩⟩
    · rw [if_pos ⟨h1, by simpa using h2⟩] at hj
      show _ = (wildF 200 n, ())
      rw [hj]
    · rw [if_neg (by simp at h2; simp [h2])] at hj
      exact hj
    · rw [if_neg (by simp [h1])] at hj
      exact hj
  · intro hj
    refine tr_vc hsp mixed _ _ ?_
    refine vcx (X := ((((0 : Fp), (0 : Fp)), ()) = outWild (n, ()))) (by kernel_rfl) ?_
    show _ = (wildF 200 n, ())
    rw [hj]; rfl
noncomputable def spWild : Nat × Eng.Spec := (30, fnSpec [.int .u16] [.val pt1] preWild outWild)
theorem sqrt_ok {x : Fp} (h : (fp.fpSqrt x).2 = true) : (fp.fpSqrt x).1 * (fp.fpSqrt x).1 = x := by
  unfold fp.fpSqrt at h ⊢
  split at h
  · rename_i e; rw [if_pos e]; exact e
  · cases h
theorem wild_ok : ∀ m k, Onb (wildF m k) ∧ (wildF m k = O2 ∨ (wildF m k).2 ≠ 0) := by
  intro m
  induction m with
  | zero => intro k; exact ⟨.inl rfl, .inl rfl⟩
  | succ m ih =>
    intro k
    rw [wildF]
    split
    · rename_i h
      exact ⟨.inr (sqrt_ok h.1), .inr h.2⟩
    · exact ih _

theorem ent_threefold : enters Try.prog 67 Try.f67 := enters_mk (by kernel_rfl) (by kernel_rfl) (by kernel_rfl)
def threeF (p : Fp × Fp) : Bool := decide (nine (p.1 * p.1 * (p.1 * p.1)) = twelve (p.1 * (p.2 * p.2)))
theorem fn_threefold : FnOk Try.prog 67 [pt1] [.val .bool] noG (fun _ => True) (fun (p, _) => (threeF p, ())) := by
  refine fn_of_vc (sp := sps [fp.spSquare, fp.spMul, fp.spAdd]) (sps_cons (fnSpec_ok fp.fn_square) (sps_cons (fnSpec_ok fp.fn_mul) (sps_cons (fnSpec_ok fp.fn_add) sps_nil))) mixed ent_threefold (by decide) (by decide) ?_
  rintro w M0 ⟨p, ⟨⟩⟩
  revert p
  intro (p : Fp × Fp) _ _
  exact vcx (X := (Trs 12 ((threeF p, ()) = (threeF p, ())))) (by kernel_rfl) (trs rfl _)
noncomputable def spThreefold : Nat × Eng.Spec := (67, fnSpec [pt1] [.val .bool] (fun _ => True) (fun (p, _) => (threeF p, ())))

theorem ent_lambda : enters Try.prog 68 Try.f68 := enters_mk (by kernel_rfl) (by kernel_rfl) (by kernel_rfl)
def lamF (p q r : Fp × Fp) : Bool := decide ((p.1 + q.1 + r.1) * ((q.1 - p.1) * (q.1 - p.1)) = (q.2 - p.2) * (q.2 - p.2))
theorem fn_lambda : FnOk Try.prog 68 [pt1, pt1, pt1] [.val .bool] noG (fun _ => True) (fun (p, q, r, _) => (lamF p q r, ())) := by
  refine fn_of_vc (sp := sps [fp.spSquare, fp.spMul, fp.spAdd, fp.spSub]) (sps_cons (fnSpec_ok fp.fn_square) (sps_cons (fnSpec_ok fp.fn_mul) (sps_cons (fnSpec_ok fp.fn_add) (sps_cons (fnSpec_ok fp.fn_sub) sps_nil)))) mixed ent_lambda (by decide) (by decide) ?_
  rintro w M0 ⟨p, q, r, ⟨⟩⟩
  revert p q r
  intro (p : Fp × Fp) (q : Fp × Fp) (r : Fp × Fp) _ _
  exact vcx (X := (Trs 7 ((lamF p q r, ()) = (lamF p q r, ())))) (by kernel_rfl) (trs rfl _)
noncomputable def spLambda : Nat × Eng.Spec := (68, fnSpec [pt1, pt1, pt1] [.val .bool] (fun _ => True) (fun (p, q, r, _) => (lamF p q r, ())))

theorem eqP (a b : Fp × Fp) : eqC (.pair .fp .fp) a b = decide (a = b) := by
  have h := eqC_iff (e := .pair .fp .fp) a b
  rw [Bool.eq_iff_iff, h, decide_eq_true_iff]
theorem eqF (a b : Fp) : eqC .fp a b = decide (a = b) := rfl
theorem ent_sides : enters Try.prog 31 Try.f31 := enters_mk (by kernel_rfl) (by kernel_rfl) (by kernel_rfl)
theorem fn_sides : FnOk Try.prog 31 [pt1, pt1, pt1] [.val .bool] noG (fun (p, q, r, _) => Onb p ∧ Onb q ∧ r = pneg (padd p q)) (fun _ => (true, ())) := by
  refine fn_of_vc (sp := sps [fp.spSquare, fp.spMul, fp.spAdd, fp.spSub, soNeg, spThreefold, spLambda]) (sps_cons (fnSpec_ok fp.fn_square) (sps_cons (fnSpec_ok fp.fn_mul) (sps_cons (fnSpec_ok fp.fn_add) (sps_cons (fnSpec_ok fp.fn_sub) (sps_cons (fnSpec_ok fo_neg) (sps_cons (fnSpec_ok fn_threefold) (sps_cons (fnSpec_ok fn_lambda) sps_nil))))))) mixed ent_sides (by decide) (by decide) ?_
  rintro w M0 ⟨p, q, r, ⟨⟩⟩
  revert p q r
  intro (p : Fp × Fp) (q : Fp × Fp) (r : Fp × Fp) _ hp
  obtain ⟨hP, hQ, hR⟩ := hp
  refine vcx (X := ((eqC (Kd.fp.pair Kd.fp) p ((0 : Fp), (0 : Fp)) = true → (eqC (Kd.fp.pair Kd.fp) p ((0 : Fp), (0 : Fp)) = true → True ∧ (eqC (Kd.fp.pair Kd.fp) q (gneg r) = true → (true, ()) = (true, ())) ∧ (eqC (Kd.fp.pair Kd.fp) q (gneg r) = false → (eqC (Kd.fp.pair Kd.fp) q ((0 : Fp), (0 : Fp)) = true → True ∧ (eqC (Kd.fp.pair Kd.fp) p (gneg r) = true → (true, ()) = (true, ())) ∧ (eqC (Kd.fp.pair Kd.fp) p (gneg r) = false → (eqC (Kd.fp.pair Kd.fp) r ((0 : Fp), (0 : Fp)) = true → True ∧ (eqC (Kd.fp.pair Kd.fp) p (gneg q), ()) = (true, ())) ∧ (eqC (Kd.fp.pair Kd.fp) r ((0 : Fp), (0 : Fp)) = false → (false, ()) = (true, ())))) ∧ (eqC (Kd.fp.pair Kd.fp) q ((0 : Fp), (0 : Fp)) = false → (eqC (Kd.fp.pair Kd.fp) r ((0 : Fp), (0 : Fp)) = true → True ∧ (eqC (Kd.fp.pair Kd.fp) p (gneg q), ()) = (true, ())) ∧ (eqC (Kd.fp.pair Kd.fp) r ((0 : Fp), (0 : Fp)) = false → (false, ()) = (true, ()))))) ∧ (eqC (Kd.fp.pair Kd.fp) p ((0 : Fp), (0 : Fp)) = false → (eqC (Kd.fp.pair Kd.fp) q ((0 : Fp), (0 : Fp)) = true → True ∧ (eqC (Kd.fp.pair Kd.fp) p (gneg r) = true → (true, ()) = (true, ())) ∧ (eqC (Kd.fp.pair Kd.fp) p (gneg r) = false → (eqC (Kd.fp.pair Kd.fp) r ((0 : Fp), (0 : Fp)) = true → True ∧ (eqC (Kd.fp.pair Kd.fp) p (gneg q), ()) = (true, ())) ∧ (eqC (Kd.fp.pair Kd.fp) r ((0 : Fp), (0 : Fp)) = false → (false, ()) = (true, ())))) ∧ (eqC (Kd.fp.pair Kd.fp) q ((0 : Fp), (0 : Fp)) = false → (eqC (Kd.fp.pair Kd.fp) r ((0 : Fp), (0 : Fp)) = true → True ∧ (eqC (Kd.fp.pair Kd.fp) p (gneg q), ()) = (true, ())) ∧ (eqC (Kd.fp.pair Kd.fp) r ((0 : Fp), (0 : Fp)) = false → (false, ()) = (true, ()))))) ∧ (eqC (Kd.fp.pair Kd.fp) p ((0 : Fp), (0 : Fp)) = false → (eqC (Kd.fp.pair Kd.fp) q ((0 : Fp), (0 : Fp)) = true → (eqC (Kd.fp.pair Kd.fp) p ((0 : Fp), (0 : Fp)) = true → True ∧ (eqC (Kd.fp.pair Kd.fp) q (gneg r) = true → (true, ()) = (true, ())) ∧ (eqC (Kd.fp.pair Kd.fp) q (gneg r) = false → (eqC (Kd.fp.pair Kd.fp) q ((0 : Fp), (0 : Fp)) = true → True ∧ (eqC (Kd.fp.pair Kd.fp) p (gneg r) = true → (true, ()) = (true, ())) ∧ (eqC (Kd.fp.pair Kd.fp) p (gneg r) = false → (eqC (Kd.fp.pair Kd.fp) r ((0 : Fp), (0 : Fp)) = true → True ∧ (eqC (Kd.fp.pair Kd.fp) p (gneg q), ()) = (true, ())) ∧ (eqC (Kd.fp.pair Kd.fp) r ((0 : Fp), (0 : Fp)) = false → (false, ()) = (true, ())))) ∧ (eqC (Kd.fp.pair Kd.fp) q ((0 : Fp), (0 : Fp)) = false → (eqC (Kd.fp.pair Kd.fp) r ((0 : Fp), (0 : Fp)) = true → True ∧ (eqC (Kd.fp.pair Kd.fp) p (gneg q), ()) = (true, ())) ∧ (eqC (Kd.fp.pair Kd.fp) r ((0 : Fp), (0 : Fp)) = false → (false, ()) = (true, ()))))) ∧ (eqC (Kd.fp.pair Kd.fp) p ((0 : Fp), (0 : Fp)) = false → (eqC (Kd.fp.pair Kd.fp) q ((0 : Fp), (0 : Fp)) = true → True ∧ (eqC (Kd.fp.pair Kd.fp) p (gneg r) = true → (true, ()) = (true, ())) ∧ (eqC (Kd.fp.pair Kd.fp) p (gneg r) = false → (eqC (Kd.fp.pair Kd.fp) r ((0 : Fp), (0 : Fp)) = true → True ∧ (eqC (Kd.fp.pair Kd.fp) p (gneg q), ()) = (true, ())) ∧ (eqC (Kd.fp.pair Kd.fp) r ((0 : Fp), (0 : Fp)) = false → (false, ()) = (true, ())))) ∧ (eqC (Kd.fp.pair Kd.fp) q ((0 : Fp), (0 : Fp)) = false → (eqC (Kd.fp.pair Kd.fp) r ((0 : Fp), (0 : Fp)) = true → True ∧ (eqC (Kd.fp.pair Kd.fp) p (gneg q), ()) = (true, ())) ∧ (eqC (Kd.fp.pair Kd.fp) r ((0 : Fp), (0 : Fp)) = false → (false, ()) = (true, ()))))) ∧ (eqC (Kd.fp.pair Kd.fp) q ((0 : Fp), (0 : Fp)) = false → (eqC (Kd.fp.pair Kd.fp) r ((0 : Fp), (0 : Fp)) = true → (eqC (Kd.fp.pair Kd.fp) p ((0 : Fp), (0 : Fp)) = true → True ∧ (eqC (Kd.fp.pair Kd.fp) q (gneg r) = true → (true, ()) = (true, ())) ∧ (eqC (Kd.fp.pair Kd.fp) q (gneg r) = false → (eqC (Kd.fp.pair Kd.fp) q ((0 : Fp), (0 : Fp)) = true → True ∧ (eqC (Kd.fp.pair Kd.fp) p (gneg r) = true → (true, ()) = (true, ())) ∧ (eqC (Kd.fp.pair Kd.fp) p (gneg r) = false → (eqC (Kd.fp.pair Kd.fp) r ((0 : Fp), (0 : Fp)) = true → True ∧ (eqC (Kd.fp.pair Kd.fp) p (gneg q), ()) = (true, ())) ∧ (eqC (Kd.fp.pair Kd.fp) r ((0 : Fp), (0 : Fp)) = false → (false, ()) = (true, ())))) ∧ (eqC (Kd.fp.pair Kd.fp) q ((0 : Fp), (0 : Fp)) = false → (eqC (Kd.fp.pair Kd.fp) r ((0 : Fp), (0 : Fp)) = true → True ∧ (eqC (Kd.fp.pair Kd.fp) p (gneg q), ()) = (true, ())) ∧ (eqC (Kd.fp.pair Kd.fp) r ((0 : Fp), (0 : Fp)) = false → (false, ()) = (true, ()))))) ∧ (eqC (Kd.fp.pair Kd.fp) p ((0 : Fp), (0 : Fp)) = false → (eqC (Kd.fp.pair Kd.fp) q ((0 : Fp), (0 : Fp)) = true → True ∧ (eqC (Kd.fp.pair Kd.fp) p (gneg r) = true → (true, ()) = (true, ())) ∧ (eqC (Kd.fp.pair Kd.fp) p (gneg r) = false → (eqC (Kd.fp.pair Kd.fp) r ((0 : Fp), (0 : Fp)) = true → True ∧ (eqC (Kd.fp.pair Kd.fp) p (gneg q), ()) = (true, ())) ∧ (eqC (Kd.fp.pair Kd.fp) r ((0 : Fp), (0 : Fp)) = false → (false, ()) = (true, ())))) ∧ (eqC (Kd.fp.pair Kd.fp) q ((0 : Fp), (0 : Fp)) = false → (eqC (Kd.fp.pair Kd.fp) r ((0 : Fp), (0 : Fp)) = true → True ∧ (eqC (Kd.fp.pair Kd.fp) p (gneg q), ()) = (true, ())) ∧ (eqC (Kd.fp.pair Kd.fp) r ((0 : Fp), (0 : Fp)) = false → (false, ()) = (true, ()))))) ∧ (eqC (Kd.fp.pair Kd.fp) r ((0 : Fp), (0 : Fp)) = false → (eqC (Kd.fp.pair Kd.fp) p q = true → True ∧ ((!eqC Kd.fp r.fst p.fst) = true → True ∧ True ∧ True ∧ True ∧ True ∧ True ∧ True ∧ (eqC Kd.fp ((p.snd + p.snd) * (r.snd - p.snd)) ((p.fst * p.fst + p.fst * p.fst + p.fst * p.fst) * (r.fst - p.fst)) = true → (true, ()) = (true, ())) ∧ (eqC Kd.fp ((p.snd + p.snd) * (r.snd - p.snd)) ((p.fst * p.fst + p.fst * p.fst + p.fst * p.fst) * (r.fst - p.fst)) = false → (eqC Kd.fp r.fst p.fst = true → (eqC (Kd.fp.pair Kd.fp) r p = true → True ∧ (threeF p, ()) = (true, ())) ∧ (eqC (Kd.fp.pair Kd.fp) r p = false → (false, ()) = (true, ()))) ∧ (eqC Kd.fp r.fst p.fst = false → (false, ()) = (true, ())))) ∧ ((!eqC Kd.fp r.fst p.fst) = false → (eqC Kd.fp r.fst p.fst = true → (eqC (Kd.fp.pair Kd.fp) r p = true → True ∧ (threeF p, ()) = (true, ())) ∧ (eqC (Kd.fp.pair Kd.fp) r p = false → (false, ()) = (true, ()))) ∧ (eqC Kd.fp r.fst p.fst = false → (false, ()) = (true, ())))) ∧ (eqC (Kd.fp.pair Kd.fp) p q = false → (eqC Kd.fp p.fst q.fst = true → (false, ()) = (true, ())) ∧ (eqC Kd.fp p.fst q.fst = false → True ∧ True ∧ True ∧ True ∧ True ∧ True ∧ (eqC Kd.fp ((q.fst - p.fst) * (r.snd - p.snd)) ((r.fst - p.fst) * (q.snd - p.snd)) = true → True ∧ (lamF p q r, ()) = (true, ())) ∧ (eqC Kd.fp ((q.fst - p.fst) * (r.snd - p.snd)) ((r.fst - p.fst) * (q.snd - p.snd)) = false → (false, ()) = (true, ()))))))))) (by kernel_rfl) ?_
  have h0 := sides0 b4_ne hP hQ hR
  have h3 := fun a b => sides3 b4_ne hP hQ a b hR
  simp only [eqP, eqF, gneg_eq]
  by_cases h1 : p = (0, 0)
  · have e := h0.1 h1
    simp [h1, ← e]
  by_cases h2 : q = (0, 0)
  · have e := h0.2.1 h2
    simp [h1, h2, ← e]
  by_cases h4 : r = (0, 0)
  · have e := h0.2.2 h4
    simp [h1, h2, h4, ← e]
  have h3 := h3 h1 h2 h4
  by_cases h5 : p = q
  · obtain ⟨g1, g2⟩ := h3.1 h5
    subst h5
    by_cases h6 : r.1 = p.1
    · obtain ⟨g3, g4⟩ := g2 h6
      simp [h1, g3, g4, threeF]
    · have g1 := g1 h6
      simp [h1, h4, h6, g1]
  · obtain ⟨g1, g2, g3⟩ := h3.2 h5
    simp [h1, h2, h4, h5, g1, g2, g3, lamF]
noncomputable def spSides : Nat × Eng.Spec := (31, fnSpec [pt1, pt1, pt1] [.val .bool] (fun (p, q, r, _) => Onb p ∧ Onb q ∧ r = pneg (padd p q)) (fun _ => (true, ())))
end Go.Proofs.Ytkfghpniaahjjaa.law07
