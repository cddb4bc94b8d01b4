/- law14: head, places, made. -/
import Derived.Test.YtbfimfdhmggieaaML14vPS
/- What rows ask of their arguments. -/
namespace Go.Proofs.Ytbfimfdhmggieaa
open Go Go.Eng Cr
abbrev bsl : Kd := .sl (.int .u8)
/-- Bytes of an input. -/
abbrev preB (b : List Int) : Prop := Bs b ∧ List.length b ≤ 281474976710656
abbrev preBB (bs : List (List Int)) : Prop := (∀ b ∈ bs, preB b) ∧ List.length bs ≤ 281474976710656
abbrev preI (x : Int) : Prop := -9223372036854775808 ≤ x ∧ x < 9223372036854775808
end Go.Proofs.Ytbfimfdhmggieaa
/- Helpers of laws. -/
namespace Go.Proofs.Ytbfimfdhmggieaa
open Go Go.Eng Cr
theorem eqP (a b : Fp × Fp) : eqC (.pair .fp .fp) a b = decide (a = b) := by
  have h := eqC_iff (e := .pair .fp .fp) a b
  rw [Bool.eq_iff_iff, h, decide_eq_true_iff]
theorem eqR (a b : Fr) : eqC .fr a b = decide (a = b) := rfl
abbrev ok (b : Bool) : Prop := ((b, ()) : Bool × Unit) = (true, ())
end Go.Proofs.Ytbfimfdhmggieaa
/- Polynomials, and Lagrange's weights at 0. No program here. -/
namespace Cr
open Rg Fd
theorem l_sd {F : Type} [Rg F] (a x c y z : F) : y * c + a - (z * x + a) = (c - x) * y + x * (y - z) :=
  rid [a, x, c, y, z] ((fun (a x c y z : PE) => (y * c + a - (z * x + a))) (.v 0) (.v 1) (.v 2) (.v 3) (.v 4)) ((fun (a x c y z : PE) => ((c - x) * y + x * (y - z))) (.v 0) (.v 1) (.v 2) (.v 3) (.v 4)) (by kernel_rfl)
theorem l_sd2 {F : Type} [Rg F] (x c y v : F) : (c - x) * y + x * ((c - x) * v) = (c - x) * (v * x + y) :=
  rid [x, c, y, v] ((fun (x c y v : PE) => ((c - x) * y + x * ((c - x) * v))) (.v 0) (.v 1) (.v 2) (.v 3)) ((fun (x c y v : PE) => ((c - x) * (v * x + y))) (.v 0) (.v 1) (.v 2) (.v 3)) (by kernel_rfl)
theorem l_lin {F : Type} [Rg F] (a c u x l : F) : (a * l - u - x * l) * x + (a * u - c) = a * (l * x + u) - c - x * (l * x + u) :=
  rid [a, c, u, x, l] ((fun (a c u x l : PE) => ((a * l - u - x * l) * x + (a * u - c))) (.v 0) (.v 1) (.v 2) (.v 3) (.v 4)) ((fun (a c u x l : PE) => (a * (l * x + u) - c - x * (l * x + u))) (.v 0) (.v 1) (.v 2) (.v 3) (.v 4)) (by kernel_rfl)
theorem l_lin0 {F : Type} [Rg F] (a x u : F) : a * u - 0 - x * u = (a - x) * u :=
  rid [a, x, u] ((fun (a x u : PE) => (a * u - 0 - x * u)) (.v 0) (.v 1) (.v 2)) ((fun (a x u : PE) => ((a - x) * u)) (.v 0) (.v 1) (.v 2)) (by kernel_rfl)
theorem l_w {F : Type} [Rg F] (w y i q d g : F) : w * (y * i) * (q - d * g) = y * q * (w * i) - y * (w * (i * d * g)) :=
  rid [w, y, i, q, d, g] ((fun (w y i q d g : PE) => (w * (y * i) * (q - d * g))) (.v 0) (.v 1) (.v 2) (.v 3) (.v 4) (.v 5)) ((fun (w y i q d g : PE) => (y * q * (w * i) - y * (w * (i * d * g)))) (.v 0) (.v 1) (.v 2) (.v 3) (.v 4) (.v 5)) (by kernel_rfl)
theorem l_e1 {F : Type} [Rg F] (q u y v i y2 g : F) : q * (u * i) + (y * q * (i * v) - y2 * g) = q * (i * (u + y * v)) - y2 * g :=
  rid [q, u, y, v, i, y2, g] ((fun (q u y v i y2 g : PE) => (q * (u * i) + (y * q * (i * v) - y2 * g))) (.v 0) (.v 1) (.v 2) (.v 3) (.v 4) (.v 5) (.v 6)) ((fun (q u y v i y2 g : PE) => (q * (i * (u + y * v)) - y2 * g)) (.v 0) (.v 1) (.v 2) (.v 3) (.v 4) (.v 5) (.v 6)) (by kernel_rfl)
theorem l_wc {F : Type} [Rg F] (x a d b : F) : x * a * (d * b) = a * b * (x * d) :=
  rid [x, a, d, b] ((fun (x a d b : PE) => (x * a * (d * b))) (.v 0) (.v 1) (.v 2) (.v 3)) ((fun (x a d b : PE) => (a * b * (x * d))) (.v 0) (.v 1) (.v 2) (.v 3)) (by kernel_rfl)
theorem l_q0 {F : Type} [Rg F] (a b : F) : a - b + b = a :=
  rid [a, b] ((fun (a b : PE) => (a - b + b)) (.v 0) (.v 1)) ((fun (a b : PE) => (a)) (.v 0) (.v 1)) (by kernel_rfl)
theorem l_sub {F : Type} [Rg F] (a b c d : F) : a - b + (c - d) = a + c - (b + d) :=
  rid [a, b, c, d] ((fun (a b c d : PE) => (a - b + (c - d))) (.v 0) (.v 1) (.v 2) (.v 3)) ((fun (a b c d : PE) => (a + c - (b + d))) (.v 0) (.v 1) (.v 2) (.v 3)) (by kernel_rfl)
theorem l_s0 {F : Type} [Rg F] (q d : F) : q - (q - d) = d :=
  rid [q, d] ((fun (q d : PE) => (q - (q - d))) (.v 0) (.v 1)) ((fun (q d : PE) => (d)) (.v 0) (.v 1)) (by kernel_rfl)
section
variable {F : Type} [Rg F]
/-- What a polynomial is at a place; the lowest factor first. -/
def peval : List F → F → F
  | [], _ => 0
  | a :: l, x => peval l x * x + a
def prd : List F → F
  | [] => 1
  | a :: l => a * prd l
def sm : List F → F
  | [] => 0
  | a :: l => a + sm l
/-- p(c) - p(X) is (c - X) times a polynomial of one factor less. -/
theorem synth : ∀ (p : List F) (c : F), ∃ q : List F, q.length = p.length - 1 ∧ ∀ x, peval p c - peval p x = (c - x) * peval q x
  | [], c => ⟨[], rfl, fun x => by show (0 : F) - 0 = (c - x) * 0; rw [sub_self, mul_zero]⟩
  | a :: l, c => by
    obtain ⟨q, hq, h⟩ := synth l c
    cases l with
    | nil => exact ⟨[], rfl, fun x => by show (0 : F) * c + a - (0 * x + a) = (c - x) * 0; rw [zero_mul, zero_mul, sub_self, mul_zero]⟩
    | cons b l =>
      refine ⟨peval (b :: l) c :: q, by simp at hq ⊢; omega, fun x => ?_⟩
      show peval (b :: l) c * c + a - (peval (b :: l) x * x + a) = (c - x) * (peval q x * x + peval (b :: l) c)
      rw [l_sd, h, l_sd2]
/-- (a - X) times a polynomial. -/
def linM (a : F) : F → List F → List F
  | c, [] => [-c]
  | c, u :: l => (a * u - c) :: linM a u l
theorem linM_len (a : F) : ∀ (l : List F) (c : F), (linM a c l).length = l.length + 1
  | [], _ => rfl
  | u :: l, c => by simp [linM, linM_len a l u]
theorem linM_eval (a x : F) : ∀ (l : List F) (c : F), peval (linM a c l) x = a * peval l x - c - x * peval l x
  | [], c => by
    show 0 * x + -c = a * 0 - c - x * 0
    rw [zero_mul, mul_zero, mul_zero, zero_add, sub_def, sub_def, zero_add, neg_zero, add_zero]
  | u :: l, c => by
    show peval (linM a u l) x * x + (a * u - c) = a * (peval l x * x + u) - c - x * (peval l x * x + u)
    rw [linM_eval a x l u, l_lin]
theorem prodP : ∀ (xs : List F), ∃ u : List F, u.length = xs.length + 1 ∧ ∀ x, peval u x = prd (xs.map fun y => y - x)
  | [] => ⟨[1], rfl, fun x => by show 0 * x + 1 = (1 : F); rw [zero_mul, zero_add]⟩
  | a :: xs => by
    obtain ⟨u, hu, h⟩ := prodP xs
    refine ⟨linM a 0 u, by rw [linM_len, hu]; rfl, fun x => ?_⟩
    rw [linM_eval, l_lin0, h]; rfl
theorem sm_congr {α : Type} {f g : α → F} : ∀ {l : List α}, (∀ x ∈ l, f x = g x) → sm (l.map f) = sm (l.map g)
  | [], _ => rfl
  | a :: l, h => by
    show f a + sm (l.map f) = g a + sm (l.map g)
    rw [h a (by simp), sm_congr (fun x hx => h x (by simp [hx]))]
theorem sm_sub {α : Type} (f g : α → F) : ∀ (l : List α), sm (l.map fun x => f x - g x) = sm (l.map f) - sm (l.map g)
  | [] => by show (0 : F) = 0 - 0; rw [sub_self]
  | a :: l => by
    show f a - g a + sm (l.map fun x => f x - g x) = f a + sm (l.map f) - (g a + sm (l.map g))
    rw [sm_sub f g l, l_sub]
theorem sm_mul {α : Type} (c : F) (f : α → F) : ∀ (l : List α), sm (l.map fun x => c * f x) = c * sm (l.map f)
  | [] => by show (0 : F) = c * 0; rw [mul_zero]
  | a :: l => by
    show c * f a + sm (l.map fun x => c * f x) = c * (f a + sm (l.map f))
    rw [sm_mul c f l, mul_add]
theorem prd_zero {l : List F} (h : (0 : F) ∈ l) : prd l = 0 := by
  induction l with
  | nil => cases h
  | cons a l ih =>
    show a * prd l = 0
    rcases List.mem_cons.1 h with h | h
    · rw [← h, zero_mul]
    · rw [ih h, mul_zero]
end
section
variable {F : Type} [Fd F]
theorem prd_ne {l : List F} (h : ∀ x ∈ l, x ≠ 0) : prd l ≠ 0 := by
  induction l with
  | nil => exact one_ne
  | cons a l ih => exact mul_ne (h a (by simp)) (ih fun x hx => h x (by simp [hx]))
theorem inv_of {a b : F} (ha : a ≠ 0) (h : a * b = 1) : inv a = b := by
  refine mul_left ha ?_
  rw [mul_inv a ha, h]
theorem inv_mul {a b : F} (ha : a ≠ 0) (hb : b ≠ 0) : inv (a * b) = inv a * inv b := by
  refine inv_of (mul_ne ha hb) ?_
  rw [mul_comm a b, mul_assoc, ← mul_assoc a, mul_inv a ha, one_mul, mul_inv b hb]
/-- The weight of x among places. -/
def wgt (xs : List F) (x : F) : F := prd (xs.filter fun y => decide (y ≠ x)) * inv (prd ((xs.filter fun y => decide (y ≠ x)).map fun y => y - x))
theorem wgt_cons {x0 x : F} {xs : List F} (h : x0 ≠ x) : wgt (x0 :: xs) x = wgt xs x * (x0 * inv (x0 - x)) := by
  unfold wgt
  rw [List.filter_cons_of_pos (by simp [h])]
  show x0 * prd _ * inv ((x0 - x) * prd _) = _
  have hn : prd ((xs.filter fun y => decide (y ≠ x)).map fun y => y - x) ≠ 0 := by
    refine prd_ne fun z hz => ?_
    obtain ⟨y, hy, rfl⟩ := List.mem_map.1 hz
    have := (List.mem_filter.1 hy).2
    exact sub_ne (by simpa using this)
  rw [inv_mul (sub_ne h) hn]
  exact l_wc _ _ _ _
theorem wgt_head {x0 : F} {xs : List F} (h : x0 ∉ xs) : wgt (x0 :: xs) x0 = prd xs * inv (prd (xs.map fun y => y - x0)) := by
  unfold wgt
  rw [List.filter_cons_of_neg (by simp)]
  have : xs.filter (fun y => decide (y ≠ x0)) = xs := by
    rw [List.filter_eq_self]
    intro y hy
    simp only [decide_eq_true_eq]
    exact fun e => h (e ▸ hy)
  rw [this]
theorem prd_sub0 : ∀ (l : List F), prd (l.map fun y => y - 0) = prd l
  | [] => rfl
  | a :: l => by show (a - 0) * prd _ = a * prd l; rw [prd_sub0 l, sub_def, neg_zero, add_zero]
/-- LAGRANGE: the weights give a polynomial's value at 0. -/
theorem lagrange : ∀ {xs : List F}, xs.Nodup → ∀ q : List F, q.length ≤ xs.length → sm (xs.map fun x => wgt xs x * peval q x) = peval q 0
  | [], _, q, hq => by
    have : q = [] := by cases q with
      | nil => rfl
      | cons a l => simp at hq
    subst this; rfl
  | x0 :: xs, hd, q, hq => by
    have hx0 : x0 ∉ xs := (List.nodup_cons.1 hd).1
    have hxs := (List.nodup_cons.1 hd).2
    obtain ⟨u, hul, hu⟩ := prodP xs
    obtain ⟨v, hvl, hv⟩ := synth u x0
    obtain ⟨g, hgl, hg⟩ := synth q x0
    have ihv := lagrange hxs v (by omega)
    have ihg := lagrange hxs g (by simp at hq; omega)
    have hU : peval u x0 ≠ 0 := by
      rw [hu]
      refine prd_ne fun z hz => ?_
      obtain ⟨y, hy, rfl⟩ := List.mem_map.1 hz
      exact sub_ne fun e => hx0 (e ▸ hy)
    have hUi := mul_inv _ hU
    have key : ∀ x ∈ xs, wgt (x0 :: xs) x * peval q x = x0 * peval q x0 * (inv (peval u x0) * (wgt xs x * peval v x)) - x0 * (wgt xs x * peval g x) := by
      intro x hx
      have hne : x0 ≠ x := fun e => hx0 (e ▸ hx)
      have hux : peval u x = 0 := by
        rw [hu]
        exact prd_zero (List.mem_map.2 ⟨x, hx, sub_self x⟩)
      have h1 := hv x
      rw [hux] at h1
      have h1 : peval u x0 = (x0 - x) * peval v x := by rw [← h1, sub_def, neg_zero, add_zero]
      have hd0 := sub_ne hne
      have hi : inv (x0 - x) = peval v x * inv (peval u x0) := inv_of hd0 (by rw [← mul_assoc, ← h1, hUi])
      have hdi : inv (x0 - x) * (x0 - x) = 1 := by rw [mul_comm, mul_inv _ hd0]
      have hq1 : peval q x = peval q x0 - (x0 - x) * peval g x := by rw [← hg x, l_s0]
      rw [wgt_cons hne, hq1, l_w, hdi, one_mul, hi, mul_comm (peval v x), ← mul_assoc (wgt xs x), mul_comm (wgt xs x), mul_assoc (inv _)]
    show wgt (x0 :: xs) x0 * peval q x0 + sm (xs.map fun x => wgt (x0 :: xs) x * peval q x) = peval q 0
    rw [sm_congr key, sm_sub, sm_mul, sm_mul, sm_mul, ihv, ihg, wgt_head hx0, ← hu x0, ← prd_sub0 xs, ← hu 0]
    have hv0 := hv 0
    have hg0 := hg 0
    rw [sub_def x0, neg_zero, add_zero] at hv0 hg0
    have e1 : peval u 0 + x0 * peval v 0 = peval u x0 := by rw [← hv0, add_comm, l_q0]
    have e2 : peval q x0 - x0 * peval g 0 = peval q 0 := by rw [← hg0, l_s0]
    rw [mul_comm _ (peval q x0), l_e1, e1, mul_comm (inv _), hUi, mul_one, e2]
end
end Cr
/- A number's bytes without noughts ahead; Lagrange's sums of points. No program here. -/
namespace Cr
/-- The bytes of n above the lowest 8 - j, without noughts ahead. -/
def byL (n : Int) : Nat → List Int
  | 0 => []
  | j + 1 => if n / p256 (7 - j) = 0 then byL n j else byL n j ++ [n / p256 (7 - j) % 256]
theorem byL_ok {n : Int} (h0 : 0 ≤ n) (h1 : n < p256 8) : ∀ j, j ≤ 8 → Bs (byL n j) ∧ (byL n j).length ≤ j ∧ num (byL n j) = n / p256 (8 - j)
  | 0, _ => ⟨(fun x h => nomatch h), Nat.le_refl _, by
      show (0 : Int) = n / p256 8
      rw [Int.ediv_eq_zero_of_lt h0 h1]⟩
  | j + 1, hj => by
    obtain ⟨h2, h3, h4⟩ := byL_ok h0 h1 j (by omega)
    have e1 : 8 - j = (7 - j) + 1 := by omega
    have e2 : 8 - (j + 1) = 7 - j := by omega
    have hp := p256_pos (7 - j)
    have e3 : n / p256 (8 - j) = n / p256 (7 - j) / 256 := by
      rw [e1]
      show n / (256 * p256 (7 - j)) = _
      rw [Int.mul_comm, Int.ediv_ediv_of_nonneg (Int.le_of_lt hp)]
    have hq : 0 ≤ n / p256 (7 - j) := Int.ediv_nonneg h0 (Int.le_of_lt hp)
    rw [e2]
    unfold byL
    split
    · rename_i e
      refine ⟨h2, by omega, ?_⟩
      rw [h4, e3, e]; rfl
    · refine ⟨?_, by simp; omega, ?_⟩
      · intro x hx
        rcases List.mem_append.1 hx with hx | hx
        · exact h2 x hx
        · simp at hx; subst hx; exact ⟨Int.emod_nonneg _ (by decide), Int.emod_lt_of_pos _ (by decide)⟩
      · rw [num_snoc, h4, e3]
        omega
end Cr
/- power, Inv of package fr. Printed by gen_pow.py. -/
namespace Go.Proofs.Ytbfimfdhmggieaa.fr
set_option maxRecDepth 100000
open Go Go.Eng Go.RowKit Cr Go.Proofs.Ytbfimfdhmggieaa

theorem ent_power : enters Try.prog 65 Try.f65 := enters_mk (by kernel_rfl) (by kernel_rfl) (by kernel_rfl)
noncomputable def powI (x : Fr) (es : List Int) (g : Int × List Fr) : St := mkSt Try.f65.ntmps 64 [(2, .is (.one (.ptr 0 0))), (3, .is (.one (.ptr 8 0))), (4, .is (.one (.ptr 16 0))), (5, .is (.one (.ptr 24 0))), (11, sI .i64 g.1)] [(0, [.row .fr 1 [x]]), (8, [.ints .u64 4 es]), (16, [.row .fr 1 [(0 : Fr)]]), (24, [.row .fr 16 g.2])]
noncomputable def powJ (es : List Int) (tb : List Fr) (g : Int × Fr) : St := mkSt Try.f65.ntmps 96 [(3, .is (.one (.ptr 8 0))), (4, .is (.one (.ptr 16 0))), (5, .is (.one (.ptr 24 0))), (7, .is (.one (.ptr 72 0))), (24, sI .i64 g.1)] [(8, [.ints .u64 4 es]), (16, [.row .fr 1 [(0 : Fr)]]), (24, [.row .fr 16 tb]), (72, [.row .fr 1 [g.2]])]
noncomputable def powK (es : List Int) (tb : List Fr) (i : Int) (g : Int × Fr) : St := mkSt Try.f65.ntmps 128 [(3, .is (.one (.ptr 8 0))), (4, .is (.one (.ptr 16 0))), (5, .is (.one (.ptr 24 0))), (7, .is (.one (.ptr 72 0))), (8, sI .i64 i), (24, sI .i64 i), (27, sI .i64 g.1)] [(8, [.ints .u64 4 es]), (16, [.row .fr 1 [(0 : Fr)]]), (24, [.row .fr 16 tb]), (72, [.row .fr 1 [g.2]])]
noncomputable def powL (es : List Int) (tb : List Fr) (i : Int) (y : Fr) : St := mkSt Try.f65.ntmps 104 [(3, .is (.one (.ptr 8 0))), (4, .is (.one (.ptr 16 0))), (5, .is (.one (.ptr 24 0))), (7, .is (.one (.ptr 72 0))), (24, sI .i64 i)] [(8, [.ints .u64 4 es]), (16, [.row .fr 1 [(0 : Fr)]]), (24, [.row .fr 16 tb]), (72, [.row .fr 1 [y]])]
abbrev prePower : HL [.fr, (.arr 4 (.int .u64))] → Prop := fun (_, es, _) => Ws es
noncomputable abbrev outPower : HL [.fr, (.arr 4 (.int .u64))] → HO [.val .fr] := fun (x, es, _) => (zpw (x : Fr) (val es), ())

theorem fn_power : FnOk Try.prog 65 [.fr, (.arr 4 (.int .u64))] [.val .fr] noG prePower outPower := by
  have hsp : SpecsOk Try.prog (sps [spOne, spMul, spSquare]) := sps_cons (fnSpec_ok fn_one) (sps_cons (fnSpec_ok fn_mul) (sps_cons (fnSpec_ok fn_square) sps_nil))
  refine fn_of_tr (sp := sps [spOne, spMul, spSquare]) ent_power (by decide) (by decide) (by kernel_rfl) ?_
  rintro w M0 ⟨x, es, ⟨⟩⟩ ⟨_, ⟨hl, _⟩, _⟩ he
  have hl : List.length es = 4 := hl
  have he : Ws es := he
  have hE := val_nonneg he
  have hE2 : val es < p16 64 := by have := val_lt he; rw [hl] at this; rw [show 64 = 16 * 4 from rfl, p16_16]; exact this
  have hes : es = lim 4 (val es) := by have := lim_val he; rw [hl] at this; exact this.symm
  show Tr _ _ _ _ _ _ _
  refine tr_cut hsp mixed 4 (powI x es (0, (List.replicate 16 (0 : Fr)).set 0 1)) True ?_ (fun _ => ?_)
  · refine vcx (X := True ∧ (0 : Nat) < 16 ∧ (powI x es (0, (List.replicate 16 (0 : Fr)).set 0 1)).triv True) (by kernel_rfl) ⟨trivial, by decide, triv_intro trivial⟩
  rw [show (List.replicate 16 (0 : Fr)).set 0 1 = tabAt (zpow x) 0 0 from rfl]
  refine tr_count hsp mixed (powI x es) (fun k => ((k : Int), tabAt (zpow x) 0 k)) 15 (fun g => (IntKind.i64.wrap (g.1 + 1), g.2.set (IntKind.i64.wrap (g.1 + 1)).toNat (g.2.getD g.1.toNat 0 * x))) (powI x es) (c := nthC (codeOf Try.f65) 4) (by kernel_rfl) (by kernel_rfl) (le_of_proj (by kernel_rfl) (by kernel_rfl) trivial)
    (fun k hk => by
      show (_, _) = (_, _)
      rw [wrap_succ (by omega), Int.toNat_natCast, Int.toNat_natCast, tabAt_get _ _ _ (Nat.le_refl k) (by omega), show zpow x k * x = zpow x (k + 1) from rfl, tabAt_set]) ?_ ?_
  · intro k hk
    refine vcx (X := ((decide ((k : Int) < 15) = true → (0 ≤ (k : Int) ∧ (k : Int) < ((16 : Nat) : Int)) ∧ (k : Int).toNat < 16 ∧ True ∧ (0 ≤ IntKind.i64.wrap ((k : Int) + 1) ∧ IntKind.i64.wrap ((k : Int) + 1) < ((16 : Nat) : Int)) ∧ (IntKind.i64.wrap ((k : Int) + 1)).toNat < 16 ∧
        (powI x es (IntKind.i64.wrap ((k : Int) + 1), (tabAt (zpow x) 0 k).set (IntKind.i64.wrap ((k : Int) + 1)).toNat ((tabAt (zpow x) 0 k).getD (k : Int).toNat 0 * x))).triv (k < 15)) ∧
      (decide ((k : Int) < 15) = false → (powI x es ((k : Int), tabAt (zpow x) 0 k)).triv (k = 15)))) (by kernel_rfl) ?_
    refine ⟨fun h => ?_, fun h => triv_intro (by have := dec_ge h; omega)⟩
    have hlt : k < 15 := by have := dec_lt h; omega
    rw [wrap_succ (by omega)]
    exact ⟨⟨by omega, by omega⟩, by omega, trivial, ⟨by omega, by omega⟩, by omega, triv_intro hlt⟩
  generalize htb : tabAt (zpow x) 0 15 = tb
  have hget : ∀ j, j < 16 → tb.getD j 0 = zpow x j := fun j hj => by rw [← htb]; exact tabAt_get _ _ _ (by omega) hj
  clear htb
  refine tr_cut hsp mixed 2 (powJ es tb (0, 1)) True ?_ (fun _ => ?_)
  · refine vcx (X := True ∧ (powJ es tb (0, 1)).triv True) (by kernel_rfl) ⟨trivial, triv_intro trivial⟩
  rw [show ((0 : Int), (1 : Fr)) = (((0 : Nat) : Int), zpow x (val es / p16 (64 - 0)).toNat) by
    rw [Nat.sub_zero, Int.ediv_eq_zero_of_lt hE hE2]; rfl]
  refine tr_countT (powJ es tb) (fun i => ((i : Int), zpow x (val es / p16 (64 - i)).toNat)) 64 (fun g => (IntKind.i64.wrap (g.1 + 1), sqn g.2 4 * tb.getD (pdig (3 : Nat) es g.1).toNat 0)) (powJ es tb) (c := nthC (codeOf Try.f65) 7) (by kernel_rfl) (by kernel_rfl) (le_of_proj (by kernel_rfl) (by kernel_rfl) trivial)
    (fun i hi => by
      show (_, _) = (_, _)
      rw [wrap_succ (by omega), hes, pdig_ok (n := 3) hi (by omega), ← hes]
      rw [hget _ (by omega), sqn_zpow, ← zpow_add]
      congr 2
      have := digit_step hE (64 - 1 - i)
      rw [show 64 - (i + 1) = 64 - 1 - i by omega, this, show 64 - 1 - i + 1 = 64 - i by omega]) ?_ ?_
  · intro i hi
    generalize zpow x (val es / p16 (64 - i)).toNat = y
    refine tr_cut hsp mixed 2 (powL es tb (i : Int) y) (i < 64) ?_ (fun hlt => ?_)
    · refine vcx (X := ((decide ((i : Int) < 64) = true → (powL es tb (i : Int) y).triv (i < 64)) ∧ (decide ((i : Int) < 64) = false → (powJ es tb ((i : Int), y)).triv (i = 64)))) (by kernel_rfl) ?_
      exact ⟨fun h => triv_intro (by have := dec_lt h; omega), fun h => triv_intro (by have := dec_ge h; omega)⟩
    refine tr_block (c := nthC (loopOf (nthC (codeOf Try.f65) 7)) 2) (by kernel_rfl) (by kernel_rfl) ?_
    refine tr_cut hsp mixed 2 (powK es tb (i : Int) (0, y)) True ?_ (fun _ => ?_)
    · refine vcx (X := (powK es tb (i : Int) (0, y)).triv True) (by kernel_rfl) (triv_intro trivial)
    refine tr_count hsp mixed (powK es tb (i : Int)) (fun j => ((j : Int), sqn y j)) 4 (fun g => (IntKind.i64.wrap (g.1 + 1), g.2 * g.2)) (powK es tb (i : Int)) (c := nthC (bodyOf (nthC (loopOf (nthC (codeOf Try.f65) 7)) 2)) 2) (by kernel_rfl) (by kernel_rfl) (le_of_proj (by kernel_rfl) (by kernel_rfl) trivial)
      (fun j hj => by show (_, _) = (_, _); rw [wrap_succ (by omega)]; rfl) ?_ ?_
    · intro j hj
      refine vcx (X := ((decide ((j : Int) < 4) = true → True ∧ (powK es tb (i : Int) (IntKind.i64.wrap ((j : Int) + 1), sqn y j * sqn y j)).triv (j < 4)) ∧ (decide ((j : Int) < 4) = false → (powK es tb (i : Int) ((j : Int), sqn y j)).triv (j = 4)))) (by kernel_rfl) ?_
      exact ⟨fun h => ⟨trivial, triv_intro (by have := dec_lt h; omega)⟩, fun h => triv_intro (by have := dec_ge h; omega)⟩
    refine tr_cut hsp mixed 1 (powJ es tb ((i : Int), sqn y 4 * tb.getD (pdig (3 : Nat) es i).toNat 0)) True ?_ (fun _ => ?_)
    · refine vcx (X := ((16 : Int) ≠ 0 ∧ (0 ≤ pj (3 : Nat) i ∧ pj (3 : Nat) i < ((4 : Nat) : Int)) ∧ (pj (3 : Nat) i).toNat < 4 ∧ (16 : Int) ≠ 0 ∧ 0 ≤ psh i ∧ (0 ≤ pdig (3 : Nat) es i ∧ pdig (3 : Nat) es i < ((16 : Nat) : Int)) ∧ (pdig (3 : Nat) es i).toNat < 16 ∧ True ∧ (powJ es tb ((i : Int), sqn y 4 * tb.getD (pdig (3 : Nat) es i).toNat 0)).triv True)) (by kernel_rfl) ?_
      obtain ⟨b1, b2, b3⟩ := pdig_bd (n := 3) hlt (by omega)
      have b4 : 0 ≤ pdig (3 : Nat) es i ∧ pdig (3 : Nat) es i < 16 := by
        rw [hes, pdig_ok (n := 3) hlt (by omega)]
        omega
      exact ⟨by decide, b1, b2, by decide, b3, b4, by omega, trivial, triv_intro trivial⟩
    refine tr_nil ?_
    refine tr_vc hsp mixed _ _ ?_
    refine vcx (X := (powJ es tb (IntKind.i64.wrap ((i : Int) + 1), sqn y 4 * tb.getD (pdig (3 : Nat) es i).toNat 0)).triv (i < 64)) (by kernel_rfl) (triv_intro hlt)
  refine tr_vc hsp mixed _ _ ?_
  refine vcx (X := (zpow x (val es / p16 (64 - 64)).toNat, ()) = outPower (x, es, ())) (by kernel_rfl) ?_
  rw [Nat.sub_self, p16, Int.ediv_one, ← zpw_eq]
noncomputable def spPower : Nat × Eng.Spec := (65, fnSpec [.fr, (.arr 4 (.int .u64))] [.val .fr] prePower outPower)

theorem ent_inv : enters Try.prog 56 Try.f56 := enters_mk (by kernel_rfl) (by kernel_rfl) (by kernel_rfl)
/-- x to the power of the modulus less 2. -/
noncomputable def zinv (x : Fr) : Fr := zpw x 52435875175126190479447740508185965837690552500527637822603658699938581184511
noncomputable abbrev outInv : HL [.fr] → HO [.val .fr] := fun (x, _) => (zinv (x : Fr), ())
theorem val_pm2 : val [18446744069414584319, 6034159408538082302, 3691218898639771653, 8353516859464449352] = 52435875175126190479447740508185965837690552500527637822603658699938581184511 := by decide
theorem fn_inv : FnOk Try.prog 56 [.fr] [.val .fr] noG (fun _ => True) outInv := by
  refine fn_of_vc (sp := sps [spPower]) (sps_cons (fnSpec_ok fn_power) sps_nil) mixed ent_inv (by decide) (by decide) ?_
  rintro w M0 ⟨x, ⟨⟩⟩ _ _
  refine vcx (X := (prePower (x, [18446744069414584319, 6034159408538082302, 3691218898639771653, 8353516859464449352], ()) ∧ (zpw x (val [18446744069414584319, 6034159408538082302, 3691218898639771653, 8353516859464449352]), ()) = outInv (x, ()))) (by kernel_rfl) ?_
  refine ⟨?_, ?_⟩
  · intro y hy; simp at hy; rcases hy with rfl | rfl | rfl | rfl <;> exact ⟨by decide, by decide⟩
  · rw [val_pm2]; rfl
noncomputable def spInv : Nat × Eng.Spec := (56, fnSpec [.fr] [.val .fr] (fun _ => True) outInv)
end Go.Proofs.Ytbfimfdhmggieaa.fr
/- poly: size, scalar, bytes, At, Commit. -/
namespace Go.Proofs.Ytbfimfdhmggieaa.poly
set_option maxRecDepth 100000
open Go Go.Eng Go.RowKit Cr Go.Proofs.Ytbfimfdhmggieaa
theorem ent_size : enters Try.prog 38 Try.f38 := enters_mk (by kernel_rfl) (by kernel_rfl) (by kernel_rfl)
abbrev pre1I : HL [.int .i64] → Prop := fun (x, _) => preI x
def szI (x : Int) : Int := if x < 0 then -x else x
abbrev outSize : HL [.int .i64] → HO [.val (.int .u64)] := fun (x, _) => (szI x, ())
theorem fn_size : FnOk Try.prog 38 [.int .i64] [.val (.int .u64)] noG pre1I outSize := by
  refine fn_of_vc (sp := sps []) sps_nil mixed ent_size (by decide) (by decide) ?_
  rintro w M0 ⟨x, ⟨⟩⟩
  revert x
  intro (x : Int) _ hx
  have hx : -9223372036854775808 ≤ x ∧ x < 9223372036854775808 := hx
  refine vcx (X := ((decide (x < (0 : Int)) = true → (IntKind.u64.wrap ((0 : Int) - IntKind.u64.wrap x), ()) = outSize (x, ())) ∧ (decide (x < (0 : Int)) = false → (IntKind.u64.wrap x, ()) = outSize (x, ())))) (by kernel_rfl) ?_
  refine ⟨fun h => ?_, fun h => ?_⟩
  · have h : x < 0 := of_decide_eq_true h
    show _ = (szI x, ())
    rw [szI, if_pos h, wrap_u64_mod, wrap_u64_mod]
    congr 1
    omega
  · have h : ¬ x < 0 := of_decide_eq_false h
    show _ = (szI x, ())
    rw [szI, if_neg h, wrap_u64 (by omega) (by omega)]
noncomputable def spSize : Nat × Eng.Spec := (38, fnSpec [.int .i64] [.val (.int .u64)] pre1I outSize)
theorem szI_ok {x : Int} (hx : preI x) : 0 ≤ szI x ∧ szI x ≤ 9223372036854775808 := by
  have hx : -9223372036854775808 ≤ x ∧ x < 9223372036854775808 := hx
  unfold szI; split <;> omega

theorem ent_scalar : enters Try.prog 27 Try.f27 := enters_mk (by kernel_rfl) (by kernel_rfl) (by kernel_rfl)
noncomputable def sclI (x : Int) : Fr := opq (zm x)
theorem sclI_eq (x : Int) : sclI x = zm x := opq_eq _
noncomputable abbrev outScalar : HL [.int .i64] → HO [.val .fr] := fun (x, _) => (sclI x, ())
theorem fn_scalar : FnOk Try.prog 27 [.int .i64] [.val .fr] noG pre1I outScalar := by
  refine fn_of_vc (sp := sps [spSize, fr.spOf, fr.spNeg]) (sps_cons (fnSpec_ok fn_size) (sps_cons (fnSpec_ok fr.fn_of) (sps_cons (fnSpec_ok fr.fn_neg) sps_nil))) mixed ent_scalar (by decide) (by decide) ?_
  rintro w M0 ⟨x, ⟨⟩⟩
  revert x
  intro (x : Int) _ hx
  have hz := szI_ok hx
  refine vcx (X := (pre1I (x, ()) ∧ U64 (szI x) ∧ (decide (x < (0 : Int)) = true → True ∧ (-zmr (szI x), ()) = outScalar (x, ())) ∧ (decide (x < (0 : Int)) = false → (zmr (szI x), ()) = outScalar (x, ())))) (by kernel_rfl) ?_
  refine ⟨hx, ⟨hz.1, by omega⟩, fun h => ⟨trivial, ?_⟩, fun h => ?_⟩
  · have h : x < 0 := of_decide_eq_true h
    show _ = (sclI x, ())
    rw [sclI_eq, szI, if_pos h, zm_neg, Int.neg_neg]
  · have h : ¬ x < 0 := of_decide_eq_false h
    show _ = (sclI x, ())
    rw [sclI_eq, szI, if_neg h]
noncomputable def spScalar : Nat × Eng.Spec := (27, fnSpec [.int .i64] [.val .fr] pre1I outScalar)

theorem ent_bytes : enters Try.prog 48 Try.f48 := enters_mk (by kernel_rfl) (by kernel_rfl) (by kernel_rfl)
def bysI (x : Int) : List Int := byL (szI x) 8
abbrev outBytes : HL [.int .i64] → HO [.own (.int .u8)] := fun (x, _) => (bysI x, ())
noncomputable def byI (n : Int) (g : Int × Bool × Nat × List Int) : St := mkSt Try.f48.ntmps 48 [(3, bif g.2.1 then .is (.one (.v (.slice none 0 0))) else .is (.one (.sl 8 0 0 g.2.2.1 1))), (4, sI .u64 n), (5, sI .i64 g.1)] (bif g.2.1 then [] else [(8, [.ints .u8 g.2.2.1 g.2.2.2])])
def byJ (n : Int) (g : Int × Bool × Nat × List Int) : Prop := ∃ j : Nat, j ≤ 8 ∧ g.1 = 56 - 8 * (j : Int) ∧ g.2.2.2 = byL n j ∧ g.2.2.1 = g.2.2.2.length ∧ (g.2.1 = true → g.2.2.2 = [])
def byO (n : Int) (g : Int × Bool × Nat × List Int) : Prop := g.2.2.2 = byL n 8 ∧ g.2.2.1 = g.2.2.2.length ∧ (g.2.1 = true → g.2.2.2 = [])
theorem by_pow {j : Nat} (h : j ≤ 7) : (2 : Int) ^ min (Int.toNat (56 - 8 * (j : Int))) IntKind.u64.bits = p256 (7 - j) := by
  have : j = 0 ∨ j = 1 ∨ j = 2 ∨ j = 3 ∨ j = 4 ∨ j = 5 ∨ j = 6 ∨ j = 7 := by omega
  rcases this with rfl | rfl | rfl | rfl | rfl | rfl | rfl | rfl <;> rfl
theorem wrap_u8 (a : Int) : IntKind.u8.wrap a = a % 256 := by simp [IntKind.wrap, IntKind.signed, IntKind.bits]
/-- One round of bytes. -/
theorem by_step {n s : Int} {e : Bool} {m : Nat} {l : List Int} (hj : byJ n (s, e, m, l)) (hs : s ≥ 0) : IntKind.i64.wrap (s - 8) = s - 8 ∧
    (n.fdiv (2 ^ min (Int.toNat s) IntKind.u64.bits) ≠ 0 → byJ n (s - 8, false, m + 1, l ++ [IntKind.u8.wrap (n.fdiv (2 ^ min (Int.toNat s) IntKind.u64.bits))])) ∧
    (n.fdiv (2 ^ min (Int.toNat s) IntKind.u64.bits) = 0 → byJ n (s - 8, e, m, l)) := by
  obtain ⟨j, hj, h1, h2, h3, h4⟩ := hj
  have h1 : s = 56 - 8 * (j : Int) := h1
  have h2 : l = byL n j := h2
  have h3 : m = l.length := h3
  have hj7 : j ≤ 7 := by omega
  have ep : n.fdiv (2 ^ min (Int.toNat s) IntKind.u64.bits) = n / p256 (7 - j) := by
    rw [h1, by_pow hj7, Int.fdiv_eq_ediv_of_nonneg _ (Int.le_of_lt (p256_pos _))]
  rw [ep, wrap_u8]
  refine ⟨wrap_i64' (by omega) (by omega), fun h => ⟨j + 1, by omega, by show s - 8 = _; omega, ?_, by show m + 1 = _; simp [h3], fun h => nomatch h⟩, fun h => ⟨j + 1, by omega, by show s - 8 = _; omega, ?_, h3, h4⟩⟩
  · show l ++ _ = byL n (j + 1)
    rw [byL, if_neg h, h2]
  · show l = byL n (j + 1)
    rw [byL, if_pos h, h2]
theorem by_end {n s : Int} {e : Bool} {m : Nat} {l : List Int} (hj : byJ n (s, e, m, l)) (hs : ¬ s ≥ 0) : byO n (s, e, m, l) := by
  obtain ⟨j, hj, h1, h2, h3, h4⟩ := hj
  have h1 : s = 56 - 8 * (j : Int) := h1
  have : j = 8 := by omega
  subst this
  exact ⟨h2, h3, h4⟩
theorem fn_bytes : FnOk Try.prog 48 [.int .i64] [.own (.int .u8)] noG pre1I outBytes := by
  have hsp : SpecsOk Try.prog (sps [spSize]) := (sps_cons (fnSpec_ok fn_size) sps_nil)
  refine fn_of_tr (sp := sps [spSize]) ent_bytes (by decide) (by decide) (by kernel_rfl) ?_
  rintro w M0 ⟨x, ⟨⟩⟩
  revert x
  intro (x : Int) _ hx
  have hz := szI_ok hx
  show Tr _ _ _ _ _ _ _
  refine tr_cut hsp mixed 4 (byI (szI x) (56, true, 0, [])) True ?_ (fun _ => ?_)
  · refine vcx (X := (pre1I (x, ()) ∧ (byI (szI x) ((56 : Int), true, (0 : Nat), [])).triv True)) (by kernel_rfl) ?_
    exact ⟨hx, triv_intro trivial⟩
  refine tr_while hsp mixed (fun σ => [(8, rdI 3 σ)]) (fun σ => (rdS (.int .i64) 5 σ, rdE 3 σ, rdL 3 σ, rdR (.int .u8) 8 σ)) (byI (szI x)) (byJ (szI x)) (fun g => (g.1 + 8).toNat)
    (fun σ => (rdS (.int .i64) 5 σ, rdE 3 σ, rdL 3 σ, rdR (.int .u8) 8 σ)) (byI (szI x)) (byO (szI x)) (56, true, 0, []) (c := nthC (codeOf Try.f48) 4) (by kernel_rfl) (by kernel_rfl) (le_of_proj (by kernel_rfl) (by kernel_rfl) ?_) ?_ ?_
  · exact ⟨0, by decide, rfl, rfl, rfl, fun _ => rfl⟩
  · rintro ⟨s, e, m, l⟩ hj
    revert s l
    intro (s : Int) (l : List Int) hj
    have hjj := hj
    obtain ⟨j, hj8, h1, h2, h3, h4⟩ := hjj
    have h1 : s = 56 - 8 * (j : Int) := h1
    have k3 : m = l.length := h3
    have hm8 : m ≤ 8 := by
      have := (byL_ok hz.1 (show szI x < p256 8 from Int.lt_of_le_of_lt hz.2 (by decide)) j hj8).2.1
      have h2 : l = byL (szI x) j := h2
      rw [k3, h2]; omega
    cases e with
    | true =>
      have hl : l = [] := h4 rfl
      subst hl
      have hm : m = 0 := k3
      subst hm
      refine vcx (X := ((decide (s ≥ (0 : Int)) = true → (0 : Int) ≤ s ∧ (((szI x).fdiv ((2 : Int) ^ min s.toNat IntKind.u64.bits) != (0 : Int)) = true → (0 : Nat) + (1 : Nat) ≤ (1 : Nat) ∧ (1 : Nat) * (1 : Nat) ≤ (140737488355328 : Nat) ∧ (1 : Nat) ≤ (4611686018427387904 : Nat) ∧ (byI (szI x) (IntKind.i64.wrap (s - (8 : Int)), false, (1 : Nat), [IntKind.u8.wrap ((szI x).fdiv ((2 : Int) ^ min s.toNat IntKind.u64.bits))])).triv (byJ (szI x) (IntKind.i64.wrap (s - (8 : Int)), false, (1 : Nat), [IntKind.u8.wrap ((szI x).fdiv ((2 : Int) ^ min s.toNat IntKind.u64.bits))]) ∧ Int.toNat (IntKind.i64.wrap (s - (8 : Int)) + (8 : Car (Kd.int IntKind.i64))) < Int.toNat (s + (8 : Car (Kd.int IntKind.i64))))) ∧ (((szI x).fdiv ((2 : Int) ^ min s.toNat IntKind.u64.bits) != (0 : Int)) = false → (byI (szI x) (IntKind.i64.wrap (s - (8 : Int)), true, (0 : Nat), [])).triv (byJ (szI x) (IntKind.i64.wrap (s - (8 : Int)), true, (0 : Nat), []) ∧ Int.toNat (IntKind.i64.wrap (s - (8 : Int)) + (8 : Car (Kd.int IntKind.i64))) < Int.toNat (s + (8 : Car (Kd.int IntKind.i64)))))) ∧ (decide (s ≥ (0 : Int)) = false → (byI (szI x) (s, true, (0 : Nat), [])).triv (byO (szI x) (s, true, (0 : Nat), []))))) (by kernel_rfl) ?_
      refine ⟨fun h => ?_, fun h => triv_intro (by_end hj (of_decide_eq_false h))⟩
      have h : s ≥ 0 := of_decide_eq_true h
      obtain ⟨e1, e2, e3⟩ := by_step hj h
      rw [e1]
      refine ⟨h, fun h5 => ⟨by decide, by decide, by decide, triv_intro ⟨e2 (by simpa using h5), by show (s - 8 + 8).toNat < (s + 8).toNat; omega⟩⟩, fun h5 => triv_intro ⟨e3 (by simpa using h5), by show (s - 8 + 8).toNat < (s + 8).toNat; omega⟩⟩
    | false =>
      refine vcx (X := ((decide (s ≥ (0 : Int)) = true → (0 : Int) ≤ s ∧ (((szI x).fdiv ((2 : Int) ^ min s.toNat IntKind.u64.bits) != (0 : Int)) = true → (0 : Nat) + (1 : Nat) ≤ (1 : Nat) ∧ m ≤ m ∧ (m + (1 : Nat)) * (1 : Nat) ≤ (140737488355328 : Nat) ∧ m + (1 : Nat) ≤ (4611686018427387904 : Nat) ∧ (byI (szI x) (IntKind.i64.wrap (s - (8 : Int)), false, m + (1 : Nat), List.take m l ++ List.take (1 : Nat) [IntKind.u8.wrap ((szI x).fdiv ((2 : Int) ^ min s.toNat IntKind.u64.bits))])).triv (byJ (szI x) (IntKind.i64.wrap (s - (8 : Int)), false, m + (1 : Nat), List.take m l ++ List.take (1 : Nat) [IntKind.u8.wrap ((szI x).fdiv ((2 : Int) ^ min s.toNat IntKind.u64.bits))]) ∧ Int.toNat (IntKind.i64.wrap (s - (8 : Int)) + (8 : Car (Kd.int IntKind.i64))) < Int.toNat (s + (8 : Car (Kd.int IntKind.i64))))) ∧ (((szI x).fdiv ((2 : Int) ^ min s.toNat IntKind.u64.bits) != (0 : Int)) = false → (byI (szI x) (IntKind.i64.wrap (s - (8 : Int)), false, m, l)).triv (byJ (szI x) (IntKind.i64.wrap (s - (8 : Int)), false, m, l) ∧ Int.toNat (IntKind.i64.wrap (s - (8 : Int)) + (8 : Car (Kd.int IntKind.i64))) < Int.toNat (s + (8 : Car (Kd.int IntKind.i64)))))) ∧ (decide (s ≥ (0 : Int)) = false → (byI (szI x) (s, false, m, l)).triv (byO (szI x) (s, false, m, l))))) (by kernel_rfl) ?_
      refine ⟨fun h => ?_, fun h => triv_intro (by_end hj (of_decide_eq_false h))⟩
      have h : s ≥ 0 := of_decide_eq_true h
      obtain ⟨e1, e2, e3⟩ := by_step hj h
      rw [e1, show List.take m l = l by rw [k3, List.take_length]]
      refine ⟨h, fun h5 => ⟨by decide, Nat.le_refl _, by omega, by omega, triv_intro ⟨e2 (by simpa using h5), by show (s - 8 + 8).toNat < (s + 8).toNat; omega⟩⟩, fun h5 => triv_intro ⟨e3 (by simpa using h5), by show (s - 8 + 8).toNat < (s + 8).toNat; omega⟩⟩
  rintro ⟨s, e, m, l⟩ ho
  revert s l
  intro (s : Int) (l : List Int) ⟨h1, h2, h3⟩
  have k1 : l = byL (szI x) 8 := h1
  have k2 : m = l.length := h2
  refine tr_vc hsp mixed _ _ ?_
  cases e with
  | true =>
    have hl : l = [] := h3 rfl
    refine vcx (X := (([], ()) = outBytes (x, ()))) (by kernel_rfl) ?_
    show _ = (byL (szI x) 8, ())
    rw [← k1, hl]
  | false =>
    refine vcx (X := ((0 : Nat) + m ≤ m ∧ (List.take m l, ()) = outBytes (x, ()))) (by kernel_rfl) ?_
    rw [show List.take m l = l by rw [k2, List.take_length], k1]
    exact ⟨by omega, rfl⟩
noncomputable def spBytes : Nat × Eng.Spec := (48, fnSpec [.int .i64] [.own (.int .u8)] pre1I outBytes)

theorem ent_at : enters Try.prog 12 Try.f12 := enters_mk (by kernel_rfl) (by kernel_rfl) (by kernel_rfl)
noncomputable def pat (p : List Fr) (x : Int) : Fr := opq (peval p (zm x))
theorem pat_eq (p : List Fr) (x : Int) : pat p x = peval p (zm x) := opq_eq _
abbrev preAt : HL [.sl .fr, .int .i64] → Prop := fun (p, x, _) => List.length p < 4611686018427387904 ∧ preI x
noncomputable abbrev outAt : HL [.sl .fr, .int .i64] → HO [.val .fr] := fun (p, x, _) => (pat p x, ())
noncomputable def atI (p : List Fr) (x : Int) (g : Int × Fr) : St := mkSt Try.f12.ntmps 80 [(0, .is (.one (.ro .fr p))), (4, .is (.one (.ptr 0 0))), (5, .is (.one (.ptr 24 0))), (6, .is (.one (.ptr 40 0))), (7, sI .i64 g.1)] [(0, [.row .fr 1 [0]]), (24, [.row .fr 1 [sclI x]]), (40, [.row .fr 1 [g.2]])]
def atJ (p : List Fr) (x : Int) (g : Int × Fr) : Prop := ∃ k : Nat, k ≤ p.length ∧ g.1 = (k : Int) - 1 ∧ g.2 = peval (p.drop k) (zm x)
theorem fn_at : FnOk Try.prog 12 [.sl .fr, .int .i64] [.val .fr] noG preAt outAt := by
  have hsp : SpecsOk Try.prog (sps [spScalar, fr.spMul, fr.spAdd]) := (sps_cons (fnSpec_ok fn_scalar) (sps_cons (fnSpec_ok fr.fn_mul) (sps_cons (fnSpec_ok fr.fn_add) sps_nil)))
  refine fn_of_tr (sp := sps [spScalar, fr.spMul, fr.spAdd]) ent_at (by decide) (by decide) (by kernel_rfl) ?_
  rintro w M0 ⟨p, x, ⟨⟩⟩
  revert p x
  intro (p : List Fr) (x : Int) _ hp
  obtain ⟨hl, hx⟩ := hp
  have hl : p.length < 4611686018427387904 := hl
  show Tr _ _ _ _ _ _ _
  have ew : IntKind.i64.wrap ((p.length : Int) - 1) = (p.length : Int) - 1 := wrap_i64' (by omega) (by omega)
  refine tr_cut hsp mixed 4 (atI p x (IntKind.i64.wrap ((p.length : Int) - 1), 0)) True ?_ (fun _ => ?_)
  · refine vcx (X := (pre1I (x, ()) ∧ (atI p x (IntKind.i64.wrap ((↑p.length : Int) - (1 : Int)), (0 : Fr))).triv True)) (by kernel_rfl) ?_
    exact ⟨hx, triv_intro trivial⟩
  refine tr_while hsp mixed noSw (fun σ => (rdS (.int .i64) 7 σ, rdB .fr 40 σ)) (atI p x) (atJ p x) (fun g => (g.1 + 1).toNat)
    (fun σ => (rdS (.int .i64) 7 σ, rdB .fr 40 σ)) (atI p x) (fun g => g.2 = peval p (zm x)) (IntKind.i64.wrap ((p.length : Int) - 1), 0) (c := nthC (codeOf Try.f12) 4) (by kernel_rfl) (by kernel_rfl) (le_of_proj (by kernel_rfl) (by kernel_rfl) ?_) ?_ ?_
  · refine ⟨p.length, Nat.le_refl _, ew, ?_⟩
    show 0 = _
    rw [List.drop_length]; rfl
  · rintro ⟨i, s⟩ hj
    revert i s
    intro (i : Int) (s : Fr) ⟨k, hk, ei, es⟩
    have ei : i = (k : Int) - 1 := ei
    have es : s = peval (p.drop k) (zm x) := es
    refine vcx (X := ((decide (i ≥ (0 : Int)) = true → True ∧ ((0 : Int) ≤ i ∧ i < (↑p.length : Int)) ∧ i.toNat < p.length ∧ True ∧ (atI p x (IntKind.i64.wrap (i - (1 : Int)), s * sclI x + p.getD i.toNat (0 : Fr))).triv (atJ p x (IntKind.i64.wrap (i - (1 : Int)), s * sclI x + p.getD i.toNat (0 : Fr)) ∧ Int.toNat (IntKind.i64.wrap (i - (1 : Int)) + (1 : Car (Kd.int IntKind.i64))) < Int.toNat (i + (1 : Car (Kd.int IntKind.i64))))) ∧ (decide (i ≥ (0 : Int)) = false → (atI p x (i, s)).triv (s = peval p (zmr x))))) (by kernel_rfl) ?_
    refine ⟨fun h => ?_, fun h => triv_intro ?_⟩
    · have h : i ≥ 0 := of_decide_eq_true h
      have hik : i = ((k - 1 : Nat) : Int) := by omega
      have hk1 : k - 1 < p.length := by omega
      have hd : p.drop (k - 1) = p[k - 1] :: p.drop k := by
        rw [List.drop_eq_getElem_cons hk1, show k - 1 + 1 = k by omega]
      have e : s * sclI x + p.getD i.toNat 0 = peval (p.drop (k - 1)) (zm x) := by
        rw [hik, Int.toNat_natCast, List.getD_eq_getElem?_getD, List.getElem?_eq_getElem hk1, Option.getD_some, hd, es, sclI_eq]
        rfl
      have ew' : IntKind.i64.wrap (i - 1) = i - 1 := wrap_i64' (by omega) (by omega)
      rw [ew']
      exact ⟨trivial, ⟨h, by omega⟩, by omega, trivial, triv_intro ⟨⟨k - 1, by omega, by show i - 1 = _; omega, e⟩, by show (i - 1 + 1).toNat < (i + 1).toNat; omega⟩⟩
    · have h : ¬ i ≥ 0 := of_decide_eq_false h
      have : k = 0 := by omega
      subst this
      exact es
  rintro ⟨i, s⟩ hj
  revert i s
  intro (i : Int) (s : Fr) (hj : s = peval p (zm x))
  refine tr_vc hsp mixed _ _ ?_
  refine vcx (X := ((s, ()) = outAt (p, x, ()))) (by kernel_rfl) ?_
  show _ = (pat p x, ())
  rw [pat_eq, hj]
noncomputable def spAt : Nat × Eng.Spec := (12, fnSpec [.sl .fr, .int .i64] [.val .fr] preAt outAt)

theorem ent_commit : enters Try.prog 18 Try.f18 := enters_mk (by kernel_rfl) (by kernel_rfl) (by kernel_rfl)
noncomputable def cmt (p : List Fr) : List (Fp × Fp) := p.map (g1.gmul g1.gG)
abbrev preCommit : HL [.sl .fr] → Prop := fun (p, _) => List.length p < 1048576
noncomputable abbrev outCommit : HL [.sl .fr] → HO [.own pt1] := fun (p, _) => (cmt p, ())
noncomputable def cmI (p : List Fr) (g : Int × List (Fp × Fp)) : St := mkSt Try.f18.ntmps 64 [(3, .is (.one (.sl 24 0 0 (p.length : Int).toNat 12))), (9, .is (.one (.ro .fr p))), (10, sI .i64 p.length), (11, sI .i64 g.1)] [(24, [.row pt1 (p.length : Int).toNat g.2])]
noncomputable def cmL (p : List Fr) (k : Nat) : List (Fp × Fp) := (p.take k).map (g1.gmul g1.gG) ++ List.replicate (p.length - k) (0, 0)
def cmJ (p : List Fr) (g : Int × List (Fp × Fp)) : Prop := ∃ k : Nat, k ≤ p.length ∧ g.1 = (k : Int) ∧ g.2 = cmL p k
theorem cmL_step {p : List Fr} {k : Nat} (h : k < p.length) : (cmL p k).set k (g1.gmul g1.gG (p.getD k 0)) = cmL p (k + 1) := by
  unfold cmL
  rw [List.set_append_right _ _ (by simp; omega), List.take_succ_eq_append_getElem h]
  have e : p.length - k = (p.length - (k + 1)) + 1 := by omega
  have e2 : k - ((p.take k).map (g1.gmul g1.gG)).length = 0 := by simp; omega
  rw [e2, e, List.replicate_succ, List.set_cons_zero, List.map_append, List.append_assoc]
  simp [h]
theorem fn_commit : FnOk Try.prog 18 [.sl .fr] [.own pt1] noG preCommit outCommit := by
  have hsp : SpecsOk Try.prog (sps [g1.soGen, g1.soMul]) := (sps_cons (fnSpec_ok g1.fo_gen) (sps_cons (fnSpec_ok g1.fo_mul) sps_nil))
  refine fn_of_tr (sp := sps [g1.soGen, g1.soMul]) ent_commit (by decide) (by decide) (by kernel_rfl) ?_
  rintro w M0 ⟨p, ⟨⟩⟩
  revert p
  intro (p : List Fr) _ hl
  have hl : p.length < 1048576 := hl
  show Tr _ _ _ _ _ _ _
  refine tr_cut hsp mixed 3 (cmI p (0, List.replicate (p.length : Int).toNat (0, 0))) True ?_ (fun _ => ?_)
  · refine vcx (X := (((0 : Int) ≤ (↑p.length : Int) ∧ (↑p.length : Int) ≤ (↑p.length : Int) ∧ (↑(96 : Nat) : Int) * (↑p.length : Int) ≤ (281474976710656 : Int) ∧ (↑p.length : Int) ≤ (9223372036854775807 : Int)) ∧ (cmI p ((0 : Int), List.replicate (↑p.length : Int).toNat ((0 : Fp), (0 : Fp)))).triv True)) (by kernel_rfl) ?_
    exact ⟨⟨by omega, by omega, by omega, by omega⟩, triv_intro trivial⟩
  refine tr_while hsp mixed noSw (fun σ => (rdS (.int .i64) 11 σ, rdR pt1 24 σ)) (cmI p) (cmJ p) (fun g => p.length - g.1.toNat)
    (fun σ => (rdS (.int .i64) 11 σ, rdR pt1 24 σ)) (cmI p) (fun g => g.2 = cmt p) (0, List.replicate (p.length : Int).toNat (0, 0)) (c := nthC (codeOf Try.f18) 3) (by kernel_rfl) (by kernel_rfl) (le_of_proj (by kernel_rfl) (by kernel_rfl) ?_) ?_ ?_
  · exact ⟨0, Nat.zero_le _, rfl, by simp [cmL]⟩
  · rintro ⟨i, l⟩ hj
    revert i l
    intro (i : Int) (l : List (Fp × Fp)) ⟨k, hk, ei, el⟩
    have ei : i = (k : Int) := ei
    have kl : l = cmL p k := el
    subst ei
    refine vcx (X := ((decide ((↑k : Int) < (↑p.length : Int)) = true → ((0 : Int) ≤ (↑k : Int) ∧ (↑k : Int) < (↑p.length : Int)) ∧ (↑k : Int).toNat < p.length ∧ True ∧ True ∧ ((0 : Int) ≤ (↑k : Int) ∧ (↑k : Int) < (↑(↑p.length : Int).toNat : Int)) ∧ (↑k : Int).toNat < (↑p.length : Int).toNat ∧ (cmI p (IntKind.i64.wrap ((↑k : Int) + (1 : Int)), l.set (↑k : Int).toNat (g1.gmul g1.gG (p.getD (↑k : Int).toNat (0 : Fr))))).triv (cmJ p (IntKind.i64.wrap ((↑k : Int) + (1 : Int)), l.set (↑k : Int).toNat (g1.gmul g1.gG (p.getD (↑k : Int).toNat (0 : Fr)))) ∧ p.length - (IntKind.i64.wrap ((↑k : Int) + (1 : Int))).toNat < p.length - (↑k : Int).toNat)) ∧ (decide ((↑k : Int) < (↑p.length : Int)) = false → (cmI p ((↑k : Int), l)).triv (l = cmt p)))) (by kernel_rfl) ?_
    rw [Int.toNat_natCast, Int.toNat_natCast]
    refine ⟨fun h => ?_, fun h => triv_intro ?_⟩
    · have hlt : k < p.length := by have := dec_lt h; omega
      rw [wrap_succ (by omega)]
      refine ⟨⟨by omega, by omega⟩, hlt, trivial, trivial, ⟨by omega, by omega⟩, hlt, triv_intro ⟨⟨k + 1, hlt, rfl, ?_⟩, ?_⟩⟩
      · show l.set k _ = _
        rw [kl, cmL_step hlt]
      · show p.length - ((k + 1 : Nat) : Int).toNat < p.length - (k : Int).toNat
        rw [Int.toNat_natCast, Int.toNat_natCast]; omega
    · have : k = p.length := by have := dec_ge h; omega
      show l = cmt p
      rw [kl, this, cmL, List.take_length, Nat.sub_self]
      exact List.append_nil _
  rintro ⟨i, l⟩ hj
  revert i l
  intro (i : Int) (l : List (Fp × Fp)) (hj : l = cmt p)
  refine tr_vc hsp mixed _ _ ?_
  refine vcx (X := ((0 : Nat) + (↑p.length : Int).toNat ≤ (↑p.length : Int).toNat ∧ (List.take (↑p.length : Int).toNat l, ()) = outCommit (p, ()))) (by kernel_rfl) ?_
  rw [Int.toNat_natCast]
  refine ⟨by omega, ?_⟩
  show (_, ()) = (cmt p, ())
  rw [hj, List.take_of_length_le (by simp [cmt])]
noncomputable def spCommit : Nat × Eng.Spec := (18, fnSpec [.sl .fr] [.own pt1] preCommit outCommit)
end Go.Proofs.Ytbfimfdhmggieaa.poly
/- poly: Public.At, Fits, Plus, Weights. -/
namespace Go.Proofs.Ytbfimfdhmggieaa.poly
set_option maxRecDepth 100000
open Go Go.Eng Go.RowKit Cr Go.Proofs.Ytbfimfdhmggieaa
theorem ent_cat : enters Try.prog 35 Try.f35 := enters_mk (by kernel_rfl) (by kernel_rfl) (by kernel_rfl)
/-- What Public.At computes. -/
noncomputable def catS (x : Int) (s : Fp × Fp) : Fp × Fp := if x < 0 then g1.gneg (g1.gtms s (bysI x)) else g1.gtms s (bysI x)
noncomputable def catF (x : Int) : List (Fp × Fp) → Fp × Fp
  | [] => (0, 0)
  | p :: l => g1.gadd (catS x (catF x l)) p
abbrev preCat : HL [.sl pt1, .int .i64] → Prop := fun (c, x, _) => List.length c < 4611686018427387904 ∧ preI x
noncomputable abbrev outCat : HL [.sl pt1, .int .i64] → HO [.val pt1] := fun (c, x, _) => (catF x c, ())
noncomputable def catI (c : List (Fp × Fp)) (x : Int) (g : Int × (Fp × Fp)) : St := mkSt Try.f35.ntmps 72 [(0, .is (.one (.ro pt1 c))), (1, sI .i64 x), (4, .is (.one (.ptr 0 0))), (5, .is (.one (.sl 16 0 0 (bysI x).length 1))), (6, .is (.one (.ptr 32 0))), (7, sI .i64 g.1)] [(0, g1.pc (0, 0)), (16, [.ints .u8 (bysI x).length (bysI x)]), (32, g1.pc g.2)]
def catJ (c : List (Fp × Fp)) (x : Int) (g : Int × (Fp × Fp)) : Prop := ∃ k : Nat, k ≤ c.length ∧ g.1 = (k : Int) - 1 ∧ g.2 = catF x (c.drop k)
def catO (c : List (Fp × Fp)) (x : Int) (g : Int × (Fp × Fp)) : Prop := g.2 = catF x c
theorem bysI_ok {x : Int} (hx : preI x) : Bs (bysI x) ∧ (bysI x).length ≤ 8 ∧ num (bysI x) = szI x := by
  have hz := szI_ok hx
  have h := byL_ok hz.1 (show szI x < p256 8 from Int.lt_of_le_of_lt hz.2 (by decide)) 8 (by decide)
  refine ⟨h.1, h.2.1, ?_⟩
  rw [show num (bysI x) = szI x / p256 (8 - 8) from h.2.2]
  exact Int.ediv_one _
theorem fn_cat : FnOk Try.prog 35 [.sl pt1, .int .i64] [.val pt1] noG preCat outCat := by
  have hsp : SpecsOk Try.prog (sps [spBytes, g1.soTimes, g1.soNeg, g1.soAdd]) := (sps_cons (fnSpec_ok fn_bytes) (sps_cons (fnSpec_ok g1.fo_times) (sps_cons (fnSpec_ok g1.fo_neg) (sps_cons (fnSpec_ok g1.fo_add) sps_nil))))
  refine fn_of_tr (sp := sps [spBytes, g1.soTimes, g1.soNeg, g1.soAdd]) ent_cat (by decide) (by decide) (by kernel_rfl) ?_
  rintro w M0 ⟨c, x, ⟨⟩⟩
  revert c x
  intro (c : List (Fp × Fp)) (x : Int) _ hp
  obtain ⟨hl, hx⟩ := hp
  have hl : c.length < 4611686018427387904 := hl
  show Tr _ _ _ _ _ _ _
  obtain ⟨b1, b2, b3⟩ := bysI_ok hx
  have ew : IntKind.i64.wrap ((c.length : Int) - 1) = (c.length : Int) - 1 := wrap_i64' (by omega) (by omega)
  refine tr_cut hsp mixed 4 (catI c x (IntKind.i64.wrap ((c.length : Int) - 1), (0, 0))) True ?_ (fun _ => ?_)
  · refine vcx (X := (pre1I (x, ()) ∧ (catI c x (IntKind.i64.wrap ((↑c.length : Int) - (1 : Int)), (0 : Fp), (0 : Fp))).triv True)) (by kernel_rfl) ?_
    exact ⟨hx, triv_intro trivial⟩
  refine tr_while hsp mixed noSw (fun σ => (rdS (.int .i64) 7 σ, rdB pt1 32 σ)) (catI c x) (catJ c x) (fun g => (g.1 + 1).toNat)
    (fun σ => (rdS (.int .i64) 7 σ, rdB pt1 32 σ)) (catI c x) (catO c x) (IntKind.i64.wrap ((c.length : Int) - 1), (0, 0)) (c := nthC (codeOf Try.f35) 4) (by kernel_rfl) (by kernel_rfl) (le_of_proj (by kernel_rfl) (by kernel_rfl) ?_) ?_ ?_
  · refine ⟨c.length, Nat.le_refl _, ew, ?_⟩
    show (0, 0) = _
    rw [List.drop_length]; rfl
  · rintro ⟨i, s⟩ hj
    revert i s
    intro (i : Int) (s : Fp × Fp) ⟨k, hk, ei, es⟩
    have ei : i = (k : Int) - 1 := ei
    have es : s = catF x (c.drop k) := es
    refine vcx (X := ((decide (i ≥ (0 : Int)) = true → (0 : Nat) + (bysI x).length ≤ (bysI x).length ∧ g1.preTimes (s, List.take (bysI x).length (bysI x), ()) ∧ (decide (x < (0 : Int)) = true → True ∧ ((0 : Int) ≤ i ∧ i < (↑c.length : Int)) ∧ i.toNat < c.length ∧ True ∧ (catI c x (IntKind.i64.wrap (i - (1 : Int)), g1.gadd (g1.gneg (g1.gtms s (List.take (bysI x).length (bysI x)))) (c.getD i.toNat ((0 : Fp), (0 : Fp))))).triv (catJ c x (IntKind.i64.wrap (i - (1 : Int)), g1.gadd (g1.gneg (g1.gtms s (List.take (bysI x).length (bysI x)))) (c.getD i.toNat ((0 : Fp), (0 : Fp)))) ∧ Int.toNat (IntKind.i64.wrap (i - (1 : Int)) + (1 : Car (Kd.int IntKind.i64))) < Int.toNat (i + (1 : Car (Kd.int IntKind.i64))))) ∧ (decide (x < (0 : Int)) = false → ((0 : Int) ≤ i ∧ i < (↑c.length : Int)) ∧ i.toNat < c.length ∧ True ∧ (catI c x (IntKind.i64.wrap (i - (1 : Int)), g1.gadd (g1.gtms s (List.take (bysI x).length (bysI x))) (c.getD i.toNat ((0 : Fp), (0 : Fp))))).triv (catJ c x (IntKind.i64.wrap (i - (1 : Int)), g1.gadd (g1.gtms s (List.take (bysI x).length (bysI x))) (c.getD i.toNat ((0 : Fp), (0 : Fp)))) ∧ Int.toNat (IntKind.i64.wrap (i - (1 : Int)) + (1 : Car (Kd.int IntKind.i64))) < Int.toNat (i + (1 : Car (Kd.int IntKind.i64)))))) ∧ (decide (i ≥ (0 : Int)) = false → (catI c x (i, s)).triv (catO c x (i, s))))) (by kernel_rfl) ?_
    have pt : g1.preTimes (s, (bysI x).take (bysI x).length, ()) := by rw [List.take_length]; exact ⟨b1, by show (bysI x).length < _; omega⟩
    refine ⟨fun h => ?_, fun h => triv_intro ?_⟩
    · have h : i ≥ 0 := of_decide_eq_true h
      have hik : i = ((k - 1 : Nat) : Int) := by omega
      have hk1 : k - 1 < c.length := by omega
      have hd : c.drop (k - 1) = c[k - 1] :: c.drop k := by
        rw [List.drop_eq_getElem_cons hk1, show k - 1 + 1 = k by omega]
      have hg : c.getD i.toNat (0, 0) = c[k - 1] := by rw [hik, Int.toNat_natCast, List.getD_eq_getElem?_getD, List.getElem?_eq_getElem hk1, Option.getD_some]
      have ew' : IntKind.i64.wrap (i - 1) = i - 1 := wrap_i64' (by omega) (by omega)
      rw [ew', hg]
      rw [List.take_length] at pt ⊢
      refine ⟨by omega, pt, fun hx0 => ⟨trivial, ⟨h, by omega⟩, by omega, trivial, triv_intro ⟨⟨k - 1, by omega, by show i - 1 = _; omega, ?_⟩, by show (i - 1 + 1).toNat < (i + 1).toNat; omega⟩⟩, fun hx0 => ⟨⟨h, by omega⟩, by omega, trivial, triv_intro ⟨⟨k - 1, by omega, by show i - 1 = _; omega, ?_⟩, by show (i - 1 + 1).toNat < (i + 1).toNat; omega⟩⟩⟩
      · show g1.gadd _ _ = catF x (c.drop (k - 1))
        rw [hd, catF, catS, if_pos (of_decide_eq_true hx0), es]
      · show g1.gadd _ _ = catF x (c.drop (k - 1))
        rw [hd, catF, catS, if_neg (of_decide_eq_false hx0), es]
    · have h : ¬ i ≥ 0 := of_decide_eq_false h
      have : k = 0 := by omega
      subst this
      exact es
  rintro ⟨i, s⟩ hj
  revert i s
  intro (i : Int) (s : Fp × Fp) (hj : s = catF x c)
  refine tr_vc hsp mixed _ _ ?_
  refine vcx (X := ((s, ()) = outCat (c, x, ()))) (by kernel_rfl) ?_
  rw [hj]
noncomputable def spCat : Nat × Eng.Spec := (35, fnSpec [.sl pt1, .int .i64] [.val pt1] preCat outCat)

theorem ent_fits : enters Try.prog 19 Try.f19 := enters_mk (by kernel_rfl) (by kernel_rfl) (by kernel_rfl)
noncomputable def fitF (c : List (Fp × Fp)) (x : Int) (s : Fr) : Bool := decide (g1.gmul g1.gG s = catF x c)
abbrev preFits : HL [.sl pt1, .int .i64, .fr] → Prop := fun (c, x, _, _) => List.length c < 4611686018427387904 ∧ preI x
noncomputable abbrev outFits : HL [.sl pt1, .int .i64, .fr] → HO [.val .bool] := fun (c, x, s, _) => (fitF c x s, ())
theorem fn_fits : FnOk Try.prog 19 [.sl pt1, .int .i64, .fr] [.val .bool] noG preFits outFits := by
  refine fn_of_vc (sp := sps [g1.soGen, g1.soMul, spCat]) (sps_cons (fnSpec_ok g1.fo_gen) (sps_cons (fnSpec_ok g1.fo_mul) (sps_cons (fnSpec_ok fn_cat) sps_nil))) mixed ent_fits (by decide) (by decide) ?_
  rintro w M0 ⟨c, x, s, ⟨⟩⟩
  revert c x s
  intro (c : List (Fp × Fp)) (x : Int) (s : Fr) _ hp
  refine vcx (X := (True ∧ True ∧ preCat (c, x, ()) ∧ (eqC (Kd.fp.pair Kd.fp) (g1.gmul g1.gG s) (catF x c), ()) = outFits (c, x, s, ()))) (by kernel_rfl) ?_
  rw [eqP]
  exact ⟨trivial, trivial, hp, rfl⟩
noncomputable def spFits : Nat × Eng.Spec := (19, fnSpec [.sl pt1, .int .i64, .fr] [.val .bool] preFits outFits)

theorem ent_weights : enters Try.prog 45 Try.f45 := enters_mk (by kernel_rfl) (by kernel_rfl) (by kernel_rfl)
/-- The places' error: the first that is out of bounds (34) or was there (33). -/
def plE (seen : List Int) : List Int → Int
  | [] => 0
  | x :: xs => if x < 1 ∨ x > 9 then 34 else if x ∈ seen then 33 else plE (x :: seen) xs
noncomputable def wtI (xs : List Int) (x : Int) : Fr := opq (wgt (xs.map fun y => (zm y : Fr)) (zm x))
noncomputable def wtsF (xs : List Int) : List Fr := if plE [] xs = 0 then xs.map (wtI xs) else []
abbrev preWeights : HL [.sl (.int .i64)] → Prop := fun (xs, _) => List.length xs < 4611686018427387904 ∧ ∀ x ∈ (xs : List Int), preI x
noncomputable abbrev outWeights : HL [.sl (.int .i64)] → HO [.own .fr, .val (.int .i64)] := fun (xs, _) => (wtsF xs, plE [] xs, ())
def snL (done : List Int) : List Bool := (List.range 10).map fun (v : Nat) => decide ((v : Int) ∈ done)
noncomputable def w1I (xs : List Int) (g : Int × List Bool) : St := mkSt Try.f45.ntmps 48 [(0, .is (.one (.ro (.int .i64) xs))), (2, .is (.one (.v (.slice none 0 0)))), (3, sI .i64 0), (4, .is (.one (.ptr 16 0))), (14, .is (.one (.ro (.int .i64) xs))), (15, sI .i64 xs.length), (16, sI .i64 g.1)] [(16, [.row .bool 10 g.2])]
noncomputable def w1J (xs : List Int) (g : Int × List Bool) : Prop := ∃ k : Nat, k ≤ xs.length ∧ g.1 = (k : Int) ∧ g.2 = snL (xs.take k).reverse ∧ plE [] xs = plE (xs.take k).reverse (xs.drop k)
noncomputable def w1O (xs : List Int) : St := mkSt Try.f45.ntmps 48 [(0, .is (.one (.ro (.int .i64) xs))), (2, .is (.one (.v (.slice none 0 0)))), (3, sI .i64 0)] []
theorem snL_get {l : List Int} {x : Int} (h0 : 0 ≤ x) (h1 : x < 10) : (snL l).getD x.toNat false = decide (x ∈ l) := by
  obtain ⟨n, rfl⟩ := Int.eq_ofNat_of_zero_le h0
  have : n < 10 := by omega
  simp [snL, this]
theorem snL_set {l : List Int} {x : Int} (h0 : 0 ≤ x) (h1 : x < 10) : (snL l).set x.toNat true = snL (x :: l) := by
  obtain ⟨n, rfl⟩ := Int.eq_ofNat_of_zero_le h0
  refine List.ext_getElem (by simp [snL]) fun i h2 h3 => ?_
  rw [List.getElem_set]
  split
  · rename_i e
    have e : n = i := by simpa using e
    subst e; simp [snL]
  · rename_i e
    have e : ¬ (i : Int) = (n : Int) := by simp at e; omega
    simp [snL, e]
noncomputable def w2I (xs : List Int) (g : Int × List Fr) : St := mkSt Try.f45.ntmps 104 [(0, .is (.one (.ro (.int .i64) xs))), (2, .is (.one (.v (.slice none 0 0)))), (3, sI .i64 0), (7, .is (.one (.sl 64 0 0 (xs.length : Int).toNat 4))), (35, .is (.one (.ro (.int .i64) xs))), (36, sI .i64 xs.length), (37, sI .i64 g.1)] [(64, [.row .fr (xs.length : Int).toNat g.2])]
def w2J (xs : List Int) (g : Int × List Fr) : Prop := ∃ k : Nat, k ≤ xs.length ∧ g.1 = (k : Int) ∧ g.2 = (xs.take k).map (wtI xs) ++ List.replicate (xs.length - k) 0
def w2O (xs : List Int) (g : Int × List Fr) : Prop := g.2 = xs.map (wtI xs)
theorem plE_ok : ∀ {xs seen : List Int}, plE seen xs = 0 → (∀ x ∈ xs, (1 ≤ x ∧ x ≤ 9) ∧ x ∉ seen) ∧ xs.Nodup
  | [], _, _ => ⟨(fun _ h => nomatch h), List.nodup_nil⟩
  | x :: xs, seen, h => by
    unfold plE at h
    split at h
    · cases h
    · rename_i h1
      split at h
      · cases h
      · rename_i h2
        obtain ⟨h3, h4⟩ := plE_ok h
        refine ⟨fun y hy => ?_, List.nodup_cons.2 ⟨fun hx => (h3 x hx).2 (by simp), h4⟩⟩
        rcases List.mem_cons.1 hy with rfl | hy
        · exact ⟨by omega, h2⟩
        · exact ⟨(h3 y hy).1, fun hs => (h3 y hy).2 (by simp [hs])⟩
theorem nodup_len : ∀ (n : Nat) {xs : List Int}, xs.Nodup → (∀ x ∈ xs, 1 ≤ x ∧ x ≤ (n : Int)) → xs.length ≤ n
  | 0, xs, _, h => by
    cases xs with
    | nil => exact Nat.le_refl _
    | cons a l => have := h a (by simp); omega
  | n + 1, xs, hd, h => by
    have h1 := nodup_len n (xs := xs.erase ((n + 1 : Nat) : Int)) (hd.erase _) (fun x hx => by
      have hm := (List.Nodup.mem_erase_iff hd).1 hx
      have := h x hm.2
      have hne := hm.1
      omega)
    by_cases hm : ((n + 1 : Nat) : Int) ∈ xs
    · rw [List.length_erase_of_mem hm] at h1; omega
    · rw [List.erase_of_not_mem hm] at h1; omega
theorem plE_len {xs : List Int} (h : plE [] xs = 0) : xs.length ≤ 9 := by
  obtain ⟨h1, h2⟩ := plE_ok h
  exact nodup_len 9 h2 fun x hx => (h1 x hx).1
theorem zm_inj9 {x y : Int} (hx : 1 ≤ x ∧ x ≤ 9) (hy : 1 ≤ y ∧ y ≤ 9) (h : (zm x : Fr) = zm y) : x = y := by
  have h : x % Mr = y % Mr := congrArg Zm.v h
  rw [Int.emod_eq_of_lt (by omega) (by unfold Mr; omega), Int.emod_eq_of_lt (by omega) (by unfold Mr; omega)] at h
  exact h
theorem prd_snoc {F : Type} [Rg F] : ∀ (l : List F) (a : F), prd (l ++ [a]) = prd l * a
  | [], a => by show a * 1 = 1 * a; rw [Rg.mul_comm]
  | b :: l, a => by show b * prd (l ++ [a]) = b * prd l * a; rw [prd_snoc l a, Rg.mul_assoc]
/-- The other places. -/
def oth (xs : List Int) (x : Int) : List Int := xs.filter fun y => decide (y ≠ x)
noncomputable def abv (xs : List Int) (x : Int) : Fr := prd ((oth xs x).map fun y => (zm y : Fr))
noncomputable def blw (xs : List Int) (x : Int) : Fr := prd ((oth xs x).map fun y => (zm (y - x) : Fr))
theorem oth_snoc (xs : List Int) (x y : Int) : oth (xs ++ [y]) x = if y = x then oth xs x else oth xs x ++ [y] := by
  unfold oth
  rw [List.filter_append]
  by_cases h : y = x <;> simp [h]
theorem wtI_eq {xs : List Int} (h : ∀ x ∈ xs, 1 ≤ x ∧ x ≤ 9) {x : Int} (hx : x ∈ xs) : wtI xs x = abv xs x * fr.zinv (blw xs x) := by
  have e : (xs.map fun y => (zm y : Fr)).filter (fun y => decide (y ≠ zm x)) = (oth xs x).map fun y => (zm y : Fr) := by
    rw [List.filter_map, oth]
    congr 1
    refine List.filter_congr fun y hy => ?_
    simp only [Function.comp, ne_eq]
    by_cases hyx : y = x
    · simp [hyx]
    · have : ¬ (zm y : Fr) = zm x := fun e => hyx (zm_inj9 (h y hy) (h x hx) e)
      simp [hyx, this]
  rw [wtI, opq_eq, wgt, e, List.map_map]
  have e2 : (fun y : Fr => y - zm x) ∘ (fun y => (zm y : Fr)) = fun y => (zm (y - x) : Fr) := by
    funext y; simp only [Function.comp, zm_sub]
  rw [e2]; rfl
noncomputable def w3I (xs : List Int) (k : Nat) (x : Int) (l : List Fr) (g : Int × Fr × Fr) : St := mkSt Try.f45.ntmps 216 [(0, .is (.one (.ro (.int .i64) xs))), (2, .is (.one (.v (.slice none 0 0)))), (3, sI .i64 0), (7, .is (.one (.sl 64 0 0 (xs.length : Int).toNat 4))), (8, sI .i64 k), (9, sI .i64 x), (10, .is (.one (.ptr 160 0))), (11, .is (.one (.ptr 168 0))), (35, .is (.one (.ro (.int .i64) xs))), (36, sI .i64 xs.length), (37, sI .i64 k), (44, .is (.one (.ro (.int .i64) xs))), (45, sI .i64 xs.length), (46, sI .i64 g.1)] [(64, [.row .fr (xs.length : Int).toNat l]), (160, [.row .fr 1 [g.2.1]]), (168, [.row .fr 1 [g.2.2]])]
def w3J (xs : List Int) (x : Int) (g : Int × Fr × Fr) : Prop := ∃ j : Nat, j ≤ xs.length ∧ g.1 = (j : Int) ∧ g.2.1 = abv (xs.take j) x ∧ g.2.2 = blw (xs.take j) x
def w3O (xs : List Int) (x : Int) (g : Int × Fr × Fr) : Prop := g.2.1 = abv xs x ∧ g.2.2 = blw xs x
theorem fn_weights : FnOk Try.prog 45 [.sl (.int .i64)] [.own .fr, .val (.int .i64)] noG preWeights outWeights := by
  have hsp : SpecsOk Try.prog (sps [fr.spOf, fr.spMul, spScalar, fr.spInv]) := (sps_cons (fnSpec_ok fr.fn_of) (sps_cons (fnSpec_ok fr.fn_mul) (sps_cons (fnSpec_ok fn_scalar) (sps_cons (fnSpec_ok fr.fn_inv) sps_nil))))
  refine fn_of_tr (sp := sps [fr.spOf, fr.spMul, spScalar, fr.spInv]) ent_weights (by decide) (by decide) (by kernel_rfl) ?_
  rintro w M0 ⟨xs, ⟨⟩⟩
  revert xs
  intro (xs : List Int) _ hp
  obtain ⟨hl, hx⟩ := hp
  have hl : xs.length < 4611686018427387904 := hl
  have hx : ∀ x ∈ xs, preI x := hx
  show Tr _ _ _ _ _ _ _
  refine tr_cut hsp mixed 3 (w1I xs (0, List.replicate 10 false)) True ?_ (fun _ => ?_)
  · refine vcx (X := ((w1I xs ((0 : Int), List.replicate (10 : Nat) false)).triv True)) (by kernel_rfl) ?_
    exact triv_intro trivial
  refine tr_while hsp mixed noSw (fun σ => (rdS (.int .i64) 16 σ, rdR .bool 16 σ)) (w1I xs) (w1J xs) (fun g => xs.length - g.1.toNat)
    (fun _ => ()) (fun _ => w1O xs) (fun _ => plE [] xs = 0) (0, List.replicate 10 false) (c := nthC (codeOf Try.f45) 3) (by kernel_rfl) (by kernel_rfl) (le_of_proj (by kernel_rfl) (by kernel_rfl) ?_) ?_ ?_
  · exact ⟨0, Nat.zero_le _, rfl, rfl, rfl⟩
  · rintro ⟨i, l⟩ hj
    revert i l
    intro (i : Int) (l : List Bool) ⟨k, hk, ei, el, ep⟩
    have ei : i = (k : Int) := ei
    have kl : l = snL (xs.take k).reverse := el
    subst ei
    refine vcx (X := ((decide ((↑k : Int) < (↑xs.length : Int)) = true → ((0 : Int) ≤ (↑k : Int) ∧ (↑k : Int) < (↑xs.length : Int)) ∧ (↑k : Int).toNat < xs.length ∧ (decide (xs.getD (↑k : Int).toNat (0 : Int) < (1 : Int)) = true → ([], (34 : Int), ()) = outWeights (xs, ())) ∧ (decide (xs.getD (↑k : Int).toNat (0 : Int) < (1 : Int)) = false → (decide (xs.getD (↑k : Int).toNat (0 : Int) > (9 : Int)) = true → ([], (34 : Int), ()) = outWeights (xs, ())) ∧ (decide (xs.getD (↑k : Int).toNat (0 : Int) > (9 : Int)) = false → ((0 : Int) ≤ xs.getD (↑k : Int).toNat (0 : Int) ∧ xs.getD (↑k : Int).toNat (0 : Int) < (↑(10 : Nat) : Int)) ∧ (xs.getD (↑k : Int).toNat (0 : Int)).toNat < (10 : Nat) ∧ (l.getD (xs.getD (↑k : Int).toNat (0 : Int)).toNat false = true → ([], (33 : Int), ()) = outWeights (xs, ())) ∧ (l.getD (xs.getD (↑k : Int).toNat (0 : Int)).toNat false = false → ((0 : Int) ≤ xs.getD (↑k : Int).toNat (0 : Int) ∧ xs.getD (↑k : Int).toNat (0 : Int) < (↑(10 : Nat) : Int)) ∧ (xs.getD (↑k : Int).toNat (0 : Int)).toNat < (10 : Nat) ∧ (w1I xs (IntKind.i64.wrap ((↑k : Int) + (1 : Int)), l.set (xs.getD (↑k : Int).toNat (0 : Int)).toNat true)).triv (w1J xs (IntKind.i64.wrap ((↑k : Int) + (1 : Int)), l.set (xs.getD (↑k : Int).toNat (0 : Int)).toNat true) ∧ xs.length - (IntKind.i64.wrap ((↑k : Int) + (1 : Int))).toNat < xs.length - (↑k : Int).toNat))))) ∧ (decide ((↑k : Int) < (↑xs.length : Int)) = false → (w1O xs).triv (plE [] xs = (0 : Int))))) (by kernel_rfl) ?_
    rw [Int.toNat_natCast]
    refine ⟨fun h => ?_, fun h => triv_intro ?_⟩
    · have hlt : k < xs.length := by have := dec_lt h; omega
      have hd : xs.drop k = xs[k] :: xs.drop (k + 1) := List.drop_eq_getElem_cons hlt
      have hg : xs.getD k 0 = xs[k] := by rw [List.getD_eq_getElem?_getD, List.getElem?_eq_getElem hlt, Option.getD_some]
      rw [hg, wrap_succ (by omega)]
      have hr : (xs.take (k + 1)).reverse = xs[k] :: (xs.take k).reverse := by
        rw [List.take_succ_eq_append_getElem hlt, List.reverse_append]; rfl
      rw [hd] at ep
      generalize xs[k] = x at *
      refine ⟨⟨by omega, by omega⟩, hlt, fun h1 => ?_, fun h1 => ⟨fun h2 => ?_, fun h2 => ?_⟩⟩
      · have h1 : x < 1 := of_decide_eq_true h1
        show _ = (wtsF xs, plE [] xs, ())
        rw [plE, if_pos (.inl h1)] at ep
        rw [wtsF, ep]; rfl
      · have h2 : x > 9 := of_decide_eq_true h2
        show _ = (wtsF xs, plE [] xs, ())
        rw [plE, if_pos (.inr h2)] at ep
        rw [wtsF, ep]; rfl
      · have h1 : ¬ x < 1 := of_decide_eq_false h1
        have h2 : ¬ x > 9 := of_decide_eq_false h2
        rw [plE, if_neg (by omega)] at ep
        have hm : l.getD x.toNat false = decide (x ∈ (xs.take k).reverse) := by
          rw [kl]; exact snL_get (by omega) (by omega)
        rw [hm]
        refine ⟨⟨by omega, by omega⟩, by omega, fun h3 => ?_, fun h3 => ⟨⟨by omega, by omega⟩, by omega, triv_intro ⟨⟨k + 1, hlt, rfl, ?_, ?_⟩, ?_⟩⟩⟩
        · rw [if_pos (of_decide_eq_true h3)] at ep
          show _ = (wtsF xs, plE [] xs, ())
          rw [wtsF, ep]; rfl
        · show l.set x.toNat true = _
          rw [kl, snL_set (by omega) (by omega), hr]
        · rw [if_neg (of_decide_eq_false h3)] at ep
          rw [ep, hr]
        · show xs.length - ((k + 1 : Nat) : Int).toNat < xs.length - (k : Int).toNat
          rw [Int.toNat_natCast, Int.toNat_natCast]; omega
    · have : k = xs.length := by have := dec_ge h; omega
      rw [this, List.drop_length] at ep
      exact ep
  rintro ⟨⟩ h0
  have h0 : plE [] xs = 0 := h0
  have hl9 : xs.length ≤ 9 := plE_len h0
  refine tr_cut hsp mixed 2 (w2I xs (0, List.replicate (xs.length : Int).toNat 0)) True ?_ (fun _ => ?_)
  · refine vcx (X := (((0 : Int) ≤ (↑xs.length : Int) ∧ (↑xs.length : Int) ≤ (↑xs.length : Int) ∧ (↑(32 : Nat) : Int) * (↑xs.length : Int) ≤ (281474976710656 : Int) ∧ (↑xs.length : Int) ≤ (9223372036854775807 : Int)) ∧ (w2I xs ((0 : Int), List.replicate (↑xs.length : Int).toNat (0 : Fr))).triv True)) (by kernel_rfl) ?_
    exact ⟨⟨by omega, by omega, by omega, by omega⟩, triv_intro trivial⟩
  refine tr_whileT noSw (fun σ => (rdS (.int .i64) 37 σ, rdR .fr 64 σ)) (w2I xs) (w2J xs) (fun g => xs.length - g.1.toNat)
    (fun σ => (rdS (.int .i64) 37 σ, rdR .fr 64 σ)) (w2I xs) (w2O xs) (0, List.replicate (xs.length : Int).toNat 0) (c := nthC (codeOf Try.f45) 6) (by kernel_rfl) (by kernel_rfl) (le_of_proj (by kernel_rfl) (by kernel_rfl) ?_) ?_ ?_
  · exact ⟨0, Nat.zero_le _, rfl, by simp⟩
  · rintro ⟨i, l⟩ hj
    revert i l
    intro (i : Int) (l : List Fr) ⟨k, hk, ei, el⟩
    have ei : i = (k : Int) := ei
    have kl : l = (xs.take k).map (wtI xs) ++ List.replicate (xs.length - k) 0 := el
    subst ei
    refine tr_cut hsp mixed 2 (w2I xs ((k : Int), l)) (k < xs.length) ?_ (fun hlt => ?_)
    · refine vcx (X := ((decide ((↑k : Int) < (↑xs.length : Int)) = true → (w2I xs ((↑k : Int), l)).triv (k < xs.length)) ∧ (decide ((↑k : Int) < (↑xs.length : Int)) = false → (w2I xs ((↑k : Int), l)).triv (w2O xs ((↑k : Int), l))))) (by kernel_rfl) ?_
      refine ⟨fun h => triv_intro (by have := dec_lt h; omega), fun h => triv_intro ?_⟩
      have : k = xs.length := by have := dec_ge h; omega
      show l = _
      rw [kl, this, List.take_length, Nat.sub_self]
      exact List.append_nil _
    refine tr_block (c := nthC (loopOf (nthC (codeOf Try.f45) 6)) 2) (by kernel_rfl) (by kernel_rfl) ?_
    have hxk : xs[k] ∈ xs := List.getElem_mem hlt
    obtain ⟨hr9, _⟩ := plE_ok h0
    have hr9 : ∀ x ∈ xs, 1 ≤ x ∧ x ≤ 9 := fun x hx => (hr9 x hx).1
    have hgk : xs.getD k 0 = xs[k] := by rw [List.getD_eq_getElem?_getD, List.getElem?_eq_getElem hlt, Option.getD_some]
    generalize hxx : xs[k] = x at *
    refine tr_cut hsp mixed 3 (w3I xs k (xs.getD (k : Int).toNat 0) l (0, zm 1, zm 1)) True ?_ (fun _ => ?_)
    · refine vcx (X := (((0 : Int) ≤ (↑k : Int) ∧ (↑k : Int) < (↑xs.length : Int)) ∧ (↑k : Int).toNat < xs.length ∧ U64 (1 : Int) ∧ U64 (1 : Int) ∧ (w3I xs k (xs.getD (↑k : Int).toNat (0 : Int)) l ((0 : Int), zmr (1 : Int), zmr (1 : Int))).triv True)) (by kernel_rfl) ?_
      exact ⟨⟨by omega, by omega⟩, by omega, ⟨by decide, by decide⟩, ⟨by decide, by decide⟩, triv_intro trivial⟩
    rw [Int.toNat_natCast, hgk]
    refine tr_while hsp mixed noSw (fun σ => (rdS (.int .i64) 46 σ, rdB .fr 160 σ, rdB .fr 168 σ)) (w3I xs k x l) (w3J xs x) (fun g => xs.length - g.1.toNat)
      (fun σ => (rdS (.int .i64) 46 σ, rdB .fr 160 σ, rdB .fr 168 σ)) (w3I xs k x l) (w3O xs x) (0, zm 1, zm 1) (c := nthC (bodyOf (nthC (loopOf (nthC (codeOf Try.f45) 6)) 2)) 3) (by kernel_rfl) (by kernel_rfl) (le_of_proj (by kernel_rfl) (by kernel_rfl) ?_) ?_ ?_
    · exact ⟨0, Nat.zero_le _, rfl, rfl, rfl⟩
    · rintro ⟨j, a, b⟩ hj
      revert j a b
      intro (j : Int) (a : Fr) (b : Fr) ⟨n, hn, ej, ea, eb⟩
      have ej : j = (n : Int) := ej
      have ka : a = abv (xs.take n) x := ea
      have kb : b = blw (xs.take n) x := eb
      subst ej
      refine vcx (X := ((decide ((↑n : Int) < (↑xs.length : Int)) = true → ((0 : Int) ≤ (↑n : Int) ∧ (↑n : Int) < (↑xs.length : Int)) ∧ (↑n : Int).toNat < xs.length ∧ ((xs.getD (↑n : Int).toNat (0 : Int) != x) = true → pre1I (xs.getD (↑n : Int).toNat (0 : Int), ()) ∧ True ∧ pre1I (IntKind.i64.wrap (xs.getD (↑n : Int).toNat (0 : Int) - x), ()) ∧ True ∧ (w3I xs k x l (IntKind.i64.wrap ((↑n : Int) + (1 : Int)), a * sclI (xs.getD (↑n : Int).toNat (0 : Int)), b * sclI (IntKind.i64.wrap (xs.getD (↑n : Int).toNat (0 : Int) - x)))).triv (w3J xs x (IntKind.i64.wrap ((↑n : Int) + (1 : Int)), a * sclI (xs.getD (↑n : Int).toNat (0 : Int)), b * sclI (IntKind.i64.wrap (xs.getD (↑n : Int).toNat (0 : Int) - x))) ∧ xs.length - (IntKind.i64.wrap ((↑n : Int) + (1 : Int))).toNat < xs.length - (↑n : Int).toNat)) ∧ ((xs.getD (↑n : Int).toNat (0 : Int) != x) = false → (w3I xs k x l (IntKind.i64.wrap ((↑n : Int) + (1 : Int)), a, b)).triv (w3J xs x (IntKind.i64.wrap ((↑n : Int) + (1 : Int)), a, b) ∧ xs.length - (IntKind.i64.wrap ((↑n : Int) + (1 : Int))).toNat < xs.length - (↑n : Int).toNat))) ∧ (decide ((↑n : Int) < (↑xs.length : Int)) = false → (w3I xs k x l ((↑n : Int), a, b)).triv (w3O xs x ((↑n : Int), a, b))))) (by kernel_rfl) ?_
      rw [Int.toNat_natCast]
      refine ⟨fun h => ?_, fun h => triv_intro ?_⟩
      · have hlt' : n < xs.length := by have := dec_lt h; omega
        have hgn : xs.getD n 0 = xs[n] := by rw [List.getD_eq_getElem?_getD, List.getElem?_eq_getElem hlt', Option.getD_some]
        have hyn : xs[n] ∈ xs := List.getElem_mem hlt'
        have htk : xs.take (n + 1) = xs.take n ++ [xs[n]] := List.take_succ_eq_append_getElem hlt'
        rw [hgn, wrap_succ (by omega)]
        generalize xs[n] = y at *
        have hy9 := hr9 y hyn
        have hx9 := hr9 x hxk
        have hyx : IntKind.i64.wrap (y - x) = y - x := wrap_i64' (by omega) (by omega)
        rw [hyx]
        have hmu : xs.length - ((n + 1 : Nat) : Int).toNat < xs.length - (n : Int).toNat := by rw [Int.toNat_natCast, Int.toNat_natCast]; omega
        refine ⟨⟨by omega, by omega⟩, hlt', fun h2 => ⟨⟨by omega, by omega⟩, trivial, ⟨by omega, by omega⟩, trivial, triv_intro ⟨⟨n + 1, hlt', rfl, ?_, ?_⟩, hmu⟩⟩, fun h2 => triv_intro ⟨⟨n + 1, hlt', rfl, ?_, ?_⟩, hmu⟩⟩
        · have h2 : ¬ y = x := by simpa using h2
          show a * sclI y = abv (xs.take (n + 1)) x
          rw [htk, abv, oth_snoc, if_neg h2, List.map_append, List.map_cons, List.map_nil, prd_snoc, ka, sclI_eq]; rfl
        · have h2 : ¬ y = x := by simpa using h2
          show b * sclI (y - x) = blw (xs.take (n + 1)) x
          rw [htk, blw, oth_snoc, if_neg h2, List.map_append, List.map_cons, List.map_nil, prd_snoc, kb, sclI_eq]; rfl
        · have h2 : y = x := by simpa using h2
          show _ = abv (xs.take (n + 1)) x
          rw [htk, abv, oth_snoc, if_pos h2, ka]; rfl
        · have h2 : y = x := by simpa using h2
          show _ = blw (xs.take (n + 1)) x
          rw [htk, blw, oth_snoc, if_pos h2, kb]; rfl
      · have : n = xs.length := by have := dec_ge h; omega
        rw [this, List.take_length] at ka kb
        exact ⟨ka, kb⟩
    rintro ⟨j, a, b⟩ hj
    revert j a b
    intro (j : Int) (a : Fr) (b : Fr) ⟨ea, eb⟩
    have ka : a = abv xs x := ea
    have kb : b = blw xs x := eb
    refine tr_cut hsp mixed 1 (w2I xs ((k : Int), l.set k (a * fr.zinv b))) True ?_ (fun _ => ?_)
    · refine vcx (X := (True ∧ True ∧ ((0 : Int) ≤ (↑k : Int) ∧ (↑k : Int) < (↑(↑xs.length : Int).toNat : Int)) ∧ (↑k : Int).toNat < (↑xs.length : Int).toNat ∧ (w2I xs ((↑k : Int), l.set k (a * fr.zinv b))).triv True)) (by kernel_rfl) ?_
      exact ⟨trivial, trivial, ⟨by omega, by omega⟩, by omega, triv_intro trivial⟩
    refine tr_nil ?_
    refine tr_vc hsp mixed _ _ ?_
    refine vcx (X := ((w2I xs (IntKind.i64.wrap ((↑k : Int) + (1 : Int)), l.set k (a * fr.zinv b))).triv (w2J xs (IntKind.i64.wrap ((↑k : Int) + (1 : Int)), l.set k (a * fr.zinv b)) ∧ xs.length - (IntKind.i64.wrap ((↑k : Int) + (1 : Int))).toNat < xs.length - k))) (by kernel_rfl) ?_
    rw [wrap_succ (by omega)]
    refine triv_intro ⟨⟨k + 1, hlt, rfl, ?_⟩, by rw [Int.toNat_natCast]; omega⟩
    show l.set k (a * fr.zinv b) = _
    rw [kl, ka, kb, ← wtI_eq hr9 hxk, List.set_append_right _ _ (by simp; omega), List.take_succ_eq_append_getElem hlt, hxx]
    have e : xs.length - k = (xs.length - (k + 1)) + 1 := by omega
    have e2 : k - ((xs.take k).map (wtI xs)).length = 0 := by simp; omega
    rw [e2, e, List.replicate_succ, List.set_cons_zero, List.map_append, List.append_assoc]
    rfl
  rintro ⟨i, l⟩ hj
  revert i l
  intro (i : Int) (l : List Fr) (hj : l = xs.map (wtI xs))
  refine tr_vc hsp mixed _ _ ?_
  refine vcx (X := ((0 : Nat) + (↑xs.length : Int).toNat ≤ (↑xs.length : Int).toNat ∧ (List.take (↑xs.length : Int).toNat l, (0 : Int), ()) = outWeights (xs, ()))) (by kernel_rfl) ?_
  rw [Int.toNat_natCast]
  refine ⟨by omega, ?_⟩
  show (_, _, ()) = (wtsF xs, plE [] xs, ())
  rw [hj, wtsF, if_pos h0, h0, List.take_of_length_le (by simp)]
noncomputable def spWeights : Nat × Eng.Spec := (45, fnSpec [.sl (.int .i64)] [.own .fr, .val (.int .i64)] preWeights outWeights)
end Go.Proofs.Ytbfimfdhmggieaa.poly
/- poly: mix, Secret. -/
namespace Go.Proofs.Ytbfimfdhmggieaa.poly
set_option maxRecDepth 100000
open Go Go.Eng Go.RowKit Cr Go.Proofs.Ytbfimfdhmggieaa
theorem ent_mixR : enters Try.prog 32 Try.f32 := enters_mk (by kernel_rfl) (by kernel_rfl) (by kernel_rfl)
/-- The sum so far. -/
noncomputable def mxR (ws : List Fr) (ts : List (Fr)) : Nat → Fr
  | 0 => 0
  | k + 1 => mxR ws ts k + (ts.getD k 0) * (ws.getD k 0)
noncomputable def mixR (xs : List Int) (ts : List (Fr)) : (Fr) × Int := if xs.length = ts.length then (if plE [] xs = 0 then (mxR (wtsF xs) ts xs.length, 0) else (0, plE [] xs)) else (0, 1)
abbrev preMixR : HL [.sl (.int .i64), .sl .fr] → Prop := fun (xs, _, _) => List.length xs < 4611686018427387904 ∧ ∀ x ∈ (xs : List Int), preI x
noncomputable abbrev outMixR : HL [.sl (.int .i64), .sl .fr] → HO [.val .fr, .val (.int .i64)] := fun (xs, ts, _) => ((mixR xs ts).1, (mixR xs ts).2, ())
noncomputable def mIR (xs : List Int) (ts : List (Fr)) (g : Int × (Fr)) : St := mkSt Try.f32.ntmps 160 [(1, .is (.one (.ro .fr ts))), (2, fnSV 28), (3, fnSV 29), (8, .is (.one (.ptr 0 0))), (9, sI .i64 0), (10, .is (.one (.ptr 16 0))), (30, .is (.one (.sl 72 0 0 (wtsF xs).length 4))), (31, sI .i64 (wtsF xs).length), (32, sI .i64 g.1)] [(0, [.row .fr 1 [0]]), (16, [.row .fr 1 [g.2]]), (72, [.row .fr (wtsF xs).length (wtsF xs)])]
def mJR (xs : List Int) (ts : List (Fr)) (g : Int × (Fr)) : Prop := ∃ k : Nat, k ≤ xs.length ∧ g.1 = (k : Int) ∧ g.2 = mxR (wtsF xs) ts k
def mOR (xs : List Int) (ts : List (Fr)) (g : Int × (Fr)) : Prop := g.2 = mxR (wtsF xs) ts xs.length
theorem fn_mixR : FnOkT Try.prog 32 [.sl (.int .i64), .sl .fr] ([28, 29].map fnV) [.val .fr, .val (.int .i64)] noG preMixR outMixR := by
  have hsp : SpecsOk Try.prog (sps [spWeights, fr.spMul, fr.spAdd]) := (sps_cons (fnSpec_ok fn_weights) (sps_cons (fnSpec_ok fr.fn_mul) (sps_cons (fnSpec_ok fr.fn_add) sps_nil)))
  refine fn_of_trT (sp := sps [spWeights, fr.spMul, fr.spAdd]) ent_mixR (by decide) (by decide) (by kernel_rfl) ?_
  rintro w M0 ⟨xs, ts, ⟨⟩⟩
  revert xs ts
  intro (xs : List Int) (ts : List (Fr)) _ hp
  have hpp := hp
  obtain ⟨hl, hx⟩ := hp
  have hl : xs.length < 4611686018427387904 := hl
  show Tr _ _ _ _ _ _ _
  refine tr_cut hsp mixed 8 (mIR xs ts (0, 0)) (xs.length = ts.length ∧ plE [] xs = 0) ?_ (fun hk => ?_)
  · refine vcx (X := ((((↑xs.length : Int) != (↑ts.length : Int)) = true → ((0 : Fr), (1 : Int), ()) = outMixR (xs, ts, ())) ∧ (((↑xs.length : Int) != (↑ts.length : Int)) = false → preWeights (xs, ()) ∧ ((plE [] xs != (0 : Int)) = true → ((0 : Fr), plE [] xs, ()) = outMixR (xs, ts, ())) ∧ ((plE [] xs != (0 : Int)) = false → (mIR xs ts ((0 : Int), (0 : Fr))).triv (xs.length = ts.length ∧ plE [] xs = (0 : Int)))))) (by kernel_rfl) ?_
    refine ⟨fun h => ?_, fun h => ⟨hpp, fun h2 => ?_, fun h2 => triv_intro ?_⟩⟩
    · have h : ¬ xs.length = ts.length := by simp at h; omega
      show _ = ((mixR xs ts).1, (mixR xs ts).2, ())
      rw [mixR, if_neg h]
    · have h : xs.length = ts.length := by simp at h; omega
      have h2 : ¬ plE [] xs = 0 := by simpa using h2
      show _ = ((mixR xs ts).1, (mixR xs ts).2, ())
      rw [mixR, if_pos h, if_neg h2]
    · exact ⟨by simp at h; omega, by simpa using h2⟩
  obtain ⟨he, h0⟩ := hk
  have hwl : (wtsF xs).length = xs.length := by rw [wtsF, if_pos h0, List.length_map]
  refine tr_while hsp mixed noSw (fun σ => (rdS (.int .i64) 32 σ, rdB .fr 16 σ)) (mIR xs ts) (mJR xs ts) (fun g => xs.length - g.1.toNat)
    (fun σ => (rdS (.int .i64) 32 σ, rdB .fr 16 σ)) (mIR xs ts) (mOR xs ts) (0, 0) (c := nthC (codeOf Try.f32) 8) (by kernel_rfl) (by kernel_rfl) (le_of_proj (by kernel_rfl) (by kernel_rfl) ?_) ?_ ?_
  · exact ⟨0, Nat.zero_le _, rfl, rfl⟩
  · rintro ⟨i, s⟩ hj
    revert i s
    intro (i : Int) (s : Fr) ⟨k, hk, ei, es⟩
    have ei : i = (k : Int) := ei
    have ks : s = mxR (wtsF xs) ts k := es
    subst ei
    refine vcx (X := ((decide ((↑k : Int) < (↑(wtsF xs).length : Int)) = true → ((0 : Int) ≤ (↑k : Int) ∧ (↑k : Int) < (↑(wtsF xs).length : Int)) ∧ (↑k : Int).toNat < (wtsF xs).length ∧ ((0 : Int) ≤ (↑k : Int) ∧ (↑k : Int) < (↑ts.length : Int)) ∧ (↑k : Int).toNat < ts.length ∧ True ∧ True ∧ (mIR xs ts (IntKind.i64.wrap ((↑k : Int) + (1 : Int)), s + ts.getD (↑k : Int).toNat (0 : Fr) * (wtsF xs).getD (↑k : Int).toNat (0 : Fr))).triv (mJR xs ts (IntKind.i64.wrap ((↑k : Int) + (1 : Int)), s + ts.getD (↑k : Int).toNat (0 : Fr) * (wtsF xs).getD (↑k : Int).toNat (0 : Fr)) ∧ xs.length - (IntKind.i64.wrap ((↑k : Int) + (1 : Int))).toNat < xs.length - (↑k : Int).toNat)) ∧ (decide ((↑k : Int) < (↑(wtsF xs).length : Int)) = false → (mIR xs ts ((↑k : Int), s)).triv (mOR xs ts ((↑k : Int), s))))) (by kernel_rfl) ?_
    rw [Int.toNat_natCast, hwl]
    refine ⟨fun h => ?_, fun h => triv_intro ?_⟩
    · have hlt : k < xs.length := by have := dec_lt h; omega
      rw [wrap_succ (by omega)]
      refine ⟨⟨by omega, by omega⟩, by omega, ⟨by omega, by omega⟩, by omega, trivial, trivial, triv_intro ⟨⟨k + 1, hlt, rfl, ?_⟩, ?_⟩⟩
      · show s + (ts.getD k 0) * ((wtsF xs).getD k 0) = mxR _ ts (k + 1)
        rw [ks]; rfl
      · show xs.length - ((k + 1 : Nat) : Int).toNat < xs.length - (k : Int).toNat
        rw [Int.toNat_natCast, Int.toNat_natCast]; omega
    · have : k = xs.length := by have := dec_ge h; omega
      show s = mxR _ ts _
      rw [ks, this]
  rintro ⟨i, s⟩ hj
  revert i s
  intro (i : Int) (s : Fr) (hj : s = mxR (wtsF xs) ts xs.length)
  refine tr_vc hsp mixed _ _ ?_
  refine vcx (X := ((s, (0 : Int), ()) = outMixR (xs, ts, ()))) (by kernel_rfl) ?_
  show _ = ((mixR xs ts).1, (mixR xs ts).2, ())
  rw [mixR, if_pos he, if_pos h0, hj]
noncomputable def spMixR : Nat × Eng.Spec := (32, fnSpecT [.sl (.int .i64), .sl .fr] [28, 29] [.val .fr, .val (.int .i64)] preMixR outMixR)
theorem ent_secret : enters Try.prog 17 Try.f17 := enters_mk (by kernel_rfl) (by kernel_rfl) (by kernel_rfl)
theorem fn_secret : FnOk Try.prog 17 [.sl (.int .i64), .sl .fr] [.val .fr, .val (.int .i64)] noG preMixR outMixR := by
  refine fn_of_vc (sp := sps [spMixR]) (sps_cons (fnSpecT_ok fn_mixR) sps_nil) mixed ent_secret (by decide) (by decide) ?_
  rintro w M0 ⟨xs, ts, ⟨⟩⟩
  revert xs ts
  intro (xs : List Int) (ts : List (Fr)) _ hp
  refine vcx (X := (preMixR (xs, ts, ()) ∧ ((mixR xs ts).fst, (mixR xs ts).snd, ()) = outMixR (xs, ts, ()))) (by kernel_rfl) ?_
  exact ⟨hp, rfl⟩
noncomputable def spSecret : Nat × Eng.Spec := (17, fnSpec [.sl (.int .i64), .sl .fr] [.val .fr, .val (.int .i64)] preMixR outMixR)
end Go.Proofs.Ytbfimfdhmggieaa.poly
/- What package poly computes: commitments, Lagrange. -/
namespace Go.Proofs.Ytbfimfdhmggieaa.poly
set_option maxRecDepth 100000
open Go Go.Eng Go.RowKit Cr Go.Proofs.Ytbfimfdhmggieaa Rg Fd
/-- The generator times unlike scalars is unlike. -/
theorem gmul_inj {x y : Fr} (h : g1.gmul g1.gG x = g1.gmul g1.gG y) : x = y := by
  refine Classical.byContradiction fun hne => ?_
  have hd : x - y ≠ 0 := sub_ne hne
  have e1 : g1.gmul g1.gG (x - y) = O2 := by
    rw [sub_def, g1.mul_add g1.sub_G, g1.mul_neg g1.sub_G, h, add_neg_self]
  have e2 : g1.gmul (g1.gmul g1.gG (x - y)) (inv (x - y)) = g1.gG := by
    rw [← g1.mul_mul g1.sub_G, mul_inv _ hd, g1.mul_one g1.sub_G]
  rw [e1, g1.gmul_eq (.inl rfl), nmul_O] at e2
  exact g1.gG_ne e2.symm
theorem fit_eq (c : List (Fp × Fp)) (x : Int) (s : Fr) {t : Fr} (h : catF x c = g1.gmul g1.gG t) : fitF c x s = decide (s = t) := by
  rw [fitF, h, Bool.eq_iff_iff, decide_eq_true_iff, decide_eq_true_iff]
  exact ⟨gmul_inj, fun e => by rw [e]⟩
theorem catS_eq {x : Int} (hx : preI x) (e : Fr) : catS x (g1.gmul g1.gG e) = g1.gmul g1.gG (e * zm x) := by
  obtain ⟨b1, b2, b3⟩ := bysI_ok hx
  have hz := szI_ok hx
  have hs := g1.sub_gmul g1.sub_G e
  have e1 : g1.gtms (g1.gmul g1.gG e) (bysI x) = g1.gmul g1.gG (e * zm (szI x)) := by
    rw [g1.gtms_eq hs.1 b1, b3, g1.mul_mul g1.sub_G]
    refine (g1.mul_of hs ?_).symm
    show szI x % Mr = _
    rw [Int.toNat_of_nonneg hz.1]; rfl
  unfold catS
  rw [e1]
  unfold szI
  by_cases h : x < 0
  · rw [if_pos h, if_pos h, g1.gneg_eq, ← g1.mul_neg g1.sub_G, ← mul_neg, zm_neg, Int.neg_neg]
  · rw [if_neg h, if_neg h]
theorem cat_cmt {x : Int} (hx : preI x) : ∀ p : List Fr, catF x (cmt p) = g1.gmul g1.gG (pat p x)
  | [] => by
    rw [pat_eq]
    show (0, 0) = g1.gmul g1.gG 0
    rw [g1.mul_zero g1.sub_G]
  | a :: p => by
    show g1.gadd (catS x (catF x (cmt p))) (g1.gmul g1.gG a) = _
    rw [cat_cmt hx p, catS_eq hx, g1.gadd_eq (g1.sub_gmul g1.sub_G _).1 (g1.sub_gmul g1.sub_G _).1, ← g1.mul_add g1.sub_G, pat_eq, pat_eq]
    rfl
theorem fit_cmt {x : Int} (hx : preI x) (p : List Fr) (s : Fr) : fitF (cmt p) x s = decide (s = pat p x) := fit_eq _ _ _ (cat_cmt hx p)
theorem sm_snoc {F : Type} [Rg F] : ∀ (l : List F) (a : F), sm (l ++ [a]) = sm l + a
  | [], a => by show a + 0 = 0 + a; rw [Rg.add_comm]
  | b :: l, a => by show b + sm (l ++ [a]) = b + sm l + a; rw [sm_snoc l a, Rg.add_assoc]
theorem getD_map {α β : Type} (f : α → β) {l : List α} {k : Nat} (h : k < l.length) (d : β) : (l.map f).getD k d = f l[k] := by
  rw [List.getD_eq_getElem?_getD, List.getElem?_map, List.getElem?_eq_getElem h]; rfl
theorem mxR_map (xs : List Int) (g f : Int → Fr) : ∀ k, k ≤ xs.length → mxR (xs.map g) (xs.map f) k = sm ((xs.take k).map fun x => g x * f x)
  | 0, _ => rfl
  | k + 1, h => by
    have hk : k < xs.length := h
    rw [mxR, mxR_map xs g f k (by omega), getD_map f hk, getD_map g hk, List.take_succ_eq_append_getElem hk, List.map_append, List.map_cons, List.map_nil, sm_snoc, mul_comm (f _)]
theorem nodup_zm {xs : List Int} (h : ∀ x ∈ xs, 1 ≤ x ∧ x ≤ 9) (hd : xs.Nodup) : (xs.map fun y => (zm y : Fr)).Nodup := by
  induction xs with
  | nil => exact List.nodup_nil
  | cons a l ih =>
    obtain ⟨h1, h2⟩ := List.nodup_cons.1 hd
    refine List.nodup_cons.2 ⟨fun hm => ?_, ih (fun x hx => h x (by simp [hx])) h2⟩
    obtain ⟨y, hy, e⟩ := List.mem_map.1 hm
    exact h1 (zm_inj9 (h y (by simp [hy])) (h a (by simp)) e ▸ hy)
/-- Lagrange, with the program's weights. -/
theorem lag_sum {xs : List Int} (h : plE [] xs = 0) {q : List Fr} (hq : q.length ≤ xs.length) : sm (xs.map fun x => wtI xs x * peval q (zm x)) = peval q 0 := by
  obtain ⟨h1, h2⟩ := plE_ok h
  have hl := lagrange (nodup_zm (fun x hx => (h1 x hx).1) h2) q (by simpa using hq)
  rw [List.map_map] at hl
  rw [← hl]
  refine sm_congr fun x _ => ?_
  rw [wtI, opq_eq]; rfl
/-- Of enough shares the secret comes back. -/
theorem mix_ok {xs : List Int} (h : plE [] xs = 0) {p : List Fr} (hp : p.length ≤ xs.length) : mixR xs (xs.map (pat p)) = (pat p 0, 0) := by
  rw [mixR, if_pos (by simp), if_pos h, wtsF, if_pos h, mxR_map xs _ _ _ (Nat.le_refl _), List.take_length, pat_eq, ← show (0 : Fr) = zm 0 from rfl, ← lag_sum h hp]
  congr 1
  refine sm_congr fun x _ => ?_
  rw [pat_eq]
end Go.Proofs.Ytbfimfdhmggieaa.poly
namespace Go.Proofs.Ytbfimfdhmggieaa.law14
set_option maxRecDepth 100000
open Go Go.Eng Go.RowKit Cr Go.Proofs.Ytbfimfdhmggieaa Go.Proofs.Ytbfimfdhmggieaa.poly
theorem ent_head : enters Try.prog 4 Try.f4 := enters_mk (by kernel_rfl) (by kernel_rfl) (by kernel_rfl)
theorem fn_head : FnOk Try.prog 4 [] [.val .bool] noG (fun _ => True) (fun _ => (true, ())) := by
  refine fn_of_vc (sp := sps [fr.spOf, spSecret, spAt, spCommit, spFits]) (sps_cons (fnSpec_ok fr.fn_of) (sps_cons (fnSpec_ok fn_secret) (sps_cons (fnSpec_ok fn_at) (sps_cons (fnSpec_ok fn_commit) (sps_cons (fnSpec_ok fn_fits) sps_nil))))) mixed ent_head (by decide) (by decide) ?_
  rintro w M0 ⟨⟩ _ _
  refine vcx (X := (U64 (7 : Int) ∧ U64 (2 : Int) ∧ U64 (13 : Int) ∧ U64 (9 : Int) ∧ (0 : Nat) + (2 : Nat) ≤ (2 : Nat) ∧ (0 : Nat) + (2 : Nat) ≤ (2 : Nat) ∧ preMixR (List.take (2 : Nat) [(3 : Int), (1 : Int)], List.take (2 : Nat) [zmr (13 : Int), zmr (9 : Int)], ()) ∧ (0 : Nat) + (2 : Nat) ≤ (2 : Nat) ∧ preAt (List.take (2 : Nat) [zmr (7 : Int), zmr (2 : Int)], (3 : Int), ()) ∧ U64 (13 : Int) ∧ (eqC Kd.fr (pat (List.take (2 : Nat) [zmr (7 : Int), zmr (2 : Int)]) (3 : Int)) (zmr (13 : Int)) = true → (((mixR (List.take (2 : Nat) [(3 : Int), (1 : Int)]) (List.take (2 : Nat) [zmr (13 : Int), zmr (9 : Int)])).snd == (0 : Int)) = true → U64 (7 : Int) ∧ (eqC Kd.fr (mixR (List.take (2 : Nat) [(3 : Int), (1 : Int)]) (List.take (2 : Nat) [zmr (13 : Int), zmr (9 : Int)])).fst (zmr (7 : Int)) = true → (0 : Nat) + (2 : Nat) ≤ (2 : Nat) ∧ preCommit (List.take (2 : Nat) [zmr (7 : Int), zmr (2 : Int)], ()) ∧ U64 (13 : Int) ∧ (0 : Nat) + (cmt (List.take (2 : Nat) [zmr (7 : Int), zmr (2 : Int)])).length ≤ (cmt (List.take (2 : Nat) [zmr (7 : Int), zmr (2 : Int)])).length ∧ preFits (List.take (cmt (List.take (2 : Nat) [zmr (7 : Int), zmr (2 : Int)])).length (cmt (List.take (2 : Nat) [zmr (7 : Int), zmr (2 : Int)])), (3 : Int), zmr (13 : Int), ()) ∧ (fitF (List.take (cmt (List.take (2 : Nat) [zmr (7 : Int), zmr (2 : Int)])).length (cmt (List.take (2 : Nat) [zmr (7 : Int), zmr (2 : Int)]))) (3 : Int) (zmr (13 : Int)) = true → (0 : Nat) + (2 : Nat) ≤ (2 : Nat) ∧ preCommit (List.take (2 : Nat) [zmr (7 : Int), zmr (2 : Int)], ()) ∧ U64 (13 : Int) ∧ (0 : Nat) + (cmt (List.take (2 : Nat) [zmr (7 : Int), zmr (2 : Int)])).length ≤ (cmt (List.take (2 : Nat) [zmr (7 : Int), zmr (2 : Int)])).length ∧ preFits (List.take (cmt (List.take (2 : Nat) [zmr (7 : Int), zmr (2 : Int)])).length (cmt (List.take (2 : Nat) [zmr (7 : Int), zmr (2 : Int)])), (2 : Int), zmr (13 : Int), ()) ∧ (!fitF (List.take (cmt (List.take (2 : Nat) [zmr (7 : Int), zmr (2 : Int)])).length (cmt (List.take (2 : Nat) [zmr (7 : Int), zmr (2 : Int)]))) (2 : Int) (zmr (13 : Int)), ()) = (true, ())) ∧ (fitF (List.take (cmt (List.take (2 : Nat) [zmr (7 : Int), zmr (2 : Int)])).length (cmt (List.take (2 : Nat) [zmr (7 : Int), zmr (2 : Int)]))) (3 : Int) (zmr (13 : Int)) = false → (false, ()) = (true, ()))) ∧ (eqC Kd.fr (mixR (List.take (2 : Nat) [(3 : Int), (1 : Int)]) (List.take (2 : Nat) [zmr (13 : Int), zmr (9 : Int)])).fst (zmr (7 : Int)) = false → (false, ()) = (true, ()))) ∧ (((mixR (List.take (2 : Nat) [(3 : Int), (1 : Int)]) (List.take (2 : Nat) [zmr (13 : Int), zmr (9 : Int)])).snd == (0 : Int)) = false → (false, ()) = (true, ()))) ∧ (eqC Kd.fr (pat (List.take (2 : Nat) [zmr (7 : Int), zmr (2 : Int)]) (3 : Int)) (zmr (13 : Int)) = false → (false, ()) = (true, ())))) (by kernel_rfl) ?_
  simp only [show ∀ a b : Fr, List.take 2 [a, b] = [a, b] from fun _ _ => rfl, show List.take 2 [(3 : Int), 1] = [3, 1] from rfl, List.take_length]
  have i3 : preI 3 := ⟨by decide, by decide⟩
  have i2 : preI 2 := ⟨by decide, by decide⟩
  have h3 : pat [zmr 7, zmr 2] 3 = zmr 13 := by rw [pat_eq]; decide
  have h1 : pat [zmr 7, zmr 2] 1 = zmr 9 := by rw [pat_eq]; decide
  have h0 : pat [zmr 7, zmr 2] 0 = zmr 7 := by rw [pat_eq]; decide
  have h2 : pat [zmr 7, zmr 2] 2 = zmr 11 := by rw [pat_eq]; decide
  have hm : mixR [3, 1] [zmr 13, zmr 9] = (zmr 7, 0) := by
    have := mix_ok (xs := [3, 1]) (by decide) (p := [zmr 7, zmr 2]) (by decide)
    rw [h0] at this
    rw [← this, List.map_cons, List.map_cons, List.map_nil, h3, h1]
  have f3 : fitF (cmt [zmr 7, zmr 2]) 3 (zmr 13) = true := by rw [fit_cmt i3, h3]; simp
  have f2 : fitF (cmt [zmr 7, zmr 2]) 2 (zmr 13) = false := by rw [fit_cmt i2, h2]; decide
  have u : ∀ n : Int, 0 ≤ n ∧ n < 18446744073709551616 → U64 n := fun n h => h
  have pm : preMixR ([3, 1], [zmr 13, zmr 9], ()) := ⟨by show (2 : Nat) < _; decide, fun x hx => by simp at hx; rcases hx with rfl | rfl <;> exact ⟨by decide, by decide⟩⟩
  have pa : preAt ([zmr 7, zmr 2], 3, ()) := ⟨by decide, i3⟩
  have pc : preCommit ([zmr 7, zmr 2], ()) := by show (2 : Nat) < 1048576; decide
  have pl : (cmt [zmr 7, zmr 2]).length < 4611686018427387904 := by show (2 : Nat) < _; decide
  have p3 : preFits (cmt [zmr 7, zmr 2], 3, zmr 13, ()) := ⟨pl, i3⟩
  have p2 : preFits (cmt [zmr 7, zmr 2], 2, zmr 13, ()) := ⟨pl, i2⟩
  have e7 : eqC .fr (zmr 7) (zmr 7) = true := by rw [eqR]; simp
  have e13 : eqC .fr (zmr 13) (zmr 13) = true := by rw [eqR]; simp
  simp only [h3, hm, f3, f2, e7, e13]
  have u7 := u 7 ⟨by decide, by decide⟩
  have u2 := u 2 ⟨by decide, by decide⟩
  have u13 := u 13 ⟨by decide, by decide⟩
  have u9 := u 9 ⟨by decide, by decide⟩
  refine ⟨u7, u2, u13, u9, by decide, by decide, pm, by decide, pa, u13, fun _ => ⟨fun _ => ⟨u7, fun _ => ⟨by decide, pc, u13, by omega, p3, fun _ => ⟨by decide, pc, u13, by omega, p2, by decide⟩, fun h => absurd h (by decide)⟩, fun h => absurd h (by decide)⟩, fun h => absurd h (by decide)⟩, fun h => absurd h (by decide)⟩
noncomputable def spHead : Nat × Eng.Spec := (4, fnSpec [] [.val .bool] (fun _ => True) (fun _ => (true, ())))

theorem ent_made : enters Try.prog 5 Try.f5 := enters_mk (by kernel_rfl) (by kernel_rfl) (by kernel_rfl)
noncomputable def scw (b : List Int) : Fr := opq (zm (num b))
def fitB (bs : List (List Int)) : Bool := decide (bs.length ≤ 9) && bs.all fun b => decide (b.length ≤ 100)
noncomputable def madF (bs : List (List Int)) : List Fr := if fitB bs = true then bs.map scw else []
abbrev preMade : HL [.sl bsl] → Prop := fun (bs, _) => preBB bs
noncomputable abbrev outMade : HL [.sl bsl] → HO [.own .fr, .val .bool] := fun (bs, _) => (madF bs, fitB bs, ())
noncomputable def mdI (bs : List (List Int)) (g : Int × Nat × List Fr) : St := mkSt Try.f5.ntmps 80 [(4, .is (.one (.sl 40 0 0 g.2.1 4))), (11, .is (.one (.ro bsl bs))), (12, sI .i64 bs.length), (13, sI .i64 g.1)] [(40, [.row .fr g.2.1 g.2.2])]
noncomputable def mdJ (bs : List (List Int)) (g : Int × Nat × List Fr) : Prop := g.2.1 ≤ bs.length ∧ g.1 = (g.2.1 : Int) ∧ g.2.2 = (bs.take g.2.1).map scw ∧ ∀ b ∈ bs.take g.2.1, List.length b ≤ 100
noncomputable def mdO (bs : List (List Int)) (g : Int × Nat × List Fr) : Prop := g.2.2 = bs.map scw ∧ g.2.1 = bs.length ∧ ∀ b ∈ bs, List.length b ≤ 100
theorem fn_made : FnOk Try.prog 5 [.sl bsl] [.own .fr, .val .bool] noG preMade outMade := by
  have hsp : SpecsOk Try.prog (sps [ref01.spCopy, fr.spWide]) := (sps_cons (fnSpec_ok ref01.fn_copy) (sps_cons (fnSpec_ok fr.fn_wide) sps_nil))
  refine fn_of_tr (sp := sps [ref01.spCopy, fr.spWide]) ent_made (by decide) (by decide) (by kernel_rfl) ?_
  rintro w M0 ⟨bs, ⟨⟩⟩
  revert bs
  intro (bs : List (List Int)) _ hb
  have hb : preBB bs := hb
  show Tr _ _ _ _ _ _ _
  refine tr_cut hsp mixed 5 (mdI bs (0, 0, [])) (bs.length ≤ 9) ?_ (fun h9 => ?_)
  · refine vcx (X := ((decide ((↑bs.length : Int) > (9 : Int)) = true → ([], false, ()) = outMade (bs, ())) ∧ (decide ((↑bs.length : Int) > (9 : Int)) = false → (mdI bs ((0 : Int), (0 : Nat), [])).triv (bs.length ≤ (9 : Nat))))) (by kernel_rfl) ?_
    refine ⟨fun h => ?_, fun h => triv_intro (by have := of_decide_eq_false h; omega)⟩
    have h : ¬ bs.length ≤ 9 := by have := of_decide_eq_true h; omega
    have hf : fitB bs = false := by simp [fitB, h]
    show _ = (madF bs, fitB bs, ())
    rw [madF, hf]; rfl
  refine tr_while hsp mixed (fun σ => [(40, rdI 4 σ)]) (fun σ => (rdS (.int .i64) 13 σ, rdL 4 σ, rdR .fr 40 σ)) (mdI bs) (mdJ bs) (fun g => bs.length - g.2.1)
    (fun σ => (rdS (.int .i64) 13 σ, rdL 4 σ, rdR .fr 40 σ)) (mdI bs) (mdO bs) (0, 0, []) (c := nthC (codeOf Try.f5) 5) (by kernel_rfl) (by kernel_rfl) (le_of_proj (by kernel_rfl) (by kernel_rfl) ?_) ?_ ?_
  · exact ⟨Nat.zero_le _, rfl, rfl, fun b hb => nomatch hb⟩
  · rintro ⟨i, k, l⟩ hj
    revert i l
    intro (i : Int) (l : List Fr) ⟨hk, ei, el, ha⟩
    have hk : k ≤ bs.length := hk
    have ei : i = (k : Int) := ei
    have kl : l = (bs.take k).map scw := el
    have ha : ∀ b ∈ bs.take k, List.length b ≤ 100 := ha
    subst ei
    refine vcx (X := ((decide ((↑k : Int) < (↑bs.length : Int)) = true → ((0 : Int) ≤ (↑k : Int) ∧ (↑k : Int) < (↑bs.length : Int)) ∧ (↑k : Int).toNat < bs.length ∧ (decide ((↑(bs.getD (↑k : Int).toNat []).length : Int) > (100 : Int)) = true → ([], false, ()) = outMade (bs, ())) ∧ (decide ((↑(bs.getD (↑k : Int).toNat []).length : Int) > (100 : Int)) = false → ref01.preCopy (bs.getD (↑k : Int).toNat [], ()) ∧ (0 : Nat) + (bs.getD (↑k : Int).toNat []).length ≤ (bs.getD (↑k : Int).toNat []).length ∧ fr.preWide (List.take (bs.getD (↑k : Int).toNat []).length (bs.getD (↑k : Int).toNat []), ()) ∧ (0 : Nat) + (1 : Nat) ≤ (1 : Nat) ∧ k ≤ k ∧ (k + (1 : Nat)) * (32 : Nat) ≤ (140737488355328 : Nat) ∧ k + (1 : Nat) ≤ (4611686018427387904 : Nat) ∧ (mdI bs (IntKind.i64.wrap ((↑k : Int) + (1 : Int)), k + (1 : Nat), List.take k l ++ List.take (1 : Nat) [zmr (num (List.take (bs.getD (↑k : Int).toNat []).length (bs.getD (↑k : Int).toNat [])))])).triv (mdJ bs (IntKind.i64.wrap ((↑k : Int) + (1 : Int)), k + (1 : Nat), List.take k l ++ List.take (1 : Nat) [zmr (num (List.take (bs.getD (↑k : Int).toNat []).length (bs.getD (↑k : Int).toNat [])))]) ∧ bs.length - (k + (1 : Nat)) < bs.length - k))) ∧ (decide ((↑k : Int) < (↑bs.length : Int)) = false → (mdI bs ((↑k : Int), k, l)).triv (mdO bs ((↑k : Int), k, l))))) (by kernel_rfl) ?_
    rw [Int.toNat_natCast]
    refine ⟨fun h => ?_, fun h => triv_intro ?_⟩
    · have hlt : k < bs.length := by have := dec_lt h; omega
      have hg : bs.getD k [] = bs[k] := by rw [List.getD_eq_getElem?_getD, List.getElem?_eq_getElem hlt, Option.getD_some]
      have hm : bs[k] ∈ bs := List.getElem_mem hlt
      have htk : bs.take (k + 1) = bs.take k ++ [bs[k]] := List.take_succ_eq_append_getElem hlt
      rw [hg, wrap_succ (by omega)]
      generalize bs[k] = b at *
      have hbb : preB b := hb.1 b hm
      rw [List.take_length, show List.take k l = l by rw [kl]; exact List.take_of_length_le (by simp; omega)]
      refine ⟨⟨by omega, by omega⟩, hlt, fun h2 => ?_, fun h2 => ⟨hbb.2, by omega, ⟨hbb.1, by have := hbb.2; show b.length < _; omega⟩, by decide, Nat.le_refl _, by omega, by omega, triv_intro ⟨⟨hlt, rfl, ?_, ?_⟩, by omega⟩⟩⟩
      · have h2 : ¬ b.length ≤ 100 := by have := of_decide_eq_true h2; omega
        have hf : fitB bs = false := by
          rw [Bool.eq_false_iff]
          intro hf
          simp only [fitB, Bool.and_eq_true, decide_eq_true_eq, List.all_eq_true] at hf
          exact h2 (hf.2 b hm)
        show _ = (madF bs, fitB bs, ())
        rw [madF, hf]; rfl
      · show l ++ [zmr (num b)] = (bs.take (k + 1)).map scw
        rw [htk, List.map_append, ← kl, List.map_cons, List.map_nil, scw, opq_eq]
      · show ∀ b ∈ bs.take (k + 1), _
        rw [htk]
        intro c hc
        rcases List.mem_append.1 hc with hc | hc
        · exact ha c hc
        · simp at hc; subst hc; have := of_decide_eq_false h2; omega
    · have : k = bs.length := by have := dec_ge h; omega
      rw [this, List.take_length] at kl ha
      exact ⟨kl, this, ha⟩
  rintro ⟨i, k, l⟩ hj
  revert i l
  intro (i : Int) (l : List Fr) ⟨h1, h2, h3⟩
  have h1 : l = bs.map scw := h1
  have h2 : k = bs.length := h2
  have h3 : ∀ b ∈ bs, List.length b ≤ 100 := h3
  have hf : fitB bs = true := by
    simp only [fitB, Bool.and_eq_true, decide_eq_true_eq, List.all_eq_true]
    exact ⟨h9, h3⟩
  refine tr_vc hsp mixed _ _ ?_
  refine vcx (X := ((0 : Nat) + k ≤ k ∧ (List.take k l, true, ()) = outMade (bs, ()))) (by kernel_rfl) ?_
  refine ⟨by omega, ?_⟩
  show _ = (madF bs, fitB bs, ())
  rw [madF, hf, if_pos rfl, h1, List.take_of_length_le (by simp [h2])]
end Go.Proofs.Ytbfimfdhmggieaa.law14
