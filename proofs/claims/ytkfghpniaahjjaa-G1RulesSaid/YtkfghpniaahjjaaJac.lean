/- Points without a division: what they stand for. No program here. -/
import Derived.Test.YtkfghpniaahjjaaCrv
namespace Cr
open Rg Fd

section
variable {F : Type} [Fd F]
abbrev Jc (F : Type) := F × F × F
abbrev J0 : Jc F := (0, 0, 0)
def jlift (p : F × F) : Jc F := if p = O2 then J0 else (p.1, p.2, 1)
def jpoint (a : Jc F) : F × F := if a.2.2 = 0 then O2 else (a.1 * (inv a.2.2 * inv a.2.2), a.2.1 * (inv a.2.2 * inv a.2.2) * inv a.2.2)
def jdX (x y : F) : F := (x * x + x * x + x * x) * (x * x + x * x + x * x) - (x * (y * y) + x * (y * y) + (x * (y * y) + x * (y * y))) - (x * (y * y) + x * (y * y) + (x * (y * y) + x * (y * y)))
def jdbN (a : Jc F) : Jc F :=
  (jdX a.1 a.2.1,
   (a.1 * a.1 + a.1 * a.1 + a.1 * a.1) * (a.1 * (a.2.1 * a.2.1) + a.1 * (a.2.1 * a.2.1) + (a.1 * (a.2.1 * a.2.1) + a.1 * (a.2.1 * a.2.1)) - jdX a.1 a.2.1) - (a.2.1 * a.2.1 + a.2.1 * a.2.1) * (a.2.1 * a.2.1 + a.2.1 * a.2.1) - (a.2.1 * a.2.1 + a.2.1 * a.2.1) * (a.2.1 * a.2.1 + a.2.1 * a.2.1),
   a.2.1 * a.2.2 + a.2.1 * a.2.2)
def jdbl (a : Jc F) : Jc F := if a.2.2 = 0 then J0 else jdbN a
def jaX (wide rise left : F) : F := rise * rise - wide * wide * wide - left * (wide * wide) - left * (wide * wide)
def jfin (wide rise left low z1 z2 : F) : Jc F :=
  (jaX wide rise left, rise * (left * (wide * wide) - jaX wide rise left) - low * (wide * wide * wide), z1 * z2 * wide)
def jadd (a b : Jc F) : Jc F := if a.2.2 = 0 then b else if b.2.2 = 0 then a else
  if b.1 * (a.2.2 * a.2.2) - a.1 * (b.2.2 * b.2.2) = 0 then
    (if b.2.1 * (a.2.2 * a.2.2) * a.2.2 - a.2.1 * (b.2.2 * b.2.2) * b.2.2 = 0 then jdbl a else J0)
  else jfin (b.1 * (a.2.2 * a.2.2) - a.1 * (b.2.2 * b.2.2)) (b.2.1 * (a.2.2 * a.2.2) * a.2.2 - a.2.1 * (b.2.2 * b.2.2) * b.2.2) (a.1 * (b.2.2 * b.2.2)) (a.2.1 * (b.2.2 * b.2.2) * b.2.2) a.2.2 b.2.2
end

theorem j_slope {F : Type} [Rg F] (X Y z l : F) : (X * (z * z) * (X * (z * z)) + X * (z * z) * (X * (z * z)) + X * (z * z) * (X * (z * z))) - l * (Y * (z * (z * z)) * z + Y * (z * (z * z)) * z) = (-(z * z * z * z)) * (l * (Y + Y) - (X * X + X * X + X * X)) :=
  rid [X, Y, z, l] ((fun (X Y z l : PE) => ((X * (z * z) * (X * (z * z)) + X * (z * z) * (X * (z * z)) + X * (z * z) * (X * (z * z))) - l * (Y * (z * (z * z)) * z + Y * (z * (z * z)) * z))) (.v 0) (.v 1) (.v 2) (.v 3)) ((fun (X Y z l : PE) => ((-(z * z * z * z)) * (l * (Y + Y) - (X * X + X * X + X * X)))) (.v 0) (.v 1) (.v 2) (.v 3)) (by kernel_rfl)
theorem j_mid {F : Type} [Rg F] (X Y z : F) : X * (z * z) * (Y * (z * (z * z)) * (Y * (z * (z * z)))) + X * (z * z) * (Y * (z * (z * z)) * (Y * (z * (z * z)))) + (X * (z * z) * (Y * (z * (z * z)) * (Y * (z * (z * z)))) + X * (z * z) * (Y * (z * (z * z)) * (Y * (z * (z * z))))) = X * ((Y * (z * (z * z)) * z + Y * (z * (z * z)) * z) * (Y * (z * (z * z)) * z + Y * (z * (z * z)) * z)) :=
  rid [X, Y, z] ((fun (X Y z : PE) => (X * (z * z) * (Y * (z * (z * z)) * (Y * (z * (z * z)))) + X * (z * z) * (Y * (z * (z * z)) * (Y * (z * (z * z)))) + (X * (z * z) * (Y * (z * (z * z)) * (Y * (z * (z * z)))) + X * (z * z) * (Y * (z * (z * z)) * (Y * (z * (z * z))))))) (.v 0) (.v 1) (.v 2)) ((fun (X Y z : PE) => (X * ((Y * (z * (z * z)) * z + Y * (z * (z * z)) * z) * (Y * (z * (z * z)) * z + Y * (z * (z * z)) * z)))) (.v 0) (.v 1) (.v 2)) (by kernel_rfl)
theorem j_fall {F : Type} [Rg F] (Y z : F) : (Y * (z * (z * z)) * (Y * (z * (z * z))) + Y * (z * (z * z)) * (Y * (z * (z * z)))) * (Y * (z * (z * z)) * (Y * (z * (z * z))) + Y * (z * (z * z)) * (Y * (z * (z * z)))) + (Y * (z * (z * z)) * (Y * (z * (z * z))) + Y * (z * (z * z)) * (Y * (z * (z * z)))) * (Y * (z * (z * z)) * (Y * (z * (z * z))) + Y * (z * (z * z)) * (Y * (z * (z * z)))) = Y * ((Y * (z * (z * z)) * z + Y * (z * (z * z)) * z) * ((Y * (z * (z * z)) * z + Y * (z * (z * z)) * z) * (Y * (z * (z * z)) * z + Y * (z * (z * z)) * z))) :=
  rid [Y, z] ((fun (Y z : PE) => ((Y * (z * (z * z)) * (Y * (z * (z * z))) + Y * (z * (z * z)) * (Y * (z * (z * z)))) * (Y * (z * (z * z)) * (Y * (z * (z * z))) + Y * (z * (z * z)) * (Y * (z * (z * z)))) + (Y * (z * (z * z)) * (Y * (z * (z * z))) + Y * (z * (z * z)) * (Y * (z * (z * z)))) * (Y * (z * (z * z)) * (Y * (z * (z * z))) + Y * (z * (z * z)) * (Y * (z * (z * z)))))) (.v 0) (.v 1)) ((fun (Y z : PE) => (Y * ((Y * (z * (z * z)) * z + Y * (z * (z * z)) * z) * ((Y * (z * (z * z)) * z + Y * (z * (z * z)) * z) * (Y * (z * (z * z)) * z + Y * (z * (z * z)) * z))))) (.v 0) (.v 1)) (by kernel_rfl)
theorem j_x {F : Type} [Rg F] (X Z l : F) : l * Z * (l * Z) - X * (Z * Z) - X * (Z * Z) = (l * l - X - X) * (Z * Z) :=
  rid [X, Z, l] ((fun (X Z l : PE) => (l * Z * (l * Z) - X * (Z * Z) - X * (Z * Z))) (.v 0) (.v 1) (.v 2)) ((fun (X Z l : PE) => ((l * l - X - X) * (Z * Z))) (.v 0) (.v 1) (.v 2)) (by kernel_rfl)
theorem j_y {F : Type} [Rg F] (X Y Z l s : F) : l * Z * (X * (Z * Z) - s * (Z * Z)) - Y * (Z * (Z * Z)) = -(Y + l * (s - X)) * (Z * (Z * Z)) :=
  rid [X, Y, Z, l, s] ((fun (X Y Z l s : PE) => (l * Z * (X * (Z * Z) - s * (Z * Z)) - Y * (Z * (Z * Z)))) (.v 0) (.v 1) (.v 2) (.v 3) (.v 4)) ((fun (X Y Z l s : PE) => (-(Y + l * (s - X)) * (Z * (Z * Z)))) (.v 0) (.v 1) (.v 2) (.v 3) (.v 4)) (by kernel_rfl)
theorem j_subsub {F : Type} [Rg F] (a f : F) : a - f - f = a - (f + f) :=
  rid [a, f] ((fun (a f : PE) => (a - f - f)) (.v 0) (.v 1)) ((fun (a f : PE) => (a - (f + f))) (.v 0) (.v 1)) (by kernel_rfl)
theorem j_z {F : Type} [Rg F] (Y z : F) : Y * (z * (z * z)) * z + Y * (z * (z * z)) * z = (Y + Y) * (z * z * (z * z)) :=
  rid [Y, z] ((fun (Y z : PE) => (Y * (z * (z * z)) * z + Y * (z * (z * z)) * z)) (.v 0) (.v 1)) ((fun (Y z : PE) => ((Y + Y) * (z * z * (z * z)))) (.v 0) (.v 1)) (by kernel_rfl)
theorem j_wide {F : Type} [Rg F] (X1 X2 z1 z2 : F) : X2 * (z2 * z2) * (z1 * z1) - X1 * (z1 * z1) * (z2 * z2) = (X2 - X1) * (z1 * z2 * (z1 * z2)) :=
  rid [X1, X2, z1, z2] ((fun (X1 X2 z1 z2 : PE) => (X2 * (z2 * z2) * (z1 * z1) - X1 * (z1 * z1) * (z2 * z2))) (.v 0) (.v 1) (.v 2) (.v 3)) ((fun (X1 X2 z1 z2 : PE) => ((X2 - X1) * (z1 * z2 * (z1 * z2)))) (.v 0) (.v 1) (.v 2) (.v 3)) (by kernel_rfl)
theorem j_rise {F : Type} [Rg F] (Y1 Y2 z1 z2 : F) : Y2 * (z2 * (z2 * z2)) * (z1 * z1) * z1 - Y1 * (z1 * (z1 * z1)) * (z2 * z2) * z2 = (Y2 - Y1) * (z1 * z2 * (z1 * z2 * (z1 * z2))) :=
  rid [Y1, Y2, z1, z2] ((fun (Y1 Y2 z1 z2 : PE) => (Y2 * (z2 * (z2 * z2)) * (z1 * z1) * z1 - Y1 * (z1 * (z1 * z1)) * (z2 * z2) * z2)) (.v 0) (.v 1) (.v 2) (.v 3)) ((fun (Y1 Y2 z1 z2 : PE) => ((Y2 - Y1) * (z1 * z2 * (z1 * z2 * (z1 * z2))))) (.v 0) (.v 1) (.v 2) (.v 3)) (by kernel_rfl)
theorem j_riseZ {F : Type} [Rg F] (X1 Y1 X2 Y2 w l : F) : (Y2 - Y1) * (w * (w * w)) - l * (w * ((X2 - X1) * (w * w))) = (-(w * (w * w))) * (l * (X2 - X1) - (Y2 - Y1)) :=
  rid [X1, Y1, X2, Y2, w, l] ((fun (X1 Y1 X2 Y2 w l : PE) => ((Y2 - Y1) * (w * (w * w)) - l * (w * ((X2 - X1) * (w * w))))) (.v 0) (.v 1) (.v 2) (.v 3) (.v 4) (.v 5)) ((fun (X1 Y1 X2 Y2 w l : PE) => ((-(w * (w * w))) * (l * (X2 - X1) - (Y2 - Y1)))) (.v 0) (.v 1) (.v 2) (.v 3) (.v 4) (.v 5)) (by kernel_rfl)
theorem j_ax {F : Type} [Rg F] (X1 z1 z2 D l : F) : l * (z1 * z2 * (D * (z1 * z2 * (z1 * z2)))) * (l * (z1 * z2 * (D * (z1 * z2 * (z1 * z2))))) - D * (z1 * z2 * (z1 * z2)) * (D * (z1 * z2 * (z1 * z2))) * (D * (z1 * z2 * (z1 * z2))) - X1 * (z1 * z1) * (z2 * z2) * (D * (z1 * z2 * (z1 * z2)) * (D * (z1 * z2 * (z1 * z2)))) - X1 * (z1 * z1) * (z2 * z2) * (D * (z1 * z2 * (z1 * z2)) * (D * (z1 * z2 * (z1 * z2)))) = (l * l - D - X1 - X1) * (z1 * z2 * (D * (z1 * z2 * (z1 * z2))) * (z1 * z2 * (D * (z1 * z2 * (z1 * z2))))) :=
  rid [X1, z1, z2, D, l] ((fun (X1 z1 z2 D l : PE) => (l * (z1 * z2 * (D * (z1 * z2 * (z1 * z2)))) * (l * (z1 * z2 * (D * (z1 * z2 * (z1 * z2))))) - D * (z1 * z2 * (z1 * z2)) * (D * (z1 * z2 * (z1 * z2))) * (D * (z1 * z2 * (z1 * z2))) - X1 * (z1 * z1) * (z2 * z2) * (D * (z1 * z2 * (z1 * z2)) * (D * (z1 * z2 * (z1 * z2)))) - X1 * (z1 * z1) * (z2 * z2) * (D * (z1 * z2 * (z1 * z2)) * (D * (z1 * z2 * (z1 * z2)))))) (.v 0) (.v 1) (.v 2) (.v 3) (.v 4)) ((fun (X1 z1 z2 D l : PE) => ((l * l - D - X1 - X1) * (z1 * z2 * (D * (z1 * z2 * (z1 * z2))) * (z1 * z2 * (D * (z1 * z2 * (z1 * z2))))))) (.v 0) (.v 1) (.v 2) (.v 3) (.v 4)) (by kernel_rfl)
theorem j_ay {F : Type} [Rg F] (X1 Y1 z1 z2 D l s : F) : l * (z1 * z2 * (D * (z1 * z2 * (z1 * z2)))) * (X1 * (z1 * z1) * (z2 * z2) * (D * (z1 * z2 * (z1 * z2)) * (D * (z1 * z2 * (z1 * z2)))) - s * (z1 * z2 * (D * (z1 * z2 * (z1 * z2))) * (z1 * z2 * (D * (z1 * z2 * (z1 * z2)))))) - Y1 * (z1 * (z1 * z1)) * (z2 * z2) * z2 * (D * (z1 * z2 * (z1 * z2)) * (D * (z1 * z2 * (z1 * z2))) * (D * (z1 * z2 * (z1 * z2)))) = -(Y1 + l * (s - X1)) * (z1 * z2 * (D * (z1 * z2 * (z1 * z2))) * (z1 * z2 * (D * (z1 * z2 * (z1 * z2))) * (z1 * z2 * (D * (z1 * z2 * (z1 * z2)))))) :=
  rid [X1, Y1, z1, z2, D, l, s] ((fun (X1 Y1 z1 z2 D l s : PE) => (l * (z1 * z2 * (D * (z1 * z2 * (z1 * z2)))) * (X1 * (z1 * z1) * (z2 * z2) * (D * (z1 * z2 * (z1 * z2)) * (D * (z1 * z2 * (z1 * z2)))) - s * (z1 * z2 * (D * (z1 * z2 * (z1 * z2))) * (z1 * z2 * (D * (z1 * z2 * (z1 * z2)))))) - Y1 * (z1 * (z1 * z1)) * (z2 * z2) * z2 * (D * (z1 * z2 * (z1 * z2)) * (D * (z1 * z2 * (z1 * z2))) * (D * (z1 * z2 * (z1 * z2)))))) (.v 0) (.v 1) (.v 2) (.v 3) (.v 4) (.v 5) (.v 6)) ((fun (X1 Y1 z1 z2 D l s : PE) => (-(Y1 + l * (s - X1)) * (z1 * z2 * (D * (z1 * z2 * (z1 * z2))) * (z1 * z2 * (D * (z1 * z2 * (z1 * z2))) * (z1 * z2 * (D * (z1 * z2 * (z1 * z2)))))))) (.v 0) (.v 1) (.v 2) (.v 3) (.v 4) (.v 5) (.v 6)) (by kernel_rfl)
theorem j_D {F : Type} [Rg F] (X1 X2 l : F) : l * l - (X2 - X1) - X1 - X1 = l * l - X1 - X2 :=
  rid [X1, X2, l] ((fun (X1 X2 l : PE) => (l * l - (X2 - X1) - X1 - X1)) (.v 0) (.v 1) (.v 2)) ((fun (X1 X2 l : PE) => (l * l - X1 - X2)) (.v 0) (.v 1) (.v 2)) (by kernel_rfl)
theorem j_p1 {F : Type} [Rg F] (X z i : F) : X * (z * z) * (i * i) = X * (z * i * (z * i)) :=
  rid [X, z, i] ((fun (X z i : PE) => (X * (z * z) * (i * i))) (.v 0) (.v 1) (.v 2)) ((fun (X z i : PE) => (X * (z * i * (z * i)))) (.v 0) (.v 1) (.v 2)) (by kernel_rfl)
theorem j_p2 {F : Type} [Rg F] (Y z i : F) : Y * (z * (z * z)) * (i * i) * i = Y * (z * i * (z * i * (z * i))) :=
  rid [Y, z, i] ((fun (Y z i : PE) => (Y * (z * (z * z)) * (i * i) * i)) (.v 0) (.v 1) (.v 2)) ((fun (Y z i : PE) => (Y * (z * i * (z * i * (z * i))))) (.v 0) (.v 1) (.v 2)) (by kernel_rfl)

section
variable {F : Type} [Fd F] {b : F}
def Rep (b : F) (a : Jc F) (P : F × F) : Prop := (a.2.2 = 0 ∧ P = O2) ∨ (a.2.2 ≠ 0 ∧ a.1 = P.1 * (a.2.2 * a.2.2) ∧ a.2.1 = P.2 * (a.2.2 * (a.2.2 * a.2.2)) ∧ OnF b P)

theorem Rep.on {a : Jc F} {P : F × F} (h : Rep b a P) : OnP b P := by
  rcases h with ⟨_, h⟩ | ⟨_, _, _, h⟩
  · exact .inl h
  · exact .inr h

theorem rep_lift {P : F × F} (h : OnP b P) : Rep b (jlift P) P := by
  unfold jlift
  split
  · rename_i e; exact .inl ⟨rfl, e⟩
  · rename_i e
    rcases h with h | h
    · exact absurd h e
    · refine .inr ⟨one_ne, ?_, ?_, h⟩
      · show P.1 = P.1 * (1 * 1); rw [one_mul, mul_one]
      · show P.2 = P.2 * (1 * (1 * 1)); rw [one_mul, one_mul, mul_one]

theorem rep_point {a : Jc F} {P : F × F} (h : Rep b a P) : jpoint a = P := by
  unfold jpoint
  rcases h with ⟨h, e⟩ | ⟨h, e1, e2, _⟩
  · rw [if_pos h, e]
  · rw [if_neg h]
    refine Prod.ext ?_ ?_
    · show a.1 * (inv a.2.2 * inv a.2.2) = P.1
      rw [e1, j_p1, mul_inv _ h, one_mul, mul_one]
    · show a.2.1 * (inv a.2.2 * inv a.2.2) * inv a.2.2 = P.2
      rw [e2, j_p2, mul_inv _ h, one_mul, one_mul, mul_one]

theorem rep_dbl (hb : b ≠ 0) {a : Jc F} {P : F × F} (h : Rep b a P) : Rep b (jdbl a) (padd P P) := by
  unfold jdbl jdbN
  rcases h with ⟨h, rfl⟩ | ⟨h, e1, e2, oP⟩
  · rw [if_pos h, O_add]; exact .inl ⟨rfl, rfl⟩
  · rw [if_neg h]
    obtain ⟨x, y, z⟩ := a
    obtain ⟨X, Y⟩ := P
    simp only at h e1 e2 ⊢
    subst e1 e2
    have hz : Y * (z * (z * z)) * z + Y * (z * (z * z)) * z = (Y + Y) * (z * z * (z * z)) := j_z Y z
    have hz4 : z * z * (z * z) ≠ 0 := mul_ne (mul_ne h h) (mul_ne h h)
    by_cases hY : Y = 0
    · subst hY
      left
      refine ⟨?_, ?_⟩
      · show (0 : F) * (z * (z * z)) * z + 0 * (z * (z * z)) * z = 0
        rw [hz, add_zero, zero_mul]
      · have := add_neg_self ((X, 0) : F × F)
        rwa [show pneg ((X, 0) : F × F) = (X, 0) from by show (X, -(0 : F)) = _; rw [neg_zero]] at this
    · have hY2 : Y + Y ≠ 0 := fun e => hY (double_eq_zero e)
      obtain ⟨l, hl⟩ := (ln_or (P := (X, Y)) (Q := (X, Y)) oP oP).resolve_left (fun e => hY (eq_neg_self (congrArg Prod.snd e)))
      right
      have ex : jdX (X * (z * z)) (Y * (z * (z * z))) = sx X X l * ((Y * (z * (z * z)) * z + Y * (z * (z * z)) * z) * (Y * (z * (z * z)) * z + Y * (z * (z * z)) * z)) := by
        unfold jdX
        rw [j_mid X Y z, lc1 _ (j_slope X Y z l) hl.2]
        exact j_x _ _ _
      refine ⟨?_, ?_, ?_, ?_⟩
      · show Y * (z * (z * z)) * z + Y * (z * (z * z)) * z ≠ 0
        rw [hz]; exact mul_ne hY2 hz4
      · rw [padd_ln hb oP oP hl]; exact ex
      · rw [padd_ln hb oP oP hl]
        show _ - _ - _ = sy X Y X l * _
        rw [j_subsub, j_fall Y z, ex, j_mid X Y z, lc1 _ (j_slope X Y z l) hl.2]
        exact j_y _ _ _ _ _
      · rw [padd_ln hb oP oP hl]; exact hl.sum_on oP

theorem rep_add (hb : b ≠ 0) {a c : Jc F} {P Q : F × F} (h : Rep b a P) (k : Rep b c Q) : Rep b (jadd a c) (padd P Q) := by
  have hd := rep_dbl hb h
  unfold jadd
  rcases h with ⟨h, rfl⟩ | ⟨h, e1, e2, oP⟩
  · rw [if_pos h, O_add]; exact k
  · rw [if_neg h]
    rcases k with ⟨k, rfl⟩ | ⟨k, f1, f2, oQ⟩
    · rw [if_pos k, add_O]; exact .inr ⟨h, e1, e2, oP⟩
    · rw [if_neg k]
      obtain ⟨x, y, z⟩ := a
      obtain ⟨x', y', z'⟩ := c
      obtain ⟨X, Y⟩ := P
      obtain ⟨X', Y'⟩ := Q
      simp only at h k e1 e2 f1 f2 hd ⊢
      subst e1 e2 f1 f2
      rw [j_wide X X' z z', j_rise Y Y' z z']
      have hw : z * z' ≠ 0 := mul_ne h k
      have hww : z * z' * (z * z') ≠ 0 := mul_ne hw hw
      have hwww : z * z' * (z * z' * (z * z')) ≠ 0 := mul_ne hw hww
      by_cases hX : X' - X = 0
      · rw [if_pos (by rw [hX, zero_mul])]
        have hX := eq_of_sub hX
        subst hX
        by_cases hY : Y' - Y = 0
        · rw [if_pos (by rw [hY, zero_mul])]
          have hY := eq_of_sub hY
          subst hY
          exact hd
        · rw [if_neg (mul_ne hY hwww)]
          left
          refine ⟨rfl, ?_⟩
          rcases ln_or (P := (X', Y)) (Q := (X', Y')) oP oQ with e | ⟨l, hl⟩
          · rw [e, add_neg_self]
          · exfalso
            have := hl.1
            rw [sub_self, mul_zero] at this
            exact hY this.symm
      · rw [if_neg (mul_ne hX hww)]
        obtain ⟨l, hl⟩ := (ln_or (P := (X, Y)) (Q := (X', Y')) oP oQ).resolve_left (fun e => hX (by rw [show X' = X from congrArg Prod.fst e, sub_self]))
        have er : (Y' - Y) * (z * z' * (z * z' * (z * z'))) = l * (z * z' * ((X' - X) * (z * z' * (z * z')))) := lc1 _ (j_riseZ X Y X' Y' (z * z') l) hl.1
        rw [er, padd_ln hb oP oQ hl]
        have ex : jaX ((X' - X) * (z * z' * (z * z'))) (l * (z * z' * ((X' - X) * (z * z' * (z * z'))))) (X * (z * z) * (z' * z')) = sx X X' l * (z * z' * ((X' - X) * (z * z' * (z * z'))) * (z * z' * ((X' - X) * (z * z' * (z * z'))))) := by
          unfold jaX
          rw [j_ax X z z' (X' - X) l, j_D]
          rfl
        right
        refine ⟨mul_ne hw (mul_ne hX hww), ex, ?_, hl.sum_on oP⟩
        show _ * (_ - jaX _ _ _) - _ = sy X Y X' l * _
        rw [ex]
        exact j_ay _ _ _ _ _ _ _
end
end Cr
