/- The curve y^2 = x^3 + b over a field: its points are a group. No program here. -/
import Derived.Test.YtkfghpniaahjjaaAlg
namespace Cr
open Rg Fd

/-- On the curve. -/
def On {F : Type} [Rg F] (b x y : F) : Prop := y * y = x * x * x + b
/-- The line through two points (the tangent, if they are one), by its slope. -/
def Ln {F : Type} [Rg F] (x1 y1 x2 y2 l : F) : Prop := l * (x2 - x1) = y2 - y1 ∧ l * (y1 + y2) = x1 * x1 + x1 * x2 + x2 * x2
/-- The sum by the slope. -/
def sx {F : Type} [Rg F] (x1 x2 l : F) : F := l * l - x1 - x2
def sy {F : Type} [Rg F] (x1 y1 x2 l : F) : F := -(y1 + l * (sx x1 x2 l - x1))

section
variable {F : Type} [Rg F]
theorem lc1 {a b p q : F} (c : F) (h : a - b = c * (p - q)) (h1 : p = q) : a = b := by
  rw [sub_of_eq h1, mul_zero] at h; exact eq_of_sub h
theorem lc2 {a b p q p' q' : F} (c c' : F) (h : a - b = c * (p - q) + c' * (p' - q')) (h1 : p = q) (h2 : p' = q') : a = b := by
  rw [sub_of_eq h1, sub_of_eq h2, mul_zero, mul_zero, zero_add] at h; exact eq_of_sub h
theorem lc3 {a b p q p' q' p'' q'' : F} (c c' c'' : F) (h : a - b = c * (p - q) + c' * (p' - q') + c'' * (p'' - q'')) (h1 : p = q) (h2 : p' = q') (h3 : p'' = q'') : a = b := by
  rw [sub_of_eq h1, sub_of_eq h2, sub_of_eq h3, mul_zero, mul_zero, mul_zero, zero_add, zero_add] at h; exact eq_of_sub h
theorem lc4 {a b p q p' q' p'' q'' u v : F} (c c' c'' d : F) (h : a - b = c * (p - q) + c' * (p' - q') + c'' * (p'' - q'') + d * (u - v)) (h1 : p = q) (h2 : p' = q') (h3 : p'' = q'') (h4 : u = v) : a = b := by
  rw [sub_of_eq h1, sub_of_eq h2, sub_of_eq h3, sub_of_eq h4, mul_zero, mul_zero, mul_zero, mul_zero, zero_add, zero_add, zero_add] at h; exact eq_of_sub h
end

theorem i_on {F : Type} [Rg F] (x1 y1 x2 y2 l x b : F) : (y1 + l * (x - x1)) * (y1 + l * (x - x1)) - (x * x * x + b) = 1 * (y1 * y1 - (x1 * x1 * x1 + b)) + (x - x1) * (l * (y1 + y2) - (x1 * x1 + x1 * x2 + x2 * x2)) + (x - x1) * l * (l * (x2 - x1) - (y2 - y1)) + (x - x1) * (x - x2) * ((l * l - x1 - x2) - x) :=
  rid [x1, y1, x2, y2, l, x, b] ((fun (x1 y1 x2 y2 l x b : PE) => ((y1 + l * (x - x1)) * (y1 + l * (x - x1)) - (x * x * x + b))) (.v 0) (.v 1) (.v 2) (.v 3) (.v 4) (.v 5) (.v 6)) ((fun (x1 y1 x2 y2 l x b : PE) => (1 * (y1 * y1 - (x1 * x1 * x1 + b)) + (x - x1) * (l * (y1 + y2) - (x1 * x1 + x1 * x2 + x2 * x2)) + (x - x1) * l * (l * (x2 - x1) - (y2 - y1)) + (x - x1) * (x - x2) * ((l * l - x1 - x2) - x))) (.v 0) (.v 1) (.v 2) (.v 3) (.v 4) (.v 5) (.v 6)) (by kernel_rfl)
theorem i_neg2 {F : Type} [Rg F] (a : F) : (- a) * (- a) = a * a :=
  rid [a] ((fun (a : PE) => ((- a) * (- a))) (.v 0)) ((fun (a : PE) => (a * a)) (.v 0)) (by kernel_rfl)
theorem i_third {F : Type} [Rg F] (x1 y1 x2 y2 l : F) : l * (y1 + - -(y1 + l * ((l * l - x1 - x2) - x1))) - (x1 * x1 + x1 * (l * l - x1 - x2) + (l * l - x1 - x2) * (l * l - x1 - x2)) = 1 * (l * (y1 + y2) - (x1 * x1 + x1 * x2 + x2 * x2)) + l * (l * (x2 - x1) - (y2 - y1)) :=
  rid [x1, y1, x2, y2, l] ((fun (x1 y1 x2 y2 l : PE) => (l * (y1 + - -(y1 + l * ((l * l - x1 - x2) - x1))) - (x1 * x1 + x1 * (l * l - x1 - x2) + (l * l - x1 - x2) * (l * l - x1 - x2)))) (.v 0) (.v 1) (.v 2) (.v 3) (.v 4)) ((fun (x1 y1 x2 y2 l : PE) => (1 * (l * (y1 + y2) - (x1 * x1 + x1 * x2 + x2 * x2)) + l * (l * (x2 - x1) - (y2 - y1)))) (.v 0) (.v 1) (.v 2) (.v 3) (.v 4)) (by kernel_rfl)
theorem i_third1 {F : Type} [Rg F] (x1 y1 x2 l : F) : l * ((l * l - x1 - x2) - x1) = - -(y1 + l * ((l * l - x1 - x2) - x1)) - y1 :=
  rid [x1, y1, x2, l] ((fun (x1 y1 x2 l : PE) => (l * ((l * l - x1 - x2) - x1))) (.v 0) (.v 1) (.v 2) (.v 3)) ((fun (x1 y1 x2 l : PE) => (- -(y1 + l * ((l * l - x1 - x2) - x1)) - y1)) (.v 0) (.v 1) (.v 2) (.v 3)) (by kernel_rfl)
theorem i_symx {F : Type} [Rg F] (x1 x2 l : F) : l * l - x1 - x2 = l * l - x2 - x1 :=
  rid [x1, x2, l] ((fun (x1 x2 l : PE) => (l * l - x1 - x2)) (.v 0) (.v 1) (.v 2)) ((fun (x1 x2 l : PE) => (l * l - x2 - x1)) (.v 0) (.v 1) (.v 2)) (by kernel_rfl)
theorem i_symy {F : Type} [Rg F] (x1 y1 x2 y2 l : F) : -(y1 + l * ((l * l - x1 - x2) - x1)) - -(y2 + l * ((l * l - x2 - x1) - x2)) = (-1) * (l * (x2 - x1) - (y2 - y1)) :=
  rid [x1, y1, x2, y2, l] ((fun (x1 y1 x2 y2 l : PE) => (-(y1 + l * ((l * l - x1 - x2) - x1)) - -(y2 + l * ((l * l - x2 - x1) - x2)))) (.v 0) (.v 1) (.v 2) (.v 3) (.v 4)) ((fun (x1 y1 x2 y2 l : PE) => ((-1) * (l * (x2 - x1) - (y2 - y1)))) (.v 0) (.v 1) (.v 2) (.v 3) (.v 4)) (by kernel_rfl)
theorem i_sym1 {F : Type} [Rg F] (x1 y1 x2 y2 l : F) : l * (x1 - x2) - (y1 - y2) = (-1) * (l * (x2 - x1) - (y2 - y1)) :=
  rid [x1, y1, x2, y2, l] ((fun (x1 y1 x2 y2 l : PE) => (l * (x1 - x2) - (y1 - y2))) (.v 0) (.v 1) (.v 2) (.v 3) (.v 4)) ((fun (x1 y1 x2 y2 l : PE) => ((-1) * (l * (x2 - x1) - (y2 - y1)))) (.v 0) (.v 1) (.v 2) (.v 3) (.v 4)) (by kernel_rfl)
theorem i_sym2 {F : Type} [Rg F] (x1 y1 x2 y2 l : F) : l * (y2 + y1) - (x2 * x2 + x2 * x1 + x1 * x1) = 1 * (l * (y1 + y2) - (x1 * x1 + x1 * x2 + x2 * x2)) :=
  rid [x1, y1, x2, y2, l] ((fun (x1 y1 x2 y2 l : PE) => (l * (y2 + y1) - (x2 * x2 + x2 * x1 + x1 * x1))) (.v 0) (.v 1) (.v 2) (.v 3) (.v 4)) ((fun (x1 y1 x2 y2 l : PE) => (1 * (l * (y1 + y2) - (x1 * x1 + x1 * x2 + x2 * x2)))) (.v 0) (.v 1) (.v 2) (.v 3) (.v 4)) (by kernel_rfl)
theorem i_f1 {F : Type} [Rg F] (x y u v l m : F) : (x * x + (u + l * m) * x + (u * u - l * m * u + (l - m) * v) - (l + m) * y) - 0 = (-1) * (l * (y + -v) - (x * x + x * u + u * u)) + (-m) * (l * (u - x) - (-v - y)) :=
  rid [x, y, u, v, l, m] ((fun (x y u v l m : PE) => ((x * x + (u + l * m) * x + (u * u - l * m * u + (l - m) * v) - (l + m) * y) - 0)) (.v 0) (.v 1) (.v 2) (.v 3) (.v 4) (.v 5)) ((fun (x y u v l m : PE) => ((-1) * (l * (y + -v) - (x * x + x * u + u * u)) + (-m) * (l * (u - x) - (-v - y)))) (.v 0) (.v 1) (.v 2) (.v 3) (.v 4) (.v 5)) (by kernel_rfl)
theorem i_f2 {F : Type} [Rg F] (x y u v l m : F) : (x * x + (u + l * m) * x + (u * u - l * m * u + (l - m) * v) - (l + m) * y) - 0 = (-1) * (m * (v + y) - (u * u + u * x + x * x)) + l * (m * (x - u) - (y - v)) :=
  rid [x, y, u, v, l, m] ((fun (x y u v l m : PE) => ((x * x + (u + l * m) * x + (u * u - l * m * u + (l - m) * v) - (l + m) * y) - 0)) (.v 0) (.v 1) (.v 2) (.v 3) (.v 4) (.v 5)) ((fun (x y u v l m : PE) => ((-1) * (m * (v + y) - (u * u + u * x + x * x)) + l * (m * (x - u) - (y - v)))) (.v 0) (.v 1) (.v 2) (.v 3) (.v 4) (.v 5)) (by kernel_rfl)
theorem i_chord {F : Type} [Rg F] (x1 y1 x2 y2 l i b : F) : (l * (y1 + y2) - (x1 * x1 + x1 * x2 + x2 * x2)) * (x2 - x1) - 0 = (y1 + y2) * (l * (x2 - x1) - (y2 - y1)) + 1 * (y2 * y2 - (x2 * x2 * x2 + b)) + (-1) * (y1 * y1 - (x1 * x1 * x1 + b)) :=
  rid [x1, y1, x2, y2, l, i, b] ((fun (x1 y1 x2 y2 l i b : PE) => ((l * (y1 + y2) - (x1 * x1 + x1 * x2 + x2 * x2)) * (x2 - x1) - 0)) (.v 0) (.v 1) (.v 2) (.v 3) (.v 4) (.v 5) (.v 6)) ((fun (x1 y1 x2 y2 l i b : PE) => ((y1 + y2) * (l * (x2 - x1) - (y2 - y1)) + 1 * (y2 * y2 - (x2 * x2 * x2 + b)) + (-1) * (y1 * y1 - (x1 * x1 * x1 + b)))) (.v 0) (.v 1) (.v 2) (.v 3) (.v 4) (.v 5) (.v 6)) (by kernel_rfl)
theorem i_dsq {F : Type} [Rg F] (a b : F) : (a - b) * (a + b) = a * a - b * b :=
  rid [a, b] ((fun (a b : PE) => ((a - b) * (a + b))) (.v 0) (.v 1)) ((fun (a b : PE) => (a * a - b * b)) (.v 0) (.v 1)) (by kernel_rfl)
theorem i_h {F : Type} [Rg F] (a1 a0 g b1 b0 h l xP yP xQ xR yR : F) : (g - h) * (l * (xR - xP) - (yR - yP)) = (xR * xR + a1 * xR + a0 - g * yR) - (xP * xP + a1 * xP + a0 - g * yP) - (xR * xR + b1 * xR + b0 - h * yR) + (xP * xP + b1 * xP + b0 - h * yP) - (xR - xP) * (((xP + xQ + a1) - g * l) - ((xP + xQ + b1) - h * l)) :=
  rid [a1, a0, g, b1, b0, h, l, xP, yP, xQ, xR, yR] ((fun (a1 a0 g b1 b0 h l xP yP xQ xR yR : PE) => ((g - h) * (l * (xR - xP) - (yR - yP)))) (.v 0) (.v 1) (.v 2) (.v 3) (.v 4) (.v 5) (.v 6) (.v 7) (.v 8) (.v 9) (.v 10) (.v 11)) ((fun (a1 a0 g b1 b0 h l xP yP xQ xR yR : PE) => ((xR * xR + a1 * xR + a0 - g * yR) - (xP * xP + a1 * xP + a0 - g * yP) - (xR * xR + b1 * xR + b0 - h * yR) + (xP * xP + b1 * xP + b0 - h * yP) - (xR - xP) * (((xP + xQ + a1) - g * l) - ((xP + xQ + b1) - h * l)))) (.v 0) (.v 1) (.v 2) (.v 3) (.v 4) (.v 5) (.v 6) (.v 7) (.v 8) (.v 9) (.v 10) (.v 11)) (by kernel_rfl)
theorem i_a1 {F : Type} [Rg F] (a1 b1 g l xP xQ : F) : a1 - b1 = 1 * ((xP + xQ + a1) - g * l) + (-1) * ((xP + xQ + b1) - g * l) :=
  rid [a1, b1, g, l, xP, xQ] ((fun (a1 b1 g l xP xQ : PE) => (a1 - b1)) (.v 0) (.v 1) (.v 2) (.v 3) (.v 4) (.v 5)) ((fun (a1 b1 g l xP xQ : PE) => (1 * ((xP + xQ + a1) - g * l) + (-1) * ((xP + xQ + b1) - g * l))) (.v 0) (.v 1) (.v 2) (.v 3) (.v 4) (.v 5)) (by kernel_rfl)
theorem i_a0 {F : Type} [Rg F] (a0 b0 a1 g xP yP : F) : a0 - b0 = 1 * ((xP * xP + a1 * xP + a0 - g * yP) - 0) + (-1) * ((xP * xP + a1 * xP + b0 - g * yP) - 0) :=
  rid [a0, b0, a1, g, xP, yP] ((fun (a0 b0 a1 g xP yP : PE) => (a0 - b0)) (.v 0) (.v 1) (.v 2) (.v 3) (.v 4) (.v 5)) ((fun (a0 b0 a1 g xP yP : PE) => (1 * ((xP * xP + a1 * xP + a0 - g * yP) - 0) + (-1) * ((xP * xP + a1 * xP + b0 - g * yP) - 0))) (.v 0) (.v 1) (.v 2) (.v 3) (.v 4) (.v 5)) (by kernel_rfl)
theorem i_g {F : Type} [Rg F] (a1 a0 xP yP xR yR : F) : (xR - xP) * (xR + xP + a1) = (xR * xR + a1 * xR + a0 - 0 * yR) - (xP * xP + a1 * xP + a0 - 0 * yP) :=
  rid [a1, a0, xP, yP, xR, yR] ((fun (a1 a0 xP yP xR yR : PE) => ((xR - xP) * (xR + xP + a1))) (.v 0) (.v 1) (.v 2) (.v 3) (.v 4) (.v 5)) ((fun (a1 a0 xP yP xR yR : PE) => ((xR * xR + a1 * xR + a0 - 0 * yR) - (xP * xP + a1 * xP + a0 - 0 * yP))) (.v 0) (.v 1) (.v 2) (.v 3) (.v 4) (.v 5)) (by kernel_rfl)
theorem i_g2 {F : Type} [Rg F] (a1 xP xQ xR l : F) : xR - xQ = 1 * ((xR + xP + a1) - 0) + (-1) * ((xP + xQ + a1) - 0 * l) :=
  rid [a1, xP, xQ, xR, l] ((fun (a1 xP xQ xR l : PE) => (xR - xQ)) (.v 0) (.v 1) (.v 2) (.v 3) (.v 4)) ((fun (a1 xP xQ xR l : PE) => (1 * ((xR + xP + a1) - 0) + (-1) * ((xP + xQ + a1) - 0 * l))) (.v 0) (.v 1) (.v 2) (.v 3) (.v 4)) (by kernel_rfl)
theorem i_y {F : Type} [Rg F] (a1 a0 g x y t : F) : g * (y - t) - 0 = 1 * ((x * x + a1 * x + a0 - g * -y) - 0) + (-1) * ((x * x + a1 * x + a0 - g * -t) - 0) :=
  rid [a1, a0, g, x, y, t] ((fun (a1 a0 g x y t : PE) => (g * (y - t) - 0)) (.v 0) (.v 1) (.v 2) (.v 3) (.v 4) (.v 5)) ((fun (a1 a0 g x y t : PE) => (1 * ((x * x + a1 * x + a0 - g * -y) - 0) + (-1) * ((x * x + a1 * x + a0 - g * -t) - 0))) (.v 0) (.v 1) (.v 2) (.v 3) (.v 4) (.v 5)) (by kernel_rfl)
theorem i_c1 {F : Type} [Rg F] (x1 x2 l : F) : (-l) * (-l) - x1 - (l * l - x1 - x2) = x2 :=
  rid [x1, x2, l] ((fun (x1 x2 l : PE) => ((-l) * (-l) - x1 - (l * l - x1 - x2))) (.v 0) (.v 1) (.v 2)) ((fun (x1 x2 l : PE) => (x2)) (.v 0) (.v 1) (.v 2)) (by kernel_rfl)
theorem i_c2 {F : Type} [Rg F] (x1 y1 x2 y2 l : F) : -(-y1 + -l * (x2 - x1)) - y2 = 1 * (l * (x2 - x1) - (y2 - y1)) :=
  rid [x1, y1, x2, y2, l] ((fun (x1 y1 x2 y2 l : PE) => (-(-y1 + -l * (x2 - x1)) - y2)) (.v 0) (.v 1) (.v 2) (.v 3) (.v 4)) ((fun (x1 y1 x2 y2 l : PE) => (1 * (l * (x2 - x1) - (y2 - y1)))) (.v 0) (.v 1) (.v 2) (.v 3) (.v 4)) (by kernel_rfl)
theorem i_n1 {F : Type} [Rg F] (x1 y1 u v l : F) : -l * (u - x1) - (v - -y1) = (-1) * (l * (u - x1) - (-v - y1)) :=
  rid [x1, y1, u, v, l] ((fun (x1 y1 u v l : PE) => (-l * (u - x1) - (v - -y1))) (.v 0) (.v 1) (.v 2) (.v 3) (.v 4)) ((fun (x1 y1 u v l : PE) => ((-1) * (l * (u - x1) - (-v - y1)))) (.v 0) (.v 1) (.v 2) (.v 3) (.v 4)) (by kernel_rfl)
theorem i_n2 {F : Type} [Rg F] (x1 y1 u v l : F) : -l * (-y1 + v) - (x1 * x1 + x1 * u + u * u) = 1 * (l * (y1 + -v) - (x1 * x1 + x1 * u + u * u)) :=
  rid [x1, y1, u, v, l] ((fun (x1 y1 u v l : PE) => (-l * (-y1 + v) - (x1 * x1 + x1 * u + u * u))) (.v 0) (.v 1) (.v 2) (.v 3) (.v 4)) ((fun (x1 y1 u v l : PE) => (1 * (l * (y1 + -v) - (x1 * x1 + x1 * u + u * u)))) (.v 0) (.v 1) (.v 2) (.v 3) (.v 4)) (by kernel_rfl)
theorem i_t2 {F : Type} [Rg F] (xP xQ a1 g l yP yQ a0 : F) : (xQ - xP) * ((xP + xQ + a1) - g * l) - 0 = 1 * ((xQ * xQ + a1 * xQ + a0 - g * yQ) - 0) + (-1) * ((xP * xP + a1 * xP + a0 - g * yP) - 0) + (-g) * (l * (xQ - xP) - (yQ - yP)) :=
  rid [xP, xQ, a1, g, l, yP, yQ, a0] ((fun (xP xQ a1 g l yP yQ a0 : PE) => ((xQ - xP) * ((xP + xQ + a1) - g * l) - 0)) (.v 0) (.v 1) (.v 2) (.v 3) (.v 4) (.v 5) (.v 6) (.v 7)) ((fun (xP xQ a1 g l yP yQ a0 : PE) => (1 * ((xQ * xQ + a1 * xQ + a0 - g * yQ) - 0) + (-1) * ((xP * xP + a1 * xP + a0 - g * yP) - 0) + (-g) * (l * (xQ - xP) - (yQ - yP)))) (.v 0) (.v 1) (.v 2) (.v 3) (.v 4) (.v 5) (.v 6) (.v 7)) (by kernel_rfl)
theorem i_t3 {F : Type} [Rg F] (x y u v k m l : F) : (u - x) * ((x + x + (u + k * m)) - (k + m) * l) - 0 = (-l) * (k * (u - x) - (-v - y)) + (k - l) * (m * (u - x) - (v - y)) + (-1) * (k * (y + -v) - (x * x + x * u + u * u)) + 1 * (l * (y + y) - (x * x + x * x + x * x)) :=
  rid [x, y, u, v, k, m, l] ((fun (x y u v k m l : PE) => ((u - x) * ((x + x + (u + k * m)) - (k + m) * l) - 0)) (.v 0) (.v 1) (.v 2) (.v 3) (.v 4) (.v 5) (.v 6)) ((fun (x y u v k m l : PE) => ((-l) * (k * (u - x) - (-v - y)) + (k - l) * (m * (u - x) - (v - y)) + (-1) * (k * (y + -v) - (x * x + x * u + u * u)) + 1 * (l * (y + y) - (x * x + x * x + x * x)))) (.v 0) (.v 1) (.v 2) (.v 3) (.v 4) (.v 5) (.v 6)) (by kernel_rfl)
theorem i_perm {F : Type} [Rg F] (g a p r : F) : g - a - (p + r + p) = g - a - (p + p + r) :=
  rid [g, a, p, r] ((fun (g a p r : PE) => (g - a - (p + r + p))) (.v 0) (.v 1) (.v 2) (.v 3)) ((fun (g a p r : PE) => (g - a - (p + p + r))) (.v 0) (.v 1) (.v 2) (.v 3)) (by kernel_rfl)
theorem i_perm2 {F : Type} [Rg F] (g a p q r : F) : g - a - (q + r + p) = g - a - (p + q + r) :=
  rid [g, a, p, q, r] ((fun (g a p q r : PE) => (g - a - (q + r + p))) (.v 0) (.v 1) (.v 2) (.v 3) (.v 4)) ((fun (g a p q r : PE) => (g - a - (p + q + r))) (.v 0) (.v 1) (.v 2) (.v 3) (.v 4)) (by kernel_rfl)
theorem i_m1 {F : Type} [Rg F] (x1 y1 x2 y2 l : F) : -l * (x2 - x1) - (-y2 - -y1) = (-1) * (l * (x2 - x1) - (y2 - y1)) :=
  rid [x1, y1, x2, y2, l] ((fun (x1 y1 x2 y2 l : PE) => (-l * (x2 - x1) - (-y2 - -y1))) (.v 0) (.v 1) (.v 2) (.v 3) (.v 4)) ((fun (x1 y1 x2 y2 l : PE) => ((-1) * (l * (x2 - x1) - (y2 - y1)))) (.v 0) (.v 1) (.v 2) (.v 3) (.v 4)) (by kernel_rfl)
theorem i_m2 {F : Type} [Rg F] (x1 y1 x2 y2 l : F) : -l * (-y1 + -y2) - (x1 * x1 + x1 * x2 + x2 * x2) = 1 * (l * (y1 + y2) - (x1 * x1 + x1 * x2 + x2 * x2)) :=
  rid [x1, y1, x2, y2, l] ((fun (x1 y1 x2 y2 l : PE) => (-l * (-y1 + -y2) - (x1 * x1 + x1 * x2 + x2 * x2))) (.v 0) (.v 1) (.v 2) (.v 3) (.v 4)) ((fun (x1 y1 x2 y2 l : PE) => (1 * (l * (y1 + y2) - (x1 * x1 + x1 * x2 + x2 * x2)))) (.v 0) (.v 1) (.v 2) (.v 3) (.v 4)) (by kernel_rfl)
theorem i_m3 {F : Type} [Rg F] (x1 x2 l : F) : l * l - x1 - x2 = -l * -l - x1 - x2 :=
  rid [x1, x2, l] ((fun (x1 x2 l : PE) => (l * l - x1 - x2)) (.v 0) (.v 1) (.v 2)) ((fun (x1 x2 l : PE) => (-l * -l - x1 - x2)) (.v 0) (.v 1) (.v 2)) (by kernel_rfl)
theorem i_m4 {F : Type} [Rg F] (x1 y1 x2 l : F) : - -(y1 + l * ((l * l - x1 - x2) - x1)) = -(-y1 + -l * ((-l * -l - x1 - x2) - x1)) :=
  rid [x1, y1, x2, l] ((fun (x1 y1 x2 l : PE) => (- -(y1 + l * ((l * l - x1 - x2) - x1)))) (.v 0) (.v 1) (.v 2) (.v 3)) ((fun (x1 y1 x2 l : PE) => (-(-y1 + -l * ((-l * -l - x1 - x2) - x1)))) (.v 0) (.v 1) (.v 2) (.v 3)) (by kernel_rfl)
theorem i_T1 {F : Type} [Rg F] (xP xQ l m : F) : xP + xQ + ((l * l - xP - xQ) + l * m) = (l + m) * l :=
  rid [xP, xQ, l, m] ((fun (xP xQ l m : PE) => (xP + xQ + ((l * l - xP - xQ) + l * m))) (.v 0) (.v 1) (.v 2) (.v 3)) ((fun (xP xQ l m : PE) => ((l + m) * l)) (.v 0) (.v 1) (.v 2) (.v 3)) (by kernel_rfl)
theorem i_S {F : Type} [Rg F] (xP xQ xR l m : F) : m * m - (l * l - xP - xQ) - xR = (l + m) * (l + m) - (((l * l - xP - xQ) + l * m) + ((l * l - xP - xQ) + l * m)) - (xP + xQ + xR) :=
  rid [xP, xQ, xR, l, m] ((fun (xP xQ xR l m : PE) => (m * m - (l * l - xP - xQ) - xR)) (.v 0) (.v 1) (.v 2) (.v 3) (.v 4)) ((fun (xP xQ xR l m : PE) => ((l + m) * (l + m) - (((l * l - xP - xQ) + l * m) + ((l * l - xP - xQ) + l * m)) - (xP + xQ + xR))) (.v 0) (.v 1) (.v 2) (.v 3) (.v 4)) (by kernel_rfl)

section
variable {F : Type} [Fd F] {b : F}

theorem sq_zero {a : F} (h : a * a = 0) : a = 0 := (mul_eq_zero h).elim id id
theorem three_zero {a : F} (h : a + a + a = 0) : a = 0 := by
  have : (1 + 1 + 1) * a = 0 := by rw [add_mul, add_mul, one_mul]; exact h
  exact (mul_eq_zero this).resolve_left three_ne
theorem eq_neg_self {a : F} (h : a = -a) : a = 0 := double_eq_zero (by
  have := sub_of_eq h
  rwa [sub_def, neg_neg] at this)

theorem Ln.symm {x1 y1 x2 y2 l : F} (h : Ln x1 y1 x2 y2 l) : Ln x2 y2 x1 y1 l := ⟨lc1 _ (i_sym1 x1 y1 x2 y2 l) h.1, lc1 _ (i_sym2 x1 y1 x2 y2 l) h.2⟩
theorem sx_symm (x1 x2 l : F) : sx x1 x2 l = sx x2 x1 l := i_symx x1 x2 l
theorem sy_symm {x1 y1 x2 y2 l : F} (h : Ln x1 y1 x2 y2 l) : sy x1 y1 x2 l = sy x2 y2 x1 l := lc1 _ (i_symy x1 y1 x2 y2 l) h.1
/-- The third point of the line. -/
theorem Ln.third {x1 y1 x2 y2 l : F} (h : Ln x1 y1 x2 y2 l) : Ln x1 y1 (sx x1 x2 l) (-sy x1 y1 x2 l) l :=
  ⟨i_third1 x1 y1 x2 l, lc2 _ _ (i_third x1 y1 x2 y2 l) h.2 h.1⟩
theorem Ln.third' {x1 y1 x2 y2 l : F} (h : Ln x1 y1 x2 y2 l) : Ln x2 y2 (sx x1 x2 l) (-sy x1 y1 x2 l) l := by
  have t := h.symm.third
  rw [← sx_symm x1 x2 l, ← sy_symm h] at t
  exact t
theorem Ln.sum_on {x1 y1 x2 y2 l : F} (h : Ln x1 y1 x2 y2 l) (h1 : On b x1 y1) : On b (sx x1 x2 l) (sy x1 y1 x2 l) := by
  unfold On sy
  rw [i_neg2]
  exact lc4 _ _ _ _ (i_on x1 y1 x2 y2 l (sx x1 x2 l) b) h1 h.2 h.1 rfl
/-- Which points of the curve lie on the line. -/
theorem Ln.which {x1 y1 x2 y2 l x y : F} (h : Ln x1 y1 x2 y2 l) (h1 : On b x1 y1) (ho : On b x y) (hy : y = y1 + l * (x - x1)) : x = x1 ∨ x = x2 ∨ x = sx x1 x2 l := by
  have e := i_on x1 y1 x2 y2 l x b
  rw [← hy, sub_of_eq ho, sub_of_eq h1, sub_of_eq h.1, sub_of_eq h.2, mul_zero, mul_zero, mul_zero, zero_add, zero_add, zero_add] at e
  rcases mul_eq_zero e.symm with e | e
  · rcases mul_eq_zero e with e | e
    · exact .inl (eq_of_sub e)
    · exact .inr (.inl (eq_of_sub e))
  · exact .inr (.inr (eq_of_sub e).symm)
theorem Ln.not_neg (hb : b ≠ 0) {x1 y1 x2 y2 l : F} (h : Ln x1 y1 x2 y2 l) (h1 : On b x1 y1) : ¬(x1 = x2 ∧ y2 = -y1) := by
  rintro ⟨rfl, rfl⟩
  obtain ⟨e1, e2⟩ := h
  rw [sub_self, mul_zero] at e1
  have hy : y1 = 0 := eq_neg_self (eq_of_sub e1.symm).symm
  subst hy
  rw [neg_zero, add_zero, mul_zero] at e2
  have hx : x1 = 0 := sq_zero (three_zero e2.symm)
  subst hx
  unfold On at h1
  rw [mul_zero, mul_zero, zero_add] at h1
  exact hb h1.symm
theorem Ln.unique (hb : b ≠ 0) {x1 y1 x2 y2 l m : F} (h : Ln x1 y1 x2 y2 l) (k : Ln x1 y1 x2 y2 m) (h1 : On b x1 y1) : l = m := by
  by_cases hx : x2 - x1 = 0
  · by_cases hy : y1 + y2 = 0
    · exact absurd ⟨(eq_of_sub hx).symm, (neg_eq hy).symm⟩ (h.not_neg hb h1)
    · refine mul_left hy ?_
      rw [mul_comm _ l, h.2, mul_comm _ m, k.2]
  · refine mul_left hx ?_
    rw [mul_comm _ l, h.1, mul_comm _ m, k.1]

def slope (x1 y1 x2 y2 : F) : F := if x1 = x2 then (x1 * x1 + x1 * x1 + x1 * x1) * inv (y1 + y1) else (y2 - y1) * inv (x2 - x1)
theorem slope_ln {x1 y1 x2 y2 : F} (h1 : On b x1 y1) (h2 : On b x2 y2) (hn : ¬(x1 = x2 ∧ y2 = -y1)) : Ln x1 y1 x2 y2 (slope x1 y1 x2 y2) := by
  unfold slope
  split
  · rename_i hx
    subst hx
    have e : (y2 - y1) * (y2 + y1) = 0 := by
      have : (y2 - y1) * (y2 + y1) = y2 * y2 - y1 * y1 := i_dsq y2 y1
      rw [this, h1, h2, sub_self]
    rcases mul_eq_zero e with e | e
    · have e := eq_of_sub e
      subst e
      have hy : y2 + y2 ≠ 0 := fun h => hn ⟨rfl, (neg_eq h).symm⟩
      refine ⟨by rw [sub_self, sub_self, mul_zero], ?_⟩
      rw [mul_assoc, mul_comm (inv _), mul_inv _ hy, mul_one]
    · exact absurd ⟨rfl, (neg_eq (by rw [add_comm]; exact e)).symm⟩ hn
  · rename_i hx
    have hd : x2 - x1 ≠ 0 := sub_ne (fun e => hx e.symm)
    have e1 : (y2 - y1) * inv (x2 - x1) * (x2 - x1) = y2 - y1 := by rw [mul_assoc, mul_comm (inv _), mul_inv _ hd, mul_one]
    refine ⟨e1, ?_⟩
    generalize (y2 - y1) * inv (x2 - x1) = l at *
    have := lc3 _ _ _ (i_chord x1 y1 x2 y2 l 0 b) e1 h2 h1
    exact eq_of_sub ((mul_eq_zero this).resolve_right hd)

/-- The function with zeros at P, Q, R, -(P + Q + R). -/
def fn (u v l m x y : F) : F := x * x + (u + l * m) * x + (u * u - l * m * u + (l - m) * v) - (l + m) * y
theorem fn1 {u v l m x y : F} (h : Ln x y u (-v) l) : fn u v l m x y = 0 := lc2 _ _ (i_f1 x y u v l m) h.2 h.1
theorem fn2 {u v l m x y : F} (h : Ln u v x y m) : fn u v l m x y = 0 := lc2 _ _ (i_f2 x y u v l m) h.2 h.1

theorem same {a1 a0 g b1 b0 h l xP yP xQ xR yR : F} (f1P : xP * xP + a1 * xP + a0 - g * yP = 0) (f1R : xR * xR + a1 * xR + a0 - g * yR = 0) (f2P : xP * xP + b1 * xP + b0 - h * yP = 0) (f2R : xR * xR + b1 * xR + b0 - h * yR = 0)
    (T1 : xP + xQ + a1 = g * l) (T2 : xP + xQ + b1 = h * l) (hne : yR ≠ yP + l * (xR - xP)) : a1 = b1 ∧ a0 = b0 ∧ g = h := by
  have e := i_h a1 a0 g b1 b0 h l xP yP xQ xR yR
  rw [f1P, f1R, f2P, f2R, sub_of_eq T1, sub_of_eq T2, sub_self, sub_self, add_zero, mul_zero, sub_self] at e
  have hg : g = h := by
    rcases mul_eq_zero e with e | e
    · exact eq_of_sub e
    · exfalso
      have := eq_of_sub e
      exact hne (by rw [this, sub_def, add_comm, add_assoc, neg_add, add_zero])
  subst hg
  have h1 := lc2 _ _ (i_a1 a1 b1 g l xP xQ) T1 T2
  subst h1
  exact ⟨rfl, lc2 _ _ (i_a0 a0 b0 a1 g xP yP) f1P f2P, rfl⟩

theorem g_ne {a1 a0 g l xP yP xQ xR yR : F} (f1P : xP * xP + a1 * xP + a0 - g * yP = 0) (f1R : xR * xR + a1 * xR + a0 - g * yR = 0) (T1 : xP + xQ + a1 = g * l) (h1 : xR ≠ xP) (h2 : xR ≠ xQ) : g ≠ 0 := by
  intro hg
  subst hg
  have e := i_g a1 a0 xP yP xR yR
  rw [f1P, f1R, sub_self] at e
  rcases mul_eq_zero e with e | e
  · exact h1 (eq_of_sub e)
  · exact h2 (lc2 _ _ (i_g2 a1 xP xQ xR l) e T1)

theorem main {xP yP xQ yQ xR yR l m u v l' m' s t : F} (hb : b ≠ 0) (oP : On b xP yP) (oR : On b xR yR) (hl : Ln xP yP xQ yQ l) (hm : Ln (sx xP xQ l) (sy xP yP xQ l) xR yR m)
    (T2 : xP + xQ + (u + l' * m') = (l' + m') * l) (f2P : fn u v l' m' xP yP = 0) (f2R : fn u v l' m' xR yR = 0) (f2S : fn u v l' m' s (-t) = 0)
    (hs : s = (l' + m') * (l' + m') - ((u + l' * m') + (u + l' * m')) - (xP + xQ + xR)) (h1 : xR ≠ xP) (h2 : xR ≠ xQ) :
    sx (sx xP xQ l) xR m = s ∧ sy (sx xP xQ l) (sy xP yP xQ l) xR m = t := by
  have f1P : fn (sx xP xQ l) (sy xP yP xQ l) l m xP yP = 0 := fn1 hl.third
  have f1R : fn (sx xP xQ l) (sy xP yP xQ l) l m xR yR = 0 := fn2 hm
  have f1S : fn (sx xP xQ l) (sy xP yP xQ l) l m (sx (sx xP xQ l) xR m) (-sy (sx xP xQ l) (sy xP yP xQ l) xR m) = 0 := fn2 hm.third
  have T1 : xP + xQ + (sx xP xQ l + l * m) = (l + m) * l := i_T1 xP xQ l m
  have hne : yR ≠ yP + l * (xR - xP) := by
    intro hy
    rcases hl.which oP oR hy with e | e | e
    · exact h1 e
    · exact h2 e
    · refine hm.not_neg hb (hl.sum_on oP) ⟨e.symm, ?_⟩
      unfold sy
      rw [neg_neg, ← e]
      exact hy
  have hg := g_ne f1P f1R T1 h1 h2
  obtain ⟨e1, e2, e3⟩ := same f1P f1R f2P f2R T1 T2 hne
  have hS : sx (sx xP xQ l) xR m = s := by
    rw [hs, ← e1, ← e3]
    exact i_S xP xQ xR l m
  refine ⟨hS, ?_⟩
  rw [hS] at f1S
  unfold fn at f1S f2S
  rw [← e1, ← e2, ← e3] at f2S
  have := lc2 _ _ (i_y _ _ _ s _ t) f1S f2S
  exact eq_of_sub ((mul_eq_zero this).resolve_left hg)

/-! Points: pairs; (0, 0) is nought. -/
abbrev O2 : F × F := (0, 0)
def pneg (P : F × F) : F × F := (P.1, -P.2)
def padd (P Q : F × F) : F × F :=
  if P = O2 then Q else if Q = O2 then P else if P.1 = Q.1 ∧ Q.2 = -P.2 then O2 else (sx P.1 Q.1 (slope P.1 P.2 Q.1 Q.2), sy P.1 P.2 Q.1 (slope P.1 P.2 Q.1 Q.2))
def OnP (b : F) (P : F × F) : Prop := P = O2 ∨ On b P.1 P.2
abbrev LnP (P Q : F × F) (l : F) : Prop := Ln P.1 P.2 Q.1 Q.2 l
abbrev OnF (b : F) (P : F × F) : Prop := On b P.1 P.2

variable (hb : b ≠ 0)
include hb
theorem on_ne {P : F × F} (h : OnF b P) : P ≠ O2 := by
  rintro rfl
  have h : (0 : F) * 0 = 0 * 0 * 0 + b := h
  rw [mul_zero, mul_zero, zero_add] at h
  exact hb h.symm
omit hb in
theorem pneg_O : pneg (O2 : F × F) = O2 := by show ((0 : F), -(0 : F)) = _; rw [neg_zero]
omit hb in
theorem pneg_pneg (P : F × F) : pneg (pneg P) = P := by show (P.1, - -P.2) = P; rw [neg_neg]
omit hb in
theorem pneg_on {P : F × F} (h : OnF b P) : OnF b (pneg P) := by
  have h : P.2 * P.2 = P.1 * P.1 * P.1 + b := h
  show -P.2 * -P.2 = P.1 * P.1 * P.1 + b
  rw [i_neg2, h]
omit hb in
theorem pneg_onP {P : F × F} (h : OnP b P) : OnP b (pneg P) := by
  rcases h with rfl | h
  · exact .inl pneg_O
  · exact .inr (pneg_on h)
theorem padd_ln {P Q : F × F} {l : F} (oP : OnF b P) (oQ : OnF b Q) (h : LnP P Q l) : padd P Q = (sx P.1 Q.1 l, sy P.1 P.2 Q.1 l) := by
  unfold padd
  have hn := h.not_neg hb oP
  rw [if_neg (on_ne hb oP), if_neg (on_ne hb oQ), if_neg hn, (slope_ln oP oQ hn).unique hb h oP]
omit hb in
theorem O_add (Q : F × F) : padd O2 Q = Q := by unfold padd; rw [if_pos rfl]
omit hb in
theorem add_O (P : F × F) : padd P O2 = P := by
  unfold padd
  split
  · rename_i h; exact h.symm
  · rw [if_pos rfl]
omit hb in
theorem ln_or {P Q : F × F} (oP : OnF b P) (oQ : OnF b Q) : Q = pneg P ∨ ∃ l, LnP P Q l := by
  by_cases h : P.1 = Q.1 ∧ Q.2 = -P.2
  · left; exact Prod.ext h.1.symm h.2
  · exact .inr ⟨_, slope_ln oP oQ h⟩
omit hb in
theorem add_neg_self (P : F × F) : padd P (pneg P) = O2 := by
  unfold padd
  split
  · rename_i h; rw [h]; exact pneg_O
  · split
    · rename_i h1 h2
      have := congrArg pneg h2
      rw [pneg_pneg, pneg_O] at this
      exact absurd this h1
    · rw [if_pos ⟨rfl, rfl⟩]
omit hb in
theorem neg_add_self (P : F × F) : padd (pneg P) P = O2 := by
  have := add_neg_self (pneg P)
  rwa [pneg_pneg] at this
theorem padd_on {P Q : F × F} (oP : OnP b P) (oQ : OnP b Q) : OnP b (padd P Q) := by
  rcases oP with rfl | oP
  · rw [O_add]; exact oQ
  · rcases oQ with rfl | oQ
    · rw [add_O]; exact .inr oP
    · rcases ln_or oP oQ with rfl | ⟨l, h⟩
      · rw [add_neg_self]; exact .inl rfl
      · rw [padd_ln hb oP oQ h]; exact .inr (h.sum_on oP)
theorem padd_comm {P Q : F × F} (oP : OnP b P) (oQ : OnP b Q) : padd P Q = padd Q P := by
  rcases oP with rfl | oP
  · rw [O_add, add_O]
  · rcases oQ with rfl | oQ
    · rw [O_add, add_O]
    · rcases ln_or oP oQ with rfl | ⟨l, h⟩
      · rw [add_neg_self, neg_add_self]
      · rw [padd_ln hb oP oQ h, padd_ln hb oQ oP h.symm, sx_symm, sy_symm h]
theorem cancel {P Q : F × F} (oP : OnP b P) (oQ : OnP b Q) : padd (pneg P) (padd P Q) = Q := by
  rcases oP with rfl | oP
  · rw [pneg_O, O_add, O_add]
  · rcases oQ with rfl | oQ
    · rw [add_O, neg_add_self]
    · rcases ln_or oP oQ with rfl | ⟨l, h⟩
      · rw [add_neg_self, add_O]
      · rw [padd_ln hb oP oQ h]
        have ht := h.third
        have hn : LnP (pneg P) (sx P.1 Q.1 l, sy P.1 P.2 Q.1 l) (-l) := ⟨lc1 _ (i_n1 P.1 P.2 _ _ l) ht.1, lc1 _ (i_n2 P.1 P.2 _ _ l) ht.2⟩
        rw [padd_ln hb (pneg_on oP) (h.sum_on oP) hn]
        have ex : sx P.1 (sx P.1 Q.1 l) (-l) = Q.1 := i_c1 P.1 Q.1 l
        refine Prod.ext ex ?_
        show -(-P.2 + -l * (sx P.1 (sx P.1 Q.1 l) (-l) - P.1)) = Q.2
        rw [ex]
        exact lc1 _ (i_c2 P.1 P.2 Q.1 Q.2 l) h.1

/-- Doubled, and another. -/
theorem assoc_two {P R : F × F} (oP : OnF b P) (oR : OnF b R) (h1 : R.1 ≠ P.1) {l m l' m' : F} (hl : LnP P P l) (hm : LnP (sx P.1 P.1 l, sy P.1 P.2 P.1 l) R m) (hl' : LnP P R l') (hm' : LnP P (sx P.1 R.1 l', sy P.1 P.2 R.1 l') m') :
    padd (padd P P) R = padd P (padd P R) := by
  rw [padd_ln hb oP oP hl, padd_ln hb oP oR hl', padd_ln hb (hl.sum_on oP) oR hm, padd_ln hb oP (hl'.sum_on oP) hm']
  have hV : sx P.1 R.1 l' ≠ P.1 := by
    intro e
    have hn := hm'.not_neg hb oP
    have oV : On b (sx P.1 R.1 l') (sy P.1 P.2 R.1 l') := hl'.sum_on oP
    have e2 : sy P.1 P.2 R.1 l' = P.2 := by
      have : (sy P.1 P.2 R.1 l' - P.2) * (sy P.1 P.2 R.1 l' + P.2) = 0 := by
        have oV : sy P.1 P.2 R.1 l' * sy P.1 P.2 R.1 l' = _ := oV
        have oP : P.2 * P.2 = P.1 * P.1 * P.1 + b := oP
        rw [i_dsq, oV, oP, e, sub_self]
      rcases mul_eq_zero this with h | h
      · exact eq_of_sub h
      · exact absurd ⟨e.symm, (neg_eq (by rw [add_comm]; exact h)).symm⟩ hn
    have hc := cancel hb (.inr oP) (.inr oR)
    rw [padd_ln hb oP oR hl', e, e2] at hc
    have : padd (pneg P) P = R := hc
    rw [neg_add_self] at this
    exact on_ne hb oR this.symm
  have T2 : P.1 + P.1 + (sx P.1 R.1 l' + l' * m') = (l' + m') * l := by
    have e := lc4 _ _ _ _ (i_t3 P.1 P.2 (sx P.1 R.1 l') (sy P.1 P.2 R.1 l') l' m' l) hl'.third.1 hm'.1 hl'.third.2 hl.2
    exact eq_of_sub ((mul_eq_zero e).resolve_left (sub_ne hV))
  obtain ⟨e1, e2⟩ := main (u := sx P.1 R.1 l') (v := sy P.1 P.2 R.1 l') (l' := l') (m' := m') (s := sx P.1 (sx P.1 R.1 l') m') (t := sy P.1 P.2 (sx P.1 R.1 l') m') hb oP oR hl hm T2 (fn1 hl'.third)
    (fn1 hl'.third')
    (fn2 hm'.third') ((sx_symm _ _ _).trans ((i_S P.1 R.1 P.1 l' m').trans (i_perm _ _ _ _))) h1 h1
  exact Prod.ext e1 e2

/-- Three that differ. -/
theorem assoc_three {P Q R : F × F} (oP : OnF b P) (oQ : OnF b Q) (oR : OnF b R) (h0 : Q.1 ≠ P.1) (h1 : R.1 ≠ P.1) (h2 : R.1 ≠ Q.1) {l m l' m' : F} (hl : LnP P Q l) (hm : LnP (sx P.1 Q.1 l, sy P.1 P.2 Q.1 l) R m) (hl' : LnP Q R l') (hm' : LnP P (sx Q.1 R.1 l', sy Q.1 Q.2 R.1 l') m') :
    padd (padd P Q) R = padd P (padd Q R) := by
  rw [padd_ln hb oP oQ hl, padd_ln hb oQ oR hl', padd_ln hb (hl.sum_on oP) oR hm, padd_ln hb oP (hl'.sum_on oQ) hm']
  have f2P : fn (sx Q.1 R.1 l') (sy Q.1 Q.2 R.1 l') l' m' P.1 P.2 = 0 := fn2 hm'.symm
  have f2Q : fn (sx Q.1 R.1 l') (sy Q.1 Q.2 R.1 l') l' m' Q.1 Q.2 = 0 := fn1 hl'.third
  have T2 : P.1 + Q.1 + (sx Q.1 R.1 l' + l' * m') = (l' + m') * l := by
    have e := lc3 _ _ _ (i_t2 P.1 Q.1 (sx Q.1 R.1 l' + l' * m') (l' + m') l P.2 Q.2 _) f2Q f2P hl.1
    exact eq_of_sub ((mul_eq_zero e).resolve_left (sub_ne h0))
  obtain ⟨e1, e2⟩ := main (u := sx Q.1 R.1 l') (v := sy Q.1 Q.2 R.1 l') (l' := l') (m' := m') (s := sx P.1 (sx Q.1 R.1 l') m') (t := sy P.1 P.2 (sx Q.1 R.1 l') m') hb oP oR hl hm T2 f2P
    (fn1 hl'.third')
    (fn2 hm'.third') ((sx_symm _ _ _).trans ((i_S Q.1 R.1 P.1 l' m').trans (i_perm2 _ _ _ _ _))) h1 h2
  exact Prod.ext e1 e2

theorem pneg_add {P Q : F × F} (oP : OnP b P) (oQ : OnP b Q) : pneg (padd P Q) = padd (pneg P) (pneg Q) := by
  rcases oP with rfl | oP
  · rw [O_add, pneg_O, O_add]
  · rcases oQ with rfl | oQ
    · rw [add_O, pneg_O, add_O]
    · rcases ln_or oP oQ with rfl | ⟨l, h⟩
      · rw [add_neg_self, pneg_pneg, neg_add_self, pneg_O]
      · have hn : LnP (pneg P) (pneg Q) (-l) := ⟨lc1 _ (i_m1 P.1 P.2 Q.1 Q.2 l) h.1, lc1 _ (i_m2 P.1 P.2 Q.1 Q.2 l) h.2⟩
        rw [padd_ln hb oP oQ h, padd_ln hb (pneg_on oP) (pneg_on oQ) hn]
        exact Prod.ext (i_m3 P.1 Q.1 l) (i_m4 P.1 P.2 Q.1 l)

theorem cancel' {P Q : F × F} (oP : OnP b P) (oQ : OnP b Q) : padd (padd P Q) (pneg Q) = P := by
  rw [padd_comm hb (padd_on hb oP oQ) (pneg_onP oQ), padd_comm hb oP oQ, cancel hb oQ oP]

/-- If P + Q = -R, then Q + R = -P. -/
theorem turn {P Q R : F × F} (oP : OnP b P) (oQ : OnP b Q) (h : R = pneg (padd P Q)) : padd Q R = pneg P := by
  rw [h, pneg_add hb oP oQ, padd_comm hb (pneg_onP oP) (pneg_onP oQ)]
  have := cancel hb (pneg_onP oQ) (pneg_onP oP)
  rwa [pneg_pneg] at this

omit hb in
theorem x_ne {P Q : F × F} (oP : OnF b P) (oQ : OnF b Q) (h1 : Q ≠ P) (h2 : Q ≠ pneg P) : Q.1 ≠ P.1 := by
  intro e
  have oP' : P.2 * P.2 = P.1 * P.1 * P.1 + b := oP
  have oQ' : Q.2 * Q.2 = Q.1 * Q.1 * Q.1 + b := oQ
  have : (Q.2 - P.2) * (Q.2 + P.2) = 0 := by rw [i_dsq, oP', oQ', e, sub_self]
  rcases mul_eq_zero this with h | h
  · exact h1 (Prod.ext e (eq_of_sub h))
  · exact h2 (Prod.ext e (neg_eq (by rw [add_comm]; exact h)).symm)

theorem padd_assoc {P Q R : F × F} (oP : OnP b P) (oQ : OnP b Q) (oR : OnP b R) : padd (padd P Q) R = padd P (padd Q R) := by
  have oPQ := padd_on hb oP oQ
  have oQR := padd_on hb oQ oR
  by_cases c1 : Q = pneg P
  · have : padd P (padd (pneg P) R) = R := by
      have := cancel hb (pneg_onP oP) oR
      rwa [pneg_pneg] at this
    rw [c1, add_neg_self, O_add, this]
  by_cases c2 : R = pneg Q
  · rw [c2, add_neg_self, add_O, cancel' hb oP oQ]
  by_cases c3 : R = P
  · rw [c3, padd_comm hb oPQ oP, padd_comm hb oP oQ]
  by_cases c4 : R = pneg P
  · have e : padd P (padd Q (pneg P)) = Q := by
      rw [padd_comm hb oQ (pneg_onP oP)]
      have := cancel hb (pneg_onP oP) oQ
      rwa [pneg_pneg] at this
    rw [c4, e, padd_comm hb oP oQ, cancel' hb oQ oP]
  by_cases c5 : R = pneg (padd P Q)
  · rw [turn hb oP oQ c5, add_neg_self]
    rw [c5, add_neg_self]
  by_cases c6 : padd Q R = pneg P
  · rw [c6, add_neg_self]
    have h1 : P = pneg (padd Q R) := by rw [c6, pneg_pneg]
    have h2 := turn hb oQ oR h1
    have h3 : padd R P = pneg Q := h2
    have h4 : Q = pneg (padd R P) := by rw [h3, pneg_pneg]
    have h5 := turn hb oR oP h4
    rw [h5, neg_add_self]
  rcases oP with rfl | oP
  · rw [O_add, O_add]
  rcases oQ with rfl | oQ
  · rw [O_add, add_O]
  rcases oR with rfl | oR
  · rw [add_O, add_O]
  obtain ⟨l, hl⟩ := (ln_or oP oQ).resolve_left c1
  obtain ⟨l', hl'⟩ := (ln_or oQ oR).resolve_left c2
  have eU := padd_ln hb oP oQ hl
  have eV := padd_ln hb oQ oR hl'
  have oU : OnF b (padd P Q) := by rw [eU]; exact hl.sum_on oP
  have oV : OnF b (padd Q R) := by rw [eV]; exact hl'.sum_on oQ
  obtain ⟨m, hm⟩ := (ln_or oU oR).resolve_left c5
  obtain ⟨m', hm'⟩ := (ln_or oP oV).resolve_left c6
  rw [eU] at hm
  rw [eV] at hm'
  have n1 : R.1 ≠ P.1 := x_ne oP oR c3 c4
  by_cases c7 : Q = P
  · subst c7
    exact assoc_two hb oP oR n1 hl hm hl' hm'
  by_cases c8 : R = Q
  · subst c8
    have k := hl.symm
    rw [padd_comm hb oPQ (.inr oR), padd_comm hb (.inr oP) (.inr oR), padd_comm hb (.inr oP) oQR]
    have n2 : P.1 ≠ R.1 := fun e => n1 e.symm
    refine (assoc_two hb oR oP n2 (m := m') (m' := m) hl' hm'.symm k ?_).symm
    have hm := hm.symm
    rw [sx_symm P.1, sy_symm hl] at hm
    exact hm
  exact assoc_three hb oP oQ oR (x_ne oP oQ c7 c1) n1 (x_ne oQ oR c8 c2) hl hm hl' hm'
end
end Cr
