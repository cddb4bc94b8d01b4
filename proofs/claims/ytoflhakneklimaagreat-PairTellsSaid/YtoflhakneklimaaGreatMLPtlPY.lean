/- pairing: values of pairs of multiples of the generators. -/
import Derived.Test.YtoflhakneklimaaGreatMLPtlPX
/- pairing: the loop of one pair, against lines laid over one another. -/
namespace Cr
open Rg
theorem tl_a {F : Type} [Rg F] (x y z l : F) : (x * (z * z) * (x * (z * z)) + x * (z * z) * (x * (z * z)) + x * (z * z) * (x * (z * z))) * (x * (z * z)) - (y * (z * (z * z)) * (y * (z * (z * z))) + y * (z * (z * z)) * (y * (z * (z * z)))) - (y * (z * (z * z)) * z + y * (z * (z * z)) * z) * (z * z) * (l * x - y) = (-(z * z * z * z * z * z * x)) * (l * (y + y) - (x * x + x * x + x * x)) :=
  rid [x, y, z, l] ((fun (x y z l : PE) => ((x * (z * z) * (x * (z * z)) + x * (z * z) * (x * (z * z)) + x * (z * z) * (x * (z * z))) * (x * (z * z)) - (y * (z * (z * z)) * (y * (z * (z * z))) + y * (z * (z * z)) * (y * (z * (z * z)))) - (y * (z * (z * z)) * z + y * (z * (z * z)) * z) * (z * z) * (l * x - y))) (.v 0) (.v 1) (.v 2) (.v 3)) ((fun (x y z l : PE) => ((-(z * z * z * z * z * z * x)) * (l * (y + y) - (x * x + x * x + x * x)))) (.v 0) (.v 1) (.v 2) (.v 3)) (by kernel_rfl)
theorem tl_b {F : Type} [Rg F] (x y z l : F) : (x * (z * z) * (x * (z * z)) + x * (z * z) * (x * (z * z)) + x * (z * z) * (x * (z * z))) * (z * z) - (y * (z * (z * z)) * z + y * (z * (z * z)) * z) * (z * z) * l = (-(z * z * z * z * z * z)) * (l * (y + y) - (x * x + x * x + x * x)) :=
  rid [x, y, z, l] ((fun (x y z l : PE) => ((x * (z * z) * (x * (z * z)) + x * (z * z) * (x * (z * z)) + x * (z * z) * (x * (z * z))) * (z * z) - (y * (z * (z * z)) * z + y * (z * (z * z)) * z) * (z * z) * l)) (.v 0) (.v 1) (.v 2) (.v 3)) ((fun (x y z l : PE) => ((-(z * z * z * z * z * z)) * (l * (y + y) - (x * x + x * x + x * x)))) (.v 0) (.v 1) (.v 2) (.v 3)) (by kernel_rfl)
theorem cl_b {F : Type} [Rg F] (x y z u v l : F) : v * (z * z * z) - y * (z * (z * z)) - z * (u * (z * z) - x * (z * z)) * l = (-(z * z * z)) * (l * (u - x) - (v - y)) :=
  rid [x, y, z, u, v, l] ((fun (x y z u v l : PE) => (v * (z * z * z) - y * (z * (z * z)) - z * (u * (z * z) - x * (z * z)) * l)) (.v 0) (.v 1) (.v 2) (.v 3) (.v 4) (.v 5)) ((fun (x y z u v l : PE) => ((-(z * z * z)) * (l * (u - x) - (v - y)))) (.v 0) (.v 1) (.v 2) (.v 3) (.v 4) (.v 5)) (by kernel_rfl)
theorem cl_a {F : Type} [Rg F] (d l u v : F) : d * l * u - d * v = d * (l * u - v) :=
  rid [d, l, u, v] ((fun (d l u v : PE) => (d * l * u - d * v)) (.v 0) (.v 1) (.v 2) (.v 3)) ((fun (d l u v : PE) => (d * (l * u - v))) (.v 0) (.v 1) (.v 2) (.v 3)) (by kernel_rfl)
theorem cl_w {F : Type} [Rg F] (x u z : F) : u * (z * z) - x * (z * z) = (u - x) * (z * z) :=
  rid [x, u, z] ((fun (x u z : PE) => (u * (z * z) - x * (z * z))) (.v 0) (.v 1) (.v 2)) ((fun (x u z : PE) => ((u - x) * (z * z))) (.v 0) (.v 1) (.v 2)) (by kernel_rfl)
theorem tj_x {F : Type} [Rg F] (x y s : F) : s * s - (x * (y * y) + x * (y * y) + (x * (y * y) + x * (y * y)) + (x * (y * y) + x * (y * y) + (x * (y * y) + x * (y * y)))) = s * s - (x * (y * y) + x * (y * y) + (x * (y * y) + x * (y * y))) - (x * (y * y) + x * (y * y) + (x * (y * y) + x * (y * y))) :=
  rid [x, y, s] ((fun (x y s : PE) => (s * s - (x * (y * y) + x * (y * y) + (x * (y * y) + x * (y * y)) + (x * (y * y) + x * (y * y) + (x * (y * y) + x * (y * y)))))) (.v 0) (.v 1) (.v 2)) ((fun (x y s : PE) => (s * s - (x * (y * y) + x * (y * y) + (x * (y * y) + x * (y * y))) - (x * (y * y) + x * (y * y) + (x * (y * y) + x * (y * y))))) (.v 0) (.v 1) (.v 2)) (by kernel_rfl)
theorem tj_y {F : Type} [Rg F] (y s f x : F) : s * (f - x) - (y * y * (y * y) + y * y * (y * y) + (y * y * (y * y) + y * y * (y * y)) + (y * y * (y * y) + y * y * (y * y) + (y * y * (y * y) + y * y * (y * y)))) = s * (f - x) - (y * y + y * y) * (y * y + y * y) - (y * y + y * y) * (y * y + y * y) :=
  rid [y, s, f, x] ((fun (y s f x : PE) => (s * (f - x) - (y * y * (y * y) + y * y * (y * y) + (y * y * (y * y) + y * y * (y * y)) + (y * y * (y * y) + y * y * (y * y) + (y * y * (y * y) + y * y * (y * y)))))) (.v 0) (.v 1) (.v 2) (.v 3)) ((fun (y s f x : PE) => (s * (f - x) - (y * y + y * y) * (y * y + y * y) - (y * y + y * y) * (y * y + y * y))) (.v 0) (.v 1) (.v 2) (.v 3)) (by kernel_rfl)
theorem pj_w {F : Type} [Rg F] (q x z : F) : q * (z * z) - x * (1 * 1) = q * (z * z) - x :=
  rid [q, x, z] ((fun (q x z : PE) => (q * (z * z) - x * (1 * 1))) (.v 0) (.v 1) (.v 2)) ((fun (q x z : PE) => (q * (z * z) - x)) (.v 0) (.v 1) (.v 2)) (by kernel_rfl)
theorem pj_h {F : Type} [Rg F] (q y z : F) : q * (z * z) * z - y * (1 * 1) * 1 = q * (z * z * z) - y :=
  rid [q, y, z] ((fun (q y z : PE) => (q * (z * z) * z - y * (1 * 1) * 1)) (.v 0) (.v 1) (.v 2)) ((fun (q y z : PE) => (q * (z * z * z) - y)) (.v 0) (.v 1) (.v 2)) (by kernel_rfl)
theorem pj_x {F : Type} [Rg F] (h w x : F) : h * h - w * w * w - x * (1 * 1) * (w * w) - x * (1 * 1) * (w * w) = h * h - w * w * w - (x * (w * w) + x * (w * w)) :=
  rid [h, w, x] ((fun (h w x : PE) => (h * h - w * w * w - x * (1 * 1) * (w * w) - x * (1 * 1) * (w * w))) (.v 0) (.v 1) (.v 2)) ((fun (h w x : PE) => (h * h - w * w * w - (x * (w * w) + x * (w * w)))) (.v 0) (.v 1) (.v 2)) (by kernel_rfl)
theorem pj_y {F : Type} [Rg F] (h w x y t : F) : h * (x * (1 * 1) * (w * w) - t) - y * (1 * 1) * 1 * (w * w * w) = h * (x * (w * w) - t) - y * (w * w * w) :=
  rid [h, w, x, y, t] ((fun (h w x y t : PE) => (h * (x * (1 * 1) * (w * w) - t) - y * (1 * 1) * 1 * (w * w * w))) (.v 0) (.v 1) (.v 2) (.v 3) (.v 4)) ((fun (h w x y t : PE) => (h * (x * (w * w) - t) - y * (w * w * w))) (.v 0) (.v 1) (.v 2) (.v 3) (.v 4)) (by kernel_rfl)
theorem pj_z {F : Type} [Rg F] (z w : F) : z * 1 * w = z * w :=
  rid [z, w] ((fun (z w : PE) => (z * 1 * w)) (.v 0) (.v 1)) ((fun (z w : PE) => (z * w)) (.v 0) (.v 1)) (by kernel_rfl)
theorem up_l1 {F : Type} [Rg F] (D w i y l px py x : F) : D * (w * (w * w)) * (py - (y * (i * i * i) + l * i * (px - x * (i * i)))) = D * py * (w * w * w) - D * y * (w * i * (w * i) * (w * i)) - D * l * (w * i) * (w * w) * px + D * l * x * (w * i * (w * i) * (w * i)) :=
  rid [D, w, i, y, l, px, py, x] ((fun (D w i y l px py x : PE) => (D * (w * (w * w)) * (py - (y * (i * i * i) + l * i * (px - x * (i * i)))))) (.v 0) (.v 1) (.v 2) (.v 3) (.v 4) (.v 5) (.v 6) (.v 7)) ((fun (D w i y l px py x : PE) => (D * py * (w * w * w) - D * y * (w * i * (w * i) * (w * i)) - D * l * (w * i) * (w * w) * px + D * l * x * (w * i * (w * i) * (w * i)))) (.v 0) (.v 1) (.v 2) (.v 3) (.v 4) (.v 5) (.v 6) (.v 7)) (by kernel_rfl)
theorem up_l2 {F : Type} [Rg F] (D w y l px py x : F) : D * (l * x - y) + w * (w * (-(D * l * px) + w * (D * py))) = D * py * (w * w * w) - D * y * (1 * 1 * 1) - D * l * 1 * (w * w) * px + D * l * x * (1 * 1 * 1) :=
  rid [D, w, y, l, px, py, x] ((fun (D w y l px py x : PE) => (D * (l * x - y) + w * (w * (-(D * l * px) + w * (D * py))))) (.v 0) (.v 1) (.v 2) (.v 3) (.v 4) (.v 5) (.v 6)) ((fun (D w y l px py x : PE) => (D * py * (w * w * w) - D * y * (1 * 1 * 1) - D * l * 1 * (w * w) * px + D * l * x * (1 * 1 * 1))) (.v 0) (.v 1) (.v 2) (.v 3) (.v 4) (.v 5) (.v 6)) (by kernel_rfl)
theorem pm_1 {F : Type} [Rg F] (a b c d : F) : a * b * (c * d) = a * c * (b * d) :=
  rid [a, b, c, d] ((fun (a b c d : PE) => (a * b * (c * d))) (.v 0) (.v 1) (.v 2) (.v 3)) ((fun (a b c d : PE) => (a * c * (b * d))) (.v 0) (.v 1) (.v 2) (.v 3)) (by kernel_rfl)
theorem pm_2 {F : Type} [Rg F] (f a b : F) : f * a * b = f * (a * b) :=
  rid [f, a, b] ((fun (f a b : PE) => (f * a * b)) (.v 0) (.v 1) (.v 2)) ((fun (f a b : PE) => (f * (a * b))) (.v 0) (.v 1) (.v 2)) (by kernel_rfl)
theorem pm_3 {F : Type} [Rg F] (f a l : F) : f * f * (a * a * l) = f * a * (f * a) * l :=
  rid [f, a, l] ((fun (f a l : PE) => (f * f * (a * a * l))) (.v 0) (.v 1) (.v 2)) ((fun (f a l : PE) => (f * a * (f * a) * l)) (.v 0) (.v 1) (.v 2)) (by kernel_rfl)
end Cr
namespace Go.Proofs.YtoflhakneklimaaGreat.pairing
set_option maxRecDepth 100000
open Go Go.Eng Go.RowKit Cr Go.Proofs.YtoflhakneklimaaGreat Go.Proofs.YtoflhakneklimaaGreat.fp2 Go.Proofs.YtoflhakneklimaaGreat.tower

theorem sk_e0 (x : F2) (k : Fp) : sk x k = x * e0 k := by
  rw [F2.mul_def]
  refine F2.ext ?_ ?_
  · show x.1 * k = x.1 * k - x.2 * 0
    rw [Rg.mul_zero, sub_z]
  · show x.2 * k = x.1 * 0 + x.2 * k
    rw [Rg.mul_zero, Rg.zero_add]
/-- A line's number is its value at untwisted places, but for a factor. -/
theorem ln12 (D l x y : F2) (P : Fp × Fp) : line12 (D * (l * x - y)) (-(sk (D * l) P.1)) (sk D P.2) = e2 D * (ww * (ww * ww)) * lv (tws e2 wi (x, y)) (e2 l * wi) (hmp e1 P) := by
  rw [line12_ww, sk_e0, sk_e0, hm_e2.mul, hm_e2.sub, hm_e2.mul, hm_e2.neg, hm_e2.mul, hm_e2.mul, hm_e2.mul]
  show e2 D * (e2 l * e2 x - e2 y) + ww * (ww * (-(e2 D * e2 l * e1 P.1) + ww * (e2 D * e1 P.2))) = e2 D * (ww * (ww * ww)) * (e1 P.2 - (e2 y * (wi * wi * wi) + e2 l * wi * (e1 P.1 - e2 x * (wi * wi))))
  rw [up_l1, ww_wi]
  exact up_l2 _ _ _ _ _ _ _
section
variable {b : F2} (hb : b ≠ 0)
include hb
theorem tw_rep {T : F2 × F2 × F2} {t : F2 × F2} (h : Rep b T t) (hz : T.2.2 ≠ 0) (P : Fp × Fp) : Rep b (twF T P).1 (padd t t) := by
  have e : (twF T P).1 = jdbl T := by
    unfold jdbl
    rw [if_neg hz]
    unfold jdbN jdX
    refine Prod.ext ?_ (Prod.ext ?_ rfl)
    · exact tj_x T.1 T.2.1 _
    · refine Eq.trans ?_ (tj_y T.2.1 _ _ _)
      show _ * (_ - (_ - _)) - _ = _
      rw [tj_x T.1 T.2.1]
  rw [e]; exact rep_dbl hb h
theorem pl_rep {T : F2 × F2 × F2} {t q : F2 × F2} (h : Rep b T t) (hz : T.2.2 ≠ 0) (oq : OnF b q) (hw : q.1 * (T.2.2 * T.2.2) - T.1 ≠ 0) (P : Fp × Fp) : Rep b (plF T q P).1 (padd t q) := by
  have k : Rep b ((q.1, q.2, (1 : F2)) : Jc F2) q := .inr ⟨Fd.one_ne, by show q.1 = q.1 * (1 * 1); rw [Rg.mul_one, Rg.mul_one], by show q.2 = q.2 * (1 * (1 * 1)); rw [Rg.mul_one, Rg.mul_one, Rg.mul_one], oq⟩
  have e : (plF T q P).1 = jadd T (q.1, q.2, 1) := by
    unfold jadd
    rw [if_neg hz, if_neg (show ¬ (1 : F2) = 0 from Fd.one_ne)]
    show _ = (if q.1 * (T.2.2 * T.2.2) - T.1 * (1 * 1) = 0 then _ else jfin (q.1 * (T.2.2 * T.2.2) - T.1 * (1 * 1)) (q.2 * (T.2.2 * T.2.2) * T.2.2 - T.2.1 * (1 * 1) * 1) (T.1 * (1 * 1)) (T.2.1 * (1 * 1) * 1) T.2.2 1)
    rw [pj_w, pj_h, if_neg hw]
    unfold jfin jaX
    refine Prod.ext (pj_x _ _ _).symm (Prod.ext ?_ (pj_z _ _).symm)
    rw [pj_x, pj_y]; rfl
  rw [e]; exact rep_add hb h k
omit hb in
/-- The tangent. -/
theorem tw_ln {T : F2 × F2 × F2} {t : F2 × F2} (h : Rep b T t) (hz : T.2.2 ≠ 0) {l : F2} (hl : LnP t t l) (P : Fp × Fp) :
    line12 (twF T P).2.1 (twF T P).2.2.1 (twF T P).2.2.2 = e2 ((T.2.1 * T.2.2 + T.2.1 * T.2.2) * (T.2.2 * T.2.2)) * (ww * (ww * ww)) * lv (tws e2 wi t) (e2 l * wi) (hmp e1 P) := by
  obtain ⟨_, e1', e2', _⟩ := h.resolve_left (fun e => hz e.1)
  obtain ⟨X, Y, Z⟩ := T
  obtain ⟨x, y⟩ := t
  simp only at e1' e2' ⊢
  subst e1' e2'
  have h1 := lc1 _ (tl_a x y Z l) hl.2
  have h2 := lc1 _ (tl_b x y Z l) hl.2
  rw [← ln12, ← h1, ← h2]; rfl
omit hb in
/-- The chord. -/
theorem pl_ln {T : F2 × F2 × F2} {t q : F2 × F2} (h : Rep b T t) (hz : T.2.2 ≠ 0) {l : F2} (hl : LnP t q l) (P : Fp × Fp) :
    line12 (plF T q P).2.1 (plF T q P).2.2.1 (plF T q P).2.2.2 = e2 (T.2.2 * (q.1 * (T.2.2 * T.2.2) - T.1)) * (ww * (ww * ww)) * lv (tws e2 wi t) (e2 l * wi) (hmp e1 P) := by
  obtain ⟨_, e1', e2', _⟩ := h.resolve_left (fun e => hz e.1)
  obtain ⟨X, Y, Z⟩ := T
  obtain ⟨x, y⟩ := t
  obtain ⟨u, v⟩ := q
  simp only at e1' e2' ⊢
  subst e1' e2'
  have h2 := lc1 _ (cl_b x y Z u v l) hl.1
  have h3 : lv (tws e2 wi (x, y)) (e2 l * wi) (hmp e1 P) = lv (tws e2 wi (u, v)) (e2 l * wi) (hmp e1 P) := lv_symm (tws_ln hm_e2 hl) _
  rw [h3, ← ln12, ← cl_a, ← h2]; rfl
end

/-! The loop of one pair. -/
/-- One bit of one pair. -/
noncomputable def sgS (b : Bool) (s : F12 × Pr) : F12 × Pr := (s.1 * s.1 * (stF b 1 s.2).1, (stF b 1 s.2).2)
noncomputable def sg (k : Pr) (l : List Bool) : F12 × Pr := l.foldl (fun s b => sgS b s) (1, k)
section
variable {N p u r : Nat} (L : LastP N p u r) {b1 : Fp} {b2 : F2} (hb1 : b1 ≠ 0) (hb2 : b2 ≠ 0) (hns : ∀ y : F2, y * y = b2 → False) (he : b2 = e0 b1 * xi)
theorem kil_line {c : F2} (hc : c ≠ 0) (x : F12) : (kil L).χ (e2 c * (ww * (ww * ww)) * x) = (kil L).χ x := by rw [(kil L).mul, kil_fac L hc, Rg.one_mul]
include hb1 hb2 he
theorem sg_key {P : Fp × Fp} {Q : F2 × F2} (oQ : OnF b2 Q) (l : List Bool) : ∀ m, 0 < m → (∀ k, 0 < k → k ≤ bval l m → nmul Q k ≠ O2) → ∀ (f : F12) (T : F2 × F2 × F2) (g : F12), Rep b2 T (nmul Q m) → (kil L).χ f = (kil L).χ g →
    (kil L).χ (l.foldl (fun s b => sgS b s) (f, (P, (Q, T)))).1 = (kil L).χ (l.foldl (mlS (tws e2 wi Q) (hmp e1 P)) (g, tws e2 wi (nmul Q m))).1 := by
  have hB12 := bb_ne hb1
  have oQ' : OnP b2 Q := .inr oQ
  have on' := tws_on hm_e2 (bb_2 he) (A := Q) oQ
  -- the tangent
  have dbl : ∀ (m : Nat), 0 < m → nmul Q m ≠ O2 → nmul Q (m + m) ≠ O2 → ∀ (f : F12) (T : F2 × F2 × F2) (g : F12), Rep b2 T (nmul Q m) → (kil L).χ f = (kil L).χ g →
      Rep b2 (twF T P).1 (nmul Q (m + m)) ∧ (kil L).χ (f * f * line12 (twF T P).2.1 (twF T P).2.2.1 (twF T P).2.2.2) = (kil L).χ (g * g * Lt (tws e2 wi (nmul Q m)) (tws e2 wi (nmul Q m)) (hmp e1 P)) := by
    intro m hm n1 n2 f T g hT hf
    have hz : T.2.2 ≠ 0 := by
      rcases hT with ⟨_, e⟩ | ⟨h, _⟩
      · exact absurd e n1
      · exact h
    have ot : OnF b2 (nmul Q m) := (nmul_on hb2 oQ' m).resolve_left n1
    have hd : nmul Q (m + m) = padd (nmul Q m) (nmul Q m) := nmul_add hb2 oQ' m m
    have hr := tw_rep hb2 hT hz P
    rw [← hd] at hr
    refine ⟨hr, ?_⟩
    have hnn : ¬ nmul Q m = pneg (nmul Q m) := by
      intro e
      refine n2 ?_
      have h0 := add_neg_self (nmul Q m)
      rw [← e] at h0
      rw [hd]; exact h0
    obtain ⟨l, hl⟩ := (ln_or ot ot).resolve_left hnn
    have hz2 : (twF T P).1.2.2 ≠ 0 := by
      rcases hr with ⟨_, e⟩ | ⟨h, _⟩
      · exact absurd e n2
      · exact h
    have hD : (T.2.1 * T.2.2 + T.2.1 * T.2.2) * (T.2.2 * T.2.2) ≠ 0 := Fd.mul_ne hz2 (Fd.mul_ne hz hz)
    have oA := tws_on hm_e2 (bb_2 he) ot
    rw [tw_ln hT hz hl P, Lt_ln hB12 oA oA (tws_ln hm_e2 hl), (kil L).mul (f * f), kil_line L hD, (kil L).mul (g * g), (kil L).mul f f, (kil L).mul g g, hf]
  have add : ∀ (m : Nat), 0 < m → nmul Q m ≠ O2 → nmul Q (m + 1) ≠ O2 → nmul Q m ≠ Q → ∀ (f : F12) (T : F2 × F2 × F2) (g : F12), Rep b2 T (nmul Q m) → (kil L).χ f = (kil L).χ g →
      Rep b2 (plF T Q P).1 (nmul Q (m + 1)) ∧ (kil L).χ (f * line12 (plF T Q P).2.1 (plF T Q P).2.2.1 (plF T Q P).2.2.2) = (kil L).χ (g * Lt (tws e2 wi (nmul Q m)) (tws e2 wi Q) (hmp e1 P)) := by
    intro m hm n1 n2 n3 f T g hT hf
    have hz : T.2.2 ≠ 0 := by
      rcases hT with ⟨_, e⟩ | ⟨h, _⟩
      · exact absurd e n1
      · exact h
    have ot : OnF b2 (nmul Q m) := (nmul_on hb2 oQ' m).resolve_left n1
    have n4 : Q ≠ pneg (nmul Q m) := by
      intro e
      refine n2 ?_
      have h0 := add_neg_self (nmul Q m)
      rw [← e] at h0
      exact h0
    have hx : Q.1 ≠ (nmul Q m).1 := x_ne ot oQ (fun e => n3 e.symm) n4
    have hw : Q.1 * (T.2.2 * T.2.2) - T.1 ≠ 0 := by
      obtain ⟨_, e, _⟩ := hT.resolve_left (fun e => hz e.1)
      rw [e, cl_w]
      exact Fd.mul_ne (Fd.sub_ne hx) (Fd.mul_ne hz hz)
    refine ⟨pl_rep hb2 hT hz oQ hw P, ?_⟩
    obtain ⟨l, hl⟩ := (ln_or ot oQ).resolve_left n4
    have hD : T.2.2 * (Q.1 * (T.2.2 * T.2.2) - T.1) ≠ 0 := Fd.mul_ne hz hw
    rw [pl_ln hT hz hl P, Lt_ln hB12 (tws_on hm_e2 (bb_2 he) ot) on' (tws_ln hm_e2 hl), (kil L).mul f, kil_line L hD, (kil L).mul g, hf]
  induction l with
  | nil => intro m hm hk f T g hT hf; exact hf
  | cons y l ih =>
    intro m hm hk f T g hT hf
    have hle := bval_le l (bst m y)
    have hk : ∀ k, 0 < k → k ≤ bval l (bst m y) → nmul Q k ≠ O2 := hk
    have ea := tws_add hm_e2 (bb_2 he) hb2 hB12 (nmul_on hb2 oQ' m) (nmul_on hb2 oQ' m)
    rw [← nmul_add hb2 oQ'] at ea
    cases y
    · have hle : m + m ≤ bval l (bst m false) := hle
      obtain ⟨h1, h2⟩ := dbl m hm (hk m hm (by omega)) (hk (m + m) (by omega) (by omega)) f T g hT hf
      have i := ih (m + m) (by omega) hk _ _ _ h1 h2
      have e1 : sgS false (f, (P, (Q, T))) = (f * f * line12 (twF T P).2.1 (twF T P).2.2.1 (twF T P).2.2.2, (P, (Q, (twF T P).1))) := by
        show (f * f * (1 * line12 (two T P).2.1 (two T P).2.2.1 (two T P).2.2.2), (P, (Q, (two T P).1))) = _
        rw [Rg.one_mul, two, opq_eq]
      have e2 : mlS (tws Cr.e2 wi Q) (hmp Cr.e1 P) (g, tws Cr.e2 wi (nmul Q m)) false = (g * g * Lt (tws Cr.e2 wi (nmul Q m)) (tws Cr.e2 wi (nmul Q m)) (hmp Cr.e1 P), tws Cr.e2 wi (nmul Q (m + m))) := by
        rw [ea]; rfl
      rw [List.foldl_cons, List.foldl_cons, e1, e2]
      exact i
    · have hle : m + m + 1 ≤ bval l (bst m true) := hle
      obtain ⟨h1, h2⟩ := dbl m hm (hk m hm (by omega)) (hk (m + m) (by omega) (by omega)) f T g hT hf
      have n3 : nmul Q (m + m) ≠ Q := fun e => by
        obtain ⟨j, hj⟩ : ∃ j, m + m = j + 1 := ⟨m + m - 1, by omega⟩
        have h0 := hk j (by omega) (by omega)
        have oj := nmul_on hb2 oQ' j
        rw [hj] at e
        have e : padd (nmul Q j) Q = Q := e
        have c := cancel' hb2 oj oQ'
        rw [e, add_neg_self] at c
        exact h0 c.symm
      obtain ⟨h3, h4⟩ := add (m + m) (by omega) (hk (m + m) (by omega) (by omega)) (hk (m + m + 1) (by omega) hle) n3 _ _ _ h1 h2
      have i := ih (m + m + 1) (by omega) hk _ _ _ h3 h4
      have eb := tws_add hm_e2 (bb_2 he) hb2 hB12 (nmul_on hb2 oQ' (m + m)) oQ'
      have eb : tws Cr.e2 wi (nmul Q (m + m + 1)) = padd (tws Cr.e2 wi (nmul Q (m + m))) (tws Cr.e2 wi Q) := eb
      have e1 : sgS true (f, (P, (Q, T))) = (f * f * line12 (twF T P).2.1 (twF T P).2.2.1 (twF T P).2.2.2 * line12 (plF (twF T P).1 Q P).2.1 (plF (twF T P).1 Q P).2.2.1 (plF (twF T P).1 Q P).2.2.2, (P, (Q, (plF (twF T P).1 Q P).1))) := by
        show (f * f * (1 * line12 (two T P).2.1 (two T P).2.2.1 (two T P).2.2.2 * line12 (plo (two T P).1 Q P).2.1 (plo (two T P).1 Q P).2.2.1 (plo (two T P).1 Q P).2.2.2), (P, (Q, (plo (two T P).1 Q P).1))) = _
        rw [Rg.one_mul, two, opq_eq, plo, opq_eq, ← Rg.mul_assoc]
      have e2 : mlS (tws Cr.e2 wi Q) (hmp Cr.e1 P) (g, tws Cr.e2 wi (nmul Q m)) true = (g * g * Lt (tws Cr.e2 wi (nmul Q m)) (tws Cr.e2 wi (nmul Q m)) (hmp Cr.e1 P) * Lt (tws Cr.e2 wi (nmul Q (m + m))) (tws Cr.e2 wi Q) (hmp Cr.e1 P), tws Cr.e2 wi (nmul Q (m + m + 1))) := by
        rw [eb, ea]; rfl
      rw [List.foldl_cons, List.foldl_cons, e1, e2]
      exact i
end
end Go.Proofs.YtoflhakneklimaaGreat.pairing
/- pairing: what the product of some pairs computes: the product of their values. -/
namespace Go.Proofs.YtoflhakneklimaaGreat.pairing
set_option maxRecDepth 100000
open Go Go.Eng Go.RowKit Cr Go.Proofs.YtoflhakneklimaaGreat Go.Proofs.YtoflhakneklimaaGreat.fp2 Go.Proofs.YtoflhakneklimaaGreat.tower

noncomputable def prodl : List F12 → F12
  | [] => 1
  | x :: l => x * prodl l
theorem prodl_snoc (x : F12) : ∀ l, prodl (l ++ [x]) = prodl l * x
  | [] => by show x * 1 = 1 * x; rw [Rg.mul_one, Rg.one_mul]
  | y :: l => by show y * prodl (l ++ [x]) = y * prodl l * x; rw [prodl_snoc x l, Rg.mul_assoc]
theorem prodl_sq {α : Type} (X A : α → F12) : ∀ l : List α, prodl (l.map X) * prodl (l.map X) * prodl (l.map A) = prodl (l.map fun k => X k * X k * A k)
  | [] => by show (1 : F12) * 1 * 1 = 1; rw [Rg.one_mul, Rg.one_mul]
  | k :: l => by
    show X k * prodl (l.map X) * (X k * prodl (l.map X)) * (A k * prodl (l.map A)) = X k * X k * A k * prodl (l.map fun k => X k * X k * A k)
    rw [← prodl_sq X A l, pm_1 (X k), pm_1 (X k * X k)]
theorem stF_mul (b : Bool) (f : F12) (k : Pr) : stF b f k = (f * (stF b 1 k).1, (stF b 1 k).2) := by
  cases b
  · refine Prod.ext ?_ rfl
    show f * _ = f * (1 * _)
    rw [Rg.one_mul]
  · refine Prod.ext ?_ rfl
    show f * _ * _ = f * (1 * _ * _)
    rw [Rg.one_mul, pm_2]
theorem set_mid {α : Type} (A B : List α) (x y d : α) : (A ++ x :: B).getD A.length d = x ∧ (A ++ x :: B).set A.length y = A ++ y :: B := by
  constructor
  · simp [List.getD_eq_getElem?_getD]
  · simp
theorem inK_eq (b : Bool) (f : F12) (l : List Pr) : ∀ i, i ≤ l.length → inK b (f, l) i = (f * prodl ((l.take i).map fun k => (stF b 1 k).1), (l.take i).map (fun k => (stF b 1 k).2) ++ l.drop i)
  | 0, _ => by
    show (f, l) = (f * 1, l)
    rw [Rg.mul_one]
  | i + 1, hi => by
    show ((stF b (inK b (f, l) i).1 ((inK b (f, l) i).2.getD i (zeroOf prk))).1, (inK b (f, l) i).2.set i (stF b (inK b (f, l) i).1 ((inK b (f, l) i).2.getD i (zeroOf prk))).2) = _
    rw [inK_eq b f l i (by omega)]
    have hi : i < l.length := hi
    have hd : l.drop i = l[i] :: l.drop (i + 1) := List.drop_eq_getElem_cons hi
    have ht : l.take (i + 1) = l.take i ++ [l[i]] := List.take_succ_eq_append_getElem hi
    have hl : ((l.take i).map (fun k => (stF b 1 k).2)).length = i := by rw [List.length_map, List.length_take]; omega
    obtain ⟨A, hA⟩ : ∃ A, A = (l.take i).map (fun k => (stF b 1 k).2) := ⟨_, rfl⟩
    rw [← hA] at hl ⊢
    have hg : ∀ d : Pr, (A ++ l[i] :: l.drop (i + 1)).getD i d = l[i] := fun d => by
      have := (set_mid A (l.drop (i + 1)) l[i] l[i] d).1
      rwa [hl] at this
    have hs : ∀ y : Pr, (A ++ l[i] :: l.drop (i + 1)).set i y = A ++ y :: l.drop (i + 1) := fun y => by
      have := (set_mid A (l.drop (i + 1)) l[i] y y).2
      rwa [hl] at this
    simp only
    rw [hd, hg, hs, stF_mul, ht, List.map_append, List.map_append, ← hA, List.map_cons, List.map_cons, List.map_nil, List.map_nil, prodl_snoc, Rg.mul_assoc, List.append_assoc]; rfl
/-- The parameter's first bits but the highest. -/
def bls (j : Nat) : List Bool := (List.range j).map fun (j : Nat) => pbit (62 - (j : Int))
theorem sg_succ (k : Pr) (j : Nat) : sg k (bls (j + 1)) = sgS (pbit (62 - (j : Int))) (sg k (bls j)) := by
  unfold sg bls
  rw [List.range_succ, List.map_append, List.foldl_append]; rfl
theorem ouK_eq (l : List Pr) : ∀ j, ouK l j = (prodl (l.map fun k => (sg k (bls j)).1), l.map fun k => (sg k (bls j)).2)
  | 0 => by
    have h1 : ∀ l : List Pr, prodl (l.map fun k => (sg k (bls 0)).1) = 1 := by
      intro l
      induction l with
      | nil => rfl
      | cons k l ih => show 1 * prodl _ = 1; rw [Rg.one_mul]; exact ih
    have h2 : (l.map fun k => (sg k (bls 0)).2) = l := List.map_id l
    rw [h1, h2]; rfl
  | j + 1 => by
    show inK (pbit (62 - (j : Int))) ((ouK l j).1 * (ouK l j).1, (ouK l j).2) l.length = _
    rw [ouK_eq l j]
    obtain ⟨M, hM⟩ : ∃ M, M = (l.map fun k => (sg k (bls j)).2) := ⟨_, rfl⟩
    have hl : l.length = M.length := by rw [hM, List.length_map]
    rw [← hM, hl, inK_eq _ _ _ _ (Nat.le_refl _), List.take_length, List.drop_length, List.append_nil, hM, List.map_map, List.map_map, prodl_sq]
    refine Prod.ext ?_ ?_
    · refine congrArg prodl (List.map_congr_left fun k _ => ?_)
      rw [sg_succ]; rfl
    · refine List.map_congr_left fun k _ => ?_
      rw [sg_succ]; rfl
theorem conj_one : conj12 (1 : F12) = 1 := F12.ext rfl neg_z
theorem liF_eq (ps : List (Fp × Fp)) (qs : List (F2 × F2)) : liF ps qs = cjo (prodl ((prs ps qs ps.length).map fun k => (sg k (bls 63)).1)) := by
  rw [liF]
  cases h : prs ps qs ps.length with
  | nil => show (1 : F12) = cjo 1; rw [cjo, opq_eq, conj_one]
  | cons k l =>
    show cjo (ouK (k :: l) 63).1 = _
    rw [ouK_eq]
section
variable {N p u r : Nat} (L : LastP N p u r) {b1 : Fp} {b2 : F2} (hb1 : b1 ≠ 0) (hb2 : b2 ≠ 0) (hns : ∀ y : F2, y * y = b2 → False) (he : b2 = e0 b1 * xi)
/-- The product of the values of the first pairs. -/
noncomputable def evl (L : LastP N p u r) (bl : List Bool) (ps : List (Fp × Fp)) (qs : List (F2 × F2)) (k : Nat) : F12 := it (fun i x => x * ev L bl (ps.getD i ((0 : Fp), (0 : Fp))) (qs.getD i (((0 : Fp), (0 : Fp)), (0 : Fp), (0 : Fp)))) 1 k
variable (hu : 0 < u) (hbl : bval (bls 63) 1 = u)
include hb1 hb2 hns he hu hbl
omit hns hu in
theorem sg_ev {P : Fp × Fp} {Q : F2 × F2} (nP : P ≠ O2) (nQ : Q ≠ O2) (hQ : GQ p u r b2 Q) : (kil L).χ (sg (P, (Q, (Q.1, Q.2, (1 : F2)))) (bls 63)).1 = ev L (bls 63) P Q := by
  have oQ : OnF b2 Q := hQ.on.resolve_left nQ
  have k : Rep b2 ((Q.1, Q.2, (1 : F2)) : Jc F2) (nmul Q 1) := by
    rw [nmul_one]
    exact .inr ⟨Fd.one_ne, by show Q.1 = Q.1 * (1 * 1); rw [Rg.mul_one, Rg.mul_one], by show Q.2 = Q.2 * (1 * (1 * 1)); rw [Rg.mul_one, Rg.mul_one, Rg.mul_one], oQ⟩
  have h := sg_key L hb1 hb2 he (P := P) oQ (bls 63) 1 Nat.one_pos (fun j h0 h1 => (hQ.small.resolve_left nQ) j h0 (by rw [hbl] at h1; exact h1)) 1 (Q.1, Q.2, (1 : F2)) 1 k rfl
  rw [nmul_one] at h
  unfold ev
  rw [if_neg nP]
  exact h
omit hns in
omit hu in
theorem evl_key {ps : List (Fp × Fp)} {qs : List (F2 × F2)} : ∀ k, (∀ i, i < k → OnP b1 (ps.getD i ((0 : Fp), (0 : Fp)))) → (∀ i, i < k → GQ p u r b2 (qs.getD i (((0 : Fp), (0 : Fp)), (0 : Fp), (0 : Fp)))) →
    (kil L).χ (prodl ((prs ps qs k).map fun k => (sg k (bls 63)).1)) = evl L (bls 63) ps qs k
  | 0, _, _ => (kil L).one
  | k + 1, h1, h2 => by
    have ih := evl_key (ps := ps) (qs := qs) k (fun i hi => h1 i (by omega)) (fun i hi => h2 i (by omega))
    have hP := h1 k (by omega)
    have hQ := h2 k (by omega)
    show (kil L).χ (prodl ((pr1 (ps.getD k ((0 : Fp), (0 : Fp))) (qs.getD k (((0 : Fp), (0 : Fp)), (0 : Fp), (0 : Fp))) (prs ps qs k)).map fun k => (sg k (bls 63)).1)) = evl L (bls 63) ps qs k * ev L (bls 63) (ps.getD k ((0 : Fp), (0 : Fp))) (qs.getD k (((0 : Fp), (0 : Fp)), (0 : Fp), (0 : Fp)))
    obtain ⟨P, eP⟩ : ∃ P, P = ps.getD k ((0 : Fp), (0 : Fp)) := ⟨_, rfl⟩
    obtain ⟨Q, eQ⟩ : ∃ Q, Q = qs.getD k (((0 : Fp), (0 : Fp)), (0 : Fp), (0 : Fp)) := ⟨_, rfl⟩
    rw [← eP] at hP ⊢
    rw [← eQ] at hQ ⊢
    unfold pr1
    by_cases nP : P = O2
    · rw [(eqC_iff (e := pt1) P ((0 : Fp), (0 : Fp))).2 nP, nP, ev_OP, Rg.mul_one]; exact ih
    by_cases nQ : Q = O2
    · rw [(eqC_iff (e := pt2) Q (((0 : Fp), (0 : Fp)), (0 : Fp), (0 : Fp))).2 nQ, nQ, ev_OQ L, Rg.mul_one]
      split
      · rename_i h; cases h
      · exact ih
    · have c1 : eqC pt1 P ((0 : Fp), (0 : Fp)) = false := Bool.eq_false_iff.2 fun h => nP ((eqC_iff (e := pt1) _ _).1 h)
      have c2 : eqC pt2 Q (((0 : Fp), (0 : Fp)), (0 : Fp), (0 : Fp)) = false := Bool.eq_false_iff.2 fun h => nQ ((eqC_iff (e := pt2) _ _).1 h)
      rw [c1, c2]
      show (kil L).χ (prodl ((prs ps qs k ++ [(P, (Q, (Q.1, Q.2, (1 : F2))))]).map fun k => (sg k (bls 63)).1)) = _
      rw [List.map_append, List.map_cons, List.map_nil, prodl_snoc, (kil L).mul, ih, sg_ev L hb1 hb2 he hbl nP nQ hQ]
omit hu in
theorem evl_r {ps : List (Fp × Fp)} {qs : List (F2 × F2)} : ∀ k, (∀ i, i < k → OnP b1 (ps.getD i ((0 : Fp), (0 : Fp)))) → (∀ i, i < k → GQ p u r b2 (qs.getD i (((0 : Fp), (0 : Fp)), (0 : Fp), (0 : Fp)))) → pwn (evl L (bls 63) ps qs k) r = 1
  | 0, _, _ => pwn_one r
  | k + 1, h1, h2 => by
    show pwn (evl L (bls 63) ps qs k * ev L (bls 63) _ _) r = 1
    rw [pwn_prod, evl_r k (fun i hi => h1 i (by omega)) (fun i hi => h2 i (by omega)), ev_r L hb1 hb2 hns he hbl (h1 k (by omega)) (h2 k (by omega)), Rg.one_mul]
omit hu in
/-- What Check and Pair compute. -/
theorem fino_lino {n : Nat} (hr : 0 < r) (h6 : p ^ 6 = n + 1) {v : Nat} (hN : N = finN p n v u) (hv : v = 15132376222941642753) (hu2 : u = 15132376222941642752) {ps : List (Fp × Fp)} {qs : List (F2 × F2)} (h1 : ∀ i, i < ps.length → OnP b1 (ps.getD i ((0 : Fp), (0 : Fp)))) (h2 : ∀ i, i < ps.length → GQ p u r b2 (qs.getD i (((0 : Fp), (0 : Fp)), (0 : Fp), (0 : Fp)))) :
    fino (lino ps qs) = cjo (evl L (bls 63) ps qs ps.length) := by
  have k := evl_key L hb1 hb2 he hbl ps.length h1 h2
  have kr := evl_r L hb1 hb2 hns he hbl ps.length h1 h2
  rw [lino, opq_eq, liF_eq]
  obtain ⟨X, hX⟩ : ∃ X, X = prodl ((prs ps qs ps.length).map fun k => (sg k (bls 63)).1) := ⟨_, rfl⟩
  rw [← hX] at k ⊢
  have nX : X ≠ 0 := by
    intro e
    rw [← k, e] at kr
    have h0 : pwn (pwn (0 : F12) N) r = 1 := kr
    rw [pwn_zr L.pos, pwn_zr hr] at h0
    exact Fd.one_ne h0.symm
  have nC : cjo X ≠ 0 := by rw [cjo_eq L.pp]; exact pwn_ne nX _
  rw [fino_eq L.pp h6 hv hu2 nC, ← hN, ← k, cjo_eq L.pp, cjo_eq L.pp]
  show pwn (pwn X (p ^ 6)) N = pwn (pwn X N) (p ^ 6)
  rw [← pwn_mul, ← pwn_mul, Nat.mul_comm]
end
end Go.Proofs.YtoflhakneklimaaGreat.pairing
/- The second generator's order, by computation. No program here. -/
namespace Cr
open Rg Fd
def addN2 (a b : Nat) : Nat := (a + b) % pN
def subN2 (a b : Nat) : Nat := (a + (pN - b % pN)) % pN
def mulN2 (a b : Nat) : Nat := (a * b) % pN
theorem addN2_φ (a b : Nat) : (zm ((addN2 a b : Nat) : Int) : Fp) = zm (a : Int) + zm (b : Int) := evP1.add_φ a b
theorem subN2_φ (a b : Nat) : (zm ((subN2 a b : Nat) : Int) : Fp) = zm (a : Int) - zm (b : Int) := evP1.sub_φ a b
theorem mulN2_φ (a b : Nat) : (zm ((mulN2 a b : Nat) : Int) : Fp) = zm (a : Int) * zm (b : Int) := evP1.mul_φ a b
noncomputable def evP2 : Ev F2 where
  V := Nat × Nat
  φ n := (zm (n.1 : Int), zm (n.2 : Int))
  add a b := (addN2 a.1 b.1, addN2 a.2 b.2)
  sub a b := (subN2 a.1 b.1, subN2 a.2 b.2)
  mul a b := (subN2 (a.1 * b.1) (a.2 * b.2), addN2 (a.1 * b.2) (a.2 * b.1))
  isz a := Nat.beq (a.1 % pN) 0 && Nat.beq (a.2 % pN) 0
  zero := (0, 0)
  force a k := fc a.1 fun x => fc a.2 fun y => k (x, y)
  add_φ a b := by rw [F2.add_def, addN2_φ, addN2_φ]
  sub_φ a b := by rw [F2.sub_def, subN2_φ, subN2_φ]
  mul_φ a b := by
    rw [F2.mul_def, addN2_φ, subN2_φ]
    simp only [Int.natCast_mul, ← zm_mul]
  isz_φ a := by
    rw [Bool.and_eq_true]
    have h1 := evP1.isz_φ a.1
    have h2 := evP1.isz_φ a.2
    constructor
    · rintro ⟨e1, e2⟩
      exact F2.ext (h1.1 e1) (h2.1 e2)
    · intro e
      exact ⟨h1.2 (congrArg Prod.fst e), h2.2 (congrArg Prod.snd e)⟩
  zero_φ := rfl
  force_eq a k := by rw [fc_eq, fc_eq]
def qxA : Nat := 0x024aa2b2f08f0a91260805272dc51051c6e47ad4fa403b02b4510b647ae3d1770bac0326a805bbefd48056c8c121bdb8
def qxB : Nat := 0x13e02b6052719f607dacd3a088274f65596bd0d09920b61ab5da61bbdc7f5049334cf11213945d57e5ac7d055d042b7e
def qyA : Nat := 0x0ce5d527727d6e118cc9cdc6da2e351aadfd9baa8cbdd3a76d429a695160d12c923ac9cc3baca289e193548608b82801
def qyB : Nat := 0x0606c4a02ea734cc32acd2b02bc28b99cb3e287e85a763af267492ab572e99ab3f370d275cec1da1aaa9075ff05f79be
theorem ord2_z : evP2.isz (evP2.mul2 ((qxA, qxB), (qyA, qyB), ((1 : Nat), (0 : Nat))) 256 52435875175126190479447740508185965837690552500527637822603658699938581184513).2.2 = true := by kernel_rfl
end Cr
/- The field of p^12 by natural numbers. No program here. -/
namespace Cr
open Rg Fd Go.Eng
abbrev V2 := Nat × Nat
abbrev V6 := V2 × V2 × V2
abbrev V12 := V6 × V6
noncomputable def q2 (a : V2) : F2 := evP2.φ a
noncomputable def q6 (a : V6) : F6 := (q2 a.1, q2 a.2.1, q2 a.2.2)
noncomputable def q12 (a : V12) : F12 := (q6 a.1, q6 a.2)
def fo2 {α : Type} (a : V2) (k : V2 → α) : α := fc a.1 fun x => fc a.2 fun y => k (x, y)
theorem fo2_eq {α : Type} (a : V2) (k : V2 → α) : fo2 a k = k a := by rw [fo2, fc_eq, fc_eq]
def fo6 {α : Type} (a : V6) (k : V6 → α) : α := fo2 a.1 fun x => fo2 a.2.1 fun y => fo2 a.2.2 fun z => k (x, y, z)
theorem fo6_eq {α : Type} (a : V6) (k : V6 → α) : fo6 a k = k a := by rw [fo6, fo2_eq, fo2_eq, fo2_eq]
def fo12 {α : Type} (a : V12) (k : V12 → α) : α := fo6 a.1 fun x => fo6 a.2 fun y => k (x, y)
theorem fo12_eq {α : Type} (a : V12) (k : V12 → α) : fo12 a k = k a := by rw [fo12, fo6_eq, fo6_eq]
def vadd (a b : V2) : V2 := (addN2 a.1 b.1, addN2 a.2 b.2)
def vsub (a b : V2) : V2 := (subN2 a.1 b.1, subN2 a.2 b.2)
def vmul (a b : V2) : V2 := (subN2 (a.1 * b.1) (a.2 * b.2), addN2 (a.1 * b.2) (a.2 * b.1))
def vxi (a : V2) : V2 := (subN2 a.1 a.2, addN2 a.1 a.2)
def vneg (a : V2) : V2 := vsub (0, 0) a
def vcj (a : V2) : V2 := (a.1, subN2 0 a.2)
theorem q2_add (a b : V2) : q2 (vadd a b) = q2 a + q2 b := evP2.add_φ a b
theorem q2_sub (a b : V2) : q2 (vsub a b) = q2 a - q2 b := evP2.sub_φ a b
theorem q2_mul (a b : V2) : q2 (vmul a b) = q2 a * q2 b := evP2.mul_φ a b
theorem q2_xi (a : V2) : q2 (vxi a) = xi * q2 a := by
  rw [xi_mul]
  show (zm ((subN2 a.1 a.2 : Nat) : Int), zm ((addN2 a.1 a.2 : Nat) : Int)) = _
  rw [addN2_φ, subN2_φ]; rfl
theorem q2_zero : q2 (0, 0) = 0 := rfl
theorem q2_neg (a : V2) : q2 (vneg a) = -q2 a := by rw [vneg, q2_sub, q2_zero, zero_sub']
theorem q2_cj (a : V2) : q2 (vcj a) = ((q2 a).1, -(q2 a).2) := by
  refine F2.ext rfl ?_
  show (zm ((subN2 0 a.2 : Nat) : Int) : Fp) = -zm (a.2 : Int)
  rw [subN2_φ]
  show (0 : Fp) - _ = _
  rw [zero_sub']
def v6add (x y : V6) : V6 := (vadd x.1 y.1, vadd x.2.1 y.2.1, vadd x.2.2 y.2.2)
def v6sub (x y : V6) : V6 := (vsub x.1 y.1, vsub x.2.1 y.2.1, vsub x.2.2 y.2.2)
def v6vv (x : V6) : V6 := (vxi x.2.2, x.1, x.2.1)
def v6mul (x y : V6) : V6 :=
  fo2 (vmul x.1 y.1) fun a => fo2 (vmul x.2.1 y.2.1) fun b => fo2 (vmul x.2.2 y.2.2) fun c =>
  fo2 (vadd x.2.1 x.2.2) fun s1 => fo2 (vadd y.2.1 y.2.2) fun t1 => fo2 (vadd x.1 x.2.1) fun s2 => fo2 (vadd y.1 y.2.1) fun t2 => fo2 (vadd x.1 x.2.2) fun s3 => fo2 (vadd y.1 y.2.2) fun t3 =>
  fo2 (vsub (vsub (vmul s1 t1) b) c) fun d => fo2 (vsub (vsub (vmul s2 t2) a) b) fun e => fo2 (vsub (vsub (vmul s3 t3) a) c) fun f =>
  (vadd a (vxi d), vadd e (vxi c), vadd f b)
theorem q6_add (x y : V6) : q6 (v6add x y) = q6 x + q6 y := by
  rw [F6.add_def]; simp only [q6, v6add, q2_add]
theorem q6_sub (x y : V6) : q6 (v6sub x y) = q6 x - q6 y := by
  rw [F6.sub_def]; simp only [q6, v6sub, q2_sub]
theorem q6_vv (x : V6) : q6 (v6vv x) = vv * q6 x := by
  rw [vv_mul]; simp only [q6, v6vv, q2_xi]
theorem q6_mul (x y : V6) : q6 (v6mul x y) = q6 x * q6 y := by
  rw [← tw_mul]
  simp only [v6mul, fo2_eq, q6, q2_add, q2_sub, q2_mul, q2_xi]
def v12mul (x y : V12) : V12 :=
  fo6 (v6mul x.1 y.1) fun a => fo6 (v6mul x.2 y.2) fun b => fo6 (v6add x.1 x.2) fun s => fo6 (v6add y.1 y.2) fun t =>
  fo6 (v6mul s t) fun m => fo6 (v6add a (v6vv b)) fun c => fo6 (v6sub (v6sub m a) b) fun d => (c, d)
def v12sq (x : V12) : V12 :=
  fo6 (v6mul x.1 x.2) fun a => fo6 (v6vv a) fun b => fo6 (v6add x.1 x.2) fun s => fo6 (v6add x.1 (v6vv x.2)) fun t =>
  fo6 (v6mul s t) fun m => fo6 (v6sub (v6sub m a) b) fun c => fo6 (v6add a a) fun d => (c, d)
theorem q12_mul (x y : V12) : q12 (v12mul x y) = q12 x * q12 y := by
  rw [← tw_emul]
  simp only [v12mul, fo6_eq, q12, q6_add, q6_sub, q6_mul, q6_vv]
theorem q12_sq (x : V12) : q12 (v12sq x) = q12 x * q12 x := by
  rw [← tw_esq]
  simp only [v12sq, fo6_eq, q12, q6_add, q6_sub, q6_mul, q6_vv]
def v6neg (x : V6) : V6 := v6sub ((0, 0), (0, 0), (0, 0)) x
theorem q6_neg (x : V6) : q6 (v6neg x) = -q6 x := by
  rw [v6neg, q6_sub]
  show (0 : F6) - _ = _
  rw [zero_sub']
def v12cj (x : V12) : V12 := fo6 (v6neg x.2) fun y => (x.1, y)
theorem q12_cj (x : V12) : q12 (v12cj x) = conj12 (q12 x) := by
  simp only [v12cj, fo6_eq, q12, q6_neg]; rfl
def vone : V12 := (((1, 0), (0, 0), (0, 0)), (0, 0), (0, 0), (0, 0))
theorem q12_one : q12 vone = 1 := rfl
/-- Powers: 2 n, 2 n + 1. -/
def v12pw (x : V12) : Nat → Nat → V12
  | 0, _ => vone
  | f + 1, n => match Nat.beq n 0 with
    | true => vone
    | false => fo12 (v12pw x f (n / 2)) fun y => fo12 (v12sq y) fun z => match Nat.beq (n % 2) 1 with
      | true => v12mul z x
      | false => z
theorem q12_pw (x : V12) : ∀ f n, n < 2 ^ f → q12 (v12pw x f n) = pwn (q12 x) n
  | 0, n, h => by
    have : n = 0 := by simp at h; exact h
    subst this; exact q12_one
  | f + 1, n, h => by
    unfold v12pw
    split
    · rename_i hn; have := Nat.eq_of_beq_eq_true hn; subst this; exact q12_one
    · have ih := q12_pw x f (n / 2) (by rw [Nat.pow_succ] at h; omega)
      rw [fo12_eq, fo12_eq]
      split
      · rename_i hn
        have h1 := Nat.eq_of_beq_eq_true hn
        have h2 : n = n / 2 + n / 2 + 1 := by omega
        rw [q12_mul, q12_sq, ih]
        conv => rhs; rw [h2]
        show _ = pwn (q12 x) (n / 2 + n / 2) * q12 x
        rw [pwn_add]
      · rename_i hn
        have h1 : n % 2 ≠ 1 := fun e => by rw [e] at hn; cases hn
        have h2 : n = n / 2 + n / 2 := by omega
        rw [q12_sq, ih]
        conv => rhs; rw [h2]
        rw [pwn_add]
/-- The power p; r is the root. -/
def v12fr (r : V2) (x : V12) : V12 :=
  fo2 (vmul r r) fun r2 => fo2 (vmul r2 r2) fun r4 => fo2 (vmul r2 r) fun r3 => fo2 (vmul r4 r) fun r5 =>
  ((vcj x.1.1, vmul (vcj x.1.2.1) r2, vmul (vcj x.1.2.2) r4), (vmul (vcj x.2.1) r, vmul (vcj x.2.2.1) r3, vmul (vcj x.2.2.2) r5))
end Cr
/- pairing: by computation in natural numbers. -/
namespace Go.Proofs.YtoflhakneklimaaGreat.pairing
set_option maxRecDepth 100000
open Go Go.Eng Go.RowKit Cr Go.Proofs.YtoflhakneklimaaGreat Go.Proofs.YtoflhakneklimaaGreat.fp2 Go.Proofs.YtoflhakneklimaaGreat.tower
def rtN : Nat := 3850754370037169011952147076051364057158807420970682438676050522613628423219637725072182697113062777891589506424760
theorem q12_fr {r : V2} (hr : q2 r = rt1) (x : V12) : q12 (v12fr r x) = frobF (q12 x) := by
  simp only [v12fr, fo2_eq, q12, q6, q2_mul, q2_cj, hr]; rfl
def vsk (a : V2) (k : Nat) : V2 := (mulN2 a.1 k, mulN2 a.2 k)
theorem q2_sk (a : V2) (k : Nat) : q2 (vsk a k) = sk (q2 a) (zm (k : Int)) := by
  show (zm ((mulN2 a.1 k : Nat) : Int), zm ((mulN2 a.2 k : Nat) : Int)) = _
  rw [mulN2_φ, mulN2_φ]; rfl
abbrev V3 := V2 × V2 × V2
noncomputable def q3 (t : V3) : F2 × F2 × F2 := (q2 t.1, q2 t.2.1, q2 t.2.2)
def vtw (t : V3) (px py : Nat) : V3 × V3 :=
  fo2 (vmul t.1 t.1) fun xx => fo2 (vmul t.2.1 t.2.1) fun yy => fo2 (vmul t.2.2 t.2.2) fun zz => fo2 (vadd (vadd xx xx) xx) fun sl =>
  fo2 (vmul yy yy) fun d0 => fo2 (vadd d0 d0) fun d1 => fo2 (vadd d1 d1) fun d2 => fo2 (vadd d2 d2) fun e8 =>
  fo2 (vmul t.1 yy) fun f0 => fo2 (vadd f0 f0) fun f1 => fo2 (vadd f1 f1) fun f4 =>
  fo2 (vsub (vmul sl sl) (vadd f4 f4)) fun x => fo2 (vsub f4 x) fun fx => fo2 (vsub (vmul sl fx) e8) fun y => fo2 (vmul t.2.1 t.2.2) fun z1 => fo2 (vadd z1 z1) fun z =>
  fo2 (vsub (vmul sl t.1) (vadd yy yy)) fun a => fo2 (vmul sl zz) fun b1 => fo2 (vneg (vsk b1 px)) fun b => fo2 (vmul z zz) fun c1 => fo2 (vsk c1 py) fun c =>
  ((x, y, z), (a, b, c))
theorem q_vtw (t : V3) (px py : Nat) : (q3 (vtw t px py).1, q3 (vtw t px py).2) = twF (q3 t) (zm (px : Int), zm (py : Int)) := by
  simp only [vtw, fo2_eq, q3, q2_mul, q2_add, q2_sub, q2_neg, q2_sk]; rfl
def vpl (t : V3) (q : V2 × V2) (px py : Nat) : V3 × V3 :=
  fo2 (vmul t.2.2 t.2.2) fun zz => fo2 (vsub (vmul q.1 zz) t.1) fun wide => fo2 (vmul zz t.2.2) fun z3 => fo2 (vsub (vmul q.2 z3) t.2.1) fun high =>
  fo2 (vmul wide wide) fun square => fo2 (vmul square wide) fun cube => fo2 (vmul t.1 square) fun part =>
  fo2 (vsub (vsub (vmul high high) cube) (vadd part part)) fun x => fo2 (vsub part x) fun fx => fo2 (vsub (vmul high fx) (vmul t.2.1 cube)) fun y => fo2 (vmul t.2.2 wide) fun z =>
  fo2 (vsub (vmul high q.1) (vmul z q.2)) fun a => fo2 (vneg (vsk high px)) fun b => fo2 (vsk z py) fun c =>
  ((x, y, z), (a, b, c))
theorem q_vpl (t : V3) (q : V2 × V2) (px py : Nat) : (q3 (vpl t q px py).1, q3 (vpl t q px py).2) = plF (q3 t) (q2 q.1, q2 q.2) (zm (px : Int), zm (py : Int)) := by
  simp only [vpl, fo2_eq, q3, q2_mul, q2_add, q2_sub, q2_neg, q2_sk]; rfl
def vln (l : V3) : V12 := ((l.1, l.2.1, (0, 0)), ((0, 0), l.2.2, (0, 0)))
theorem q_vln (l : V3) : q12 (vln l) = line12 (q2 l.1) (q2 l.2.1) (q2 l.2.2) := rfl
def fo3 {α : Type} (a : V12 × V3) (k : V12 → V3 → α) : α := fo12 a.1 fun f => fo6 a.2 fun t => k f t
theorem fo3_eq {α : Type} (a : V12 × V3) (k : V12 → V3 → α) : fo3 a k = k a.1 a.2 := by rw [fo3, fo12_eq, fo6_eq]
/-- One bit. -/
def vst (q : V2 × V2) (px py : Nat) (s : V12 × V3) : Bool → V12 × V3
  | false => fo12 (v12sq s.1) fun f => fo6 (vtw s.2 px py).1 fun t => fo6 (vtw s.2 px py).2 fun l => fo12 (v12mul f (vln l)) fun g => (g, t)
  | true => fo12 (v12sq s.1) fun f => fo6 (vtw s.2 px py).1 fun t => fo6 (vtw s.2 px py).2 fun l => fo12 (v12mul f (vln l)) fun g =>
    fo6 (vpl t q px py).1 fun t2 => fo6 (vpl t q px py).2 fun l2 => fo12 (v12mul g (vln l2)) fun g2 => (g2, t2)
def vlp (q : V2 × V2) (px py : Nat) : List Bool → V12 → V3 → V12
  | [], f, _ => f
  | b :: l, f, t => fo3 (vst q px py (f, t) b) fun f t => vlp q px py l f t
theorem q_vst (q : V2 × V2) (px py : Nat) (f : V12) (t : V3) (b : Bool) : sgS b (q12 f, ((zm (px : Int), zm (py : Int)), ((q2 q.1, q2 q.2), q3 t))) = (q12 (vst q px py (f, t) b).1, ((zm (px : Int), zm (py : Int)), ((q2 q.1, q2 q.2), q3 (vst q px py (f, t) b).2))) := by
  have h1 := q_vtw t px py
  have h1a := congrArg Prod.fst h1
  have h1b := congrArg Prod.snd h1
  simp only at h1a h1b
  cases b
  · show (q12 f * q12 f * (1 * line12 (two (q3 t) (zm (px : Int), zm (py : Int))).2.1 (two (q3 t) (zm (px : Int), zm (py : Int))).2.2.1 (two (q3 t) (zm (px : Int), zm (py : Int))).2.2.2), (_, (_, (two (q3 t) (zm (px : Int), zm (py : Int))).1))) = _
    rw [Rg.one_mul, two, opq_eq, ← h1a, ← h1b]
    simp only [vst, fo12_eq, fo6_eq, q12_mul, q12_sq, q_vln]; rfl
  · have h2 := q_vpl (vtw t px py).1 q px py
    rw [h1a] at h2
    have h2a := congrArg Prod.fst h2
    have h2b := congrArg Prod.snd h2
    simp only at h2a h2b
    show (q12 f * q12 f * (1 * line12 (two (q3 t) (zm (px : Int), zm (py : Int))).2.1 (two (q3 t) (zm (px : Int), zm (py : Int))).2.2.1 (two (q3 t) (zm (px : Int), zm (py : Int))).2.2.2 * line12 (plo (two (q3 t) (zm (px : Int), zm (py : Int))).1 (q2 q.1, q2 q.2) (zm (px : Int), zm (py : Int))).2.1 (plo (two (q3 t) (zm (px : Int), zm (py : Int))).1 (q2 q.1, q2 q.2) (zm (px : Int), zm (py : Int))).2.2.1 (plo (two (q3 t) (zm (px : Int), zm (py : Int))).1 (q2 q.1, q2 q.2) (zm (px : Int), zm (py : Int))).2.2.2), (_, (_, (plo (two (q3 t) (zm (px : Int), zm (py : Int))).1 (q2 q.1, q2 q.2) (zm (px : Int), zm (py : Int))).1))) = _
    rw [Rg.one_mul, two, opq_eq, plo, opq_eq, ← h2a, ← h2b, ← h1b, ← Rg.mul_assoc]
    simp only [vst, fo12_eq, fo6_eq, q12_mul, q12_sq, q_vln]; rfl
theorem q_vlp (q : V2 × V2) (px py : Nat) : ∀ (l : List Bool) (f : V12) (t : V3), (l.foldl (fun s b => sgS b s) (q12 f, ((zm (px : Int), zm (py : Int)), ((q2 q.1, q2 q.2), q3 t)))).1 = q12 (vlp q px py l f t)
  | [], f, t => rfl
  | b :: l, f, t => by
    show (l.foldl (fun s b => sgS b s) (sgS b (q12 f, _))).1 = q12 (fo3 (vst q px py (f, t) b) fun f t => vlp q px py l f t)
    rw [q_vst, fo3_eq, q_vlp q px py l]
/-- What is left of the last power behind p^6 - 1. -/
def vfin (r : V2) (x : V12) : V12 :=
  fo12 (v12fr r x) fun x1 => fo12 (v12fr r x1) fun x2 => fo12 (v12mul x2 x) fun g =>
  fo12 (v12pw g 64 15132376222941642753) fun a1 => fo12 (v12pw a1 64 15132376222941642753) fun a =>
  fo12 (v12pw a 64 15132376222941642752) fun b1 => fo12 (v12fr r a) fun b2 => fo12 (v12cj b1) fun b3 => fo12 (v12mul b3 b2) fun b =>
  fo12 (v12pw b 64 15132376222941642752) fun c1 => fo12 (v12pw c1 64 15132376222941642752) fun c2 => fo12 (v12fr r b) fun c3 => fo12 (v12fr r c3) fun c4 => fo12 (v12mul c2 c4) fun c5 => fo12 (v12cj b) fun c6 => fo12 (v12mul c5 c6) fun c =>
  fo12 (v12sq g) fun g2 => fo12 (v12mul c g2) fun d => v12mul d g
theorem q_vfin {r : V2} (hr : q2 r = rt1) {p v u : Nat} (hp : p = fpP) (hv : v = 15132376222941642753) (hu : u = 15132376222941642752) (x : V12) : q12 (vfin r x) = pwn (q12 x) ((p * p + 1) * (v * v * (u * p ^ 6 + p) * (u * u + p * p + p ^ 6) + 2 + 1)) := by
  have hV : v < 2 ^ 64 := by rw [hv]; exact of_decide_eq_true (by kernel_rfl)
  have hU : u < 2 ^ 64 := by rw [hu]; exact of_decide_eq_true (by kernel_rfl)
  have hc : ∀ x : F12, conj12 x = pwn x (p ^ 6) := fun x => (pw_6 hp x).symm
  unfold vfin
  rw [← hv, ← hu]
  simp only [fo12_eq, q12_mul, q12_sq, q12_cj, q12_fr hr, q12_pw _ 64 v hV, q12_pw _ 64 u hU, frobF_eq hp, hc]
  obtain ⟨X, hX⟩ : ∃ X, X = q12 x := ⟨_, rfl⟩
  rw [← hX]
  have e1 : pwn (pwn X p) p * X = pwn X (p * p + 1) := by rw [← pwn_mul]; rfl
  rw [e1, pwn_mul X (p * p + 1)]
  obtain ⟨g, hg⟩ : ∃ g, g = pwn X (p * p + 1) := ⟨_, rfl⟩
  rw [← hg, pwn_add g _ 1, pwn_add g _ 2, pwn_mul g _ (u * u + p * p + p ^ 6), pwn_mul g (v * v), pwn_mul g v v, pw_1]
  show _ = _ * (1 * g * g) * g
  rw [Rg.one_mul]
  obtain ⟨a, ha⟩ : ∃ a, a = pwn (pwn g v) v := ⟨_, rfl⟩
  rw [← ha, pwn_add a, pwn_mul a]
  obtain ⟨b, hb⟩ : ∃ b, b = pwn (pwn a u) (p ^ 6) * pwn a p := ⟨_, rfl⟩
  rw [← hb, pwn_add b, pwn_add b, pwn_mul b u u, pwn_mul b p p]
end Go.Proofs.YtoflhakneklimaaGreat.pairing
/- g1: Times. -/
namespace Go.Proofs.YtoflhakneklimaaGreat.g1
set_option maxRecDepth 100000
open Go Go.Eng Go.RowKit Cr Go.Proofs.YtoflhakneklimaaGreat

abbrev Jp := Fp × Fp × Fp
noncomputable def tmI (k : List Int) (o : Jp) (g : Int × List Jp) : St := mkSt Tryz.f36.ntmps 64 [(1, .is (.one (.ro (.int .u8) k))), (4, .is (.one (.ptr 8 0))), (5, .is (.one (.ptr 16 0))), (6, .is (.one (.ptr 40 0))), (15, sI .i64 g.1)] [(40, bc o), (16, [.row bk 16 g.2]), (8, pc (0, 0))]
noncomputable def tmS (k : List Int) (tb : List Jp) (s : Jp) (nx : Nat) (xs : List (Nat × SV)) : St := mkSt Tryz.f36.ntmps nx ([(4, .is (.one (.ptr 8 0))), (5, .is (.one (.ptr 16 0))), (8, .is (.one (.ptr 64 0))), (27, .is (.one (.ro (.int .u8) k))), (28, sI .i64 k.length)] ++ xs) [(64, bc s), (16, [.row bk 16 tb]), (8, pc (0, 0))]
noncomputable abbrev tmJ (k : List Int) (tb : List Jp) (g : Int × Jp) : St := tmS k tb g.2 96 [(29, sI .i64 g.1)]
noncomputable abbrev tmK (k : List Int) (tb : List Jp) (i : Int) (ds : List Int) (g : Int × Jp) : St := tmS k tb g.2 168 [(29, sI .i64 i), (37, .is (.agg [.ints .u8 2 ds])), (38, sI .i64 g.1)]
noncomputable abbrev tmL (k : List Int) (tb : List Jp) (i : Int) (ds : List Int) (j d : Int) (g : Int × Jp) : St := tmS k tb g.2 184 [(29, sI .i64 i), (37, .is (.agg [.ints .u8 2 ds])), (38, sI .i64 j), (12, sI .u8 d), (41, sI .i64 g.1)]

theorem ent_times : enters Tryz.prog 36 Tryz.f36 := enters_mk (by kernel_rfl) (by kernel_rfl) (by kernel_rfl)
abbrev preTimes : HL [pt1, .sl (.int .u8)] → Prop := fun (_, k, _) => Bs k ∧ List.length k < 4611686018427387904
noncomputable abbrev outTimes : HL [pt1, .sl (.int .u8)] → HO [.val pt1] := fun (p, k, _) => (jpoint (F := Fp) (jtm (tabAt (jt (jlift (F := Fp) p)) (0, 0, 0) 15) k (List.length k)), ())
theorem fn_times : FnOk Tryz.prog 36 [pt1, .sl (.int .u8)] [.val pt1] noG preTimes outTimes := by
  have hsp : SpecsOk Tryz.prog (sps [spLift, spAdd, spPoint, spDouble]) := sps_cons (fnSpec_ok fn_lift) (sps_cons (fnSpec_ok fn_add) (sps_cons (fnSpec_ok fn_point) (sps_cons (fnSpec_ok fn_double) sps_nil)))
  refine fn_of_tr (sp := sps [spLift, spAdd, spPoint, spDouble]) ent_times (by decide) (by decide) (by kernel_rfl) ?_
  rintro w M0 ⟨p, k, ⟨⟩⟩
  revert p k
  intro (p : Fp × Fp) (k : List Int) _ hp
  obtain ⟨hk, hl⟩ := hp
  have hk : Bs k := hk
  have hl : k.length < 4611686018427387904 := hl
  show Tr _ _ _ _ _ _ _
  refine tr_cut hsp mixed 4 (tmI k (jlift (F := Fp) p) (0, tabAt (jt (jlift (F := Fp) p)) (0, 0, 0) 0)) True ?_ (fun _ => ?_)
  · exact vcx (X := (True ∧ (tmI k (jlift (F := Fp) p) (0, tabAt (jt (jlift (F := Fp) p)) (0, 0, 0) 0)).triv True)) (by kernel_rfl) ⟨trivial, triv_intro trivial⟩
  generalize ho : jlift (F := Fp) p = o
  refine tr_count hsp mixed (tmI k o) (fun n => ((n : Int), tabAt (jt o) (0, 0, 0) n)) 15 (fun g => (IntKind.i64.wrap (g.1 + 1), g.2.set (IntKind.i64.wrap (g.1 + 1)).toNat (jadd (F := Fp) (g.2.getD g.1.toNat (0, 0, 0)) o))) (tmI k o) (c := nthC (codeOf Tryz.f36) 4) (by kernel_rfl) (by kernel_rfl) (le_of_proj (by kernel_rfl) (by kernel_rfl) trivial)
    (fun n hn => by
      show (_, _) = (_, _)
      rw [wrap_succ (by omega), Int.toNat_natCast, Int.toNat_natCast, tabAt_get _ _ _ (Nat.le_refl n) (by omega), show jadd (F := Fp) (jt o n) o = jt o (n + 1) from rfl, tabAt_set]) ?_ ?_
  · intro n hn
    generalize tabAt (jt o) (0, 0, 0) n = tb
    refine vcx (X := ((decide ((n : Int) < 15) = true → (0 ≤ (n : Int) ∧ (n : Int) < ((16 : Nat) : Int)) ∧ (n : Int).toNat < 16 ∧ True ∧ (0 ≤ IntKind.i64.wrap ((n : Int) + 1) ∧ IntKind.i64.wrap ((n : Int) + 1) < ((16 : Nat) : Int)) ∧ (IntKind.i64.wrap ((n : Int) + 1)).toNat < 16 ∧
        (tmI k o (IntKind.i64.wrap ((n : Int) + 1), tb.set (IntKind.i64.wrap ((n : Int) + 1)).toNat (jadd (F := Fp) (tb.getD (n : Int).toNat (0, 0, 0)) o))).triv (n < 15)) ∧
      (decide ((n : Int) < 15) = false → (tmI k o ((n : Int), tb)).triv (n = 15)))) (by kernel_rfl) ?_
    refine ⟨fun h => ?_, fun h => triv_intro (by have := dec_ge h; omega)⟩
    have hlt : n < 15 := by have := dec_lt h; omega
    rw [wrap_succ (by omega)]
    exact ⟨⟨by omega, by omega⟩, by omega, trivial, ⟨by omega, by omega⟩, by omega, triv_intro hlt⟩
  subst ho
  show Tr _ _ _ _ _ _ _
  generalize htb : tabAt (jt (jlift (F := Fp) p)) (0, 0, 0) 15 = tb
  refine tr_cut hsp mixed 2 (tmJ k tb (0, jtm tb k 0)) True ?_ (fun _ => ?_)
  · exact vcx (X := (tmJ k tb (0, jtm tb k 0)).triv True) (by kernel_rfl) (triv_intro trivial)
  refine tr_countT (tmJ k tb) (fun i => ((i : Int), jtm tb k i)) k.length (fun g => (IntKind.i64.wrap (g.1 + 1), jby tb g.2 (k.getD g.1.toNat 0))) (tmJ k tb) (c := nthC (codeOf Tryz.f36) 7) (by kernel_rfl) (by kernel_rfl) (le_of_proj (by kernel_rfl) (by kernel_rfl) trivial)
    (fun i hi => by show (_, _) = (_, _); rw [wrap_succ (by omega), Int.toNat_natCast]; rfl) ?_ ?_
  · intro i hi
    generalize jtm tb k i = s
    refine tr_cut hsp mixed 2 (tmJ k tb ((i : Int), s)) (i < k.length) ?_ (fun hlt => ?_)
    · refine vcx (X := ((decide ((i : Int) < (k.length : Int)) = true → (tmJ k tb ((i : Int), s)).triv (i < k.length)) ∧ (decide ((i : Int) < (k.length : Int)) = false → (tmJ k tb ((i : Int), s)).triv (i = k.length)))) (by kernel_rfl) ?_
      exact ⟨fun h => triv_intro (by have := dec_lt h; omega), fun h => triv_intro (by have := dec_ge h; omega)⟩
    have hb : 0 ≤ k.getD i 0 ∧ k.getD i 0 < 256 := by
      have : k.getD i 0 ∈ k := by rw [List.getD_eq_getElem?_getD, List.getElem?_eq_getElem hlt]; exact List.getElem_mem hlt
      exact hk _ this
    have hbi : k.getD (i : Int).toNat 0 = k.getD i 0 := by rw [Int.toNat_natCast]
    generalize hbb : k.getD i 0 = b at hb hbi
    obtain ⟨_, d1, d2⟩ := dh_ok hb.1 hb.2
    obtain ⟨_, d3, d4⟩ := dl_ok hb.1 hb.2
    refine tr_block (c := nthC (loopOf (nthC (codeOf Tryz.f36) 7)) 2) (by kernel_rfl) (by kernel_rfl) ?_
    refine tr_cut hsp mixed 2 (tmK k tb (i : Int) [dh (k.getD (i : Int).toNat 0), dl (k.getD (i : Int).toNat 0)] (0, jsd tb [dh b, dl b] s 0)) True ?_ (fun _ => ?_)
    · refine vcx (X := ((0 ≤ (i : Int) ∧ (i : Int) < (k.length : Int)) ∧ (i : Int).toNat < k.length ∧ (0 : Int) ≤ 4 ∧ (tmK k tb (i : Int) [dh (k.getD (i : Int).toNat 0), dl (k.getD (i : Int).toNat 0)] (0, jsd tb [dh b, dl b] s 0)).triv True)) (by kernel_rfl) ?_
      exact ⟨⟨by omega, by omega⟩, by omega, by decide, triv_intro trivial⟩
    rw [hbi]
    generalize hds : [dh b, dl b] = ds
    have hdd : ∀ j, j < 2 → 0 ≤ ds.getD j 0 ∧ ds.getD j 0 < 16 := by
      intro j hj
      subst hds
      match j, hj with
      | 0, _ => exact ⟨d1, d2⟩
      | 1, _ => exact ⟨d3, d4⟩
    refine tr_countT (tmK k tb (i : Int) ds) (fun j => ((j : Int), jsd tb ds s j)) 2 (fun g => (IntKind.i64.wrap (g.1 + 1), jst tb g.2 (ds.getD g.1.toNat 0))) (tmK k tb (i : Int) ds) (c := nthC (bodyOf (nthC (loopOf (nthC (codeOf Tryz.f36) 7)) 2)) 2) (by kernel_rfl) (by kernel_rfl) (le_of_proj (by kernel_rfl) (by kernel_rfl) trivial)
      (fun j hj => by show (_, _) = (_, _); rw [wrap_succ (by omega), Int.toNat_natCast]; rfl) ?_ ?_
    · intro j hj
      generalize jsd tb ds s j = y
      refine tr_cut hsp mixed 2 (tmK k tb (i : Int) ds ((j : Int), y)) (j < 2) ?_ (fun hj2 => ?_)
      · refine vcx (X := ((decide ((j : Int) < 2) = true → (tmK k tb (i : Int) ds ((j : Int), y)).triv (j < 2)) ∧ (decide ((j : Int) < 2) = false → (tmK k tb (i : Int) ds ((j : Int), y)).triv (j = 2)))) (by kernel_rfl) ?_
        exact ⟨fun h => triv_intro (by have := dec_lt h; omega), fun h => triv_intro (by have := dec_ge h; omega)⟩
      have hd := hdd j hj2
      have hdj : ds.getD (j : Int).toNat 0 = ds.getD j 0 := by rw [Int.toNat_natCast]
      generalize ds.getD j 0 = d at hd hdj
      refine tr_block (c := nthC (loopOf (nthC (bodyOf (nthC (loopOf (nthC (codeOf Tryz.f36) 7)) 2)) 2)) 2) (by kernel_rfl) (by kernel_rfl) ?_
      refine tr_cut hsp mixed 2 (tmL k tb (i : Int) ds (j : Int) (ds.getD (j : Int).toNat 0) (0, jdn y 0)) True ?_ (fun _ => ?_)
      · refine vcx (X := ((0 ≤ (j : Int) ∧ (j : Int) < ((2 : Nat) : Int)) ∧ (tmL k tb (i : Int) ds (j : Int) (ds.getD (j : Int).toNat 0) (0, jdn y 0)).triv True)) (by kernel_rfl) ?_
        exact ⟨⟨by omega, by omega⟩, triv_intro trivial⟩
      rw [hdj]
      refine tr_count hsp mixed (tmL k tb (i : Int) ds (j : Int) d) (fun n => ((n : Int), jdn y n)) 4 (fun g => (IntKind.i64.wrap (g.1 + 1), jdbl (F := Fp) g.2)) (tmL k tb (i : Int) ds (j : Int) d) (c := nthC (bodyOf (nthC (loopOf (nthC (bodyOf (nthC (loopOf (nthC (codeOf Tryz.f36) 7)) 2)) 2)) 2)) 2) (by kernel_rfl) (by kernel_rfl) (le_of_proj (by kernel_rfl) (by kernel_rfl) trivial)
        (fun n hn => by show (_, _) = (_, _); rw [wrap_succ (by omega)]; rfl) ?_ ?_
      · intro n hn
        generalize jdn y n = z
        refine vcx (X := ((decide ((n : Int) < 4) = true → True ∧ (tmL k tb (i : Int) ds (j : Int) d (IntKind.i64.wrap ((n : Int) + 1), jdbl (F := Fp) z)).triv (n < 4)) ∧ (decide ((n : Int) < 4) = false → (tmL k tb (i : Int) ds (j : Int) d ((n : Int), z)).triv (n = 4)))) (by kernel_rfl) ?_
        exact ⟨fun h => ⟨trivial, triv_intro (by have := dec_lt h; omega)⟩, fun h => triv_intro (by have := dec_ge h; omega)⟩
      refine tr_cut hsp mixed 1 (tmK k tb (i : Int) ds ((j : Int), jst tb y d)) True ?_ (fun _ => ?_)
      · refine vcx (X := ((0 ≤ d ∧ d < ((16 : Nat) : Int)) ∧ d.toNat < 16 ∧ True ∧ (tmK k tb (i : Int) ds ((j : Int), jst tb y d)).triv True)) (by kernel_rfl) ?_
        exact ⟨⟨hd.1, by omega⟩, by omega, trivial, triv_intro trivial⟩
      refine tr_nil ?_
      refine tr_vc hsp mixed _ _ ?_
      exact vcx (X := (tmK k tb (i : Int) ds (IntKind.i64.wrap ((j : Int) + 1), jst tb y d)).triv (j < 2)) (by kernel_rfl) (triv_intro hj2)
    refine tr_nil ?_
    refine tr_vc hsp mixed _ _ ?_
    have ey : jby tb s b = jsd tb ds s 2 := by unfold jby; rw [hds]
    show VC _ _ _ (fun σ' => σ'.le _ (tmJ k tb (IntKind.i64.wrap ((i : Int) + 1), jby tb s b)) (i < k.length)) _ _
    rw [ey]
    generalize jsd tb ds s 2 = z
    exact vcx (X := (tmJ k tb (IntKind.i64.wrap ((i : Int) + 1), z)).triv (i < k.length)) (by kernel_rfl) (triv_intro hlt)
  · refine tr_vc hsp mixed _ _ ?_
    refine vcx (X := (True ∧ (jpoint (F := Fp) (jtm tb k k.length), ()) = outTimes (p, k, ()))) (by kernel_rfl) ⟨trivial, ?_⟩
    show _ = (jpoint (F := Fp) (jtm (tabAt (jt (jlift (F := Fp) p)) (0, 0, 0) 15) k k.length), ())
    rw [htb]
noncomputable def spTimes : Nat × Eng.Spec := (36, fnSpec [pt1, .sl (.int .u8)] [.val pt1] preTimes outTimes)
end Go.Proofs.YtoflhakneklimaaGreat.g1
/- g1: Mul. -/
namespace Go.Proofs.YtoflhakneklimaaGreat.g1
set_option maxRecDepth 100000
open Go Go.Eng Go.RowKit Cr Go.Proofs.YtoflhakneklimaaGreat
noncomputable def tms (p : Fp × Fp) (k : List Int) : Fp × Fp := jpoint (F := Fp) (jtm (tabAt (jt (jlift (F := Fp) p)) (0, 0, 0) 15) k (List.length k))
noncomputable def pml (p : Fp × Fp) (k : Fr) : Fp × Fp := tms p (bytesN 32 k.v)
theorem ent_pmul : enters Tryz.prog 15 Tryz.f15 := enters_mk (by kernel_rfl) (by kernel_rfl) (by kernel_rfl)
noncomputable abbrev outPMul : HL [pt1, .fr] → HO [.val pt1] := fun (p, k, _) => (pml p k, ())
theorem fn_pmul : FnOk Tryz.prog 15 [pt1, .fr] [.val pt1] noG (fun _ => True) outPMul := by
  refine fn_of_vc (sp := sps [fr.spBytes, spTimes]) (sps_cons (fnSpec_ok fr.fn_bytes) (sps_cons (fnSpec_ok fn_times) sps_nil)) mixed ent_pmul (by decide) (by decide) ?_
  rintro w M0 ⟨p, k, ⟨⟩⟩
  revert p k
  intro (p : Fp × Fp) (k : Fr) _ _
  refine vcx (X := (True ∧ (0 : Nat) + 32 ≤ 32 ∧ preTimes (p, (bytesN 32 k.v).take 32, ()) ∧ (tms p ((bytesN 32 k.v).take 32), ()) = outPMul (p, k, ()))) (by kernel_rfl) ?_
  rw [List.take_of_length_le (by rw [bytesN_length]; exact Nat.le_refl _)]
  exact ⟨trivial, by decide, ⟨bytesN_Bs _ _, by show (bytesN 32 k.v).length < _; rw [bytesN_length]; decide⟩, rfl⟩
noncomputable def spPMul : Nat × Eng.Spec := (15, fnSpec [pt1, .fr] [.val pt1] (fun _ => True) outPMul)

end Go.Proofs.YtoflhakneklimaaGreat.g1
/- The references' Copy; law07: scalar, long. -/
namespace Go.Proofs.YtoflhakneklimaaGreat.ref01
set_option maxRecDepth 100000
open Go Go.Eng Go.RowKit Cr Go.Proofs.YtoflhakneklimaaGreat

theorem ent_copy : enters Tryz.prog 31 Tryz.f31 := enters_mk (by kernel_rfl) (by kernel_rfl) (by kernel_rfl)
noncomputable def cpI (b : List Int) (g : Int × List Int) : St := mkSt Tryz.f31.ntmps 64 [(0, .is (.one (.ro (.int .u8) b))), (3, .is (.one (.sl 24 0 0 (b.length : Int).toNat 1))), (9, sI .i64 b.length), (10, sI .i64 g.1)] [(24, [.ints .u8 (b.length : Int).toNat g.2])]
def cpL (b : List Int) (k : Nat) : List Int := b.take k ++ List.replicate (b.length - k) 0
theorem cpL_step {b : List Int} {k : Nat} (h : k < b.length) : (cpL b k).set k (b.getD k 0) = cpL b (k + 1) := by
  unfold cpL
  rw [List.set_append_right _ _ (by simp; omega), List.take_succ_eq_append_getElem h]
  have e : b.length - k = (b.length - (k + 1)) + 1 := by omega
  have e2 : k - (b.take k).length = 0 := by simp; omega
  rw [e2, e, List.replicate_succ, List.set_cons_zero, List.append_assoc]
  simp [h]
abbrev preCopy : HL [.sl (.int .u8)] → Prop := fun (b, _) => List.length b ≤ 281474976710656
abbrev outCopy : HL [.sl (.int .u8)] → HO [.own (.int .u8)] := fun (b, _) => (b, ())
theorem fn_copy : FnOk Tryz.prog 31 [.sl (.int .u8)] [.own (.int .u8)] noG preCopy outCopy := by
  have hsp : SpecsOk Tryz.prog (sps []) := sps_nil
  refine fn_of_tr (sp := sps []) ent_copy (by decide) (by decide) (by kernel_rfl) ?_
  rintro w M0 ⟨b, ⟨⟩⟩
  revert b
  intro (b : List Int) _ hl
  have hl : b.length ≤ 281474976710656 := hl
  show Tr _ _ _ _ _ _ _
  refine tr_cut hsp mixed 3 (cpI b (0, List.replicate (b.length : Int).toNat 0)) True ?_ (fun _ => ?_)
  · refine vcx (X := ((0 ≤ (b.length : Int) ∧ (b.length : Int) ≤ (b.length : Int) ∧ ((1 : Nat) : Int) * (b.length : Int) ≤ 281474976710656 ∧ (b.length : Int) ≤ 9223372036854775807) ∧ (cpI b (0, List.replicate (b.length : Int).toNat 0)).triv True)) (by kernel_rfl) ?_
    exact ⟨⟨by omega, by omega, by omega, by omega⟩, triv_intro trivial⟩
  rw [show List.replicate (b.length : Int).toNat (0 : Int) = cpL b 0 by simp [cpL]]
  refine tr_count hsp mixed (cpI b) (fun k => ((k : Int), cpL b k)) b.length (fun g => (IntKind.i64.wrap (g.1 + 1), g.2.set g.1.toNat (b.getD g.1.toNat 0))) (cpI b) (c := nthC (codeOf Tryz.f31) 3) (by kernel_rfl) (by kernel_rfl) (le_of_proj (by kernel_rfl) (by kernel_rfl) trivial)
    (fun k hk => by show (_, _) = (_, _); rw [wrap_succ (by omega), Int.toNat_natCast, cpL_step hk]) ?_ ?_
  · intro k hk
    generalize cpL b k = xs
    refine vcx (X := ((decide ((k : Int) < (b.length : Int)) = true → (0 ≤ (k : Int) ∧ (k : Int) < (b.length : Int)) ∧ (k : Int).toNat < b.length ∧ (0 ≤ (k : Int) ∧ (k : Int) < ((b.length : Int).toNat : Int)) ∧ (k : Int).toNat < (b.length : Int).toNat ∧ (cpI b (IntKind.i64.wrap ((k : Int) + 1), xs.set (k : Int).toNat (b.getD (k : Int).toNat 0))).triv (k < b.length)) ∧
      (decide ((k : Int) < (b.length : Int)) = false → (cpI b ((k : Int), xs)).triv (k = b.length)))) (by kernel_rfl) ?_
    refine ⟨fun h => ?_, fun h => triv_intro (by have := dec_ge h; omega)⟩
    have hlt : k < b.length := by have := dec_lt h; omega
    exact ⟨⟨by omega, by omega⟩, by omega, ⟨by omega, by omega⟩, by omega, triv_intro hlt⟩
  · refine tr_vc hsp mixed _ _ ?_
    refine vcx (X := (0 + (b.length : Int).toNat ≤ (b.length : Int).toNat ∧ (((cpL b b.length).take (b.length : Int).toNat, ()) : List Int × Unit) = outCopy (b, ()))) (by kernel_rfl) ⟨by omega, ?_⟩
    simp [cpL, outCopy]
noncomputable def spCopy : Nat × Eng.Spec := (31, fnSpec [.sl (.int .u8)] [.own (.int .u8)] preCopy outCopy)
end Go.Proofs.YtoflhakneklimaaGreat.ref01
/- g1: the same contracts, for laws: what is computed is not unfolded; what it is on points of the curve. -/
namespace Go.Proofs.YtoflhakneklimaaGreat.g1
set_option maxRecDepth 100000
open Go Go.Eng Go.RowKit Cr Go.Proofs.YtoflhakneklimaaGreat
theorem b4_ne : b4 ≠ 0 := by decide
noncomputable def gG : Fp × Fp := opq (gx, gy)
noncomputable def gadd (p q : Fp × Fp) : Fp × Fp := opq (jpoint (F := Fp) (jsm [p, q] 2))
noncomputable def gsum (ps : List (Fp × Fp)) : Fp × Fp := opq (jpoint (F := Fp) (jsm ps ps.length))
noncomputable def gneg (p : Fp × Fp) : Fp × Fp := opq (pneg (F := Fp) p)
noncomputable def gtms (p : Fp × Fp) (k : List Int) : Fp × Fp := opq (tms p k)
noncomputable def gmul (p : Fp × Fp) (k : Fr) : Fp × Fp := opq (pml p k)
noncomputable def gon (p : Fp × Fp) : Bool := opq (isOn p)

theorem fo_gen : FnOk Tryz.prog 14 [] [.val pt1] noG (fun _ => True) (fun _ => (gG, ())) := fn_gen.out fun _ => by show (gG, ()) = ((gx, gy), ()); rw [gG, opq_eq]
theorem fo_add : FnOk Tryz.prog 28 [pt1, pt1] [.val pt1] noG (fun _ => True) (fun (p, q, _) => (gadd p q, ())) := fn_padd.out fun (p, q, _) => by show (gadd p q, ()) = (_, ()); rw [gadd, opq_eq]
theorem fo_sum : FnOk Tryz.prog 50 [.sl pt1] [.val pt1] noG preSum (fun (ps, _) => (gsum ps, ())) := fn_sum.out fun (ps, _) => by show (gsum ps, ()) = (_, ()); rw [gsum, opq_eq]
theorem fo_neg : FnOk Tryz.prog 19 [pt1] [.val pt1] noG (fun _ => True) (fun (p, _) => (gneg p, ())) := fn_pneg.out fun (p, _) => by show (gneg p, ()) = (_, ()); rw [gneg, opq_eq]
theorem fo_times : FnOk Tryz.prog 36 [pt1, .sl (.int .u8)] [.val pt1] noG preTimes (fun (p, k, _) => (gtms p k, ())) := fn_times.out fun (p, k, _) => by show (gtms p k, ()) = (_, ()); rw [gtms, opq_eq]; rfl
theorem fo_mul : FnOk Tryz.prog 15 [pt1, .fr] [.val pt1] noG (fun _ => True) (fun (p, k, _) => (gmul p k, ())) := fn_pmul.out fun (p, k, _) => by show (gmul p k, ()) = (_, ()); rw [gmul, opq_eq]
noncomputable def soGen : Nat × Eng.Spec := (14, fnSpec [] [.val pt1] (fun _ => True) (fun _ => (gG, ())))
noncomputable def soAdd : Nat × Eng.Spec := (28, fnSpec [pt1, pt1] [.val pt1] (fun _ => True) (fun (p, q, _) => (gadd p q, ())))
noncomputable def soSum : Nat × Eng.Spec := (50, fnSpec [.sl pt1] [.val pt1] preSum (fun (ps, _) => (gsum ps, ())))
noncomputable def soNeg : Nat × Eng.Spec := (19, fnSpec [pt1] [.val pt1] (fun _ => True) (fun (p, _) => (gneg p, ())))
noncomputable def soTimes : Nat × Eng.Spec := (36, fnSpec [pt1, .sl (.int .u8)] [.val pt1] preTimes (fun (p, k, _) => (gtms p k, ())))
noncomputable def soMul : Nat × Eng.Spec := (15, fnSpec [pt1, .fr] [.val pt1] (fun _ => True) (fun (p, k, _) => (gmul p k, ())))
abbrev Onb (p : Fp × Fp) : Prop := OnP b4 p
theorem gG_eq : gG = (gx, gy) := opq_eq _
theorem gG_on : Onb gG := by rw [gG_eq]; exact (isOn_iff _).1 (by decide +kernel)
theorem gadd_eq {p q : Fp × Fp} (hp : Onb p) (hq : Onb q) : gadd p q = padd p q := by rw [gadd, opq_eq]; exact add_eq b4_ne hp hq
theorem gsum_eq {ps : List (Fp × Fp)} (h : ∀ p ∈ ps, Onb p) : gsum ps = psum ps := by rw [gsum, opq_eq]; exact sum_eq b4_ne h
theorem gneg_eq (p : Fp × Fp) : gneg p = pneg p := opq_eq _
theorem gtms_eq {p : Fp × Fp} (hp : Onb p) {k : List Int} (hk : Bs k) : gtms p k = nmul p (num k).toNat := by rw [gtms, opq_eq]; exact times_eq b4_ne hp hk
theorem gmul_eq {p : Fp × Fp} (hp : Onb p) (k : Fr) : gmul p k = nmul p k.v.toNat := by
  rw [gmul, opq_eq, pml, tms, times_eq b4_ne hp (bytesN_Bs _ _), num_bytesN 32 _ k.nn (Int.lt_trans k.lt (by decide))]
theorem gon_iff (p : Fp × Fp) : gon p = true ↔ Onb p := by rw [gon, opq_eq]; exact isOn_iff p
end Go.Proofs.YtoflhakneklimaaGreat.g1
/- g1: the group; scalars. -/
namespace Go.Proofs.YtoflhakneklimaaGreat.g1
set_option maxRecDepth 100000
open Go Go.Eng Go.RowKit Cr Go.Proofs.YtoflhakneklimaaGreat

theorem gG_ne : gG ≠ O2 := by rw [gG_eq]; decide
theorem gmul_on {p : Fp × Fp} (hp : Onb p) (k : Fr) : Onb (gmul p k) := by rw [gmul_eq hp]; exact nmul_on b4_ne hp _
def rN : Nat := 52435875175126190479447740508185965837690552500527637822603658699938581184513
theorem gG_ord : nmul gG rN = O2 := by
  have h1 : Rep b4 (evP1.φ3 (gxN, gyN, (1 : Nat))) gG := by
    have h := rep_lift gG_on
    unfold jlift at h
    rw [if_neg gG_ne, gG_eq] at h
    rw [gG_eq]
    exact h
  have h2 := Ev.mul2_rep b4_ne h1 256 rN (by decide)
  have h3 := (evP1.isz_φ _).1 ord_z
  rcases h2 with ⟨_, h⟩ | ⟨h, _⟩
  · exact h
  · exact absurd h3 h
/-- Points that come to nought r times. -/
def Sub (p : Fp × Fp) : Prop := Onb p ∧ nmul p rN = O2
theorem sub_G : Sub gG := ⟨gG_on, gG_ord⟩
theorem sub_nmul {p : Fp × Fp} (h : Sub p) (n : Nat) : Sub (nmul p n) := by
  refine ⟨nmul_on b4_ne h.1 n, ?_⟩
  rw [nmul_mul b4_ne h.1, Nat.mul_comm, ← nmul_mul b4_ne h.1, h.2, nmul_O]
theorem sub_gmul {p : Fp × Fp} (h : Sub p) (k : Fr) : Sub (gmul p k) := by rw [gmul_eq h.1]; exact sub_nmul h _
theorem nmul_mod {p : Fp × Fp} (h : Sub p) (m : Nat) : nmul p m = nmul p (m % rN) := by
  conv => lhs; rw [← Nat.div_add_mod m rN]
  rw [nmul_add b4_ne h.1, ← nmul_mul b4_ne h.1, h.2, nmul_O, O_add]
theorem frv (x : Fr) : ∃ n : Nat, x.v = (n : Int) ∧ n < rN := by
  obtain ⟨n, hn⟩ := Int.eq_ofNat_of_zero_le x.nn
  exact ⟨n, hn, by have := x.lt; have e : Mr = (rN : Int) := rfl; omega⟩
theorem mul_of {p : Fp × Fp} (h : Sub p) {x : Fr} {m : Nat} (hx : x.v = (m : Int) % (rN : Int)) : gmul p x = nmul p m := by
  rw [gmul_eq h.1, hx, nmul_mod h m, ← Int.natCast_emod, Int.toNat_natCast]
theorem mul_add {p : Fp × Fp} (h : Sub p) (x y : Fr) : gmul p (x + y) = padd (gmul p x) (gmul p y) := by
  obtain ⟨m, hm, _⟩ := frv x
  obtain ⟨n, hn, _⟩ := frv y
  rw [mul_of h (x := x + y) (m := m + n) (by rw [add_v, hm, hn, Int.natCast_add]; rfl), gmul_eq h.1, gmul_eq h.1, hm, hn, Int.toNat_natCast, Int.toNat_natCast, nmul_add b4_ne h.1]
theorem mul_mul {p : Fp × Fp} (h : Sub p) (x y : Fr) : gmul p (x * y) = gmul (gmul p x) y := by
  obtain ⟨m, hm, _⟩ := frv x
  obtain ⟨n, hn, _⟩ := frv y
  rw [mul_of h (x := x * y) (m := m * n) (by rw [mul_v, hm, hn, Int.natCast_mul]; rfl), gmul_eq (sub_gmul h x).1, gmul_eq h.1, hm, hn, Int.toNat_natCast, Int.toNat_natCast, nmul_mul b4_ne h.1]
theorem mul_zero {p : Fp × Fp} (h : Sub p) : gmul p 0 = O2 := by
  rw [gmul_eq h.1, zero_v]; rfl
theorem mul_one {p : Fp × Fp} (h : Sub p) : gmul p 1 = p := by
  rw [gmul_eq h.1, one_v]; exact nmul_one
theorem mul_neg {p : Fp × Fp} (h : Sub p) (x : Fr) : gmul p (-x) = pneg (gmul p x) := by
  have e : padd (gmul p x) (gmul p (-x)) = O2 := by rw [← mul_add h, Rg.add_neg, mul_zero h]
  have hx := (sub_gmul h x).1
  have hn := (sub_gmul h (-x)).1
  have := cancel b4_ne hx hn
  rw [e, add_O] at this
  exact this.symm
end Go.Proofs.YtoflhakneklimaaGreat.g1
/- fp2.Read; g2: number, Gen. -/
namespace Go.Proofs.YtoflhakneklimaaGreat.fp2
set_option maxRecDepth 100000
open Go Go.Eng Go.RowKit Cr Go.Proofs.YtoflhakneklimaaGreat
/-- The number of bytes: b first. -/
def rdF2 (bs : List Int) : F2 × Int := if bs.length = 96 then (if (fp.rdFp (bs.take 48)).2 = 0 then (if (fp.rdFp (bs.drop 48)).2 = 0 then (((fp.rdFp (bs.drop 48)).1, (fp.rdFp (bs.take 48)).1), 0) else ((0, 0), (fp.rdFp (bs.drop 48)).2)) else ((0, 0), (fp.rdFp (bs.take 48)).2)) else ((0, 0), 10)
theorem ent_read : enters Tryz.prog 66 Tryz.f66 := enters_mk (by kernel_rfl) (by kernel_rfl) (by kernel_rfl)
abbrev preRead : HL [.sl (.int .u8)] → Prop := fun (bs, _) => Bs bs
abbrev outRead : HL [.sl (.int .u8)] → HO [.val f2, .val (.int .i64)] := fun (bs, _) => ((rdF2 bs).1, (rdF2 bs).2, ())
theorem fn_read : FnOk Tryz.prog 66 [.sl (.int .u8)] [.val f2, .val (.int .i64)] noG preRead outRead := by
  refine fn_of_vc (sp := sps [fp.spRead]) (sps_cons (fnSpec_ok fp.fn_read) sps_nil) mixed ent_read (by decide) (by decide) ?_
  rintro w M0 ⟨bs, ⟨⟩⟩
  revert bs
  intro (bs : List Int) _ hb
  have hb : Bs bs := hb
  refine vcx (X := ((((↑bs.length : Int) != (96 : Int)) = true → (((0 : Fp), (0 : Fp)), (10 : Int), ()) = outRead (bs, ())) ∧ (((↑bs.length : Int) != (96 : Int)) = false → ((0 : Int) ≤ (48 : Int) ∧ (48 : Int) ≤ (↑bs.length : Int)) ∧ fp.preRead (List.take (48 : Nat) bs, ()) ∧ (((fp.rdFp (List.take (48 : Nat) bs)).snd != (0 : Int)) = true → (((0 : Fp), (0 : Fp)), (fp.rdFp (List.take (48 : Nat) bs)).snd, ()) = outRead (bs, ())) ∧ (((fp.rdFp (List.take (48 : Nat) bs)).snd != (0 : Int)) = false → ((0 : Int) ≤ (48 : Int) ∧ (48 : Int) ≤ (↑bs.length : Int)) ∧ fp.preRead (List.take ((↑bs.length : Int) - (48 : Int)).toNat (List.drop (48 : Nat) bs), ()) ∧ (((fp.rdFp (List.take ((↑bs.length : Int) - (48 : Int)).toNat (List.drop (48 : Nat) bs))).snd != (0 : Int)) = true → (((0 : Fp), (0 : Fp)), (fp.rdFp (List.take ((↑bs.length : Int) - (48 : Int)).toNat (List.drop (48 : Nat) bs))).snd, ()) = outRead (bs, ())) ∧ (((fp.rdFp (List.take ((↑bs.length : Int) - (48 : Int)).toNat (List.drop (48 : Nat) bs))).snd != (0 : Int)) = false → (((fp.rdFp (List.take ((↑bs.length : Int) - (48 : Int)).toNat (List.drop (48 : Nat) bs))).fst, (fp.rdFp (List.take (48 : Nat) bs)).fst), (0 : Int), ()) = outRead (bs, ())))))) (by kernel_rfl) ?_
  refine ⟨fun h => ?_, fun h => ?_⟩
  · have hl : ¬ bs.length = 96 := by simp at h; omega
    show _ = ((rdF2 bs).1, (rdF2 bs).2, ())
    rw [rdF2, if_neg hl]
  have hl : bs.length = 96 := by simp at h; omega
  have e1 : List.take ((bs.length : Int) - 48).toNat (List.drop 48 bs) = bs.drop 48 := List.take_of_length_le (by simp; omega)
  rw [e1]
  refine ⟨⟨by omega, by omega⟩, fun x hx => hb x (List.mem_of_mem_take hx), fun h2 => ?_, fun h2 => ⟨⟨by omega, by omega⟩, fun x hx => hb x (List.mem_of_mem_drop hx), fun h3 => ?_, fun h3 => ?_⟩⟩
  · have h2 : ¬ (fp.rdFp (bs.take 48)).2 = 0 := by simpa using h2
    show _ = ((rdF2 bs).1, (rdF2 bs).2, ())
    rw [rdF2, if_pos hl, if_neg h2]
  · have h2 : (fp.rdFp (bs.take 48)).2 = 0 := by simpa using h2
    have h3 : ¬ (fp.rdFp (bs.drop 48)).2 = 0 := by simpa using h3
    show _ = ((rdF2 bs).1, (rdF2 bs).2, ())
    rw [rdF2, if_pos hl, if_pos h2, if_neg h3]
  · have h2 : (fp.rdFp (bs.take 48)).2 = 0 := by simpa using h2
    have h3 : (fp.rdFp (bs.drop 48)).2 = 0 := by simpa using h3
    show _ = ((rdF2 bs).1, (rdF2 bs).2, ())
    rw [rdF2, if_pos hl, if_pos h2, if_pos h3]
noncomputable def spRead : Nat × Eng.Spec := (66, fnSpec [.sl (.int .u8)] [.val f2, .val (.int .i64)] preRead outRead)
end Go.Proofs.YtoflhakneklimaaGreat.fp2
namespace Go.Proofs.YtoflhakneklimaaGreat.g2
set_option maxRecDepth 100000
open Go Go.Eng Go.RowKit Cr Go.Proofs.YtoflhakneklimaaGreat Go.Proofs.YtoflhakneklimaaGreat.fp2
/-- Points of the second curve: (0, 0) is infinity. -/
abbrev pt2 : Kd := .pair f2 f2
theorem ent_number : enters Tryz.prog 37 Tryz.f37 := enters_mk (by kernel_rfl) (by kernel_rfl) (by kernel_rfl)
abbrev outNumber : HL [.str] → HO [.val f2] := fun (s, _) => ((fp2.rdF2 (sbytes s)).1, ())
theorem fn_number : FnOk Tryz.prog 37 [.str] [.val f2] noG (fun _ => True) outNumber := by
  refine fn_of_vc (sp := sps [fp2.spRead]) (sps_cons (fnSpec_ok fp2.fn_read) sps_nil) mixed ent_number (by decide) (by decide) ?_
  rintro w M0 ⟨s, ⟨⟩⟩ _ _
  refine vcx (X := (0 + s.size ≤ s.size ∧ fp2.preRead ((sbytes s).take s.size, ()) ∧ ((fp2.rdF2 ((sbytes s).take s.size)).1, ()) = outNumber (s, ()))) (by kernel_rfl) ?_
  rw [List.take_of_length_le (by rw [sbytes_len]; exact Nat.le_refl _)]
  exact ⟨by omega, sbytes_Bs s, rfl⟩
noncomputable def spNumber : Nat × Eng.Spec := (37, fnSpec [.str] [.val f2] (fun _ => True) outNumber)

def gxA : Nat := 0x024aa2b2f08f0a91260805272dc51051c6e47ad4fa403b02b4510b647ae3d1770bac0326a805bbefd48056c8c121bdb8
def gxB : Nat := 0x13e02b6052719f607dacd3a088274f65596bd0d09920b61ab5da61bbdc7f5049334cf11213945d57e5ac7d055d042b7e
def gyA : Nat := 0x0ce5d527727d6e118cc9cdc6da2e351aadfd9baa8cbdd3a76d429a695160d12c923ac9cc3baca289e193548608b82801
def gyB : Nat := 0x0606c4a02ea734cc32acd2b02bc28b99cb3e287e85a763af267492ab572e99ab3f370d275cec1da1aaa9075ff05f79be
def gx : F2 := (zm (gxA : Int), zm (gxB : Int))
def gy : F2 := (zm (gyA : Int), zm (gyB : Int))
theorem ent_gen : enters Tryz.prog 16 Tryz.f16 := enters_mk (by kernel_rfl) (by kernel_rfl) (by kernel_rfl)
abbrev outGen : HL [] → HO [.val pt2] := fun _ => ((gx, gy), ())
theorem fn_gen : FnOk Tryz.prog 16 [] [.val pt2] noG (fun _ => True) outGen := by
  refine fn_of_vc (sp := sps [spNumber]) (sps_cons (fnSpec_ok fn_number) sps_nil) mixed ent_gen (by decide) (by decide) ?_
  rintro w M0 ⟨⟩ _ _
  exact vcx (X := (True ∧ True ∧ (((gx, gy), ()) : (F2 × F2) × Unit) = outGen ())) (by kernel_rfl) ⟨trivial, trivial, rfl⟩
noncomputable def spGen : Nat × Eng.Spec := (16, fnSpec [] [.val pt2] (fun _ => True) outGen)
end Go.Proofs.YtoflhakneklimaaGreat.g2
/- g2: points without a division. -/
namespace Go.Proofs.YtoflhakneklimaaGreat.g2
set_option maxRecDepth 100000
open Go Go.Eng Go.RowKit Cr Go.Proofs.YtoflhakneklimaaGreat Go.Proofs.YtoflhakneklimaaGreat.fp2
abbrev bk : Kd := .pair f2 (.pair f2 f2)
theorem eqP2 (a b : F2 × F2) : eqC (.pair (.pair .fp .fp) (.pair .fp .fp)) a b = decide (a = b) := by
  have h := eqC_iff (e := .pair (.pair .fp .fp) (.pair .fp .fp)) a b
  rw [Bool.eq_iff_iff, h, decide_eq_true_iff]

theorem ent_lift : enters Tryz.prog 67 Tryz.f67 := enters_mk (by kernel_rfl) (by kernel_rfl) (by kernel_rfl)
noncomputable abbrev outLift : HL [pt2] → HO [.val bk] := fun (p, _) => (jlift (F := F2) p, ())
theorem fn_lift : FnOk Tryz.prog 67 [pt2] [.val bk] noG (fun _ => True) outLift := by
  refine fn_of_vc (sp := sps [fp2.spSmall]) (sps_cons (fnSpec_ok fp2.fn_small) sps_nil) mixed ent_lift (by decide) (by decide) ?_
  rintro w M0 ⟨p, ⟨⟩⟩
  revert p
  intro (p : F2 × F2) _ _
  refine vcx (X := ((eqC ((Kd.fp.pair Kd.fp).pair (Kd.fp.pair Kd.fp)) p (((0 : Fp), (0 : Fp)), (0 : Fp), (0 : Fp)) = true → ((((0 : Fp), (0 : Fp)), ((0 : Fp), (0 : Fp)), (0 : Fp), (0 : Fp)), ()) = outLift (p, ())) ∧ (eqC ((Kd.fp.pair Kd.fp).pair (Kd.fp.pair Kd.fp)) p (((0 : Fp), (0 : Fp)), (0 : Fp), (0 : Fp)) = false → (U64 (1 : Int) ∧ U64 (0 : Int)) ∧ ((p.fst, p.snd, zmp (1 : Int), zmp (0 : Int)), ()) = outLift (p, ())))) (by kernel_rfl) ?_
  rw [eqP2]
  refine ⟨fun h => ?_, fun h => ⟨⟨by constructor <;> decide, by constructor <;> decide⟩, ?_⟩⟩
  · show _ = (jlift p, ())
    unfold jlift
    rw [if_pos (show p = O2 from of_decide_eq_true h)]; rfl
  · show _ = (jlift p, ())
    unfold jlift
    rw [if_neg (show ¬ p = O2 from of_decide_eq_false h)]; rfl
noncomputable def spLift : Nat × Eng.Spec := (67, fnSpec [pt2] [.val bk] (fun _ => True) outLift)

theorem ent_point : enters Tryz.prog 70 Tryz.f70 := enters_mk (by kernel_rfl) (by kernel_rfl) (by kernel_rfl)
noncomputable abbrev outPoint : HL [bk] → HO [.val pt2] := fun (a, _) => (jpoint (F := F2) a, ())
theorem fn_point : FnOk Tryz.prog 70 [bk] [.val pt2] noG (fun _ => True) outPoint := by
  refine fn_of_vc (sp := sps [fp2.spZero, fp2.spInv, fp2.spSquare, fp2.spMul]) (sps_cons (fnSpec_ok fp2.fn_zero) (sps_cons (fnSpec_ok fp2.fn_inv) (sps_cons (fnSpec_ok fp2.fn_square) (sps_cons (fnSpec_ok fp2.fn_mul) sps_nil)))) mixed ent_point (by decide) (by decide) ?_
  rintro w M0 ⟨a, ⟨⟩⟩
  revert a
  intro (a : F2 × F2 × F2) _ _
  refine vcx (X := (True ∧ (decide (a.2.2 = 0) = true → (((0 : F2), (0 : F2)), ()) = outPoint (a, ())) ∧ (decide (a.2.2 = 0) = false → Trs 5 (((a.1 * (inv2 a.2.2 * inv2 a.2.2), a.2.1 * (inv2 a.2.2 * inv2 a.2.2) * inv2 a.2.2), ()) = outPoint (a, ()))))) (by kernel_rfl) ?_
  refine ⟨trivial, fun h => ?_, fun h => trs ?_ _⟩
  · show _ = (jpoint a, ())
    unfold jpoint
    rw [if_pos (of_decide_eq_true h)]
  · show _ = (jpoint a, ())
    unfold jpoint
    rw [if_neg (of_decide_eq_false h)]
    rfl
noncomputable def spPoint : Nat × Eng.Spec := (70, fnSpec [bk] [.val pt2] (fun _ => True) outPoint)

theorem ent_double : enters Tryz.prog 69 Tryz.f69 := enters_mk (by kernel_rfl) (by kernel_rfl) (by kernel_rfl)
noncomputable abbrev outDouble : HL [bk] → HO [.val bk] := fun (a, _) => (jdbl (F := F2) a, ())
theorem fn_double : FnOk Tryz.prog 69 [bk] [.val bk] noG (fun _ => True) outDouble := by
  refine fn_of_vc (sp := sps [fp2.spZero, fp2.spAdd, fp2.spSub, fp2.spSquare, fp2.spMul]) (sps_cons (fnSpec_ok fp2.fn_zero) (sps_cons (fnSpec_ok fp2.fn_add) (sps_cons (fnSpec_ok fp2.fn_sub) (sps_cons (fnSpec_ok fp2.fn_square) (sps_cons (fnSpec_ok fp2.fn_mul) sps_nil))))) mixed ent_double (by decide) (by decide) ?_
  rintro w M0 ⟨a, ⟨⟩⟩
  revert a
  intro (a : F2 × F2 × F2) _ _
  refine vcx (X := (True ∧ (decide (a.2.2 = 0) = true → (((0 : F2), (0 : F2), (0 : F2)), ()) = outDouble (a, ())) ∧ (decide (a.2.2 = 0) = false → Trs 18 ((jdbN a, ()) = outDouble (a, ()))))) (by kernel_rfl) ?_
  refine ⟨trivial, fun h => ?_, fun h => trs ?_ _⟩
  · show _ = (jdbl a, ())
    unfold jdbl
    rw [if_pos (of_decide_eq_true h)]
  · show _ = (jdbl a, ())
    unfold jdbl
    rw [if_neg (of_decide_eq_false h)]
noncomputable def spDouble : Nat × Eng.Spec := (69, fnSpec [bk] [.val bk] (fun _ => True) outDouble)

theorem ent_add : enters Tryz.prog 68 Tryz.f68 := enters_mk (by kernel_rfl) (by kernel_rfl) (by kernel_rfl)
noncomputable abbrev outAdd : HL [bk, bk] → HO [.val bk] := fun (a, b, _) => (jadd (F := F2) a b, ())
noncomputable abbrev wd (a b : F2 × F2 × F2) : F2 := b.1 * (a.2.2 * a.2.2) - a.1 * (b.2.2 * b.2.2)
noncomputable abbrev rs (a b : F2 × F2 × F2) : F2 := b.2.1 * (a.2.2 * a.2.2) * a.2.2 - a.2.1 * (b.2.2 * b.2.2) * b.2.2
theorem fn_add : FnOk Tryz.prog 68 [bk, bk] [.val bk] noG (fun _ => True) outAdd := by
  refine fn_of_vc (sp := sps [fp2.spZero, fp2.spSub, fp2.spSquare, fp2.spMul, spDouble]) (sps_cons (fnSpec_ok fp2.fn_zero) (sps_cons (fnSpec_ok fp2.fn_sub) (sps_cons (fnSpec_ok fp2.fn_square) (sps_cons (fnSpec_ok fp2.fn_mul) (sps_cons (fnSpec_ok fn_double) sps_nil))))) mixed ent_add (by decide) (by decide) ?_
  rintro w M0 ⟨a, b, ⟨⟩⟩
  revert a b
  intro (a : F2 × F2 × F2) (b : F2 × F2 × F2) _ _
  refine vcx (X := (True ∧ (decide (a.2.2 = 0) = true → (b, ()) = outAdd (a, b, ())) ∧ (decide (a.2.2 = 0) = false → True ∧ (decide (b.2.2 = 0) = true → (a, ()) = outAdd (a, b, ())) ∧ (decide (b.2.2 = 0) = false →
    Trs 11 ((decide (wd a b = 0) = true → True ∧ (decide (rs a b = 0) = true → True ∧ (jdbl (F := F2) a, ()) = outAdd (a, b, ())) ∧ (decide (rs a b = 0) = false → (((0 : F2), (0 : F2), (0 : F2)), ()) = outAdd (a, b, ()))) ∧
      (decide (wd a b = 0) = false → Trs 13 ((jfin (F := F2) (wd a b) (rs a b) (a.1 * (b.2.2 * b.2.2)) (a.2.1 * (b.2.2 * b.2.2) * b.2.2) a.2.2 b.2.2, ()) = outAdd (a, b, ())))))))) (by kernel_rfl) ?_
  refine ⟨trivial, fun h => ?_, fun h => ⟨trivial, fun h2 => ?_, fun h2 => trs ⟨fun h3 => ⟨trivial, fun h4 => ⟨trivial, ?_⟩, fun h4 => ?_⟩, fun h3 => trs ?_ _⟩ _⟩⟩
  all_goals show _ = (jadd a b, ())
  all_goals unfold jadd
  · rw [if_pos (of_decide_eq_true h)]
  · rw [if_neg (of_decide_eq_false h), if_pos (of_decide_eq_true h2)]
  · rw [if_neg (of_decide_eq_false h), if_neg (of_decide_eq_false h2), if_pos (of_decide_eq_true h3), if_pos (of_decide_eq_true h4)]
  · rw [if_neg (of_decide_eq_false h), if_neg (of_decide_eq_false h2), if_pos (of_decide_eq_true h3), if_neg (of_decide_eq_false h4)]
  · rw [if_neg (of_decide_eq_false h), if_neg (of_decide_eq_false h2), if_neg (of_decide_eq_false h3)]
noncomputable def spAdd : Nat × Eng.Spec := (68, fnSpec [bk, bk] [.val bk] (fun _ => True) outAdd)
end Go.Proofs.YtoflhakneklimaaGreat.g2
/- g2: Sum, Add, Neg, On. -/
namespace Go.Proofs.YtoflhakneklimaaGreat.g2
set_option maxRecDepth 100000
open Go Go.Eng Go.RowKit Cr Go.Proofs.YtoflhakneklimaaGreat Go.Proofs.YtoflhakneklimaaGreat.fp2

abbrev bc (s : F2 × F2 × F2) : List Cell := [.row .fp 1 [s.1.1], .row .fp 1 [s.1.2], .row .fp 1 [s.2.1.1], .row .fp 1 [s.2.1.2], .row .fp 1 [s.2.2.1], .row .fp 1 [s.2.2.2]]
abbrev pc (s : F2 × F2) : List Cell := [.row .fp 1 [s.1.1], .row .fp 1 [s.1.2], .row .fp 1 [s.2.1], .row .fp 1 [s.2.2]]
theorem ent_sum : enters Tryz.prog 51 Tryz.f51 := enters_mk (by kernel_rfl) (by kernel_rfl) (by kernel_rfl)
noncomputable def sumI (ps : List (F2 × F2)) (g : Int × (F2 × F2 × F2)) : St := mkSt Tryz.f51.ntmps 40 [(2, .is (.one (.ptr 0 0))), (3, .is (.one (.ptr 8 0))), (6, .is (.one (.ro pt2 ps))), (7, sI .i64 ps.length), (8, sI .i64 g.1)] [(8, bc g.2), (0, pc (0, 0))]
noncomputable def sumN (ps : List (F2 × F2)) (g : Int × (F2 × F2 × F2)) : Int × (F2 × F2 × F2) := (IntKind.i64.wrap (g.1 + 1), jadd (F := F2) g.2 (jlift (F := F2) (ps.getD g.1.toNat (0, 0))))
abbrev preSum : HL [.sl pt2] → Prop := fun (ps, _) => List.length ps < 4611686018427387904
noncomputable abbrev outSum : HL [.sl pt2] → HO [.val pt2] := fun (ps, _) => (jpoint (F := F2) (jsm ps (List.length ps)), ())
theorem fn_sum : FnOk Tryz.prog 51 [.sl pt2] [.val pt2] noG preSum outSum := by
  have hsp : SpecsOk Tryz.prog (sps [spLift, spAdd, spPoint]) := sps_cons (fnSpec_ok fn_lift) (sps_cons (fnSpec_ok fn_add) (sps_cons (fnSpec_ok fn_point) sps_nil))
  refine fn_of_tr (sp := sps [spLift, spAdd, spPoint]) ent_sum (by decide) (by decide) (by kernel_rfl) ?_
  rintro w M0 ⟨ps, ⟨⟩⟩
  revert ps
  intro (ps : List (F2 × F2)) _ hl
  have hl : ps.length < 4611686018427387904 := hl
  show Tr _ _ _ _ _ _ _
  refine tr_cut hsp mixed 3 (sumI ps (0, jsm ps 0)) True ?_ (fun _ => ?_)
  · exact vcx (X := (sumI ps (0, jsm ps 0)).triv True) (by kernel_rfl) (triv_intro trivial)
  refine tr_count hsp mixed (sumI ps) (fun k => ((k : Int), jsm ps k)) ps.length (sumN ps) (sumI ps) (c := nthC (codeOf Tryz.f51) 3) (by kernel_rfl) (by kernel_rfl) (le_of_proj (by kernel_rfl) (by kernel_rfl) trivial)
    (fun k hk => by show (_, _) = (_, _); rw [wrap_succ (by omega)]; rfl) ?_ ?_
  · intro k hk
    generalize hs : jsm ps k = s
    refine vcx (X := ((decide ((k : Int) < (ps.length : Int)) = true → (0 ≤ (k : Int) ∧ (k : Int) < (ps.length : Int)) ∧ (k : Int).toNat < ps.length ∧ True ∧ True ∧ (sumI ps (sumN ps ((k : Int), s))).triv (k < ps.length)) ∧
      (decide ((k : Int) < (ps.length : Int)) = false → (sumI ps ((k : Int), s)).triv (k = ps.length)))) (by kernel_rfl) ?_
    refine ⟨fun h => ?_, fun h => triv_intro (by have := dec_ge h; omega)⟩
    have hlt : k < ps.length := by have := dec_lt h; omega
    exact ⟨⟨by omega, by omega⟩, by omega, trivial, trivial, triv_intro hlt⟩
  · refine tr_vc hsp mixed _ _ ?_
    exact vcx (X := (True ∧ (jpoint (F := F2) (jsm ps ps.length), ()) = outSum (ps, ()))) (by kernel_rfl) ⟨trivial, rfl⟩
noncomputable def spSum : Nat × Eng.Spec := (51, fnSpec [.sl pt2] [.val pt2] preSum outSum)

theorem ent_padd : enters Tryz.prog 29 Tryz.f29 := enters_mk (by kernel_rfl) (by kernel_rfl) (by kernel_rfl)
noncomputable abbrev outPAdd : HL [pt2, pt2] → HO [.val pt2] := fun (p, q, _) => (jpoint (F := F2) (jsm [p, q] 2), ())
theorem fn_padd : FnOk Tryz.prog 29 [pt2, pt2] [.val pt2] noG (fun _ => True) outPAdd := by
  refine fn_of_vc (sp := sps [spSum]) (sps_cons (fnSpec_ok fn_sum) sps_nil) mixed ent_padd (by decide) (by decide) ?_
  rintro w M0 ⟨p, q, ⟨⟩⟩
  revert p q
  intro (p : F2 × F2) (q : F2 × F2) _ _
  refine vcx (X := ((0 + 2 : Nat) ≤ 2 ∧ preSum ([p, q], ()) ∧ outSum ([p, q], ()) = outPAdd (p, q, ()))) (by kernel_rfl) ?_
  exact ⟨by decide, show (2 : Nat) < 4611686018427387904 by decide, rfl⟩
noncomputable def spPAdd : Nat × Eng.Spec := (29, fnSpec [pt2, pt2] [.val pt2] (fun _ => True) outPAdd)

noncomputable abbrev outPNeg : HL [pt2] → HO [.val pt2] := fun (p, _) => (pneg (F := F2) p, ())
/-- The curve: y^2 = x^3 + 4 + 4 i. -/
def b4 : F2 := (zm 4, zm 4)
noncomputable def isOn (p : F2 × F2) : Bool := decide (p = ((0 : F2), (0 : F2))) || decide (p.2 * p.2 = p.1 * p.1 * p.1 + b4)
theorem isOn_iff (p : F2 × F2) : isOn p = true ↔ OnP b4 p := by
  unfold isOn OnP On
  simp
noncomputable abbrev outOn : HL [pt2] → HO [.val .bool] := fun (p, _) => (isOn p, ())
end Go.Proofs.YtoflhakneklimaaGreat.g2
/- g2: Times. -/
namespace Go.Proofs.YtoflhakneklimaaGreat.g2
set_option maxRecDepth 100000
open Go Go.Eng Go.RowKit Cr Go.Proofs.YtoflhakneklimaaGreat Go.Proofs.YtoflhakneklimaaGreat.fp2

abbrev Jp := F2 × F2 × F2
noncomputable def tmI (k : List Int) (o : Jp) (g : Int × List Jp) : St := mkSt Tryz.f38.ntmps 64 [(1, .is (.one (.ro (.int .u8) k))), (4, .is (.one (.ptr 8 0))), (5, .is (.one (.ptr 16 0))), (6, .is (.one (.ptr 40 0))), (15, sI .i64 g.1)] [(40, bc o), (16, [.row bk 16 g.2]), (8, pc (0, 0))]
noncomputable def tmS (k : List Int) (tb : List Jp) (s : Jp) (nx : Nat) (xs : List (Nat × SV)) : St := mkSt Tryz.f38.ntmps nx ([(4, .is (.one (.ptr 8 0))), (5, .is (.one (.ptr 16 0))), (8, .is (.one (.ptr 64 0))), (27, .is (.one (.ro (.int .u8) k))), (28, sI .i64 k.length)] ++ xs) [(64, bc s), (16, [.row bk 16 tb]), (8, pc (0, 0))]
noncomputable abbrev tmJ (k : List Int) (tb : List Jp) (g : Int × Jp) : St := tmS k tb g.2 96 [(29, sI .i64 g.1)]
noncomputable abbrev tmK (k : List Int) (tb : List Jp) (i : Int) (ds : List Int) (g : Int × Jp) : St := tmS k tb g.2 168 [(29, sI .i64 i), (37, .is (.agg [.ints .u8 2 ds])), (38, sI .i64 g.1)]
noncomputable abbrev tmL (k : List Int) (tb : List Jp) (i : Int) (ds : List Int) (j d : Int) (g : Int × Jp) : St := tmS k tb g.2 184 [(29, sI .i64 i), (37, .is (.agg [.ints .u8 2 ds])), (38, sI .i64 j), (12, sI .u8 d), (41, sI .i64 g.1)]

theorem ent_times : enters Tryz.prog 38 Tryz.f38 := enters_mk (by kernel_rfl) (by kernel_rfl) (by kernel_rfl)
abbrev preTimes : HL [pt2, .sl (.int .u8)] → Prop := fun (_, k, _) => Bs k ∧ List.length k < 4611686018427387904
noncomputable abbrev outTimes : HL [pt2, .sl (.int .u8)] → HO [.val pt2] := fun (p, k, _) => (jpoint (F := F2) (jtm (tabAt (jt (jlift (F := F2) p)) (0, 0, 0) 15) k (List.length k)), ())
theorem fn_times : FnOk Tryz.prog 38 [pt2, .sl (.int .u8)] [.val pt2] noG preTimes outTimes := by
  have hsp : SpecsOk Tryz.prog (sps [spLift, spAdd, spPoint, spDouble]) := sps_cons (fnSpec_ok fn_lift) (sps_cons (fnSpec_ok fn_add) (sps_cons (fnSpec_ok fn_point) (sps_cons (fnSpec_ok fn_double) sps_nil)))
  refine fn_of_tr (sp := sps [spLift, spAdd, spPoint, spDouble]) ent_times (by decide) (by decide) (by kernel_rfl) ?_
  rintro w M0 ⟨p, k, ⟨⟩⟩
  revert p k
  intro (p : F2 × F2) (k : List Int) _ hp
  obtain ⟨hk, hl⟩ := hp
  have hk : Bs k := hk
  have hl : k.length < 4611686018427387904 := hl
  show Tr _ _ _ _ _ _ _
  refine tr_cut hsp mixed 4 (tmI k (jlift (F := F2) p) (0, tabAt (jt (jlift (F := F2) p)) (0, 0, 0) 0)) True ?_ (fun _ => ?_)
  · exact vcx (X := (True ∧ (tmI k (jlift (F := F2) p) (0, tabAt (jt (jlift (F := F2) p)) (0, 0, 0) 0)).triv True)) (by kernel_rfl) ⟨trivial, triv_intro trivial⟩
  generalize ho : jlift (F := F2) p = o
  refine tr_count hsp mixed (tmI k o) (fun n => ((n : Int), tabAt (jt o) (0, 0, 0) n)) 15 (fun g => (IntKind.i64.wrap (g.1 + 1), g.2.set (IntKind.i64.wrap (g.1 + 1)).toNat (jadd (F := F2) (g.2.getD g.1.toNat (0, 0, 0)) o))) (tmI k o) (c := nthC (codeOf Tryz.f38) 4) (by kernel_rfl) (by kernel_rfl) (le_of_proj (by kernel_rfl) (by kernel_rfl) trivial)
    (fun n hn => by
      show (_, _) = (_, _)
      rw [wrap_succ (by omega), Int.toNat_natCast, Int.toNat_natCast, tabAt_get _ _ _ (Nat.le_refl n) (by omega), show jadd (F := F2) (jt o n) o = jt o (n + 1) from rfl, tabAt_set]) ?_ ?_
  · intro n hn
    generalize tabAt (jt o) (0, 0, 0) n = tb
    refine vcx (X := ((decide ((n : Int) < 15) = true → (0 ≤ (n : Int) ∧ (n : Int) < ((16 : Nat) : Int)) ∧ (n : Int).toNat < 16 ∧ True ∧ (0 ≤ IntKind.i64.wrap ((n : Int) + 1) ∧ IntKind.i64.wrap ((n : Int) + 1) < ((16 : Nat) : Int)) ∧ (IntKind.i64.wrap ((n : Int) + 1)).toNat < 16 ∧
        (tmI k o (IntKind.i64.wrap ((n : Int) + 1), tb.set (IntKind.i64.wrap ((n : Int) + 1)).toNat (jadd (F := F2) (tb.getD (n : Int).toNat (0, 0, 0)) o))).triv (n < 15)) ∧
      (decide ((n : Int) < 15) = false → (tmI k o ((n : Int), tb)).triv (n = 15)))) (by kernel_rfl) ?_
    refine ⟨fun h => ?_, fun h => triv_intro (by have := dec_ge h; omega)⟩
    have hlt : n < 15 := by have := dec_lt h; omega
    rw [wrap_succ (by omega)]
    exact ⟨⟨by omega, by omega⟩, by omega, trivial, ⟨by omega, by omega⟩, by omega, triv_intro hlt⟩
  subst ho
  show Tr _ _ _ _ _ _ _
  generalize htb : tabAt (jt (jlift (F := F2) p)) (0, 0, 0) 15 = tb
  refine tr_cut hsp mixed 2 (tmJ k tb (0, jtm tb k 0)) True ?_ (fun _ => ?_)
  · exact vcx (X := (tmJ k tb (0, jtm tb k 0)).triv True) (by kernel_rfl) (triv_intro trivial)
  refine tr_countT (tmJ k tb) (fun i => ((i : Int), jtm tb k i)) k.length (fun g => (IntKind.i64.wrap (g.1 + 1), jby tb g.2 (k.getD g.1.toNat 0))) (tmJ k tb) (c := nthC (codeOf Tryz.f38) 7) (by kernel_rfl) (by kernel_rfl) (le_of_proj (by kernel_rfl) (by kernel_rfl) trivial)
    (fun i hi => by show (_, _) = (_, _); rw [wrap_succ (by omega), Int.toNat_natCast]; rfl) ?_ ?_
  · intro i hi
    generalize jtm tb k i = s
    refine tr_cut hsp mixed 2 (tmJ k tb ((i : Int), s)) (i < k.length) ?_ (fun hlt => ?_)
    · refine vcx (X := ((decide ((i : Int) < (k.length : Int)) = true → (tmJ k tb ((i : Int), s)).triv (i < k.length)) ∧ (decide ((i : Int) < (k.length : Int)) = false → (tmJ k tb ((i : Int), s)).triv (i = k.length)))) (by kernel_rfl) ?_
      exact ⟨fun h => triv_intro (by have := dec_lt h; omega), fun h => triv_intro (by have := dec_ge h; omega)⟩
    have hb : 0 ≤ k.getD i 0 ∧ k.getD i 0 < 256 := by
      have : k.getD i 0 ∈ k := by rw [List.getD_eq_getElem?_getD, List.getElem?_eq_getElem hlt]; exact List.getElem_mem hlt
      exact hk _ this
    have hbi : k.getD (i : Int).toNat 0 = k.getD i 0 := by rw [Int.toNat_natCast]
    generalize hbb : k.getD i 0 = b at hb hbi
    obtain ⟨_, d1, d2⟩ := dh_ok hb.1 hb.2
    obtain ⟨_, d3, d4⟩ := dl_ok hb.1 hb.2
    refine tr_block (c := nthC (loopOf (nthC (codeOf Tryz.f38) 7)) 2) (by kernel_rfl) (by kernel_rfl) ?_
    refine tr_cut hsp mixed 2 (tmK k tb (i : Int) [dh (k.getD (i : Int).toNat 0), dl (k.getD (i : Int).toNat 0)] (0, jsd tb [dh b, dl b] s 0)) True ?_ (fun _ => ?_)
    · refine vcx (X := ((0 ≤ (i : Int) ∧ (i : Int) < (k.length : Int)) ∧ (i : Int).toNat < k.length ∧ (0 : Int) ≤ 4 ∧ (tmK k tb (i : Int) [dh (k.getD (i : Int).toNat 0), dl (k.getD (i : Int).toNat 0)] (0, jsd tb [dh b, dl b] s 0)).triv True)) (by kernel_rfl) ?_
      exact ⟨⟨by omega, by omega⟩, by omega, by decide, triv_intro trivial⟩
    rw [hbi]
    generalize hds : [dh b, dl b] = ds
    have hdd : ∀ j, j < 2 → 0 ≤ ds.getD j 0 ∧ ds.getD j 0 < 16 := by
      intro j hj
      subst hds
      match j, hj with
      | 0, _ => exact ⟨d1, d2⟩
      | 1, _ => exact ⟨d3, d4⟩
    refine tr_countT (tmK k tb (i : Int) ds) (fun j => ((j : Int), jsd tb ds s j)) 2 (fun g => (IntKind.i64.wrap (g.1 + 1), jst tb g.2 (ds.getD g.1.toNat 0))) (tmK k tb (i : Int) ds) (c := nthC (bodyOf (nthC (loopOf (nthC (codeOf Tryz.f38) 7)) 2)) 2) (by kernel_rfl) (by kernel_rfl) (le_of_proj (by kernel_rfl) (by kernel_rfl) trivial)
      (fun j hj => by show (_, _) = (_, _); rw [wrap_succ (by omega), Int.toNat_natCast]; rfl) ?_ ?_
    · intro j hj
      generalize jsd tb ds s j = y
      refine tr_cut hsp mixed 2 (tmK k tb (i : Int) ds ((j : Int), y)) (j < 2) ?_ (fun hj2 => ?_)
      · refine vcx (X := ((decide ((j : Int) < 2) = true → (tmK k tb (i : Int) ds ((j : Int), y)).triv (j < 2)) ∧ (decide ((j : Int) < 2) = false → (tmK k tb (i : Int) ds ((j : Int), y)).triv (j = 2)))) (by kernel_rfl) ?_
        exact ⟨fun h => triv_intro (by have := dec_lt h; omega), fun h => triv_intro (by have := dec_ge h; omega)⟩
      have hd := hdd j hj2
      have hdj : ds.getD (j : Int).toNat 0 = ds.getD j 0 := by rw [Int.toNat_natCast]
      generalize ds.getD j 0 = d at hd hdj
      refine tr_block (c := nthC (loopOf (nthC (bodyOf (nthC (loopOf (nthC (codeOf Tryz.f38) 7)) 2)) 2)) 2) (by kernel_rfl) (by kernel_rfl) ?_
      refine tr_cut hsp mixed 2 (tmL k tb (i : Int) ds (j : Int) (ds.getD (j : Int).toNat 0) (0, jdn y 0)) True ?_ (fun _ => ?_)
      · refine vcx (X := ((0 ≤ (j : Int) ∧ (j : Int) < ((2 : Nat) : Int)) ∧ (tmL k tb (i : Int) ds (j : Int) (ds.getD (j : Int).toNat 0) (0, jdn y 0)).triv True)) (by kernel_rfl) ?_
        exact ⟨⟨by omega, by omega⟩, triv_intro trivial⟩
      rw [hdj]
      refine tr_count hsp mixed (tmL k tb (i : Int) ds (j : Int) d) (fun n => ((n : Int), jdn y n)) 4 (fun g => (IntKind.i64.wrap (g.1 + 1), jdbl (F := F2) g.2)) (tmL k tb (i : Int) ds (j : Int) d) (c := nthC (bodyOf (nthC (loopOf (nthC (bodyOf (nthC (loopOf (nthC (codeOf Tryz.f38) 7)) 2)) 2)) 2)) 2) (by kernel_rfl) (by kernel_rfl) (le_of_proj (by kernel_rfl) (by kernel_rfl) trivial)
        (fun n hn => by show (_, _) = (_, _); rw [wrap_succ (by omega)]; rfl) ?_ ?_
      · intro n hn
        generalize jdn y n = z
        refine vcx (X := ((decide ((n : Int) < 4) = true → True ∧ (tmL k tb (i : Int) ds (j : Int) d (IntKind.i64.wrap ((n : Int) + 1), jdbl (F := F2) z)).triv (n < 4)) ∧ (decide ((n : Int) < 4) = false → (tmL k tb (i : Int) ds (j : Int) d ((n : Int), z)).triv (n = 4)))) (by kernel_rfl) ?_
        exact ⟨fun h => ⟨trivial, triv_intro (by have := dec_lt h; omega)⟩, fun h => triv_intro (by have := dec_ge h; omega)⟩
      refine tr_cut hsp mixed 1 (tmK k tb (i : Int) ds ((j : Int), jst tb y d)) True ?_ (fun _ => ?_)
      · refine vcx (X := ((0 ≤ d ∧ d < ((16 : Nat) : Int)) ∧ d.toNat < 16 ∧ True ∧ (tmK k tb (i : Int) ds ((j : Int), jst tb y d)).triv True)) (by kernel_rfl) ?_
        exact ⟨⟨hd.1, by omega⟩, by omega, trivial, triv_intro trivial⟩
      refine tr_nil ?_
      refine tr_vc hsp mixed _ _ ?_
      exact vcx (X := (tmK k tb (i : Int) ds (IntKind.i64.wrap ((j : Int) + 1), jst tb y d)).triv (j < 2)) (by kernel_rfl) (triv_intro hj2)
    refine tr_nil ?_
    refine tr_vc hsp mixed _ _ ?_
    have ey : jby tb s b = jsd tb ds s 2 := by unfold jby; rw [hds]
    show VC _ _ _ (fun σ' => σ'.le _ (tmJ k tb (IntKind.i64.wrap ((i : Int) + 1), jby tb s b)) (i < k.length)) _ _
    rw [ey]
    generalize jsd tb ds s 2 = z
    exact vcx (X := (tmJ k tb (IntKind.i64.wrap ((i : Int) + 1), z)).triv (i < k.length)) (by kernel_rfl) (triv_intro hlt)
  · refine tr_vc hsp mixed _ _ ?_
    refine vcx (X := (True ∧ (jpoint (F := F2) (jtm tb k k.length), ()) = outTimes (p, k, ()))) (by kernel_rfl) ⟨trivial, ?_⟩
    show _ = (jpoint (F := F2) (jtm (tabAt (jt (jlift (F := F2) p)) (0, 0, 0) 15) k k.length), ())
    rw [htb]
noncomputable def spTimes : Nat × Eng.Spec := (38, fnSpec [pt2, .sl (.int .u8)] [.val pt2] preTimes outTimes)
end Go.Proofs.YtoflhakneklimaaGreat.g2
/- g2: Mul. -/
namespace Go.Proofs.YtoflhakneklimaaGreat.g2
set_option maxRecDepth 100000
open Go Go.Eng Go.RowKit Cr Go.Proofs.YtoflhakneklimaaGreat Go.Proofs.YtoflhakneklimaaGreat.fp2
noncomputable def tms (p : F2 × F2) (k : List Int) : F2 × F2 := jpoint (F := F2) (jtm (tabAt (jt (jlift (F := F2) p)) (0, 0, 0) 15) k (List.length k))
noncomputable def pml (p : F2 × F2) (k : Fr) : F2 × F2 := tms p (bytesN 32 k.v)
theorem ent_pmul : enters Tryz.prog 17 Tryz.f17 := enters_mk (by kernel_rfl) (by kernel_rfl) (by kernel_rfl)
noncomputable abbrev outPMul : HL [pt2, .fr] → HO [.val pt2] := fun (p, k, _) => (pml p k, ())
theorem fn_pmul : FnOk Tryz.prog 17 [pt2, .fr] [.val pt2] noG (fun _ => True) outPMul := by
  refine fn_of_vc (sp := sps [fr.spBytes, spTimes]) (sps_cons (fnSpec_ok fr.fn_bytes) (sps_cons (fnSpec_ok fn_times) sps_nil)) mixed ent_pmul (by decide) (by decide) ?_
  rintro w M0 ⟨p, k, ⟨⟩⟩
  revert p k
  intro (p : F2 × F2) (k : Fr) _ _
  refine vcx (X := (True ∧ (0 : Nat) + 32 ≤ 32 ∧ preTimes (p, (bytesN 32 k.v).take 32, ()) ∧ (tms p ((bytesN 32 k.v).take 32), ()) = outPMul (p, k, ()))) (by kernel_rfl) ?_
  rw [List.take_of_length_le (by rw [bytesN_length]; exact Nat.le_refl _)]
  exact ⟨trivial, by decide, ⟨bytesN_Bs _ _, by show (bytesN 32 k.v).length < _; rw [bytesN_length]; decide⟩, rfl⟩
noncomputable def spPMul : Nat × Eng.Spec := (17, fnSpec [pt2, .fr] [.val pt2] (fun _ => True) outPMul)

end Go.Proofs.YtoflhakneklimaaGreat.g2
/- g2: the same contracts, for laws: what is computed is not unfolded; what it is on points of the curve. -/
namespace Go.Proofs.YtoflhakneklimaaGreat.g2
set_option maxRecDepth 100000
open Go Go.Eng Go.RowKit Cr Go.Proofs.YtoflhakneklimaaGreat Go.Proofs.YtoflhakneklimaaGreat.fp2
theorem b4_ne : b4 ≠ 0 := fun h => absurd (congrArg Prod.fst h) (by decide)
noncomputable def gG : F2 × F2 := opq (gx, gy)
noncomputable def gadd (p q : F2 × F2) : F2 × F2 := opq (jpoint (F := F2) (jsm [p, q] 2))
noncomputable def gsum (ps : List (F2 × F2)) : F2 × F2 := opq (jpoint (F := F2) (jsm ps ps.length))
noncomputable def gneg (p : F2 × F2) : F2 × F2 := opq (pneg (F := F2) p)
noncomputable def gtms (p : F2 × F2) (k : List Int) : F2 × F2 := opq (tms p k)
noncomputable def gmul (p : F2 × F2) (k : Fr) : F2 × F2 := opq (pml p k)
noncomputable def gon (p : F2 × F2) : Bool := opq (isOn p)

theorem fo_gen : FnOk Tryz.prog 16 [] [.val pt2] noG (fun _ => True) (fun _ => (gG, ())) := fn_gen.out fun _ => by show (gG, ()) = ((gx, gy), ()); rw [gG, opq_eq]
theorem fo_add : FnOk Tryz.prog 29 [pt2, pt2] [.val pt2] noG (fun _ => True) (fun (p, q, _) => (gadd p q, ())) := fn_padd.out fun (p, q, _) => by show (gadd p q, ()) = (_, ()); rw [gadd, opq_eq]
theorem fo_sum : FnOk Tryz.prog 51 [.sl pt2] [.val pt2] noG preSum (fun (ps, _) => (gsum ps, ())) := fn_sum.out fun (ps, _) => by show (gsum ps, ()) = (_, ()); rw [gsum, opq_eq]
theorem fo_times : FnOk Tryz.prog 38 [pt2, .sl (.int .u8)] [.val pt2] noG preTimes (fun (p, k, _) => (gtms p k, ())) := fn_times.out fun (p, k, _) => by show (gtms p k, ()) = (_, ()); rw [gtms, opq_eq]; rfl
theorem fo_mul : FnOk Tryz.prog 17 [pt2, .fr] [.val pt2] noG (fun _ => True) (fun (p, k, _) => (gmul p k, ())) := fn_pmul.out fun (p, k, _) => by show (gmul p k, ()) = (_, ()); rw [gmul, opq_eq]
noncomputable def soGen : Nat × Eng.Spec := (16, fnSpec [] [.val pt2] (fun _ => True) (fun _ => (gG, ())))
noncomputable def soAdd : Nat × Eng.Spec := (29, fnSpec [pt2, pt2] [.val pt2] (fun _ => True) (fun (p, q, _) => (gadd p q, ())))
noncomputable def soSum : Nat × Eng.Spec := (51, fnSpec [.sl pt2] [.val pt2] preSum (fun (ps, _) => (gsum ps, ())))
noncomputable def soTimes : Nat × Eng.Spec := (38, fnSpec [pt2, .sl (.int .u8)] [.val pt2] preTimes (fun (p, k, _) => (gtms p k, ())))
noncomputable def soMul : Nat × Eng.Spec := (17, fnSpec [pt2, .fr] [.val pt2] (fun _ => True) (fun (p, k, _) => (gmul p k, ())))
abbrev Onb (p : F2 × F2) : Prop := OnP b4 p
theorem gG_eq : gG = (gx, gy) := opq_eq _
theorem gG_on : Onb gG := by
  rw [gG_eq]
  refine .inr ?_
  show gy * gy = gx * gx * gx + b4
  refine F2.ext ?_ ?_
  · simp only [F2.mul1, F2.mul2, F2.add1]; decide +kernel
  · simp only [F2.mul1, F2.mul2, F2.add2]; decide +kernel
theorem gadd_eq {p q : F2 × F2} (hp : Onb p) (hq : Onb q) : gadd p q = padd p q := by rw [gadd, opq_eq]; exact add_eq b4_ne hp hq
theorem gsum_eq {ps : List (F2 × F2)} (h : ∀ p ∈ ps, Onb p) : gsum ps = psum ps := by rw [gsum, opq_eq]; exact sum_eq b4_ne h
theorem gneg_eq (p : F2 × F2) : gneg p = pneg p := opq_eq _
theorem gtms_eq {p : F2 × F2} (hp : Onb p) {k : List Int} (hk : Bs k) : gtms p k = nmul p (num k).toNat := by rw [gtms, opq_eq]; exact times_eq b4_ne hp hk
theorem gmul_eq {p : F2 × F2} (hp : Onb p) (k : Fr) : gmul p k = nmul p k.v.toNat := by
  rw [gmul, opq_eq, pml, tms, times_eq b4_ne hp (bytesN_Bs _ _), num_bytesN 32 _ k.nn (Int.lt_trans k.lt (by decide))]
theorem gon_iff (p : F2 × F2) : gon p = true ↔ Onb p := by rw [gon, opq_eq]; exact isOn_iff p
end Go.Proofs.YtoflhakneklimaaGreat.g2
/- g2: the group; scalars. -/
namespace Go.Proofs.YtoflhakneklimaaGreat.g2
set_option maxRecDepth 100000
open Go Go.Eng Go.RowKit Cr Go.Proofs.YtoflhakneklimaaGreat Go.Proofs.YtoflhakneklimaaGreat.fp2

theorem gG_ne : gG ≠ O2 := by rw [gG_eq]; exact fun h => absurd (congrArg (fun p : F2 × F2 => p.1.1) h) (by decide)
theorem gmul_on {p : F2 × F2} (hp : Onb p) (k : Fr) : Onb (gmul p k) := by rw [gmul_eq hp]; exact nmul_on b4_ne hp _
abbrev rN : Nat := g1.rN
theorem gG_ord : nmul gG rN = O2 := by
  have h1 : Rep b4 (evP2.φ3 ((qxA, qxB), (qyA, qyB), ((1 : Nat), (0 : Nat)))) gG := by
    have h := rep_lift gG_on
    unfold jlift at h
    rw [if_neg gG_ne, gG_eq] at h
    rw [gG_eq]
    exact h
  have h2 := Ev.mul2_rep b4_ne h1 256 rN (by decide)
  have h3 := (evP2.isz_φ _).1 ord2_z
  rcases h2 with ⟨_, h⟩ | ⟨h, _⟩
  · exact h
  · exact absurd h3 h
/-- Points that come to nought r times. -/
def Sub (p : F2 × F2) : Prop := Onb p ∧ nmul p rN = O2
theorem sub_G : Sub gG := ⟨gG_on, gG_ord⟩
theorem sub_nmul {p : F2 × F2} (h : Sub p) (n : Nat) : Sub (nmul p n) := by
  refine ⟨nmul_on b4_ne h.1 n, ?_⟩
  rw [nmul_mul b4_ne h.1, Nat.mul_comm, ← nmul_mul b4_ne h.1, h.2, nmul_O]
theorem sub_gmul {p : F2 × F2} (h : Sub p) (k : Fr) : Sub (gmul p k) := by rw [gmul_eq h.1]; exact sub_nmul h _
theorem nmul_mod {p : F2 × F2} (h : Sub p) (m : Nat) : nmul p m = nmul p (m % rN) := by
  conv => lhs; rw [← Nat.div_add_mod m rN]
  rw [nmul_add b4_ne h.1, ← nmul_mul b4_ne h.1, h.2, nmul_O, O_add]
theorem frv (x : Fr) : ∃ n : Nat, x.v = (n : Int) ∧ n < rN := g1.frv x
theorem mul_of {p : F2 × F2} (h : Sub p) {x : Fr} {m : Nat} (hx : x.v = (m : Int) % (rN : Int)) : gmul p x = nmul p m := by
  rw [gmul_eq h.1, hx, nmul_mod h m, ← Int.natCast_emod, Int.toNat_natCast]
theorem mul_add {p : F2 × F2} (h : Sub p) (x y : Fr) : gmul p (x + y) = padd (gmul p x) (gmul p y) := by
  obtain ⟨m, hm, _⟩ := frv x
  obtain ⟨n, hn, _⟩ := frv y
  rw [mul_of h (x := x + y) (m := m + n) (by rw [add_v, hm, hn, Int.natCast_add]; rfl), gmul_eq h.1, gmul_eq h.1, hm, hn, Int.toNat_natCast, Int.toNat_natCast, nmul_add b4_ne h.1]
theorem mul_mul {p : F2 × F2} (h : Sub p) (x y : Fr) : gmul p (x * y) = gmul (gmul p x) y := by
  obtain ⟨m, hm, _⟩ := frv x
  obtain ⟨n, hn, _⟩ := frv y
  rw [mul_of h (x := x * y) (m := m * n) (by rw [mul_v, hm, hn, Int.natCast_mul]; rfl), gmul_eq (sub_gmul h x).1, gmul_eq h.1, hm, hn, Int.toNat_natCast, Int.toNat_natCast, nmul_mul b4_ne h.1]
theorem mul_zero {p : F2 × F2} (h : Sub p) : gmul p 0 = O2 := by
  rw [gmul_eq h.1, zero_v]; rfl
theorem mul_one {p : F2 × F2} (h : Sub p) : gmul p 1 = p := by
  rw [gmul_eq h.1, one_v]; exact nmul_one
theorem mul_neg {p : F2 × F2} (h : Sub p) (x : Fr) : gmul p (-x) = pneg (gmul p x) := by
  have e : padd (gmul p x) (gmul p (-x)) = O2 := by rw [← mul_add h, Rg.add_neg, mul_zero h]
  have hx := (sub_gmul h x).1
  have hn := (sub_gmul h (-x)).1
  have := cancel b4_ne hx hn
  rw [e, add_O] at this
  exact this.symm
end Go.Proofs.YtoflhakneklimaaGreat.g2
/- pairing: the generators' value; what pairs of the groups' points make. -/
namespace Go.Proofs.YtoflhakneklimaaGreat.pairing
set_option maxRecDepth 100000
open Go Go.Eng Go.RowKit Cr Go.Proofs.YtoflhakneklimaaGreat Go.Proofs.YtoflhakneklimaaGreat.fp2 Go.Proofs.YtoflhakneklimaaGreat.tower

abbrev b1 : Fp := g1.b4
abbrev b2 : F2 := g2.b4
theorem b2_eq : b2 = e0 b1 * xi := by
  rw [F2.mul_def]
  refine F2.ext ?_ ?_
  · show (zm 4 : Fp) = zm 4 * 1 - 0 * 1
    rw [Rg.mul_one, Rg.mul_one, sub_z]
  · show (zm 4 : Fp) = zm 4 * 1 + 0 * 1
    rw [Rg.mul_one, Rg.mul_one, Rg.add_zero]
theorem b2_ns (y : F2) (h : y * y = b2) : False := by
  obtain ⟨i, hi⟩ : ∃ i : F2, (1 + 1) * i = 1 := ⟨_, Fd.mul_inv _ Fd.two_ne⟩
  have h4 : e0 b1 = (1 + 1) * (1 + 1) := by
    have h2 : ((1 + 1 : Fp) * (1 + 1)) = zm 4 := Zm.ext (by decide)
    have h3 : e0 ((1 + 1 : Fp) * (1 + 1)) = (1 + 1) * (1 + 1) := by rw [hm_e0.mul, hm_e0.add, hm_e0.one]
    rw [← h3, h2]; rfl
  refine xi_sq (s := y * i) ?_
  have e : y * i * (y * i) = y * y * (i * i) := pm_1 _ _ _ _
  have e2 : (1 + 1 : F2) * (1 + 1) * xi * (i * i) = (1 + 1) * i * ((1 + 1) * i) * xi := by ac_rfl
  rw [e, h, b2_eq, h4, e2, hi, Rg.one_mul, Rg.one_mul]
noncomputable def pp : Nat := opq fpP
noncomputable def uu : Nat := opq 15132376222941642752
noncomputable def vu : Nat := opq 15132376222941642753
noncomputable def nn : Nat := opq (fpP ^ 6 - 1)
noncomputable def NN : Nat := opq (finN pp nn vu uu)
abbrev rN : Nat := g1.rN
theorem pp_eq : pp = fpP := opq_eq _
theorem uu_eq : uu = 15132376222941642752 := opq_eq _
theorem vu_eq : vu = 15132376222941642753 := opq_eq _
theorem nn_eq : pp ^ 6 = nn + 1 := by
  rw [pp_eq, nn, opq_eq]; exact of_decide_eq_true (by kernel_rfl)
theorem NN_eq : NN = finN pp nn vu uu := opq_eq _
theorem NN_six {x : F12} (hx : x ≠ 0) (h2 : x.2 = 0) : pwn x NN = 1 := by
  rw [NN_eq]; exact kill6 pp_eq nn_eq hx h2
theorem NN_form : ∃ t, NN = nn * (2 * t) := by
  obtain ⟨M, hM⟩ : ∃ M, M = vu * vu * (uu * pp ^ 6 + pp) * (uu * uu + pp * pp + pp ^ 6) + 2 + 1 := ⟨_, rfl⟩
  have h : ∃ k, pp * pp + 1 = 2 * k := by
    rw [pp_eq]; exact ⟨(fpP * fpP + 1) / 2, of_decide_eq_true (by kernel_rfl)⟩
  obtain ⟨k, hk⟩ := h
  refine ⟨k * M, ?_⟩
  rw [NN_eq, finN, ← hM, hk, Nat.mul_assoc, Nat.mul_assoc]
theorem NN_odd {x : F12} (hx : x ≠ 0) (h1 : x.1 = 0) : pwn x NN = 1 := by
  obtain ⟨t, ht⟩ := NN_form
  have h3 : pwn x nn * x = -x := by
    have h := pw_6 pp_eq x
    rw [nn_eq] at h
    have h4 : pwn x nn * x = (x.1, -x.2) := h
    rw [h4, F12.neg_def, h1]
    exact F12.ext neg_z.symm rfl
  have h5 : pwn x nn = -1 := by
    have h6 : pwn x nn * (x * Fd.inv x) = -(x * Fd.inv x) := by rw [← Rg.mul_assoc, h3, Rg.neg_mul]
    rwa [Fd.mul_inv _ hx, Rg.mul_one] at h6
  rw [ht, pwn_mul, h5, pwn_mul]
  have h7 : pwn (-1 : F12) 2 = 1 := by
    show 1 * -1 * -1 = (1 : F12)
    rw [Rg.one_mul, Rg.neg_mul, Rg.one_mul, Rg.neg_neg]
  rw [h7, pwn_one]
theorem NN_ord {x : F12} (hx : x ≠ 0) : pwn (pwn x NN) rN = 1 := by
  obtain ⟨m, hm⟩ := fin_mul
  have e : rN = rrN := rfl
  have e2 : finN pp nn vu uu = finN fpP (fpP ^ 6 - 1) 15132376222941642753 15132376222941642752 := by
    rw [pp_eq, uu_eq, vu_eq, nn, opq_eq]
  rw [NN_eq, e2, e]
  exact fin_r hm hx
theorem uu_np : ∃ s, uu + pp = rN * s := by
  rw [uu_eq, pp_eq]
  exact ⟨(15132376222941642752 + fpP) / rN, of_decide_eq_true (by kernel_rfl)⟩
theorem NN_pos : 0 < NN := by
  have h : NN ≠ 0 := by
    rw [NN_eq, show finN pp nn vu uu = finN fpP (fpP ^ 6 - 1) 15132376222941642753 15132376222941642752 by rw [pp_eq, uu_eq, vu_eq, nn, opq_eq]]
    exact of_decide_eq_true (by kernel_rfl)
  omega
theorem lastP : LastP NN pp uu rN := ⟨pp_eq, fun _ h h2 => NN_six h h2, fun _ h h1 => NN_odd h h1, fun _ h => NN_ord h, uu_np, NN_pos⟩
theorem uu_pos : 0 < uu := by rw [uu_eq]; exact of_decide_eq_true (by kernel_rfl)
theorem bls_val : bval (bls 63) 1 = uu := by rw [uu_eq]; exact of_decide_eq_true (by kernel_rfl)
theorem rN_pos : 0 < rN := of_decide_eq_true (by kernel_rfl)

/-! The root. -/
def rtv : V2 := vcj (rtN, rtN)
theorem rtv_eq : q2 rtv = rt1 := by
  obtain ⟨m, hm⟩ : ∃ m, m = fpP / 12 := ⟨_, rfl⟩
  have h1 : fpP / 6 = 2 * m + 1 := by rw [hm]; exact of_decide_eq_true (by kernel_rfl)
  have h2 : m = 2 * (2 * (fpP / 48)) + 2 + 1 := by rw [hm]; exact of_decide_eq_true (by kernel_rfl)
  have h3 : (zm (rtN : Int) : Fp) = pwn (1 + 1 : Fp) m := by
    rw [← zpow_pwn]
    refine Zm.ext ?_
    rw [zpow_two_v, ← npm_eq fpP 2 (of_decide_eq_true (by kernel_rfl)) 384 m (by rw [hm]; exact of_decide_eq_true (by kernel_rfl)), hm]
    exact of_decide_eq_true (by kernel_rfl)
  rw [rt1_eq rfl, xi_pw h1 h2, ← h3, rtv, q2_cj]; rfl

/-! The power p of a place of the second group. -/
theorem fro_wi : fro pp wi * e2 rt1 = wi := by
  have hq : pp = 6 * (fpP / 6) + 1 := pp_eq.trans (of_decide_eq_true (by kernel_rfl))
  have h1 : fro pp ww = e2 rt1 * ww := by
    rw [rt1_eq rfl]; exact pw_ww hq
  have h2 := congrArg (fro pp) ww_wi
  have hf := hm_fro pp_eq
  rw [hf.mul, hf.one, h1] at h2
  have h3 : e2 rt1 * ww * fro pp wi * wi = wi := by rw [h2, Rg.one_mul]
  have h4 : e2 rt1 * ww * fro pp wi * wi = fro pp wi * e2 rt1 * (ww * wi) := by ac_rfl
  rw [h4, ww_wi, Rg.mul_one] at h3
  exact h3
theorem fro_e2 (x : F2) : fro pp (e2 x) = e2 (x.1, -x.2) := by
  show pwn (e2 x) pp = _
  rw [e2_pw, pw_f2 pp_eq]
theorem fro_tws {x y x' y' : F2} (hx : ((x.1, -x.2) : F2) = x' * (rt1 * rt1)) (hy : ((y.1, -y.2) : F2) = -(y' * (rt1 * rt1 * rt1))) : hmp (fro pp) (tws e2 wi (x, y)) = pneg (tws e2 wi (x', y')) := by
  have hf := hm_fro pp_eq
  refine Prod.ext ?_ ?_
  · show fro pp (e2 x * (wi * wi)) = e2 x' * (wi * wi)
    rw [hf.mul, hf.mul, fro_e2, hx, hm_e2.mul, hm_e2.mul]
    have e : e2 x' * (e2 rt1 * e2 rt1) * (fro pp wi * fro pp wi) = e2 x' * (fro pp wi * e2 rt1 * (fro pp wi * e2 rt1)) := by ac_rfl
    rw [e, fro_wi]
  · show fro pp (e2 y * (wi * wi * wi)) = -(e2 y' * (wi * wi * wi))
    rw [hf.mul, hf.mul, hf.mul, fro_e2, hy, hm_e2.neg, hm_e2.mul, hm_e2.mul, hm_e2.mul, Rg.neg_mul]
    have e : e2 y' * (e2 rt1 * e2 rt1 * e2 rt1) * (fro pp wi * fro pp wi * fro pp wi) = e2 y' * (fro pp wi * e2 rt1 * (fro pp wi * e2 rt1) * (fro pp wi * e2 rt1)) := by ac_rfl
    rw [e, fro_wi]
def qx : V2 := (qxA, qxB)
def qy : V2 := (qyA, qyB)
/-- The generator, so often as the parameter says: what the power p makes of it. -/
noncomputable def chq (T : V3) : Bool :=
  fo6 T fun T => fo2 (vmul T.2.2 T.2.2) fun zz => fo2 (vmul zz T.2.2) fun zzz => fo2 (vmul rtv rtv) fun r2 => fo2 (vmul r2 rtv) fun r3 =>
  evP2.isz (vsub (vmul (vcj qx) zz) (vmul T.1 r2)) && evP2.isz (vadd (vmul (vcj qy) zzz) (vmul T.2.1 r3))
theorem chq_ok : chq (evP2.mul2 (qx, qy, ((1 : Nat), (0 : Nat))) 64 15132376222941642752) = true := by kernel_rfl
theorem chq_nz : evP2.isz (evP2.mul2 (qx, qy, ((1 : Nat), (0 : Nat))) 64 15132376222941642752).2.2 = false := by kernel_rfl
theorem gG_rep : Rep b2 (evP2.φ3 (qx, qy, ((1 : Nat), (0 : Nat)))) g2.gG := by
  have h := rep_lift g2.gG_on
  unfold jlift at h
  rw [if_neg g2.gG_ne, g2.gG_eq] at h
  rw [g2.gG_eq]
  exact h
theorem gG_fro : hmp (fro pp) (tws e2 wi g2.gG) = pneg (tws e2 wi (nmul g2.gG uu)) := by
  have h2 := Ev.mul2_rep g2.b4_ne gG_rep 64 15132376222941642752 (of_decide_eq_true (by kernel_rfl))
  have h3 := chq_ok
  have h4 := chq_nz
  rw [uu_eq]
  obtain ⟨T, hT⟩ : ∃ T : V3, T = evP2.mul2 (qx, qy, ((1 : Nat), (0 : Nat))) 64 15132376222941642752 := ⟨_, rfl⟩
  obtain ⟨G, hG⟩ : ∃ G, G = nmul g2.gG 15132376222941642752 := ⟨_, rfl⟩
  rw [← hT] at h3 h4
  have h2 : Rep b2 (evP2.φ3 (evP2.mul2 (qx, qy, ((1 : Nat), (0 : Nat))) 64 15132376222941642752)) (nmul g2.gG 15132376222941642752) := h2
  rw [← hT, ← hG] at h2
  rw [← hG]
  have nz : q2 T.2.2 ≠ 0 := fun e => by
    have := (evP2.isz_φ T.2.2).2 e
    rw [h4] at this; cases this
  obtain ⟨_, e1, e2', _⟩ := h2.resolve_left (fun e => nz e.1)
  have e1 : q2 T.1 = G.1 * (q2 T.2.2 * q2 T.2.2) := e1
  have e2' : q2 T.2.1 = G.2 * (q2 T.2.2 * (q2 T.2.2 * q2 T.2.2)) := e2'
  unfold chq at h3
  simp only [fo6_eq, fo2_eq] at h3
  rw [Bool.and_eq_true] at h3
  have h5 : q2 (vsub (vmul (vcj qx) (vmul T.2.2 T.2.2)) (vmul T.1 (vmul rtv rtv))) = 0 := (evP2.isz_φ _).1 h3.1
  have h6 : q2 (vadd (vmul (vcj qy) (vmul (vmul T.2.2 T.2.2) T.2.2)) (vmul T.2.1 (vmul (vmul rtv rtv) rtv))) = 0 := (evP2.isz_φ _).1 h3.2
  simp only [q2_sub, q2_mul, q2_cj, q2_add, rtv_eq] at h5 h6
  have k5 := Rg.eq_of_sub h5
  have k6 := (Rg.neg_eq h6).symm
  rw [e1] at k5
  rw [e2'] at k6
  obtain ⟨Z, hZ⟩ : ∃ Z, Z = q2 T.2.2 := ⟨_, rfl⟩
  rw [← hZ] at k5 k6 nz
  rw [g2.gG_eq]
  refine fro_tws (x := g2.gx) (y := g2.gy) (x' := G.1) (y' := G.2) ?_ ?_
  · refine Fd.mul_left (Fd.mul_ne nz nz) ?_
    rw [Rg.mul_comm]
    refine Eq.trans k5 ?_
    ac_rfl
  · refine Fd.mul_left (Fd.mul_ne (Fd.mul_ne nz nz) nz) ?_
    have k7 : ((g2.gy.1, -g2.gy.2) : F2) * (Z * Z * Z) = -(G.2 * (Z * (Z * Z)) * (rt1 * rt1 * rt1)) := by
      rw [k6, Rg.neg_neg]; rfl
    rw [Rg.mul_comm, k7, Rg.mul_neg]
    congr 1
    ac_rfl
theorem gq_nmul (n : Nat) : GQ pp uu rN b2 (nmul g2.gG n) := by
  have hB := bb_ne g1.b4_ne
  have eb := bb_2 b2_eq
  have oG : OnP b2 g2.gG := g2.gG_on
  have oT := tws_onP hm_e2 eb oG
  have oU : OnP b2 (nmul g2.gG uu) := nmul_on g2.b4_ne oG uu
  have hs : g2.Sub (nmul g2.gG n) := g2.sub_nmul g2.sub_G n
  refine ⟨hs.1, ?_, hs.2, ?_⟩
  · have h1 : tws e2 wi (nmul g2.gG n) = nmul (tws e2 wi g2.gG) n := tws_nmul hm_e2 eb g2.b4_ne hB oG n
    rw [h1, hmp_nmul (f := fro pp) (b' := e1 b1) (hm_fro pp_eq) (fro_e1 pp_eq b1).symm hB hB oT, gG_fro, nmul_neg hB (tws_onP hm_e2 eb oU), ← tws_nmul hm_e2 eb g2.b4_ne hB oU, nmul_mul g2.b4_ne oG, nmul_mul g2.b4_ne oG, Nat.mul_comm]
  · by_cases hQ : nmul g2.gG n = O2
    · exact .inl hQ
    · refine .inr fun k h0 h1 hk => hQ ?_
      have hv : (zm (k : Int) : Fr).v = (k : Int) % (rN : Int) := rfl
      have hk' : k < rN := by
        rw [uu_eq] at h1
        exact Nat.lt_of_le_of_lt h1 (of_decide_eq_true (by kernel_rfl))
      have hx : (zm (k : Int) : Fr) ≠ 0 := fun e => by
        have h2 := congrArg Zm.v e
        rw [hv] at h2
        have h2 : (k : Int) % (rN : Int) = 0 := h2
        rw [Int.emod_eq_of_lt (by omega) (Int.ofNat_lt.2 hk')] at h2
        omega
      have h3 := g2.mul_of hs hv
      rw [hk] at h3
      have h4 := g2.mul_mul hs (zm (k : Int) : Fr) (Fd.inv (zm (k : Int)))
      rw [Fd.mul_inv _ hx, g2.mul_one hs, h3, g2.gmul_eq (.inl rfl), nmul_O] at h4
      exact h4

/-! The generators' value. -/
theorem bls_63 : bls 63 = [true, false, true, false, false, true, false, false, false, false, false, false, false, false, true, false, false, false, false, false, false, false, false, false, false, false, false, false, false, false, false, false, false, false, false, false, false, false, false, false, false, false, false, false, false, false, true, false, false, false, false, false, false, false, false, false, false, false, false, false, false, false, false] := of_decide_eq_true (by kernel_rfl)
noncomputable def gev : F12 := ev lastP (bls 63) g1.gG g2.gG
def mil : V12 := vlp (qx, qy) gxN gyN [true, false, true, false, false, true, false, false, false, false, false, false, false, false, true, false, false, false, false, false, false, false, false, false, false, false, false, false, false, false, false, false, false, false, false, false, false, false, false, false, false, false, false, false, false, false, true, false, false, false, false, false, false, false, false, false, false, false, false, false, false, false, false] vone (qx, qy, ((1 : Nat), (0 : Nat)))
theorem mil_nz : evP2.isz (fo12 mil fun x => vfin rtv x).2.1 = false := by kernel_rfl
theorem gq_gG : GQ pp uu rN b2 g2.gG := by
  have h := gq_nmul 1
  rwa [nmul_one] at h
theorem gev_mil : gev = pwn (q12 mil) NN := by
  have h := sg_ev lastP g1.b4_ne g2.b4_ne b2_eq bls_val g1.gG_ne g2.gG_ne gq_gG
  rw [gev, ← h, g1.gG_eq, g2.gG_eq, bls_63]
  refine congrArg (fun x => pwn x NN) ?_
  exact q_vlp (qx, qy) gxN gyN _ vone (qx, qy, ((1 : Nat), (0 : Nat)))
theorem gev_ne : gev ≠ 1 := by
  intro h
  rw [gev_mil] at h
  have hz := mil_nz
  rw [fo12_eq] at hz
  obtain ⟨X, hX⟩ : ∃ X, X = mil := ⟨_, rfl⟩
  rw [← hX] at h hz
  have k := q_vfin rtv_eq pp_eq vu_eq uu_eq X
  obtain ⟨Y, hY⟩ : ∃ Y, Y = vfin rtv X := ⟨_, rfl⟩
  rw [← hY] at k hz
  rw [NN_eq, finN, Nat.mul_assoc, Nat.mul_comm, pwn_mul, ← k] at h
  have h1 : pwn (q12 Y) (pp ^ 6) = q12 Y := by
    rw [nn_eq]
    show pwn (q12 Y) nn * q12 Y = _
    rw [h, Rg.one_mul]
  rw [pw_6 pp_eq] at h1
  have h2 : -(q12 Y).2 = (q12 Y).2 := congrArg Prod.snd h1
  have h3 : (q12 Y).2 = 0 := eq_neg_self h2.symm
  have h4 : q2 Y.2.1 = 0 := congrArg Prod.fst h3
  have h5 := (evP2.isz_φ Y.2.1).2 h4
  rw [hz] at h5; cases h5
end Go.Proofs.YtoflhakneklimaaGreat.pairing
namespace Go.Proofs.YtoflhakneklimaaGreat.pairing
set_option maxRecDepth 100000
open Go Go.Eng Go.RowKit Cr Go.Proofs.YtoflhakneklimaaGreat Go.Proofs.YtoflhakneklimaaGreat.fp2 Go.Proofs.YtoflhakneklimaaGreat.tower

theorem gev_r : pwn gev rN = 1 := ev_r lastP g1.b4_ne g2.b4_ne b2_ns b2_eq bls_val g1.gG_on gq_gG
theorem gev_mod (m : Nat) : pwn gev m = pwn gev (m % rN) := by
  conv => lhs; rw [← Nat.div_add_mod m rN]
  rw [pwn_add, pwn_mul, gev_r, pwn_one, Rg.one_mul]
theorem ev_gn (b : Nat) : ev lastP (bls 63) g1.gG (nmul g2.gG b) = pwn gev b := by
  induction b with
  | zero => exact ev_OQ lastP _
  | succ b ih =>
    show ev lastP (bls 63) g1.gG (padd (nmul g2.gG b) g2.gG) = pwn gev b * gev
    rw [ev_addQ lastP g1.b4_ne g2.b4_ne b2_ns b2_eq bls_val g1.gG_on (gq_nmul b) gq_gG, ih]; rfl
theorem ev_mn (a b : Nat) : ev lastP (bls 63) (nmul g1.gG a) (nmul g2.gG b) = pwn gev (a * b) := by
  rw [ev_mulP lastP g1.b4_ne g2.b4_ne b2_ns b2_eq bls_val g1.gG_on (gq_nmul b) uu_pos, ev_gn, ← pwn_mul, Nat.mul_comm]
/-- The generators' value, so often as a scalar says. -/
noncomputable def pe (x : Fr) : F12 := opq (cjo (pwn gev x.v.toNat))
theorem pe_eq (x : Fr) : pe x = pwn (pwn gev x.v.toNat) (pp ^ 6) := by rw [pe, opq_eq, cjo_eq pp_eq]
theorem pe_of {x : Fr} {m : Nat} (hx : x.v = (m : Int) % (rN : Int)) : pe x = pwn (pwn gev m) (pp ^ 6) := by
  rw [pe_eq, gev_mod m, hx, ← Int.natCast_emod, Int.toNat_natCast]
theorem pe_zero : pe 0 = 1 := by
  rw [pe_eq, zero_v]
  show pwn (1 : F12) _ = 1
  exact pwn_one _
theorem pe_add (x y : Fr) : pe (x + y) = pe x * pe y := by
  obtain ⟨m, hm, _⟩ := g1.frv x
  obtain ⟨n, hn, _⟩ := g1.frv y
  rw [pe_of (x := x + y) (m := m + n) (by rw [add_v, hm, hn, Int.natCast_add]; rfl), pe_eq, pe_eq, hm, hn, Int.toNat_natCast, Int.toNat_natCast, pwn_add, pwn_prod]
theorem pe_mul (x y : Fr) : pe (x * y) = pwn (pe x) y.v.toNat := by
  obtain ⟨m, hm, _⟩ := g1.frv x
  obtain ⟨n, hn, _⟩ := g1.frv y
  rw [pe_of (x := x * y) (m := m * n) (by rw [mul_v, hm, hn, Int.natCast_mul]; rfl), pe_eq, hm, hn, Int.toNat_natCast, Int.toNat_natCast, pwn_mul, ← pwn_mul (pwn gev m), ← pwn_mul (pwn gev m), Nat.mul_comm]
theorem pe_iff (x : Fr) : pe x = 1 ↔ x = 0 := by
  constructor
  · intro h
    by_cases hx : x = 0
    · exact hx
    · exfalso
      have h1 := pe_mul x (Fd.inv x)
      rw [Fd.mul_inv _ hx, h, pwn_one, pe_of (x := 1) (m := 1) (by rw [one_v]; rfl), pw_1, pw_6 pp_eq] at h1
      have h2 := congrArg Prod.fst h1
      have h2 : gev.1 = (1 : F12).1 := h2
      have h3 : -gev.2 = (1 : F12).2 := congrArg Prod.snd h1
      have h4 : gev.2 = (1 : F12).2 := by
        rw [← Rg.neg_neg gev.2, h3]
        exact neg_z (F := F6)
      exact gev_ne (F12.ext h2 h4)
  · rintro rfl; exact pe_zero
theorem pe_neg (x : Fr) : pe x * pe (-x) = 1 := by rw [← pe_add, Rg.add_neg, pe_zero]
theorem pwn_r {g : F12} (h : pwn g rN = 1) (a : Nat) : pwn (pwn g a) rN = 1 := by rw [← pwn_mul, Nat.mul_comm, pwn_mul, h, pwn_one]
theorem pe_r (x : Fr) : pwn (pe x) rN = 1 := by rw [pe_eq]; exact pwn_r (pwn_r gev_r _) _
theorem pe_conj (x : Fr) : pe x * cjo (pe x) = 1 := by
  have h : ∃ s, pp ^ 6 + 1 = rN * s := by
    rw [pp_eq]; exact ⟨(fpP ^ 6 + 1) / rN, of_decide_eq_true (by kernel_rfl)⟩
  obtain ⟨s, hs⟩ := h
  have h1 : pwn (pe x) (pp ^ 6 + 1) = 1 := by
    rw [hs, pwn_mul, pe_r, pwn_one]
  rw [cjo_eq pp_eq, Rg.mul_comm]
  exact h1
theorem pe_ne (x : Fr) : pe x ≠ 0 := fun h => by
  have h1 := pe_neg x
  rw [h, Rg.zero_mul] at h1
  exact Fd.one_ne h1.symm
theorem pe_cj (x : Fr) : cjo (pe x) = pe (-x) := Fd.mul_left (pe_ne x) ((pe_conj x).trans (pe_neg x).symm)
/-- Sums of products. -/
noncomputable def dotk (xs ys : List Fr) (k : Nat) : Fr := it (fun i s => s + xs.getD i 0 * ys.getD i 0) 0 k
noncomputable def mp1 (xs : List Fr) : List (Fp × Fp) := xs.map fun x => g1.gmul g1.gG x
noncomputable def mp2 (ys : List Fr) : List (F2 × F2) := ys.map fun y => g2.gmul g2.gG y
theorem mp1_at {xs : List Fr} {i : Nat} (h : i < xs.length) : (mp1 xs).getD i ((0 : Fp), (0 : Fp)) = nmul g1.gG (xs.getD i 0).v.toNat := by
  rw [← g1.gmul_eq g1.gG_on]
  simp [mp1, List.getD_eq_getElem?_getD, h]
theorem mp2_at {ys : List Fr} {i : Nat} (h : i < ys.length) : (mp2 ys).getD i (((0 : Fp), (0 : Fp)), (0 : Fp), (0 : Fp)) = nmul g2.gG (ys.getD i 0).v.toNat := by
  rw [← g2.gmul_eq g2.gG_on]
  simp [mp2, List.getD_eq_getElem?_getD, h]
theorem evl_val (xs ys : List Fr) : ∀ k, k ≤ xs.length → k ≤ ys.length → pwn (evl lastP (bls 63) (mp1 xs) (mp2 ys) k) (pp ^ 6) = pe (dotk xs ys k)
  | 0, _, _ => (pwn_one _).trans pe_zero.symm
  | k + 1, h1, h2 => by
    show pwn (evl lastP (bls 63) (mp1 xs) (mp2 ys) k * ev lastP (bls 63) ((mp1 xs).getD k ((0 : Fp), (0 : Fp))) ((mp2 ys).getD k (((0 : Fp), (0 : Fp)), (0 : Fp), (0 : Fp)))) (pp ^ 6) = pe (dotk xs ys k + xs.getD k 0 * ys.getD k 0)
    rw [pwn_prod, evl_val xs ys k (by omega) (by omega), mp1_at (by omega), mp2_at (by omega), ev_mn, pe_add]
    congr 1
    obtain ⟨m, hm, _⟩ := g1.frv (xs.getD k 0)
    obtain ⟨n, hn, _⟩ := g1.frv (ys.getD k 0)
    rw [pe_of (x := xs.getD k 0 * ys.getD k 0) (m := m * n) (by rw [mul_v, hm, hn, Int.natCast_mul]; rfl), hm, hn, Int.toNat_natCast, Int.toNat_natCast]
/-- WHAT PAIRS MAKE. -/
theorem pairs_val {xs ys : List Fr} (h : xs.length = ys.length) : fino (lino (mp1 xs) (mp2 ys)) = pe (dotk xs ys xs.length) := by
  have hl : (mp1 xs).length = xs.length := List.length_map _
  rw [fino_lino lastP g1.b4_ne g2.b4_ne b2_ns b2_eq bls_val rN_pos nn_eq NN_eq vu_eq uu_eq (ps := mp1 xs) (qs := mp2 ys), hl, cjo_eq pp_eq, evl_val xs ys _ (Nat.le_refl _) (Nat.le_of_eq h)]
  · intro i hi
    rw [hl] at hi
    rw [mp1_at hi]; exact nmul_on g1.b4_ne g1.gG_on _
  · intro i hi
    rw [hl] at hi
    rw [mp2_at (by omega)]; exact gq_nmul _
theorem pair_val (x y : Fr) : fino (lino [g1.gmul g1.gG x] [g2.gmul g2.gG y]) = pe (x * y) := by
  have h := pairs_val (xs := [x]) (ys := [y]) rfl
  refine Eq.trans h ?_
  show pe (0 + x * y) = _
  rw [Rg.zero_add]
end Go.Proofs.YtoflhakneklimaaGreat.pairing
