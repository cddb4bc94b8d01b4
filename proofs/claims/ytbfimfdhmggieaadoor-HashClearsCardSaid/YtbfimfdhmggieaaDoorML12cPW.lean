/- xmd: numbers of a text; those of the document's text, by computation. -/
import Derived.Test.YtbfimfdhmggieaaDoorML12cPV
/- The second group's curve: points taken into the group. No program here. -/
namespace Cr
set_option maxRecDepth 100000
open Rg Fd Go.Eng
theorem tc_x {F : Type} [Rg F] (x r z : F) : x * (z * z) * (r * r) = x * (r * r) * (z * z) :=
  rid [x, r, z] ((fun (x r z : PE) => (x * (z * z) * (r * r))) (.v 0) (.v 1) (.v 2)) ((fun (x r z : PE) => (x * (r * r) * (z * z))) (.v 0) (.v 1) (.v 2)) (by kernel_rfl)
theorem tc_y {F : Type} [Rg F] (y r z : F) : y * (z * (z * z)) * (r * r * r) = y * (r * r * r) * (z * (z * z)) :=
  rid [y, r, z] ((fun (y r z : PE) => (y * (z * (z * z)) * (r * r * r))) (.v 0) (.v 1) (.v 2)) ((fun (y r z : PE) => (y * (r * r * r) * (z * (z * z)))) (.v 0) (.v 1) (.v 2)) (by kernel_rfl)
theorem tc_n {F : Type} [Rg F] (y z : F) : -(y * z) = -y * z :=
  rid [y, z] ((fun (y z : PE) => (-(y * z))) (.v 0) (.v 1)) ((fun (y z : PE) => (-y * z)) (.v 0) (.v 1)) (by kernel_rfl)
theorem hm_cj : Hm cjg := by
  refine ⟨fun x y => ?_, fun x y => ?_, fun x => ?_, F2.ext rfl neg_z, fun x h => ?_⟩
  · show (_, _) = (_ : F2)
    rw [F2.add_def, F2.add_def]
    exact F2.ext rfl (neg_add_rev _ _)
  · show (_, _) = (_ : F2)
    rw [F2.mul_def, F2.mul_def]
    refine F2.ext ?_ ?_
    · show x.1 * y.1 - x.2 * y.2 = x.1 * y.1 - -x.2 * -y.2
      rw [neg_mul, mul_neg, neg_neg]
    · show -(x.1 * y.2 + x.2 * y.1) = x.1 * -y.2 + -x.2 * y.1
      rw [neg_add_rev, mul_neg, neg_mul]
  · show (_, _) = (_ : F2)
    rw [F2.neg_def, F2.neg_def]; rfl
  · have h1 : x.1 = 0 := congrArg Prod.fst h
    have h2 : -x.2 = 0 := congrArg Prod.snd h
    exact F2.ext h1 (by rw [← neg_neg x.2, h2]; exact neg_z)
noncomputable def ir : F2 := q2 irv
/-- The power p of the coordinates, seen from the curve. -/
noncomputable def tau (P : F2 × F2) : F2 × F2 := tws cjg ir P
theorem tbc : evP2.isz (vsub (vmul (vcj (4, 4)) (vmul (vmul (vmul irv irv) irv) (vmul (vmul irv irv) irv))) (4, 4)) = true := by kernel_rfl
theorem tb_tau : tb = cjg tb * (ir * ir * ir * (ir * ir * ir)) := by
  have h1 : q2 (vsub (vmul (vcj (4, 4)) (vmul (vmul (vmul irv irv) irv) (vmul (vmul irv irv) irv))) (4, 4)) = 0 := (evP2.isz_φ _).1 tbc
  simp only [q2_sub, q2_mul, q2_cj] at h1
  exact (eq_of_sub h1).symm
/-- Additive maps of the curve's points. -/
structure Ad (f : F2 × F2 → F2 × F2) : Prop where
  on : ∀ P, OnP tb P → OnP tb (f P)
  add : ∀ P Q, OnP tb P → OnP tb Q → f (padd P Q) = padd (f P) (f Q)
theorem ad_id : Ad fun P => P := ⟨fun _ h => h, fun _ _ _ _ => rfl⟩
theorem ad_mul (n : Nat) : Ad fun P => nmul P n := ⟨fun _ h => nmul_on tb_ne h n, fun _ _ h k => nmul_padd tb_ne h k n⟩
theorem ad_neg : Ad pneg := ⟨fun _ h => pneg_onP h, fun _ _ h k => pneg_add tb_ne h k⟩
theorem ad_tau : Ad tau := ⟨fun _ h => tws_onP hm_cj tb_tau h, fun _ _ h k => tws_add hm_cj tb_tau tb_ne tb_ne h k⟩
theorem Ad.comp {f g : F2 × F2 → F2 × F2} (hf : Ad f) (hg : Ad g) : Ad fun P => f (g P) := ⟨fun P h => hf.on _ (hg.on P h), fun P Q h k => by rw [hg.add P Q h k, hf.add _ _ (hg.on P h) (hg.on Q k)]⟩
theorem Ad.sum {f g : F2 × F2 → F2 × F2} (hf : Ad f) (hg : Ad g) : Ad fun P => padd (f P) (g P) := ⟨fun P h => padd_on tb_ne (hf.on P h) (hg.on P h), fun P Q h k => by
  show padd (f (padd P Q)) (g (padd P Q)) = _
  rw [hf.add P Q h k, hg.add P Q h k]
  exact add4 tb_ne (hf.on P h) (hf.on Q k) (hg.on P h) (hg.on Q k)⟩
theorem Ad.zero {f : F2 × F2 → F2 × F2} (hf : Ad f) : f O2 = O2 := by
  have oO : OnP tb (O2 : F2 × F2) := .inl rfl
  have h := hf.add O2 O2 oO oO
  rw [O_add] at h
  have c := cancel tb_ne (hf.on _ oO) (hf.on _ oO)
  rw [← h, neg_add_self] at c
  exact c.symm
theorem Ad.nmul {f : F2 × F2 → F2 × F2} (hf : Ad f) {P : F2 × F2} (oP : OnP tb P) : ∀ n, f (nmul P n) = nmul (f P) n
  | 0 => hf.zero
  | n + 1 => by
    show f (padd (Cr.nmul P n) P) = padd (Cr.nmul (f P) n) (f P)
    rw [hf.add _ _ (nmul_on tb_ne oP n) oP, hf.nmul oP n]
theorem Ad.eq {f g : F2 × F2 → F2 × F2} (hf : Ad f) (hg : Ad g) (h1 : f T1 = g T1) (h2 : f T2 = g T2) {P : F2 × F2} (oP : OnP tb P) : f P = g P := by
  have oa : OnP tb T1 := .inr T1_on
  have ob : OnP tb T2 := .inr T2_on
  obtain ⟨a, c, rfl⟩ := all_tw oP
  rw [hf.add _ _ (nmul_on tb_ne oa a) (nmul_on tb_ne ob c), hg.add _ _ (nmul_on tb_ne oa a) (nmul_on tb_ne ob c), hf.nmul oa, hf.nmul ob, hg.nmul oa, hg.nmul ob, h1, h2]
def uN : Nat := 15132376222941642752
/-- What is cleared: as the program sums. -/
noncomputable def clr (P : F2 × F2) : F2 × F2 := psum [nmul (nmul P uN) uN, nmul P uN, pneg P, pneg (tau (padd (nmul P uN) P)), tau (tau (padd P P))]
noncomputable def clr' (P : F2 × F2) : F2 × F2 := padd (nmul (nmul P uN) uN) (padd (nmul P uN) (padd (pneg P) (padd (pneg (tau (padd (nmul P uN) P))) (tau (tau (padd P P))))))
theorem clr_eq (P : F2 × F2) : clr P = clr' P := by
  simp only [clr, clr', psum, add_O]
theorem ad_clr : Ad clr' := ((ad_mul uN).comp (ad_mul uN)).sum ((ad_mul uN).sum (ad_neg.sum ((ad_neg.comp (ad_tau.comp ((ad_mul uN).sum ad_id))).sum (ad_tau.comp (ad_tau.comp (ad_id.sum ad_id))))))
noncomputable def tauJ (a : J3) : J3 := fo2 (vmul irv irv) fun r2 => fo2 (vmul r2 irv) fun r3 => fo2 (vmul (vcj a.1) r2) fun x => fo2 (vmul (vcj a.2.1) r3) fun y => fo2 (vcj a.2.2) fun z => (x, y, z)
theorem tauJ_rep {a : J3} {P : F2 × F2} (h : Rep tb (j3 a) P) : Rep tb (j3 (tauJ a)) (tau P) := by
  have e : j3 (tauJ a) = (cjg (q2 a.1) * (ir * ir), cjg (q2 a.2.1) * (ir * ir * ir), cjg (q2 a.2.2)) := by
    have e1 : j3 (tauJ a) = (q2 (tauJ a).1, q2 (tauJ a).2.1, q2 (tauJ a).2.2) := rfl
    rw [e1]
    simp only [tauJ, fo2_eq, q2_mul, q2_cj]; rfl
  rw [e]
  rcases h with ⟨h1, rfl⟩ | ⟨h1, h2, h3, h4⟩
  · refine .inl ⟨?_, tws_O hm_cj⟩
    show cjg (q2 a.2.2) = 0
    have h1 : q2 a.2.2 = 0 := h1
    rw [h1, hm_cj.zero]
  · have h1 : q2 a.2.2 ≠ 0 := h1
    have h2 : q2 a.1 = P.1 * (q2 a.2.2 * q2 a.2.2) := h2
    have h3 : q2 a.2.1 = P.2 * (q2 a.2.2 * (q2 a.2.2 * q2 a.2.2)) := h3
    refine .inr ⟨fun z => h1 (hm_cj.inj _ z), ?_, ?_, tws_on hm_cj tb_tau h4⟩
    · show cjg (q2 a.1) * (ir * ir) = cjg P.1 * (ir * ir) * (cjg (q2 a.2.2) * cjg (q2 a.2.2))
      rw [h2, hm_cj.mul, hm_cj.mul]; exact tc_x _ _ _
    · show cjg (q2 a.2.1) * (ir * ir * ir) = cjg P.2 * (ir * ir * ir) * (cjg (q2 a.2.2) * (cjg (q2 a.2.2) * cjg (q2 a.2.2)))
      rw [h3, hm_cj.mul, hm_cj.mul, hm_cj.mul]; exact tc_y _ _ _
noncomputable def negJ (a : J3) : J3 := fo2 (vneg a.2.1) fun y => (a.1, y, a.2.2)
theorem negJ_rep {a : J3} {P : F2 × F2} (h : Rep tb (j3 a) P) : Rep tb (j3 (negJ a)) (pneg P) := by
  have e : j3 (negJ a) = (q2 a.1, -q2 a.2.1, q2 a.2.2) := by
    have e1 : j3 (negJ a) = (q2 (negJ a).1, q2 (negJ a).2.1, q2 (negJ a).2.2) := rfl
    rw [e1]
    simp only [negJ, fo2_eq, q2_neg]
  rw [e]
  rcases h with ⟨h1, rfl⟩ | ⟨h1, h2, h3, h4⟩
  · exact .inl ⟨h1, pneg_O⟩
  · have h3 : q2 a.2.1 = P.2 * (q2 a.2.2 * (q2 a.2.2 * q2 a.2.2)) := h3
    refine .inr ⟨h1, h2, ?_, pneg_on h4⟩
    show -q2 a.2.1 = -P.2 * (q2 a.2.2 * (q2 a.2.2 * q2 a.2.2))
    rw [h3]; exact tc_n _ _
noncomputable def addJ (a c : J3) : J3 := evP2.jadd a c
theorem addJ_rep {a c : J3} {P Q : F2 × F2} (h : Rep tb (j3 a) P) (k : Rep tb (j3 c) Q) : Rep tb (j3 (addJ a c)) (padd P Q) := by
  have e : j3 (addJ a c) = Cr.jadd (j3 a) (j3 c) := evP2.jadd_φ a c
  rw [e]; exact rep_add tb_ne h k
theorem uN_lt : uN < 2 ^ 760 := of_decide_eq_true (by kernel_rfl)
theorem hN_lt : hN < 2 ^ 760 := of_decide_eq_true (by kernel_rfl)
/-- What is cleared, less h times the point. -/
noncomputable def clJ (o : J3) : J3 := fo6 (mj o uN) fun A => fo6 (mj A uN) fun B => fo6 (negJ (tauJ (addJ A o))) fun D => fo6 (tauJ (tauJ (addJ o o))) fun E => fo6 (negJ o) fun C =>
  fo6 (addJ D E) fun X => fo6 (addJ C X) fun Y => fo6 (addJ A Y) fun Z => fo6 (addJ B Z) fun W => fo6 (mj o hN) fun H => addJ W (negJ H)
theorem clJ_rep {o : J3} {P : F2 × F2} (h : Rep tb (j3 o) P) : Rep tb (j3 (clJ o)) (padd (clr' P) (pneg (nmul P hN))) := by
  have hA := mj_rep h uN_lt
  have e : clJ o = addJ (addJ (mj (mj o uN) uN) (addJ (mj o uN) (addJ (negJ o) (addJ (negJ (tauJ (addJ (mj o uN) o))) (tauJ (tauJ (addJ o o))))))) (negJ (mj o hN)) := by
    unfold clJ; simp only [fo6_eq]
  rw [e]
  exact addJ_rep (addJ_rep (mj_rep hA uN_lt) (addJ_rep hA (addJ_rep (negJ_rep h) (addJ_rep (negJ_rep (tauJ_rep (addJ_rep hA h))) (tauJ_rep (tauJ_rep (addJ_rep h h))))))) (negJ_rep (mj_rep h hN_lt))
theorem cl_1 : evP2.isz (clJ o1).2.2 = true := by kernel_rfl
theorem cl_2 : evP2.isz (clJ o2).2.2 = true := by kernel_rfl
theorem eq_of_dif {P Q : F2 × F2} (oP : OnP tb P) (oQ : OnP tb Q) (h : padd P (pneg Q) = O2) : P = Q := by
  have c := cancel' tb_ne oP (pneg_onP oQ)
  rw [h, O_add, pneg_pneg] at c
  exact c.symm
/-- CLEARED IS h TIMES. -/
theorem clr_h {P : F2 × F2} (oP : OnP tb P) : clr P = nmul P hN := by
  rw [clr_eq]
  have oa : OnP tb T1 := .inr T1_on
  have ob : OnP tb T2 := .inr T2_on
  refine ad_clr.eq (ad_mul hN) ?_ ?_ oP
  · exact eq_of_dif (ad_clr.on _ oa) (nmul_on tb_ne oa hN) ((rep_z (clJ_rep T1_rep)).1 cl_1)
  · exact eq_of_dif (ad_clr.on _ ob) (nmul_on tb_ne ob hN) ((rep_z (clJ_rep T2_rep)).1 cl_2)
def rQ : Nat := 52435875175126190479447740508185965837690552500527637822603658699938581184513
theorem nmul_dvd {P : F2 × F2} (oP : OnP tb P) {m n : Nat} (h : nmul P m = O2) (hd : n % m = 0) : nmul P n = O2 := by
  obtain ⟨s, rfl⟩ := Nat.dvd_of_mod_eq_zero hd
  rw [← nmul_mul tb_ne oP, h, nmul_O]
/-- .. which r times is nought. -/
theorem h_r {P : F2 × F2} (oP : OnP tb P) : nmul (nmul P hN) rQ = O2 := by
  have oa : OnP tb T1 := .inr T1_on
  have ob : OnP tb T2 := .inr T2_on
  have z : Ad fun _ => (O2 : F2 × F2) := ⟨fun _ _ => .inl rfl, fun _ _ _ _ => (O_add _).symm⟩
  refine ((ad_mul rQ).comp (ad_mul hN)).eq z ?_ ?_ oP
  · show nmul (nmul T1 hN) rQ = O2
    rw [nmul_mul tb_ne oa]; exact nmul_dvd oa T1_k (of_decide_eq_true (by kernel_rfl))
  · show nmul (nmul T2 hN) rQ = O2
    rw [nmul_mul tb_ne ob]; exact nmul_dvd ob T2_k (of_decide_eq_true (by kernel_rfl))
end Cr
/- h2c: what Map makes. -/
namespace Go.Proofs.YtbfimfdhmggieaaDoor.h2c
set_option maxRecDepth 100000
open Go Go.Eng Go.RowKit Cr Go.Proofs.YtbfimfdhmggieaaDoor Go.Proofs.YtbfimfdhmggieaaDoor.fp2 Rg Fd
theorem fpsqrt_sq (y : Fp) : (fp.fpSqrt (y * y)).2 = true := by
  by_cases hy : y = 0
  · rw [hy, mul_zero]; exact fp2.fpsqrt_zero
  · unfold fp.fpSqrt
    have e : zpw (y * y) fp.p14 * zpw (y * y) fp.p14 = y * y := by
      have hf := zpw_inv hy
      rw [zpw_eq] at hf ⊢
      rw [← zpow_sq, ← zpow_add]
      have en : 2 * fp.p14.toNat + 2 * fp.p14.toNat = (4002409555221667393417789825735904156556882819939007885332058136124031650490837864442687629129015664037894272559785 : Int).toNat + 1 + 1 + 1 := of_decide_eq_true (by kernel_rfl)
      rw [en]
      generalize (4002409555221667393417789825735904156556882819939007885332058136124031650490837864442687629129015664037894272559785 : Int).toNat = m at *
      show zpow y m * y * y * y = y * y
      rw [mul_comm (zpow y m) y, hf, one_mul]
    rw [if_pos e]
theorem sqrt2_sq (z : F2) : (fp2.sqrt2 (z * z)).2 = true := by
  obtain ⟨c, d⟩ := z
  have e1 : (((c, d) : F2) * (c, d)).1 = c * c - d * d := F2.mul1 _ _
  have e2 : (((c, d) : F2) * (c, d)).2 = c * d + d * c := F2.mul2 _ _
  by_cases hb : (((c, d) : F2) * (c, d)).2 = 0
  · rw [fp2.sqrt2, if_pos hb]
    by_cases h1 : (fp.fpSqrt (((c, d) : F2) * (c, d)).1).2 = true
    · rw [if_pos h1]
    · rw [if_neg h1]
      show (fp.fpSqrt (-(((c, d) : F2) * (c, d)).1)).2 = true
      rw [e1] at h1 ⊢
      rw [e2, mul_comm d c] at hb
      rcases mul_eq_zero (double_eq_zero hb) with h | h
      · rw [h, q_8, neg_neg]; exact fpsqrt_sq d
      · rw [h, mul_zero, sub_def, neg_zero, add_zero] at h1
        exact absurd (fpsqrt_sq c) h1
  · rw [fp2.sqrt2, if_neg hb, e1, e2, q_5, if_pos (fpsqrt_sq _)]
    have hn := fp2.fpsqrt_ok (fpsqrt_sq (c * c + d * d))
    generalize (fp.fpSqrt ((c * c + d * d) * (c * c + d * d))).1 = n at *
    rcases sq_eq hn with h | h
    · rw [h, q_6, if_pos (fpsqrt_sq _)]
    · by_cases h2 : (fp.fpSqrt (c * c - d * d + n + (c * c - d * d + n))).2 = true
      · rw [if_pos h2]
      · rw [if_neg h2]
        show (fp.fpSqrt (c * c - d * d - n + (c * c - d * d - n))).2 = true
        rw [h, q_7]
        exact fpsqrt_sq _
theorem gsq_of {x y : F2} (h : y * y = hq x cG) : (gsq x).2 = true := by rw [gsq, ← h]; exact sqrt2_sq y
theorem gsq_sq {x : F2} (h : (gsq x).2 = true) : (gsq x).1 * (gsq x).1 = hq x cG := sqrt2_ok h
theorem inv2_0 : inv2 0 = 0 := by
  rw [inv2_def]
  refine F2.ext ?_ ?_
  · show (0 : Fp) * _ = 0
    rw [zero_mul]
  · show -(0 : Fp) * _ = 0
    rw [neg_zero, zero_mul]
theorem inv2_m {x : F2} (h : x ≠ 0) : x * inv2 x = 1 := mul_inv (F := F2) x h
theorem inv2_u {x y : F2} (h : y * x = 1) : inv2 x = y := by
  have hx : x ≠ 0 := fun e => by
    rw [e, mul_zero] at h
    exact absurd (congrArg Prod.fst h) (by decide)
  refine mul_left hx ?_
  rw [inv2_m hx, mul_comm x y, h]
theorem map_sq (u : F2) : (gsq (swx u)).2 = true ∨ (gsq (swx u * (cz * (u * u)))).2 = true := by
  by_cases h : ∃ y : F2, y * y = hq (swx u) cG
  · obtain ⟨y, hy⟩ := h
    exact .inl (gsq_of hy)
  · right
    have hn : ∀ y : F2, y * y ≠ hq (swx u) cG := fun y e => h ⟨y, e⟩
    by_cases hd : inv2 (cz * (u * u) * (cz * (u * u)) + cz * (u * u)) = 0
    · exfalso
      obtain ⟨y, hy⟩ := sw_0
      refine hn y ?_
      rw [swx, if_pos hd]; exact hy
    · have ht : cz * (u * u) * (cz * (u * u)) + cz * (u * u) ≠ 0 := fun e => hd (by rw [e]; exact inv2_0)
      obtain ⟨y, hy⟩ := sw_two (u := u) (t := cz * (u * u)) (d := inv2 (cz * (u * u) * (cz * (u * u)) + cz * (u * u))) (x := swx u) rfl (by rw [mul_comm]; exact inv2_m ht) (by rw [swx, if_neg hd]; rfl) hn
      exact gsq_of hy
theorem fixy_sq (u y : F2) : fixy u y * fixy u y = y * y := by
  rw [fixy]
  by_cases h : odo y = odo u
  · rw [if_pos h]
  · rw [if_neg h, neg_mul, mul_neg, neg_neg]
theorem acro_on {x y : F2} (h : y * y = hq x cG) : OnP tb (acro x y) := by
  rw [acro, opq_eq]
  by_cases hz : hq x cU * hq x cB = 0
  · rw [if_pos hz]; exact .inl rfl
  · rw [if_neg hz]; exact .inr (iso_on h (inv2_m hz))
theorem mapo_form (u : F2) : ∃ x y : F2, y * y = hq x cG ∧ mapo u = acro x (fixy u y) ∧ mapo (-u) = acro x (fixy (-u) y) := by
  have e1 : -u * -u = u * u := by rw [neg_mul, mul_neg, neg_neg]
  have e2 : swx (-u) = swx u := by rw [swx, swx, e1]
  by_cases h : (gsq (swx u)).2 = true
  · refine ⟨swx u, (gsq (swx u)).1, gsq_sq h, ?_, ?_⟩
    · rw [mapo, opq_eq, swm, if_pos h]
    · rw [mapo, opq_eq, e2, swm, if_pos h]
  · have h2 := (map_sq u).resolve_left h
    refine ⟨swx u * (cz * (u * u)), (gsq (swx u * (cz * (u * u)))).1, gsq_sq h2, ?_, ?_⟩
    · rw [mapo, opq_eq, swm, if_neg h]
    · rw [mapo, opq_eq, e2, e1, swm, if_neg h]
/-- Every number makes a point of the curve. -/
theorem mapo_on (u : F2) : OnP tb (mapo u) := by
  obtain ⟨x, y, h, e, _⟩ := mapo_form u
  rw [e]
  exact acro_on (by rw [fixy_sq, h])
theorem fixy_at {u y y' : F2} (h : y' * y' = y * y) (ho : od y = od u) : fixy u y' = y := by
  rw [fixy, odo, odo, opq_eq, opq_eq]
  rcases sq_eq h with e | e
  · rw [e, if_pos ho]
  · by_cases h0 : y = 0
    · rw [e, h0, neg_z]
      rw [neg_z]
      simp
    · rw [e, od_neg h0, ho, if_neg (by cases od u <;> decide), neg_neg]
theorem mapo_at {u d x y i : F2} (hd : d * (cz * (u * u) * (cz * (u * u)) + cz * (u * u)) = 1) (hx : ca * x = -cb * (1 + d)) (hy : y * y = hq x cG) (ho : od y = od u) (hi : i * (hq x cU * hq x cB) = 1) :
    mapo u = (hq x cW * hq x cB * i, y * hq x cH * hq x cU * i) := by
  have ed := inv2_u hd
  have hd0 : d ≠ 0 := fun e => by
    rw [e, zero_mul] at hd
    exact absurd (congrArg Prod.fst hd) (by decide)
  have ex : swx u = x := by
    rw [swx, ed, if_neg hd0]
    refine mul_left ca_ne ?_
    rw [hx]
    have h1 := inv2_m ca_ne
    generalize inv2 ca = j at *
    have e : ca * (-cb * j * (1 + d)) = (ca * j) * (-cb * (1 + d)) := by ac_rfl
    rw [e, h1, one_mul]
  have hg : (gsq x).2 = true := gsq_of hy
  have ei := inv2_u hi
  have hn : ¬ hq x cU * hq x cB = 0 := fun e => by
    rw [e, mul_zero] at hi
    exact absurd (congrArg Prod.fst hi) (by decide)
  rw [mapo, opq_eq, ex, swm, if_pos hg, fixy_at (y := y) ((gsq_sq hg).trans hy.symm) ho, acro, opq_eq, if_neg hn, ei]
def hqN (x : V2) (l : List V2) : V2 := l.foldr (fun c s => fo2 s fun s => vadd (vmul s x) c) (0, 0)
theorem hqN_eq (x : V2) : ∀ l, q2 (hqN x l) = hq (q2 x) l
  | [] => rfl
  | c :: l => by
    show q2 (fo2 (hqN x l) fun s => vadd (vmul s x) c) = hq (q2 x) l * q2 x + q2 c
    rw [fo2_eq, q2_add, q2_mul, hqN_eq x l]
def zV : V2 := (4002409555221667393417789825735904156556882819939007885332058136124031650490837864442687629129015664037894272559785, 4002409555221667393417789825735904156556882819939007885332058136124031650490837864442687629129015664037894272559786)
noncomputable def eqv (a b : V2) : Bool := evP2.isz (vsub a b)
theorem eqv_ok {a b : V2} (h : eqv a b = true) : q2 a = q2 b := by
  have h1 : q2 (vsub a b) = 0 := (evP2.isz_φ _).1 h
  rw [q2_sub] at h1
  exact eq_of_sub h1
theorem q2_one : q2 (1, 0) = 1 := rfl
noncomputable def mck (u d x y i X Y : V2) : Bool :=
  (fo2 (vmul zV (vmul u u)) fun t => eqv (vmul d (vadd (vmul t t) t)) (1, 0)) &&
  eqv (vmul (0, 240) x) (vmul (vneg (1012, 1012)) (vadd (1, 0) d)) &&
  eqv (vmul y y) (hqN x cG) &&
  (od (q2 y) == od (q2 u)) &&
  (fo2 (hqN x cU) fun U => fo2 (hqN x cB) fun B => eqv (vmul i (vmul U B)) (1, 0) && eqv (vmul (vmul (hqN x cW) B) i) X && eqv (vmul (vmul (vmul y (hqN x cH)) U) i) Y)
theorem mck_ok {u d x y i X Y : V2} (h : mck u d x y i X Y = true) : mapo (q2 u) = (q2 X, q2 Y) := by
  unfold mck at h
  simp only [Bool.and_eq_true, fo2_eq, beq_iff_eq] at h
  obtain ⟨⟨⟨⟨h1, h2⟩, h3⟩, h4⟩, ⟨h5, h6⟩, h7⟩ := h
  have h1 := eqv_ok h1
  have h2 := eqv_ok h2
  have h3 := eqv_ok h3
  have h5 := eqv_ok h5
  have h6 := eqv_ok h6
  have h7 := eqv_ok h7
  simp only [q2_mul, q2_add, q2_neg, hqN_eq, q2_one] at h1 h2 h3 h5 h6 h7
  rw [mapo_at (u := q2 u) (d := q2 d) (x := q2 x) (y := q2 y) (i := q2 i) h1 h2 h3 h4 h5, h6, h7]
def hu0 : V2 := (593868448310005448561172252387029516360409945786457439875974315031640021389835649561235021338510064922970633805048, 867375309489067512797459860887365951877054038763818448057326190302701649888849997836339069389536967202878289851290)
def hd0 : V2 := (1516481514946737989817691402502930166608728453590917569809237108048006962059989903273067253177416255699306394247410, 1883201769330466065671958181559058082716285314217293419436581379803024778698693945944863852649598770086728047395995)
def hx0 : V2 := (3942339120143403995959884458065911863622623490130179671696530864527894030375709350085997343451924840375271949093332, 3523381697296058645143708860912139218718520142948191822158638626523448297128525915027995335789050238781038107799201)
def hy0 : V2 := (1842813153358560687634500333570189006426514559071004676715031705637331861897467026112259097700599015948196491964104, 1919560373509329990190398196596248904228486898136222165059580822353869402983639316101175960854421770934878934628156)
def hi0 : V2 := (2454567654962684433529200433411278197692559676238490619416670460433141543914263196284380402029910341794404062652095, 2469042902584607311002421584728987765691350006403795933686936770579748216862851481181808083345152729306251949154084)
def hX0 : V2 := (247000889425909073323253760662594248478519539052718751429094202182751397921429811614953873291195197910072700650892, 3557179370195599083109501581838000826052321867195478666908439992121263526125384222649169667449608345548902519938077)
def hY0 : V2 := (1789866621042807238102907475382506332034840965291028464945081245097279248221497616806901995510849528127582528143091, 2261920060396917200558995605865363952988463533408187402812091326590595155556733986360256617149524560595567798206730)
def hu1 : V2 := (457889704519948843474026022562641969443315715595459159112874498082953431971323809145630315884223143822925947137684, 3132697209754082586339430915081913810572071485832539443682634025529375380328136128542015469873094481703191673087029)
def hd1 : V2 := (1221644787499537759389707874314907733265958153886478669368798400684096060258956443229136157537698125499892319689601, 3745939490412463010995062332805027016761066959291460031786134864261167340089249978301062770010696175075576528609227)
def hx1 : V2 := (1133312341110595205232359498620679734391514329429885310878552117098380600406185141389821276199340445849156426628096, 2363721723854250884338572300341685530072160368677437549136086854319785634144151986552110912074825799079021304874889)
def hy1 : V2 := (2118805429048073078443247863779680561222250856781612015223057344889147526018767378659529981548751757045068950554072, 1078123135037974527736698374119090217049035685701368399503148425326441759310804083797413869614596539324259578903443)
def hi1 : V2 := (1653521226226606539238622212149338904841251379436092275785307872052369282295753674026873335922746312574405142031088, 1450249029647743005075847438497611364360331081100495511459224611447411126789024356187898526310641575945036211539392)
def hX1 : V2 := (2653316741049867356846339142779301820246227038474367602164293991028731662252487887055483099994673757855056102033598, 3004540012464469496149443751502035824386563338581531881619960946487251912156763500062348703680303970725657264924210)
def hY1 : V2 := (2436093761503339277710533452184041720241350573820092656898129088132931367043020801076222585008031239228777997258186, 836535538336124528574557550904612322806859485510882466665227695209180661987073534533776044142505491651567017359628)
def hCx : V2 := (193548053368451749411421515628510806626565736652086807419354395577367693778571452628423727082668900187036482254730, 891930009643099423308102777951250899694559203647724988361022851024990473423938537113948850338098230396747396259901)
def hCy : V2 := (771717272055834152378281705972671257005357145478800908373659404991537354153455452961747174765859335819766715637138, 2810310118582126634041133454180705304393079139103252956502404531123692847658283858246402311867775854528543237781718)
theorem map_0 : mapo (q2 hu0) = (q2 hX0, q2 hY0) := mck_ok (d := hd0) (x := hx0) (y := hy0) (i := hi0) (by kernel_rfl)
theorem map_1 : mapo (q2 hu1) = (q2 hX1, q2 hY1) := mck_ok (d := hd1) (x := hx1) (y := hy1) (i := hi1) (by kernel_rfl)
theorem p0_rep : Rep tb (j3 (jp hX0 hY0)) (mapo (q2 hu0)) := by rw [map_0]; exact jp_rep (onc_ok (by kernel_rfl))
theorem p1_rep : Rep tb (j3 (jp hX1 hY1)) (mapo (q2 hu1)) := by rw [map_1]; exact jp_rep (onc_ok (by kernel_rfl))
noncomputable def hJ : J3 := fo6 (addJ (jp hX0 hY0) (jp hX1 hY1)) fun s => mj s hN
theorem hJ_rep : Rep tb (j3 hJ) (nmul (padd (mapo (q2 hu0)) (mapo (q2 hu1))) hN) := by
  unfold hJ
  rw [fo6_eq]
  exact mj_rep (addJ_rep p0_rep p1_rep) hN_lt
noncomputable def hJc : Bool := fo6 hJ fun j => !evP2.isz j.2.2 && eqv j.1 (vmul hCx (vmul j.2.2 j.2.2)) && eqv j.2.1 (vmul hCy (vmul j.2.2 (vmul j.2.2 j.2.2)))
theorem hJc_ok : hJc = true := by kernel_rfl
theorem head_pt : nmul (padd (mapo (q2 hu0)) (mapo (q2 hu1))) hN = (q2 hCx, q2 hCy) := by
  have h := hJc_ok
  unfold hJc at h
  rw [fo6_eq] at h
  simp only [Bool.and_eq_true, Bool.not_eq_true'] at h
  obtain ⟨⟨h1, h2⟩, h3⟩ := h
  have h2 := eqv_ok h2
  have h3 := eqv_ok h3
  simp only [q2_mul] at h2 h3
  have hr := hJ_rep
  generalize nmul (padd (mapo (q2 hu0)) (mapo (q2 hu1))) hN = P at *
  rcases hr with ⟨hz, _⟩ | ⟨hz, hX, hY, _⟩
  · exact absurd ((evP2.isz_φ _).2 hz) (by rw [h1]; decide)
  · have hz : q2 hJ.2.2 ≠ 0 := hz
    have hX : q2 hJ.1 = P.1 * (q2 hJ.2.2 * q2 hJ.2.2) := hX
    have hY : q2 hJ.2.1 = P.2 * (q2 hJ.2.2 * (q2 hJ.2.2 * q2 hJ.2.2)) := hY
    rw [hX] at h2
    rw [hY] at h3
    have hz2 := mul_ne hz hz
    refine Prod.ext (mul_left hz2 ?_) (mul_left (mul_ne hz hz2) ?_)
    · rw [mul_comm, h2, mul_comm]
    · rw [mul_comm, h3, mul_comm]
end Go.Proofs.YtbfimfdhmggieaaDoor.h2c
namespace Go.Proofs.YtbfimfdhmggieaaDoor.xmd
set_option maxRecDepth 100000
open Go Go.Eng Go.RowKit Cr Go.Proofs.YtbfimfdhmggieaaDoor Go.Proofs.YtbfimfdhmggieaaDoor.sha
/-- The numbers. -/
noncomputable def nmb (E : List Int) (i : Nat) : F2 := (zm (num ((E.drop (128 * i)).take 64)), zm (num ((E.drop (128 * i + 64)).take 64)))
noncomputable def nums (m t : List Int) (n : Nat) : List F2 := opq ((List.range n).map (nmb (expo m t (128 * (n : Int)))))
theorem nums_len (m t : List Int) (n : Nat) : (nums m t n).length = n := by rw [nums, opq_eq, List.length_map, List.length_range]
theorem nums_two (m t : List Int) : nums m t 2 = [nmb (expo m t 256) 0, nmb (expo m t 256) 1] := by rw [nums, opq_eq]; rfl
noncomputable def splC (d : List Int) : List Int := itC (fun i w => itC (fun j w => sB d i j w) w 4) (List.replicate 8 0) 8
noncomputable def bytC (o : List Int) : List Int := itC (fun i d => itC (fun j d => bB o i j d) d 4) (List.replicate 32 0) 8
theorem splC_eq (d : List Int) : splC d = spl d := by
  have hs : it (fun i w => itC (fun j w => sB d i j w) w 4) (List.replicate 8 0) 8 = sAk d 8 := it_congr _ 8 (fun i _ w => by rw [itC_eq]; rfl)
  rw [splC, itC_eq, hs, spl, opq_eq]
theorem bytC_eq (o : List Int) : bytC o = byt o := by
  have hb : it (fun i d => itC (fun j d => bB o i j d) d 4) (List.replicate 32 0) 8 = bAk o 8 := it_congr _ 8 (fun i _ w => by rw [itC_eq]; rfl)
  rw [bytC, itC_eq, hb, byt, opq_eq]
noncomputable def nxC (f t : List Int) (i : Nat) (last : List Int) : List Int :=
  fl (itC (oA last) f 8) fun o => fl (bytC o) fun y => fl (digC (List.flatten [y, [IntKind.u8.wrap ((i : Int) + 1)], t, endF t])) fun z => z
theorem nxC_eq (f t : List Int) (i : Nat) (last : List Int) : nxC f t i last = nxD f t i last := by
  rw [nxC]
  simp only [fl_eq]
  rw [itC_eq, bytC_eq, digC_eq, nxD, ovr, opq_eq]; rfl
noncomputable def expC8 (msg tag : List Int) : List Int :=
  fl (digC (List.flatten [List.replicate 64 0, msg, [IntKind.u8.wrap ((256 : Int).fdiv (2 ^ min (8 : Nat) IntKind.i64.bits)), IntKind.u8.wrap 256, 0], tag, endF tag])) fun d =>
  fl (splC d) fun f =>
  fl (nxC f tag 0 (List.replicate 8 0)) fun a0 => fl (splC a0) fun w0 => fl (nxC f tag 1 w0) fun a1 => fl (splC a1) fun w1 => fl (nxC f tag 2 w1) fun a2 => fl (splC a2) fun w2 => fl (nxC f tag 3 w2) fun a3 => fl (splC a3) fun w3 =>
  fl (nxC f tag 4 w3) fun a4 => fl (splC a4) fun w4 => fl (nxC f tag 5 w4) fun a5 => fl (splC a5) fun w5 => fl (nxC f tag 6 w5) fun a6 => fl (splC a6) fun w6 => fl (nxC f tag 7 w6) fun a7 =>
  [] ++ a0 ++ a1 ++ a2 ++ a3 ++ a4 ++ a5 ++ a6 ++ a7
theorem expC8_eq {msg tag : List Int} (ht : tag.length ≤ 255) : expC8 msg tag = expo msg tag 256 := by
  rw [expo, opq_eq, expF, tagF, decide_eq_false (by omega)]
  show _ = (exK (fstF msg tag 256) tag 8).1.take 256
  rw [List.take_of_length_le (by rw [exK_len]; omega)]
  rw [expC8]
  simp only [fl_eq, nxC_eq, splC_eq, digC_eq]
  rfl
def quux2 : List Int := [81, 85, 85, 88, 45, 86, 48, 49, 45, 67, 83, 48, 50, 45, 119, 105, 116, 104, 45, 66, 76, 83, 49, 50, 51, 56, 49, 71, 50, 95, 88, 77, 68, 58, 83, 72, 65, 45, 50, 53, 54, 95, 83, 83, 87, 85, 95, 82, 79, 95]
def nck (l : List Int) (a : Nat) : Bool := decide (num l % Mp = (a : Int) % Mp)
theorem head_num : (fl (expC8 [] quux2) fun l => nck (l.take 64) h2c.hu0.1 && nck ((l.drop 64).take 64) h2c.hu0.2 && nck ((l.drop 128).take 64) h2c.hu1.1 && nck ((l.drop 192).take 64) h2c.hu1.2) = true := by kernel_rfl
theorem nums_q : nums [] quux2 2 = [q2 h2c.hu0, q2 h2c.hu1] := by
  have h := head_num
  rw [fl_eq, expC8_eq (by decide)] at h
  simp only [Bool.and_eq_true] at h
  obtain ⟨⟨⟨h1, h2⟩, h3⟩, h4⟩ := h
  rw [nums_two]
  have e0 : nmb (expo [] quux2 256) 0 = q2 h2c.hu0 := F2.ext (Zm.ext (of_decide_eq_true h1)) (Zm.ext (of_decide_eq_true h2))
  have e1 : nmb (expo [] quux2 256) 1 = q2 h2c.hu1 := F2.ext (Zm.ext (of_decide_eq_true h3)) (Zm.ext (of_decide_eq_true h4))
  rw [e0, e1]
end Go.Proofs.YtbfimfdhmggieaaDoor.xmd
