/- Montgomery's product, in plain words. No program here. -/
import Derived.Test.YtkfghpniaahjjaaNum
namespace Cr

/-- One row: what is left of x v + t + m p, word by word, behind the lowest; a, c: what is carried. -/
def rowM : List Int → List Int → List Int → Int → Int → Int → Int → List Int
  | x :: xs, p :: ps, t :: ts, v, m, a, c =>
    (m * p + (x * v + t + a) % 18446744073709551616 + c) % 18446744073709551616 ::
      rowM xs ps ts v m ((x * v + t + a) / 18446744073709551616) ((m * p + (x * v + t + a) % 18446744073709551616 + c) / 18446744073709551616)
  | _, _, _, _, _, a, c => [(a + c) % 18446744073709551616]

theorem rowM_spec {v m : Int} (hv : 0 ≤ v) (hm : 0 ≤ m) : ∀ (xs ps ts : List Int) (a c : Int), xs.length = ps.length → ps.length = ts.length → Ws xs → Ws ps → Ws ts → 0 ≤ a → 0 ≤ c →
    (rowM xs ps ts v m a c).length = xs.length + 1 ∧ Ws (rowM xs ps ts v m a c) ∧
    ∃ q, 0 ≤ q ∧ val (rowM xs ps ts v m a c) + pw (xs.length + 1) * q = val xs * v + val ts + m * val ps + a + c := by
  intro xs
  induction xs with
  | nil =>
    intro ps ts a c h1 h2 _ _ _ ha hc
    have e1 : ps = [] := by cases ps with | nil => rfl | cons _ _ => simp at h1
    subst e1
    have e2 : ts = [] := by cases ts with | nil => rfl | cons _ _ => simp at h2
    subst e2
    refine ⟨rfl, ?_, (a + c) / 18446744073709551616, by omega, ?_⟩
    · intro x hx
      simp only [rowM, List.mem_singleton] at hx
      subst hx; exact ⟨by omega, by omega⟩
    · simp only [rowM, val, pw, List.length_nil, Int.mul_zero]; omega
  | cons x xs ih =>
    intro ps ts a c h1 h2 hx hp ht ha hc
    cases ps with
    | nil => simp at h1
    | cons p ps =>
      cases ts with
      | nil => simp at h2
      | cons t ts =>
        obtain ⟨x0, x1⟩ := hx x (by simp)
        obtain ⟨p0, p1⟩ := hp p (by simp)
        obtain ⟨t0, t1⟩ := ht t (by simp)
        have hxv : 0 ≤ x * v := Int.mul_nonneg x0 hv
        have hmp : 0 ≤ m * p := Int.mul_nonneg hm p0
        simp only [rowM]
        generalize hu : x * v + t + a = u
        generalize hz : m * p + u % 18446744073709551616 + c = z
        obtain ⟨g1, g2, q, g3, g4⟩ := ih ps ts (u / 18446744073709551616) (z / 18446744073709551616) (by simpa using h1) (by simpa using h2) (fun y hy => hx y (by simp [hy])) (fun y hy => hp y (by simp [hy])) (fun y hy => ht y (by simp [hy])) (by omega) (by omega)
        refine ⟨by simp [g1], ?_, q, g3, ?_⟩
        · intro y hy
          simp only [List.mem_cons] at hy
          rcases hy with rfl | hy
          · exact ⟨by omega, by omega⟩
          · exact g2 y hy
        · simp only [val, List.length_cons]
          rw [show pw (xs.length + 1 + 1) = 18446744073709551616 * pw (xs.length + 1) from rfl, Int.mul_assoc]
          rw [show (x + 18446744073709551616 * val xs) * v = x * v + 18446744073709551616 * (val xs * v) from by rw [Int.add_mul, Int.mul_assoc]]
          rw [show m * (p + 18446744073709551616 * val ps) = m * p + 18446744073709551616 * (m * val ps) from by rw [Int.mul_add, Int.mul_left_comm]]
          generalize pw (xs.length + 1) * q = A at *
          generalize val xs * v = C at *
          generalize m * val ps = D at *
          generalize x * v = G at *
          generalize m * p = H at *
          omega

/-- One word of y. -/
def stepM (cancel : Int) : List Int → List Int → List Int → Int → List Int
  | x :: xs, p :: ps, t :: ts, v =>
    rowM xs ps ts v (((x * v + t + 0) % 18446744073709551616) * cancel % 18446744073709551616) ((x * v + t + 0) / 18446744073709551616)
      (((((x * v + t + 0) % 18446744073709551616) * cancel % 18446744073709551616) * p + (x * v + t + 0) % 18446744073709551616 + 0) / 18446744073709551616)
  | _, _, _, _ => []

theorem stepM_spec {cancel v : Int} {xs ps ts : List Int} (h1 : xs.length = ps.length) (h2 : ps.length = ts.length) (hx : Ws xs) (hp : Ws ps) (ht : Ws ts) (hne : ps ≠ []) (hv : U64 v)
    (hc : (ps.headD 0 * cancel + 1) % 18446744073709551616 = 0) (hb : val ts < val xs + val ps) (hxp : val xs < val ps) (h2p : 2 * val ps ≤ pw ps.length) :
    (stepM cancel xs ps ts v).length = ts.length ∧ Ws (stepM cancel xs ps ts v) ∧ val (stepM cancel xs ps ts v) < val xs + val ps ∧
    ∃ m, 18446744073709551616 * val (stepM cancel xs ps ts v) = val xs * v + val ts + m * val ps := by
  obtain ⟨hv0, hv1⟩ := hv
  cases ps with
  | nil => exact absurd rfl hne
  | cons p ps =>
  cases xs with
  | nil => simp at h1
  | cons x xs =>
  cases ts with
  | nil => simp at h2
  | cons t ts =>
    obtain ⟨x0, x1⟩ := hx x (by simp)
    obtain ⟨p0, p1⟩ := hp p (by simp)
    obtain ⟨t0, t1⟩ := ht t (by simp)
    have hxv : 0 ≤ x * v := Int.mul_nonneg x0 hv0
    simp only [stepM]
    generalize hu : x * v + t + 0 = u
    generalize hs : u % 18446744073709551616 = s
    generalize hm : s * cancel % 18446744073709551616 = m
    have hm0 : 0 ≤ m ∧ m < 18446744073709551616 := by omega
    have hmp : 0 ≤ m * p := Int.mul_nonneg hm0.1 p0
    -- m p + s is a multiple of 2^64
    have hdiv : (m * p + s + 0) % 18446744073709551616 = 0 := by
      simp only [List.headD_cons] at hc
      have e1 : (m * p + s) % 18446744073709551616 = (s * (p * cancel + 1)) % 18446744073709551616 := by
        have hk := Int.emod_add_mul_ediv (s * cancel) 18446744073709551616
        rw [hm] at hk
        rw [show m * p + s = s * (p * cancel + 1) + 18446744073709551616 * (-(s * cancel / 18446744073709551616 * p)) from by grind]
        exact Int.add_mul_emod_self_left _ _ _
      rw [Int.add_zero, e1, Int.mul_emod, hc]; simp
    generalize hz : m * p + s + 0 = z at *
    obtain ⟨g1, g2, q, g3, g4⟩ := rowM_spec hv0 hm0.1 xs ps ts (u / 18446744073709551616) (z / 18446744073709551616) (by simpa using h1) (by simpa using h2) (fun y hy => hx y (by simp [hy])) (fun y hy => hp y (by simp [hy])) (fun y hy => ht y (by simp [hy])) (by omega) (by omega)
    have hlen : xs.length + 1 = (p :: ps).length := by simpa using h1
    have n0 := val_nonneg g2
    have X0 := val_nonneg hx
    have P0 := val_nonneg hp
    -- the whole
    have whole : 18446744073709551616 * (val xs * v + val ts + m * val ps + u / 18446744073709551616 + z / 18446744073709551616) = val (x :: xs) * v + val (t :: ts) + m * val (p :: ps) := by
      simp only [val]
      rw [show (x + 18446744073709551616 * val xs) * v = x * v + 18446744073709551616 * (val xs * v) from by rw [Int.add_mul, Int.mul_assoc]]
      rw [show m * (p + 18446744073709551616 * val ps) = m * p + 18446744073709551616 * (m * val ps) from by rw [Int.mul_add, Int.mul_left_comm]]
      generalize val xs * v = C at *
      generalize m * val ps = D at *
      generalize x * v = G at *
      generalize m * p = H at *
      omega
    -- its bound
    have b1 : val (x :: xs) * v ≤ val (x :: xs) * 18446744073709551615 := Int.mul_le_mul_of_nonneg_left (by omega) X0
    have b2 : m * val (p :: ps) ≤ 18446744073709551615 * val (p :: ps) := Int.mul_le_mul_of_nonneg_right (by omega) P0
    generalize val (x :: xs) * v = XV at *
    generalize hMP : m * val (p :: ps) = MP at *
    have bnd : val xs * v + val ts + m * val ps + u / 18446744073709551616 + z / 18446744073709551616 < val (x :: xs) + val (p :: ps) := by omega
    rw [hlen] at g4
    have hq : q = 0 := by
      rcases Int.lt_or_le 0 q with h | h
      · exfalso
        have : pw (p :: ps).length * 1 ≤ pw (p :: ps).length * q := Int.mul_le_mul_of_nonneg_left (by omega) (Int.le_of_lt (pw_pos _))
        omega
      · omega
    subst hq
    simp only [Int.mul_zero, Int.add_zero] at g4
    refine ⟨by rw [g1]; simp at h1 h2 ⊢; omega, g2, by rw [g4]; exact bnd, m, ?_⟩
    rw [g4, whole, hMP]

/-- All words of y. -/
def foldM (cancel : Int) (xs ps : List Int) : List Int → List Int → List Int
  | ts, [] => ts
  | ts, v :: vs => foldM cancel xs ps (stepM cancel xs ps ts v) vs

theorem foldM_spec {cancel : Int} {xs ps : List Int} (h1 : xs.length = ps.length) (hx : Ws xs) (hp : Ws ps) (hne : ps ≠ [])
    (hc : (ps.headD 0 * cancel + 1) % 18446744073709551616 = 0) (hxp : val xs < val ps) (h2p : 2 * val ps ≤ pw ps.length) : ∀ (vs ts : List Int), Ws vs → ps.length = ts.length → Ws ts → val ts < val xs + val ps →
    (foldM cancel xs ps ts vs).length = ps.length ∧ Ws (foldM cancel xs ps ts vs) ∧ val (foldM cancel xs ps ts vs) < val xs + val ps ∧
    ∃ m, pw vs.length * val (foldM cancel xs ps ts vs) = val xs * val vs + val ts + m * val ps := by
  intro vs
  induction vs with
  | nil => intro ts _ h2 ht hb; exact ⟨h2.symm, ht, hb, 0, by simp [foldM, pw, val]⟩
  | cons v vs ih =>
    intro ts hvs h2 ht hb
    obtain ⟨g1, g2, g3, m, g4⟩ := stepM_spec h1 h2 hx hp ht hne (hvs v (by simp)) hc hb hxp h2p
    obtain ⟨k1, k2, k3, m2, k4⟩ := ih (stepM cancel xs ps ts v) (fun y hy => hvs y (by simp [hy])) (by rw [g1]; exact h2) g2 g3
    refine ⟨k1, k2, k3, m + 18446744073709551616 * m2, ?_⟩
    simp only [foldM, pw, val, List.length_cons]
    rw [Int.mul_assoc, k4, Int.mul_add, Int.mul_add, g4]
    grind

/-- times: x y / 2^(64 n), below 2 p, modulo p. -/
theorem mont_spec {cancel : Int} {xs ps ys : List Int} (h1 : xs.length = ps.length) (h2 : ys.length = ps.length) (hx : Ws xs) (hp : Ws ps) (hy : Ws ys) (hne : ps ≠ [])
    (hc : (ps.headD 0 * cancel + 1) % 18446744073709551616 = 0) (hxp : val xs < val ps) (h2p : 2 * val ps ≤ pw ps.length) {rinv : Int} (hr : (pw ps.length * rinv) % val ps = 1 % val ps) :
    (foldM cancel xs ps (List.replicate ps.length 0) ys).length = ps.length ∧ Ws (foldM cancel xs ps (List.replicate ps.length 0) ys) ∧ val (foldM cancel xs ps (List.replicate ps.length 0) ys) < 2 * val ps ∧
    val (foldM cancel xs ps (List.replicate ps.length 0) ys) % val ps = (val xs * val ys * rinv) % val ps := by
  have z : ∀ n, val (List.replicate n 0) = 0 := by
    intro n
    induction n with
    | zero => rfl
    | succ n ih => simp [List.replicate_succ, val, ih]
  have zw : Ws (List.replicate ps.length 0) := by
    intro x hx; rw [(List.mem_replicate.1 hx).2]; exact ⟨by omega, by omega⟩
  have X0 := val_nonneg hx
  obtain ⟨k1, k2, k3, m, k4⟩ := foldM_spec h1 hx hp hne hc hxp h2p ys (List.replicate ps.length 0) hy (by simp) zw (by rw [z]; omega)
  refine ⟨k1, k2, by omega, ?_⟩
  rw [z, h2] at k4
  generalize val (foldM cancel xs ps (List.replicate ps.length 0) ys) = T at *
  have e1 : (T * (pw ps.length * rinv)) % val ps = T % val ps := by
    rw [Int.mul_emod, hr, ← Int.mul_emod, Int.mul_one]
  rw [← e1, show T * (pw ps.length * rinv) = (pw ps.length * T) * rinv from by rw [Int.mul_comm (pw ps.length) T, Int.mul_assoc], k4]
  rw [show (val xs * val ys + 0 + m * val ps) * rinv = val xs * val ys * rinv + (m * rinv) * val ps from by grind]
  exact Int.add_mul_emod_self_right _ _ _
end Cr
