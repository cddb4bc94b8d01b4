/- Commutative rings and fields: identities by computation. No program here. -/
import Derived.Test.YtbfimfdhmggieaaDoorProg
import Derived.KernelRfl
import Derived.Test.YtbfimfdhmggieaaDoorML11nPR
/- Words of 64 bits: the library's Mul64, Add64, Sub64. -/
namespace Go.Proofs.YtbfimfdhmggieaaDoor
open Go Go.Eng Go.RowKit Cr

theorem mixed : Tryd.prog.follows .mixedOrders = true := by kernel_rfl

theorem wrap_u64 {a : Int} (h0 : 0 ≤ a) (h1 : a < 18446744073709551616) : IntKind.u64.wrap a = a := by
  simp only [IntKind.wrap, IntKind.signed, IntKind.bits]
  simp only [Bool.false_and]
  exact Int.emod_eq_of_lt h0 (by simpa using h1)

theorem wrap_u64_mod (a : Int) : IntKind.u64.wrap a = a % 18446744073709551616 := by
  simp [IntKind.wrap, IntKind.signed, IntKind.bits]

theorem wrap_i64 {a : Int} (h0 : -9223372036854775808 ≤ a) (h1 : a < 9223372036854775808) : IntKind.i64.wrap a = a := by
  have e : IntKind.i64.wrap a = if (9223372036854775808 : Int) ≤ a % 18446744073709551616 then a % 18446744073709551616 - 18446744073709551616 else a % 18446744073709551616 := by
    simp [IntKind.wrap, IntKind.signed, IntKind.bits]
  rw [e]
  split <;> omega

theorem toNat_ofInt64 (n : Nat) (h : n < 18446744073709551616) : (BitVec.ofInt 64 (n : Int)).toNat = n := by
  rw [show BitVec.ofInt 64 (n : Int) = BitVec.ofNat 64 n from by simp, BitVec.toNat_ofNat, Nat.mod_eq_of_lt (by omega)]

theorem and_u64 (n m : Nat) (hn : n < 18446744073709551616) (hm : m < 18446744073709551616) : bitOp .and .u64 n m = ((n &&& m : Nat) : Int) := by
  show IntKind.u64.wrap ((BitVec.ofInt 64 n &&& BitVec.ofInt 64 m : BitVec 64).toNat : Int) = _
  rw [BitVec.toNat_and, toNat_ofInt64 n hn, toNat_ofInt64 m hm, wrap_u64 (by omega)]
  have := Nat.and_le_left (n := n) (m := m)
  omega

theorem and_mask {a : Int} (h0 : 0 ≤ a) (h1 : a < 18446744073709551616) : bitOp .and .u64 a 4294967295 = a % 4294967296 := by
  obtain ⟨n, rfl⟩ := Int.eq_ofNat_of_zero_le h0
  have := and_u64 n 4294967295 (by omega) (by omega)
  rw [show ((4294967295 : Nat) : Int) = 4294967295 from rfl] at this
  rw [this]
  have h := Nat.and_two_pow_sub_one_eq_mod n 32
  rw [show 2 ^ 32 - 1 = 4294967295 from rfl] at h
  rw [h]
  omega

theorem mul_split (a1 a0 b1 b0 : Int) : (a1 * 4294967296 + a0) * (b1 * 4294967296 + b0) = a1 * b1 * 18446744073709551616 + (a1 * b0) * 4294967296 + (a0 * b1) * 4294967296 + a0 * b0 := by
  grind

theorem mul_bd {x y m n : Int} (hx0 : 0 ≤ x) (hx : x ≤ m) (hy0 : 0 ≤ y) (hy : y ≤ n) : 0 ≤ x * y ∧ x * y ≤ m * n := by
  refine ⟨Int.mul_nonneg hx0 hy0, Int.mul_le_mul hx hy hy0 (by omega)⟩

def hi64 (a b : Int) : Int :=
  let s := fun x : Int => Int.fdiv x (2 ^ min (Int.toNat 32) IntKind.u64.bits)
  let m := fun x : Int => bitOp .and .u64 x 4294967295
  let W := IntKind.u64.wrap
  let t := W (W (s a * m b) + s (W (m a * m b)))
  W (W (W (s a * s b) + s t) + s (W (m t + W (m a * s b))))

theorem hi64_eq {a b : Int} (ha0 : 0 ≤ a) (ha : a < 18446744073709551616) (hb0 : 0 ≤ b) (hb : b < 18446744073709551616) : hi64 a b = a * b / 18446744073709551616 := by
  have hs : ∀ x : Int, Int.fdiv x (2 ^ min (Int.toNat 32) IntKind.u64.bits) = x / 4294967296 := by
    intro x
    rw [show (2 : Int) ^ min (Int.toNat 32) IntKind.u64.bits = 4294967296 from by decide]
    exact Int.fdiv_eq_ediv_of_nonneg x (by decide)
  unfold hi64
  simp only [hs, and_mask ha0 ha, and_mask hb0 hb]
  have ea : a = (a / 4294967296) * 4294967296 + a % 4294967296 := by omega
  have eb : b = (b / 4294967296) * 4294967296 + b % 4294967296 := by omega
  have key := mul_split (a / 4294967296) (a % 4294967296) (b / 4294967296) (b % 4294967296)
  rw [← ea, ← eb] at key
  have d1 := mul_bd (x := a / 4294967296) (y := b / 4294967296) (m := 4294967295) (n := 4294967295) (by omega) (by omega) (by omega) (by omega)
  have d2 := mul_bd (x := a / 4294967296) (y := b % 4294967296) (m := 4294967295) (n := 4294967295) (by omega) (by omega) (by omega) (by omega)
  have d3 := mul_bd (x := a % 4294967296) (y := b / 4294967296) (m := 4294967295) (n := 4294967295) (by omega) (by omega) (by omega) (by omega)
  have d4 := mul_bd (x := a % 4294967296) (y := b % 4294967296) (m := 4294967295) (n := 4294967295) (by omega) (by omega) (by omega) (by omega)
  generalize a * b = ab at *
  generalize (a / 4294967296) * (b / 4294967296) = p11 at *
  generalize (a / 4294967296) * (b % 4294967296) = p10 at *
  generalize (a % 4294967296) * (b / 4294967296) = p01 at *
  generalize (a % 4294967296) * (b % 4294967296) = p00 at *
  rw [wrap_u64 (a := p00) (by omega) (by omega), wrap_u64 (a := p10) (by omega) (by omega), wrap_u64 (a := p01) (by omega) (by omega), wrap_u64 (a := p11) (by omega) (by omega)]
  rw [wrap_u64 (a := p10 + p00 / 4294967296) (by omega) (by omega)]
  rw [and_mask (a := p10 + p00 / 4294967296) (by omega) (by omega)]
  rw [wrap_u64 (a := (p10 + p00 / 4294967296) % 4294967296 + p01) (by omega) (by omega)]
  rw [wrap_u64 (a := p11 + (p10 + p00 / 4294967296) / 4294967296) (by omega) (by omega)]
  rw [wrap_u64 (by omega) (by omega)]
  omega

theorem ent_mul64 : enters Tryd.prog 143 Tryd.f143 := enters_mk (by kernel_rfl) (by kernel_rfl) (by kernel_rfl)

abbrev preMul64 : HL [.int .u64, .int .u64] → Prop := fun (a, b, _) => U64 a ∧ U64 b
abbrev outMul64 : HL [.int .u64, .int .u64] → HO [.val (.int .u64), .val (.int .u64)] := fun (a, b, _) => ((a : Int) * b / 18446744073709551616, (a : Int) * b % 18446744073709551616, ())

theorem fn_mul64 : FnOk Tryd.prog 143 [.int .u64, .int .u64] [.val (.int .u64), .val (.int .u64)] noG preMul64 outMul64 := by
  refine fn_of_vc sps_nil mixed ent_mul64 (by decide) (by decide) ?_
  rintro w M ⟨a, b, ⟨⟩⟩ _ ⟨⟨ha0, ha⟩, hb0, hb⟩
  refine vcx (X := ((0 : Int) ≤ 32 ∧ (0 : Int) ≤ 32 ∧ (0 : Int) ≤ 32 ∧ (0 : Int) ≤ 32 ∧ (0 : Int) ≤ 32 ∧ (((hi64 a b, IntKind.u64.wrap (a * b), ()) : Int × Int × Unit) = outMul64 (a, b, ())))) (by kernel_rfl) ?_
  refine ⟨by decide, by decide, by decide, by decide, by decide, ?_⟩
  rw [hi64_eq ha0 ha hb0 hb, wrap_u64_mod]

abbrev preCarry : HL [.int .u64, .int .u64, .int .u64] → Prop := fun (a, b, c, _) => U64 a ∧ U64 b ∧ ((c : Int) = 0 ∨ (c : Int) = 1)
abbrev outAdd64 : HL [.int .u64, .int .u64, .int .u64] → HO [.val (.int .u64), .val (.int .u64)] := fun (a, b, c, _) => (((a : Int) + b + c) % 18446744073709551616, ((a : Int) + b + c) / 18446744073709551616, ())
abbrev outSub64 : HL [.int .u64, .int .u64, .int .u64] → HO [.val (.int .u64), .val (.int .u64)] := fun (a, b, c, _) => (((a : Int) - b - c) % 18446744073709551616, (if (a : Int) < b + c then (1 : Int) else 0), ())

theorem run_add64 (a b : Int) (w : World) : (callFunc 142 #[.int .u64 a, .int .u64 b, .int .u64 0]).run Tryd.prog w = .ok (.value (.tuple #[.int .u64 (Int.ofNat ((a.toNat + b.toNat + 0) % 18446744073709551616)), .int .u64 (Int.ofNat ((a.toNat + b.toNat + 0) / 18446744073709551616))])) w ∧
    (callFunc 142 #[.int .u64 a, .int .u64 b, .int .u64 1]).run Tryd.prog w = .ok (.value (.tuple #[.int .u64 (Int.ofNat ((a.toNat + b.toNat + 1) % 18446744073709551616)), .int .u64 (Int.ofNat ((a.toNat + b.toNat + 1) / 18446744073709551616))])) w := by
  constructor <;> kernel_rfl

theorem run_sub64 (a b : Int) (w : World) : (callFunc 144 #[.int .u64 a, .int .u64 b, .int .u64 0]).run Tryd.prog w = .ok (.value (.tuple #[.int .u64 (Int.ofNat ((a.toNat + 18446744073709551616 - b.toNat - 0) % 18446744073709551616)), .int .u64 (Int.ofNat (if a.toNat < b.toNat + 0 then 1 else 0))])) w ∧
    (callFunc 144 #[.int .u64 a, .int .u64 b, .int .u64 1]).run Tryd.prog w = .ok (.value (.tuple #[.int .u64 (Int.ofNat ((a.toNat + 18446744073709551616 - b.toNat - 1) % 18446744073709551616)), .int .u64 (Int.ofNat (if a.toNat < b.toNat + 1 then 1 else 0))])) w := by
  constructor <;> kernel_rfl

theorem fn_add64 : FnOk Tryd.prog 142 [.int .u64, .int .u64, .int .u64] [.val (.int .u64), .val (.int .u64)] noG preCarry outAdd64 := by
  rintro w M us ⟨a, b, c, ⟨⟩⟩ _ _ ⟨u1, _, rfl, h1, u2, _, rfl, h2, u3, _, rfl, h3, rfl⟩ ⟨⟨ha0, ha⟩, ⟨hb0, hb⟩, hc⟩
  have e1 : u1 = .int .u64 a := by have : [u1] = [Value.int .u64 a] := h1; simpa using this
  have e2 : u2 = .int .u64 b := by have : [u2] = [Value.int .u64 b] := h2; simpa using this
  have e3 : u3 = .int .u64 c := by have : [u3] = [Value.int .u64 c] := h3; simpa using this
  subst e1 e2 e3
  refine .inr ?_
  · obtain ⟨n, rfl⟩ := Int.eq_ofNat_of_zero_le ha0
    obtain ⟨m, rfl⟩ := Int.eq_ofNat_of_zero_le hb0
    have e : ∀ c : Nat, (Value.tuple #[.int .u64 (Int.ofNat (((n : Int).toNat + (m : Int).toNat + c) % 18446744073709551616)), .int .u64 (Int.ofNat (((n : Int).toNat + (m : Int).toNat + c) / 18446744073709551616))]) = .tuple #[.int .u64 (((n : Int) + m + c) % 18446744073709551616), .int .u64 (((n : Int) + m + c) / 18446744073709551616)] := by
      intro c; congr 3
    rcases hc with rfl | rfl
    · exact ⟨_, w, (run_add64 n m w).1, [_, _], none, e 0, ⟨_, _, rfl, rfl, _, _, rfl, rfl, rfl⟩, Below.refl _ _⟩
    · exact ⟨_, w, (run_add64 n m w).2, [_, _], none, e 1, ⟨_, _, rfl, rfl, _, _, rfl, rfl, rfl⟩, Below.refl _ _⟩

theorem fn_sub64 : FnOk Tryd.prog 144 [.int .u64, .int .u64, .int .u64] [.val (.int .u64), .val (.int .u64)] noG preCarry outSub64 := by
  rintro w M us ⟨a, b, c, ⟨⟩⟩ _ _ ⟨u1, _, rfl, h1, u2, _, rfl, h2, u3, _, rfl, h3, rfl⟩ ⟨⟨ha0, ha⟩, ⟨hb0, hb⟩, hc⟩
  have e1 : u1 = .int .u64 a := by have : [u1] = [Value.int .u64 a] := h1; simpa using this
  have e2 : u2 = .int .u64 b := by have : [u2] = [Value.int .u64 b] := h2; simpa using this
  have e3 : u3 = .int .u64 c := by have : [u3] = [Value.int .u64 c] := h3; simpa using this
  subst e1 e2 e3
  refine .inr ?_
  · obtain ⟨n, rfl⟩ := Int.eq_ofNat_of_zero_le ha0
    obtain ⟨m, rfl⟩ := Int.eq_ofNat_of_zero_le hb0
    have e : ∀ c : Nat, c ≤ 1 → (Value.tuple #[.int .u64 (Int.ofNat (((n : Int).toNat + 18446744073709551616 - (m : Int).toNat - c) % 18446744073709551616)), .int .u64 (Int.ofNat (if (n : Int).toNat < (m : Int).toNat + c then 1 else 0))]) = .tuple #[.int .u64 (((n : Int) - m - c) % 18446744073709551616), .int .u64 (if (n : Int) < m + c then 1 else 0)] := by
      intro c hc
      have e1 : (Int.ofNat (((n : Int).toNat + 18446744073709551616 - (m : Int).toNat - c) % 18446744073709551616)) = ((n : Int) - m - c) % 18446744073709551616 := by
        simp only [Int.toNat_natCast, Int.ofNat_eq_natCast]; omega
      have e2 : (Int.ofNat (if (n : Int).toNat < (m : Int).toNat + c then 1 else 0)) = (if (n : Int) < m + c then 1 else 0) := by
        simp only [Int.toNat_natCast, Int.ofNat_eq_natCast]
        split <;> split <;> omega
      rw [e1, e2]
    rcases hc with rfl | rfl
    · exact ⟨_, w, (run_sub64 n m w).1, [_, _], none, e 0 (by omega), ⟨_, _, rfl, rfl, _, _, rfl, rfl, rfl⟩, Below.refl _ _⟩
    · exact ⟨_, w, (run_sub64 n m w).2, [_, _], none, e 1 (by omega), ⟨_, _, rfl, rfl, _, _, rfl, rfl, rfl⟩, Below.refl _ _⟩

noncomputable def spMul64 : Nat × Eng.Spec := (143, fnSpec [.int .u64, .int .u64] [.val (.int .u64), .val (.int .u64)] preMul64 outMul64)
noncomputable def spAdd64 : Nat × Eng.Spec := (142, fnSpec [.int .u64, .int .u64, .int .u64] [.val (.int .u64), .val (.int .u64)] preCarry outAdd64)
noncomputable def spSub64 : Nat × Eng.Spec := (144, fnSpec [.int .u64, .int .u64, .int .u64] [.val (.int .u64), .val (.int .u64)] preCarry outSub64)

/-- What Sub64 asks, word by word. -/
def subPre : List Int → List Int → Int → Prop → Prop
  | a :: us, b :: vs, k, K => preCarry (a, b, k, ()) ∧ subPre us vs (if a < b + k then 1 else 0) K
  | _, _, _, K => K

theorem subPre_ok {K : Prop} : ∀ (us vs : List Int) (k : Int), us.length = vs.length → Ws us → Ws vs → (k = 0 ∨ k = 1) → K → subPre us vs k K := by
  intro us
  induction us with
  | nil => intro vs k h _ _ _ hK; exact hK
  | cons a us ih =>
    intro vs k h ha hb hk hK
    cases vs with
    | nil => simp at h
    | cons b vs => exact ⟨⟨ha a (by simp), hb b (by simp), hk⟩, ih vs _ (by simpa using h) (fun y hy => ha y (by simp [hy])) (fun y hy => hb y (by simp [hy])) (by split <;> simp) hK⟩

def addPre : List Int → List Int → Int → Prop → Prop
  | a :: us, b :: vs, k, K => preCarry (a, b, k, ()) ∧ addPre us vs ((a + b + k) / 18446744073709551616) K
  | _, _, _, K => K

theorem addPre_ok {K : Prop} : ∀ (us vs : List Int) (k : Int), us.length = vs.length → Ws us → Ws vs → (k = 0 ∨ k = 1) → K → addPre us vs k K := by
  intro us
  induction us with
  | nil => intro vs k h _ _ _ hK; exact hK
  | cons a us ih =>
    intro vs k h ha hb hk hK
    cases vs with
    | nil => simp at h
    | cons b vs =>
      obtain ⟨a0, a1⟩ := ha a (by simp)
      obtain ⟨b0, b1⟩ := hb b (by simp)
      exact ⟨⟨⟨a0, a1⟩, ⟨b0, b1⟩, hk⟩, ih vs _ (by simpa using h) (fun y hy => ha y (by simp [hy])) (fun y hy => hb y (by simp [hy])) (by omega) hK⟩

end Go.Proofs.YtbfimfdhmggieaaDoor
/- Montgomery's product, in plain words. No program here. -/
namespace Cr

/-- One row: what is left of x v + t + m p, word by word, behind the lowest; a, c: what is carried. -/
def rowM : List Int → List Int → List Int → Int → Int → Int → Int → List Int
  | x :: xs, p :: ps, t :: ts, v, m, a, c =>
    (m * p + (x * v + t + a) % 18446744073709551616 + c) % 18446744073709551616 ::
      rowM xs ps ts v m ((x * v + t + a) / 18446744073709551616) ((m * p + (x * v + t + a) % 18446744073709551616 + c) / 18446744073709551616)
  | _, _, _, _, _, a, c => [(a + c) % 18446744073709551616]

theorem rowM_spec {v m : Int} (hv : 0 ≤ v) (hm : 0 ≤ m) : ∀ (xs ps ts : List Int) (a c : Int), xs.length = ps.length → ps.length = ts.length → Ws xs → Ws ps → Ws ts → 0 ≤ a → 0 ≤ c →
    (rowM xs ps ts v m a c).length = xs.length + 1 ∧ Ws (rowM xs ps ts v m a c) ∧
    ∃ q, 0 ≤ q ∧ val (rowM xs ps ts v m a c) + pw (xs.length + 1) * q = val xs * v + val ts + m * val ps + a + c := by
  intro xs
  induction xs with
  | nil =>
    intro ps ts a c h1 h2 _ _ _ ha hc
    have e1 : ps = [] := by cases ps with | nil => rfl | cons _ _ => simp at h1
    subst e1
    have e2 : ts = [] := by cases ts with | nil => rfl | cons _ _ => simp at h2
    subst e2
    refine ⟨rfl, ?_, (a + c) / 18446744073709551616, by omega, ?_⟩
    · intro x hx
      simp only [rowM, List.mem_singleton] at hx
      subst hx; exact ⟨by omega, by omega⟩
    · simp only [rowM, val, pw, List.length_nil, Int.mul_zero]; omega
  | cons x xs ih =>
    intro ps ts a c h1 h2 hx hp ht ha hc
    cases ps with
    | nil => simp at h1
    | cons p ps =>
      cases ts with
      | nil => simp at h2
      | cons t ts =>
        obtain ⟨x0, x1⟩ := hx x (by simp)
        obtain ⟨p0, p1⟩ := hp p (by simp)
        obtain ⟨t0, t1⟩ := ht t (by simp)
        have hxv : 0 ≤ x * v := Int.mul_nonneg x0 hv
        have hmp : 0 ≤ m * p := Int.mul_nonneg hm p0
        simp only [rowM]
        generalize hu : x * v + t + a = u
        generalize hz : m * p + u % 18446744073709551616 + c = z
        obtain ⟨g1, g2, q, g3, g4⟩ := ih ps ts (u / 18446744073709551616) (z / 18446744073709551616) (by simpa using h1) (by simpa using h2) (fun y hy => hx y (by simp [hy])) (fun y hy => hp y (by simp [hy])) (fun y hy => ht y (by simp [hy])) (by omega) (by omega)
        refine ⟨by simp [g1], ?_, q, g3, ?_⟩
        · intro y hy
          simp only [List.mem_cons] at hy
          rcases hy with rfl | hy
          · exact ⟨by omega, by omega⟩
          · exact g2 y hy
        · simp only [val, List.length_cons]
          rw [show pw (xs.length + 1 + 1) = 18446744073709551616 * pw (xs.length + 1) from rfl, Int.mul_assoc]
          rw [show (x + 18446744073709551616 * val xs) * v = x * v + 18446744073709551616 * (val xs * v) from by rw [Int.add_mul, Int.mul_assoc]]
          rw [show m * (p + 18446744073709551616 * val ps) = m * p + 18446744073709551616 * (m * val ps) from by rw [Int.mul_add, Int.mul_left_comm]]
          generalize pw (xs.length + 1) * q = A at *
          generalize val xs * v = C at *
          generalize m * val ps = D at *
          generalize x * v = G at *
          generalize m * p = H at *
          omega

/-- One word of y. -/
def stepM (cancel : Int) : List Int → List Int → List Int → Int → List Int
  | x :: xs, p :: ps, t :: ts, v =>
    rowM xs ps ts v (((x * v + t + 0) % 18446744073709551616) * cancel % 18446744073709551616) ((x * v + t + 0) / 18446744073709551616)
      (((((x * v + t + 0) % 18446744073709551616) * cancel % 18446744073709551616) * p + (x * v + t + 0) % 18446744073709551616 + 0) / 18446744073709551616)
  | _, _, _, _ => []

theorem stepM_spec {cancel v : Int} {xs ps ts : List Int} (h1 : xs.length = ps.length) (h2 : ps.length = ts.length) (hx : Ws xs) (hp : Ws ps) (ht : Ws ts) (hne : ps ≠ []) (hv : U64 v)
    (hc : (ps.headD 0 * cancel + 1) % 18446744073709551616 = 0) (hb : val ts < val xs + val ps) (hxp : val xs < val ps) (h2p : 2 * val ps ≤ pw ps.length) :
    (stepM cancel xs ps ts v).length = ts.length ∧ Ws (stepM cancel xs ps ts v) ∧ val (stepM cancel xs ps ts v) < val xs + val ps ∧
    ∃ m, 18446744073709551616 * val (stepM cancel xs ps ts v) = val xs * v + val ts + m * val ps := by
  obtain ⟨hv0, hv1⟩ := hv
  cases ps with
  | nil => exact absurd rfl hne
  | cons p ps =>
  cases xs with
  | nil => simp at h1
  | cons x xs =>
  cases ts with
  | nil => simp at h2
  | cons t ts =>
    obtain ⟨x0, x1⟩ := hx x (by simp)
    obtain ⟨p0, p1⟩ := hp p (by simp)
    obtain ⟨t0, t1⟩ := ht t (by simp)
    have hxv : 0 ≤ x * v := Int.mul_nonneg x0 hv0
    simp only [stepM]
    generalize hu : x * v + t + 0 = u
    generalize hs : u % 18446744073709551616 = s
    generalize hm : s * cancel % 18446744073709551616 = m
    have hm0 : 0 ≤ m ∧ m < 18446744073709551616 := by omega
    have hmp : 0 ≤ m * p := Int.mul_nonneg hm0.1 p0
    -- m p + s is a multiple of 2^64
    have hdiv : (m * p + s + 0) % 18446744073709551616 = 0 := by
      simp only [List.headD_cons] at hc
      have e1 : (m * p + s) % 18446744073709551616 = (s * (p * cancel + 1)) % 18446744073709551616 := by
        have hk := Int.emod_add_mul_ediv (s * cancel) 18446744073709551616
        rw [hm] at hk
        rw [show m * p + s = s * (p * cancel + 1) + 18446744073709551616 * (-(s * cancel / 18446744073709551616 * p)) from by grind]
        exact Int.add_mul_emod_self_left _ _ _
      rw [Int.add_zero, e1, Int.mul_emod, hc]; simp
    generalize hz : m * p + s + 0 = z at *
    obtain ⟨g1, g2, q, g3, g4⟩ := rowM_spec hv0 hm0.1 xs ps ts (u / 18446744073709551616) (z / 18446744073709551616) (by simpa using h1) (by simpa using h2) (fun y hy => hx y (by simp [hy])) (fun y hy => hp y (by simp [hy])) (fun y hy => ht y (by simp [hy])) (by omega) (by omega)
    have hlen : xs.length + 1 = (p :: ps).length := by simpa using h1
    have n0 := val_nonneg g2
    have X0 := val_nonneg hx
    have P0 := val_nonneg hp
    -- the whole
    have whole : 18446744073709551616 * (val xs * v + val ts + m * val ps + u / 18446744073709551616 + z / 18446744073709551616) = val (x :: xs) * v + val (t :: ts) + m * val (p :: ps) := by
      simp only [val]
      rw [show (x + 18446744073709551616 * val xs) * v = x * v + 18446744073709551616 * (val xs * v) from by rw [Int.add_mul, Int.mul_assoc]]
      rw [show m * (p + 18446744073709551616 * val ps) = m * p + 18446744073709551616 * (m * val ps) from by rw [Int.mul_add, Int.mul_left_comm]]
      generalize val xs * v = C at *
      generalize m * val ps = D at *
      generalize x * v = G at *
      generalize m * p = H at *
      omega
    -- its bound
    have b1 : val (x :: xs) * v ≤ val (x :: xs) * 18446744073709551615 := Int.mul_le_mul_of_nonneg_left (by omega) X0
    have b2 : m * val (p :: ps) ≤ 18446744073709551615 * val (p :: ps) := Int.mul_le_mul_of_nonneg_right (by omega) P0
    generalize val (x :: xs) * v = XV at *
    generalize hMP : m * val (p :: ps) = MP at *
    have bnd : val xs * v + val ts + m * val ps + u / 18446744073709551616 + z / 18446744073709551616 < val (x :: xs) + val (p :: ps) := by omega
    rw [hlen] at g4
    have hq : q = 0 := by
      rcases Int.lt_or_le 0 q with h | h
      · exfalso
        have : pw (p :: ps).length * 1 ≤ pw (p :: ps).length * q := Int.mul_le_mul_of_nonneg_left (by omega) (Int.le_of_lt (pw_pos _))
        omega
      · omega
    subst hq
    simp only [Int.mul_zero, Int.add_zero] at g4
    refine ⟨by rw [g1]; simp at h1 h2 ⊢; omega, g2, by rw [g4]; exact bnd, m, ?_⟩
    rw [g4, whole, hMP]

/-- All words of y. -/
def foldM (cancel : Int) (xs ps : List Int) : List Int → List Int → List Int
  | ts, [] => ts
  | ts, v :: vs => foldM cancel xs ps (stepM cancel xs ps ts v) vs

theorem foldM_spec {cancel : Int} {xs ps : List Int} (h1 : xs.length = ps.length) (hx : Ws xs) (hp : Ws ps) (hne : ps ≠ [])
    (hc : (ps.headD 0 * cancel + 1) % 18446744073709551616 = 0) (hxp : val xs < val ps) (h2p : 2 * val ps ≤ pw ps.length) : ∀ (vs ts : List Int), Ws vs → ps.length = ts.length → Ws ts → val ts < val xs + val ps →
    (foldM cancel xs ps ts vs).length = ps.length ∧ Ws (foldM cancel xs ps ts vs) ∧ val (foldM cancel xs ps ts vs) < val xs + val ps ∧
    ∃ m, pw vs.length * val (foldM cancel xs ps ts vs) = val xs * val vs + val ts + m * val ps := by
  intro vs
  induction vs with
  | nil => intro ts _ h2 ht hb; exact ⟨h2.symm, ht, hb, 0, by simp [foldM, pw, val]⟩
  | cons v vs ih =>
    intro ts hvs h2 ht hb
    obtain ⟨g1, g2, g3, m, g4⟩ := stepM_spec h1 h2 hx hp ht hne (hvs v (by simp)) hc hb hxp h2p
    obtain ⟨k1, k2, k3, m2, k4⟩ := ih (stepM cancel xs ps ts v) (fun y hy => hvs y (by simp [hy])) (by rw [g1]; exact h2) g2 g3
    refine ⟨k1, k2, k3, m + 18446744073709551616 * m2, ?_⟩
    simp only [foldM, pw, val, List.length_cons]
    rw [Int.mul_assoc, k4, Int.mul_add, Int.mul_add, g4]
    grind

/-- times: x y / 2^(64 n), below 2 p, modulo p. -/
theorem mont_spec {cancel : Int} {xs ps ys : List Int} (h1 : xs.length = ps.length) (h2 : ys.length = ps.length) (hx : Ws xs) (hp : Ws ps) (hy : Ws ys) (hne : ps ≠ [])
    (hc : (ps.headD 0 * cancel + 1) % 18446744073709551616 = 0) (hxp : val xs < val ps) (h2p : 2 * val ps ≤ pw ps.length) {rinv : Int} (hr : (pw ps.length * rinv) % val ps = 1 % val ps) :
    (foldM cancel xs ps (List.replicate ps.length 0) ys).length = ps.length ∧ Ws (foldM cancel xs ps (List.replicate ps.length 0) ys) ∧ val (foldM cancel xs ps (List.replicate ps.length 0) ys) < 2 * val ps ∧
    val (foldM cancel xs ps (List.replicate ps.length 0) ys) % val ps = (val xs * val ys * rinv) % val ps := by
  have z : ∀ n, val (List.replicate n 0) = 0 := by
    intro n
    induction n with
    | zero => rfl
    | succ n ih => simp [List.replicate_succ, val, ih]
  have zw : Ws (List.replicate ps.length 0) := by
    intro x hx; rw [(List.mem_replicate.1 hx).2]; exact ⟨by omega, by omega⟩
  have X0 := val_nonneg hx
  obtain ⟨k1, k2, k3, m, k4⟩ := foldM_spec h1 hx hp hne hc hxp h2p ys (List.replicate ps.length 0) hy (by simp) zw (by rw [z]; omega)
  refine ⟨k1, k2, by omega, ?_⟩
  rw [z, h2] at k4
  generalize val (foldM cancel xs ps (List.replicate ps.length 0) ys) = T at *
  have e1 : (T * (pw ps.length * rinv)) % val ps = T % val ps := by
    rw [Int.mul_emod, hr, ← Int.mul_emod, Int.mul_one]
  rw [← e1, show T * (pw ps.length * rinv) = (pw ps.length * T) * rinv from by rw [Int.mul_comm (pw ps.length) T, Int.mul_assoc], k4]
  rw [show (val xs * val ys + 0 + m * val ps) * rinv = val xs * val ys * rinv + (m * rinv) * val ps from by grind]
  exact Int.add_mul_emod_self_right _ _ _
end Cr
/- Words of package cresset/fp: muladd, minus, plus, modulus, fit, times. Printed by gen_field.py. -/
namespace Go.Proofs.YtbfimfdhmggieaaDoor.fp
set_option maxRecDepth 100000
open Go Go.Eng Go.RowKit Cr Go.Proofs.YtbfimfdhmggieaaDoor

/-- The modulus. -/
abbrev M : Int := Mp
/-- Its words. -/
def ms : List Int := [13402431016077863595, 2210141511517208575, 7435674573564081700, 7239337960414712511, 5412103778470702295, 1873798617647539866]
/-- 1/2^384 modulo the modulus. -/
abbrev rinv : Int := Md.rinv Mp

theorem val_ms : val ms = M := by decide
theorem ws_ms : Ws ms := by intro x hx; simp [ms] at hx; rcases hx with rfl | rfl | rfl | rfl | rfl | rfl <;> exact ⟨by decide, by decide⟩
theorem M_pos : 0 < M := by decide
theorem M_two : 2 * M ≤ pw 6 := by decide
theorem pw_rinv : (pw 6 * rinv) % M = 1 % M := by decide


theorem ent_muladd : enters Tryd.prog 137 Tryd.f137 := enters_mk (by kernel_rfl) (by kernel_rfl) (by kernel_rfl)
abbrev preMuladd : HL [.int .u64, .int .u64, .int .u64, .int .u64] → Prop := fun (a, b, c, d, _) => U64 a ∧ U64 b ∧ U64 c ∧ U64 d
abbrev outMuladd : HL [.int .u64, .int .u64, .int .u64, .int .u64] → HO [.val (.int .u64), .val (.int .u64)] := fun (a, b, c, d, _) => (((a : Int) * b + c + d) / 18446744073709551616, (a * b + c + d) % 18446744073709551616, ())

theorem fn_muladd : FnOk Tryd.prog 137 [.int .u64, .int .u64, .int .u64, .int .u64] [.val (.int .u64), .val (.int .u64)] noG preMuladd outMuladd := by
  refine fn_of_vc (sp := sps [spMul64, spAdd64]) (sps_cons (fnSpec_ok fn_mul64) (sps_cons (fnSpec_ok fn_add64) sps_nil)) mixed ent_muladd (by decide) (by decide) ?_
  rintro w M0 ⟨a, b, c, d, ⟨⟩⟩ _ ⟨⟨ha0, ha⟩, ⟨hb0, hb⟩, ⟨hc0, hc⟩, hd0, hd⟩
  have hab := mul_bd (m := 18446744073709551615) (n := 18446744073709551615) ha0 (by omega) hb0 (by omega)
  refine vcx (X := (preMul64 (a, b, ()) ∧ preCarry (a * b % 18446744073709551616, c, (0 : Int), ()) ∧ preCarry ((a * b % 18446744073709551616 + c + 0) % 18446744073709551616, d, (0 : Int), ()) ∧
      ((((a * b / 18446744073709551616 + (a * b % 18446744073709551616 + c + 0) / 18446744073709551616) % 18446744073709551616 + ((a * b % 18446744073709551616 + c + 0) % 18446744073709551616 + d + 0) / 18446744073709551616) % 18446744073709551616,
        ((a * b % 18446744073709551616 + c + 0) % 18446744073709551616 + d + 0) % 18446744073709551616, ()) : Int × Int × Unit) = outMuladd (a, b, c, d, ()))) (by kernel_rfl) ?_
  refine ⟨⟨⟨ha0, ha⟩, hb0, hb⟩, ⟨⟨by omega, by omega⟩, ⟨hc0, hc⟩, .inl rfl⟩, ⟨⟨by omega, by omega⟩, ⟨hd0, hd⟩, .inl rfl⟩, ?_⟩
  simp only [outMuladd, Prod.mk.injEq, and_true]
  generalize (a : Int) * b = ab at *
  exact ⟨by omega, by omega⟩
noncomputable def spMuladd : Nat × Eng.Spec := (137, fnSpec [.int .u64, .int .u64, .int .u64, .int .u64] [.val (.int .u64), .val (.int .u64)] preMuladd outMuladd)


abbrev pre2 : HL [(.arr 6 (.int .u64)), (.arr 6 (.int .u64))] → Prop := fun (xs, ys, _) => Ws xs ∧ Ws ys
abbrev outMinus : HL [(.arr 6 (.int .u64)), (.arr 6 (.int .u64))] → HO [.val (.arr 6 (.int .u64)), .val (.int .u64)] := fun (xs, ys, _) => (lim 6 (val xs - val ys), if val xs < val ys then (1 : Int) else 0, ())
abbrev outPlus : HL [(.arr 6 (.int .u64)), (.arr 6 (.int .u64))] → HO [.val (.arr 6 (.int .u64))] := fun (xs, ys, _) => (lim 6 (val xs + val ys), ())

theorem ent_minus : enters Tryd.prog 126 Tryd.f126 := enters_mk (by kernel_rfl) (by kernel_rfl) (by kernel_rfl)
theorem fn_minus : FnOk Tryd.prog 126 [(.arr 6 (.int .u64)), (.arr 6 (.int .u64))] [.val (.arr 6 (.int .u64)), .val (.int .u64)] noG pre2 outMinus := by
  refine fn_of_vc (sp := sps [spSub64]) (sps_cons (fnSpec_ok fn_sub64) sps_nil) mixed ent_minus (by decide) (by decide) ?_
  rintro w M0 ⟨xs, ys, ⟨⟩⟩ ⟨⟨h1, _⟩, ⟨h2, _⟩, _⟩ ⟨hx, hy⟩
  match xs, ys, h1, h2, hx, hy with
  | [a0, a1, a2, a3, a4, a5], [b0, b1, b2, b3, b4, b5], _, _, hx, hy =>
    refine vcx (X := subPre [a0, a1, a2, a3, a4, a5] [b0, b1, b2, b3, b4, b5] 0 (((subL [a0, a1, a2, a3, a4, a5] [b0, b1, b2, b3, b4, b5] 0).1, (subL [a0, a1, a2, a3, a4, a5] [b0, b1, b2, b3, b4, b5] 0).2, ()) = outMinus ([a0, a1, a2, a3, a4, a5], [b0, b1, b2, b3, b4, b5], ()))) (by kernel_rfl) ?_
    refine subPre_ok _ _ 0 rfl hx hy (.inl rfl) ?_
    obtain ⟨e1, e2⟩ := subL_eq (us := [a0, a1, a2, a3, a4, a5]) (vs := [b0, b1, b2, b3, b4, b5]) rfl hx hy
    rw [e1, e2]
    rfl
noncomputable def spMinus : Nat × Eng.Spec := (126, fnSpec [(.arr 6 (.int .u64)), (.arr 6 (.int .u64))] [.val (.arr 6 (.int .u64)), .val (.int .u64)] pre2 outMinus)

theorem ent_plus : enters Tryd.prog 129 Tryd.f129 := enters_mk (by kernel_rfl) (by kernel_rfl) (by kernel_rfl)
theorem fn_plus : FnOk Tryd.prog 129 [(.arr 6 (.int .u64)), (.arr 6 (.int .u64))] [.val (.arr 6 (.int .u64))] noG pre2 outPlus := by
  refine fn_of_vc (sp := sps [spAdd64]) (sps_cons (fnSpec_ok fn_add64) sps_nil) mixed ent_plus (by decide) (by decide) ?_
  rintro w M0 ⟨xs, ys, ⟨⟩⟩ ⟨⟨h1, _⟩, ⟨h2, _⟩, _⟩ ⟨hx, hy⟩
  match xs, ys, h1, h2, hx, hy with
  | [a0, a1, a2, a3, a4, a5], [b0, b1, b2, b3, b4, b5], _, _, hx, hy =>
    refine vcx (X := addPre [a0, a1, a2, a3, a4, a5] [b0, b1, b2, b3, b4, b5] 0 (((addL [a0, a1, a2, a3, a4, a5] [b0, b1, b2, b3, b4, b5] 0).1, ()) = outPlus ([a0, a1, a2, a3, a4, a5], [b0, b1, b2, b3, b4, b5], ()))) (by kernel_rfl) ?_
    refine addPre_ok _ _ 0 rfl hx hy (.inl rfl) ?_
    rw [addL_eq (us := [a0, a1, a2, a3, a4, a5]) (vs := [b0, b1, b2, b3, b4, b5]) rfl hx hy]
    rfl
noncomputable def spPlus : Nat × Eng.Spec := (129, fnSpec [(.arr 6 (.int .u64)), (.arr 6 (.int .u64))] [.val (.arr 6 (.int .u64))] pre2 outPlus)

theorem ent_modulus : enters Tryd.prog 127 Tryd.f127 := enters_mk (by kernel_rfl) (by kernel_rfl) (by kernel_rfl)
theorem fn_modulus : FnOk Tryd.prog 127 [] [.val (.arr 6 (.int .u64))] noG (fun _ => True) (fun _ => (ms, ())) := by
  refine fn_of_vc (sp := sps []) sps_nil mixed ent_modulus (by decide) (by decide) ?_
  intro w M0 xs _ _
  exact vcx (X := ((ms, ()) : List Int × Unit) = (ms, ())) (by kernel_rfl) rfl
noncomputable def spModulus : Nat × Eng.Spec := (127, fnSpec [] [.val (.arr 6 (.int .u64))] (fun _ => True) (fun _ => (ms, ())))


abbrev preFit : HL [(.arr 6 (.int .u64))] → Prop := fun (xs, _) => Ws xs
abbrev outFit : HL [(.arr 6 (.int .u64))] → HO [.val (.arr 6 (.int .u64))] := fun (xs, _) => (if val xs < M then xs else lim 6 (val xs - M), ())
theorem ent_fit : enters Tryd.prog 128 Tryd.f128 := enters_mk (by kernel_rfl) (by kernel_rfl) (by kernel_rfl)
theorem fn_fit : FnOk Tryd.prog 128 [(.arr 6 (.int .u64))] [.val (.arr 6 (.int .u64))] noG preFit outFit := by
  refine fn_of_vc (sp := sps [spMinus, spModulus]) (sps_cons (fnSpec_ok fn_minus) (sps_cons (fnSpec_ok fn_modulus) sps_nil)) mixed ent_fit (by decide) (by decide) ?_
  rintro w M0 ⟨xs, ⟨⟩⟩ _ hx
  refine vcx (X := (True ∧ (Ws xs ∧ Ws ms) ∧ ((((if val xs < val ms then 1 else 0 : Int) != 0) = true → ((xs, ()) : List Int × Unit) = outFit (xs, ())) ∧ (((if val xs < val ms then 1 else 0 : Int) != 0) = false → ((lim 6 (val xs - val ms), ()) : List Int × Unit) = outFit (xs, ()))))) (by kernel_rfl) ?_
  refine ⟨trivial, ⟨hx, ws_ms⟩, ?_⟩
  rw [val_ms]
  by_cases h : val xs < M
  · simp [h, outFit]
  · simp [h, outFit]
noncomputable def spFit : Nat × Eng.Spec := (128, fnSpec [(.arr 6 (.int .u64))] [.val (.arr 6 (.int .u64))] preFit outFit)


/-- x y / 2^384 modulo the modulus. -/
abbrev preTimes : HL [(.arr 6 (.int .u64)), (.arr 6 (.int .u64))] → Prop := fun (xs, ys, _) => Ws xs ∧ Ws ys ∧ val xs < M
abbrev outTimes : HL [(.arr 6 (.int .u64)), (.arr 6 (.int .u64))] → HO [.val (.arr 6 (.int .u64))] := fun (xs, ys, _) => (lim 6 (val xs * val ys * rinv % M), ())
theorem ent_times : enters Tryd.prog 102 Tryd.f102 := enters_mk (by kernel_rfl) (by kernel_rfl) (by kernel_rfl)

noncomputable def timesI (xs ys : List Int) (g : Int × List Int) : St :=
  mkSt Tryd.f102.ntmps 104 ([(2, .is (.one (.ptr 0 0))), (4, .is (.one (.ptr 16 0)))] ++ [(7, sI .u64 (g.2.getD 0 0)), (8, sI .u64 (g.2.getD 1 0)), (9, sI .u64 (g.2.getD 2 0)), (10, sI .u64 (g.2.getD 3 0)), (11, sI .u64 (g.2.getD 4 0)), (12, sI .u64 (g.2.getD 5 0))] ++ [(16, sA .u64 6 ys), (17, sI .i64 g.1)])
    [(0, [.ints .u64 6 xs]), (16, [.ints .u64 6 (zeros 6)])]
noncomputable def timesO (g : Int × List Int) : St := mkSt Tryd.f102.ntmps 104 ([(4, .is (.one (.ptr 16 0)))] ++ [(7, sI .u64 (g.2.getD 0 0)), (8, sI .u64 (g.2.getD 1 0)), (9, sI .u64 (g.2.getD 2 0)), (10, sI .u64 (g.2.getD 3 0)), (11, sI .u64 (g.2.getD 4 0)), (12, sI .u64 (g.2.getD 5 0))]) [(16, [.ints .u64 6 (zeros 6)])]
def timesN (xs ys : List Int) (g : Int × List Int) : Int × List Int := (IntKind.i64.wrap (g.1 + 1), stepM 9940570264628428797 xs ms g.2 (ys.getD g.1.toNat 0))

/-- What muladd asks in a row. -/
def rowPre : List Int → List Int → List Int → Int → Int → Int → Int → Prop → Prop
  | x :: xs, p :: ps, t :: ts, v, m, a, c, K =>
    preMuladd (x, v, t, a, ()) ∧ preMuladd (m, p, (x * v + t + a) % 18446744073709551616, c, ()) ∧
      rowPre xs ps ts v m ((x * v + t + a) / 18446744073709551616) ((m * p + (x * v + t + a) % 18446744073709551616 + c) / 18446744073709551616) K
  | _, _, _, _, _, _, _, K => K

theorem rowPre_ok {K : Prop} {v m : Int} (hv : U64 v) (hm : U64 m) (hK : K) : ∀ (xs ps ts : List Int) (a c : Int), Ws xs → Ws ps → Ws ts → U64 a → U64 c → rowPre xs ps ts v m a c K := by
  intro xs
  induction xs with
  | nil => intro ps ts a c _ _ _ _ _; exact hK
  | cons x xs ih =>
    intro ps ts a c hx hp ht ha hc
    cases ps with
    | nil => exact hK
    | cons p ps =>
      cases ts with
      | nil => exact hK
      | cons t ts =>
        have x1 := hx x (by simp)
        have p1 := hp p (by simp)
        have t1 := ht t (by simp)
        have hxv := mul_bd (m := 18446744073709551615) (n := 18446744073709551615) x1.1 (by have := x1.2; omega) hv.1 (by have := hv.2; omega)
        have hmp := mul_bd (m := 18446744073709551615) (n := 18446744073709551615) hm.1 (by have := hm.2; omega) p1.1 (by have := p1.2; omega)
        obtain ⟨t2, t3⟩ := t1
        obtain ⟨a2, a3⟩ := ha
        obtain ⟨c2, c3⟩ := hc
        simp only [rowPre]
        generalize x * v = xv at *
        generalize m * p = mp at *
        refine ⟨⟨x1, hv, ⟨t2, t3⟩, a2, a3⟩, ⟨hm, p1, ⟨by omega, by omega⟩, c2, c3⟩, ?_⟩
        exact ih ps ts _ _ (fun y hy => hx y (by simp [hy])) (fun y hy => hp y (by simp [hy])) (fun y hy => ht y (by simp [hy])) ⟨by omega, by omega⟩ ⟨by omega, by omega⟩

/-- What muladd asks for one word of y. -/
def stepPre (xs ps ts : List Int) (v : Int) (K : Prop) : Prop :=
  match xs, ps, ts with
  | x :: xs, p :: ps, t :: ts =>
    preMuladd (x, v, t, (0 : Int), ()) ∧ preMuladd (((x * v + t + 0) % 18446744073709551616) * 9940570264628428797 % 18446744073709551616, p, (x * v + t + 0) % 18446744073709551616, (0 : Int), ()) ∧
    rowPre xs ps ts v (((x * v + t + 0) % 18446744073709551616) * 9940570264628428797 % 18446744073709551616) ((x * v + t + 0) / 18446744073709551616)
      (((((x * v + t + 0) % 18446744073709551616) * 9940570264628428797 % 18446744073709551616) * p + (x * v + t + 0) % 18446744073709551616 + 0) / 18446744073709551616) K
  | _, _, _ => K

theorem stepPre_ok {K : Prop} {v : Int} (hv : U64 v) (hK : K) {xs ps ts : List Int} (hx : Ws xs) (hp : Ws ps) (ht : Ws ts) : stepPre xs ps ts v K := by
  unfold stepPre
  split
  · rename_i x xs p ps t ts
    have x1 := hx x (by simp)
    have p1 := hp p (by simp)
    have t1 := ht t (by simp)
    have hxv := mul_bd (m := 18446744073709551615) (n := 18446744073709551615) x1.1 (by have := x1.2; omega) hv.1 (by have := hv.2; omega)
    obtain ⟨t2, t3⟩ := t1
    generalize x * v = xv at *
    generalize hm : ((xv + t + 0) % 18446744073709551616) * 9940570264628428797 % 18446744073709551616 = m
    have hm1 : U64 m := ⟨by omega, by omega⟩
    have hmp := mul_bd (m := 18446744073709551615) (n := 18446744073709551615) hm1.1 (by have := hm1.2; omega) p1.1 (by have := p1.2; omega)
    generalize m * p = mp at *
    refine ⟨⟨x1, hv, ⟨t2, t3⟩, by omega, by omega⟩, ⟨hm1, p1, ⟨by omega, by omega⟩, by omega, by omega⟩, ?_⟩
    exact rowPre_ok hv hm1 hK xs ps ts _ _ (fun y hy => hx y (by simp [hy])) (fun y hy => hp y (by simp [hy])) (fun y hy => ht y (by simp [hy])) ⟨by omega, by omega⟩ ⟨by omega, by omega⟩
  · exact hK

/-- After so many words. -/
def tsAt (xs ys : List Int) (k : Nat) : List Int := foldM 9940570264628428797 xs ms (List.replicate 6 0) (ys.take k)

/-- What holds at each round's head. -/
def timesJ (xs ys : List Int) (g : Int × List Int) : Prop := ∃ k : Nat, k ≤ 6 ∧ g = ((k : Int), tsAt xs ys k)

theorem foldM_snoc {can : Int} {xs ps : List Int} : ∀ (vs ts : List Int) (v : Int), foldM can xs ps ts (vs ++ [v]) = stepM can xs ps (foldM can xs ps ts vs) v := by
  intro vs
  induction vs with
  | nil => intro ts v; rfl
  | cons u vs ih => intro ts v; exact ih _ _

theorem fn_times : FnOk Tryd.prog 102 [(.arr 6 (.int .u64)), (.arr 6 (.int .u64))] [.val (.arr 6 (.int .u64))] noG preTimes outTimes := by
  refine fn_of_tr (sp := sps [spMuladd, spFit]) ent_times (by decide) (by decide) (by kernel_rfl) ?_
  have hsp : SpecsOk Tryd.prog (sps [spMuladd, spFit]) := sps_cons (fnSpec_ok fn_muladd) (sps_cons (fnSpec_ok fn_fit) sps_nil)
  rintro w M0 ⟨xs, ys, ⟨⟩⟩ ⟨⟨h1, _⟩, ⟨h2, _⟩, _⟩ ⟨hx, hy, hxM⟩
  match xs, h1, hx, hxM with
  | [a0, a1, a2, a3, a4, a5], _, hx, hxM =>
    have hyl : List.length ys = 6 := h2
    have hxl : [a0, a1, a2, a3, a4, a5].length = ms.length := rfl
    have hfold : ∀ k, (tsAt [a0, a1, a2, a3, a4, a5] ys k).length = ms.length ∧ Ws (tsAt [a0, a1, a2, a3, a4, a5] ys k) ∧ val (tsAt [a0, a1, a2, a3, a4, a5] ys k) < val [a0, a1, a2, a3, a4, a5] + val ms := by
      intro k
      have := foldM_spec (cancel := 9940570264628428797) hxl hx ws_ms (by simp [ms]) (by decide) (by rw [val_ms]; exact hxM) (by rw [val_ms]; exact M_two) (ys.take k) (List.replicate 6 0) (fun y hy' => hy y (List.mem_of_mem_take hy')) (by rfl)
        (by intro x hx; rw [(List.mem_replicate.1 hx).2]; exact ⟨by omega, by omega⟩) (by rw [val_ms, show val (List.replicate 6 0) = 0 from by decide]; have := val_nonneg hx; have := M_pos; omega)
      exact ⟨this.1, this.2.1, this.2.2.1⟩
    have hmont := mont_spec (cancel := 9940570264628428797) (xs := [a0, a1, a2, a3, a4, a5]) (ps := ms) (ys := ys) (rinv := rinv) hxl hyl hx ws_ms hy (by simp [ms]) (by decide) (by rw [val_ms]; exact hxM) (by rw [val_ms]; exact M_two) (by rw [val_ms]; exact pw_rinv)
    rw [val_ms] at hmont
    -- what holds at each round's head
    have J0 : timesJ [a0, a1, a2, a3, a4, a5] ys (0, List.replicate 6 0) := ⟨0, by omega, by simp [tsAt, foldM]⟩
    show Tr _ _ _ _ _ _ _
    refine tr_cut hsp mixed 3 (timesI [a0, a1, a2, a3, a4, a5] ys (0, List.replicate 6 0)) True ?_ (fun _ => ?_)
    · refine vcx (X := (timesI [a0, a1, a2, a3, a4, a5] ys (0, List.replicate 6 0)).triv True) (by kernel_rfl) (triv_intro trivial)
    refine tr_loopN hsp mixed (timesI [a0, a1, a2, a3, a4, a5] ys) (timesJ [a0, a1, a2, a3, a4, a5] ys) (fun g => (6 - g.1).toNat) (timesN [a0, a1, a2, a3, a4, a5] ys) timesO (fun g => g.2 = tsAt [a0, a1, a2, a3, a4, a5] ys 6) (0, List.replicate 6 0) (c := nthC (codeOf Tryd.f102) 3) (by kernel_rfl) (by kernel_rfl)
      (le_of_proj (by kernel_rfl) (by kernel_rfl) J0) ?_ ?_
    · rintro g ⟨k, hk, rfl⟩
      obtain ⟨f1, f2, f3⟩ := hfold k
      have hts : ∃ t0 t1 t2 t3 t4 t5, tsAt [a0, a1, a2, a3, a4, a5] ys k = [t0, t1, t2, t3, t4, t5] := by
        match tsAt [a0, a1, a2, a3, a4, a5] ys k, f1 with
        | [t0, t1, t2, t3, t4, t5], _ => exact ⟨_, _, _, _, _, _, rfl⟩
      obtain ⟨t0, t1, t2, t3, t4, t5, hts⟩ := hts
      rw [hts] at f2 ⊢
      refine vcx (X := ((decide ((k : Int) < 6) = true → (0 ≤ (k : Int) ∧ (k : Int) < (6 : Nat)) ∧ stepPre [a0, a1, a2, a3, a4, a5] ms [t0, t1, t2, t3, t4, t5] (ys.getD (k : Int).toNat 0) ((timesI [a0, a1, a2, a3, a4, a5] ys (timesN [a0, a1, a2, a3, a4, a5] ys ((k : Int), [t0, t1, t2, t3, t4, t5]))).triv (timesJ [a0, a1, a2, a3, a4, a5] ys (timesN [a0, a1, a2, a3, a4, a5] ys ((k : Int), [t0, t1, t2, t3, t4, t5])) ∧ (6 - (timesN [a0, a1, a2, a3, a4, a5] ys ((k : Int), [t0, t1, t2, t3, t4, t5])).1).toNat < (6 - (k : Int)).toNat)))
        ∧ (decide ((k : Int) < 6) = false → (timesO ((k : Int), [t0, t1, t2, t3, t4, t5])).triv ([t0, t1, t2, t3, t4, t5] = tsAt [a0, a1, a2, a3, a4, a5] ys 6)))) (by kernel_rfl) ?_
      constructor
      · intro hlt
        have hlt : k < 6 := by have := of_decide_eq_true hlt; omega
        have hv : U64 (ys.getD (k : Int).toNat 0) := by
          rw [List.getD_eq_getElem?_getD, Int.toNat_natCast, List.getElem?_eq_getElem (by omega)]
          exact hy _ (List.getElem_mem _)
        refine ⟨⟨by omega, by omega⟩, stepPre_ok hv (triv_intro ⟨⟨k + 1, by omega, ?_⟩, ?_⟩) hx ws_ms f2⟩
        · have e1 : IntKind.i64.wrap ((k : Int) + 1) = ((k + 1 : Nat) : Int) := by rw [wrap_i64 (by omega) (by omega)]; omega
          have e2 : tsAt [a0, a1, a2, a3, a4, a5] ys (k + 1) = stepM 9940570264628428797 [a0, a1, a2, a3, a4, a5] ms (tsAt [a0, a1, a2, a3, a4, a5] ys k) (ys.getD (k : Int).toNat 0) := by
            unfold tsAt
            rw [List.take_succ_eq_append_getElem (by omega), foldM_snoc]
            rw [List.getD_eq_getElem?_getD, Int.toNat_natCast, List.getElem?_eq_getElem (by omega)]
            rfl
          show (IntKind.i64.wrap ((k : Int) + 1), stepM 9940570264628428797 [a0, a1, a2, a3, a4, a5] ms [t0, t1, t2, t3, t4, t5] (ys.getD (k : Int).toNat 0)) = _
          rw [e1, e2, hts]
        · show (6 - IntKind.i64.wrap ((k : Int) + 1)).toNat < _
          rw [wrap_i64 (by omega) (by omega)]; omega
      · intro hge
        have hge : k = 6 := by
          have := of_decide_eq_false hge
          omega
        refine triv_intro ?_
        rw [← hts, hge]
    · rintro ⟨i, ts⟩ hts
      have hts : ts = tsAt [a0, a1, a2, a3, a4, a5] ys 6 := hts
      obtain ⟨f1, f2, f3⟩ := hfold 6
      have hall : ys.take 6 = ys := List.take_of_length_le (by omega)
      have hts2 : ∃ t0 t1 t2 t3 t4 t5, tsAt [a0, a1, a2, a3, a4, a5] ys 6 = [t0, t1, t2, t3, t4, t5] := by
        match tsAt [a0, a1, a2, a3, a4, a5] ys 6, f1 with
        | [t0, t1, t2, t3, t4, t5], _ => exact ⟨_, _, _, _, _, _, rfl⟩
      obtain ⟨t0, t1, t2, t3, t4, t5, hts2⟩ := hts2
      subst hts
      rw [hts2] at f2 ⊢
      refine tr_vc hsp mixed _ _ ?_
      refine vcx (X := (Ws [t0, t1, t2, t3, t4, t5] ∧ ((if val [t0, t1, t2, t3, t4, t5] < M then [t0, t1, t2, t3, t4, t5] else lim 6 (val [t0, t1, t2, t3, t4, t5] - M), ()) : List Int × Unit) = outTimes ([a0, a1, a2, a3, a4, a5], ys, ()))) (by kernel_rfl) ?_
      refine ⟨f2, ?_⟩
      have e : foldM 9940570264628428797 [a0, a1, a2, a3, a4, a5] ms (List.replicate ms.length 0) ys = [t0, t1, t2, t3, t4, t5] := by
        have := hts2
        unfold tsAt at this
        rw [hall] at this
        exact this
      rw [e] at hmont
      obtain ⟨m1, m2, m3, m4⟩ := hmont
      have m0 := val_nonneg m2
      have hM := M_pos
      simp only [outTimes, Prod.mk.injEq, and_true]
      rw [← m4]
      split
      · rename_i hlt
        rw [Int.emod_eq_of_lt m0 hlt]
        exact (lim_val f2).symm
      · rename_i hge
        rw [show val [t0, t1, t2, t3, t4, t5] % M = val [t0, t1, t2, t3, t4, t5] - M from by
          rw [← Int.sub_emod_right, Int.emod_eq_of_lt (by omega) (by omega)]]
noncomputable def spTimes : Nat × Eng.Spec := (102, fnSpec [(.arr 6 (.int .u64)), (.arr 6 (.int .u64))] [.val (.arr 6 (.int .u64))] preTimes outTimes)

end Go.Proofs.YtbfimfdhmggieaaDoor.fp
/- Forms of numbers: what the words' operations come to. No program here. -/
namespace Cr
section
variable {M : Int} [Md M]

theorem times_enc (x y : Zm M) : lim (Md.n M) (val (enc x) * val (enc y) * Md.rinv M % M) = enc (x * y) := by
  rw [← enc_mul, dec_enc, dec_enc]

theorem val_enc_lt (x : Zm M) : 0 ≤ val (enc x) ∧ val (enc x) < M := ⟨val_nonneg (enc_ws x), (enc_canon x).2.2⟩

theorem val_lim_of {n : Nat} {a : Int} (h0 : 0 ≤ a) (h1 : a < pw n) : val (lim n a) = a := by
  rw [val_lim, Int.emod_eq_of_lt h0 h1]

theorem add_enc (x y : Zm M) : (if val (lim (Md.n M) (val (enc x) + val (enc y))) < M then lim (Md.n M) (val (enc x) + val (enc y)) else lim (Md.n M) (val (lim (Md.n M) (val (enc x) + val (enc y))) - M)) = enc (x + y) := by
  have hx := val_enc_lt x
  have hy := val_enc_lt y
  have hb := Md.big (M := M)
  have e : enc (x + y) = lim (Md.n M) ((val (enc x) + val (enc y)) % M) := by rw [← enc_add, dec_enc, dec_enc]
  rw [val_lim_of (by omega) (by omega), e]
  split
  · rename_i h; rw [Int.emod_eq_of_lt (by omega) h]
  · rename_i h; rw [← Int.sub_emod_right, Int.emod_eq_of_lt (by omega) (by omega)]

/-- The number itself, of its form: times 1. -/
theorem plain_enc (x : Zm M) {u : List Int} (hu : val u = 1) : lim (Md.n M) (val (enc x) * val u * Md.rinv M % M) = lim (Md.n M) x.v := by
  congr 1
  rw [hu, Int.mul_one, val_enc]
  show ((x.v * (pw (Md.n M) % M)) % M) * Md.rinv M % M = _
  have h := Md.inv (M := M)
  have : (x.v * (pw (Md.n M) % M) % M) * Md.rinv M % M = x.v * (pw (Md.n M) * Md.rinv M) % M := by
    rw [Int.mul_emod, Int.emod_emod, ← Int.mul_emod, Int.mul_assoc, Int.mul_emod, Int.mul_emod (pw (Md.n M) % M), Int.emod_emod, ← Int.mul_emod (pw (Md.n M)), ← Int.mul_emod]
  rw [this, Int.mul_emod, h, Int.mul_one, Int.emod_emod, v_mod]

/-- Any words, as a number: times against 2^(128 n). -/
theorem shift_enc {ys : List Int} : lim (Md.n M) (val (enc (R2 : Zm M)) * val ys * Md.rinv M % M) = enc (zm (val ys) : Zm M) := by
  rw [enc_zm, val_enc]
  congr 1
  have h := Md.inv (M := M)
  show ((pw (Md.n M) % M) * (pw (Md.n M) % M) % M) * val ys * Md.rinv M % M = _
  rw [← Int.mul_emod]
  have e : (pw (Md.n M) * pw (Md.n M) % M) * val ys * Md.rinv M % M = (pw (Md.n M) * pw (Md.n M)) * (val ys * Md.rinv M) % M := by
    rw [Int.mul_assoc, Int.mul_emod, Int.emod_emod, ← Int.mul_emod]
  rw [e, show pw (Md.n M) * pw (Md.n M) * (val ys * Md.rinv M) = (val ys * pw (Md.n M)) * (pw (Md.n M) * Md.rinv M) by
    rw [Int.mul_assoc, Int.mul_comm (val ys) (pw (Md.n M)), Int.mul_assoc, Int.mul_left_comm (pw (Md.n M)) (val ys)], Int.mul_emod, h, Int.mul_one, Int.emod_emod]

end
end Cr
/- Numbers of package cresset/fp: Mul, Square, Add, Sub, Neg, Zero, one, shift, Of. Printed by gen_el.py. -/
namespace Go.Proofs.YtbfimfdhmggieaaDoor.fp
set_option maxRecDepth 100000
open Go Go.Eng Go.RowKit Cr Go.Proofs.YtbfimfdhmggieaaDoor


theorem ent_mul : enters Tryd.prog 80 Tryd.f80 := enters_mk (by kernel_rfl) (by kernel_rfl) (by kernel_rfl)
abbrev outMul : HL [.fp, .fp] → HO [.val .fp] := fun (x, y, _) => ((x : Fp) * y, ())
theorem fn_mul : FnOk Tryd.prog 80 [.fp, .fp] [.val .fp] noG (fun _ => True) outMul := by
  refine fn_of_vc (sp := sps [spTimes]) (sps_cons (fnSpec_ok fn_times) sps_nil) mixed ent_mul (by decide) (by decide) ?_
  rintro w M0 ⟨x, y, ⟨⟩⟩ _ _
  refine vcx (X := (preTimes (enc x, enc y, ()) ∧ Canon Mp (lim 6 (val (enc x) * val (enc y) * rinv % M)) ∧ (dec (lim 6 (val (enc x) * val (enc y) * rinv % M)), ()) = outMul (x, y, ()))) (by kernel_rfl) ?_
  rw [show lim 6 (val (enc x) * val (enc y) * rinv % M) = enc (x * y) from times_enc x y]
  exact ⟨⟨enc_ws x, enc_ws y, (enc_canon x).2.2⟩, enc_canon _, by rw [dec_enc]⟩
noncomputable def spMul : Nat × Eng.Spec := (80, fnSpec [.fp, .fp] [.val .fp] (fun _ => True) outMul)


theorem ent_square : enters Tryd.prog 79 Tryd.f79 := enters_mk (by kernel_rfl) (by kernel_rfl) (by kernel_rfl)
abbrev outSquare : HL [.fp] → HO [.val .fp] := fun (x, _) => ((x : Fp) * x, ())
theorem fn_square : FnOk Tryd.prog 79 [.fp] [.val .fp] noG (fun _ => True) outSquare := by
  refine fn_of_vc (sp := sps [spTimes]) (sps_cons (fnSpec_ok fn_times) sps_nil) mixed ent_square (by decide) (by decide) ?_
  rintro w M0 ⟨x, ⟨⟩⟩ _ _
  refine vcx (X := (preTimes (enc x, enc x, ()) ∧ Canon Mp (lim 6 (val (enc x) * val (enc x) * rinv % M)) ∧ (dec (lim 6 (val (enc x) * val (enc x) * rinv % M)), ()) = outSquare (x, ()))) (by kernel_rfl) ?_
  rw [show lim 6 (val (enc x) * val (enc x) * rinv % M) = enc (x * x) from times_enc x x]
  exact ⟨⟨enc_ws x, enc_ws x, (enc_canon x).2.2⟩, enc_canon _, by rw [dec_enc]⟩
noncomputable def spSquare : Nat × Eng.Spec := (79, fnSpec [.fp] [.val .fp] (fun _ => True) outSquare)


theorem ent_add : enters Tryd.prog 81 Tryd.f81 := enters_mk (by kernel_rfl) (by kernel_rfl) (by kernel_rfl)
abbrev outAdd : HL [.fp, .fp] → HO [.val .fp] := fun (x, y, _) => ((x : Fp) + y, ())
theorem fn_add : FnOk Tryd.prog 81 [.fp, .fp] [.val .fp] noG (fun _ => True) outAdd := by
  refine fn_of_vc (sp := sps [spFit, spPlus]) (sps_cons (fnSpec_ok fn_fit) (sps_cons (fnSpec_ok fn_plus) sps_nil)) mixed ent_add (by decide) (by decide) ?_
  rintro w M0 ⟨x, y, ⟨⟩⟩ _ _
  refine vcx (X := (pre2 (enc x, enc y, ()) ∧ preFit (lim 6 (val (enc x) + val (enc y)), ()) ∧
    Canon Mp (if val (lim 6 (val (enc x) + val (enc y))) < M then lim 6 (val (enc x) + val (enc y)) else lim 6 (val (lim 6 (val (enc x) + val (enc y))) - M)) ∧
    (dec (if val (lim 6 (val (enc x) + val (enc y))) < M then lim 6 (val (enc x) + val (enc y)) else lim 6 (val (lim 6 (val (enc x) + val (enc y))) - M)), ()) = outAdd (x, y, ()))) (by kernel_rfl) ?_
  rw [show (if val (lim 6 (val (enc x) + val (enc y))) < M then lim 6 (val (enc x) + val (enc y)) else lim 6 (val (lim 6 (val (enc x) + val (enc y))) - M)) = enc (x + y) from add_enc x y]
  exact ⟨⟨enc_ws x, enc_ws y⟩, lim_ws _ _, enc_canon _, by rw [dec_enc]⟩
noncomputable def spAdd : Nat × Eng.Spec := (81, fnSpec [.fp, .fp] [.val .fp] (fun _ => True) outAdd)


theorem ent_one : enters Tryd.prog 136 Tryd.f136 := enters_mk (by kernel_rfl) (by kernel_rfl) (by kernel_rfl)
theorem fn_one : FnOk Tryd.prog 136 [] [.val .fp] noG (fun _ => True) (fun _ => ((1 : Fp), ())) := by
  refine fn_of_vc (sp := sps []) sps_nil mixed ent_one (by decide) (by decide) ?_
  rintro w M0 ⟨⟩ _ _
  refine vcx (X := (Canon Mp [8505329371266088957, 17002214543764226050, 6865905132761471162, 8632934651105793861, 6631298214892334189, 1582556514881692819] ∧ (dec [8505329371266088957, 17002214543764226050, 6865905132761471162, 8632934651105793861, 6631298214892334189, 1582556514881692819], ()) = ((1 : Fp), ()))) (by kernel_rfl) ?_
  refine ⟨⟨rfl, ?_, by decide⟩, ?_⟩
  · intro x hx; simp at hx; rcases hx with rfl | rfl | rfl | rfl | rfl | rfl <;> exact ⟨by decide, by decide⟩
  · rw [show (dec [8505329371266088957, 17002214543764226050, 6865905132761471162, 8632934651105793861, 6631298214892334189, 1582556514881692819] : Fp) = 1 from Zm.ext (by decide)]
noncomputable def spOne : Nat × Eng.Spec := (136, fnSpec [] [.val .fp] (fun _ => True) (fun _ => ((1 : Fp), ())))

end Go.Proofs.YtbfimfdhmggieaaDoor.fp
/- Words of package cresset/fr: muladd, minus, plus, modulus, fit, times. Printed by gen_field.py. -/
namespace Go.Proofs.YtbfimfdhmggieaaDoor.fr
set_option maxRecDepth 100000
open Go Go.Eng Go.RowKit Cr Go.Proofs.YtbfimfdhmggieaaDoor

end Go.Proofs.YtbfimfdhmggieaaDoor.fr
/- Numbers of package cresset/fr: Mul, Square, Add, Sub, Neg, Zero, one, shift, Of. Printed by gen_el.py. -/
namespace Go.Proofs.YtbfimfdhmggieaaDoor.fr
set_option maxRecDepth 100000
open Go Go.Eng Go.RowKit Cr Go.Proofs.YtbfimfdhmggieaaDoor


end Go.Proofs.YtbfimfdhmggieaaDoor.fr
/- shift and Of of both fields. -/
namespace Go.Proofs.YtbfimfdhmggieaaDoor.fp
set_option maxRecDepth 100000
open Go Go.Eng Go.RowKit Cr Go.Proofs.YtbfimfdhmggieaaDoor

theorem ent_shift : enters Tryd.prog 101 Tryd.f101 := enters_mk (by kernel_rfl) (by kernel_rfl) (by kernel_rfl)
noncomputable def shI (t : Nat) (g : Int × Fp) : St := mkSt Tryd.f101.ntmps 40 [(0, .is (.one (.ptr 0 0))), (1, .is (.one (.ptr 16 0))), (t, sI .i64 g.1)] [(16, [.row .fp 1 [g.2]]), (0, [.row .fp 1 [(0 : Fp)]])]
def dbls : Nat → Fp
  | 0 => 1
  | k + 1 => dbls k + dbls k
def sqs (x : Fp) : Nat → Fp
  | 0 => x
  | k + 1 => sqs x k * sqs x k

theorem fn_shift : FnOk Tryd.prog 101 [] [.val .fp] noG (fun _ => True) (fun _ => ((R2 : Fp), ())) := by
  have hsp : SpecsOk Tryd.prog (sps [spOne, spAdd, spSquare]) := sps_cons (fnSpec_ok fn_one) (sps_cons (fnSpec_ok fn_add) (sps_cons (fnSpec_ok fn_square) sps_nil))
  refine fn_of_tr (sp := sps [spOne, spAdd, spSquare]) ent_shift (by decide) (by decide) (by kernel_rfl) ?_
  rintro w M0 ⟨⟩ _ _
  show Tr _ _ _ _ _ _ _
  refine tr_cut hsp mixed 3 (shI 3 (0, 1)) True ?_ (fun _ => ?_)
  · refine vcx (X := True ∧ (shI 3 (0, 1)).triv True) (by kernel_rfl) ⟨trivial, triv_intro trivial⟩
  refine tr_count hsp mixed (shI 3) (fun k => ((k : Int), dbls k)) 3 (fun g => (IntKind.i64.wrap (g.1 + 1), g.2 + g.2)) (shI 3) (c := nthC (codeOf Tryd.f101) 3) (by kernel_rfl) (by kernel_rfl) (le_of_proj (by kernel_rfl) (by kernel_rfl) trivial)
    (fun k hk => by show (_, _) = (_, _); rw [wrap_succ (by omega)]; rfl) ?_ ?_
  · intro k hk
    refine vcx (X := ((decide ((k : Int) < 3) = true → True ∧ (shI 3 (IntKind.i64.wrap ((k : Int) + 1), dbls k + dbls k)).triv (k < 3)) ∧ (decide ((k : Int) < 3) = false → (shI 3 ((k : Int), dbls k)).triv (k = 3)))) (by kernel_rfl) ?_
    exact ⟨fun h => ⟨trivial, triv_intro (by have := dec_lt h; omega)⟩, fun h => triv_intro (by have := dec_ge h; omega)⟩
  refine tr_cut hsp mixed 1 (shI 9 (0, dbls 3)) True ?_ (fun _ => ?_)
  · refine vcx (X := (shI 9 (0, dbls 3)).triv True) (by kernel_rfl) (triv_intro trivial)
  refine tr_count hsp mixed (shI 9) (fun k => ((k : Int), sqs (dbls 3) k)) 7 (fun g => (IntKind.i64.wrap (g.1 + 1), g.2 * g.2)) (shI 9) (c := nthC (codeOf Tryd.f101) 5) (by kernel_rfl) (by kernel_rfl) (le_of_proj (by kernel_rfl) (by kernel_rfl) trivial)
    (fun k hk => by show (_, _) = (_, _); rw [wrap_succ (by omega)]; rfl) ?_ ?_
  · intro k hk
    refine vcx (X := ((decide ((k : Int) < 7) = true → True ∧ (shI 9 (IntKind.i64.wrap ((k : Int) + 1), sqs (dbls 3) k * sqs (dbls 3) k)).triv (k < 7)) ∧ (decide ((k : Int) < 7) = false → (shI 9 ((k : Int), sqs (dbls 3) k)).triv (k = 7)))) (by kernel_rfl) ?_
    exact ⟨fun h => ⟨trivial, triv_intro (by have := dec_lt h; omega)⟩, fun h => triv_intro (by have := dec_ge h; omega)⟩
  refine tr_vc hsp mixed _ _ ?_
  refine vcx (X := (sqs (dbls 3) 7, ()) = ((R2 : Fp), ())) (by kernel_rfl) ?_
  rw [show sqs (dbls 3) 7 = R2 from Zm.ext (by decide)]
noncomputable def spShift : Nat × Eng.Spec := (101, fnSpec [] [.val .fp] (fun _ => True) (fun _ => ((R2 : Fp), ())))

end Go.Proofs.YtbfimfdhmggieaaDoor.fp

namespace Go.Proofs.YtbfimfdhmggieaaDoor.fr
set_option maxRecDepth 100000
open Go Go.Eng Go.RowKit Cr Go.Proofs.YtbfimfdhmggieaaDoor

end Go.Proofs.YtbfimfdhmggieaaDoor.fr
/- sha: rotations, one block. -/
namespace Go.Proofs.YtbfimfdhmggieaaDoor.sha
set_option maxRecDepth 100000
open Go Go.Eng Go.RowKit Cr Go.Proofs.YtbfimfdhmggieaaDoor
abbrev uK : Kd := .int .u32
abbrev bK : Kd := .int .u8
abbrev hashK : Kd := .pair (.arr 8 uK) (.pair (.arr 64 bK) (.int .i64))
def firstL : List Int := [1779033703, 3144134277, 1013904242, 2773480762, 1359893119, 2600822924, 528734635, 1541459225]
def rootsL : List Int := [1116352408, 1899447441, 3049323471, 3921009573, 961987163, 1508970993, 2453635748, 2870763221, 3624381080, 310598401, 607225278, 1426881987, 1925078388, 2162078206, 2614888103, 3248222580, 3835390401, 4022224774, 264347078, 604807628, 770255983, 1249150122, 1555081692, 1996064986, 2554220882, 2821834349, 2952996808, 3210313671, 3336571891, 3584528711, 113926993, 338241895, 666307205, 773529912, 1294757372, 1396182291, 1695183700, 1986661051, 2177026350, 2456956037, 2730485921, 2820302411, 3259730800, 3345764771, 3516065817, 3600352804, 4094571909, 275423344, 430227734, 506948616, 659060556, 883997877, 958139571, 1322822218, 1537002063, 1747873779, 1955562222, 2024104815, 2227730452, 2361852424, 2428436474, 2756734187, 3204031479, 3329325298]
/-- The package's variables. -/
def shaG : Glob := fun g => if g = 0 then some ⟨.arr 8 uK, firstL⟩ else if g = 1 then some ⟨.arr 64 uK, rootsL⟩ else none
theorem ent_rot : enters Tryd.prog 145 Tryd.f145 := enters_mk (by kernel_rfl) (by kernel_rfl) (by kernel_rfl)
def rotF (x k : Int) : Int := bitOp .or .u32 (IntKind.u32.wrap (x * 2 ^ min (bitOp .and .u64 (IntKind.u64.wrap k) 31).toNat IntKind.u32.bits)) (Int.fdiv x (2 ^ min (IntKind.u64.wrap (32 - bitOp .and .u64 (IntKind.u64.wrap k) 31)).toNat IntKind.u32.bits))
noncomputable def rot (x k : Int) : Int := opq (rotF x k)
theorem wrap_nn (x : Int) : 0 ≤ IntKind.u64.wrap x := by
  simp only [IntKind.wrap, IntKind.signed, IntKind.bits]
  simp
  omega
theorem fn_rot : FnOk Tryd.prog 145 [uK, .int .i64] [.val uK] noG (fun _ => True) (fun (x, k, _) => (rot x k, ())) := by
  refine fn_of_vc (sp := sps []) sps_nil mixed ent_rot (by decide) (by decide) ?_
  rintro w M0 ⟨x, k, ⟨⟩⟩
  revert x k
  intro (x : Int) (k : Int) _ _
  refine vcx (X := ((0 : Int) ≤ bitOp BinOp.and IntKind.u64 (IntKind.u64.wrap k) (31 : Int) ∧ (0 : Int) ≤ IntKind.u64.wrap ((32 : Int) - bitOp BinOp.and IntKind.u64 (IntKind.u64.wrap k) (31 : Int)) ∧ (bitOp BinOp.or IntKind.u32 (IntKind.u32.wrap (x * (2 : Int) ^ min (bitOp BinOp.and IntKind.u64 (IntKind.u64.wrap k) (31 : Int)).toNat IntKind.u32.bits)) (x.fdiv ((2 : Int) ^ min (IntKind.u64.wrap ((32 : Int) - bitOp BinOp.and IntKind.u64 (IntKind.u64.wrap k) (31 : Int))).toNat IntKind.u32.bits)), ()) = (rot x k, ()))) (by kernel_rfl) ?_
  refine ⟨?_, ?_, by show _ = (rot x k, ()); rw [rot, opq_eq]; rfl⟩
  · have h : (0 : Int) ≤ bitOp .and .u64 (IntKind.u64.wrap k) 31 := by
      show (0 : Int) ≤ IntKind.u64.wrap _
      exact wrap_nn _
    exact h
  · exact wrap_nn _
noncomputable def spRot : Nat × Eng.Spec := (145, fnSpec [uK, .int .i64] [.val uK] (fun _ => True) (fun (x, k, _) => (rot x k, ())))
theorem ent_take : enters Tryd.prog 135 Tryd.f135 := enters_mk (by kernel_rfl) (by kernel_rfl) (by kernel_rfl)
noncomputable abbrev TK : List Code := codeOf Tryd.f135
noncomputable def tkA (st rest p : List Int) (sz : Int) (g : Int × List Int) : St := mkSt Tryd.f135.ntmps 25 [(0, .is (.one (.ptr 0 0))), (3, .is (.one (.ptr 1 0))), (4, .is (.one (.ptr 9 0))), (23, sI .i64 g.1)] [(9, [.ints .u32 64 g.2]), (1, [.ints .u8 64 p]), (0, [.ints .u32 8 st, .ints .u8 64 rest, .v (.int .i64 sz)])]
noncomputable def tkB (st rest p : List Int) (sz : Int) (i : Nat) (g : Int × List Int) : St := mkSt Tryd.f135.ntmps 25 [(0, .is (.one (.ptr 0 0))), (3, .is (.one (.ptr 1 0))), (4, .is (.one (.ptr 9 0))), (5, sI .i64 i), (23, sI .i64 i), (26, sI .i64 g.1)] [(9, [.ints .u32 64 g.2]), (1, [.ints .u8 64 p]), (0, [.ints .u32 8 st, .ints .u8 64 rest, .v (.int .i64 sz)])]
/-- A byte more in a word. -/
def wB (p : List Int) (i j : Nat) (w : List Int) : List Int := w.set i (bitOp .or .u32 (IntKind.u32.wrap (w.getD i 0 * 2 ^ min (8 : Nat) IntKind.u32.bits)) (IntKind.u32.wrap (p.getD (4 * i + j) 0)))
def wBk (p : List Int) (i : Nat) (w : List Int) : Nat → List Int
  | 0 => w
  | j + 1 => wB p i j (wBk p i w j)
def wAk (p : List Int) : Nat → List Int
  | 0 => List.replicate 64 0
  | i + 1 => wBk p i (wAk p i) 4
theorem wBk_len (p : List Int) (i : Nat) (w : List Int) : ∀ j, (wBk p i w j).length = w.length
  | 0 => rfl
  | j + 1 => by show (wB p i j _).length = _; rw [wB, List.length_set, wBk_len p i w j]
theorem wAk_len (p : List Int) : ∀ i, (wAk p i).length = 64
  | 0 => List.length_replicate
  | i + 1 => by show (wBk p i (wAk p i) 4).length = _; rw [wBk_len, wAk_len p i]
noncomputable def tkC (st rest p : List Int) (sz : Int) (g : Int × List Int) : St := mkSt Tryd.f135.ntmps 25 [(0, .is (.one (.ptr 0 0))), (4, .is (.one (.ptr 9 0))), (45, sI .i64 g.1)] [(9, [.ints .u32 64 g.2]), (0, [.ints .u32 8 st, .ints .u8 64 rest, .v (.int .i64 sz)])]
noncomputable def tkD (st rest p : List Int) (sz : Int) (w : List Int) (g : Int × List Int) : St := mkSt Tryd.f135.ntmps 81 [(0, .is (.one (.ptr 0 0))), (4, .is (.one (.ptr 9 0))), (12, .is (.one (.ptr 57 0))), (92, sI .i64 g.1)] [(57, [.ints .u32 8 g.2]), (9, [.ints .u32 64 w]), (0, [.ints .u32 8 st, .ints .u8 64 rest, .v (.int .i64 sz)])]
noncomputable def sg0 (a : Int) : Int := bitOp .xor .u32 (bitOp .xor .u32 (rot a (-7)) (rot a (-18))) (a.fdiv (2 ^ min (3 : Nat) IntKind.u32.bits))
noncomputable def sg1 (a : Int) : Int := bitOp .xor .u32 (bitOp .xor .u32 (rot a (-17)) (rot a (-19))) (a.fdiv (2 ^ min (10 : Nat) IntKind.u32.bits))
/-- A word more. -/
noncomputable def wC (w : List Int) (i : Nat) : List Int := w.set (i + 16) (IntKind.u32.wrap (IntKind.u32.wrap (IntKind.u32.wrap (w.getD i 0 + sg0 (w.getD (i + 1) 0)) + w.getD (i + 9) 0) + sg1 (w.getD (i + 14) 0)))
noncomputable def wCk (w : List Int) : Nat → List Int
  | 0 => w
  | i + 1 => wC (wCk w i) i
theorem wCk_len (w : List Int) : ∀ i, (wCk w i).length = w.length
  | 0 => rfl
  | i + 1 => by show (wC _ i).length = _; rw [wC, List.length_set, wCk_len w i]
noncomputable def tkE (rest : List Int) (sz : Int) (w v : List Int) (g : Int × List Int) : St := mkSt Tryd.f135.ntmps 81 [(0, .is (.one (.ptr 0 0))), (12, .is (.one (.ptr 57 0))), (172, sI .i64 g.1)] [(57, [.ints .u32 8 v]), (0, [.ints .u32 8 g.2, .ints .u8 64 rest, .v (.int .i64 sz)])]
theorem eight : ∀ {v : List Int}, v.length = 8 → ∃ a b c d e f g h, v = [a, b, c, d, e, f, g, h]
  | [a, b, c, d, e, f, g, h], _ => ⟨a, b, c, d, e, f, g, h, rfl⟩
noncomputable def rT (w : List Int) (e f g h : Int) (i : Nat) : Int := IntKind.u32.wrap (IntKind.u32.wrap (h + bitOp .xor .u32 (bitOp .xor .u32 (rot e (-6)) (rot e (-11))) (rot e (-25))) + IntKind.u32.wrap (IntKind.u32.wrap (bitOp .xor .u32 (bitOp .and .u32 e f) (bitOp .and .u32 (bitOp .xor .u32 (if IntKind.u32.signed = true then (-1 : Int) else IntKind.u32.max) e) g) + rootsL.getD i 0) + w.getD i 0))
noncomputable def rU (a b c : Int) : Int := IntKind.u32.wrap (bitOp .xor .u32 (bitOp .xor .u32 (rot a (-2)) (rot a (-13))) (rot a (-22)) + bitOp .xor .u32 (bitOp .xor .u32 (bitOp .and .u32 a b) (bitOp .and .u32 a c)) (bitOp .and .u32 b c))
/-- A round. -/
noncomputable def vC (w : List Int) : List Int → Nat → List Int
  | [a, b, c, d, e, f, g, h], i => [IntKind.u32.wrap (rT w e f g h i + rU a b c), a, b, c, IntKind.u32.wrap (d + rT w e f g h i), e, f, g]
  | v, _ => v
noncomputable def vCk (w v : List Int) : Nat → List Int
  | 0 => v
  | i + 1 => vC w (vCk w v i) i
theorem vCk_len (w : List Int) {v : List Int} (hv : v.length = 8) : ∀ i, (vCk w v i).length = 8
  | 0 => hv
  | i + 1 => by
    obtain ⟨a, b, c, d, e, f, g, h, e1⟩ := eight (vCk_len w hv i)
    show (vC w (vCk w v i) i).length = 8
    rw [e1]; rfl
def fCk (v s : List Int) : Nat → List Int
  | 0 => s
  | i + 1 => (fCk v s i).set i (IntKind.u32.wrap ((fCk v s i).getD i 0 + v.getD i 0))
theorem fCk_len (v s : List Int) : ∀ i, (fCk v s i).length = s.length
  | 0 => rfl
  | i + 1 => by show (List.set _ _ _).length = _; rw [List.length_set, fCk_len v s i]
/-- A block laid over a state. -/
noncomputable def takeF (st p : List Int) : List Int := fCk (vCk (wCk (wAk p 16) 48) st 64) st 8
noncomputable def tko (st p : List Int) : List Int := opq (takeF st p)
theorem tko_len (st p : List Int) : (tko st p).length = st.length := by rw [tko, opq_eq, takeF, fCk_len]
theorem fn_take : FnOkP Tryd.prog 135 hashK [.arr 64 bK] [] shaG (fun _ => True) (fun ((st, rest, sz), p, _) => ((tko st p, rest, sz), ())) := by
  have hsp : SpecsOk Tryd.prog (sps [spRot]) := sps_cons (fnSpec_ok fn_rot) sps_nil
  refine fn_of_trP (sp := sps [spRot]) ent_take (by decide) (by decide) (by kernel_rfl) ?_
  rintro w M0 b0 ⟨st, rest, sz⟩ ⟨p, ⟨⟩⟩
  revert st rest sz p
  intro (st : List Int) (rest : List Int) (sz : Int) (p : List Int) hw hw2 _
  have hst : st.length = 8 := hw.1.1
  have hp : p.length = 64 := hw2.1.1
  show Tr _ _ _ _ _ _ _
  refine tr_cut hsp mixed 3 (tkA st rest p sz (0, List.replicate 64 0)) True ?_ (fun _ => ?_)
  · refine vcx (X := ((tkA st rest p sz ((0 : Int), List.replicate (64 : Nat) (0 : Int))).triv True)) (by kernel_rfl) ?_
    exact triv_intro trivial
  refine tr_whileT noSw (fun σ => (rdS (.int .i64) 23 σ, rdR uK 9 σ)) (tkA st rest p sz) (fun g => ∃ k : Nat, k ≤ 16 ∧ g.1 = (k : Int) ∧ g.2 = wAk p k) (fun g => 16 - g.1.toNat)
    (fun σ => (rdS (.int .i64) 23 σ, rdR uK 9 σ)) (tkA st rest p sz) (fun g => g.2 = wAk p 16) (0, List.replicate 64 0) (c := nthC TK 3) (by kernel_rfl) (by kernel_rfl) (le_of_proj (by kernel_rfl) (by kernel_rfl) ?_) ?_ ?_
  · exact ⟨0, by decide, rfl, rfl⟩
  · rintro ⟨i, wl⟩ hj
    revert i wl
    intro (i : Int) (wl : List Int) ⟨k, hk, ei, ew⟩
    have ei : i = (k : Int) := ei
    have kw : wl = wAk p k := ew
    subst ei
    refine tr_cut hsp mixed 2 (tkA st rest p sz ((k : Int), wl)) (k < 16) ?_ (fun hlt => ?_)
    · refine vcx (X := ((decide ((↑k : Int) < (16 : Int)) = true → (tkA st rest p sz ((↑k : Int), wl)).triv (k < (16 : Nat))) ∧ (decide ((↑k : Int) < (16 : Int)) = false → (tkA st rest p sz ((↑k : Int), wl)).triv (wl = wAk p (16 : Nat))))) (by kernel_rfl) ?_
      refine ⟨fun h => triv_intro (by have := of_decide_eq_true h; omega), fun h => triv_intro ?_⟩
      have : k = 16 := by have := of_decide_eq_false h; omega
      rw [kw, this]
    refine tr_block (c := nthC (loopOf (nthC (codeOf Tryd.f135) 3)) 2) (by kernel_rfl) (by kernel_rfl) ?_
    refine tr_cut hsp mixed 2 (tkB st rest p sz k (0, wl)) True ?_ (fun _ => ?_)
    · refine vcx (X := ((tkB st rest p sz k ((0 : Int), wl)).triv True)) (by kernel_rfl) ?_
      exact triv_intro trivial
    refine tr_while hsp mixed noSw (fun σ => (rdS (.int .i64) 26 σ, rdR uK 9 σ)) (tkB st rest p sz k) (fun g => ∃ j : Nat, j ≤ 4 ∧ g.1 = (j : Int) ∧ g.2 = wBk p k wl j) (fun g => 4 - g.1.toNat)
      (fun σ => rdR uK 9 σ) (fun w => tkA st rest p sz ((k : Int), w)) (fun w => w = wBk p k wl 4) (0, wl) (c := nthC (bodyOf (nthC (loopOf (nthC (codeOf Tryd.f135) 3)) 2)) 2) (by kernel_rfl) (by kernel_rfl) (le_of_proj (by kernel_rfl) (by kernel_rfl) ?_) ?_ ?_
    · exact ⟨0, by decide, rfl, rfl⟩
    · rintro ⟨j, wj⟩ hj
      revert j wj
      intro (j : Int) (wj : List Int) ⟨t, ht, ej, ewj⟩
      have ej : j = (t : Int) := ej
      have kwj : wj = wBk p k wl t := ewj
      subst ej
      refine vcx (X := ((decide ((↑t : Int) < (4 : Int)) = true → ((0 : Int) ≤ (↑k : Int) ∧ (↑k : Int) < (↑(64 : Nat) : Int)) ∧ (↑k : Int).toNat < (64 : Nat) ∧ (0 : Int) ≤ (8 : Int) ∧ ((0 : Int) ≤ IntKind.i64.wrap (IntKind.i64.wrap ((4 : Int) * (↑k : Int)) + (↑t : Int)) ∧ IntKind.i64.wrap (IntKind.i64.wrap ((4 : Int) * (↑k : Int)) + (↑t : Int)) < (↑(64 : Nat) : Int)) ∧ (IntKind.i64.wrap (IntKind.i64.wrap ((4 : Int) * (↑k : Int)) + (↑t : Int))).toNat < (64 : Nat) ∧ ((0 : Int) ≤ (↑k : Int) ∧ (↑k : Int) < (↑(64 : Nat) : Int)) ∧ (↑k : Int).toNat < (64 : Nat) ∧ (tkB st rest p sz k (IntKind.i64.wrap ((↑t : Int) + (1 : Int)), wj.set (↑k : Int).toNat (bitOp BinOp.or IntKind.u32 (IntKind.u32.wrap (wj.getD (↑k : Int).toNat (0 : Int) * (2 : Int) ^ min (8 : Nat) IntKind.u32.bits)) (IntKind.u32.wrap (p.getD (IntKind.i64.wrap (IntKind.i64.wrap ((4 : Int) * (↑k : Int)) + (↑t : Int))).toNat (0 : Int)))))).triv ((∃ j, j ≤ (4 : Nat) ∧ IntKind.i64.wrap ((↑t : Int) + (1 : Int)) = (↑j : Int) ∧ wj.set (↑k : Int).toNat (bitOp BinOp.or IntKind.u32 (IntKind.u32.wrap (wj.getD (↑k : Int).toNat (0 : Int) * (2 : Int) ^ min (8 : Nat) IntKind.u32.bits)) (IntKind.u32.wrap (p.getD (IntKind.i64.wrap (IntKind.i64.wrap ((4 : Int) * (↑k : Int)) + (↑t : Int))).toNat (0 : Int)))) = wBk p k wl j) ∧ (4 : Nat) - (IntKind.i64.wrap ((↑t : Int) + (1 : Int))).toNat < (4 : Nat) - (↑t : Int).toNat)) ∧ (decide ((↑t : Int) < (4 : Int)) = false → (tkA st rest p sz ((↑k : Int), wj)).triv (wj = wBk p k wl (4 : Nat))))) (by kernel_rfl) ?_
      refine ⟨fun h => ?_, fun h => triv_intro ?_⟩
      · have h4 : t < 4 := by have := of_decide_eq_true h; omega
        have e1 : IntKind.i64.wrap (IntKind.i64.wrap ((4 : Int) * (k : Int)) + (t : Int)) = ((4 * k + t : Nat) : Int) := by
          rw [wrap_i64' (a := 4 * (k : Int)) (by omega) (by omega), wrap_i64' (by omega) (by omega)]; omega
        rw [e1, wrap_succ (by omega), Int.toNat_natCast, Int.toNat_natCast]
        exact ⟨⟨by omega, by omega⟩, by omega, by decide, ⟨by omega, by omega⟩, by omega, ⟨by omega, by omega⟩, by omega, triv_intro ⟨⟨t + 1, h4, rfl, by rw [kwj]; rfl⟩, by rw [Int.toNat_natCast, Int.toNat_natCast]; omega⟩⟩
      · have : t = 4 := by have := of_decide_eq_false h; omega
        rw [kwj, this]
    intro (w' : List Int) (hw' : w' = wBk p k wl 4)
    refine tr_nil ?_
    refine tr_vc hsp mixed _ _ ?_
    refine vcx (X := ((tkA st rest p sz (IntKind.i64.wrap ((↑k : Int) + (1 : Int)), w')).triv ((∃ k_1, k_1 ≤ (16 : Nat) ∧ IntKind.i64.wrap ((↑k : Int) + (1 : Int)) = (↑k_1 : Int) ∧ w' = wAk p k_1) ∧ (16 : Nat) - (IntKind.i64.wrap ((↑k : Int) + (1 : Int))).toNat < (16 : Nat) - (↑k : Int).toNat))) (by kernel_rfl) ?_
    rw [wrap_succ (by omega)]
    exact triv_intro ⟨⟨k + 1, hlt, rfl, by rw [hw', kw]; rfl⟩, by rw [Int.toNat_natCast, Int.toNat_natCast]; omega⟩
  rintro ⟨i1, w1⟩ hw1
  revert i1 w1
  intro (i1 : Int) (w1 : List Int) (hw1 : w1 = wAk p 16)
  have hw1l : w1.length = 64 := by rw [hw1, wAk_len]
  refine tr_cut hsp mixed 1 (tkC st rest p sz (0, w1)) True ?_ (fun _ => ?_)
  · refine vcx (X := ((tkC st rest p sz ((0 : Int), w1)).triv True)) (by kernel_rfl) ?_
    exact triv_intro trivial
  refine tr_while hsp mixed noSw (fun σ => (rdS (.int .i64) 45 σ, rdR uK 9 σ)) (tkC st rest p sz) (fun g => ∃ j : Nat, j ≤ 48 ∧ g.1 = (j : Int) ∧ g.2 = wCk w1 j) (fun g => 48 - g.1.toNat)
    (fun σ => (rdS (.int .i64) 45 σ, rdR uK 9 σ)) (tkC st rest p sz) (fun g => g.2 = wCk w1 48) (0, w1) (c := nthC (codeOf Tryd.f135) 5) (by kernel_rfl) (by kernel_rfl) (le_of_proj (by kernel_rfl) (by kernel_rfl) ?_) ?_ ?_
  · exact ⟨0, by decide, rfl, rfl⟩
  · rintro ⟨j, wj⟩ hj
    revert j wj
    intro (j : Int) (wj : List Int) ⟨t, ht, ej, ewj⟩
    have ej : j = (t : Int) := ej
    have kwj : wj = wCk w1 t := ewj
    subst ej
    refine vcx (X := ((decide ((↑t : Int) < (48 : Int)) = true → ((0 : Int) ≤ IntKind.i64.wrap ((↑t : Int) + (1 : Int)) ∧ IntKind.i64.wrap ((↑t : Int) + (1 : Int)) < (↑(64 : Nat) : Int)) ∧ (IntKind.i64.wrap ((↑t : Int) + (1 : Int))).toNat < (64 : Nat) ∧ ((0 : Int) ≤ IntKind.i64.wrap ((↑t : Int) + (14 : Int)) ∧ IntKind.i64.wrap ((↑t : Int) + (14 : Int)) < (↑(64 : Nat) : Int)) ∧ (IntKind.i64.wrap ((↑t : Int) + (14 : Int))).toNat < (64 : Nat) ∧ True ∧ True ∧ (0 : Int) ≤ (3 : Int) ∧ True ∧ True ∧ (0 : Int) ≤ (10 : Int) ∧ ((0 : Int) ≤ (↑t : Int) ∧ (↑t : Int) < (↑(64 : Nat) : Int)) ∧ (↑t : Int).toNat < (64 : Nat) ∧ ((0 : Int) ≤ IntKind.i64.wrap ((↑t : Int) + (9 : Int)) ∧ IntKind.i64.wrap ((↑t : Int) + (9 : Int)) < (↑(64 : Nat) : Int)) ∧ (IntKind.i64.wrap ((↑t : Int) + (9 : Int))).toNat < (64 : Nat) ∧ ((0 : Int) ≤ IntKind.i64.wrap ((↑t : Int) + (16 : Int)) ∧ IntKind.i64.wrap ((↑t : Int) + (16 : Int)) < (↑(64 : Nat) : Int)) ∧ (IntKind.i64.wrap ((↑t : Int) + (16 : Int))).toNat < (64 : Nat) ∧ (tkC st rest p sz (IntKind.i64.wrap ((↑t : Int) + (1 : Int)), wj.set (IntKind.i64.wrap ((↑t : Int) + (16 : Int))).toNat (IntKind.u32.wrap (IntKind.u32.wrap (IntKind.u32.wrap (wj.getD (↑t : Int).toNat (0 : Int) + bitOp BinOp.xor IntKind.u32 (bitOp BinOp.xor IntKind.u32 (rot (wj.getD (IntKind.i64.wrap ((↑t : Int) + (1 : Int))).toNat (0 : Int)) (-7 : Int), ()).fst (rot (wj.getD (IntKind.i64.wrap ((↑t : Int) + (1 : Int))).toNat (0 : Int)) (-18 : Int), ()).fst) ((wj.getD (IntKind.i64.wrap ((↑t : Int) + (1 : Int))).toNat (0 : Int)).fdiv ((2 : Int) ^ min (3 : Nat) IntKind.u32.bits))) + wj.getD (IntKind.i64.wrap ((↑t : Int) + (9 : Int))).toNat (0 : Int)) + bitOp BinOp.xor IntKind.u32 (bitOp BinOp.xor IntKind.u32 (rot (wj.getD (IntKind.i64.wrap ((↑t : Int) + (14 : Int))).toNat (0 : Int)) (-17 : Int), ()).fst (rot (wj.getD (IntKind.i64.wrap ((↑t : Int) + (14 : Int))).toNat (0 : Int)) (-19 : Int), ()).fst) ((wj.getD (IntKind.i64.wrap ((↑t : Int) + (14 : Int))).toNat (0 : Int)).fdiv ((2 : Int) ^ min (10 : Nat) IntKind.u32.bits)))))).triv ((∃ j, j ≤ (48 : Nat) ∧ IntKind.i64.wrap ((↑t : Int) + (1 : Int)) = (↑j : Int) ∧ wj.set (IntKind.i64.wrap ((↑t : Int) + (16 : Int))).toNat (IntKind.u32.wrap (IntKind.u32.wrap (IntKind.u32.wrap (wj.getD (↑t : Int).toNat (0 : Int) + bitOp BinOp.xor IntKind.u32 (bitOp BinOp.xor IntKind.u32 (rot (wj.getD (IntKind.i64.wrap ((↑t : Int) + (1 : Int))).toNat (0 : Int)) (-7 : Int)) (rot (wj.getD (IntKind.i64.wrap ((↑t : Int) + (1 : Int))).toNat (0 : Int)) (-18 : Int))) ((wj.getD (IntKind.i64.wrap ((↑t : Int) + (1 : Int))).toNat (0 : Int)).fdiv ((2 : Int) ^ min (3 : Nat) IntKind.u32.bits))) + wj.getD (IntKind.i64.wrap ((↑t : Int) + (9 : Int))).toNat (0 : Int)) + bitOp BinOp.xor IntKind.u32 (bitOp BinOp.xor IntKind.u32 (rot (wj.getD (IntKind.i64.wrap ((↑t : Int) + (14 : Int))).toNat (0 : Int)) (-17 : Int)) (rot (wj.getD (IntKind.i64.wrap ((↑t : Int) + (14 : Int))).toNat (0 : Int)) (-19 : Int))) ((wj.getD (IntKind.i64.wrap ((↑t : Int) + (14 : Int))).toNat (0 : Int)).fdiv ((2 : Int) ^ min (10 : Nat) IntKind.u32.bits)))) = wCk w1 j) ∧ (48 : Nat) - (IntKind.i64.wrap ((↑t : Int) + (1 : Int))).toNat < (48 : Nat) - (↑t : Int).toNat)) ∧ (decide ((↑t : Int) < (48 : Int)) = false → (tkC st rest p sz ((↑t : Int), wj)).triv (wj = wCk w1 (48 : Nat))))) (by kernel_rfl) ?_
    refine ⟨fun h => ?_, fun h => triv_intro ?_⟩
    · have h4 : t < 48 := by have := of_decide_eq_true h; omega
      have e1 : ∀ m : Nat, m < 20 → IntKind.i64.wrap ((t : Int) + (m : Int)) = ((t + m : Nat) : Int) := fun m hm => by
        rw [wrap_i64' (by omega) (by omega)]; omega
      have e1a : IntKind.i64.wrap ((t : Int) + 1) = ((t + 1 : Nat) : Int) := e1 1 (by decide)
      have e1b : IntKind.i64.wrap ((t : Int) + 9) = ((t + 9 : Nat) : Int) := e1 9 (by decide)
      have e1c : IntKind.i64.wrap ((t : Int) + 14) = ((t + 14 : Nat) : Int) := e1 14 (by decide)
      have e1d : IntKind.i64.wrap ((t : Int) + 16) = ((t + 16 : Nat) : Int) := e1 16 (by decide)
      rw [e1a, e1b, e1c, e1d]
      simp only [Int.toNat_natCast]
      exact ⟨⟨by omega, by omega⟩, by omega, ⟨by omega, by omega⟩, by omega, trivial, trivial, by decide, trivial, trivial, by decide, ⟨by omega, by omega⟩, by omega, ⟨by omega, by omega⟩, by omega, ⟨by omega, by omega⟩, by omega, triv_intro ⟨⟨t + 1, h4, rfl, by rw [kwj]; rfl⟩, by omega⟩⟩
    · have : t = 48 := by have := of_decide_eq_false h; omega
      rw [kwj, this]
  rintro ⟨i2, w2⟩ hw2
  revert i2 w2
  intro (i2 : Int) (w2 : List Int) (hw2' : w2 = wCk w1 48)
  refine tr_cut hsp mixed 2 (tkD st rest p sz w2 (0, st)) True ?_ (fun _ => ?_)
  · refine vcx (X := ((tkD st rest p sz w2 ((0 : Int), st)).triv True)) (by kernel_rfl) ?_
    exact triv_intro trivial
  have hw2l : w2.length = 64 := by rw [hw2', wCk_len, hw1l]
  refine tr_while hsp mixed noSw (fun σ => (rdS (.int .i64) 92 σ, rdR uK 57 σ)) (tkD st rest p sz w2) (fun g => ∃ j : Nat, j ≤ 64 ∧ g.1 = (j : Int) ∧ g.2 = vCk w2 st j) (fun g => 64 - g.1.toNat)
    (fun σ => (rdS (.int .i64) 92 σ, rdR uK 57 σ)) (tkD st rest p sz w2) (fun g => g.2 = vCk w2 st 64) (0, st) (c := nthC (codeOf Tryd.f135) 8) (by kernel_rfl) (by kernel_rfl) (le_of_proj (by kernel_rfl) (by kernel_rfl) ?_) ?_ ?_
  · exact ⟨0, by decide, rfl, rfl⟩
  · rintro ⟨j, v⟩ hj
    revert j v
    intro (j : Int) (v : List Int) ⟨t, ht, ej, ev⟩
    have ej : j = (t : Int) := ej
    have kv : v = vCk w2 st t := ev
    subst ej
    have hvl : v.length = 8 := by rw [kv, vCk_len _ hst]
    obtain ⟨a, b, c, d, e, f, g, h, rfl⟩ := eight hvl
    refine vcx (X := ((decide ((↑t : Int) < (64 : Int)) = true → True ∧ True ∧ True ∧ ((0 : Int) ≤ (↑t : Int) ∧ (↑t : Int) < (↑(64 : Nat) : Int)) ∧ (↑t : Int).toNat < rootsL.length ∧ ((0 : Int) ≤ (↑t : Int) ∧ (↑t : Int) < (↑(64 : Nat) : Int)) ∧ (↑t : Int).toNat < (64 : Nat) ∧ True ∧ True ∧ True ∧ (tkD st rest p sz w2 (IntKind.i64.wrap ((↑t : Int) + (1 : Int)), [IntKind.u32.wrap (IntKind.u32.wrap (IntKind.u32.wrap (h + bitOp BinOp.xor IntKind.u32 (bitOp BinOp.xor IntKind.u32 (rot e (-6 : Int), ()).fst (rot e (-11 : Int), ()).fst) (rot e (-25 : Int), ()).fst) + IntKind.u32.wrap (IntKind.u32.wrap (bitOp BinOp.xor IntKind.u32 (bitOp BinOp.and IntKind.u32 e f) (bitOp BinOp.and IntKind.u32 (bitOp BinOp.xor IntKind.u32 (if IntKind.u32.signed = true then (-1 : Int) else IntKind.u32.max) e) g) + rootsL.getD (↑t : Int).toNat (0 : Int)) + w2.getD (↑t : Int).toNat (0 : Int))) + IntKind.u32.wrap (bitOp BinOp.xor IntKind.u32 (bitOp BinOp.xor IntKind.u32 (rot a (-2 : Int), ()).fst (rot a (-13 : Int), ()).fst) (rot a (-22 : Int), ()).fst + bitOp BinOp.xor IntKind.u32 (bitOp BinOp.xor IntKind.u32 (bitOp BinOp.and IntKind.u32 a b) (bitOp BinOp.and IntKind.u32 a c)) (bitOp BinOp.and IntKind.u32 b c))), a, b, c, IntKind.u32.wrap (d + IntKind.u32.wrap (IntKind.u32.wrap (h + bitOp BinOp.xor IntKind.u32 (bitOp BinOp.xor IntKind.u32 (rot e (-6 : Int), ()).fst (rot e (-11 : Int), ()).fst) (rot e (-25 : Int), ()).fst) + IntKind.u32.wrap (IntKind.u32.wrap (bitOp BinOp.xor IntKind.u32 (bitOp BinOp.and IntKind.u32 e f) (bitOp BinOp.and IntKind.u32 (bitOp BinOp.xor IntKind.u32 (if IntKind.u32.signed = true then (-1 : Int) else IntKind.u32.max) e) g) + rootsL.getD (↑t : Int).toNat (0 : Int)) + w2.getD (↑t : Int).toNat (0 : Int)))), e, f, g])).triv ((∃ j, j ≤ (64 : Nat) ∧ IntKind.i64.wrap ((↑t : Int) + (1 : Int)) = (↑j : Int) ∧ [IntKind.u32.wrap (IntKind.u32.wrap (IntKind.u32.wrap (h + bitOp BinOp.xor IntKind.u32 (bitOp BinOp.xor IntKind.u32 (rot e (-6 : Int)) (rot e (-11 : Int))) (rot e (-25 : Int))) + IntKind.u32.wrap (IntKind.u32.wrap (bitOp BinOp.xor IntKind.u32 (bitOp BinOp.and IntKind.u32 e f) (bitOp BinOp.and IntKind.u32 (bitOp BinOp.xor IntKind.u32 (if IntKind.u32.signed = true then (-1 : Int) else IntKind.u32.max) e) g) + rootsL.getD (↑t : Int).toNat (0 : Int)) + w2.getD (↑t : Int).toNat (0 : Int))) + IntKind.u32.wrap (bitOp BinOp.xor IntKind.u32 (bitOp BinOp.xor IntKind.u32 (rot a (-2 : Int)) (rot a (-13 : Int))) (rot a (-22 : Int)) + bitOp BinOp.xor IntKind.u32 (bitOp BinOp.xor IntKind.u32 (bitOp BinOp.and IntKind.u32 a b) (bitOp BinOp.and IntKind.u32 a c)) (bitOp BinOp.and IntKind.u32 b c))), a, b, c, IntKind.u32.wrap (d + IntKind.u32.wrap (IntKind.u32.wrap (h + bitOp BinOp.xor IntKind.u32 (bitOp BinOp.xor IntKind.u32 (rot e (-6 : Int)) (rot e (-11 : Int))) (rot e (-25 : Int))) + IntKind.u32.wrap (IntKind.u32.wrap (bitOp BinOp.xor IntKind.u32 (bitOp BinOp.and IntKind.u32 e f) (bitOp BinOp.and IntKind.u32 (bitOp BinOp.xor IntKind.u32 (if IntKind.u32.signed = true then (-1 : Int) else IntKind.u32.max) e) g) + rootsL.getD (↑t : Int).toNat (0 : Int)) + w2.getD (↑t : Int).toNat (0 : Int)))), e, f, g] = vCk w2 st j) ∧ (64 : Nat) - (IntKind.i64.wrap ((↑t : Int) + (1 : Int))).toNat < (64 : Nat) - (↑t : Int).toNat)) ∧ (decide ((↑t : Int) < (64 : Int)) = false → (tkD st rest p sz w2 ((↑t : Int), [a, b, c, d, e, f, g, h])).triv ([a, b, c, d, e, f, g, h] = vCk w2 st (64 : Nat))))) (by kernel_rfl) ?_
    refine ⟨fun h' => ?_, fun h' => triv_intro ?_⟩
    · have h4 : t < 64 := by have := of_decide_eq_true h'; omega
      have hrl : rootsL.length = 64 := rfl
      rw [wrap_succ (by omega), Int.toNat_natCast]
      exact ⟨trivial, trivial, trivial, ⟨by omega, by omega⟩, by omega, ⟨by omega, by omega⟩, by omega, trivial, trivial, trivial, triv_intro ⟨⟨t + 1, h4, rfl, by show _ = vC w2 (vCk w2 st t) t; rw [← kv]; rfl⟩, by rw [Int.toNat_natCast]; omega⟩⟩
    · have : t = 64 := by have := of_decide_eq_false h'; omega
      rw [kv, this]
  rintro ⟨i3, v⟩ hv
  revert i3 v
  intro (i3 : Int) (v : List Int) (hv : v = vCk w2 st 64)
  refine tr_cut hsp mixed 1 (tkE rest sz w2 v (0, st)) True ?_ (fun _ => ?_)
  · refine vcx (X := ((tkE rest sz w2 v ((0 : Int), st)).triv True)) (by kernel_rfl) ?_
    exact triv_intro trivial
  refine tr_while hsp mixed noSw (fun σ => (rdS (.int .i64) 172 σ, (rdB hashK 0 σ).1)) (tkE rest sz w2 v) (fun g => ∃ j : Nat, j ≤ 8 ∧ g.1 = (j : Int) ∧ g.2 = fCk v st j) (fun g => 8 - g.1.toNat)
    (fun σ => (rdS (.int .i64) 172 σ, (rdB hashK 0 σ).1)) (tkE rest sz w2 v) (fun g => g.2 = fCk v st 8) (0, st) (c := nthC (codeOf Tryd.f135) 10) (by kernel_rfl) (by kernel_rfl) (le_of_proj (by kernel_rfl) (by kernel_rfl) ?_) ?_ ?_
  · exact ⟨0, by decide, rfl, rfl⟩
  · rintro ⟨j, s⟩ hj
    revert j s
    intro (j : Int) (s : List Int) ⟨t, ht, ej, es⟩
    have ej : j = (t : Int) := ej
    have ks : s = fCk v st t := es
    subst ej
    refine vcx (X := ((decide ((↑t : Int) < (8 : Int)) = true → ((0 : Int) ≤ (↑t : Int) ∧ (↑t : Int) < (↑(8 : Nat) : Int)) ∧ (↑t : Int).toNat < (8 : Nat) ∧ ((0 : Int) ≤ (↑t : Int) ∧ (↑t : Int) < (↑(8 : Nat) : Int)) ∧ (↑t : Int).toNat < (8 : Nat) ∧ ((0 : Int) ≤ (↑t : Int) ∧ (↑t : Int) < (↑(8 : Nat) : Int)) ∧ (↑t : Int).toNat < (8 : Nat) ∧ (tkE rest sz w2 v (IntKind.i64.wrap ((↑t : Int) + (1 : Int)), (s.set (↑t : Int).toNat (IntKind.u32.wrap (s.getD (↑t : Int).toNat (0 : Int) + v.getD (↑t : Int).toNat (0 : Int))), rest, sz).fst)).triv ((∃ j, j ≤ (8 : Nat) ∧ IntKind.i64.wrap ((↑t : Int) + (1 : Int)) = (↑j : Int) ∧ s.set (↑t : Int).toNat (IntKind.u32.wrap (s.getD (↑t : Int).toNat (0 : Int) + v.getD (↑t : Int).toNat (0 : Int))) = fCk v st j) ∧ (8 : Nat) - (IntKind.i64.wrap ((↑t : Int) + (1 : Int))).toNat < (8 : Nat) - (↑t : Int).toNat)) ∧ (decide ((↑t : Int) < (8 : Int)) = false → (tkE rest sz w2 v ((↑t : Int), (s, rest, sz).fst)).triv (s = fCk v st (8 : Nat))))) (by kernel_rfl) ?_
    refine ⟨fun h => ?_, fun h => triv_intro ?_⟩
    · have h4 : t < 8 := by have := of_decide_eq_true h; omega
      rw [wrap_succ (by omega), Int.toNat_natCast]
      exact ⟨⟨by omega, by omega⟩, h4, ⟨by omega, by omega⟩, h4, ⟨by omega, by omega⟩, h4, triv_intro ⟨⟨t + 1, h4, rfl, by rw [ks]; rfl⟩, by rw [Int.toNat_natCast]; omega⟩⟩
    · have : t = 8 := by have := of_decide_eq_false h; omega
      rw [ks, this]
  rintro ⟨i4, s⟩ hs
  revert i4 s
  intro (i4 : Int) (s : List Int) (hs : s = fCk v st 8)
  refine tr_vc hsp mixed _ _ ?_
  refine vcx (X := (((s, rest, sz), ()) = ((tko st p, rest, sz), ()))) (by kernel_rfl) ?_
  show ((s, rest, sz), ()) = ((tko st p, rest, sz), ())
  rw [hs, hv, hw2', hw1, tko, opq_eq, takeF]
noncomputable def spTake : Nat × Eng.Spec := (135, fnSpecPG shaG hashK [.arr 64 bK] [] (fun _ => True) (fun ((st, rest, sz), p, _) => ((tko st p, rest, sz), ())))
end Go.Proofs.YtbfimfdhmggieaaDoor.sha
/- sha: bytes taken piece by piece (plain). No program here. -/
namespace Cr
section
variable (tk : List Int → List Int → List Int) (first : List Int)
/-- So many blocks laid over a state. -/
def absK (st b : List Int) : Nat → List Int
  | 0 => st
  | k + 1 => tk (absK st b k) ((b.drop (64 * k)).take 64)
theorem absK_pre (st X Y : List Int) : ∀ j, 64 * j ≤ X.length → absK tk st (X ++ Y) j = absK tk st X j
  | 0, _ => rfl
  | j + 1, h => by
    show tk _ _ = tk _ _
    rw [absK_pre st X Y j (by omega), List.drop_append_of_le_length (by omega), List.take_append_of_le_length (by rw [List.length_drop]; omega)]
theorem absK_app (st X Y : List Int) (k : Nat) (hk : X.length = 64 * k) : ∀ j, absK tk st (X ++ Y) (k + j) = absK tk (absK tk st X k) Y j
  | 0 => absK_pre tk st X Y k (by omega)
  | j + 1 => by
    show tk (absK tk st (X ++ Y) (k + j)) _ = tk _ _
    rw [absK_app st X Y k hk j]
    congr 2
    have hkj : X.length ≤ 64 * (k + j) := by omega
    rw [show k.add j = k + j from rfl, List.drop_append, List.drop_eq_nil_of_le hkj, List.nil_append]
    congr 1; omega
def tailOf (L : List Int) : List Int := L.drop (64 * (L.length / 64))
def Hs (L : List Int) : List Int := absK tk first L (L.length / 64)
theorem tailOf_len (L : List Int) : (tailOf L).length = L.length % 64 := by rw [tailOf, List.length_drop]; omega
theorem tailOf_app (X Y : List Int) (k : Nat) (hk : X.length = 64 * k) : tailOf (X ++ Y) = tailOf Y := by
  rw [tailOf, tailOf, List.length_append, List.drop_append, List.drop_eq_nil_of_le (by omega), List.nil_append]
  congr 1; omega
theorem Hs_app (X Y : List Int) (k : Nat) (hk : X.length = 64 * k) : Hs tk first (X ++ Y) = absK tk (absK tk first X k) Y (Y.length / 64) := by
  rw [Hs, List.length_append, show (X.length + Y.length) / 64 = k + Y.length / 64 by omega, absK_app tk first X Y k hk]
def wrEnd (st rest b : List Int) : List Int × List Int := (absK tk st b (b.length / 64), tailOf b ++ rest.drop (tailOf b).length)
/-- What Write makes of a state. -/
def wrF (st rest : List Int) (sz : Int) (b : List Int) : List Int × List Int × Int :=
  match decide ((sz % 64).toNat = 0) with
  | true => ((wrEnd tk (bif decide (sz = 0) then first else st) rest b).1, (wrEnd tk (bif decide (sz = 0) then first else st) rest b).2, sz + b.length)
  | false => match decide ((sz % 64).toNat + b.length < 64) with
    | true => (st, rest.take (sz % 64).toNat ++ (b ++ rest.drop ((sz % 64).toNat + b.length)), sz + b.length)
    | false => ((wrEnd tk (tk st (rest.take (sz % 64).toNat ++ b.take (64 - (sz % 64).toNat))) (rest.take (sz % 64).toNat ++ b.take (64 - (sz % 64).toNat)) (b.drop (64 - (sz % 64).toNat))).1,
        (wrEnd tk (tk st (rest.take (sz % 64).toNat ++ b.take (64 - (sz % 64).toNat))) (rest.take (sz % 64).toNat ++ b.take (64 - (sz % 64).toNat)) (b.drop (64 - (sz % 64).toNat))).2, sz + b.length)
/-- A state that has taken these bytes. -/
def Took (L : List Int) (st rest : List Int) (sz : Int) : Prop := sz = (L.length : Int) ∧ rest.length = 64 ∧ (L ≠ [] → st = Hs tk first L) ∧ rest.take (L.length % 64) = tailOf L
theorem took_nil (st rest : List Int) (h : rest.length = 64) : Took tk first [] st rest 0 := ⟨rfl, h, fun h => absurd rfl h, by simp [tailOf]⟩
theorem took_wr {L st rest : List Int} {sz : Int} (h : Took tk first L st rest sz) (b : List Int) : Took tk first (L ++ b) (wrF tk first st rest sz b).1 (wrF tk first st rest sz b).2.1 (wrF tk first st rest sz b).2.2 := by
  obtain ⟨h1, h2, h3, h4⟩ := h
  subst h1
  have hr : (((L.length : Int)) % 64).toNat = L.length % 64 := by omega
  have hsplit : L = L.take (64 * (L.length / 64)) ++ tailOf L := (List.take_append_drop _ L).symm
  have hXl : (L.take (64 * (L.length / 64))).length = 64 * (L.length / 64) := by rw [List.length_take]; omega
  unfold wrF
  rw [hr]
  have hsz : (L.length : Int) + (b.length : Int) = ((L ++ b).length : Int) := by rw [List.length_append]; omega
  cases hd : decide (L.length % 64 = 0) with
  | true =>
    have h0 : L.length % 64 = 0 := of_decide_eq_true hd
    have ht : tailOf L = [] := List.eq_nil_of_length_eq_zero (by rw [tailOf_len, h0])
    have hL : L.length = 64 * (L.length / 64) := by omega
    have hs : (bif decide ((L.length : Int) = 0) then first else st) = absK tk first L (L.length / 64) := by
      cases L with
      | nil => rfl
      | cons x l => rw [decide_eq_false (by simp only [List.length_cons]; omega), cond_false]; exact h3 (by simp)
    refine ⟨hsz, ?_, fun _ => ?_, ?_⟩
    · show (tailOf b ++ rest.drop _).length = 64
      rw [List.length_append, List.length_drop, tailOf_len, h2]; omega
    · show absK tk _ b (b.length / 64) = _
      rw [hs, Hs_app tk first L b _ hL]
    · show (tailOf b ++ rest.drop _).take _ = _
      rw [tailOf_app L b _ hL, List.length_append, show (L.length + b.length) % 64 = (tailOf b).length by rw [tailOf_len]; omega, List.take_left' rfl]
  | false =>
    have h0 : L.length % 64 ≠ 0 := of_decide_eq_false hd
    have hne : L ≠ [] := by rintro rfl; exact h0 rfl
    have hst : st = absK tk first (L.take (64 * (L.length / 64))) (L.length / 64) := by
      rw [h3 hne, Hs]
      have := absK_pre tk first (L.take (64 * (L.length / 64))) (tailOf L) (L.length / 64) (by omega)
      rw [← hsplit] at this
      exact this
    have hLb : L ++ b = L.take (64 * (L.length / 64)) ++ (tailOf L ++ b) := by rw [← List.append_assoc, ← hsplit]
    cases hd2 : decide (L.length % 64 + b.length < 64) with
    | true =>
      have h5 : L.length % 64 + b.length < 64 := of_decide_eq_true hd2
      refine ⟨hsz, ?_, fun _ => ?_, ?_⟩
      · show (rest.take _ ++ (b ++ rest.drop _)).length = 64
        rw [List.length_append, List.length_append, List.length_drop, List.length_take, h2]; omega
      · show st = _
        rw [hLb, Hs_app tk first _ _ _ hXl, ← hst, show (tailOf L ++ b).length / 64 = 0 by rw [List.length_append, tailOf_len]; omega]
        rfl
      · show (rest.take _ ++ (b ++ rest.drop _)).take _ = _
        rw [hLb, tailOf_app _ _ _ hXl]
        have e1 : tailOf (tailOf L ++ b) = tailOf L ++ b := by
          rw [tailOf, show (tailOf L ++ b).length / 64 = 0 by rw [List.length_append, tailOf_len]; omega]; rfl
        have e2 : (L.take (64 * (L.length / 64)) ++ (tailOf L ++ b)).length % 64 = (tailOf L ++ b).length := by
          rw [List.length_append, List.length_append, tailOf_len, hXl]; omega
        rw [e1, h4, e2, ← List.append_assoc]
        exact List.take_left' rfl
    | false =>
      have h5 : ¬ L.length % 64 + b.length < 64 := of_decide_eq_false hd2
      have hrl : (rest.take (L.length % 64) ++ b.take (64 - L.length % 64)).length = 64 := by
        rw [List.length_append, List.length_take, List.length_take, h2]; omega
      have hb1 : L ++ b = (L.take (64 * (L.length / 64)) ++ (rest.take (L.length % 64) ++ b.take (64 - L.length % 64))) ++ b.drop (64 - L.length % 64) := by
        rw [h4, List.append_assoc, List.append_assoc, List.take_append_drop]; exact hLb
      have hXl2 : (L.take (64 * (L.length / 64)) ++ (rest.take (L.length % 64) ++ b.take (64 - L.length % 64))).length = 64 * (L.length / 64 + 1) := by
        rw [List.length_append, hrl, hXl]; omega
      have hst2 : absK tk first (L.take (64 * (L.length / 64)) ++ (rest.take (L.length % 64) ++ b.take (64 - L.length % 64))) (L.length / 64 + 1) = tk st (rest.take (L.length % 64) ++ b.take (64 - L.length % 64)) := by
        rw [absK_app tk first _ _ _ hXl 1, ← hst]
        show tk st _ = _
        rw [Nat.mul_zero, List.drop_zero, List.take_of_length_le (by omega)]
      refine ⟨hsz, ?_, fun _ => ?_, ?_⟩
      · show (tailOf _ ++ List.drop _ (_ ++ _)).length = 64
        rw [List.length_append, List.length_drop, tailOf_len, hrl]; omega
      · show absK tk _ _ _ = _
        rw [hb1, Hs_app tk first _ _ _ hXl2, hst2]
      · show (tailOf _ ++ List.drop _ (_ ++ _)).take _ = _
        rw [hb1, tailOf_app _ _ _ hXl2]
        rw [show (L.take (64 * (L.length / 64)) ++ (rest.take (L.length % 64) ++ b.take (64 - L.length % 64)) ++ b.drop (64 - L.length % 64)).length % 64 = (tailOf (b.drop (64 - L.length % 64))).length by rw [tailOf_len, List.length_append, hXl2]; omega, List.take_left' rfl]
end
end Cr
/- Values forced one by one, for computation. No program here. -/
namespace Cr
def fcn {α : Type} (n : Nat) (k : Nat → α) : α := Nat.rec (k 0) (fun m _ => k (m + 1)) n
theorem fcn_eq {α : Type} (n : Nat) (k : Nat → α) : fcn n k = k n := by cases n <;> rfl
noncomputable def fi {α : Type} (x : Int) (k : Int → α) : α := Int.rec (fun n => fcn n fun m => k (Int.ofNat m)) (fun n => fcn n fun m => k (Int.negSucc m)) x
theorem fi_eq {α : Type} (x : Int) (k : Int → α) : fi x k = k x := by
  cases x with
  | ofNat n => exact fcn_eq n fun m => k (Int.ofNat m)
  | negSucc n => exact fcn_eq n fun m => k (Int.negSucc m)
noncomputable def fl {α : Type} (l : List Int) (k : List Int → α) : α := List.rec (motive := fun _ => (List Int → α) → α) (fun k => k []) (fun x _ ih k => fi x fun x' => ih fun l' => k (x' :: l')) l k
theorem fl_eq {α : Type} (l : List Int) (k : List Int → α) : fl l k = k l := by
  induction l generalizing k with
  | nil => rfl
  | cons x l ih => show fi x (fun x' => fl l fun l' => k (x' :: l')) = _; rw [fi_eq, ih]
/-- So many steps. -/
def it {α : Type} (f : Nat → α → α) (s : α) : Nat → α
  | 0 => s
  | k + 1 => f k (it f s k)
noncomputable def itC (f : Nat → List Int → List Int) (s : List Int) : Nat → List Int
  | 0 => s
  | k + 1 => fl (itC f s k) fun X => fl (f k X) fun Y => Y
theorem itC_eq (f : Nat → List Int → List Int) (s : List Int) : ∀ k, itC f s k = it f s k
  | 0 => rfl
  | k + 1 => by show fl _ _ = f k _; rw [fl_eq, fl_eq, itC_eq f s k]
theorem it_congr {α : Type} {f g : Nat → α → α} (s : α) : ∀ k, (∀ j, j < k → ∀ x, f j x = g j x) → it f s k = it g s k
  | 0, _ => rfl
  | k + 1, h => by show f k _ = g k _; rw [it_congr s k (fun j hj => h j (by omega)), h k (by omega)]
end Cr
/- sha by computation; digests (plain). -/
namespace Go.Proofs.YtbfimfdhmggieaaDoor.sha
set_option maxRecDepth 100000
open Go Go.Eng Go.RowKit Cr Go.Proofs.YtbfimfdhmggieaaDoor
theorem rot_eq : rot = rotF := by funext x k; exact opq_eq _
def sg0C (a : Int) : Int := bitOp .xor .u32 (bitOp .xor .u32 (rotF a (-7)) (rotF a (-18))) (a.fdiv (2 ^ min (3 : Nat) IntKind.u32.bits))
def sg1C (a : Int) : Int := bitOp .xor .u32 (bitOp .xor .u32 (rotF a (-17)) (rotF a (-19))) (a.fdiv (2 ^ min (10 : Nat) IntKind.u32.bits))
def wCC (w : List Int) (i : Nat) : List Int := w.set (i + 16) (IntKind.u32.wrap (IntKind.u32.wrap (IntKind.u32.wrap (w.getD i 0 + sg0C (w.getD (i + 1) 0)) + w.getD (i + 9) 0) + sg1C (w.getD (i + 14) 0)))
def rTC (w : List Int) (e f g h : Int) (i : Nat) : Int := IntKind.u32.wrap (IntKind.u32.wrap (h + bitOp .xor .u32 (bitOp .xor .u32 (rotF e (-6)) (rotF e (-11))) (rotF e (-25))) + IntKind.u32.wrap (IntKind.u32.wrap (bitOp .xor .u32 (bitOp .and .u32 e f) (bitOp .and .u32 (bitOp .xor .u32 (if IntKind.u32.signed = true then (-1 : Int) else IntKind.u32.max) e) g) + rootsL.getD i 0) + w.getD i 0))
def rUC (a b c : Int) : Int := IntKind.u32.wrap (bitOp .xor .u32 (bitOp .xor .u32 (rotF a (-2)) (rotF a (-13))) (rotF a (-22)) + bitOp .xor .u32 (bitOp .xor .u32 (bitOp .and .u32 a b) (bitOp .and .u32 a c)) (bitOp .and .u32 b c))
noncomputable def vCC (w : List Int) : List Int → Nat → List Int
  | [a, b, c, d, e, f, g, h], i => fi (rTC w e f g h i) fun t => [IntKind.u32.wrap (t + rUC a b c), a, b, c, IntKind.u32.wrap (d + t), e, f, g]
  | v, _ => v
theorem wCC_eq (w : List Int) (i : Nat) : wCC w i = wC w i := by simp only [wC, wCC, sg0, sg1, sg0C, sg1C, rot_eq]
theorem rTC_eq (w : List Int) (e f g h : Int) (i : Nat) : rTC w e f g h i = rT w e f g h i := by simp only [rT, rTC, rot_eq]
theorem rUC_eq (a b c : Int) : rUC a b c = rU a b c := by simp only [rU, rUC, rot_eq]
theorem vCC_eq (w v : List Int) (i : Nat) : vCC w v i = vC w v i := by
  unfold vCC vC
  split
  · rw [fi_eq, rTC_eq, rUC_eq]
  · rename_i h
    first
      | rfl
      | (split
         · exact (h _ _ _ _ _ _ _ _ rfl).elim
         · rfl)
theorem wBk_it (p : List Int) (i : Nat) (w : List Int) : ∀ j, wBk p i w j = it (fun j w => wB p i j w) w j
  | 0 => rfl
  | j + 1 => by show wB p i j _ = wB p i j _; rw [wBk_it p i w j]
theorem wAk_it (p : List Int) : ∀ i, wAk p i = it (fun i w => wBk p i w 4) (List.replicate 64 0) i
  | 0 => rfl
  | j + 1 => by show wBk p j _ 4 = wBk p j _ 4; rw [wAk_it p j]
theorem wCk_it (w : List Int) : ∀ i, wCk w i = it (fun i w => wC w i) w i
  | 0 => rfl
  | j + 1 => by show wC _ j = wC _ j; rw [wCk_it w j]
theorem vCk_it (w v : List Int) : ∀ i, vCk w v i = it (fun i v => vC w v i) v i
  | 0 => rfl
  | j + 1 => by show vC w _ j = vC w _ j; rw [vCk_it w v j]
theorem fCk_it (v s : List Int) : ∀ i, fCk v s i = it (fun i s => s.set i (IntKind.u32.wrap (s.getD i 0 + v.getD i 0))) s i
  | 0 => rfl
  | j + 1 => by show List.set _ _ _ = List.set _ _ _; rw [fCk_it v s j]
noncomputable def takeC (st p : List Int) : List Int :=
  fl st fun st => fl p fun p => fl (itC (fun i w => itC (fun j w => wB p i j w) w 4) (List.replicate 64 0) 16) fun w0 => fl (itC (fun i w => wCC w i) w0 48) fun w => fl (itC (fun i v => vCC w v i) st 64) fun v => itC (fun i s => s.set i (IntKind.u32.wrap (s.getD i 0 + v.getD i 0))) st 8
theorem takeC_eq (st p : List Int) : takeC st p = tko st p := by
  rw [tko, opq_eq, takeF, takeC]
  simp only [fl_eq]
  rw [itC_eq, itC_eq, itC_eq, itC_eq, wCk_it, vCk_it, fCk_it, wAk_it]
  rw [it_congr (g := fun i w => wBk p i w 4) _ 16 (fun i _ w => by rw [itC_eq, wBk_it])]
  rw [it_congr (g := fun i w => wC w i) _ 48 (fun i _ w => wCC_eq w i)]
  rw [it_congr (f := fun i v => vCC _ v i) _ 64 (fun i _ v => vCC_eq _ v i)]
/-- What stands behind so many bytes. -/
def padB (n : Nat) : List Int := 128 :: (List.replicate ((64 + 55 - n % 64) % 64) 0 ++ (List.range 8).map fun i => ((n : Int) * 8) / 2 ^ (56 - 8 * i) % 256)
/-- A state's bytes. -/
def outB (s : List Int) : List Int := (List.range 32).map fun i => IntKind.u8.wrap ((s.getD (i / 4) 0).fdiv (2 ^ (24 - 8 * (i % 4))))
noncomputable def digF (L : List Int) : List Int := outB (Hs tko firstL (L ++ padB L.length))
/-- The digest. -/
noncomputable def dig (L : List Int) : List Int := opq (digF L)
theorem outB_len (s : List Int) : (outB s).length = 32 := by simp [outB]
theorem dig_len (L : List Int) : (dig L).length = 32 := by rw [dig, opq_eq, digF, outB_len]
noncomputable def digC (L : List Int) : List Int := fl L fun L => fl (L ++ padB L.length) fun m => fl (itC (fun k st => takeC st ((m.drop (64 * k)).take 64)) firstL (m.length / 64)) fun s => fl (outB s) fun o => o
theorem absK_it (tk : List Int → List Int → List Int) (st b : List Int) : ∀ k, absK tk st b k = it (fun k st => tk st ((b.drop (64 * k)).take 64)) st k
  | 0 => rfl
  | j + 1 => by show tk _ _ = tk _ _; rw [absK_it tk st b j]
theorem digC_eq (L : List Int) : digC L = dig L := by
  rw [dig, opq_eq, digF, digC, Hs]
  simp only [fl_eq]
  rw [itC_eq, absK_it]
  rw [it_congr _ _ (fun i _ w => takeC_eq w _)]
end Go.Proofs.YtbfimfdhmggieaaDoor.sha
/- sha: Write. -/
namespace Go.Proofs.YtbfimfdhmggieaaDoor.sha
set_option maxRecDepth 100000
open Go Go.Eng Go.RowKit Cr Go.Proofs.YtbfimfdhmggieaaDoor
theorem ent_write : enters Tryd.prog 99 Tryd.f99 := enters_mk (by kernel_rfl) (by kernel_rfl) (by kernel_rfl)
/-- What Write makes of a state. -/
noncomputable def wro (st rest : List Int) (sz : Int) (b : List Int) : Car hashK := opq (wrF tko firstL st rest sz b)
theorem took_wro {L st rest : List Int} {sz : Int} (h : Took tko firstL L st rest sz) (b : List Int) : Took tko firstL (L ++ b) (wro st rest sz b).1 (wro st rest sz b).2.1 (wro st rest sz b).2.2 := by
  rw [wro, opq_eq]; exact took_wr tko firstL h b
theorem wrEnd_step (st rest b : List Int) (h : 64 ≤ b.length) : wrEnd tko (tko st (b.take 64)) rest (b.drop 64) = wrEnd tko st rest b := by
  have h1 : b.take 64 ++ b.drop 64 = b := List.take_append_drop _ _
  have h2 : (b.take 64).length = 64 * 1 := by rw [List.length_take]; omega
  have h3 : tailOf (b.drop 64) = tailOf b := by
    have := tailOf_app (b.take 64) (b.drop 64) 1 h2
    rw [h1] at this; exact this.symm
  have h4 : absK tko (tko st (b.take 64)) (b.drop 64) ((b.drop 64).length / 64) = absK tko st b (b.length / 64) := by
    have := absK_app tko st (b.take 64) (b.drop 64) 1 h2 ((b.drop 64).length / 64)
    rw [h1] at this
    have e : absK tko st (b.take 64) 1 = tko st (b.take 64) := by
      show tko st _ = _
      rw [Nat.mul_zero, List.drop_zero, List.take_take]; rfl
    rw [e] at this
    rw [← this]
    congr 1
    rw [List.length_drop]; omega
  unfold wrEnd
  rw [h3, h4]
abbrev Wg : Type := (List Int × List Int × Int) × List Int
noncomputable def wrS (g : Wg) : St := mkSt Tryd.f99.ntmps 201 [(0, .is (.one (.ptr 0 0))), (1, .is (.one (.ro bK g.2)))] [(0, [.ints .u32 8 g.1.1, .ints .u8 64 g.1.2.1, .v (.int .i64 g.1.2.2)])]
abbrev preWr : Car hashK × HL [.sl bK] → Prop := fun ((_, _, sz), b, _) => (0 : Int) ≤ sz ∧ sz ≤ (1152921504606846976 : Int) ∧ List.length b ≤ 1152921504606846976
noncomputable def wrJ (st rest : List Int) (sz : Int) (b : List Int) (g : Wg) : Prop := ((wrEnd tko g.1.1 g.1.2.1 g.2).1, (wrEnd tko g.1.1 g.1.2.1 g.2).2, g.1.2.2) = wro st rest sz b ∧ g.1.2.1.length = 64
theorem wro_eq0 {st rest : List Int} {sz : Int} {b : List Int} (h : (sz % 64).toNat = 0) : wro st rest sz b = ((wrEnd tko (bif decide (sz = 0) then firstL else st) rest b).1, (wrEnd tko (bif decide (sz = 0) then firstL else st) rest b).2, sz + b.length) := by
  rw [wro, opq_eq, wrF, decide_eq_true h]
theorem wro_eq1 {st rest : List Int} {sz : Int} {b : List Int} {a : Nat} (ha : a = (sz % 64).toNat) (h : a ≠ 0) (h2 : a + b.length < 64) : wro st rest sz b = (st, rest.take a ++ (b ++ rest.drop (a + b.length)), sz + b.length) := by
  subst ha
  rw [wro, opq_eq, wrF, decide_eq_false h, decide_eq_true h2]
theorem wro_eq2 {st rest : List Int} {sz : Int} {b : List Int} {a : Nat} (ha : a = (sz % 64).toNat) (h : a ≠ 0) (h2 : ¬a + b.length < 64) : wro st rest sz b =
    ((wrEnd tko (tko st (rest.take a ++ b.take (64 - a))) (rest.take a ++ b.take (64 - a)) (b.drop (64 - a))).1, (wrEnd tko (tko st (rest.take a ++ b.take (64 - a))) (rest.take a ++ b.take (64 - a)) (b.drop (64 - a))).2, sz + b.length) := by
  subst ha
  rw [wro, opq_eq, wrF, decide_eq_false h, decide_eq_false h2]
theorem fn_write : FnOkP Tryd.prog 99 hashK [.sl bK] [] shaG preWr (fun ((st, rest, sz), b, _) => (wro st rest sz b, ())) := by
  have hsp : SpecsOk Tryd.prog (sps [spTake]) := sps_cons (fnSpecPG_ok fn_take) sps_nil
  refine fn_of_trP (sp := sps [spTake]) ent_write (by decide) (by decide) (by kernel_rfl) ?_
  rintro w M0 b0 ⟨st, rest, sz⟩ ⟨b, ⟨⟩⟩
  revert st rest sz b
  intro (st : List Int) (rest : List Int) (sz : Int) (b : List Int) hw hw2 hp
  obtain ⟨hs0, hs1, hb⟩ := hp
  have hs0 : (0 : Int) ≤ sz := hs0
  have hs1 : sz ≤ (1152921504606846976 : Int) := hs1
  have hb : b.length ≤ 1152921504606846976 := hb
  have hst : st.length = 8 := hw.1.1
  have hrl : rest.length = 64 := hw.2.1.1
  show Tr _ _ _ _ _ _ _
  refine tr_cutF hsp mixed 8 (fun σ => (rdB hashK 0 σ, rdO bK 1 σ)) wrS (wrJ st rest sz b) ?_ ?_
  · refine vcx (X := (((sz == (0 : Int)) = true → (0 : Nat) < [firstL].length ∧ ((64 : Int) = (0 : Int) → False) ∧ (decide (sz.tmod (64 : Int) > (0 : Int)) = true → ((0 : Int) ≤ sz.tmod (64 : Int) ∧ sz.tmod (64 : Int) ≤ (↑(64 : Nat) : Int)) ∧ (sz.tmod (64 : Int)).toNat + ((↑(64 : Nat) : Int) - sz.tmod (64 : Int)).toNat ≤ (64 : Nat) ∧ (decide (IntKind.i64.wrap (sz.tmod (64 : Int) + (↑(b.length.min ((↑(64 : Nat) : Int) - sz.tmod (64 : Int)).toNat) : Int)) < (64 : Int)) = true → (([(1779033703 : Int), (3144134277 : Int), (1013904242 : Int), (2773480762 : Int), (1359893119 : Int), (2600822924 : Int), (528734635 : Int), (1541459225 : Int)], List.take (sz.tmod (64 : Int)).toNat rest ++ (List.take (b.length.min ((↑(64 : Nat) : Int) - sz.tmod (64 : Int)).toNat) b ++ List.drop ((sz.tmod (64 : Int)).toNat + b.length.min ((↑(64 : Nat) : Int) - sz.tmod (64 : Int)).toNat) rest), IntKind.i64.wrap (sz + (↑b.length : Int))), ()) = (wro st rest sz b, ())) ∧ (decide (IntKind.i64.wrap (sz.tmod (64 : Int) + (↑(b.length.min ((↑(64 : Nat) : Int) - sz.tmod (64 : Int)).toNat) : Int)) < (64 : Int)) = false → ((0 : Int) ≤ (↑(b.length.min ((↑(64 : Nat) : Int) - sz.tmod (64 : Int)).toNat) : Int) ∧ (↑(b.length.min ((↑(64 : Nat) : Int) - sz.tmod (64 : Int)).toNat) : Int) ≤ (↑b.length : Int)) ∧ (∀ (g : Nat) (s : Sigma Car), shaG g = some s → Decidable.rec (fun h => (fun x => if g = (1 : Nat) then some ⟨Kd.arr (64 : Nat) uK, rootsL⟩ else none) h) (fun h => (fun x => some ⟨Kd.arr (8 : Nat) uK, firstL⟩) h) (instDecidableEqNat g (0 : Nat)) = some s) ∧ True ∧ (wrS ((tko firstL (List.take (sz.tmod (64 : Int)).toNat rest ++ (List.take (b.length.min ((↑(64 : Nat) : Int) - sz.tmod (64 : Int)).toNat) b ++ List.drop ((sz.tmod (64 : Int)).toNat + b.length.min ((↑(64 : Nat) : Int) - sz.tmod (64 : Int)).toNat) rest)), List.take (sz.tmod (64 : Int)).toNat rest ++ (List.take (b.length.min ((↑(64 : Nat) : Int) - sz.tmod (64 : Int)).toNat) b ++ List.drop ((sz.tmod (64 : Int)).toNat + b.length.min ((↑(64 : Nat) : Int) - sz.tmod (64 : Int)).toNat) rest), IntKind.i64.wrap (sz + (↑b.length : Int))), List.take ((↑b.length : Int) - (↑(b.length.min ((↑(64 : Nat) : Int) - sz.tmod (64 : Int)).toNat) : Int)).toNat (List.drop (↑(b.length.min ((↑(64 : Nat) : Int) - sz.tmod (64 : Int)).toNat) : Int).toNat b))).triv (wrJ st rest sz b ((tko firstL (List.take (sz.tmod (64 : Int)).toNat rest ++ (List.take (b.length.min ((↑(64 : Nat) : Int) - sz.tmod (64 : Int)).toNat) b ++ List.drop ((sz.tmod (64 : Int)).toNat + b.length.min ((↑(64 : Nat) : Int) - sz.tmod (64 : Int)).toNat) rest)), List.take (sz.tmod (64 : Int)).toNat rest ++ (List.take (b.length.min ((↑(64 : Nat) : Int) - sz.tmod (64 : Int)).toNat) b ++ List.drop ((sz.tmod (64 : Int)).toNat + b.length.min ((↑(64 : Nat) : Int) - sz.tmod (64 : Int)).toNat) rest), IntKind.i64.wrap (sz + (↑b.length : Int))), List.take ((↑b.length : Int) - (↑(b.length.min ((↑(64 : Nat) : Int) - sz.tmod (64 : Int)).toNat) : Int)).toNat (List.drop (↑(b.length.min ((↑(64 : Nat) : Int) - sz.tmod (64 : Int)).toNat) : Int).toNat b))))) ∧ (decide (sz.tmod (64 : Int) > (0 : Int)) = false → (wrS (([(1779033703 : Int), (3144134277 : Int), (1013904242 : Int), (2773480762 : Int), (1359893119 : Int), (2600822924 : Int), (528734635 : Int), (1541459225 : Int)], rest, IntKind.i64.wrap (sz + (↑b.length : Int))), b)).triv (wrJ st rest sz b (([(1779033703 : Int), (3144134277 : Int), (1013904242 : Int), (2773480762 : Int), (1359893119 : Int), (2600822924 : Int), (528734635 : Int), (1541459225 : Int)], rest, IntKind.i64.wrap (sz + (↑b.length : Int))), b)))) ∧ ((sz == (0 : Int)) = false → ((64 : Int) = (0 : Int) → False) ∧ (decide (sz.tmod (64 : Int) > (0 : Int)) = true → ((0 : Int) ≤ sz.tmod (64 : Int) ∧ sz.tmod (64 : Int) ≤ (↑(64 : Nat) : Int)) ∧ (sz.tmod (64 : Int)).toNat + ((↑(64 : Nat) : Int) - sz.tmod (64 : Int)).toNat ≤ (64 : Nat) ∧ (decide (IntKind.i64.wrap (sz.tmod (64 : Int) + (↑(b.length.min ((↑(64 : Nat) : Int) - sz.tmod (64 : Int)).toNat) : Int)) < (64 : Int)) = true → ((st, List.take (sz.tmod (64 : Int)).toNat rest ++ (List.take (b.length.min ((↑(64 : Nat) : Int) - sz.tmod (64 : Int)).toNat) b ++ List.drop ((sz.tmod (64 : Int)).toNat + b.length.min ((↑(64 : Nat) : Int) - sz.tmod (64 : Int)).toNat) rest), IntKind.i64.wrap (sz + (↑b.length : Int))), ()) = (wro st rest sz b, ())) ∧ (decide (IntKind.i64.wrap (sz.tmod (64 : Int) + (↑(b.length.min ((↑(64 : Nat) : Int) - sz.tmod (64 : Int)).toNat) : Int)) < (64 : Int)) = false → ((0 : Int) ≤ (↑(b.length.min ((↑(64 : Nat) : Int) - sz.tmod (64 : Int)).toNat) : Int) ∧ (↑(b.length.min ((↑(64 : Nat) : Int) - sz.tmod (64 : Int)).toNat) : Int) ≤ (↑b.length : Int)) ∧ (∀ (g : Nat) (s : Sigma Car), shaG g = some s → Decidable.rec (fun h => (fun x => if g = (1 : Nat) then some ⟨Kd.arr (64 : Nat) uK, rootsL⟩ else none) h) (fun h => (fun x => some ⟨Kd.arr (8 : Nat) uK, firstL⟩) h) (instDecidableEqNat g (0 : Nat)) = some s) ∧ True ∧ (wrS ((tko st (List.take (sz.tmod (64 : Int)).toNat rest ++ (List.take (b.length.min ((↑(64 : Nat) : Int) - sz.tmod (64 : Int)).toNat) b ++ List.drop ((sz.tmod (64 : Int)).toNat + b.length.min ((↑(64 : Nat) : Int) - sz.tmod (64 : Int)).toNat) rest)), List.take (sz.tmod (64 : Int)).toNat rest ++ (List.take (b.length.min ((↑(64 : Nat) : Int) - sz.tmod (64 : Int)).toNat) b ++ List.drop ((sz.tmod (64 : Int)).toNat + b.length.min ((↑(64 : Nat) : Int) - sz.tmod (64 : Int)).toNat) rest), IntKind.i64.wrap (sz + (↑b.length : Int))), List.take ((↑b.length : Int) - (↑(b.length.min ((↑(64 : Nat) : Int) - sz.tmod (64 : Int)).toNat) : Int)).toNat (List.drop (↑(b.length.min ((↑(64 : Nat) : Int) - sz.tmod (64 : Int)).toNat) : Int).toNat b))).triv (wrJ st rest sz b ((tko st (List.take (sz.tmod (64 : Int)).toNat rest ++ (List.take (b.length.min ((↑(64 : Nat) : Int) - sz.tmod (64 : Int)).toNat) b ++ List.drop ((sz.tmod (64 : Int)).toNat + b.length.min ((↑(64 : Nat) : Int) - sz.tmod (64 : Int)).toNat) rest)), List.take (sz.tmod (64 : Int)).toNat rest ++ (List.take (b.length.min ((↑(64 : Nat) : Int) - sz.tmod (64 : Int)).toNat) b ++ List.drop ((sz.tmod (64 : Int)).toNat + b.length.min ((↑(64 : Nat) : Int) - sz.tmod (64 : Int)).toNat) rest), IntKind.i64.wrap (sz + (↑b.length : Int))), List.take ((↑b.length : Int) - (↑(b.length.min ((↑(64 : Nat) : Int) - sz.tmod (64 : Int)).toNat) : Int)).toNat (List.drop (↑(b.length.min ((↑(64 : Nat) : Int) - sz.tmod (64 : Int)).toNat) : Int).toNat b))))) ∧ (decide (sz.tmod (64 : Int) > (0 : Int)) = false → (wrS ((st, rest, IntKind.i64.wrap (sz + (↑b.length : Int))), b)).triv (wrJ st rest sz b ((st, rest, IntKind.i64.wrap (sz + (↑b.length : Int))), b)))))) (by kernel_rfl) ?_
    obtain ⟨a, ha, ha64, har⟩ : ∃ a : Nat, sz.tmod 64 = (a : Int) ∧ a < 64 ∧ a = (sz % 64).toNat := ⟨(sz % 64).toNat, by rw [Int.tmod_eq_emod_of_nonneg hs0]; omega, by omega, rfl⟩
    have e1 : ((↑(64 : Nat) : Int) - (a : Int)).toNat = 64 - a := by omega
    have e3 : IntKind.i64.wrap (sz + (↑b.length : Int)) = sz + b.length := wrap_i64' (by omega) (by omega)
    rw [ha, e1, e3]
    obtain ⟨n, hn⟩ : ∃ n, n = b.length.min (64 - a) := ⟨_, rfl⟩
    have hn' : n = min b.length (64 - a) := hn
    have e2 : IntKind.i64.wrap ((a : Int) + (n : Int)) = ((a + n : Nat) : Int) := by rw [wrap_i64' (by omega) (by omega)]; omega
    rw [← hn, e2]
    simp only [Int.toNat_natCast]
    refine ⟨fun h0 => ⟨by decide, by decide, fun hpos => ?_, fun hz => triv_intro ?_⟩, fun h0 => ⟨by decide, fun hpos => ⟨⟨by omega, by omega⟩, by omega, fun hlt => ?_, fun hge => ⟨⟨by omega, by omega⟩, fun _ _ h => h, trivial, triv_intro ?_⟩⟩, fun hz => triv_intro ?_⟩⟩
    · exfalso
      have h0 : sz = 0 := by simpa using h0
      have := of_decide_eq_true hpos
      subst h0; omega
    · have h0 : sz = 0 := by simpa using h0
      refine ⟨?_, hrl⟩
      rw [wro_eq0 (by omega), decide_eq_true h0]; rfl
    · have hlt := of_decide_eq_true hlt
      have hpos := of_decide_eq_true hpos
      have hnb : n = b.length := by omega
      rw [wro_eq1 har (by omega) (by omega), hnb, List.take_of_length_le (Nat.le_refl _)]
    · have hge := of_decide_eq_false hge
      have hpos := of_decide_eq_true hpos
      have hnb : n = 64 - a := by omega
      have hr1 : rest.take a ++ (b.take n ++ rest.drop (a + n)) = rest.take a ++ b.take (64 - a) := by
        rw [hnb, List.drop_eq_nil_of_le (by omega), List.append_nil]
      have hb1 : List.take ((↑b.length : Int) - (n : Int)).toNat (List.drop n b) = b.drop (64 - a) := by
        rw [List.take_of_length_le (by rw [List.length_drop]; omega), hnb]
      rw [hr1, hb1]
      refine ⟨?_, ?_⟩
      · rw [wro_eq2 har (by omega) (by omega)]
      · show (rest.take a ++ b.take (64 - a)).length = 64
        rw [List.length_append, List.length_take, List.length_take]; omega
    · have hz := of_decide_eq_false hz
      have h0 : ¬ sz = 0 := by simpa using h0
      refine ⟨?_, hrl⟩
      rw [wro_eq0 (by omega), decide_eq_false h0]; rfl
  rintro ⟨⟨st1, rest1, sz1⟩, b1⟩ hJ
  revert st1 rest1 sz1 b1
  intro (b1 : List Int) (st1 : List Int) (rest1 : List Int) (sz1 : Int) (hJ : wrJ st rest sz b ((st1, rest1, sz1), b1))
  refine tr_while hsp mixed noSw (fun σ => (rdB hashK 0 σ, rdO bK 1 σ)) wrS (wrJ st rest sz b) (fun g => g.2.length)
    (fun σ => (rdB hashK 0 σ, rdO bK 1 σ)) wrS (fun g => wrJ st rest sz b g ∧ g.2.length < 64) ((st1, rest1, sz1), b1) (c := nthC (codeOf Tryd.f99) 8) (by kernel_rfl) (by kernel_rfl) (le_of_proj (by kernel_rfl) (by kernel_rfl) ?_) ?_ ?_
  · exact hJ
  · rintro ⟨⟨st1, rest1, sz1⟩, b1⟩ hj
    revert st1 rest1 sz1 b1
    intro (b1 : List Int) (st1 : List Int) (rest1 : List Int) (sz1 : Int) (hj : wrJ st rest sz b ((st1, rest1, sz1), b1))
    refine vcx (X := ((decide ((↑b1.length : Int) ≥ (64 : Int)) = true → (64 : Nat) ≤ b1.length ∧ (0 : Nat) + Tryd.prog.cellsOf 130 / width bK ≤ b1.length ∧ (∀ (g : Nat) (s : Sigma Car), shaG g = some s → Decidable.rec (fun h => (fun x => if g = (1 : Nat) then some ⟨Kd.arr (64 : Nat) uK, rootsL⟩ else none) h) (fun h => (fun x => some ⟨Kd.arr (8 : Nat) uK, firstL⟩) h) (instDecidableEqNat g (0 : Nat)) = some s) ∧ True ∧ ((0 : Int) ≤ (64 : Int) ∧ (64 : Int) ≤ (↑b1.length : Int)) ∧ (wrS ((tko st1 (List.take (Tryd.prog.cellsOf 130 / width bK) b1), rest1, sz1), List.take ((↑b1.length : Int) - (64 : Int)).toNat (List.drop (64 : Nat) b1))).triv (wrJ st rest sz b ((tko st1 (List.take (Tryd.prog.cellsOf 130 / width bK) b1), rest1, sz1), List.take ((↑b1.length : Int) - (64 : Int)).toNat (List.drop (64 : Nat) b1)) ∧ (List.take ((↑b1.length : Int) - (64 : Int)).toNat (List.drop (64 : Nat) b1)).length < b1.length)) ∧ (decide ((↑b1.length : Int) ≥ (64 : Int)) = false → (wrS ((st1, rest1, sz1), b1)).triv (wrJ st rest sz b ((st1, rest1, sz1), b1) ∧ b1.length < (64 : Nat))))) (by kernel_rfl) ?_
    have e64 : Tryd.prog.cellsOf 130 / width bK = 64 := by kernel_rfl
    obtain ⟨hj1, hj2⟩ := hj
    refine ⟨fun h => ?_, fun h => triv_intro ⟨⟨hj1, hj2⟩, by have := of_decide_eq_false h; omega⟩⟩
    have h64 : 64 ≤ b1.length := by have := of_decide_eq_true h; omega
    have hd : List.take ((↑b1.length : Int) - (64 : Int)).toNat (List.drop 64 b1) = b1.drop 64 := List.take_of_length_le (by rw [List.length_drop]; omega)
    show 64 ≤ b1.length ∧ 0 + Tryd.prog.cellsOf 130 / width bK ≤ b1.length ∧ _
    rw [e64, hd]
    refine ⟨h64, by omega, fun _ _ h => h, trivial, ⟨by omega, by omega⟩, triv_intro ⟨⟨?_, hj2⟩, ?_⟩⟩
    · show ((wrEnd tko (tko st1 (List.take (Tryd.prog.cellsOf 130 / width bK) b1)) rest1 (b1.drop 64)).1, (wrEnd tko (tko st1 (List.take (Tryd.prog.cellsOf 130 / width bK) b1)) rest1 (b1.drop 64)).2, sz1) = _
      rw [e64, wrEnd_step _ _ _ h64]; exact hj1
    · rw [List.length_drop]; omega
  rintro ⟨⟨st2, rest2, sz2⟩, b2⟩ hj
  revert st2 rest2 sz2 b2
  intro (b2 : List Int) (st2 : List Int) (rest2 : List Int) (sz2 : Int) (hj : wrJ st rest sz b ((st2, rest2, sz2), b2) ∧ b2.length < 64)
  refine tr_vc hsp mixed _ _ ?_
  refine vcx (X := ((0 : Nat) + (64 : Nat) ≤ (64 : Nat) ∧ ((st2, List.take (0 : Nat) rest2 ++ (List.take (b2.length.min (64 : Nat)) b2 ++ List.drop ((0 : Nat) + b2.length.min (64 : Nat)) rest2), sz2), ()) = (wro st rest sz b, ()))) (by kernel_rfl) ?_
  obtain ⟨⟨hj1, hj2⟩, hlt⟩ := hj
  have hlt : b2.length < 64 := hlt
  refine ⟨by decide, ?_⟩
  have e1 : b2.length.min 64 = b2.length := Nat.min_eq_left (by omega)
  have e2 : tailOf b2 = b2 := by rw [tailOf, show b2.length / 64 = 0 by omega]; rfl
  rw [← hj1, e1]
  show ((st2, List.take 0 rest2 ++ (List.take b2.length b2 ++ List.drop (0 + b2.length) rest2), sz2), ()) = (((wrEnd tko st2 rest2 b2).1, (wrEnd tko st2 rest2 b2).2, sz2), ())
  unfold wrEnd
  rw [e2, List.take_of_length_le (Nat.le_refl _), show b2.length / 64 = 0 by omega, Nat.zero_add]
  rfl
noncomputable def spWrite : Nat × Eng.Spec := (99, fnSpecPG shaG hashK [.sl bK] [] preWr (fun ((st, rest, sz), b, _) => (wro st rest sz b, ())))
end Go.Proofs.YtbfimfdhmggieaaDoor.sha
/- sha: Sum, Of. -/
namespace Go.Proofs.YtbfimfdhmggieaaDoor.sha
set_option maxRecDepth 100000
open Go Go.Eng Go.RowKit Cr Go.Proofs.YtbfimfdhmggieaaDoor
theorem set_fill (f : Nat → Int) (p : List Int) (k n : Nat) : (p ++ ((List.range k).map f ++ List.replicate (n + 1) 0)).set (p.length + k) (f k) = p ++ ((List.range (k + 1)).map f ++ List.replicate n 0) := by
  rw [List.set_append_right _ _ (by omega), show p.length + k - p.length = k by omega, List.set_append_right _ _ (by simp)]
  rw [show k - ((List.range k).map f).length = 0 by simp, List.replicate_succ, List.set_cons_zero, List.range_succ, List.map_append, List.append_assoc]
  rfl
theorem wrap_u8 (x : Int) : IntKind.u8.wrap x = x % 256 := by
  simp only [IntKind.wrap, IntKind.signed, IntKind.bits]
  simp
theorem ent_sum : enters Tryd.prog 100 Tryd.f100 := enters_mk (by kernel_rfl) (by kernel_rfl) (by kernel_rfl)
def nn (sz : Int) : Nat := (64 + 55 - sz.toNat % 64) % 64
def szB (sz : Int) (i : Nat) : Int := sz * 8 / 2 ^ (56 - 8 * i) % 256
def tlk (sz : Int) (k : Nat) : List Int := (128 :: List.replicate (nn sz) 0) ++ ((List.range k).map (szB sz) ++ List.replicate (71 - nn sz - k) 0)
theorem tlk_pad (sz : Int) (h : 0 ≤ sz) : (tlk sz 8).take (1 + nn sz + 8) = padB sz.toNat := by
  have e : tlk sz 8 = ((128 :: List.replicate (nn sz) 0) ++ (List.range 8).map (szB sz)) ++ List.replicate (71 - nn sz - 8) 0 := by rw [tlk, List.append_assoc]
  rw [e, List.take_left' (by simp; omega)]
  have e2 : ((sz.toNat : Nat) : Int) = sz := by omega
  unfold padB szB nn
  rw [e2]
  rfl
noncomputable def smA (st rest : List Int) (sz : Int) (n : Int) (g : Int × List Int) : St := mkSt Tryd.f100.ntmps 129 [(0, .is (.one (.ptr 0 0))), (2, .is (.one (.ptr 1 0))), (3, .is (.one (.ptr 9 0))), (4, .is (.one (.ptr 33 0))), (5, sI .i64 n), (20, sI .i64 g.1)] [(33, [.ints .u8 72 g.2]), (9, [.ints .u8 32 (List.replicate 32 0)]), (1, [.ints .u8 32 (List.replicate 32 0)]), (0, [.ints .u32 8 st, .ints .u8 64 rest, .v (.int .i64 sz)])]
noncomputable def smB (st rest : List Int) (sz : Int) (y : Car hashK) (g : Int × List Int) : St := mkSt Tryd.f100.ntmps 217 [(2, .is (.one (.ptr 1 0))), (3, .is (.one (.ptr 9 0))), (7, .is (.one (.ptr 153 0))), (48, sI .i64 g.1)] [(153, [.ints .u32 8 y.1, .ints .u8 64 y.2.1, .v (.int .i64 y.2.2)]), (9, [.ints .u8 32 g.2]), (1, [.ints .u8 32 (List.replicate 32 0)]), (0, [.ints .u32 8 st, .ints .u8 64 rest, .v (.int .i64 sz)])]
def outE (s : List Int) (i : Nat) : Int := IntKind.u8.wrap ((s.getD (i / 4) 0).fdiv (2 ^ (24 - 8 * (i % 4))))
def oK (s : List Int) (k : Nat) : List Int := [] ++ ((List.range k).map (outE s) ++ List.replicate (32 - k) 0)
noncomputable def sumo (st rest : List Int) (sz : Int) : List Int := opq (outB (wro st rest sz (padB sz.toNat)).1)
theorem took_sum {L st rest : List Int} {sz : Int} (h : Took tko firstL L st rest sz) : sumo st rest sz = dig L := by
  have e : sz.toNat = L.length := by have := h.1; omega
  have k := took_wro h (padB L.length)
  have hne : L ++ padB L.length ≠ [] := by simp [padB]
  rw [sumo, opq_eq, dig, opq_eq, digF, e, k.2.2.1 hne]
theorem fn_sum : FnOkP Tryd.prog 100 hashK [] [.val (.arr 32 bK)] shaG (fun ((_, _, sz), _) => (0 : Int) ≤ sz ∧ sz ≤ (1152921504606846976 : Int)) (fun ((st, rest, sz), _) => ((st, rest, sz), (sumo st rest sz, ()))) := by
  have hsp : SpecsOk Tryd.prog (sps [spWrite]) := sps_cons (fnSpecPG_ok fn_write) sps_nil
  refine fn_of_trP (sp := sps [spWrite]) ent_sum (by decide) (by decide) (by kernel_rfl) ?_
  rintro w M0 b0 ⟨st, rest, sz⟩ ⟨⟩
  revert st rest sz
  intro (st : List Int) (rest : List Int) (sz : Int) hw hw2 hp
  have hs0 : (0 : Int) ≤ sz := hp.1
  have hs1 : sz ≤ (1152921504606846976 : Int) := hp.2
  have hnn : nn sz < 64 := Nat.mod_lt _ (by decide)
  have hn0 : (119 - sz.tmod 64).tmod 64 = (nn sz : Int) := by
    rw [Int.tmod_eq_emod_of_nonneg hs0, Int.tmod_eq_emod_of_nonneg (by omega)]
    show _ = (((64 + 55 - sz.toNat % 64) % 64 : Nat) : Int)
    omega
  have hw64 : IntKind.u64.wrap sz = sz := by
    simp only [IntKind.wrap, IntKind.signed, IntKind.bits]
    simp; omega
  have hw8 : IntKind.u64.wrap (sz * 8) = sz * 8 := by
    simp only [IntKind.wrap, IntKind.signed, IntKind.bits]
    simp; omega
  show Tr _ _ _ _ _ _ _
  refine tr_cutF hsp mixed 8 (fun σ => (rdS (.int .i64) 5 σ, rdR bK 33 σ)) (fun g => smA st rest sz g.1 (0, g.2)) (fun g => g.1 = (nn sz : Int) ∧ g.2 = tlk sz 0) ?_ ?_
  · refine vcx (X := ((0 : Nat) < (72 : Nat) ∧ ((64 : Int) = (0 : Int) → False) ∧ ((64 : Int) = (0 : Int) → False) ∧ (smA st rest sz ((IntKind.i64.wrap ((119 : Int) - sz.tmod (64 : Int))).tmod (64 : Int), [(128 : Int), (0 : Int), (0 : Int), (0 : Int), (0 : Int), (0 : Int), (0 : Int), (0 : Int), (0 : Int), (0 : Int), (0 : Int), (0 : Int), (0 : Int), (0 : Int), (0 : Int), (0 : Int), (0 : Int), (0 : Int), (0 : Int), (0 : Int), (0 : Int), (0 : Int), (0 : Int), (0 : Int), (0 : Int), (0 : Int), (0 : Int), (0 : Int), (0 : Int), (0 : Int), (0 : Int), (0 : Int), (0 : Int), (0 : Int), (0 : Int), (0 : Int), (0 : Int), (0 : Int), (0 : Int), (0 : Int), (0 : Int), (0 : Int), (0 : Int), (0 : Int), (0 : Int), (0 : Int), (0 : Int), (0 : Int), (0 : Int), (0 : Int), (0 : Int), (0 : Int), (0 : Int), (0 : Int), (0 : Int), (0 : Int), (0 : Int), (0 : Int), (0 : Int), (0 : Int), (0 : Int), (0 : Int), (0 : Int), (0 : Int), (0 : Int), (0 : Int), (0 : Int), (0 : Int), (0 : Int), (0 : Int), (0 : Int), (0 : Int)]).fst ((0 : Int), ((IntKind.i64.wrap ((119 : Int) - sz.tmod (64 : Int))).tmod (64 : Int), [(128 : Int), (0 : Int), (0 : Int), (0 : Int), (0 : Int), (0 : Int), (0 : Int), (0 : Int), (0 : Int), (0 : Int), (0 : Int), (0 : Int), (0 : Int), (0 : Int), (0 : Int), (0 : Int), (0 : Int), (0 : Int), (0 : Int), (0 : Int), (0 : Int), (0 : Int), (0 : Int), (0 : Int), (0 : Int), (0 : Int), (0 : Int), (0 : Int), (0 : Int), (0 : Int), (0 : Int), (0 : Int), (0 : Int), (0 : Int), (0 : Int), (0 : Int), (0 : Int), (0 : Int), (0 : Int), (0 : Int), (0 : Int), (0 : Int), (0 : Int), (0 : Int), (0 : Int), (0 : Int), (0 : Int), (0 : Int), (0 : Int), (0 : Int), (0 : Int), (0 : Int), (0 : Int), (0 : Int), (0 : Int), (0 : Int), (0 : Int), (0 : Int), (0 : Int), (0 : Int), (0 : Int), (0 : Int), (0 : Int), (0 : Int), (0 : Int), (0 : Int), (0 : Int), (0 : Int), (0 : Int), (0 : Int), (0 : Int), (0 : Int)]).snd)).triv ((IntKind.i64.wrap ((119 : Int) - sz.tmod (64 : Int))).tmod (64 : Int) = (↑(nn sz) : Int) ∧ [(128 : Int), (0 : Int), (0 : Int), (0 : Int), (0 : Int), (0 : Int), (0 : Int), (0 : Int), (0 : Int), (0 : Int), (0 : Int), (0 : Int), (0 : Int), (0 : Int), (0 : Int), (0 : Int), (0 : Int), (0 : Int), (0 : Int), (0 : Int), (0 : Int), (0 : Int), (0 : Int), (0 : Int), (0 : Int), (0 : Int), (0 : Int), (0 : Int), (0 : Int), (0 : Int), (0 : Int), (0 : Int), (0 : Int), (0 : Int), (0 : Int), (0 : Int), (0 : Int), (0 : Int), (0 : Int), (0 : Int), (0 : Int), (0 : Int), (0 : Int), (0 : Int), (0 : Int), (0 : Int), (0 : Int), (0 : Int), (0 : Int), (0 : Int), (0 : Int), (0 : Int), (0 : Int), (0 : Int), (0 : Int), (0 : Int), (0 : Int), (0 : Int), (0 : Int), (0 : Int), (0 : Int), (0 : Int), (0 : Int), (0 : Int), (0 : Int), (0 : Int), (0 : Int), (0 : Int), (0 : Int), (0 : Int), (0 : Int), (0 : Int)] = tlk sz (0 : Nat)))) (by kernel_rfl) ?_
    have e : IntKind.i64.wrap (119 - sz.tmod 64) = 119 - sz.tmod 64 := by
      rw [Int.tmod_eq_emod_of_nonneg hs0]; exact wrap_i64' (by omega) (by omega)
    rw [e, hn0]
    refine ⟨by decide, by decide, by decide, triv_intro ⟨rfl, ?_⟩⟩
    show _ = (128 :: List.replicate (nn sz) 0) ++ ([] ++ List.replicate (71 - nn sz - 0) 0)
    rw [List.nil_append, List.cons_append, List.replicate_append_replicate, show nn sz + (71 - nn sz - 0) = 71 by omega]
    rfl
  rintro ⟨n0, t0⟩ hK
  revert n0 t0
  intro (n0 : Int) (t0 : List Int) ⟨e0, et⟩
  have e0 : n0 = (nn sz : Int) := e0
  have et : t0 = tlk sz 0 := et
  subst e0 et
  refine tr_while hsp mixed noSw (fun σ => (rdS (.int .i64) 20 σ, rdR bK 33 σ)) (smA st rest sz (nn sz)) (fun g => ∃ k : Nat, k ≤ 8 ∧ g.1 = (k : Int) ∧ g.2 = tlk sz k) (fun g => 8 - g.1.toNat)
    (fun σ => (rdS (.int .i64) 20 σ, rdR bK 33 σ)) (smA st rest sz (nn sz)) (fun g => g.2 = tlk sz 8) (0, tlk sz 0) (c := nthC (codeOf Tryd.f100) 8) (by kernel_rfl) (by kernel_rfl) (le_of_proj (by kernel_rfl) (by kernel_rfl) ?_) ?_ ?_
  · exact ⟨0, by decide, rfl, rfl⟩
  · rintro ⟨i, l⟩ hj
    revert i l
    intro (i : Int) (l : List Int) ⟨k, hk, ei, el⟩
    have ei : i = (k : Int) := ei
    have kl : l = tlk sz k := el
    subst ei
    refine vcx (X := ((decide ((↑k : Int) < (8 : Int)) = true → (0 : Int) ≤ IntKind.i64.wrap ((56 : Int) - IntKind.i64.wrap ((8 : Int) * (↑k : Int))) ∧ ((0 : Int) ≤ IntKind.i64.wrap (IntKind.i64.wrap ((1 : Int) + (↑(nn sz) : Int)) + (↑k : Int)) ∧ IntKind.i64.wrap (IntKind.i64.wrap ((1 : Int) + (↑(nn sz) : Int)) + (↑k : Int)) < (↑(72 : Nat) : Int)) ∧ (IntKind.i64.wrap (IntKind.i64.wrap ((1 : Int) + (↑(nn sz) : Int)) + (↑k : Int))).toNat < (72 : Nat) ∧ (smA st rest sz (↑(nn sz) : Int) (IntKind.i64.wrap ((↑k : Int) + (1 : Int)), l.set (IntKind.i64.wrap (IntKind.i64.wrap ((1 : Int) + (↑(nn sz) : Int)) + (↑k : Int))).toNat (IntKind.u8.wrap ((IntKind.u64.wrap (IntKind.u64.wrap sz * (8 : Int))).fdiv ((2 : Int) ^ min (IntKind.i64.wrap ((56 : Int) - IntKind.i64.wrap ((8 : Int) * (↑k : Int)))).toNat IntKind.u64.bits))))).triv ((∃ k_1, k_1 ≤ (8 : Nat) ∧ IntKind.i64.wrap ((↑k : Int) + (1 : Int)) = (↑k_1 : Int) ∧ l.set (IntKind.i64.wrap (IntKind.i64.wrap ((1 : Int) + (↑(nn sz) : Int)) + (↑k : Int))).toNat (IntKind.u8.wrap ((IntKind.u64.wrap (IntKind.u64.wrap sz * (8 : Int))).fdiv ((2 : Int) ^ min (IntKind.i64.wrap ((56 : Int) - IntKind.i64.wrap ((8 : Int) * (↑k : Int)))).toNat IntKind.u64.bits))) = tlk sz k_1) ∧ (8 : Nat) - (IntKind.i64.wrap ((↑k : Int) + (1 : Int))).toNat < (8 : Nat) - (↑k : Int).toNat)) ∧ (decide ((↑k : Int) < (8 : Int)) = false → (smA st rest sz (↑(nn sz) : Int) ((↑k : Int), l)).triv (l = tlk sz (8 : Nat))))) (by kernel_rfl) ?_
    refine ⟨fun h => ?_, fun h => triv_intro ?_⟩
    · have h4 : k < 8 := by have := of_decide_eq_true h; omega
      have e1 : IntKind.i64.wrap (IntKind.i64.wrap ((1 : Int) + (nn sz : Int)) + (k : Int)) = ((1 + nn sz + k : Nat) : Int) := by
        rw [wrap_i64' (a := 1 + (nn sz : Int)) (by omega) (by omega), wrap_i64' (by omega) (by omega)]; omega
      have e2 : IntKind.i64.wrap (56 - IntKind.i64.wrap (8 * (k : Int))) = ((56 - 8 * k : Nat) : Int) := by
        rw [wrap_i64' (a := 8 * (k : Int)) (by omega) (by omega), wrap_i64' (by omega) (by omega)]; omega
      rw [e1, e2, wrap_succ (by omega), hw64, hw8]
      simp only [Int.toNat_natCast]
      refine ⟨by omega, ⟨by omega, by omega⟩, by omega, triv_intro ⟨⟨k + 1, h4, rfl, ?_⟩, by omega⟩⟩
      have ev : IntKind.u8.wrap ((sz * 8).fdiv (2 ^ min (56 - 8 * k) IntKind.u64.bits)) = szB sz k := by
        have hm : min (56 - 8 * k) IntKind.u64.bits = 56 - 8 * k := Nat.min_eq_left (show 56 - 8 * k ≤ 64 by omega)
        rw [wrap_u8, hm, Int.fdiv_eq_ediv_of_nonneg _ (Int.le_of_lt (Int.pow_pos (by decide)))]; rfl
      rw [ev, kl, tlk, tlk, show 71 - nn sz - k = (71 - nn sz - (k + 1)) + 1 by omega]
      have := set_fill (szB sz) (128 :: List.replicate (nn sz) 0) k (71 - nn sz - (k + 1))
      rw [show (128 :: List.replicate (nn sz) (0 : Int)).length = 1 + nn sz by simp; omega] at this
      exact this
    · have : k = 8 := by have := of_decide_eq_false h; omega
      rw [kl, this]
  rintro ⟨i1, l1⟩ hl1
  revert i1 l1
  intro (i1 : Int) (l1 : List Int) (hl1 : l1 = tlk sz 8)
  subst hl1
  refine tr_cutF hsp mixed 3 (fun σ => rdB hashK 153 σ) (fun y => smB st rest sz y (0, List.replicate 32 0)) (fun y => y = wro st rest sz (padB sz.toNat)) ?_ ?_
  · refine vcx (X := (((0 : Int) ≤ IntKind.i64.wrap (IntKind.i64.wrap ((1 : Int) + (↑(nn sz) : Int)) + (8 : Int)) ∧ IntKind.i64.wrap (IntKind.i64.wrap ((1 : Int) + (↑(nn sz) : Int)) + (8 : Int)) ≤ (↑(72 : Nat) : Int)) ∧ (∀ (g : Nat) (s : Sigma Car), shaG g = some s → Decidable.rec (fun h => (fun x => if g = (1 : Nat) then some ⟨Kd.arr (64 : Nat) uK, rootsL⟩ else none) h) (fun h => (fun x => some ⟨Kd.arr (8 : Nat) uK, firstL⟩) h) (instDecidableEqNat g (0 : Nat)) = some s) ∧ (0 : Nat) + (IntKind.i64.wrap (IntKind.i64.wrap ((1 : Int) + (↑(nn sz) : Int)) + (8 : Int)) - (0 : Int)).toNat ≤ (72 : Nat) ∧ preWr ((st, rest, sz), List.take (IntKind.i64.wrap (IntKind.i64.wrap ((1 : Int) + (↑(nn sz) : Int)) + (8 : Int)) - (0 : Int)).toNat (tlk sz (8 : Nat)), ()) ∧ (smB st rest sz (wro st rest sz (List.take (IntKind.i64.wrap (IntKind.i64.wrap ((1 : Int) + (↑(nn sz) : Int)) + (8 : Int)) - (0 : Int)).toNat (tlk sz (8 : Nat)))) ((0 : Int), List.replicate (32 : Nat) (0 : Int))).triv (wro st rest sz (List.take (IntKind.i64.wrap (IntKind.i64.wrap ((1 : Int) + (↑(nn sz) : Int)) + (8 : Int)) - (0 : Int)).toNat (tlk sz (8 : Nat))) = wro st rest sz (padB sz.toNat)))) (by kernel_rfl) ?_
    have e1 : IntKind.i64.wrap (IntKind.i64.wrap ((1 : Int) + (nn sz : Int)) + 8) = ((1 + nn sz + 8 : Nat) : Int) := by
      rw [wrap_i64' (a := 1 + (nn sz : Int)) (by omega) (by omega), wrap_i64' (by omega) (by omega)]; omega
    have e2 : (((1 + nn sz + 8 : Nat) : Int) - 0).toNat = 1 + nn sz + 8 := by omega
    rw [e1, e2, tlk_pad sz hs0]
    refine ⟨⟨by omega, by omega⟩, fun _ _ h => h, by omega, ⟨hs0, hs1, ?_⟩, triv_intro rfl⟩
    show (padB sz.toNat).length ≤ _
    rw [← tlk_pad sz hs0, List.length_take]; omega
  rintro ⟨y1, y2, y3⟩ hy
  revert y1 y2 y3
  intro (y1 : List Int) (y2 : List Int) (y3 : Int) (hy : (y1, y2, y3) = wro st rest sz (padB sz.toNat))
  rw [hy]
  refine tr_while hsp mixed noSw (fun σ => (rdS (.int .i64) 48 σ, rdR bK 9 σ)) (smB st rest sz (wro st rest sz (padB sz.toNat))) (fun g => ∃ k : Nat, k ≤ 32 ∧ g.1 = (k : Int) ∧ g.2 = oK (wro st rest sz (padB sz.toNat)).1 k) (fun g => 32 - g.1.toNat)
    (fun σ => (rdS (.int .i64) 48 σ, rdR bK 9 σ)) (smB st rest sz (wro st rest sz (padB sz.toNat))) (fun g => g.2 = oK (wro st rest sz (padB sz.toNat)).1 32) (0, List.replicate 32 0) (c := nthC (codeOf Tryd.f100) 12) (by kernel_rfl) (by kernel_rfl) (le_of_proj (by kernel_rfl) (by kernel_rfl) ?_) ?_ ?_
  · exact ⟨0, by decide, rfl, rfl⟩
  · rintro ⟨i, l⟩ hj
    revert i l
    intro (i : Int) (l : List Int) ⟨k, hk, ei, el⟩
    have ei : i = (k : Int) := ei
    have kl : l = oK (wro st rest sz (padB sz.toNat)).1 k := el
    subst ei
    refine vcx (X := ((decide ((↑k : Int) < (32 : Int)) = true → ((4 : Int) = (0 : Int) → False) ∧ ((0 : Int) ≤ IntKind.i64.wrap ((↑k : Int).tdiv (4 : Int)) ∧ IntKind.i64.wrap ((↑k : Int).tdiv (4 : Int)) < (↑(8 : Nat) : Int)) ∧ (IntKind.i64.wrap ((↑k : Int).tdiv (4 : Int))).toNat < (8 : Nat) ∧ ((4 : Int) = (0 : Int) → False) ∧ (0 : Int) ≤ IntKind.i64.wrap ((24 : Int) - IntKind.i64.wrap ((8 : Int) * (↑k : Int).tmod (4 : Int))) ∧ ((0 : Int) ≤ (↑k : Int) ∧ (↑k : Int) < (↑(32 : Nat) : Int)) ∧ (↑k : Int).toNat < (32 : Nat) ∧ (smB st rest sz (wro st rest sz (padB sz.toNat)) (IntKind.i64.wrap ((↑k : Int) + (1 : Int)), l.set (↑k : Int).toNat (IntKind.u8.wrap (((wro st rest sz (padB sz.toNat)).fst.getD (IntKind.i64.wrap ((↑k : Int).tdiv (4 : Int))).toNat (0 : Int)).fdiv ((2 : Int) ^ min (IntKind.i64.wrap ((24 : Int) - IntKind.i64.wrap ((8 : Int) * (↑k : Int).tmod (4 : Int)))).toNat IntKind.u32.bits))))).triv ((∃ k_1, k_1 ≤ (32 : Nat) ∧ IntKind.i64.wrap ((↑k : Int) + (1 : Int)) = (↑k_1 : Int) ∧ l.set (↑k : Int).toNat (IntKind.u8.wrap (((wro st rest sz (padB sz.toNat)).fst.getD (IntKind.i64.wrap ((↑k : Int).tdiv (4 : Int))).toNat (0 : Int)).fdiv ((2 : Int) ^ min (IntKind.i64.wrap ((24 : Int) - IntKind.i64.wrap ((8 : Int) * (↑k : Int).tmod (4 : Int)))).toNat IntKind.u32.bits))) = oK (wro st rest sz (padB sz.toNat)).fst k_1) ∧ (32 : Nat) - (IntKind.i64.wrap ((↑k : Int) + (1 : Int))).toNat < (32 : Nat) - (↑k : Int).toNat)) ∧ (decide ((↑k : Int) < (32 : Int)) = false → (smB st rest sz (wro st rest sz (padB sz.toNat)) ((↑k : Int), l)).triv (l = oK (wro st rest sz (padB sz.toNat)).fst (32 : Nat))))) (by kernel_rfl) ?_
    refine ⟨fun h => ?_, fun h => triv_intro ?_⟩
    · have h4 : k < 32 := by have := of_decide_eq_true h; omega
      have e1 : IntKind.i64.wrap ((k : Int).tdiv 4) = ((k / 4 : Nat) : Int) := by
        rw [Int.tdiv_eq_ediv_of_nonneg (by omega), wrap_i64' (by omega) (by omega)]; omega
      have e2 : IntKind.i64.wrap (24 - IntKind.i64.wrap (8 * (k : Int).tmod 4)) = ((24 - 8 * (k % 4) : Nat) : Int) := by
        rw [Int.tmod_eq_emod_of_nonneg (by omega), wrap_i64' (a := 8 * ((k : Int) % 4)) (by omega) (by omega), wrap_i64' (by omega) (by omega)]; omega
      rw [e1, e2, wrap_succ (by omega)]
      simp only [Int.toNat_natCast]
      refine ⟨by decide, ⟨by omega, by omega⟩, by omega, by decide, by omega, ⟨by omega, by omega⟩, h4, triv_intro ⟨⟨k + 1, h4, rfl, ?_⟩, by omega⟩⟩
      have ev : IntKind.u8.wrap (((wro st rest sz (padB sz.toNat)).1.getD (k / 4) 0).fdiv (2 ^ min (24 - 8 * (k % 4)) IntKind.u32.bits)) = outE (wro st rest sz (padB sz.toNat)).1 k := by
        have hm : min (24 - 8 * (k % 4)) IntKind.u32.bits = 24 - 8 * (k % 4) := Nat.min_eq_left (show 24 - 8 * (k % 4) ≤ 32 by omega)
        rw [hm]; rfl
      rw [ev, kl, oK, oK, show 32 - k = (32 - (k + 1)) + 1 by omega]
      have := set_fill (outE (wro st rest sz (padB sz.toNat)).1) [] k (32 - (k + 1))
      rw [show ([] : List Int).length + k = k by simp] at this
      exact this
    · have : k = 32 := by have := of_decide_eq_false h; omega
      rw [kl, this]
  rintro ⟨i2, l2⟩ hl2
  revert i2 l2
  intro (i2 : Int) (l2 : List Int) (hl2 : l2 = oK (wro st rest sz (padB sz.toNat)).1 32)
  refine tr_vc hsp mixed _ _ ?_
  refine vcx (X := (((st, rest, sz), l2, ()) = ((st, rest, sz), sumo st rest sz, ()))) (by kernel_rfl) ?_
  rw [hl2, sumo, opq_eq]
  have e : oK (wro st rest sz (padB sz.toNat)).1 32 = outB (wro st rest sz (padB sz.toNat)).1 := by
    show [] ++ (_ ++ []) = _
    rw [List.append_nil, List.nil_append]; rfl
  rw [e]
noncomputable def spSum : Nat × Eng.Spec := (100, fnSpecPG shaG hashK [] [.val (.arr 32 bK)] (fun ((_, _, sz), _) => (0 : Int) ≤ sz ∧ sz ≤ (1152921504606846976 : Int)) (fun ((st, rest, sz), _) => ((st, rest, sz), (sumo st rest sz, ()))))
theorem ent_of : enters Tryd.prog 44 Tryd.f44 := enters_mk (by kernel_rfl) (by kernel_rfl) (by kernel_rfl)
noncomputable def ofS (ps : List (List Int)) (g : Int × Car hashK) : St := mkSt Tryd.f44.ntmps 40 [(2, .is (.one (.ptr 0 0))), (3, .is (.one (.ptr 8 0))), (6, .is (.one (.ro (.sl bK) ps))), (7, sI .i64 ps.length), (8, sI .i64 g.1)] [(8, [.ints .u32 8 g.2.1, .ints .u8 64 g.2.2.1, .v (.int .i64 g.2.2.2)]), (0, [.ints .u8 32 (List.replicate 32 0)])]
abbrev preOf : HL [.sl (.sl bK)] → Prop := fun (ps, _) => List.length (List.flatten ps) ≤ 1099511627776 ∧ List.length ps ≤ 1099511627776
theorem fn_of : FnOk Tryd.prog 44 [.sl (.sl bK)] [.val (.arr 32 bK)] shaG preOf (fun (ps, _) => (dig (List.flatten ps), ())) := by
  have hsp : SpecsOk Tryd.prog (sps [spWrite, spSum]) := sps_cons (fnSpecPG_ok fn_write) (sps_cons (fnSpecPG_ok fn_sum) sps_nil)
  refine fn_of_tr (sp := sps [spWrite, spSum]) ent_of (by decide) (by decide) (by kernel_rfl) ?_
  rintro w M0 ⟨ps, ⟨⟩⟩
  revert ps
  intro (ps : List (List Int)) _ hp
  have hl : (List.flatten ps).length ≤ 1099511627776 := hp.1
  have hn : ps.length ≤ 1099511627776 := hp.2
  show Tr _ _ _ _ _ _ _
  refine tr_cut hsp mixed 3 (ofS ps (0, (List.replicate 8 0, List.replicate 64 0, 0))) True ?_ (fun _ => ?_)
  · refine vcx (X := ((ofS ps ((0 : Int), List.replicate (8 : Nat) (0 : Car uK), List.replicate (64 : Nat) (0 : Car bK), (0 : Car (Kd.int IntKind.i64)))).triv True)) (by kernel_rfl) ?_
    exact triv_intro trivial
  refine tr_while hsp mixed noSw (fun σ => (rdS (.int .i64) 8 σ, rdB hashK 8 σ)) (ofS ps) (fun g => ∃ k : Nat, k ≤ ps.length ∧ g.1 = (k : Int) ∧ Took tko firstL (List.flatten (ps.take k)) g.2.1 g.2.2.1 g.2.2.2) (fun g => ps.length - g.1.toNat)
    (fun σ => (rdS (.int .i64) 8 σ, rdB hashK 8 σ)) (ofS ps) (fun g => Took tko firstL (List.flatten ps) g.2.1 g.2.2.1 g.2.2.2) (0, (List.replicate 8 0, List.replicate 64 0, 0)) (c := nthC (codeOf Tryd.f44) 3) (by kernel_rfl) (by kernel_rfl) (le_of_proj (by kernel_rfl) (by kernel_rfl) ?_) ?_ ?_
  · exact ⟨0, Nat.zero_le _, rfl, took_nil tko firstL _ _ List.length_replicate⟩
  · rintro ⟨i, st, rest, sz⟩ hj
    revert i st rest sz
    intro (i : Int) (st : List Int) (rest : List Int) (sz : Int) ⟨k, hk, ei, tk⟩
    have ei : i = (k : Int) := ei
    have tk : Took tko firstL (List.flatten (ps.take k)) st rest sz := tk
    subst ei
    refine vcx (X := ((decide ((↑k : Int) < (↑ps.length : Int)) = true → ((0 : Int) ≤ (↑k : Int) ∧ (↑k : Int) < (↑ps.length : Int)) ∧ (↑k : Int).toNat < ps.length ∧ (∀ (g : Nat) (s : Sigma Car), shaG g = some s → Decidable.rec (fun h => (fun x => if g = (1 : Nat) then some ⟨Kd.arr (64 : Nat) uK, rootsL⟩ else none) h) (fun h => (fun x => some ⟨Kd.arr (8 : Nat) uK, firstL⟩) h) (instDecidableEqNat g (0 : Nat)) = some s) ∧ preWr ((st, rest, sz), ps.getD (↑k : Int).toNat [], ()) ∧ (ofS ps (IntKind.i64.wrap ((↑k : Int) + (1 : Int)), wro st rest sz (ps.getD (↑k : Int).toNat []))).triv ((∃ k_1, k_1 ≤ ps.length ∧ IntKind.i64.wrap ((↑k : Int) + (1 : Int)) = (↑k_1 : Int) ∧ Took tko firstL (List.take k_1 ps).flatten (wro st rest sz (ps.getD (↑k : Int).toNat [])).fst (wro st rest sz (ps.getD (↑k : Int).toNat [])).snd.fst (wro st rest sz (ps.getD (↑k : Int).toNat [])).snd.snd) ∧ ps.length - (IntKind.i64.wrap ((↑k : Int) + (1 : Int))).toNat < ps.length - (↑k : Int).toNat)) ∧ (decide ((↑k : Int) < (↑ps.length : Int)) = false → (ofS ps ((↑k : Int), st, rest, sz)).triv (Took tko firstL ps.flatten st rest sz)))) (by kernel_rfl) ?_
    refine ⟨fun h => ?_, fun h => triv_intro ?_⟩
    · have h4 : k < ps.length := by have := of_decide_eq_true h; omega
      have hx : ps.getD k [] = ps[k] := by simp [List.getElem?_eq_getElem h4]
      have hf : (ps.take (k + 1)).flatten = (ps.take k).flatten ++ ps.getD k [] := by
        rw [List.take_succ_eq_append_getElem h4, List.flatten_append, hx]; simp
      have hlen : (ps.take (k + 1)).flatten.length ≤ ps.flatten.length := by
        have : ps.flatten = (ps.take (k + 1)).flatten ++ (ps.drop (k + 1)).flatten := by rw [← List.flatten_append, List.take_append_drop]
        rw [this, List.length_append]; omega
      have hsz : sz = (((ps.take k).flatten.length : Nat) : Int) := tk.1
      have hl2 : (ps.take k).flatten.length + (ps.getD k []).length ≤ 1099511627776 := by
        rw [hf, List.length_append] at hlen; omega
      rw [wrap_succ (by omega)]
      simp only [Int.toNat_natCast]
      have a1 : (0 : Int) ≤ sz := by rw [hsz]; omega
      have a2 : sz ≤ (1152921504606846976 : Int) := by rw [hsz]; omega
      refine ⟨⟨by omega, by omega⟩, h4, fun _ _ h => h, ⟨a1, a2, ?_⟩, triv_intro ⟨⟨k + 1, h4, rfl, ?_⟩, by omega⟩⟩
      · show (ps.getD k []).length ≤ _
        omega
      · rw [hf]; exact took_wro tk _
    · have : k = ps.length := by have := of_decide_eq_false h; omega
      rw [this, List.take_length] at tk
      exact tk
  rintro ⟨i, st, rest, sz⟩ hj
  revert i st rest sz
  intro (i : Int) (st : List Int) (rest : List Int) (sz : Int) (tk : Took tko firstL (List.flatten ps) st rest sz)
  refine tr_vc hsp mixed _ _ ?_
  refine vcx (X := ((∀ (g : Nat) (s : Sigma Car), shaG g = some s → Decidable.rec (fun h => (fun x => if g = (1 : Nat) then some ⟨Kd.arr (64 : Nat) uK, rootsL⟩ else none) h) (fun h => (fun x => some ⟨Kd.arr (8 : Nat) uK, firstL⟩) h) (instDecidableEqNat g (0 : Nat)) = some s) ∧ ((0 : Int) ≤ sz ∧ sz ≤ (1152921504606846976 : Int)) ∧ (sumo st rest sz, ()) = (dig ps.flatten, ()))) (by kernel_rfl) ?_
  have hsz : sz = ((ps.flatten.length : Nat) : Int) := tk.1
  have a1 : (0 : Int) ≤ sz := by rw [hsz]; omega
  have a2 : sz ≤ (1152921504606846976 : Int) := by rw [hsz]; omega
  exact ⟨fun _ _ h => h, ⟨a1, a2⟩, by rw [took_sum tk]⟩
noncomputable def spOf : Nat × Eng.Spec := (44, fnSpecG shaG [.sl (.sl bK)] [.val (.arr 32 bK)] preOf (fun (ps, _) => (dig (List.flatten ps), ())))
end Go.Proofs.YtbfimfdhmggieaaDoor.sha
/- xmd: words of a digest. -/
namespace Go.Proofs.YtbfimfdhmggieaaDoor.xmd
set_option maxRecDepth 100000
open Go Go.Eng Go.RowKit Cr Go.Proofs.YtbfimfdhmggieaaDoor Go.Proofs.YtbfimfdhmggieaaDoor.sha
theorem ent_split : enters Tryd.prog 45 Tryd.f45 := enters_mk (by kernel_rfl) (by kernel_rfl) (by kernel_rfl)
def sB (d : List Int) (i j : Nat) (w : List Int) : List Int := w.set i (bitOp .or .u32 (IntKind.u32.wrap (w.getD i 0 * 2 ^ min (8 : Nat) IntKind.u32.bits)) (IntKind.u32.wrap (d.getD (4 * i + j) 0)))
def sBk (d : List Int) (i : Nat) (w : List Int) (j : Nat) : List Int := it (fun j w => sB d i j w) w j
def sAk (d : List Int) (i : Nat) : List Int := it (fun i w => sBk d i w 4) (List.replicate 8 0) i
/-- A digest's words. -/
noncomputable def spl (d : List Int) : List Int := opq (sAk d 8)
theorem sBk_len (d : List Int) (i : Nat) (w : List Int) : ∀ j, (sBk d i w j).length = w.length
  | 0 => rfl
  | j + 1 => by show (sB d i j _).length = _; rw [sB, List.length_set]; exact sBk_len d i w j
theorem sAk_len (d : List Int) : ∀ i, (sAk d i).length = 8
  | 0 => rfl
  | i + 1 => by show (sBk d i _ 4).length = _; rw [sBk_len]; exact sAk_len d i
theorem spl_len (d : List Int) : (spl d).length = 8 := by rw [spl, opq_eq, sAk_len]
noncomputable def spA (d : List Int) (g : Int × List Int) : St := mkSt Tryd.f45.ntmps 32 [(1, .is (.one (.ptr 0 0))), (2, .is (.one (.ptr 8 0))), (3, .is (.one (.ptr 16 0))), (6, sI .i64 g.1)] [(16, [.ints .u32 8 g.2]), (8, [.ints .u32 8 (List.replicate 8 0)]), (0, [.ints .u8 32 d])]
noncomputable def spB (d : List Int) (i : Nat) (g : Int × List Int) : St := mkSt Tryd.f45.ntmps 32 [(1, .is (.one (.ptr 0 0))), (2, .is (.one (.ptr 8 0))), (3, .is (.one (.ptr 16 0))), (4, sI .i64 i), (6, sI .i64 i), (9, sI .i64 g.1)] [(16, [.ints .u32 8 g.2]), (8, [.ints .u32 8 (List.replicate 8 0)]), (0, [.ints .u8 32 d])]
theorem fn_split : FnOk Tryd.prog 45 [.arr 32 bK] [.val (.arr 8 uK)] noG (fun _ => True) (fun (d, _) => (spl d, ())) := by
  have hsp : SpecsOk Tryd.prog (sps []) := sps_nil
  refine fn_of_tr (sp := sps []) ent_split (by decide) (by decide) (by kernel_rfl) ?_
  rintro w M0 ⟨d, ⟨⟩⟩
  revert d
  intro (d : List Int) hw _
  have hd : d.length = 32 := hw.1.1
  show Tr _ _ _ _ _ _ _
  refine tr_cut hsp mixed 3 (spA d (0, List.replicate 8 0)) True ?_ (fun _ => ?_)
  · refine vcx (X := ((spA d ((0 : Int), List.replicate (8 : Nat) (0 : Int))).triv True)) (by kernel_rfl) ?_
    exact triv_intro trivial
  refine tr_whileT noSw (fun σ => (rdS (.int .i64) 6 σ, rdR uK 16 σ)) (spA d) (fun g => ∃ k : Nat, k ≤ 8 ∧ g.1 = (k : Int) ∧ g.2 = sAk d k) (fun g => 8 - g.1.toNat)
    (fun σ => (rdS (.int .i64) 6 σ, rdR uK 16 σ)) (spA d) (fun g => g.2 = sAk d 8) (0, List.replicate 8 0) (c := nthC (codeOf Tryd.f45) 3) (by kernel_rfl) (by kernel_rfl) (le_of_proj (by kernel_rfl) (by kernel_rfl) ?_) ?_ ?_
  · exact ⟨0, by decide, rfl, rfl⟩
  · rintro ⟨i, wl⟩ hj
    revert i wl
    intro (i : Int) (wl : List Int) ⟨k, hk, ei, ew⟩
    have ei : i = (k : Int) := ei
    have kw : wl = sAk d k := ew
    subst ei
    refine tr_cut hsp mixed 2 (spA d ((k : Int), wl)) (k < 8) ?_ (fun hlt => ?_)
    · refine vcx (X := ((decide ((↑k : Int) < (8 : Int)) = true → (spA d ((↑k : Int), wl)).triv (k < (8 : Nat))) ∧ (decide ((↑k : Int) < (8 : Int)) = false → (spA d ((↑k : Int), wl)).triv (wl = sAk d (8 : Nat))))) (by kernel_rfl) ?_
      refine ⟨fun h => triv_intro (by have := of_decide_eq_true h; omega), fun h => triv_intro ?_⟩
      have : k = 8 := by have := of_decide_eq_false h; omega
      rw [kw, this]
    refine tr_block (c := nthC (loopOf (nthC (codeOf Tryd.f45) 3)) 2) (by kernel_rfl) (by kernel_rfl) ?_
    refine tr_cut hsp mixed 2 (spB d k (0, wl)) True ?_ (fun _ => ?_)
    · refine vcx (X := ((spB d k ((0 : Int), wl)).triv True)) (by kernel_rfl) ?_
      exact triv_intro trivial
    refine tr_while hsp mixed noSw (fun σ => (rdS (.int .i64) 9 σ, rdR uK 16 σ)) (spB d k) (fun g => ∃ j : Nat, j ≤ 4 ∧ g.1 = (j : Int) ∧ g.2 = sBk d k wl j) (fun g => 4 - g.1.toNat)
      (fun σ => rdR uK 16 σ) (fun w => spA d ((k : Int), w)) (fun w => w = sBk d k wl 4) (0, wl) (c := nthC (bodyOf (nthC (loopOf (nthC (codeOf Tryd.f45) 3)) 2)) 2) (by kernel_rfl) (by kernel_rfl) (le_of_proj (by kernel_rfl) (by kernel_rfl) ?_) ?_ ?_
    · exact ⟨0, by decide, rfl, rfl⟩
    · rintro ⟨j, wj⟩ hj
      revert j wj
      intro (j : Int) (wj : List Int) ⟨t, ht, ej, ewj⟩
      have ej : j = (t : Int) := ej
      have kwj : wj = sBk d k wl t := ewj
      subst ej
      refine vcx (X := ((decide ((↑t : Int) < (4 : Int)) = true → ((0 : Int) ≤ (↑k : Int) ∧ (↑k : Int) < (↑(8 : Nat) : Int)) ∧ (↑k : Int).toNat < (8 : Nat) ∧ (0 : Int) ≤ (8 : Int) ∧ ((0 : Int) ≤ IntKind.i64.wrap (IntKind.i64.wrap ((4 : Int) * (↑k : Int)) + (↑t : Int)) ∧ IntKind.i64.wrap (IntKind.i64.wrap ((4 : Int) * (↑k : Int)) + (↑t : Int)) < (↑(32 : Nat) : Int)) ∧ (IntKind.i64.wrap (IntKind.i64.wrap ((4 : Int) * (↑k : Int)) + (↑t : Int))).toNat < (32 : Nat) ∧ ((0 : Int) ≤ (↑k : Int) ∧ (↑k : Int) < (↑(8 : Nat) : Int)) ∧ (↑k : Int).toNat < (8 : Nat) ∧ (spB d k (IntKind.i64.wrap ((↑t : Int) + (1 : Int)), wj.set (↑k : Int).toNat (bitOp BinOp.or IntKind.u32 (IntKind.u32.wrap (wj.getD (↑k : Int).toNat (0 : Int) * (2 : Int) ^ min (8 : Nat) IntKind.u32.bits)) (IntKind.u32.wrap (d.getD (IntKind.i64.wrap (IntKind.i64.wrap ((4 : Int) * (↑k : Int)) + (↑t : Int))).toNat (0 : Int)))))).triv ((∃ j, j ≤ (4 : Nat) ∧ IntKind.i64.wrap ((↑t : Int) + (1 : Int)) = (↑j : Int) ∧ wj.set (↑k : Int).toNat (bitOp BinOp.or IntKind.u32 (IntKind.u32.wrap (wj.getD (↑k : Int).toNat (0 : Int) * (2 : Int) ^ min (8 : Nat) IntKind.u32.bits)) (IntKind.u32.wrap (d.getD (IntKind.i64.wrap (IntKind.i64.wrap ((4 : Int) * (↑k : Int)) + (↑t : Int))).toNat (0 : Int)))) = sBk d k wl j) ∧ (4 : Nat) - (IntKind.i64.wrap ((↑t : Int) + (1 : Int))).toNat < (4 : Nat) - (↑t : Int).toNat)) ∧ (decide ((↑t : Int) < (4 : Int)) = false → (spA d ((↑k : Int), wj)).triv (wj = sBk d k wl (4 : Nat))))) (by kernel_rfl) ?_
      refine ⟨fun h => ?_, fun h => triv_intro ?_⟩
      · have h4 : t < 4 := by have := of_decide_eq_true h; omega
        have e1 : IntKind.i64.wrap (IntKind.i64.wrap ((4 : Int) * (k : Int)) + (t : Int)) = ((4 * k + t : Nat) : Int) := by
          rw [wrap_i64' (a := 4 * (k : Int)) (by omega) (by omega), wrap_i64' (by omega) (by omega)]; omega
        rw [e1, wrap_succ (by omega), Int.toNat_natCast, Int.toNat_natCast]
        exact ⟨⟨by omega, by omega⟩, by omega, by decide, ⟨by omega, by omega⟩, by omega, ⟨by omega, by omega⟩, by omega, triv_intro ⟨⟨t + 1, h4, rfl, by rw [kwj]; rfl⟩, by rw [Int.toNat_natCast, Int.toNat_natCast]; omega⟩⟩
      · have : t = 4 := by have := of_decide_eq_false h; omega
        rw [kwj, this]
    intro (w' : List Int) (hw' : w' = sBk d k wl 4)
    refine tr_nil ?_
    refine tr_vc hsp mixed _ _ ?_
    refine vcx (X := ((spA d (IntKind.i64.wrap ((↑k : Int) + (1 : Int)), w')).triv ((∃ k_1, k_1 ≤ (8 : Nat) ∧ IntKind.i64.wrap ((↑k : Int) + (1 : Int)) = (↑k_1 : Int) ∧ w' = sAk d k_1) ∧ (8 : Nat) - (IntKind.i64.wrap ((↑k : Int) + (1 : Int))).toNat < (8 : Nat) - (↑k : Int).toNat))) (by kernel_rfl) ?_
    rw [wrap_succ (by omega)]
    exact triv_intro ⟨⟨k + 1, hlt, rfl, by rw [hw', kw]; rfl⟩, by rw [Int.toNat_natCast, Int.toNat_natCast]; omega⟩
  rintro ⟨i1, w1⟩ hw1
  revert i1 w1
  intro (i1 : Int) (w1 : List Int) (hw1 : w1 = sAk d 8)
  refine tr_vc hsp mixed _ _ ?_
  refine vcx (X := ((w1, ()) = (spl d, ()))) (by kernel_rfl) ?_
  rw [hw1, spl, opq_eq]
noncomputable def spSplit : Nat × Eng.Spec := (45, fnSpec [.arr 32 bK] [.val (.arr 8 uK)] (fun _ => True) (fun (d, _) => (spl d, ())))
theorem ent_over : enters Tryd.prog 46 Tryd.f46 := enters_mk (by kernel_rfl) (by kernel_rfl) (by kernel_rfl)
def oA (b : List Int) (i : Nat) (a : List Int) : List Int := a.set i (bitOp .xor .u32 (a.getD i 0) (b.getD i 0))
def oAk (a b : List Int) (i : Nat) : List Int := it (oA b) a i
/-- Words over words. -/
noncomputable def ovr (a b : List Int) : List Int := opq (oAk a b 8)
theorem oAk_len (a b : List Int) : ∀ i, (oAk a b i).length = a.length
  | 0 => rfl
  | i + 1 => by show (oA b i _).length = _; rw [oA, List.length_set]; exact oAk_len a b i
noncomputable def ovS (b : List Int) (g : Int × List Int) : St := mkSt Tryd.f46.ntmps 40 [(2, .is (.one (.ptr 0 0))), (4, .is (.one (.ptr 16 0))), (7, sA .u32 8 b), (8, sI .i64 g.1)] [(16, [.ints .u32 8 (List.replicate 8 0)]), (0, [.ints .u32 8 g.2])]
theorem fn_over : FnOk Tryd.prog 46 [.arr 8 uK, .arr 8 uK] [.val (.arr 8 uK)] noG (fun _ => True) (fun (a, b, _) => (ovr a b, ())) := by
  have hsp : SpecsOk Tryd.prog (sps []) := sps_nil
  refine fn_of_tr (sp := sps []) ent_over (by decide) (by decide) (by kernel_rfl) ?_
  rintro w M0 ⟨a, b, ⟨⟩⟩
  revert a b
  intro (a : List Int) (b : List Int) hw _
  have ha : a.length = 8 := hw.1.1
  show Tr _ _ _ _ _ _ _
  refine tr_cut hsp mixed 2 (ovS b (0, a)) True ?_ (fun _ => ?_)
  · refine vcx (X := ((ovS b ((0 : Int), a)).triv True)) (by kernel_rfl) ?_
    exact triv_intro trivial
  refine tr_while hsp mixed noSw (fun σ => (rdS (.int .i64) 8 σ, rdR uK 0 σ)) (ovS b) (fun g => ∃ k : Nat, k ≤ 8 ∧ g.1 = (k : Int) ∧ g.2 = oAk a b k) (fun g => 8 - g.1.toNat)
    (fun σ => (rdS (.int .i64) 8 σ, rdR uK 0 σ)) (ovS b) (fun g => g.2 = oAk a b 8) (0, a) (c := nthC (codeOf Tryd.f46) 2) (by kernel_rfl) (by kernel_rfl) (le_of_proj (by kernel_rfl) (by kernel_rfl) ?_) ?_ ?_
  · exact ⟨0, by decide, rfl, rfl⟩
  · rintro ⟨i, l⟩ hj
    revert i l
    intro (i : Int) (l : List Int) ⟨k, hk, ei, el⟩
    have ei : i = (k : Int) := ei
    have kl : l = oAk a b k := el
    subst ei
    refine vcx (X := ((decide ((↑k : Int) < (8 : Int)) = true → ((0 : Int) ≤ (↑k : Int) ∧ (↑k : Int) < (↑(8 : Nat) : Int)) ∧ ((0 : Int) ≤ (↑k : Int) ∧ (↑k : Int) < (↑(8 : Nat) : Int)) ∧ (↑k : Int).toNat < (8 : Nat) ∧ ((0 : Int) ≤ (↑k : Int) ∧ (↑k : Int) < (↑(8 : Nat) : Int)) ∧ (↑k : Int).toNat < (8 : Nat) ∧ (ovS b (IntKind.i64.wrap ((↑k : Int) + (1 : Int)), l.set (↑k : Int).toNat (bitOp BinOp.xor IntKind.u32 (l.getD (↑k : Int).toNat (0 : Int)) (b.getD (↑k : Int).toNat (0 : Int))))).triv ((∃ k_1, k_1 ≤ (8 : Nat) ∧ IntKind.i64.wrap ((↑k : Int) + (1 : Int)) = (↑k_1 : Int) ∧ l.set (↑k : Int).toNat (bitOp BinOp.xor IntKind.u32 (l.getD (↑k : Int).toNat (0 : Int)) (b.getD (↑k : Int).toNat (0 : Int))) = oAk a b k_1) ∧ (8 : Nat) - (IntKind.i64.wrap ((↑k : Int) + (1 : Int))).toNat < (8 : Nat) - (↑k : Int).toNat)) ∧ (decide ((↑k : Int) < (8 : Int)) = false → (ovS b ((↑k : Int), l)).triv (l = oAk a b (8 : Nat))))) (by kernel_rfl) ?_
    refine ⟨fun h => ?_, fun h => triv_intro ?_⟩
    · have h4 : k < 8 := by have := of_decide_eq_true h; omega
      rw [wrap_succ (by omega)]
      simp only [Int.toNat_natCast]
      exact ⟨⟨by omega, by omega⟩, ⟨by omega, by omega⟩, h4, ⟨by omega, by omega⟩, h4, triv_intro ⟨⟨k + 1, h4, rfl, by rw [kl]; rfl⟩, by omega⟩⟩
    · have : k = 8 := by have := of_decide_eq_false h; omega
      rw [kl, this]
  rintro ⟨i1, w1⟩ hw1
  revert i1 w1
  intro (i1 : Int) (w1 : List Int) (hw1 : w1 = oAk a b 8)
  refine tr_vc hsp mixed _ _ ?_
  refine vcx (X := ((w1, ()) = (ovr a b, ()))) (by kernel_rfl) ?_
  rw [hw1, ovr, opq_eq]
noncomputable def spOver : Nat × Eng.Spec := (46, fnSpec [.arr 8 uK, .arr 8 uK] [.val (.arr 8 uK)] (fun _ => True) (fun (a, b, _) => (ovr a b, ())))
theorem ent_bytes : enters Tryd.prog 47 Tryd.f47 := enters_mk (by kernel_rfl) (by kernel_rfl) (by kernel_rfl)
def bB (w : List Int) (i j : Nat) (d : List Int) : List Int := d.set (4 * i + j) (IntKind.u8.wrap ((w.getD i 0).fdiv (2 ^ min (24 - 8 * j) IntKind.u32.bits)))
def bBk (w : List Int) (i : Nat) (d : List Int) (j : Nat) : List Int := it (fun j d => bB w i j d) d j
def bAk (w : List Int) (i : Nat) : List Int := it (fun i d => bBk w i d 4) (List.replicate 32 0) i
/-- Words' bytes. -/
noncomputable def byt (w : List Int) : List Int := opq (bAk w 8)
theorem bBk_len (w : List Int) (i : Nat) (d : List Int) : ∀ j, (bBk w i d j).length = d.length
  | 0 => rfl
  | j + 1 => by show (bB w i j _).length = _; rw [bB, List.length_set]; exact bBk_len w i d j
theorem bAk_len (w : List Int) : ∀ i, (bAk w i).length = 32
  | 0 => rfl
  | i + 1 => by show (bBk w i _ 4).length = _; rw [bBk_len]; exact bAk_len w i
theorem byt_len (w : List Int) : (byt w).length = 32 := by rw [byt, opq_eq, bAk_len]
noncomputable def byA (wd : List Int) (g : Int × List Int) : St := mkSt Tryd.f47.ntmps 40 [(2, .is (.one (.ptr 8 0))), (3, .is (.one (.ptr 16 0))), (7, sA .u32 8 wd), (8, sI .i64 g.1)] [(16, [.ints .u8 32 g.2]), (8, [.ints .u8 32 (List.replicate 32 0)])]
noncomputable def byB (wd : List Int) (i : Nat) (x : Int) (g : Int × List Int) : St := mkSt Tryd.f47.ntmps 40 [(2, .is (.one (.ptr 8 0))), (3, .is (.one (.ptr 16 0))), (4, sI .i64 i), (5, sI .u32 x), (7, sA .u32 8 wd), (8, sI .i64 i), (12, sI .i64 g.1)] [(16, [.ints .u8 32 g.2]), (8, [.ints .u8 32 (List.replicate 32 0)])]
theorem fn_bytes : FnOk Tryd.prog 47 [.arr 8 uK] [.val (.arr 32 bK)] noG (fun _ => True) (fun (w, _) => (byt w, ())) := by
  have hsp : SpecsOk Tryd.prog (sps []) := sps_nil
  refine fn_of_tr (sp := sps []) ent_bytes (by decide) (by decide) (by kernel_rfl) ?_
  rintro w M0 ⟨wd, ⟨⟩⟩
  revert wd
  intro (wd : List Int) hw _
  have hd : wd.length = 8 := hw.1.1
  show Tr _ _ _ _ _ _ _
  refine tr_cut hsp mixed 3 (byA wd (0, List.replicate 32 0)) True ?_ (fun _ => ?_)
  · refine vcx (X := ((byA wd ((0 : Int), List.replicate (32 : Nat) (0 : Int))).triv True)) (by kernel_rfl) ?_
    exact triv_intro trivial
  refine tr_whileT noSw (fun σ => (rdS (.int .i64) 8 σ, rdR bK 16 σ)) (byA wd) (fun g => ∃ k : Nat, k ≤ 8 ∧ g.1 = (k : Int) ∧ g.2 = bAk wd k) (fun g => 8 - g.1.toNat)
    (fun σ => (rdS (.int .i64) 8 σ, rdR bK 16 σ)) (byA wd) (fun g => g.2 = bAk wd 8) (0, List.replicate 32 0) (c := nthC (codeOf Tryd.f47) 3) (by kernel_rfl) (by kernel_rfl) (le_of_proj (by kernel_rfl) (by kernel_rfl) ?_) ?_ ?_
  · exact ⟨0, by decide, rfl, rfl⟩
  · rintro ⟨i, wl⟩ hj
    revert i wl
    intro (i : Int) (wl : List Int) ⟨k, hk, ei, ew⟩
    have ei : i = (k : Int) := ei
    have kw : wl = bAk wd k := ew
    subst ei
    refine tr_cut hsp mixed 2 (byA wd ((k : Int), wl)) (k < 8) ?_ (fun hlt => ?_)
    · refine vcx (X := ((decide ((↑k : Int) < (8 : Int)) = true → (byA wd ((↑k : Int), wl)).triv (k < (8 : Nat))) ∧ (decide ((↑k : Int) < (8 : Int)) = false → (byA wd ((↑k : Int), wl)).triv (wl = bAk wd (8 : Nat))))) (by kernel_rfl) ?_
      refine ⟨fun h => triv_intro (by have := of_decide_eq_true h; omega), fun h => triv_intro ?_⟩
      have : k = 8 := by have := of_decide_eq_false h; omega
      rw [kw, this]
    refine tr_block (c := nthC (loopOf (nthC (codeOf Tryd.f47) 3)) 2) (by kernel_rfl) (by kernel_rfl) ?_
    refine tr_cutF hsp mixed 2 (fun σ => rdS (.int .u32) 5 σ) (fun x => byB wd k x (0, wl)) (fun x => x = wd.getD k 0) ?_ ?_
    · refine vcx (X := (((0 : Int) ≤ (↑k : Int) ∧ (↑k : Int) < (↑(8 : Nat) : Int)) ∧ (byB wd k (wd.getD (↑k : Int).toNat (0 : Int)) ((0 : Int), wl)).triv (wd.getD (↑k : Int).toNat (0 : Int) = wd.getD k (0 : Int)))) (by kernel_rfl) ?_
      simp only [Int.toNat_natCast]
      exact ⟨⟨by omega, by omega⟩, triv_intro (by first | exact trivial | rfl)⟩
    intro (x : Int) (hx : x = wd.getD k 0)
    refine tr_while hsp mixed noSw (fun σ => (rdS (.int .i64) 12 σ, rdR bK 16 σ)) (byB wd k x) (fun g => ∃ j : Nat, j ≤ 4 ∧ g.1 = (j : Int) ∧ g.2 = bBk wd k wl j) (fun g => 4 - g.1.toNat)
      (fun σ => rdR bK 16 σ) (fun w => byA wd ((k : Int), w)) (fun w => w = bBk wd k wl 4) (0, wl) (c := nthC (bodyOf (nthC (loopOf (nthC (codeOf Tryd.f47) 3)) 2)) 2) (by kernel_rfl) (by kernel_rfl) (le_of_proj (by kernel_rfl) (by kernel_rfl) ?_) ?_ ?_
    · exact ⟨0, by decide, rfl, rfl⟩
    · rintro ⟨j, wj⟩ hj
      revert j wj
      intro (j : Int) (wj : List Int) ⟨t, ht, ej, ewj⟩
      have ej : j = (t : Int) := ej
      have kwj : wj = bBk wd k wl t := ewj
      subst ej
      refine vcx (X := ((decide ((↑t : Int) < (4 : Int)) = true → (0 : Int) ≤ IntKind.i64.wrap ((24 : Int) - IntKind.i64.wrap ((8 : Int) * (↑t : Int))) ∧ ((0 : Int) ≤ IntKind.i64.wrap (IntKind.i64.wrap ((4 : Int) * (↑k : Int)) + (↑t : Int)) ∧ IntKind.i64.wrap (IntKind.i64.wrap ((4 : Int) * (↑k : Int)) + (↑t : Int)) < (↑(32 : Nat) : Int)) ∧ (IntKind.i64.wrap (IntKind.i64.wrap ((4 : Int) * (↑k : Int)) + (↑t : Int))).toNat < (32 : Nat) ∧ (byB wd k x (IntKind.i64.wrap ((↑t : Int) + (1 : Int)), wj.set (IntKind.i64.wrap (IntKind.i64.wrap ((4 : Int) * (↑k : Int)) + (↑t : Int))).toNat (IntKind.u8.wrap (x.fdiv ((2 : Int) ^ min (IntKind.i64.wrap ((24 : Int) - IntKind.i64.wrap ((8 : Int) * (↑t : Int)))).toNat IntKind.u32.bits))))).triv ((∃ j, j ≤ (4 : Nat) ∧ IntKind.i64.wrap ((↑t : Int) + (1 : Int)) = (↑j : Int) ∧ wj.set (IntKind.i64.wrap (IntKind.i64.wrap ((4 : Int) * (↑k : Int)) + (↑t : Int))).toNat (IntKind.u8.wrap (x.fdiv ((2 : Int) ^ min (IntKind.i64.wrap ((24 : Int) - IntKind.i64.wrap ((8 : Int) * (↑t : Int)))).toNat IntKind.u32.bits))) = bBk wd k wl j) ∧ (4 : Nat) - (IntKind.i64.wrap ((↑t : Int) + (1 : Int))).toNat < (4 : Nat) - (↑t : Int).toNat)) ∧ (decide ((↑t : Int) < (4 : Int)) = false → (byA wd ((↑k : Int), wj)).triv (wj = bBk wd k wl (4 : Nat))))) (by kernel_rfl) ?_
      refine ⟨fun h => ?_, fun h => triv_intro ?_⟩
      · have h4 : t < 4 := by have := of_decide_eq_true h; omega
        have e1 : IntKind.i64.wrap (IntKind.i64.wrap ((4 : Int) * (k : Int)) + (t : Int)) = ((4 * k + t : Nat) : Int) := by
          rw [wrap_i64' (a := 4 * (k : Int)) (by omega) (by omega), wrap_i64' (by omega) (by omega)]; omega
        have e2 : IntKind.i64.wrap (24 - IntKind.i64.wrap ((8 : Int) * (t : Int))) = ((24 - 8 * t : Nat) : Int) := by
          rw [wrap_i64' (a := 8 * (t : Int)) (by omega) (by omega), wrap_i64' (by omega) (by omega)]; omega
        rw [e1, e2, wrap_succ (by omega)]
        simp only [Int.toNat_natCast]
        exact ⟨by omega, ⟨by omega, by omega⟩, by omega, triv_intro ⟨⟨t + 1, h4, rfl, by rw [kwj, hx]; rfl⟩, by omega⟩⟩
      · have : t = 4 := by have := of_decide_eq_false h; omega
        rw [kwj, this]
    intro (w' : List Int) (hw' : w' = bBk wd k wl 4)
    refine tr_nil ?_
    refine tr_vc hsp mixed _ _ ?_
    refine vcx (X := ((byA wd (IntKind.i64.wrap ((↑k : Int) + (1 : Int)), w')).triv ((∃ k_1, k_1 ≤ (8 : Nat) ∧ IntKind.i64.wrap ((↑k : Int) + (1 : Int)) = (↑k_1 : Int) ∧ w' = bAk wd k_1) ∧ (8 : Nat) - (IntKind.i64.wrap ((↑k : Int) + (1 : Int))).toNat < (8 : Nat) - (↑k : Int).toNat))) (by kernel_rfl) ?_
    rw [wrap_succ (by omega)]
    exact triv_intro ⟨⟨k + 1, hlt, rfl, by rw [hw', kw]; rfl⟩, by rw [Int.toNat_natCast, Int.toNat_natCast]; omega⟩
  rintro ⟨i1, w1⟩ hw1
  revert i1 w1
  intro (i1 : Int) (w1 : List Int) (hw1 : w1 = bAk wd 8)
  refine tr_vc hsp mixed _ _ ?_
  refine vcx (X := ((w1, ()) = (byt wd, ()))) (by kernel_rfl) ?_
  rw [hw1, byt, opq_eq]
noncomputable def spBytes : Nat × Eng.Spec := (47, fnSpec [.arr 8 uK] [.val (.arr 32 bK)] (fun _ => True) (fun (w, _) => (byt w, ())))
end Go.Proofs.YtbfimfdhmggieaaDoor.xmd
/- xmd: Expand. -/
namespace Go.Proofs.YtbfimfdhmggieaaDoor.xmd
set_option maxRecDepth 100000
open Go Go.Eng Go.RowKit Cr Go.Proofs.YtbfimfdhmggieaaDoor Go.Proofs.YtbfimfdhmggieaaDoor.sha
abbrev bsl : Kd := .sl bK
def overS : List Int := [72, 50, 67, 45, 79, 86, 69, 82, 83, 73, 90, 69, 45, 68, 83, 84, 45]
/-- The tag that stands for a tag. -/
noncomputable def tagF (tag : List Int) : List Int := match decide (255 < tag.length) with
  | true => dig (overS ++ tag)
  | false => tag
noncomputable def endF (t : List Int) : List Int := [IntKind.u8.wrap t.length]
noncomputable def fstF (msg t : List Int) (n : Int) : List Int := spl (dig (List.flatten [List.replicate 64 0, msg, [IntKind.u8.wrap (n.fdiv (2 ^ min (8 : Nat) IntKind.i64.bits)), IntKind.u8.wrap n, 0], t, endF t]))
/-- A round: the bytes so far, the last words. -/
noncomputable def nxD (f t : List Int) (i : Nat) (last : List Int) : List Int := dig (List.flatten [byt (ovr f last), [IntKind.u8.wrap ((i : Int) + 1)], t, endF t])
noncomputable def exK (f t : List Int) (i : Nat) : List Int × List Int := it (fun i s => (s.1 ++ nxD f t i s.2, spl (nxD f t i s.2))) ([], List.replicate 8 0) i
theorem exK_len (f t : List Int) : ∀ i, (exK f t i).1.length = 32 * i
  | 0 => rfl
  | i + 1 => by show ((exK f t i).1 ++ nxD f t i _).length = _; rw [List.length_append, exK_len f t i, nxD, dig_len]; omega
noncomputable def expF (msg tag : List Int) (n : Int) : List Int := (exK (fstF msg (tagF tag) n) (tagF tag) ((n.toNat + 31) / 32)).1.take n.toNat
/-- The bytes. -/
noncomputable def expo (msg tag : List Int) (n : Int) : List Int := opq (expF msg tag n)
theorem expo_len (msg tag : List Int) (n : Int) : (expo msg tag n).length = n.toNat := by
  rw [expo, opq_eq, expF, List.length_take, exK_len]; omega
/-- The answer. -/
noncomputable def exA (msg tag : List Int) (n : Int) : List Int × Int := match decide (n < 0) || decide (n > 8160) with
  | true => ([], 1)
  | false => (expo msg tag n, 0)
noncomputable def exS (m : List Int) (n : Int) (t : List Int) : St := mkSt Tryd.f13.ntmps 88 [(0, .is (.one (.ro bK m))), (1, .is (.one (.ro bK t))), (2, sI .i64 n)] []
noncomputable def exS0 (m : List Int) (n : Int) (t : List Int) : St := mkSt Tryd.f13.ntmps 88 [(0, .is (.one (.ro bK m))), (1, .is (.one (.ro bK t))), (2, sI .i64 n), (24, .is (.one (.v (.bool (decide ((t.length : Int) > 255))))))] []
theorem tr_eqL {E : Env} {N : Nat} {n r : St → Prop} {x : Nat → St → Prop} {l l' : List Code} {σ : St} (h : l = l') (ht : Tr E N l' σ n r x) : Tr E N l σ n r x := h ▸ ht
noncomputable def exS1 (m : List Int) (n : Int) (d : List Int) : St := mkSt Tryd.f13.ntmps 160 [(0, .is (.one (.ro bK m))), (1, .is (.one (.sl 128 0 0 32 1))), (2, sI .i64 n)] [(128, [.ints .u8 32 d])]
abbrev Xg : Type := Int × Nat × Nat × List Int × List Int
noncomputable def exI (n : Int) (t e f : List Int) (g : Xg) : St := mkSt Tryd.f13.ntmps 296 [(1, .is (.one (.ro bK t))), (2, sI .i64 n), (9, .is (.one (.sl 112 0 0 1 1))), (10, .is (.one (.ptr 232 0))), (11, .is (.one (.sl 264 0 0 g.2.1 1))), (12, .is (.one (.ptr 280 0))), (13, sI .i64 g.1)] [(280, [.ints .u32 8 g.2.2.2.2]), (264, [.ints .u8 g.2.2.1 g.2.2.2.1]), (232, [.ints .u32 8 f]), (112, [.ints .u8 1 e])]
noncomputable def exJ (n : Int) (t f : List Int) (g : Xg) : Prop := ∃ k : Nat, g.1 = (k : Int) + 1 ∧ g.2.1 = 32 * k ∧ g.2.1 ≤ g.2.2.1 ∧ g.2.2.2.1.take (32 * k) = (exK f t k).1 ∧ g.2.2.2.2 = (exK f t k).2 ∧ ((32 * k : Nat) : Int) < n + 32
theorem ent_expand : enters Tryd.prog 13 Tryd.f13 := enters_mk (by kernel_rfl) (by kernel_rfl) (by kernel_rfl)
abbrev preEx : HL [bsl, bsl, .int .i64] → Prop := fun (m, t, _) => List.length m ≤ 1048576 ∧ List.length t ≤ 1048576
theorem fn_expand : FnOk Tryd.prog 13 [bsl, bsl, .int .i64] [.own bK, .val (.int .i64)] shaG preEx (fun (m, t, n, _) => ((exA m t n).1, (exA m t n).2, ())) := by
  have hsp : SpecsOk Tryd.prog (sps [spOf, spSplit, spOver, spBytes]) := sps_cons (fnSpecG_ok fn_of) (sps_cons (fnSpec_ok fn_split) (sps_cons (fnSpec_ok fn_over) (sps_cons (fnSpec_ok fn_bytes) sps_nil)))
  refine fn_of_tr (sp := sps [spOf, spSplit, spOver, spBytes]) ent_expand (by decide) (by decide) (by kernel_rfl) ?_
  rintro w M0 ⟨m, t, n, ⟨⟩⟩
  revert m t n
  intro (m : List Int) (t : List Int) (n : Int) hw hp
  have hm : m.length ≤ 1048576 := hp.1
  have ht : t.length ≤ 1048576 := hp.2
  show Tr _ _ _ _ _ _ _
  have rest : ∀ t' : List Int, t'.length ≤ 255 → 0 ≤ n → n ≤ 8160 → tagF t = t' → Tr ⟨Tryd.prog, sps [spOf, spSplit, spOver, spBytes], ⟨w, [], shaG, M0⟩⟩ Tryd.f13.ntmps (List.drop 5 (codeOf Tryd.f13)) (exS m n t') (retK ⟨Tryd.prog, sps [spOf, spSplit, spOver, spBytes], ⟨w, [], shaG, M0⟩⟩ Tryd.f13 (post [.own bK, .val (.int .i64)] ((exA m t n).1, (exA m t n).2, ()))) (retK ⟨Tryd.prog, sps [spOf, spSplit, spOver, spBytes], ⟨w, [], shaG, M0⟩⟩ Tryd.f13 (post [.own bK, .val (.int .i64)] ((exA m t n).1, (exA m t n).2, ()))) (fun _ _ => False) := by
    intro t' ht' hn0 hn1 htag
    refine tr_cutF hsp mixed 5 (fun σ => (rdR uK 232 σ, rdR bK 112 σ, rdR bK 264 σ)) (fun g => exI n t' g.2.1 g.1 (1, 0, (IntKind.i64.wrap (n + 32)).toNat, g.2.2, List.replicate 8 0)) (fun g => g.1 = fstF m t' n ∧ g.2.1 = endF t') ?_ ?_
    · refine vcx (X := (((0 : Int) ≤ (64 : Int) ∧ (64 : Int) ≤ (64 : Int) ∧ (↑(1 : Nat) : Int) * (64 : Int) ≤ (281474976710656 : Int) ∧ (64 : Int) ≤ (9223372036854775807 : Int)) ∧ (0 : Int) ≤ (8 : Int) ∧ (∀ (g : Nat) (s : Sigma Car), shaG g = some s → Decidable.rec (fun h => (fun x => if g = (1 : Nat) then some ⟨Kd.arr (64 : Nat) uK, rootsL⟩ else none) h) (fun h => (fun x => some ⟨Kd.arr (8 : Nat) uK, firstL⟩) h) (instDecidableEqNat g (0 : Nat)) = some s) ∧ (0 : Nat) + (64 : Nat) ≤ (64 : Nat) ∧ (0 : Nat) + (3 : Nat) ≤ (3 : Nat) ∧ (0 : Nat) + (1 : Nat) ≤ (1 : Nat) ∧ preOf ([List.take (64 : Nat) (List.replicate (64 : Nat) (0 : Int)), m, List.take (3 : Nat) [IntKind.u8.wrap (n.fdiv ((2 : Int) ^ min (8 : Nat) IntKind.i64.bits)), IntKind.u8.wrap n, (0 : Int)], t', List.take (1 : Nat) [IntKind.u8.wrap (↑t'.length : Int)]], ()) ∧ True ∧ ((0 : Int) ≤ (0 : Int) ∧ (0 : Int) ≤ IntKind.i64.wrap (n + (32 : Int)) ∧ (↑(1 : Nat) : Int) * IntKind.i64.wrap (n + (32 : Int)) ≤ (281474976710656 : Int) ∧ IntKind.i64.wrap (n + (32 : Int)) ≤ (9223372036854775807 : Int)) ∧ (exI n t' ((spl (dig [List.take (64 : Nat) (List.replicate (64 : Nat) (0 : Int)), m, List.take (3 : Nat) [IntKind.u8.wrap (n.fdiv ((2 : Int) ^ min (8 : Nat) IntKind.i64.bits)), IntKind.u8.wrap n, (0 : Int)], t', List.take (1 : Nat) [IntKind.u8.wrap (↑t'.length : Int)]].flatten, ()).fst, ()).fst, [IntKind.u8.wrap (↑t'.length : Int)], List.replicate (IntKind.i64.wrap (n + (32 : Int))).toNat (0 : Int)).snd.fst ((spl (dig [List.take (64 : Nat) (List.replicate (64 : Nat) (0 : Int)), m, List.take (3 : Nat) [IntKind.u8.wrap (n.fdiv ((2 : Int) ^ min (8 : Nat) IntKind.i64.bits)), IntKind.u8.wrap n, (0 : Int)], t', List.take (1 : Nat) [IntKind.u8.wrap (↑t'.length : Int)]].flatten, ()).fst, ()).fst, [IntKind.u8.wrap (↑t'.length : Int)], List.replicate (IntKind.i64.wrap (n + (32 : Int))).toNat (0 : Int)).fst ((1 : Int), (0 : Nat), (IntKind.i64.wrap (n + (32 : Int))).toNat, ((spl (dig [List.take (64 : Nat) (List.replicate (64 : Nat) (0 : Int)), m, List.take (3 : Nat) [IntKind.u8.wrap (n.fdiv ((2 : Int) ^ min (8 : Nat) IntKind.i64.bits)), IntKind.u8.wrap n, (0 : Int)], t', List.take (1 : Nat) [IntKind.u8.wrap (↑t'.length : Int)]].flatten, ()).fst, ()).fst, [IntKind.u8.wrap (↑t'.length : Int)], List.replicate (IntKind.i64.wrap (n + (32 : Int))).toNat (0 : Int)).snd.snd, List.replicate (8 : Nat) (0 : Int))).triv (spl (dig [List.take (64 : Nat) (List.replicate (64 : Nat) (0 : Int)), m, List.take (3 : Nat) [IntKind.u8.wrap (n.fdiv ((2 : Int) ^ min (8 : Nat) IntKind.i64.bits)), IntKind.u8.wrap n, (0 : Int)], t', List.take (1 : Nat) [IntKind.u8.wrap (↑t'.length : Int)]].flatten) = fstF m t' n ∧ [IntKind.u8.wrap (↑t'.length : Int)] = endF t'))) (by kernel_rfl) ?_
      have e1 : IntKind.i64.wrap (n + 32) = n + 32 := wrap_i64' (by omega) (by omega)
      have e2 : List.take 64 (List.replicate 64 (0 : Int)) = List.replicate 64 0 := by rw [List.take_of_length_le (by simp)]
      have e3 : ∀ a b c : Int, List.take 3 [a, b, c] = [a, b, c] := fun _ _ _ => rfl
      have e4 : ∀ a : Int, List.take 1 [a] = [a] := fun _ => rfl
      rw [e1, e2, e3, e4]
      refine ⟨⟨by decide, by decide, by decide, by decide⟩, by decide, fun _ _ h => h, by decide, by decide, by decide, ⟨?_, by show 5 ≤ _; decide⟩, trivial, ⟨by decide, by omega, by omega, by omega⟩, triv_intro ⟨rfl, rfl⟩⟩
      show (List.flatten [List.replicate 64 (0 : Int), m, [_, _, 0], t', [_]]).length ≤ 1099511627776
      simp only [List.flatten_cons, List.flatten_nil, List.length_append, List.length_replicate, List.length_cons, List.length_nil]
      omega
    rintro ⟨f, e, x0⟩ ⟨hf, he⟩
    revert f e x0
    intro (f : List Int) (e : List Int) (x0 : List Int) (hf : f = fstF m t' n) (he : e = endF t')
    refine tr_while hsp mixed (fun σ => [(264, rdI 11 σ)]) (fun σ => (rdS (.int .i64) 13 σ, rdL 11 σ, rdN 264 σ, rdR bK 264 σ, rdR uK 280 σ)) (exI n t' e f) (exJ n t' f) (fun g => n.toNat - g.2.1)
      (fun σ => (rdS (.int .i64) 13 σ, rdL 11 σ, rdN 264 σ, rdR bK 264 σ, rdR uK 280 σ)) (exI n t' e f) (fun g => exJ n t' f g ∧ n ≤ (g.2.1 : Int)) (1, 0, (IntKind.i64.wrap (n + 32)).toNat, x0, List.replicate 8 0) (c := nthC (codeOf Tryd.f13) 10) (by kernel_rfl) (by kernel_rfl) (le_of_proj (by kernel_rfl) (by kernel_rfl) ?_) ?_ ?_
    · refine ⟨0, rfl, rfl, Nat.zero_le _, rfl, rfl, ?_⟩
      show ((0 : Nat) : Int) < n + 32
      omega
    · rintro ⟨i, L, N, xs, last⟩ hj
      revert i xs last
      intro (i : Int) (xs : List Int) (last : List Int) (hj : exJ n t' f (i, L, N, xs, last))
      obtain ⟨k, ei, eL, hLN, hx, hl, hk⟩ := hj
      have ei : i = (k : Int) + 1 := ei
      have eL : L = 32 * k := eL
      have hLN : L ≤ N := hLN
      have hx : xs.take (32 * k) = (exK f t' k).1 := hx
      have hl : last = (exK f t' k).2 := hl
      have hbl := byt_len (ovr f last)
      refine vcx (X := ((decide ((↑L : Int) < n) = true → True ∧ True ∧ (∀ (g : Nat) (s : Sigma Car), shaG g = some s → Decidable.rec (fun h => (fun x => if g = (1 : Nat) then some ⟨Kd.arr (64 : Nat) uK, rootsL⟩ else none) h) (fun h => (fun x => some ⟨Kd.arr (8 : Nat) uK, firstL⟩) h) (instDecidableEqNat g (0 : Nat)) = some s) ∧ (0 : Nat) + (32 : Nat) ≤ (32 : Nat) ∧ (0 : Nat) + (1 : Nat) ≤ (1 : Nat) ∧ (0 : Nat) + (1 : Nat) ≤ (1 : Nat) ∧ preOf ([List.take (32 : Nat) (byt (ovr f last)), List.take (1 : Nat) [IntKind.u8.wrap i], t', List.take (1 : Nat) e], ()) ∧ (0 : Nat) + (32 : Nat) ≤ (32 : Nat) ∧ L ≤ N ∧ (L + (32 : Nat)) * (1 : Nat) ≤ (140737488355328 : Nat) ∧ L + (32 : Nat) ≤ (4611686018427387904 : Nat) ∧ True ∧ (exI n t' e f (IntKind.i64.wrap (i + (1 : Int)), L + (32 : Nat), L + (32 : Nat), List.take L xs ++ List.take (32 : Nat) (dig [List.take (32 : Nat) (byt (ovr f last, ()).fst, ()).fst, List.take (1 : Nat) [IntKind.u8.wrap i], t', List.take (1 : Nat) e].flatten, ()).fst, (spl (dig [List.take (32 : Nat) (byt (ovr f last, ()).fst, ()).fst, List.take (1 : Nat) [IntKind.u8.wrap i], t', List.take (1 : Nat) e].flatten, ()).fst, ()).fst)).triv (exJ n t' f (IntKind.i64.wrap (i + (1 : Int)), L + (32 : Nat), L + (32 : Nat), List.take L xs ++ List.take (32 : Nat) (dig [List.take (32 : Nat) (byt (ovr f last)), List.take (1 : Nat) [IntKind.u8.wrap i], t', List.take (1 : Nat) e].flatten), spl (dig [List.take (32 : Nat) (byt (ovr f last)), List.take (1 : Nat) [IntKind.u8.wrap i], t', List.take (1 : Nat) e].flatten)) ∧ n.toNat - (L + (32 : Nat)) < n.toNat - L)) ∧ (decide ((↑L : Int) < n) = false → (exI n t' e f (i, L, N, xs, last)).triv (exJ n t' f (i, L, N, xs, last) ∧ n ≤ (↑L : Int))))) (by kernel_rfl) ?_
      have e5 : List.take 32 (byt (ovr f last)) = byt (ovr f last) := List.take_of_length_le (by omega)
      have e4 : ∀ a : Int, List.take 1 [a] = [a] := fun _ => rfl
      have e6 : List.take 1 e = e := by rw [he]; rfl
      have e7 : ∀ l, List.take 32 (dig l) = dig l := fun l => List.take_of_length_le (by rw [dig_len]; omega)
      refine ⟨fun h => ?_, fun h => triv_intro ⟨⟨k, ei, eL, hLN, hx, hl, hk⟩, by have := of_decide_eq_false h; omega⟩⟩
      have hLn : (L : Int) < n := of_decide_eq_true h
      have e8 : dig (List.flatten [byt (ovr f last), [IntKind.u8.wrap i], t', e]) = nxD f t' k (exK f t' k).2 := by
        rw [nxD, hl, ei, he]
      rw [e5, e4, e6, e8]
      refine ⟨trivial, trivial, fun _ _ h => h, by decide, by decide, by decide, ⟨?_, by show 4 ≤ _; decide⟩, by decide, hLN, by omega, by omega, trivial, ?_⟩
      · show (List.flatten [byt (ovr f last), [IntKind.u8.wrap i], t', e]).length ≤ 1099511627776
        rw [he]
        simp only [List.flatten_cons, List.flatten_nil, List.length_append, List.length_cons, List.length_nil, hbl, endF]
        omega
      · refine triv_intro ⟨⟨k + 1, ?_, ?_, Nat.le_refl _, ?_, ?_, ?_⟩, by omega⟩
        · show IntKind.i64.wrap (i + 1) = _
          rw [ei, wrap_i64' (by omega) (by omega)]; omega
        · show L + 32 = _
          omega
        · show List.take (32 * (k + 1)) (List.take L xs ++ List.take 32 (nxD f t' k (exK f t' k).2)) = _
          rw [nxD, e7, List.take_of_length_le (by rw [List.length_append, List.length_take, dig_len]; omega), eL, hx]
          rfl
        · rfl
        · show ((32 * (k + 1) : Nat) : Int) < n + 32
          omega
    rintro ⟨i, L, N, xs, last⟩ hj
    revert i xs last
    intro (i : Int) (xs : List Int) (last : List Int) (hj : exJ n t' f (i, L, N, xs, last) ∧ n ≤ (L : Int))
    refine tr_vc hsp mixed _ _ ?_
    obtain ⟨⟨k, ei, eL, hLN, hx, hl, hk⟩, hnL⟩ := hj
    have eL : L = 32 * k := eL
    have hLN : L ≤ N := hLN
    have hx : xs.take (32 * k) = (exK f t' k).1 := hx
    have hk : ((32 * k : Nat) : Int) < n + 32 := hk
    have hnL : n ≤ (L : Int) := hnL
    have hA : exA m t n = (expo m t n, 0) := by
      rw [exA, decide_eq_false (by omega), decide_eq_false (by omega)]; rfl
    have hkk : (n.toNat + 31) / 32 = k := by omega
    have hE : xs.take n.toNat = expo m t n := by
      rw [expo, opq_eq, expF, htag, hkk, ← hf, ← hx, List.take_take, Nat.min_eq_left (by omega)]
    rw [hA]
    refine vcx (X := (((0 : Int) ≤ n ∧ n ≤ n ∧ n ≤ (↑L : Int)) ∧ (0 : Nat) + (n - (0 : Int)).toNat ≤ N ∧ (List.take (n - (0 : Int)).toNat xs, (0 : Int), ()) = (expo m t n, (0 : Int), ()))) (by kernel_rfl) ?_
    have e1 : (n - 0).toNat = n.toNat := by omega
    rw [e1, hE]
    exact ⟨⟨by omega, by omega, hnL⟩, by omega, rfl⟩
  refine tr_cut hsp mixed 4 (exS0 m n t) (0 ≤ n ∧ n ≤ 8160) ?_ (fun hn => ?_)
  · refine vcx (X := ((decide (n < (0 : Int)) = true → ([], (1 : Int), ()) = ((exA m t n).fst, (exA m t n).snd, ())) ∧ (decide (n < (0 : Int)) = false → (decide (n > (8160 : Int)) = true → ([], (1 : Int), ()) = ((exA m t n).fst, (exA m t n).snd, ())) ∧ (decide (n > (8160 : Int)) = false → (exS0 m n t).triv ((0 : Int) ≤ n ∧ n ≤ (8160 : Int)))))) (by kernel_rfl) ?_
    refine ⟨fun h => ?_, fun h => ⟨fun h2 => ?_, fun h2 => triv_intro ⟨by have := of_decide_eq_false h; omega, by have := of_decide_eq_false h2; omega⟩⟩⟩
    · rw [exA, h]; rfl
    · rw [exA, h, h2]; rfl
  refine tr_cond (c := nthC (codeOf Tryd.f13) 4) (decide ((t.length : Int) > 255)) (by kernel_rfl) (by kernel_rfl) (by kernel_rfl) (fun hT => ?_) (fun hT => ?_)
  · have hT : 255 < t.length := by have := of_decide_eq_true hT; omega
    refine tr_cutF hsp mixed 2 (fun σ => rdR bK 128 σ) (exS1 m n) (fun d => d = dig (overS ++ t)) ?_ ?_
    · refine vcx (X := ((∀ (g : Nat) (s : Sigma Car), shaG g = some s → Decidable.rec (fun h => (fun x => if g = (1 : Nat) then some ⟨Kd.arr (64 : Nat) uK, rootsL⟩ else none) h) (fun h => (fun x => some ⟨Kd.arr (8 : Nat) uK, firstL⟩) h) (instDecidableEqNat g (0 : Nat)) = some s) ∧ (0 : Nat) + (nat_lit 16 + (1 : Nat)) ≤ (17 : Nat) ∧ preOf ([List.take (nat_lit 16 + (1 : Nat)) [(72 : Int), (50 : Int), (67 : Int), (45 : Int), (79 : Int), (86 : Int), (69 : Int), (82 : Int), (83 : Int), (73 : Int), (90 : Int), (69 : Int), (45 : Int), (68 : Int), (83 : Int), (84 : Int), (45 : Int)], t], ()) ∧ (exS1 m n (dig [List.take (nat_lit 16 + (1 : Nat)) [(72 : Int), (50 : Int), (67 : Int), (45 : Int), (79 : Int), (86 : Int), (69 : Int), (82 : Int), (83 : Int), (73 : Int), (90 : Int), (69 : Int), (45 : Int), (68 : Int), (83 : Int), (84 : Int), (45 : Int)], t].flatten, ()).fst).triv (dig [List.take (nat_lit 16 + (1 : Nat)) [(72 : Int), (50 : Int), (67 : Int), (45 : Int), (79 : Int), (86 : Int), (69 : Int), (82 : Int), (83 : Int), (73 : Int), (90 : Int), (69 : Int), (45 : Int), (68 : Int), (83 : Int), (84 : Int), (45 : Int)], t].flatten = dig (overS ++ t)))) (by kernel_rfl) ?_
      refine ⟨fun _ _ h => h, by decide, ⟨?_, by show 2 ≤ _; decide⟩, triv_intro ?_⟩
      · show (List.flatten [overS, t]).length ≤ 1099511627776
        simp only [List.flatten_cons, List.flatten_nil, List.length_append, List.length_nil]
        have : overS.length = 17 := rfl
        omega
      · show dig (List.flatten [overS, t]) = _
        simp only [List.flatten_cons, List.flatten_nil, List.append_nil]
    intro (d : List Int) (hd : d = dig (overS ++ t))
    have hdl : d.length = 32 := by rw [hd, dig_len]
    refine tr_frzI 1 128 32 1 .u8 d (by kernel_rfl) (by kernel_rfl) hdl ?_
    refine tr_le (τ := exS m n d) (K := True) (le_of_proj (by kernel_rfl) (by kernel_rfl) trivial) (fun _ => ?_)
    exact tr_eqL (by kernel_rfl) (rest d (by omega) hn.1 hn.2 (by rw [tagF, decide_eq_true hT, hd]))
  · have hT : ¬ 255 < t.length := by have := of_decide_eq_false hT; omega
    refine tr_le (τ := exS m n t) (K := True) (le_of_proj (by kernel_rfl) (by kernel_rfl) trivial) (fun _ => ?_)
    exact tr_eqL (by kernel_rfl) (rest t (by omega) hn.1 hn.2 (by rw [tagF, decide_eq_false hT]))
end Go.Proofs.YtbfimfdhmggieaaDoor.xmd
/- Bytes and words, numbers. No program here. -/
namespace Cr

/-- Bytes. -/
def Bs (l : List Int) : Prop := ∀ x ∈ l, 0 ≤ x ∧ x < 256

/-- The number that bytes are, the highest first. -/
def num (l : List Int) : Int := l.foldl (fun a b => a * 256 + b) 0

def p256 : Nat → Int
  | 0 => 1
  | n + 1 => 256 * p256 n

theorem p256_pos (n : Nat) : 0 < p256 n := by
  induction n with
  | zero => decide
  | succ n ih => simp only [p256]; omega

theorem p256_add (m n : Nat) : p256 (m + n) = p256 m * p256 n := by
  induction m with
  | zero => simp [p256]
  | succ m ih => rw [Nat.succ_add]; simp only [p256, ih, Int.mul_assoc]

theorem p256_8 (n : Nat) : p256 (8 * n) = pw n := by
  induction n with
  | zero => rfl
  | succ n ih =>
    rw [Nat.mul_succ, Nat.add_comm, p256_add, ih]
    rfl

theorem num_snoc (l : List Int) (b : Int) : num (l ++ [b]) = num l * 256 + b := by simp [num]

theorem foldl_num (l : List Int) : ∀ a : Int, l.foldl (fun a b => a * 256 + b) a = a * p256 l.length + num l := by
  induction l with
  | nil => intro a; simp [num, p256]
  | cons b l ih =>
    intro a
    simp only [List.foldl_cons, List.length_cons, p256, num]
    rw [ih, ih (0 * 256 + b)]
    simp only [Int.add_mul, Int.zero_mul, Int.zero_add]
    rw [show a * 256 * p256 l.length = a * (256 * p256 l.length) from Int.mul_assoc _ _ _]
    omega

theorem num_append (l m : List Int) : num (l ++ m) = num l * p256 m.length + num m := by
  show (l ++ m).foldl _ 0 = _
  rw [List.foldl_append, foldl_num]
  rfl

theorem num_bd {l : List Int} (h : Bs l) : 0 ≤ num l ∧ num l < p256 l.length := by
  induction l with
  | nil => simp [num, p256]
  | cons b l ih =>
    have hb := h b (by simp)
    have hi := ih (fun x hx => h x (by simp [hx]))
    have e : num (b :: l) = b * p256 l.length + num l := num_append [b] l ▸ by simp [num]
    rw [e, List.length_cons]
    simp only [p256]
    have hp := p256_pos l.length
    have h1 := Int.mul_nonneg hb.1 (Int.le_of_lt hp)
    have h2 : b * p256 l.length ≤ 255 * p256 l.length := Int.mul_le_mul_of_nonneg_right (by omega) (Int.le_of_lt hp)
    omega

theorem Bs_take {l : List Int} (h : Bs l) (n : Nat) : Bs (l.take n) := fun x hx => h x (List.mem_of_mem_take hx)
theorem Bs_drop {l : List Int} (h : Bs l) (n : Nat) : Bs (l.drop n) := fun x hx => h x (List.mem_of_mem_drop hx)

theorem num_take_succ {l : List Int} {k : Nat} (h : k < l.length) : num (l.take (k + 1)) = num (l.take k) * 256 + l.getD k 0 := by
  rw [List.take_succ_eq_append_getElem h, num_snoc]
  congr 1
  simp [h]

/-- One word more. -/
theorem lim_set : ∀ (n j : Nat) (A d : Int), j < n → 0 ≤ d → (lim n A).getD j 0 + d < 18446744073709551616 →
    (lim n A).set j ((lim n A).getD j 0 + d) = lim n (A + d * pw j) := by
  intro n
  induction n with
  | zero => intro j A d h; omega
  | succ n ih =>
    intro j A d hj hd hlt
    cases j with
    | zero =>
      simp only [lim, List.getD_cons_zero, List.set_cons_zero, pw, Int.mul_one] at hlt ⊢
      have h1 : (A + d) % 18446744073709551616 = A % 18446744073709551616 + d := by omega
      have h2 : (A + d) / 18446744073709551616 = A / 18446744073709551616 := by omega
      rw [h1, h2]
    | succ j =>
      simp only [lim, List.getD_cons_succ, List.set_cons_succ, pw] at hlt ⊢
      rw [ih j _ d (by omega) hd hlt]
      have e : d * (18446744073709551616 * pw j) = 18446744073709551616 * (d * pw j) := by rw [Int.mul_left_comm]
      have h1 : (A + 18446744073709551616 * (d * pw j)) % 18446744073709551616 = A % 18446744073709551616 := by omega
      have h2 : (A + 18446744073709551616 * (d * pw j)) / 18446744073709551616 = A / 18446744073709551616 + d * pw j := by omega
      rw [e, h1, h2]

theorem lim_get : ∀ (n j : Nat) (A : Int), j < n → (lim n A).getD j 0 = A / pw j % 18446744073709551616 := by
  intro n
  induction n with
  | zero => intro j A h; omega
  | succ n ih =>
    intro j A hj
    cases j with
    | zero => simp [lim, pw]
    | succ j =>
      simp only [lim, List.getD_cons_succ, pw]
      rw [ih j _ (by omega), Int.ediv_ediv_of_nonneg (by decide)]

theorem p256_pow (n : Nat) : p256 n = ((2 ^ (8 * n) : Nat) : Int) := by
  induction n with
  | zero => rfl
  | succ n ih => rw [p256, ih, Nat.mul_succ, Nat.pow_add]; simp; omega

/-- The word into which a byte goes, ahead of it. -/
theorem word_at (N : Int) (q : Nat) : (N * p256 (q + 1)) / pw (q / 8) % 18446744073709551616 = N * p256 (q % 8 + 1) % 18446744073709551616 := by
  have e : N * p256 (q + 1) = N * p256 (q % 8 + 1) * pw (q / 8) := by
    rw [← p256_8, Int.mul_assoc, ← p256_add]
    congr 2; omega
  rw [e, Int.mul_ediv_cancel _ (by have := pw_pos (q / 8); omega)]

theorem p256_dvd {m : Nat} (h : m ≤ 8) : ∃ c : Int, (18446744073709551616 : Int) = c * p256 m ∧ 0 < c := by
  refine ⟨p256 (8 - m), ?_, p256_pos _⟩
  rw [← p256_add, Nat.sub_add_cancel h]; rfl

/-- What 'or' lays into a word. -/
theorem or_word {N v : Int} {q : Nat} (hv0 : 0 ≤ v) (hv : v < 256) (hq : q < 8) :
    ∃ c : Nat, N * p256 (q + 1) % 18446744073709551616 = ((c * 2 ^ (8 * (q + 1)) : Nat) : Int) ∧ v * p256 q < p256 (q + 1) ∧ 0 ≤ v * p256 q ∧ N * p256 (q + 1) % 18446744073709551616 + v * p256 q < 18446744073709551616 := by
  obtain ⟨c, hc, hc0⟩ := p256_dvd (m := q + 1) (by omega)
  have hp := p256_pos (q + 1)
  have e : N * p256 (q + 1) % 18446744073709551616 = (N % c) * p256 (q + 1) := by
    rw [hc, Int.mul_comm N, Int.mul_comm c, Int.mul_emod_mul_of_pos _ _ hp, Int.mul_comm]
  have hn0 := Int.emod_nonneg N (show c ≠ 0 by omega)
  have hn1 := Int.emod_lt_of_pos N hc0
  have hvb : v * p256 q < p256 (q + 1) := by
    show _ < 256 * p256 q
    exact Int.mul_lt_mul_of_pos_right hv (p256_pos q)
  have hvn : 0 ≤ v * p256 q := Int.mul_nonneg hv0 (Int.le_of_lt (p256_pos q))
  refine ⟨(N % c).toNat, ?_, hvb, hvn, ?_⟩
  · rw [e, p256_pow]
    rw [Int.natCast_mul, Int.toNat_of_nonneg hn0]
  · rw [e, hc]
    have : (N % c) * p256 (q + 1) + p256 (q + 1) ≤ c * p256 (q + 1) := by
      have := Int.mul_le_mul_of_nonneg_right (show N % c + 1 ≤ c by omega) (Int.le_of_lt hp)
      rw [Int.add_mul, Int.one_mul] at this
      exact this
    omega

/-- Bytes of a number, the highest first. -/
def bytesN (n : Nat) (N : Int) : List Int := (List.range n).map fun i => N / p256 (n - 1 - i) % 256

theorem bytesN_length (n : Nat) (N : Int) : (bytesN n N).length = n := by simp [bytesN]
/-- A byte of a word of a number. -/
theorem byte_at {n : Nat} {N : Int} {i : Nat} (hi : i < 8 * n) : ((lim n N).getD (n - 1 - i / 8) 0) / p256 (7 - i % 8) % 256 = N / p256 (8 * n - 1 - i) % 256 := by
  rw [lim_get _ _ _ (by omega)]
  obtain ⟨c, hc, hc0⟩ := p256_dvd (m := 7 - i % 8 + 1) (by omega)
  have e1 : p256 (8 * n - 1 - i) = pw (n - 1 - i / 8) * p256 (7 - i % 8) := by
    rw [← p256_8, ← p256_add]; congr 1; omega
  rw [e1, ← Int.ediv_ediv_of_nonneg (Int.le_of_lt (pw_pos _))]
  generalize N / pw (n - 1 - i / 8) = A
  have hp := p256_pos (7 - i % 8)
  rw [hc, show p256 (7 - i % 8 + 1) = 256 * p256 (7 - i % 8) from rfl]
  generalize p256 (7 - i % 8) = P at *
  have h1 : A % (c * (256 * P)) = A % (P * (256 * c)) := by congr 1; rw [Int.mul_comm c, Int.mul_comm 256 P, Int.mul_assoc]
  rw [h1]
  have h2 : A % (P * (256 * c)) / P = (A / P) % (256 * c) := by
    rw [Int.emod_def, Int.emod_def, Int.mul_assoc, ← Int.sub_mul_ediv_left _ _ (show P ≠ 0 by omega), ← Int.ediv_ediv_of_nonneg (Int.le_of_lt hp)]
  rw [h2, Int.emod_emod_of_dvd _ ⟨c, rfl⟩]

end Cr
/- What the code's loops over bytes and words compute, as the executor spells it. -/
namespace Go.Eng
open Go Cr

theorem wrap_u8 (a : Int) : IntKind.u8.wrap a = a % 256 := by simp [IntKind.wrap, IntKind.signed, IntKind.bits]
theorem wrap_u64' (a : Int) : IntKind.u64.wrap a = a % 18446744073709551616 := by simp [IntKind.wrap, IntKind.signed, IntKind.bits]

def wk (n i : Int) : Int := IntKind.i64.wrap (IntKind.i64.wrap (n - 1) - i)
def wj (n i : Int) : Int := IntKind.i64.wrap ((wk n i).tdiv 8)
def wsh (n i : Int) : Int := IntKind.i64.wrap (8 * (wk n i).tmod 8)
def wput (ws : List Int) (n i v : Int) : List Int :=
  ws.set (wj n i).toNat (bitOp .or .u64 (ws.getD (wj n i).toNat 0) (IntKind.u64.wrap (IntKind.u64.wrap v * 2 ^ (min (wsh n i).toNat IntKind.u64.bits))))

theorem wk_eq {len k : Nat} (h : k < len) (hl : len < 1000000) : wk len k = ((len - 1 - k : Nat) : Int) := by
  unfold wk
  rw [wrap_i64' (a := (len : Int) - 1) (by omega) (by omega), wrap_i64' (by omega) (by omega)]
  omega

theorem wj_eq {len k : Nat} (h : k < len) (hl : len < 1000000) : wj len k = (((len - 1 - k) / 8 : Nat) : Int) := by
  unfold wj
  rw [wk_eq h hl, Int.tdiv_eq_ediv_of_nonneg (by omega), wrap_i64' (by omega) (by omega)]
  omega

theorem wsh_eq {len k : Nat} (h : k < len) (hl : len < 1000000) : wsh len k = ((8 * ((len - 1 - k) % 8) : Nat) : Int) := by
  unfold wsh
  rw [wk_eq h hl, Int.tmod_eq_emod_of_nonneg (by omega), wrap_i64' (by omega) (by omega)]
  omega

theorem or_u64 (c t y : Nat) (h : y < 2 ^ t) (hlt : c * 2 ^ t + y < 18446744073709551616) : bitOp .or .u64 ((c * 2 ^ t : Nat) : Int) (y : Int) = ((c * 2 ^ t + y : Nat) : Int) := by
  show IntKind.u64.wrap ((BitVec.ofInt 64 ((c * 2 ^ t : Nat) : Int) ||| BitVec.ofInt 64 (y : Int) : BitVec 64).toNat : Int) = _
  have h1 : (BitVec.ofInt 64 ((c * 2 ^ t : Nat) : Int)).toNat = c * 2 ^ t := by
    rw [show BitVec.ofInt 64 ((c * 2 ^ t : Nat) : Int) = BitVec.ofNat 64 (c * 2 ^ t) from BitVec.ofInt_natCast .., BitVec.toNat_ofNat, Nat.mod_eq_of_lt (by omega)]
  have h2 : (BitVec.ofInt 64 (y : Int)).toNat = y := by
    rw [show BitVec.ofInt 64 (y : Int) = BitVec.ofNat 64 y from BitVec.ofInt_natCast .., BitVec.toNat_ofNat, Nat.mod_eq_of_lt (by omega)]
  rw [BitVec.toNat_or, h1, h2]
  have h3 := Nat.shiftLeft_add_eq_or_of_lt h c
  rw [Nat.shiftLeft_eq] at h3
  rw [← h3, wrap_u64']
  omega

theorem wput_ok {n : Nat} {bs : List Int} (hb : Bs bs) (hl : bs.length ≤ 8 * n) (hs : bs.length < 1000000) {k : Nat} (hk : k < bs.length) :
    wput (lim n (num (bs.take k) * p256 (bs.length - k))) bs.length k (bs.getD k 0) = lim n (num (bs.take (k + 1)) * p256 (bs.length - (k + 1))) := by
  unfold wput
  rw [wj_eq hk hs, wsh_eq hk hs]
  simp only [Int.toNat_natCast]
  have hv : 0 ≤ bs.getD k 0 ∧ bs.getD k 0 < 256 := by
    have := hb (bs.getD k 0) (by simp [hk])
    exact this
  rw [num_take_succ hk]
  generalize hq : bs.length - 1 - k = q at *
  generalize bs.getD k 0 = v at *
  have hN := (num_bd (Bs_take hb k)).1
  have e1 : bs.length - k = q + 1 := by omega
  have e2 : bs.length - (k + 1) = q := by omega
  rw [e1, e2]
  generalize num (bs.take k) = N at *
  have hj : q / 8 < n := by omega
  rw [lim_get _ _ _ hj, word_at]
  obtain ⟨c, h1, h2, h3, h4⟩ := or_word (N := N) (v := v) (q := q % 8) hv.1 hv.2 (by omega)
  have hsh : IntKind.u64.wrap (IntKind.u64.wrap v * 2 ^ min (8 * (q % 8)) IntKind.u64.bits) = v * p256 (q % 8) := by
    rw [show IntKind.u64.bits = 64 from rfl, Nat.min_eq_left (by omega), wrap_u64' v, Int.emod_eq_of_lt hv.1 (by omega), p256_pow, wrap_u64']
    have e : ((2 ^ (8 * (q % 8)) : Nat) : Int) = (2 : Int) ^ (8 * (q % 8)) := by simp
    rw [← e, ← p256_pow]
    exact Int.emod_eq_of_lt h3 (by have := Int.emod_nonneg (N * p256 (q % 8 + 1)) (show (18446744073709551616 : Int) ≠ 0 by decide); omega)
  rw [hsh]
  have hor : bitOp .or .u64 (N * p256 (q % 8 + 1) % 18446744073709551616) (v * p256 (q % 8)) = N * p256 (q % 8 + 1) % 18446744073709551616 + v * p256 (q % 8) := by
    obtain ⟨y, hy⟩ := Int.eq_ofNat_of_zero_le h3
    rw [h1, hy] at h4 ⊢
    rw [hy, p256_pow] at h2
    have := or_u64 c (8 * (q % 8 + 1)) y (by omega) (by omega)
    rw [this]
    omega
  rw [hor]
  have hset := lim_set n (q / 8) (N * p256 (q + 1)) (v * p256 (q % 8)) hj h3 (by rw [lim_get _ _ _ hj, word_at]; exact h4)
  rw [lim_get _ _ _ hj, word_at] at hset
  rw [hset]
  congr 1
  rw [Int.add_mul, Int.mul_assoc, Int.mul_assoc, ← p256_8, ← p256_add]
  rw [show q % 8 + 8 * (q / 8) = q by omega]
  rfl

theorem wput_bd {n : Nat} {bs : List Int} (hl : bs.length ≤ 8 * n) (hs : bs.length < 1000000) {k : Nat} (hk : k < bs.length) :
    (0 ≤ wj bs.length k ∧ wj bs.length k < (n : Int)) ∧ (wj bs.length k).toNat < n ∧ 0 ≤ wsh bs.length k := by
  rw [wj_eq hk hs, wsh_eq hk hs]
  exact ⟨⟨by omega, by omega⟩, by omega, by omega⟩

theorem words_zero (n : Nat) (bs : List Int) : lim n (num (bs.take 0) * p256 (bs.length - 0)) = List.replicate n 0 := by
  rw [show num (bs.take 0) = 0 from rfl, Int.zero_mul, lim_zero]

def bj (n i : Int) : Int := IntKind.i64.wrap (n - IntKind.i64.wrap (i.tdiv 8))
def bsh (i : Int) : Int := IntKind.i64.wrap (56 - IntKind.i64.wrap (8 * i.tmod 8))
def bget (n : Int) (ws : List Int) (i : Int) : Int := IntKind.u8.wrap (Int.fdiv (ws.getD (bj n i).toNat 0) (2 ^ min (bsh i).toNat IntKind.u64.bits))

theorem bj_eq {n k : Nat} (h : k < 8 * (n + 1)) (hn : n < 1000) : bj n k = ((n - k / 8 : Nat) : Int) := by
  unfold bj
  rw [Int.tdiv_eq_ediv_of_nonneg (by omega), wrap_i64' (a := (k : Int) / 8) (by omega) (by omega), wrap_i64' (by omega) (by omega)]
  omega

theorem bsh_eq {k : Nat} : bsh k = ((8 * (7 - k % 8) : Nat) : Int) := by
  unfold bsh
  rw [Int.tmod_eq_emod_of_nonneg (by omega), wrap_i64' (a := 8 * ((k : Int) % 8)) (by omega) (by omega), wrap_i64' (by omega) (by omega)]
  omega

theorem bget_ok {n k : Nat} {N : Int} (h : k < 8 * (n + 1)) (hn : n < 1000) : bget n (lim (n + 1) N) k = N / p256 (8 * (n + 1) - 1 - k) % 256 := by
  unfold bget
  rw [bj_eq h hn, bsh_eq, wrap_u8]
  simp only [Int.toNat_natCast]
  rw [show IntKind.u64.bits = 64 from rfl, Nat.min_eq_left (by omega)]
  have e : (2 : Int) ^ (8 * (7 - k % 8)) = p256 (7 - k % 8) := by rw [p256_pow]; simp
  rw [e, Int.fdiv_eq_ediv_of_nonneg _ (Int.le_of_lt (p256_pos _))]
  have := byte_at (n := n + 1) (N := N) (i := k) h
  rw [show n + 1 - 1 - k / 8 = n - k / 8 by omega] at this
  exact this

theorem bget_bd {n k : Nat} (h : k < 8 * (n + 1)) (hn : n < 1000) : (0 ≤ bj n k ∧ bj n k < ((n + 1 : Nat) : Int)) ∧ (bj n k).toNat < n + 1 ∧ 0 ≤ bsh k := by
  rw [bj_eq h hn, bsh_eq]
  exact ⟨⟨by omega, by omega⟩, by omega, by omega⟩

/-- Behind k rounds. -/
def bytesAt (m : Nat) (N : Int) (k : Nat) : List Int := (bytesN m N).take k ++ List.replicate (m - k) 0

theorem bytesAt_zero (m : Nat) (N : Int) : bytesAt m N 0 = List.replicate m 0 := by simp [bytesAt]
theorem bytesAt_all (m : Nat) (N : Int) : bytesAt m N m = bytesN m N := by simp [bytesAt, List.take_of_length_le, bytesN_length]

theorem bytesAt_succ {m : Nat} {N : Int} {k : Nat} (h : k < m) : (bytesAt m N k).set k (N / p256 (m - 1 - k) % 256) = bytesAt m N (k + 1) := by
  unfold bytesAt
  have hl : ((bytesN m N).take k).length = k := by simp [bytesN_length]; omega
  rw [List.set_append_right _ _ (by omega), hl, Nat.sub_self]
  rw [show m - k = (m - (k + 1)) + 1 by omega, List.replicate_succ, List.set_cons_zero]
  rw [List.take_succ_eq_append_getElem (by rw [bytesN_length]; exact h)]
  simp [bytesN]

end Go.Eng
/- words, Bytes of both fields. Printed by gen_byt.py. -/
namespace Go.Proofs.YtbfimfdhmggieaaDoor.fp
set_option maxRecDepth 100000
open Go Go.Eng Go.RowKit Cr Go.Proofs.YtbfimfdhmggieaaDoor

theorem ent_words : enters Tryd.prog 103 Tryd.f103 := enters_mk (by kernel_rfl) (by kernel_rfl) (by kernel_rfl)
noncomputable def wordsI (bs : List Int) (g : Int × List Int) : St := mkSt Tryd.f103.ntmps 40 [(0, .is (.one (.ro (.int .u8) bs))), (2, .is (.one (.ptr 0 0))), (3, .is (.one (.ptr 8 0))), (7, .is (.one (.ro (.int .u8) bs))), (8, sI .i64 bs.length), (9, sI .i64 g.1)] [(8, [.ints .u64 6 g.2]), (0, [.ints .u64 6 (zeros 6)])]
abbrev preWords : HL [.sl (.int .u8)] → Prop := fun (bs, _) => Bs bs ∧ List.length bs ≤ 48
abbrev outWords : HL [.sl (.int .u8)] → HO [.val (.arr 6 (.int .u64))] := fun (bs, _) => (lim 6 (num bs), ())
theorem fn_words : FnOk Tryd.prog 103 [.sl (.int .u8)] [.val (.arr 6 (.int .u64))] noG preWords outWords := by
  refine fn_of_tr (sp := sps []) ent_words (by decide) (by decide) (by kernel_rfl) ?_
  have hsp : SpecsOk Tryd.prog (sps []) := sps_nil
  rintro w M0 ⟨bs, ⟨⟩⟩ _ ⟨hb, hl⟩
  have hb : Bs bs := hb
  have hl : List.length bs ≤ 48 := hl
  show Tr _ _ _ _ _ _ _
  refine tr_cut hsp mixed 3 (wordsI bs (0, List.replicate 6 0)) True ?_ (fun _ => ?_)
  · refine vcx (X := (wordsI bs (0, List.replicate 6 0)).triv True) (by kernel_rfl) (triv_intro trivial)
  rw [← words_zero 6 bs]
  refine tr_count hsp mixed (wordsI bs) (fun k => ((k : Int), lim 6 (num (List.take k bs) * p256 (List.length bs - k)))) bs.length (fun g => (IntKind.i64.wrap (g.1 + 1), wput g.2 bs.length g.1 (bs.getD g.1.toNat 0))) (wordsI bs) (c := nthC (codeOf Tryd.f103) 3) (by kernel_rfl) (by kernel_rfl) (le_of_proj (by kernel_rfl) (by kernel_rfl) trivial)
    (fun k hk => by
      show (_, _) = (_, _)
      rw [wrap_succ (by omega), Int.toNat_natCast, wput_ok hb hl (by omega) hk]) ?_ ?_
  · intro k hk
    refine vcx (X := ((decide ((k : Int) < (bs.length : Int)) = true → (0 ≤ (k : Int) ∧ (k : Int) < (bs.length : Int)) ∧ (k : Int).toNat < bs.length ∧ (8 : Int) ≠ 0 ∧ (0 ≤ wj bs.length k ∧ wj bs.length k < ((6 : Nat) : Int)) ∧ (wj bs.length k).toNat < 6 ∧ (8 : Int) ≠ 0 ∧ 0 ≤ wsh bs.length k ∧ (0 ≤ wj bs.length k ∧ wj bs.length k < ((6 : Nat) : Int)) ∧ (wj bs.length k).toNat < 6 ∧
        (wordsI bs (IntKind.i64.wrap ((k : Int) + 1), wput (lim 6 (num (List.take k bs) * p256 (List.length bs - k))) bs.length k (bs.getD (k : Int).toNat 0))).triv (k < bs.length)) ∧
      (decide ((k : Int) < (bs.length : Int)) = false → (wordsI bs ((k : Int), lim 6 (num (List.take k bs) * p256 (List.length bs - k)))).triv (k = bs.length)))) (by kernel_rfl) ?_
    refine ⟨fun h => ?_, fun h => triv_intro (by have := dec_ge h; omega)⟩
    have hlt : k < bs.length := by have := dec_lt h; omega
    obtain ⟨b1, b2, b3⟩ := wput_bd (n := 6) hl (by omega) hlt
    exact ⟨⟨by omega, by omega⟩, by omega, by decide, b1, b2, by decide, b3, b1, b2, triv_intro hlt⟩
  refine tr_vc hsp mixed _ _ ?_
  refine vcx (X := ((lim 6 (num (List.take bs.length bs) * p256 (List.length bs - bs.length)), ()) : List Int × Unit) = outWords (bs, ())) (by kernel_rfl) ?_
  rw [List.take_length, Nat.sub_self, p256, Int.mul_one]
noncomputable def spWords : Nat × Eng.Spec := (103, fnSpec [.sl (.int .u8)] [.val (.arr 6 (.int .u64))] preWords outWords)

theorem ent_plain : enters Tryd.prog 49 Tryd.f49 := enters_mk (by kernel_rfl) (by kernel_rfl) (by kernel_rfl)
abbrev outPlain : HL [.fp] → HO [.val (.arr 6 (.int .u64))] := fun (x, _) => (lim 6 (Zm.v (x : Fp)), ())
theorem fn_plain : FnOk Tryd.prog 49 [.fp] [.val (.arr 6 (.int .u64))] noG (fun _ => True) outPlain := by
  refine fn_of_vc (sp := sps [spTimes]) (sps_cons (fnSpec_ok fn_times) sps_nil) mixed ent_plain (by decide) (by decide) ?_
  rintro w M0 ⟨x, ⟨⟩⟩ _ _
  refine vcx (X := (preTimes (enc x, [1, 0, 0, 0, 0, 0], ()) ∧ ((lim 6 (val (enc x) * val [1, 0, 0, 0, 0, 0] * rinv % M), ()) : List Int × Unit) = outPlain (x, ()))) (by kernel_rfl) ?_
  refine ⟨⟨enc_ws x, by intro y hy; simp at hy; rcases hy with rfl | rfl <;> exact ⟨by decide, by decide⟩, (enc_canon x).2.2⟩, ?_⟩
  rw [show lim 6 (val (enc x) * val [1, 0, 0, 0, 0, 0] * rinv % M) = lim 6 x.v from plain_enc x (by decide)]
noncomputable def spPlain : Nat × Eng.Spec := (49, fnSpec [.fp] [.val (.arr 6 (.int .u64))] (fun _ => True) outPlain)

theorem ent_bytes : enters Tryd.prog 16 Tryd.f16 := enters_mk (by kernel_rfl) (by kernel_rfl) (by kernel_rfl)
noncomputable def bytesI (ws : List Int) (g : Int × List Int) : St := mkSt Tryd.f16.ntmps 64 [(2, .is (.one (.ptr 8 0))), (3, .is (.one (.ptr 16 0))), (4, .is (.one (.ptr 40 0))), (8, sI .i64 g.1)] [(8, [.ints .u8 48 (zeros 48)]), (16, [.ints .u8 48 g.2]), (40, [.ints .u64 6 ws])]
abbrev outBytes : HL [.fp] → HO [.val (.arr 48 (.int .u8))] := fun (x, _) => (bytesN 48 (Zm.v (x : Fp)), ())
theorem fn_bytes : FnOk Tryd.prog 16 [.fp] [.val (.arr 48 (.int .u8))] noG (fun _ => True) outBytes := by
  have hsp : SpecsOk Tryd.prog (sps [spPlain]) := sps_cons (fnSpec_ok fn_plain) sps_nil
  refine fn_of_tr (sp := sps [spPlain]) ent_bytes (by decide) (by decide) (by kernel_rfl) ?_
  rintro w M0 ⟨x, ⟨⟩⟩ _ _
  show Tr _ _ _ _ _ _ _
  refine tr_cut hsp mixed 4 (bytesI (lim 6 x.v) (0, List.replicate 48 0)) True ?_ (fun _ => ?_)
  · refine vcx (X := True ∧ (bytesI (lim 6 x.v) (0, List.replicate 48 0)).triv True) (by kernel_rfl) ⟨trivial, triv_intro trivial⟩
  rw [← bytesAt_zero 48 x.v]
  refine tr_count hsp mixed (bytesI (lim 6 x.v)) (fun k => ((k : Int), bytesAt 48 x.v k)) 48 (fun g => (IntKind.i64.wrap (g.1 + 1), g.2.set g.1.toNat (bget (5 : Nat) (lim 6 x.v) g.1))) (bytesI (lim 6 x.v)) (c := nthC (codeOf Tryd.f16) 4) (by kernel_rfl) (by kernel_rfl) (le_of_proj (by kernel_rfl) (by kernel_rfl) trivial)
    (fun k hk => by
      show (_, _) = (_, _)
      rw [wrap_succ (by omega), Int.toNat_natCast, bget_ok (n := 5) hk (by omega), bytesAt_succ hk]) ?_ ?_
  · intro k hk
    refine vcx (X := ((decide ((k : Int) < 48) = true → (8 : Int) ≠ 0 ∧ (0 ≤ bj (5 : Nat) k ∧ bj (5 : Nat) k < ((6 : Nat) : Int)) ∧ (bj (5 : Nat) k).toNat < 6 ∧ (8 : Int) ≠ 0 ∧ 0 ≤ bsh k ∧ (0 ≤ (k : Int) ∧ (k : Int) < ((48 : Nat) : Int)) ∧ (k : Int).toNat < 48 ∧
        (bytesI (lim 6 x.v) (IntKind.i64.wrap ((k : Int) + 1), (bytesAt 48 x.v k).set (k : Int).toNat (bget (5 : Nat) (lim 6 x.v) k))).triv (k < 48)) ∧
      (decide ((k : Int) < 48) = false → (bytesI (lim 6 x.v) ((k : Int), bytesAt 48 x.v k)).triv (k = 48)))) (by kernel_rfl) ?_
    refine ⟨fun h => ?_, fun h => triv_intro (by have := dec_ge h; omega)⟩
    have hlt : k < 48 := by have := dec_lt h; omega
    obtain ⟨b1, b2, b3⟩ := bget_bd (n := 5) hlt (by omega)
    exact ⟨by decide, b1, b2, by decide, b3, ⟨by omega, by omega⟩, by omega, triv_intro hlt⟩
  refine tr_vc hsp mixed _ _ ?_
  refine vcx (X := ((bytesAt 48 x.v 48, ()) : List Int × Unit) = outBytes (x, ())) (by kernel_rfl) ?_
  rw [bytesAt_all]
noncomputable def spBytes : Nat × Eng.Spec := (16, fnSpec [.fp] [.val (.arr 48 (.int .u8))] (fun _ => True) outBytes)

end Go.Proofs.YtbfimfdhmggieaaDoor.fp
namespace Go.Proofs.YtbfimfdhmggieaaDoor.fr
set_option maxRecDepth 100000
open Go Go.Eng Go.RowKit Cr Go.Proofs.YtbfimfdhmggieaaDoor

end Go.Proofs.YtbfimfdhmggieaaDoor.fr
/- Read, Odd, Large of package fp; Wide of package fr. -/
namespace Go.Proofs.YtbfimfdhmggieaaDoor.fp
set_option maxRecDepth 100000
open Go Go.Eng Go.RowKit Cr Go.Proofs.YtbfimfdhmggieaaDoor

end Go.Proofs.YtbfimfdhmggieaaDoor.fp

namespace Go.Proofs.YtbfimfdhmggieaaDoor.fr
set_option maxRecDepth 100000
open Go Go.Eng Go.RowKit Cr Go.Proofs.YtbfimfdhmggieaaDoor

end Go.Proofs.YtbfimfdhmggieaaDoor.fr
/- The references' Copy; law07: scalar, long. -/
namespace Go.Proofs.YtbfimfdhmggieaaDoor.ref01
set_option maxRecDepth 100000
open Go Go.Eng Go.RowKit Cr Go.Proofs.YtbfimfdhmggieaaDoor

theorem ent_copy : enters Tryd.prog 11 Tryd.f11 := enters_mk (by kernel_rfl) (by kernel_rfl) (by kernel_rfl)
noncomputable def cpI (b : List Int) (g : Int × List Int) : St := mkSt Tryd.f11.ntmps 64 [(0, .is (.one (.ro (.int .u8) b))), (3, .is (.one (.sl 24 0 0 (b.length : Int).toNat 1))), (9, sI .i64 b.length), (10, sI .i64 g.1)] [(24, [.ints .u8 (b.length : Int).toNat g.2])]
def cpL (b : List Int) (k : Nat) : List Int := b.take k ++ List.replicate (b.length - k) 0
theorem cpL_step {b : List Int} {k : Nat} (h : k < b.length) : (cpL b k).set k (b.getD k 0) = cpL b (k + 1) := by
  unfold cpL
  rw [List.set_append_right _ _ (by simp; omega), List.take_succ_eq_append_getElem h]
  have e : b.length - k = (b.length - (k + 1)) + 1 := by omega
  have e2 : k - (b.take k).length = 0 := by simp; omega
  rw [e2, e, List.replicate_succ, List.set_cons_zero, List.append_assoc]
  simp [h]
abbrev preCopy : HL [.sl (.int .u8)] → Prop := fun (b, _) => List.length b ≤ 281474976710656
abbrev outCopy : HL [.sl (.int .u8)] → HO [.own (.int .u8)] := fun (b, _) => (b, ())
theorem fn_copy : FnOk Tryd.prog 11 [.sl (.int .u8)] [.own (.int .u8)] noG preCopy outCopy := by
  have hsp : SpecsOk Tryd.prog (sps []) := sps_nil
  refine fn_of_tr (sp := sps []) ent_copy (by decide) (by decide) (by kernel_rfl) ?_
  rintro w M0 ⟨b, ⟨⟩⟩
  revert b
  intro (b : List Int) _ hl
  have hl : b.length ≤ 281474976710656 := hl
  show Tr _ _ _ _ _ _ _
  refine tr_cut hsp mixed 3 (cpI b (0, List.replicate (b.length : Int).toNat 0)) True ?_ (fun _ => ?_)
  · refine vcx (X := ((0 ≤ (b.length : Int) ∧ (b.length : Int) ≤ (b.length : Int) ∧ ((1 : Nat) : Int) * (b.length : Int) ≤ 281474976710656 ∧ (b.length : Int) ≤ 9223372036854775807) ∧ (cpI b (0, List.replicate (b.length : Int).toNat 0)).triv True)) (by kernel_rfl) ?_
    exact ⟨⟨by omega, by omega, by omega, by omega⟩, triv_intro trivial⟩
  rw [show List.replicate (b.length : Int).toNat (0 : Int) = cpL b 0 by simp [cpL]]
  refine tr_count hsp mixed (cpI b) (fun k => ((k : Int), cpL b k)) b.length (fun g => (IntKind.i64.wrap (g.1 + 1), g.2.set g.1.toNat (b.getD g.1.toNat 0))) (cpI b) (c := nthC (codeOf Tryd.f11) 3) (by kernel_rfl) (by kernel_rfl) (le_of_proj (by kernel_rfl) (by kernel_rfl) trivial)
    (fun k hk => by show (_, _) = (_, _); rw [wrap_succ (by omega), Int.toNat_natCast, cpL_step hk]) ?_ ?_
  · intro k hk
    generalize cpL b k = xs
    refine vcx (X := ((decide ((k : Int) < (b.length : Int)) = true → (0 ≤ (k : Int) ∧ (k : Int) < (b.length : Int)) ∧ (k : Int).toNat < b.length ∧ (0 ≤ (k : Int) ∧ (k : Int) < ((b.length : Int).toNat : Int)) ∧ (k : Int).toNat < (b.length : Int).toNat ∧ (cpI b (IntKind.i64.wrap ((k : Int) + 1), xs.set (k : Int).toNat (b.getD (k : Int).toNat 0))).triv (k < b.length)) ∧
      (decide ((k : Int) < (b.length : Int)) = false → (cpI b ((k : Int), xs)).triv (k = b.length)))) (by kernel_rfl) ?_
    refine ⟨fun h => ?_, fun h => triv_intro (by have := dec_ge h; omega)⟩
    have hlt : k < b.length := by have := dec_lt h; omega
    exact ⟨⟨by omega, by omega⟩, by omega, ⟨by omega, by omega⟩, by omega, triv_intro hlt⟩
  · refine tr_vc hsp mixed _ _ ?_
    refine vcx (X := (0 + (b.length : Int).toNat ≤ (b.length : Int).toNat ∧ (((cpL b b.length).take (b.length : Int).toNat, ()) : List Int × Unit) = outCopy (b, ()))) (by kernel_rfl) ⟨by omega, ?_⟩
    simp [cpL, outCopy]
noncomputable def spCopy : Nat × Eng.Spec := (11, fnSpec [.sl (.int .u8)] [.own (.int .u8)] preCopy outCopy)
end Go.Proofs.YtbfimfdhmggieaaDoor.ref01
/- g1: number, Gen; codec: mark, G1. -/
namespace Go.Proofs.YtbfimfdhmggieaaDoor
open Go Go.Eng Cr

end Go.Proofs.YtbfimfdhmggieaaDoor
namespace Go.Proofs.YtbfimfdhmggieaaDoor.g1
set_option maxRecDepth 100000
open Go Go.Eng Go.RowKit Cr Go.Proofs.YtbfimfdhmggieaaDoor

end Go.Proofs.YtbfimfdhmggieaaDoor.g1

namespace Go.Proofs.YtbfimfdhmggieaaDoor.codec
set_option maxRecDepth 100000
open Go Go.Eng Go.RowKit Cr Go.Proofs.YtbfimfdhmggieaaDoor

end Go.Proofs.YtbfimfdhmggieaaDoor.codec
/- Powers, and the digits of an exponent. No program here. -/
namespace Cr
section
variable {M : Int} [Md M]

theorem one_mul' (a : Zm M) : 1 * a = a := by rw [mul_comm', mul_one']

def zpow (x : Zm M) : Nat → Zm M
  | 0 => 1
  | n + 1 => zpow x n * x

/-- The same; nothing unfolds it. -/
noncomputable def zpw (x : Zm M) (E : Int) : Zm M := Classical.choose (⟨zpow x E.toNat, rfl⟩ : ∃ y, y = zpow x E.toNat)
theorem zpw_eq (x : Zm M) (E : Int) : zpw x E = zpow x E.toNat := Classical.choose_spec (⟨zpow x E.toNat, rfl⟩ : ∃ y, y = zpow x E.toNat)

end

end Cr
/- What the loops of 'power' compute, as the executor spells it. -/
namespace Go.Eng
open Go Cr

end Go.Eng
/- power, Inv of package fp. Printed by gen_pow.py. -/
namespace Go.Proofs.YtbfimfdhmggieaaDoor.fp
set_option maxRecDepth 100000
open Go Go.Eng Go.RowKit Cr Go.Proofs.YtbfimfdhmggieaaDoor

end Go.Proofs.YtbfimfdhmggieaaDoor.fp
namespace Cr

class Rg (F : Type) extends Add F, Mul F, Neg F, Sub F, Zero F, One F where
  add_comm : ∀ a b : F, a + b = b + a
  add_assoc : ∀ a b c : F, a + b + c = a + (b + c)
  zero_add : ∀ a : F, 0 + a = a
  neg_add : ∀ a : F, -a + a = 0
  sub_def : ∀ a b : F, a - b = a + -b
  mul_comm : ∀ a b : F, a * b = b * a
  mul_assoc : ∀ a b c : F, a * b * c = a * (b * c)
  one_mul : ∀ a : F, 1 * a = a
  add_mul : ∀ a b c : F, (a + b) * c = a * c + b * c

namespace Rg
variable {F : Type} [Rg F]

theorem add_zero (a : F) : a + 0 = a := by rw [add_comm, zero_add]
theorem add_neg (a : F) : a + -a = 0 := by rw [add_comm, neg_add]
theorem mul_one (a : F) : a * 1 = a := by rw [mul_comm, one_mul]
theorem mul_add (a b c : F) : a * (b + c) = a * b + a * c := by rw [mul_comm, add_mul, mul_comm b, mul_comm c]
theorem add_left {a b c : F} (h : a + b = a + c) : b = c := by
  have := congrArg (fun x => -a + x) h
  simpa only [← add_assoc, neg_add, zero_add] using this
theorem zero_mul (a : F) : 0 * a = 0 := by
  have h : 0 * a + 0 * a = 0 * a + 0 := by rw [← add_mul, add_zero, add_zero]
  exact add_left h
theorem mul_zero (a : F) : a * 0 = 0 := by rw [mul_comm, zero_mul]
theorem neg_eq {a b : F} (h : a + b = 0) : -a = b := by
  have : -a + (a + b) = -a + 0 := by rw [h]
  rw [← add_assoc, neg_add, zero_add, add_zero] at this
  exact this.symm
theorem neg_mul (a b : F) : -a * b = -(a * b) := by
  refine (neg_eq ?_).symm
  rw [← add_mul, add_neg, zero_mul]
theorem mul_neg (a b : F) : a * -b = -(a * b) := by rw [mul_comm, neg_mul, mul_comm]
theorem neg_neg (a : F) : - -a = a := neg_eq (neg_add a)
theorem neg_zero : -(0 : F) = 0 := neg_eq (zero_add 0)
theorem neg_add_rev (a b : F) : -(a + b) = -a + -b := by
  refine neg_eq ?_
  rw [add_assoc, ← add_assoc b, add_comm b, add_assoc (-a), add_neg, add_zero, add_neg]
theorem sub_self (a : F) : a - a = 0 := by rw [sub_def, add_neg]
theorem eq_of_sub {a b : F} (h : a - b = 0) : a = b := by
  rw [sub_def, add_comm] at h
  have := neg_eq h
  rw [neg_neg] at this
  exact this.symm
theorem sub_of_eq {a b : F} (h : a = b) : a - b = 0 := by rw [h, sub_self]
theorem add_add_add (a b c d : F) : a + b + (c + d) = a + c + (b + d) := by
  rw [add_assoc, add_assoc, ← add_assoc b, add_comm b c, add_assoc c]

/-- Natural numbers. -/
def nc : Nat → F
  | 0 => 0
  | n + 1 => nc n + 1
theorem nc_add (m n : Nat) : nc (m + n) = (nc m + nc n : F) := by
  induction n with
  | zero => exact (add_zero _).symm
  | succ n ih => show nc (m + n) + 1 = nc m + (nc n + 1); rw [ih, add_assoc]
theorem nc_mul (m n : Nat) : nc (m * n) = (nc m * nc n : F) := by
  induction n with
  | zero => exact (mul_zero _).symm
  | succ n ih => show nc (m * n + m) = nc m * (nc n + 1); rw [nc_add, ih, mul_add, mul_one]
/-- Integers. -/
def ic (a : Int) : F := nc a.toNat + -nc (-a).toNat
theorem ic_of {a : Int} {x y : Nat} (h : a = (x : Int) - y) : ic a = (nc x + -nc y : F) := by
  unfold ic
  have e : a.toNat + y = x + (-a).toNat := by omega
  have e2 : (nc a.toNat + nc y : F) = nc x + nc (-a).toNat := by rw [← nc_add, ← nc_add, e]
  generalize (nc a.toNat : F) = p at *
  generalize (nc (-a).toNat : F) = q at *
  generalize (nc x : F) = u at *
  generalize (nc y : F) = v at *
  have : p = u + q + -v := by rw [← e2, add_assoc, add_neg, add_zero]
  rw [this, add_assoc, add_assoc, add_comm (-v), ← add_assoc q, add_neg, zero_add]
theorem ic_split (a : Int) : a = (a.toNat : Int) - ((-a).toNat : Nat) := by omega
theorem ic_add (a b : Int) : ic (a + b) = (ic a + ic b : F) := by
  rw [ic_of (a := a + b) (x := a.toNat + b.toNat) (y := (-a).toNat + (-b).toNat) (by omega), nc_add, nc_add, neg_add_rev]
  exact add_add_add _ _ _ _
theorem ic_mul (a b : Int) : ic (a * b) = (ic a * ic b : F) := by
  have h : a * b = ((a.toNat * b.toNat + (-a).toNat * (-b).toNat : Nat) : Int) - ((a.toNat * (-b).toNat + (-a).toNat * b.toNat : Nat) : Int) := by
    conv => lhs; rw [ic_split a, ic_split b]
    simp only [Int.natCast_add, Int.natCast_mul, Int.sub_mul, Int.mul_sub]
    omega
  rw [ic_of h]
  unfold ic
  generalize hp : (nc a.toNat : F) = p
  generalize hq : (nc (-a).toNat : F) = q
  generalize hu : (nc b.toNat : F) = u
  generalize hv : (nc (-b).toNat : F) = v
  rw [nc_add, nc_add, nc_mul, nc_mul, nc_mul, nc_mul, hp, hq, hu, hv, add_mul, mul_add, mul_add, mul_neg, neg_mul, neg_mul, mul_neg, neg_neg, neg_add_rev]
  rw [add_add_add (p * u) (q * v), add_comm (q * v)]
theorem ic_one : ic 1 = (1 : F) := by
  show (0 + 1 : F) + -0 = 1
  rw [zero_add, neg_zero, add_zero]
theorem ic_zero : ic 0 = (0 : F) := by
  show (0 : F) + -0 = 0
  rw [zero_add, neg_zero]
theorem ic_neg_one : ic (-1) = (-1 : F) := by
  show (0 : F) + -(0 + 1) = -1
  rw [zero_add, zero_add]
end Rg

/-- Expressions. -/
inductive PE
  | v (i : Nat)
  | one
  | zero
  | add (a b : PE)
  | mul (a b : PE)
  | sub (a b : PE)
  | neg (a : PE)
instance : Add PE := ⟨.add⟩
instance : Mul PE := ⟨.mul⟩
instance : Sub PE := ⟨.sub⟩
instance : Neg PE := ⟨.neg⟩
instance : One PE := ⟨.one⟩
instance : Zero PE := ⟨.zero⟩

def nth {F : Type} [Zero F] : List F → Nat → F
  | [], _ => 0
  | x :: _, 0 => x
  | _ :: l, n + 1 => nth l n
def PE.ev {F : Type} [Rg F] (l : List F) : PE → F
  | .v i => nth l i
  | .one => 1
  | .zero => 0
  | .add a b => a.ev l + b.ev l
  | .mul a b => a.ev l * b.ev l
  | .sub a b => a.ev l - b.ev l
  | .neg a => -a.ev l

abbrev Mo := List Nat
abbrev Po := List (Mo × Int)
def insM (i : Nat) : Mo → Mo
  | [] => [i]
  | j :: l => match Nat.ble i j with
    | true => i :: j :: l
    | false => j :: insM i l
def mulM : Mo → Mo → Mo
  | [], m => m
  | i :: l, m => insM i (mulM l m)
def eqM : Mo → Mo → Bool
  | [], [] => true
  | i :: l, j :: m => match Nat.beq i j with
    | true => eqM l m
    | false => false
  | _, _ => false
def ltM : Mo → Mo → Bool
  | [], [] => false
  | [], _ => true
  | _, [] => false
  | i :: l, j :: m => match Nat.beq i j with
    | true => ltM l m
    | false => Nat.blt i j
def addT (m : Mo) (c : Int) : Po → Po
  | [] => [(m, c)]
  | t :: p => match eqM m t.1 with
    | true => (m, c + t.2) :: p
    | false => match ltM m t.1 with
      | true => (m, c) :: t :: p
      | false => t :: addT m c p
def addP : Po → Po → Po
  | [], q => q
  | t :: p, q => addT t.1 t.2 (addP p q)
def mulT (m : Mo) (c : Int) : Po → Po → Po
  | [], acc => acc
  | t :: q, acc => addT (mulM m t.1) (c * t.2) (mulT m c q acc)
def mulP : Po → Po → Po
  | [], _ => []
  | t :: p, q => mulT t.1 t.2 q (mulP p q)
def scP (c : Int) : Po → Po
  | [] => []
  | t :: p => (t.1, c * t.2) :: scP c p
def PE.nf : PE → Po
  | .v i => [([i], 1)]
  | .one => [([], 1)]
  | .zero => []
  | .add a b => addP a.nf b.nf
  | .mul a b => mulP a.nf b.nf
  | .sub a b => addP (scP (-1) b.nf) a.nf
  | .neg a => scP (-1) a.nf
def isZ : Po → Bool
  | [] => true
  | t :: p => match t.2 with
    | .ofNat 0 => isZ p
    | _ => false

section
variable {F : Type} [Rg F] (l : List F)
open Rg
def evM : Mo → F
  | [] => 1
  | i :: m => nth l i * evM m
def evP : Po → F
  | [] => 0
  | t :: p => ic t.2 * evM l t.1 + evP p
theorem insM_ev (i : Nat) : ∀ m : Mo, evM l (insM i m) = nth l i * evM l m := by
  intro m
  induction m with
  | nil => rfl
  | cons j m ih =>
    unfold insM
    split
    · rfl
    · show nth l j * evM l (insM i m) = nth l i * (nth l j * evM l m)
      rw [ih, ← mul_assoc, ← mul_assoc, mul_comm (nth l j)]
theorem mulM_ev : ∀ a m : Mo, evM l (mulM a m) = evM l a * evM l m := by
  intro a
  induction a with
  | nil => intro m; exact (one_mul _).symm
  | cons i a ih => intro m; show evM l (insM i (mulM a m)) = nth l i * evM l a * evM l m; rw [insM_ev, ih, mul_assoc]
theorem eqM_eq : ∀ {a b : Mo}, eqM a b = true → a = b := by
  intro a
  induction a with
  | nil => intro b h; cases b with
    | nil => rfl
    | cons j m => simp [eqM] at h
  | cons i a ih => intro b h; cases b with
    | nil => simp [eqM] at h
    | cons j m =>
      unfold eqM at h
      split at h
      · rename_i hb; rw [Nat.eq_of_beq_eq_true hb, ih h]
      · cases h
theorem addT_ev (m : Mo) (c : Int) : ∀ p : Po, evP l (addT m c p) = ic c * evM l m + evP l p := by
  intro p
  induction p with
  | nil => rfl
  | cons t p ih =>
    unfold addT
    split
    · rename_i h
      show ic (c + t.2) * evM l m + evP l p = ic c * evM l m + (ic t.2 * evM l t.1 + evP l p)
      rw [eqM_eq h, ic_add, add_mul, add_assoc]
    · split
      · rfl
      · show ic t.2 * evM l t.1 + evP l (addT m c p) = ic c * evM l m + (ic t.2 * evM l t.1 + evP l p)
        rw [ih, ← add_assoc, ← add_assoc, add_comm (ic t.2 * evM l t.1)]
theorem addP_ev : ∀ p q : Po, evP l (addP p q) = evP l p + evP l q := by
  intro p
  induction p with
  | nil => intro q; exact (zero_add _).symm
  | cons t p ih => intro q; show evP l (addT t.1 t.2 (addP p q)) = _; rw [addT_ev, ih]; exact (add_assoc _ _ _).symm
theorem mulT_ev (m : Mo) (c : Int) : ∀ q acc : Po, evP l (mulT m c q acc) = ic c * evM l m * evP l q + evP l acc := by
  intro q
  induction q with
  | nil => intro acc; show evP l acc = ic c * evM l m * 0 + evP l acc; rw [mul_zero, zero_add]
  | cons t q ih =>
    intro acc
    show evP l (addT (mulM m t.1) (c * t.2) (mulT m c q acc)) = ic c * evM l m * (ic t.2 * evM l t.1 + evP l q) + evP l acc
    rw [addT_ev, ih, mulM_ev, ic_mul, mul_add, add_assoc]
    congr 1
    rw [mul_assoc, mul_assoc, ← mul_assoc (ic t.2), mul_comm (ic t.2), mul_assoc (evM l m)]
theorem mulP_ev : ∀ p q : Po, evP l (mulP p q) = evP l p * evP l q := by
  intro p
  induction p with
  | nil => intro q; exact (zero_mul _).symm
  | cons t p ih => intro q; show evP l (mulT t.1 t.2 q (mulP p q)) = (ic t.2 * evM l t.1 + evP l p) * evP l q; rw [mulT_ev, ih, add_mul]
theorem scP_ev (c : Int) : ∀ p : Po, evP l (scP c p) = ic c * evP l p := by
  intro p
  induction p with
  | nil => exact (mul_zero _).symm
  | cons t p ih => show ic (c * t.2) * evM l t.1 + evP l (scP c p) = ic c * (ic t.2 * evM l t.1 + evP l p); rw [ih, ic_mul, mul_add, mul_assoc]
theorem nf_ev : ∀ e : PE, evP l e.nf = e.ev l := by
  intro e
  induction e with
  | v i => show ic 1 * (nth l i * 1) + 0 = nth l i; rw [ic_one, add_zero, one_mul, mul_one]
  | one => show ic 1 * 1 + 0 = (1 : F); rw [ic_one, add_zero, one_mul]
  | zero => rfl
  | add a b iha ihb => show evP l (addP a.nf b.nf) = a.ev l + b.ev l; rw [addP_ev, iha, ihb]
  | mul a b iha ihb => show evP l (mulP a.nf b.nf) = a.ev l * b.ev l; rw [mulP_ev, iha, ihb]
  | sub a b iha ihb => show evP l (addP (scP (-1) b.nf) a.nf) = a.ev l - b.ev l; rw [addP_ev, scP_ev, iha, ihb, ic_neg_one, neg_mul, one_mul, sub_def, add_comm]
  | neg a iha => show evP l (scP (-1) a.nf) = -a.ev l; rw [scP_ev, iha, ic_neg_one, neg_mul, one_mul]
theorem isZ_ev : ∀ {p : Po}, isZ p = true → evP l p = 0 := by
  intro p
  induction p with
  | nil => intro _; rfl
  | cons t p ih =>
    intro h
    obtain ⟨m, c⟩ := t
    unfold isZ at h
    split at h
    · rename_i hc
      have hc : c = 0 := hc
      show ic c * evM l m + evP l p = 0
      rw [hc, ic_zero, zero_mul, zero_add, ih h]
    · cases h
/-- An identity, by computation. -/
theorem rid (a b : PE) (h : isZ (PE.nf (.sub a b)) = true) : a.ev l = b.ev l := by
  have := isZ_ev l h
  rw [nf_ev] at this
  exact eq_of_sub this
end

/-- Fields. -/
class Fd (F : Type) extends Rg F where
  deq : DecidableEq F
  inv : F → F
  mul_inv : ∀ a : F, a ≠ 0 → a * inv a = 1
  one_ne : (1 : F) ≠ 0
  two_ne : (1 + 1 : F) ≠ 0
  three_ne : (1 + 1 + 1 : F) ≠ 0
attribute [instance_reducible, instance] Fd.deq

namespace Fd
open Rg
variable {F : Type} [Fd F]
theorem mul_eq_zero {a b : F} (h : a * b = 0) : a = 0 ∨ b = 0 := by
  by_cases ha : a = 0
  · exact .inl ha
  · right
    have : inv a * (a * b) = 0 := by rw [h, mul_zero]
    rwa [← mul_assoc, mul_comm (inv a), mul_inv a ha, one_mul] at this
theorem mul_ne {a b : F} (ha : a ≠ 0) (hb : b ≠ 0) : a * b ≠ 0 := fun h => (mul_eq_zero h).elim ha hb
theorem mul_left {a b c : F} (ha : a ≠ 0) (h : a * b = a * c) : b = c := by
  have : inv a * (a * b) = inv a * (a * c) := by rw [h]
  rwa [← mul_assoc, ← mul_assoc, mul_comm (inv a), mul_inv a ha, one_mul, one_mul] at this
theorem double_eq_zero {a : F} (h : a + a = 0) : a = 0 := by
  have : (1 + 1) * a = 0 := by rw [add_mul, one_mul]; exact h
  exact (mul_eq_zero this).resolve_left two_ne
theorem sub_ne {a b : F} (h : a ≠ b) : a - b ≠ 0 := fun e => h (eq_of_sub e)
end Fd
end Cr
