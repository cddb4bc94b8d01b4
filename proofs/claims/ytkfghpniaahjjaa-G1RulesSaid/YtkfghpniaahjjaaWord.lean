/- Words of 64 bits: the library's Mul64, Add64, Sub64. -/
import Derived.Test.YtkfghpniaahjjaaEngG
import Derived.Test.YtkfghpniaahjjaaNum
import Derived.Test.YtkfghpniaahjjaaProg
namespace Go.Proofs.Ytkfghpniaahjjaa
open Go Go.Eng Go.RowKit Cr

theorem mixed : Try.prog.follows .mixedOrders = true := by kernel_rfl

theorem wrap_u64 {a : Int} (h0 : 0 ≤ a) (h1 : a < 18446744073709551616) : IntKind.u64.wrap a = a := by
  simp only [IntKind.wrap, IntKind.signed, IntKind.bits]
  simp only [Bool.false_and]
  exact Int.emod_eq_of_lt h0 (by simpa using h1)

theorem wrap_u64_mod (a : Int) : IntKind.u64.wrap a = a % 18446744073709551616 := by
  simp [IntKind.wrap, IntKind.signed, IntKind.bits]

theorem wrap_i64 {a : Int} (h0 : -9223372036854775808 ≤ a) (h1 : a < 9223372036854775808) : IntKind.i64.wrap a = a := by
  have e : IntKind.i64.wrap a = if (9223372036854775808 : Int) ≤ a % 18446744073709551616 then a % 18446744073709551616 - 18446744073709551616 else a % 18446744073709551616 := by
    simp [IntKind.wrap, IntKind.signed, IntKind.bits]
  rw [e]
  split <;> omega

theorem toNat_ofInt64 (n : Nat) (h : n < 18446744073709551616) : (BitVec.ofInt 64 (n : Int)).toNat = n := by
  rw [show BitVec.ofInt 64 (n : Int) = BitVec.ofNat 64 n from by simp, BitVec.toNat_ofNat, Nat.mod_eq_of_lt (by omega)]

theorem and_u64 (n m : Nat) (hn : n < 18446744073709551616) (hm : m < 18446744073709551616) : bitOp .and .u64 n m = ((n &&& m : Nat) : Int) := by
  show IntKind.u64.wrap ((BitVec.ofInt 64 n &&& BitVec.ofInt 64 m : BitVec 64).toNat : Int) = _
  rw [BitVec.toNat_and, toNat_ofInt64 n hn, toNat_ofInt64 m hm, wrap_u64 (by omega)]
  have := Nat.and_le_left (n := n) (m := m)
  omega

theorem and_mask {a : Int} (h0 : 0 ≤ a) (h1 : a < 18446744073709551616) : bitOp .and .u64 a 4294967295 = a % 4294967296 := by
  obtain ⟨n, rfl⟩ := Int.eq_ofNat_of_zero_le h0
  have := and_u64 n 4294967295 (by omega) (by omega)
  rw [show ((4294967295 : Nat) : Int) = 4294967295 from rfl] at this
  rw [this]
  have h := Nat.and_two_pow_sub_one_eq_mod n 32
  rw [show 2 ^ 32 - 1 = 4294967295 from rfl] at h
  rw [h]
  omega

theorem mul_split (a1 a0 b1 b0 : Int) : (a1 * 4294967296 + a0) * (b1 * 4294967296 + b0) = a1 * b1 * 18446744073709551616 + (a1 * b0) * 4294967296 + (a0 * b1) * 4294967296 + a0 * b0 := by
  grind

theorem mul_bd {x y m n : Int} (hx0 : 0 ≤ x) (hx : x ≤ m) (hy0 : 0 ≤ y) (hy : y ≤ n) : 0 ≤ x * y ∧ x * y ≤ m * n := by
  refine ⟨Int.mul_nonneg hx0 hy0, Int.mul_le_mul hx hy hy0 (by omega)⟩

def hi64 (a b : Int) : Int :=
  let s := fun x : Int => Int.fdiv x (2 ^ min (Int.toNat 32) IntKind.u64.bits)
  let m := fun x : Int => bitOp .and .u64 x 4294967295
  let W := IntKind.u64.wrap
  let t := W (W (s a * m b) + s (W (m a * m b)))
  W (W (W (s a * s b) + s t) + s (W (m t + W (m a * s b))))

theorem hi64_eq {a b : Int} (ha0 : 0 ≤ a) (ha : a < 18446744073709551616) (hb0 : 0 ≤ b) (hb : b < 18446744073709551616) : hi64 a b = a * b / 18446744073709551616 := by
  have hs : ∀ x : Int, Int.fdiv x (2 ^ min (Int.toNat 32) IntKind.u64.bits) = x / 4294967296 := by
    intro x
    rw [show (2 : Int) ^ min (Int.toNat 32) IntKind.u64.bits = 4294967296 from by decide]
    exact Int.fdiv_eq_ediv_of_nonneg x (by decide)
  unfold hi64
  simp only [hs, and_mask ha0 ha, and_mask hb0 hb]
  have ea : a = (a / 4294967296) * 4294967296 + a % 4294967296 := by omega
  have eb : b = (b / 4294967296) * 4294967296 + b % 4294967296 := by omega
  have key := mul_split (a / 4294967296) (a % 4294967296) (b / 4294967296) (b % 4294967296)
  rw [← ea, ← eb] at key
  have d1 := mul_bd (x := a / 4294967296) (y := b / 4294967296) (m := 4294967295) (n := 4294967295) (by omega) (by omega) (by omega) (by omega)
  have d2 := mul_bd (x := a / 4294967296) (y := b % 4294967296) (m := 4294967295) (n := 4294967295) (by omega) (by omega) (by omega) (by omega)
  have d3 := mul_bd (x := a % 4294967296) (y := b / 4294967296) (m := 4294967295) (n := 4294967295) (by omega) (by omega) (by omega) (by omega)
  have d4 := mul_bd (x := a % 4294967296) (y := b % 4294967296) (m := 4294967295) (n := 4294967295) (by omega) (by omega) (by omega) (by omega)
  generalize a * b = ab at *
  generalize (a / 4294967296) * (b / 4294967296) = p11 at *
  generalize (a / 4294967296) * (b % 4294967296) = p10 at *
  generalize (a % 4294967296) * (b / 4294967296) = p01 at *
  generalize (a % 4294967296) * (b % 4294967296) = p00 at *
  rw [wrap_u64 (a := p00) (by omega) (by omega), wrap_u64 (a := p10) (by omega) (by omega), wrap_u64 (a := p01) (by omega) (by omega), wrap_u64 (a := p11) (by omega) (by omega)]
  rw [wrap_u64 (a := p10 + p00 / 4294967296) (by omega) (by omega)]
  rw [and_mask (a := p10 + p00 / 4294967296) (by omega) (by omega)]
  rw [wrap_u64 (a := (p10 + p00 / 4294967296) % 4294967296 + p01) (by omega) (by omega)]
  rw [wrap_u64 (a := p11 + (p10 + p00 / 4294967296) / 4294967296) (by omega) (by omega)]
  rw [wrap_u64 (by omega) (by omega)]
  omega

theorem ent_mul64 : enters Try.prog 111 Try.f111 := enters_mk (by kernel_rfl) (by kernel_rfl) (by kernel_rfl)

abbrev preMul64 : HL [.int .u64, .int .u64] → Prop := fun (a, b, _) => U64 a ∧ U64 b
abbrev outMul64 : HL [.int .u64, .int .u64] → HO [.val (.int .u64), .val (.int .u64)] := fun (a, b, _) => ((a : Int) * b / 18446744073709551616, (a : Int) * b % 18446744073709551616, ())

theorem fn_mul64 : FnOk Try.prog 111 [.int .u64, .int .u64] [.val (.int .u64), .val (.int .u64)] noG preMul64 outMul64 := by
  refine fn_of_vc sps_nil mixed ent_mul64 (by decide) (by decide) ?_
  rintro w M ⟨a, b, ⟨⟩⟩ _ ⟨⟨ha0, ha⟩, hb0, hb⟩
  refine vcx (X := ((0 : Int) ≤ 32 ∧ (0 : Int) ≤ 32 ∧ (0 : Int) ≤ 32 ∧ (0 : Int) ≤ 32 ∧ (0 : Int) ≤ 32 ∧ (((hi64 a b, IntKind.u64.wrap (a * b), ()) : Int × Int × Unit) = outMul64 (a, b, ())))) (by kernel_rfl) ?_
  refine ⟨by decide, by decide, by decide, by decide, by decide, ?_⟩
  rw [hi64_eq ha0 ha hb0 hb, wrap_u64_mod]

abbrev preCarry : HL [.int .u64, .int .u64, .int .u64] → Prop := fun (a, b, c, _) => U64 a ∧ U64 b ∧ ((c : Int) = 0 ∨ (c : Int) = 1)
abbrev outAdd64 : HL [.int .u64, .int .u64, .int .u64] → HO [.val (.int .u64), .val (.int .u64)] := fun (a, b, c, _) => (((a : Int) + b + c) % 18446744073709551616, ((a : Int) + b + c) / 18446744073709551616, ())
abbrev outSub64 : HL [.int .u64, .int .u64, .int .u64] → HO [.val (.int .u64), .val (.int .u64)] := fun (a, b, c, _) => (((a : Int) - b - c) % 18446744073709551616, (if (a : Int) < b + c then (1 : Int) else 0), ())

theorem run_add64 (a b : Int) (w : World) : (callFunc 92 #[.int .u64 a, .int .u64 b, .int .u64 0]).run Try.prog w = .ok (.value (.tuple #[.int .u64 (Int.ofNat ((a.toNat + b.toNat + 0) % 18446744073709551616)), .int .u64 (Int.ofNat ((a.toNat + b.toNat + 0) / 18446744073709551616))])) w ∧
    (callFunc 92 #[.int .u64 a, .int .u64 b, .int .u64 1]).run Try.prog w = .ok (.value (.tuple #[.int .u64 (Int.ofNat ((a.toNat + b.toNat + 1) % 18446744073709551616)), .int .u64 (Int.ofNat ((a.toNat + b.toNat + 1) / 18446744073709551616))])) w := by
  constructor <;> kernel_rfl

theorem run_sub64 (a b : Int) (w : World) : (callFunc 110 #[.int .u64 a, .int .u64 b, .int .u64 0]).run Try.prog w = .ok (.value (.tuple #[.int .u64 (Int.ofNat ((a.toNat + 18446744073709551616 - b.toNat - 0) % 18446744073709551616)), .int .u64 (Int.ofNat (if a.toNat < b.toNat + 0 then 1 else 0))])) w ∧
    (callFunc 110 #[.int .u64 a, .int .u64 b, .int .u64 1]).run Try.prog w = .ok (.value (.tuple #[.int .u64 (Int.ofNat ((a.toNat + 18446744073709551616 - b.toNat - 1) % 18446744073709551616)), .int .u64 (Int.ofNat (if a.toNat < b.toNat + 1 then 1 else 0))])) w := by
  constructor <;> kernel_rfl

theorem fn_add64 : FnOk Try.prog 92 [.int .u64, .int .u64, .int .u64] [.val (.int .u64), .val (.int .u64)] noG preCarry outAdd64 := by
  rintro w M us ⟨a, b, c, ⟨⟩⟩ _ _ ⟨u1, _, rfl, h1, u2, _, rfl, h2, u3, _, rfl, h3, rfl⟩ ⟨⟨ha0, ha⟩, ⟨hb0, hb⟩, hc⟩
  have e1 : u1 = .int .u64 a := by have : [u1] = [Value.int .u64 a] := h1; simpa using this
  have e2 : u2 = .int .u64 b := by have : [u2] = [Value.int .u64 b] := h2; simpa using this
  have e3 : u3 = .int .u64 c := by have : [u3] = [Value.int .u64 c] := h3; simpa using this
  subst e1 e2 e3
  refine .inr ?_
  · obtain ⟨n, rfl⟩ := Int.eq_ofNat_of_zero_le ha0
    obtain ⟨m, rfl⟩ := Int.eq_ofNat_of_zero_le hb0
    have e : ∀ c : Nat, (Value.tuple #[.int .u64 (Int.ofNat (((n : Int).toNat + (m : Int).toNat + c) % 18446744073709551616)), .int .u64 (Int.ofNat (((n : Int).toNat + (m : Int).toNat + c) / 18446744073709551616))]) = .tuple #[.int .u64 (((n : Int) + m + c) % 18446744073709551616), .int .u64 (((n : Int) + m + c) / 18446744073709551616)] := by
      intro c; congr 3
    rcases hc with rfl | rfl
    · exact ⟨_, w, (run_add64 n m w).1, [_, _], none, e 0, ⟨_, _, rfl, rfl, _, _, rfl, rfl, rfl⟩, Below.refl _ _⟩
    · exact ⟨_, w, (run_add64 n m w).2, [_, _], none, e 1, ⟨_, _, rfl, rfl, _, _, rfl, rfl, rfl⟩, Below.refl _ _⟩

theorem fn_sub64 : FnOk Try.prog 110 [.int .u64, .int .u64, .int .u64] [.val (.int .u64), .val (.int .u64)] noG preCarry outSub64 := by
  rintro w M us ⟨a, b, c, ⟨⟩⟩ _ _ ⟨u1, _, rfl, h1, u2, _, rfl, h2, u3, _, rfl, h3, rfl⟩ ⟨⟨ha0, ha⟩, ⟨hb0, hb⟩, hc⟩
  have e1 : u1 = .int .u64 a := by have : [u1] = [Value.int .u64 a] := h1; simpa using this
  have e2 : u2 = .int .u64 b := by have : [u2] = [Value.int .u64 b] := h2; simpa using this
  have e3 : u3 = .int .u64 c := by have : [u3] = [Value.int .u64 c] := h3; simpa using this
  subst e1 e2 e3
  refine .inr ?_
  · obtain ⟨n, rfl⟩ := Int.eq_ofNat_of_zero_le ha0
    obtain ⟨m, rfl⟩ := Int.eq_ofNat_of_zero_le hb0
    have e : ∀ c : Nat, c ≤ 1 → (Value.tuple #[.int .u64 (Int.ofNat (((n : Int).toNat + 18446744073709551616 - (m : Int).toNat - c) % 18446744073709551616)), .int .u64 (Int.ofNat (if (n : Int).toNat < (m : Int).toNat + c then 1 else 0))]) = .tuple #[.int .u64 (((n : Int) - m - c) % 18446744073709551616), .int .u64 (if (n : Int) < m + c then 1 else 0)] := by
      intro c hc
      have e1 : (Int.ofNat (((n : Int).toNat + 18446744073709551616 - (m : Int).toNat - c) % 18446744073709551616)) = ((n : Int) - m - c) % 18446744073709551616 := by
        simp only [Int.toNat_natCast, Int.ofNat_eq_natCast]; omega
      have e2 : (Int.ofNat (if (n : Int).toNat < (m : Int).toNat + c then 1 else 0)) = (if (n : Int) < m + c then 1 else 0) := by
        simp only [Int.toNat_natCast, Int.ofNat_eq_natCast]
        split <;> split <;> omega
      rw [e1, e2]
    rcases hc with rfl | rfl
    · exact ⟨_, w, (run_sub64 n m w).1, [_, _], none, e 0 (by omega), ⟨_, _, rfl, rfl, _, _, rfl, rfl, rfl⟩, Below.refl _ _⟩
    · exact ⟨_, w, (run_sub64 n m w).2, [_, _], none, e 1 (by omega), ⟨_, _, rfl, rfl, _, _, rfl, rfl, rfl⟩, Below.refl _ _⟩

noncomputable def spMul64 : Nat × Eng.Spec := (111, fnSpec [.int .u64, .int .u64] [.val (.int .u64), .val (.int .u64)] preMul64 outMul64)
noncomputable def spAdd64 : Nat × Eng.Spec := (92, fnSpec [.int .u64, .int .u64, .int .u64] [.val (.int .u64), .val (.int .u64)] preCarry outAdd64)
noncomputable def spSub64 : Nat × Eng.Spec := (110, fnSpec [.int .u64, .int .u64, .int .u64] [.val (.int .u64), .val (.int .u64)] preCarry outSub64)

/-- What Sub64 asks, word by word. -/
def subPre : List Int → List Int → Int → Prop → Prop
  | a :: us, b :: vs, k, K => preCarry (a, b, k, ()) ∧ subPre us vs (if a < b + k then 1 else 0) K
  | _, _, _, K => K

theorem subPre_ok {K : Prop} : ∀ (us vs : List Int) (k : Int), us.length = vs.length → Ws us → Ws vs → (k = 0 ∨ k = 1) → K → subPre us vs k K := by
  intro us
  induction us with
  | nil => intro vs k h _ _ _ hK; exact hK
  | cons a us ih =>
    intro vs k h ha hb hk hK
    cases vs with
    | nil => simp at h
    | cons b vs => exact ⟨⟨ha a (by simp), hb b (by simp), hk⟩, ih vs _ (by simpa using h) (fun y hy => ha y (by simp [hy])) (fun y hy => hb y (by simp [hy])) (by split <;> simp) hK⟩

def addPre : List Int → List Int → Int → Prop → Prop
  | a :: us, b :: vs, k, K => preCarry (a, b, k, ()) ∧ addPre us vs ((a + b + k) / 18446744073709551616) K
  | _, _, _, K => K

theorem addPre_ok {K : Prop} : ∀ (us vs : List Int) (k : Int), us.length = vs.length → Ws us → Ws vs → (k = 0 ∨ k = 1) → K → addPre us vs k K := by
  intro us
  induction us with
  | nil => intro vs k h _ _ _ hK; exact hK
  | cons a us ih =>
    intro vs k h ha hb hk hK
    cases vs with
    | nil => simp at h
    | cons b vs =>
      obtain ⟨a0, a1⟩ := ha a (by simp)
      obtain ⟨b0, b1⟩ := hb b (by simp)
      exact ⟨⟨⟨a0, a1⟩, ⟨b0, b1⟩, hk⟩, ih vs _ (by simpa using h) (fun y hy => ha y (by simp [hy])) (fun y hy => hb y (by simp [hy])) (by omega) hK⟩

end Go.Proofs.Ytkfghpniaahjjaa
