/- ref03: Hex, Modulus. -/
import Derived.Test.YtbfimfdhmggieaaML14vPU
/- ref03: word, Less, Plus, Minus. -/
namespace Cr
/-- Numbers in words of 16 bits, the lowest first. -/
def pv16 : Nat → Int
  | 0 => 1
  | n + 1 => 65536 * pv16 n
def v16 : List Int → Int
  | [] => 0
  | w :: ws => w + 65536 * v16 ws
def W16 (l : List Int) : Prop := ∀ w ∈ l, 0 ≤ w ∧ w < 65536
def w16 (k : Nat) (N : Int) : List Int := (List.range k).map fun i => N / pv16 i % 65536
theorem pv16_pos : ∀ n, 0 < pv16 n
  | 0 => by decide
  | n + 1 => by have := pv16_pos n; simp only [pv16]; omega
theorem w16_len (k : Nat) (N : Int) : (w16 k N).length = k := by simp [w16]
theorem w16_W (k : Nat) (N : Int) : W16 (w16 k N) := by
  intro w hw
  simp only [w16, List.mem_map] at hw
  obtain ⟨i, _, rfl⟩ := hw
  omega
theorem v16_nn : ∀ {l : List Int}, W16 l → 0 ≤ v16 l
  | [], _ => Int.le_refl _
  | w :: ws, h => by
    have h1 := (h w (by simp)).1
    have h2 := v16_nn (l := ws) fun x hx => h x (by simp [hx])
    simp only [v16]; omega
theorem v16_lt : ∀ {l : List Int}, W16 l → v16 l < pv16 l.length
  | [], _ => by decide
  | w :: ws, h => by
    have h1 := h w (by simp)
    have h2 := v16_lt (l := ws) fun x hx => h x (by simp [hx])
    simp only [v16, List.length_cons, pv16]; omega
/-- A word is a digit. -/
theorem v16_get : ∀ {l : List Int} (i : Nat), W16 l → l.getD i 0 = v16 l / pv16 i % 65536
  | [], i, _ => by simp [v16]
  | w :: ws, 0, h => by
    have h1 := h w (by simp)
    simp only [List.getD_cons_zero, v16, pv16]; omega
  | w :: ws, i + 1, h => by
    have h1 := h w (by simp)
    have ih := v16_get (l := ws) i fun x hx => h x (by simp [hx])
    rw [List.getD_cons_succ, ih]
    simp only [v16, pv16]
    rw [← Int.ediv_ediv_of_nonneg (by decide), show (w + 65536 * v16 ws) / 65536 = v16 ws by omega]
theorem mod_mul' (N : Int) {a b : Int} (ha : 0 < a) (hb : 0 < b) : N % (a * b) = N % a + a * (N / a % b) := by
  have h1 := Int.mul_ediv_add_emod N a
  have h2 := Int.mul_ediv_add_emod (N / a) b
  have h3 := Int.emod_nonneg (N / a) (show b ≠ 0 by omega)
  have h4 := Int.emod_lt_of_pos (N / a) hb
  have h5 := Int.emod_nonneg N (show a ≠ 0 by omega)
  have h6 := Int.emod_lt_of_pos N ha
  generalize N / a % b = x at *
  generalize N / a / b = y at *
  generalize N % a = r at *
  have e : N = (r + a * x) + (a * b) * y := by rw [← h1, ← h2, Int.mul_add, ← Int.mul_assoc]; omega
  have hx : a * x ≤ a * (b - 1) := Int.mul_le_mul_of_nonneg_left (by omega) (by omega)
  rw [Int.mul_sub, Int.mul_one] at hx
  have hx0 : 0 ≤ a * x := Int.mul_nonneg (by omega) h3
  rw [e, Int.add_mul_emod_self_left]
  exact Int.emod_eq_of_lt (by omega) (by omega)
theorem w16_succ (k : Nat) (N : Int) : w16 (k + 1) N = w16 k N ++ [N / pv16 k % 65536] := by
  rw [w16, List.range_succ, List.map_append]; rfl
theorem w16_cons (k : Nat) (N : Int) : w16 (k + 1) N = N % 65536 :: w16 k (N / 65536) := by
  rw [w16, List.range_succ_eq_map, List.map_cons, List.map_map]
  congr 1
  · simp [pv16]
  · refine List.map_congr_left fun i _ => ?_
    simp only [Function.comp, pv16]
    rw [← Int.ediv_ediv_of_nonneg (by decide)]
theorem v16_w16 : ∀ (k : Nat) (N : Int), v16 (w16 k N) = N % pv16 k
  | 0, N => by simp [w16, v16, pv16]
  | k + 1, N => by
    rw [w16_cons, v16, v16_w16 k]
    simp only [pv16]
    rw [mod_mul' N (by decide) (pv16_pos k)]
/-- Carries. -/
theorem add_dig (A B : Int) (k : Nat) : (A + B) / pv16 k % 65536 = (A / pv16 k % 65536 + B / pv16 k % 65536 + (A % pv16 k + B % pv16 k) / pv16 k) % 65536 ∧ (A % pv16 (k + 1) + B % pv16 (k + 1)) / pv16 (k + 1) = (A / pv16 k % 65536 + B / pv16 k % 65536 + (A % pv16 k + B % pv16 k) / pv16 k) / 65536 := by
  have hp := pv16_pos k
  have e1 : pv16 (k + 1) = pv16 k * 65536 := Int.mul_comm _ _
  rw [e1, mod_mul' A hp (by decide), mod_mul' B hp (by decide)]
  generalize pv16 k = p at *
  have h1 := Int.mul_ediv_add_emod A p
  have h2 := Int.mul_ediv_add_emod B p
  generalize A / p = x at *
  generalize B / p = y at *
  generalize A % p = r at *
  generalize B % p = t at *
  have e2 : (A + B) / p = (r + t) / p + (x + y) := by
    rw [show A + B = (r + t) + p * (x + y) by rw [Int.mul_add]; omega, Int.add_mul_ediv_left _ _ (by omega)]
  have e3 : (r + p * (x % 65536) + (t + p * (y % 65536))) / (p * 65536) = ((r + t) / p + (x % 65536 + y % 65536)) / 65536 := by
    rw [← Int.ediv_ediv_of_nonneg (by omega), show r + p * (x % 65536) + (t + p * (y % 65536)) = (r + t) + p * (x % 65536 + y % 65536) by rw [Int.mul_add]; omega, Int.add_mul_ediv_left _ _ (by omega)]
  rw [e2, e3]
  omega
end Cr
namespace Go.Proofs.Ytbfimfdhmggieaa.ref03
set_option maxRecDepth 100000
open Go Go.Eng Go.RowKit Cr Go.Proofs.Ytbfimfdhmggieaa
abbrev wsl : Kd := .sl (.int .u32)
theorem ent_word : enters Try.prog 37 Try.f37 := enters_mk (by kernel_rfl) (by kernel_rfl) (by kernel_rfl)
abbrev preWord : HL [wsl, .int .i64] → Prop := fun (_, i, _) => 0 ≤ (i : Int)
abbrev outWord : HL [wsl, .int .i64] → HO [.val (.int .u32)] := fun (a, i, _) => ((a : List Int).getD (i : Int).toNat 0, ())
theorem fn_word : FnOk Try.prog 37 [wsl, .int .i64] [.val (.int .u32)] noG preWord outWord := by
  refine fn_of_vc (sp := sps []) sps_nil mixed ent_word (by decide) (by decide) ?_
  rintro w M0 ⟨a, i, ⟨⟩⟩
  revert a i
  intro (a : List Int) (i : Int) _ hi
  have hi : 0 ≤ i := hi
  refine vcx (X := ((decide (i < (↑a.length : Int)) = true → ((0 : Int) ≤ i ∧ i < (↑a.length : Int)) ∧ i.toNat < a.length ∧ (a.getD i.toNat (0 : Int), ()) = outWord (a, i, ())) ∧ (decide (i < (↑a.length : Int)) = false → ((0 : Int), ()) = outWord (a, i, ())))) (by kernel_rfl) ?_
  refine ⟨fun h => ⟨⟨hi, of_decide_eq_true h⟩, by have := of_decide_eq_true h; omega, rfl⟩, fun h => ?_⟩
  have := of_decide_eq_false h
  show (0, ()) = (a.getD i.toNat 0, ())
  rw [List.getD_eq_getElem?_getD, List.getElem?_eq_none (by omega), Option.getD_none]
noncomputable def spWord : Nat × Eng.Spec := (37, fnSpec [wsl, .int .i64] [.val (.int .u32)] preWord outWord)
theorem wrap_u32 {a : Int} (h0 : 0 ≤ a) (h1 : a < 4294967296) : IntKind.u32.wrap a = a := by
  simp only [IntKind.wrap, IntKind.signed, IntKind.bits]
  simp
  omega
theorem and_u32 (n m : Nat) (h1 : n < 4294967296) (h2 : m < 4294967296) : bitOp .and .u32 (n : Int) (m : Int) = ((n &&& m : Nat) : Int) := by
  have e : ((BitVec.ofInt 32 (n : Int) &&& BitVec.ofInt 32 (m : Int) : BitVec 32).toNat) = n &&& m := by
    rw [BitVec.toNat_and, BitVec.toNat_ofInt, BitVec.toNat_ofInt]
    congr 1 <;> omega
  show IntKind.u32.wrap (((BitVec.ofInt 32 (n : Int) &&& BitVec.ofInt 32 (m : Int) : BitVec 32).toNat : Nat) : Int) = _
  rw [e]
  have := Nat.and_le_left (n := n) (m := m)
  exact wrap_u32 (by omega) (by omega)
theorem and16 {a : Int} (h0 : 0 ≤ a) (h1 : a < 4294967296) : bitOp .and .u32 a 65535 = a % 65536 := by
  obtain ⟨n, rfl⟩ := Int.eq_ofNat_of_zero_le h0
  have := and_u32 n 65535 (by omega) (by omega)
  rw [show ((65535 : Nat) : Int) = 65535 from rfl] at this
  rw [this]
  have h := Nat.and_two_pow_sub_one_eq_mod n 16
  rw [show 2 ^ 16 - 1 = 65535 from rfl] at h
  rw [h]
  omega
theorem shr16 (a : Int) : a.fdiv (2 ^ min (16 : Nat) IntKind.u32.bits) = a / 65536 := by
  rw [show (2 : Int) ^ min (16 : Nat) IntKind.u32.bits = 65536 from rfl, Int.fdiv_eq_ediv_of_nonneg _ (by decide)]
theorem dig_bd (A : Int) (k : Nat) : 0 ≤ A / pv16 k % 65536 ∧ A / pv16 k % 65536 < 65536 := ⟨by omega, by omega⟩
theorem carry_bd (A B : Int) (k : Nat) : 0 ≤ (A % pv16 k + B % pv16 k) / pv16 k ∧ (A % pv16 k + B % pv16 k) / pv16 k ≤ 1 := by
  have hp := pv16_pos k
  generalize pv16 k = p at *
  have h1 := Int.emod_nonneg A (show p ≠ 0 by omega)
  have h2 := Int.emod_lt_of_pos A hp
  have h3 := Int.emod_nonneg B (show p ≠ 0 by omega)
  have h4 := Int.emod_lt_of_pos B hp
  refine ⟨Int.ediv_nonneg (by omega) (by omega), ?_⟩
  have : (A % p + B % p) / p < 2 := Int.ediv_lt_of_lt_mul hp (by omega)
  omega
theorem ent_plus : enters Try.prog 24 Try.f24 := enters_mk (by kernel_rfl) (by kernel_rfl) (by kernel_rfl)
abbrev preW2 : HL [wsl, wsl] → Prop := fun (a, b, _) => W16 a ∧ W16 b ∧ List.length a ≤ 1000000 ∧ List.length b ≤ 1000000
def plusF (a b : List Int) : List Int := w16 (max a.length b.length + 1) (v16 a + v16 b)
abbrev outPlus : HL [wsl, wsl] → HO [.own (.int .u32)] := fun (a, b, _) => (plusF a b, ())
noncomputable def plS (a b : List Int) (n : Int) : St := mkSt Try.f24.ntmps 64 [(0, .is (.one (.ro (.int .u32) a))), (1, .is (.one (.ro (.int .u32) b))), (5, sI .i64 n)] []
noncomputable def plI (a b : List Int) (m : Nat) (g : Int × Nat × List Int × Int) : St := mkSt Try.f24.ntmps 96 [(0, .is (.one (.ro (.int .u32) a))), (1, .is (.one (.ro (.int .u32) b))), (5, sI .i64 m), (6, .is (.one (.sl 64 0 0 g.2.1 1))), (7, sI .u32 g.2.2.2), (8, sI .i64 g.1)] [(64, [.ints .u32 g.2.1 g.2.2.1])]
def plJ (a b : List Int) (g : Int × Nat × List Int × Int) : Prop := g.2.1 ≤ max a.length b.length + 1 ∧ g.1 = (g.2.1 : Int) ∧ g.2.2.1 = w16 g.2.1 (v16 a + v16 b) ∧ g.2.2.2 = (v16 a % pv16 g.2.1 + v16 b % pv16 g.2.1) / pv16 g.2.1
theorem fn_plus : FnOk Try.prog 24 [wsl, wsl] [.own (.int .u32)] noG preW2 outPlus := by
  have hsp : SpecsOk Try.prog (sps [spWord]) := (sps_cons (fnSpec_ok fn_word) sps_nil)
  refine fn_of_tr (sp := sps [spWord]) ent_plus (by decide) (by decide) (by kernel_rfl) ?_
  rintro w M0 ⟨a, b, ⟨⟩⟩
  revert a b
  intro (a : List Int) (b : List Int) _ hp
  show Tr _ _ _ _ _ _ _
  obtain ⟨ha, hb, hla, hlb⟩ := hp
  have hla : a.length ≤ 1000000 := hla
  have hlb : b.length ≤ 1000000 := hlb
  refine tr_cutF hsp mixed 4 (fun σ => rdS (.int .i64) 5 σ) (plS a b) (fun n => n = ((max a.length b.length : Nat) : Int)) ?_ ?_
  · refine vcx (X := ((decide ((↑b.length : Int) > (↑a.length : Int)) = true → (plS a b (↑b.length : Int)).triv ((↑b.length : Int) = (↑(max a.length b.length) : Int))) ∧ (decide ((↑b.length : Int) > (↑a.length : Int)) = false → (plS a b (↑a.length : Int)).triv ((↑a.length : Int) = (↑(max a.length b.length) : Int))))) (by kernel_rfl) ?_
    refine ⟨fun h => triv_intro ?_, fun h => triv_intro ?_⟩
    · have := of_decide_eq_true h; show (b.length : Int) = _; omega
    · have := of_decide_eq_false h; show (a.length : Int) = _; omega
  intro (n : Int) hn
  have hn : n = ((max a.length b.length : Nat) : Int) := hn
  have hm1 : max a.length b.length ≤ 1000000 := by omega
  show Tr _ _ _ _ _ _ _
  rw [hn]
  show Tr _ _ _ _ _ _ _
  refine tr_cut hsp mixed 3 (plI a b (max a.length b.length) (0, 0, [], 0)) True ?_ (fun _ => ?_)
  · refine vcx (X := ((plI a b (max a.length b.length) ((0 : Int), (0 : Nat), [], (0 : Int))).triv True)) (by kernel_rfl) ?_
    exact triv_intro trivial
  refine tr_while hsp mixed (fun σ => [(64, rdI 6 σ)]) (fun σ => (rdS (.int .i64) 8 σ, rdL 6 σ, rdR (.int .u32) 64 σ, rdS (.int .u32) 7 σ)) (plI a b (max a.length b.length)) (plJ a b) (fun g => max a.length b.length + 1 - g.1.toNat)
    (fun σ => (rdS (.int .i64) 8 σ, rdL 6 σ, rdR (.int .u32) 64 σ, rdS (.int .u32) 7 σ)) (plI a b (max a.length b.length)) (fun g => g.2.2.1 = plusF a b ∧ g.2.1 = max a.length b.length + 1) (0, 0, [], 0) (c := nthC (codeOf Try.f24) 7) (by kernel_rfl) (by kernel_rfl) (le_of_proj (by kernel_rfl) (by kernel_rfl) ?_) ?_ ?_
  · exact ⟨Nat.zero_le _, rfl, rfl, by show (0 : Int) = (v16 a % 1 + v16 b % 1) / 1; omega⟩
  · rintro ⟨i, k, l, c⟩ hj
    revert i l c
    intro (i : Int) (l : List Int) (c : Int) ⟨hk, ei, el, ec⟩
    have ei : i = (k : Int) := ei
    have kl : l = w16 k (v16 a + v16 b) := el
    have kc : c = (v16 a % pv16 k + v16 b % pv16 k) / pv16 k := ec
    have hk : k ≤ max a.length b.length + 1 := hk
    subst ei
    refine vcx (X := ((decide ((↑k : Int) ≤ (↑(max a.length b.length) : Int)) = true → preWord (a, (↑k : Int), ()) ∧ preWord (b, (↑k : Int), ()) ∧ (0 : Nat) + (1 : Nat) ≤ (1 : Nat) ∧ k ≤ k ∧ (k + (1 : Nat)) * (4 : Nat) ≤ (140737488355328 : Nat) ∧ k + (1 : Nat) ≤ (4611686018427387904 : Nat) ∧ (0 : Int) ≤ (16 : Int) ∧ (plI a b (max a.length b.length) (IntKind.i64.wrap ((↑k : Int) + (1 : Int)), k + (1 : Nat), List.take k l ++ List.take (1 : Nat) [bitOp BinOp.and IntKind.u32 (IntKind.u32.wrap (IntKind.u32.wrap (a.getD (↑k : Int).toNat (0 : Int) + b.getD (↑k : Int).toNat (0 : Int)) + c)) (65535 : Int)], (IntKind.u32.wrap (IntKind.u32.wrap (a.getD (↑k : Int).toNat (0 : Int) + b.getD (↑k : Int).toNat (0 : Int)) + c)).fdiv ((2 : Int) ^ min (16 : Nat) IntKind.u32.bits))).triv (plJ a b (IntKind.i64.wrap ((↑k : Int) + (1 : Int)), k + (1 : Nat), List.take k l ++ List.take (1 : Nat) [bitOp BinOp.and IntKind.u32 (IntKind.u32.wrap (IntKind.u32.wrap (a.getD (↑k : Int).toNat (0 : Int) + b.getD (↑k : Int).toNat (0 : Int)) + c)) (65535 : Int)], (IntKind.u32.wrap (IntKind.u32.wrap (a.getD (↑k : Int).toNat (0 : Int) + b.getD (↑k : Int).toNat (0 : Int)) + c)).fdiv ((2 : Int) ^ min (16 : Nat) IntKind.u32.bits)) ∧ max a.length b.length + (1 : Nat) - (IntKind.i64.wrap ((↑k : Int) + (1 : Int))).toNat < max a.length b.length + (1 : Nat) - (↑k : Int).toNat)) ∧ (decide ((↑k : Int) ≤ (↑(max a.length b.length) : Int)) = false → (plI a b (max a.length b.length) ((↑k : Int), k, l, c)).triv (l = plusF a b ∧ k = max a.length b.length + (1 : Nat))))) (by kernel_rfl) ?_
    have hc := carry_bd (v16 a) (v16 b) k
    rw [← kc] at hc
    have h1 := dig_bd (v16 a) k
    have h2 := dig_bd (v16 b) k
    obtain ⟨d1, d2⟩ := add_dig (v16 a) (v16 b) k
    rw [← kc] at d1 d2
    rw [Int.toNat_natCast, v16_get k ha, v16_get k hb]
    generalize v16 a / pv16 k % 65536 = x at *
    generalize v16 b / pv16 k % 65536 = y at *
    rw [wrap_u32 (a := x + y) (by omega) (by omega), wrap_u32 (a := x + y + c) (by omega) (by omega), and16 (by omega) (by omega), shr16, wrap_i64' (by omega) (by omega)]
    have hll : l.length = k := by rw [kl, w16_len]
    refine ⟨fun h => ⟨by show (0 : Int) ≤ k; omega, by show (0 : Int) ≤ k; omega, by decide, by omega, by omega, by omega, by decide, triv_intro ⟨⟨?_, rfl, ?_, d2.symm⟩, ?_⟩⟩, fun h => triv_intro ?_⟩
    · have := of_decide_eq_true h; show k + 1 ≤ _; omega
    · show List.take k l ++ [(x + y + c) % 65536] = w16 (k + 1) (v16 a + v16 b)
      rw [List.take_of_length_le (by omega), w16_succ, kl, d1]
    · have := of_decide_eq_true h; omega
    · have hk2 : k = max a.length b.length + 1 := by have := of_decide_eq_false h; omega
      exact ⟨by rw [kl, hk2]; rfl, hk2⟩
  rintro ⟨i, k, l, c⟩ hj
  revert i l c
  intro (i : Int) (l : List Int) (c : Int) ⟨h1, h2⟩
  refine tr_vc hsp mixed _ _ ?_
  refine vcx (X := ((0 : Nat) + k ≤ k ∧ (List.take k l, ()) = outPlus (a, b, ()))) (by kernel_rfl) ?_
  have h1 : l = plusF a b := h1
  have h2 : k = max a.length b.length + 1 := h2
  refine ⟨by omega, ?_⟩
  show _ = (plusF a b, ())
  rw [List.take_of_length_le (by rw [h1, plusF, w16_len]; omega), h1]
end Go.Proofs.Ytbfimfdhmggieaa.ref03
/- ref03: Minus, Less. -/
namespace Cr
theorem sub_dig (A B : Int) (k : Nat) : (A - B) / pv16 k % 65536 = (A / pv16 k % 65536 - B / pv16 k % 65536 + (A % pv16 k - B % pv16 k) / pv16 k) % 65536 ∧ (A % pv16 (k + 1) - B % pv16 (k + 1)) / pv16 (k + 1) = (A / pv16 k % 65536 - B / pv16 k % 65536 + (A % pv16 k - B % pv16 k) / pv16 k) / 65536 := by
  have hp := pv16_pos k
  have e1 : pv16 (k + 1) = pv16 k * 65536 := Int.mul_comm _ _
  rw [e1, mod_mul' A hp (by decide), mod_mul' B hp (by decide)]
  generalize pv16 k = p at *
  have h1 := Int.mul_ediv_add_emod A p
  have h2 := Int.mul_ediv_add_emod B p
  generalize A / p = x at *
  generalize B / p = y at *
  generalize A % p = r at *
  generalize B % p = t at *
  have e2 : (A - B) / p = (r - t) / p + (x - y) := by
    rw [show A - B = (r - t) + p * (x - y) by rw [Int.mul_sub]; omega, Int.add_mul_ediv_left _ _ (by omega)]
  have e3 : (r + p * (x % 65536) - (t + p * (y % 65536))) / (p * 65536) = ((r - t) / p + (x % 65536 - y % 65536)) / 65536 := by
    rw [← Int.ediv_ediv_of_nonneg (by omega), show r + p * (x % 65536) - (t + p * (y % 65536)) = (r - t) + p * (x % 65536 - y % 65536) by rw [Int.mul_sub]; omega, Int.add_mul_ediv_left _ _ (by omega)]
  rw [e2, e3]
  omega
theorem borrow_bd (A B : Int) (k : Nat) : -1 ≤ (A % pv16 k - B % pv16 k) / pv16 k ∧ (A % pv16 k - B % pv16 k) / pv16 k ≤ 0 := by
  have hp := pv16_pos k
  generalize pv16 k = p at *
  have h1 := Int.emod_nonneg A (show p ≠ 0 by omega)
  have h2 := Int.emod_lt_of_pos A hp
  have h3 := Int.emod_nonneg B (show p ≠ 0 by omega)
  have h4 := Int.emod_lt_of_pos B hp
  have h5 : (A % p - B % p) / p < 1 := Int.ediv_lt_of_lt_mul hp (by omega)
  have h6 : -1 ≤ (A % p - B % p) / p := Int.le_ediv_of_mul_le hp (by omega)
  omega
theorem div_succ (A : Int) (k : Nat) : A / pv16 k = 65536 * (A / pv16 (k + 1)) + A / pv16 k % 65536 := by
  have hp := pv16_pos k
  have e : A / pv16 (k + 1) = A / pv16 k / 65536 := by
    rw [show pv16 (k + 1) = pv16 k * 65536 from Int.mul_comm _ _, ← Int.ediv_ediv_of_nonneg (by omega)]
  omega
theorem lt_of_div {A B p : Int} (hp : 0 < p) (h : A / p < B / p) : A < B := by
  refine Classical.byContradiction fun c => ?_
  have := Int.ediv_le_ediv hp (show B ≤ A by omega)
  omega
theorem pv16_mono {m n : Nat} (h : m ≤ n) : pv16 m ≤ pv16 n := by
  induction n with
  | zero => rw [Nat.le_zero.1 h]; exact Int.le_refl _
  | succ n ih =>
    by_cases c : m = n + 1
    · rw [c]; exact Int.le_refl _
    · have := ih (by omega)
      have := pv16_pos n
      simp only [pv16]; omega
theorem div_zero16 {l : List Int} (h : W16 l) {n : Nat} (hn : l.length ≤ n) : v16 l / pv16 n = 0 := Int.ediv_eq_zero_of_lt (v16_nn h) (Int.lt_of_lt_of_le (v16_lt h) (pv16_mono hn))
end Cr
namespace Go.Proofs.Ytbfimfdhmggieaa.ref03
set_option maxRecDepth 100000
open Go Go.Eng Go.RowKit Cr Go.Proofs.Ytbfimfdhmggieaa
theorem ent_minus : enters Try.prog 23 Try.f23 := enters_mk (by kernel_rfl) (by kernel_rfl) (by kernel_rfl)
def minusF (a b : List Int) : List Int := w16 a.length (v16 a - v16 b)
abbrev outMinus : HL [wsl, wsl] → HO [.own (.int .u32)] := fun (a, b, _) => (minusF a b, ())
noncomputable def miI (a b : List Int) (g : Int × Nat × List Int × Int) : St := mkSt Try.f23.ntmps 56 [(0, .is (.one (.ro (.int .u32) a))), (1, .is (.one (.ro (.int .u32) b))), (5, .is (.one (.sl 8 0 0 g.2.1 1))), (6, sI .u32 g.2.2.2), (11, sI .i64 a.length), (12, sI .i64 g.1)] [(8, [.ints .u32 g.2.1 g.2.2.1])]
def miJ (a b : List Int) (g : Int × Nat × List Int × Int) : Prop := g.2.1 ≤ a.length ∧ g.1 = (g.2.1 : Int) ∧ g.2.2.1 = w16 g.2.1 (v16 a - v16 b) ∧ g.2.2.2 = -((v16 a % pv16 g.2.1 - v16 b % pv16 g.2.1) / pv16 g.2.1)
theorem fn_minus : FnOk Try.prog 23 [wsl, wsl] [.own (.int .u32)] noG preW2 outMinus := by
  have hsp : SpecsOk Try.prog (sps [spWord]) := (sps_cons (fnSpec_ok fn_word) sps_nil)
  refine fn_of_tr (sp := sps [spWord]) ent_minus (by decide) (by decide) (by kernel_rfl) ?_
  rintro w M0 ⟨a, b, ⟨⟩⟩
  revert a b
  intro (a : List Int) (b : List Int) _ hp
  obtain ⟨ha, hb, hla, hlb⟩ := hp
  have hla : a.length ≤ 1000000 := hla
  have hlb : b.length ≤ 1000000 := hlb
  show Tr _ _ _ _ _ _ _
  refine tr_cut hsp mixed 4 (miI a b (0, 0, [], 0)) True ?_ (fun _ => ?_)
  · refine vcx (X := ((miI a b ((0 : Int), (0 : Nat), [], (0 : Int))).triv True)) (by kernel_rfl) ?_
    exact triv_intro trivial
  refine tr_while hsp mixed (fun σ => [(8, rdI 5 σ)]) (fun σ => (rdS (.int .i64) 12 σ, rdL 5 σ, rdR (.int .u32) 8 σ, rdS (.int .u32) 6 σ)) (miI a b) (miJ a b) (fun g => a.length - g.1.toNat)
    (fun σ => (rdS (.int .i64) 12 σ, rdL 5 σ, rdR (.int .u32) 8 σ, rdS (.int .u32) 6 σ)) (miI a b) (fun g => g.2.2.1 = minusF a b ∧ g.2.1 = a.length) (0, 0, [], 0) (c := nthC (codeOf Try.f23) 4) (by kernel_rfl) (by kernel_rfl) (le_of_proj (by kernel_rfl) (by kernel_rfl) ?_) ?_ ?_
  · exact ⟨Nat.zero_le _, rfl, rfl, by show (0 : Int) = -((v16 a % 1 - v16 b % 1) / 1); omega⟩
  · rintro ⟨i, k, l, c⟩ hj
    revert i l c
    intro (i : Int) (l : List Int) (c : Int) ⟨hk, ei, el, ec⟩
    have ei : i = (k : Int) := ei
    have kl : l = w16 k (v16 a - v16 b) := el
    have kc : c = -((v16 a % pv16 k - v16 b % pv16 k) / pv16 k) := ec
    have hk : k ≤ a.length := hk
    subst ei
    refine vcx (X := ((decide ((↑k : Int) < (↑a.length : Int)) = true → ((0 : Int) ≤ (↑k : Int) ∧ (↑k : Int) < (↑a.length : Int)) ∧ (↑k : Int).toNat < a.length ∧ preWord (b, (↑k : Int), ()) ∧ (0 : Nat) + (1 : Nat) ≤ (1 : Nat) ∧ k ≤ k ∧ (k + (1 : Nat)) * (4 : Nat) ≤ (140737488355328 : Nat) ∧ k + (1 : Nat) ≤ (4611686018427387904 : Nat) ∧ (0 : Int) ≤ (16 : Int) ∧ (miI a b (IntKind.i64.wrap ((↑k : Int) + (1 : Int)), k + (1 : Nat), List.take k l ++ List.take (1 : Nat) [bitOp BinOp.and IntKind.u32 (IntKind.u32.wrap (IntKind.u32.wrap (IntKind.u32.wrap (a.getD (↑k : Int).toNat (0 : Int) + (65536 : Int)) - b.getD (↑k : Int).toNat (0 : Int)) - c)) (65535 : Int)], IntKind.u32.wrap ((1 : Int) - (IntKind.u32.wrap (IntKind.u32.wrap (IntKind.u32.wrap (a.getD (↑k : Int).toNat (0 : Int) + (65536 : Int)) - b.getD (↑k : Int).toNat (0 : Int)) - c)).fdiv ((2 : Int) ^ min (16 : Nat) IntKind.u32.bits)))).triv (miJ a b (IntKind.i64.wrap ((↑k : Int) + (1 : Int)), k + (1 : Nat), List.take k l ++ List.take (1 : Nat) [bitOp BinOp.and IntKind.u32 (IntKind.u32.wrap (IntKind.u32.wrap (IntKind.u32.wrap (a.getD (↑k : Int).toNat (0 : Int) + (65536 : Int)) - b.getD (↑k : Int).toNat (0 : Int)) - c)) (65535 : Int)], IntKind.u32.wrap ((1 : Int) - (IntKind.u32.wrap (IntKind.u32.wrap (IntKind.u32.wrap (a.getD (↑k : Int).toNat (0 : Int) + (65536 : Int)) - b.getD (↑k : Int).toNat (0 : Int)) - c)).fdiv ((2 : Int) ^ min (16 : Nat) IntKind.u32.bits))) ∧ a.length - (IntKind.i64.wrap ((↑k : Int) + (1 : Int))).toNat < a.length - (↑k : Int).toNat)) ∧ (decide ((↑k : Int) < (↑a.length : Int)) = false → (miI a b ((↑k : Int), k, l, c)).triv (l = minusF a b ∧ k = a.length)))) (by kernel_rfl) ?_
    have hc := borrow_bd (v16 a) (v16 b) k
    have h1 := dig_bd (v16 a) k
    have h2 := dig_bd (v16 b) k
    obtain ⟨d1, d2⟩ := sub_dig (v16 a) (v16 b) k
    have kc2 : (v16 a % pv16 k - v16 b % pv16 k) / pv16 k = -c := by omega
    rw [kc2] at d1 d2 hc
    rw [Int.toNat_natCast, v16_get k ha, v16_get k hb]
    generalize v16 a / pv16 k % 65536 = x at *
    generalize v16 b / pv16 k % 65536 = y at *
    rw [wrap_u32 (a := x + 65536) (by omega) (by omega), wrap_u32 (a := x + 65536 - y) (by omega) (by omega), wrap_u32 (a := x + 65536 - y - c) (by omega) (by omega), and16 (by omega) (by omega), shr16, wrap_i64' (by omega) (by omega), wrap_u32 (a := 1 - (x + 65536 - y - c) / 65536) (by omega) (by omega)]
    have hll : l.length = k := by rw [kl, w16_len]
    refine ⟨fun h => ?_, fun h => triv_intro ?_⟩
    · have hlt : k < a.length := by have := of_decide_eq_true h; omega
      refine ⟨⟨by omega, by omega⟩, hlt, by show (0 : Int) ≤ k; omega, by decide, by omega, by omega, by omega, by decide, triv_intro ⟨⟨hlt, rfl, ?_, ?_⟩, by omega⟩⟩
      · show List.take k l ++ [(x + 65536 - y - c) % 65536] = w16 (k + 1) (v16 a - v16 b)
        rw [List.take_of_length_le (by omega), w16_succ, kl, d1]
        congr 2
        omega
      · show 1 - (x + 65536 - y - c) / 65536 = -((v16 a % pv16 (k + 1) - v16 b % pv16 (k + 1)) / pv16 (k + 1))
        rw [d2]; omega
    · have hk2 : k = a.length := by have := of_decide_eq_false h; omega
      exact ⟨by rw [kl, hk2]; rfl, hk2⟩
  rintro ⟨i, k, l, c⟩ hj
  revert i l c
  intro (i : Int) (l : List Int) (c : Int) ⟨h1, h2⟩
  refine tr_vc hsp mixed _ _ ?_
  refine vcx (X := ((0 : Nat) + k ≤ k ∧ (List.take k l, ()) = outMinus (a, b, ()))) (by kernel_rfl) ?_
  have h1 : l = minusF a b := h1
  have h2 : k = a.length := h2
  refine ⟨by omega, ?_⟩
  show _ = (minusF a b, ())
  rw [List.take_of_length_le (by rw [h1, minusF, w16_len]; omega), h1]
noncomputable def spMinus : Nat × Eng.Spec := (23, fnSpec [wsl, wsl] [.own (.int .u32)] preW2 outMinus)
theorem ent_less : enters Try.prog 25 Try.f25 := enters_mk (by kernel_rfl) (by kernel_rfl) (by kernel_rfl)
abbrev outLess : HL [wsl, wsl] → HO [.val .bool] := fun (a, b, _) => (decide (v16 a < v16 b), ())
noncomputable def leS0 (a b : List Int) (n : Int) : St := mkSt Try.f25.ntmps 64 [(0, .is (.one (.ro (.int .u32) a))), (1, .is (.one (.ro (.int .u32) b))), (5, sI .i64 n)] []
noncomputable def leI (a b : List Int) (g : Int) : St := mkSt Try.f25.ntmps 64 [(0, .is (.one (.ro (.int .u32) a))), (1, .is (.one (.ro (.int .u32) b))), (6, sI .i64 g)] []
def leJ (a b : List Int) (g : Int) : Prop := ∃ k : Nat, k ≤ 1000000 ∧ g = (k : Int) - 1 ∧ v16 a / pv16 k = v16 b / pv16 k
theorem fn_less : FnOk Try.prog 25 [wsl, wsl] [.val .bool] noG preW2 outLess := by
  have hsp : SpecsOk Try.prog (sps [spWord]) := (sps_cons (fnSpec_ok fn_word) sps_nil)
  refine fn_of_tr (sp := sps [spWord]) ent_less (by decide) (by decide) (by kernel_rfl) ?_
  rintro w M0 ⟨a, b, ⟨⟩⟩
  revert a b
  intro (a : List Int) (b : List Int) _ hp
  show Tr _ _ _ _ _ _ _
  obtain ⟨ha, hb, hla, hlb⟩ := hp
  have hla : a.length ≤ 1000000 := hla
  have hlb : b.length ≤ 1000000 := hlb
  refine tr_cutF hsp mixed 4 (fun σ => rdS (.int .i64) 5 σ) (leS0 a b) (fun n => n = ((max a.length b.length : Nat) : Int)) ?_ ?_
  · refine vcx (X := ((decide ((↑b.length : Int) > (↑a.length : Int)) = true → (leS0 a b (↑b.length : Int)).triv ((↑b.length : Int) = (↑(max a.length b.length) : Int))) ∧ (decide ((↑b.length : Int) > (↑a.length : Int)) = false → (leS0 a b (↑a.length : Int)).triv ((↑a.length : Int) = (↑(max a.length b.length) : Int))))) (by kernel_rfl) ?_
    refine ⟨fun h => triv_intro ?_, fun h => triv_intro ?_⟩
    · have := of_decide_eq_true h; show (b.length : Int) = _; omega
    · have := of_decide_eq_false h; show (a.length : Int) = _; omega
  intro (n : Int) (hn : n = ((max a.length b.length : Nat) : Int))
  rw [hn]
  refine tr_cut hsp mixed 1 (leI a b (IntKind.i64.wrap (((max a.length b.length : Nat) : Int) - 1))) True ?_ (fun _ => ?_)
  · refine vcx (X := ((leI a b (IntKind.i64.wrap ((↑(max a.length b.length) : Int) - (1 : Int)))).triv True)) (by kernel_rfl) ?_
    exact triv_intro trivial
  refine tr_while hsp mixed noSw (fun σ => rdS (.int .i64) 6 σ) (leI a b) (leJ a b) (fun g => (g + 1).toNat)
    (fun _ => ()) (fun _ => mkSt Try.f25.ntmps 64 [] []) (fun _ => v16 a = v16 b) (IntKind.i64.wrap (((max a.length b.length : Nat) : Int) - 1)) (c := nthC (codeOf Try.f25) 5) (by kernel_rfl) (by kernel_rfl) (le_of_proj (by kernel_rfl) (by kernel_rfl) ?_) ?_ ?_
  · refine ⟨max a.length b.length, by omega, ?_, ?_⟩
    · rw [wrap_i64' (by omega) (by omega)]
    · rw [div_zero16 ha (by omega), div_zero16 hb (by omega)]
  · intro (i : Int) ⟨k, hk, ei, he⟩
    subst ei
    refine vcx (X := ((decide ((↑k : Int) - (1 : Int) ≥ (0 : Int)) = true → preWord (a, (↑k : Int) - (1 : Int), ()) ∧ preWord (b, (↑k : Int) - (1 : Int), ()) ∧ ((a.getD ((↑k : Int) - (1 : Int)).toNat (0 : Int) != b.getD ((↑k : Int) - (1 : Int)).toNat (0 : Int)) = true → preWord (a, (↑k : Int) - (1 : Int), ()) ∧ preWord (b, (↑k : Int) - (1 : Int), ()) ∧ (decide (a.getD ((↑k : Int) - (1 : Int)).toNat (0 : Int) < b.getD ((↑k : Int) - (1 : Int)).toNat (0 : Int)), ()) = outLess (a, b, ())) ∧ ((a.getD ((↑k : Int) - (1 : Int)).toNat (0 : Int) != b.getD ((↑k : Int) - (1 : Int)).toNat (0 : Int)) = false → (leI a b (IntKind.i64.wrap ((↑k : Int) - (1 : Int) - (1 : Int)))).triv (leJ a b (IntKind.i64.wrap ((↑k : Int) - (1 : Int) - (1 : Int))) ∧ Int.toNat (IntKind.i64.wrap ((↑k : Int) - (1 : Int) - (1 : Int)) + (1 : Car (Kd.int IntKind.i64))) < Int.toNat ((↑k : Int) - (1 : Int) + (1 : Car (Kd.int IntKind.i64)))))) ∧ (decide ((↑k : Int) - (1 : Int) ≥ (0 : Int)) = false → (mkSt Try.f25.ntmps (64 : Nat) [] []).triv (v16 a = v16 b)))) (by kernel_rfl) ?_
    refine ⟨fun h => ?_, fun h => triv_intro ?_⟩
    · obtain ⟨j, rfl⟩ : ∃ j, k = j + 1 := ⟨k - 1, by have := of_decide_eq_true h; omega⟩
      have e1 : ((j + 1 : Nat) : Int) - 1 = (j : Int) := by omega
      rw [e1, Int.toNat_natCast, v16_get j ha, v16_get j hb]
      have hA := div_succ (v16 a) j
      have hB := div_succ (v16 b) j
      have hp := pv16_pos j
      rw [wrap_i64' (by omega) (by omega)]
      have pw : ∀ l : List Int, preWord (l, (j : Int), ()) := fun l => by show (0 : Int) ≤ j; omega
      refine ⟨pw a, pw b, fun h2 => ⟨pw a, pw b, ?_⟩, fun h2 => triv_intro ⟨⟨j, by omega, rfl, ?_⟩, by omega⟩⟩
      · have h2 := bne_iff_ne.1 h2
        show _ = (decide (v16 a < v16 b), ())
        by_cases hlt : v16 a / pv16 j % 65536 < v16 b / pv16 j % 65536
        · rw [decide_eq_true hlt, decide_eq_true (lt_of_div hp (by omega))]
        · rw [decide_eq_false hlt, decide_eq_false (fun c => by have := lt_of_div (A := v16 b) (B := v16 a) hp (by omega); omega)]
      · have h2 : v16 a / pv16 j % 65536 = v16 b / pv16 j % 65536 := by simpa using h2
        omega
    · have hk0 : k = 0 := by have := of_decide_eq_false h; omega
      subst hk0
      have he : v16 a / 1 = v16 b / 1 := he
      show v16 a = v16 b
      omega
  rintro ⟨⟩ (he : v16 a = v16 b)
  refine tr_vc hsp mixed _ _ ?_
  refine vcx (X := ((false, ()) = outLess (a, b, ()))) (by kernel_rfl) ?_
  show _ = (decide (v16 a < v16 b), ())
  rw [decide_eq_false (by omega)]
noncomputable def spLess : Nat × Eng.Spec := (25, fnSpec [wsl, wsl] [.val .bool] preW2 outLess)
end Go.Proofs.Ytbfimfdhmggieaa.ref03
/- ref03: Bytes. -/
namespace Go.Proofs.Ytbfimfdhmggieaa.ref03
set_option maxRecDepth 100000
open Go Go.Eng Go.RowKit Cr Go.Proofs.Ytbfimfdhmggieaa
theorem ent_bytes : enters Try.prog 15 Try.f15 := enters_mk (by kernel_rfl) (by kernel_rfl) (by kernel_rfl)
abbrev preBytes : HL [wsl, .int .i64] → Prop := fun (a, n, _) => (W16 a ∧ List.length a ≤ 1000000) ∧ 0 ≤ (n : Int) ∧ (n : Int) ≤ 1000000
abbrev outBytes : HL [wsl, .int .i64] → HO [.own (.int .u8)] := fun (a, n, _) => (bytesN (n : Int).toNat (v16 a), ())
def byK (n : Nat) (V : Int) (i : Nat) : List Int := (List.range n).map fun j => if n - 1 - j < i then V / p256 (n - 1 - j) % 256 else 0
theorem byK_zero (n : Nat) (V : Int) : List.replicate ((n : Nat) : Int).toNat 0 = byK n V 0 := by
  rw [Int.toNat_natCast]
  symm
  refine List.eq_replicate_iff.2 ⟨by simp [byK], fun x hx => ?_⟩
  simp only [byK, List.mem_map] at hx
  obtain ⟨j, _, rfl⟩ := hx
  rw [if_neg (by omega)]
theorem byK_all (n : Nat) (V : Int) : byK n V n = bytesN n V := by
  refine List.map_congr_left fun j hj => ?_
  have := List.mem_range.1 hj
  rw [if_pos (by omega)]
theorem byK_step {n : Nat} {V : Int} {i : Nat} (h : i < n) : (byK n V i).set (n - 1 - i) (V / p256 i % 256) = byK n V (i + 1) := by
  refine List.ext_getElem (by simp [byK]) fun j h1 h2 => ?_
  have hj : j < n := by simpa [byK] using h2
  rw [List.getElem_set]
  simp only [byK, List.getElem_map, List.getElem_range]
  by_cases c : n - 1 - i = j
  · rw [if_pos c, if_pos (by omega), show n - 1 - j = i by omega]
  · rw [if_neg c]
    by_cases d : n - 1 - j < i
    · rw [if_pos d, if_pos (by omega)]
    · rw [if_neg d, if_neg (by omega)]
theorem pv16_256 : ∀ j, pv16 j = p256 (2 * j)
  | 0 => rfl
  | j + 1 => by
    rw [show 2 * (j + 1) = 2 * j + 1 + 1 by omega]
    simp only [pv16, p256, pv16_256 j]; omega
theorem wrap_u8 (x : Int) : IntKind.u8.wrap x = x % 256 := by simp [IntKind.wrap, IntKind.signed, IntKind.bits]
theorem byte_of (V : Int) (k : Nat) : IntKind.u8.wrap ((V / pv16 (k / 2) % 65536).fdiv (2 ^ min (8 * (k % 2)) IntKind.u32.bits)) = V / p256 k % 256 := by
  rw [wrap_u8, pv16_256]
  have hp := p256_pos (2 * (k / 2))
  rcases Nat.mod_two_eq_zero_or_one k with h | h
  · rw [h, show (2 : Int) ^ min (8 * 0) IntKind.u32.bits = 1 from rfl, Int.fdiv_eq_ediv_of_nonneg _ (by decide), show 2 * (k / 2) = k by omega]
    omega
  · rw [h, show (2 : Int) ^ min (8 * 1) IntKind.u32.bits = 256 from rfl, Int.fdiv_eq_ediv_of_nonneg _ (by decide)]
    have e : V / p256 k = V / p256 (2 * (k / 2)) / 256 := by
      conv => lhs; rw [show k = 2 * (k / 2) + 1 by omega]
      rw [show p256 (2 * (k / 2) + 1) = p256 (2 * (k / 2)) * 256 from Int.mul_comm _ _, Int.ediv_ediv_of_nonneg (by omega)]
    rw [e]
    omega
theorem p256_mono {m n : Nat} (h : m ≤ n) : p256 m ≤ p256 n := by
  induction n with
  | zero => rw [Nat.le_zero.1 h]; exact Int.le_refl _
  | succ n ih =>
    by_cases c : m = n + 1
    · rw [c]; exact Int.le_refl _
    · have := ih (by omega)
      have := p256_pos n
      simp only [p256]; omega
noncomputable def byI (a : List Int) (N : Nat) (g : Int × List Int) : St := mkSt Try.f15.ntmps 40 [(0, .is (.one (.ro (.int .u32) a))), (1, sI .i64 N), (5, .is (.one (.sl 16 0 0 (N : Int).toNat 1))), (6, sI .i64 g.1)] [(16, [.ints .u8 (N : Int).toNat g.2])]
def byJ (a : List Int) (N : Nat) (g : Int × List Int) : Prop := ∃ k : Nat, k ≤ N ∧ g.1 = (k : Int) ∧ g.2 = byK N (v16 a) k
theorem fn_bytes : FnOk Try.prog 15 [wsl, .int .i64] [.own (.int .u8)] noG preBytes outBytes := by
  have hsp : SpecsOk Try.prog (sps []) := sps_nil
  refine fn_of_tr (sp := sps []) ent_bytes (by decide) (by decide) (by kernel_rfl) ?_
  rintro w M0 ⟨a, n, ⟨⟩⟩
  revert a n
  intro (a : List Int) (n : Int) _ hp
  obtain ⟨⟨ha, hl⟩, h0, h1⟩ := hp
  have hl : a.length ≤ 1000000 := hl
  have h0 : 0 ≤ n := h0
  have h1 : n ≤ 1000000 := h1
  show Tr _ _ _ _ _ _ _
  obtain ⟨N, rfl⟩ := Int.eq_ofNat_of_zero_le h0
  refine tr_cut hsp mixed 3 (byI a N (0, List.replicate ((N : Nat) : Int).toNat 0)) True ?_ (fun _ => ?_)
  · refine vcx (X := (((0 : Int) ≤ (↑N : Int) ∧ (↑N : Int) ≤ (↑N : Int) ∧ (↑(1 : Nat) : Int) * (↑N : Int) ≤ (281474976710656 : Int) ∧ (↑N : Int) ≤ (9223372036854775807 : Int)) ∧ (byI a N ((0 : Int), List.replicate (↑N : Int).toNat (0 : Int))).triv True)) (by kernel_rfl) ?_
    exact ⟨⟨by omega, by omega, by omega, by omega⟩, triv_intro trivial⟩
  refine tr_while hsp mixed noSw (fun σ => (rdS (.int .i64) 6 σ, rdR (.int .u8) 16 σ)) (byI a N) (byJ a N) (fun g => N - g.1.toNat)
    (fun σ => (rdS (.int .i64) 6 σ, rdR (.int .u8) 16 σ)) (byI a N) (fun g => g.2 = bytesN N (v16 a)) (0, List.replicate ((N : Nat) : Int).toNat 0) (c := nthC (codeOf Try.f15) 3) (by kernel_rfl) (by kernel_rfl) (le_of_proj (by kernel_rfl) (by kernel_rfl) ?_) ?_ ?_
  · exact ⟨0, Nat.zero_le _, rfl, byK_zero N (v16 a)⟩
  · rintro ⟨i, l⟩ hj
    revert i l
    intro (i : Int) (l : List Int) ⟨k, hk, ei, el⟩
    have ei : i = (k : Int) := ei
    have kl : l = byK N (v16 a) k := el
    subst ei
    refine vcx (X := ((decide ((↑k : Int) < (↑N : Int)) = true → ((2 : Int) = (0 : Int) → False) ∧ (decide (IntKind.i64.wrap ((↑k : Int).tdiv (2 : Int)) < (↑a.length : Int)) = true → ((2 : Int) = (0 : Int) → False) ∧ ((0 : Int) ≤ IntKind.i64.wrap ((↑k : Int).tdiv (2 : Int)) ∧ IntKind.i64.wrap ((↑k : Int).tdiv (2 : Int)) < (↑a.length : Int)) ∧ (IntKind.i64.wrap ((↑k : Int).tdiv (2 : Int))).toNat < a.length ∧ ((2 : Int) = (0 : Int) → False) ∧ (0 : Int) ≤ IntKind.u64.wrap (IntKind.i64.wrap ((8 : Int) * (↑k : Int).tmod (2 : Int))) ∧ ((0 : Int) ≤ IntKind.i64.wrap (IntKind.i64.wrap ((↑N : Int) - (1 : Int)) - (↑k : Int)) ∧ IntKind.i64.wrap (IntKind.i64.wrap ((↑N : Int) - (1 : Int)) - (↑k : Int)) < (↑(↑N : Int).toNat : Int)) ∧ (IntKind.i64.wrap (IntKind.i64.wrap ((↑N : Int) - (1 : Int)) - (↑k : Int))).toNat < (↑N : Int).toNat ∧ (byI a N (IntKind.i64.wrap ((↑k : Int) + (1 : Int)), l.set (IntKind.i64.wrap (IntKind.i64.wrap ((↑N : Int) - (1 : Int)) - (↑k : Int))).toNat (IntKind.u8.wrap ((a.getD (IntKind.i64.wrap ((↑k : Int).tdiv (2 : Int))).toNat (0 : Int)).fdiv ((2 : Int) ^ min (IntKind.u64.wrap (IntKind.i64.wrap ((8 : Int) * (↑k : Int).tmod (2 : Int)))).toNat IntKind.u32.bits))))).triv (byJ a N (IntKind.i64.wrap ((↑k : Int) + (1 : Int)), l.set (IntKind.i64.wrap (IntKind.i64.wrap ((↑N : Int) - (1 : Int)) - (↑k : Int))).toNat (IntKind.u8.wrap ((a.getD (IntKind.i64.wrap ((↑k : Int).tdiv (2 : Int))).toNat (0 : Int)).fdiv ((2 : Int) ^ min (IntKind.u64.wrap (IntKind.i64.wrap ((8 : Int) * (↑k : Int).tmod (2 : Int)))).toNat IntKind.u32.bits)))) ∧ N - (IntKind.i64.wrap ((↑k : Int) + (1 : Int))).toNat < N - (↑k : Int).toNat)) ∧ (decide (IntKind.i64.wrap ((↑k : Int).tdiv (2 : Int)) < (↑a.length : Int)) = false → (byI a N (IntKind.i64.wrap ((↑k : Int) + (1 : Int)), l)).triv (byJ a N (IntKind.i64.wrap ((↑k : Int) + (1 : Int)), l) ∧ N - (IntKind.i64.wrap ((↑k : Int) + (1 : Int))).toNat < N - (↑k : Int).toNat))) ∧ (decide ((↑k : Int) < (↑N : Int)) = false → (byI a N ((↑k : Int), l)).triv (l = bytesN N (v16 a))))) (by kernel_rfl) ?_
    have e1 : IntKind.i64.wrap ((k : Int).tdiv 2) = ((k / 2 : Nat) : Int) := by
      have : (k : Int).tdiv 2 = ((k / 2 : Nat) : Int) := rfl
      rw [this, wrap_i64' (by omega) (by omega)]
    have e2 : IntKind.u64.wrap (IntKind.i64.wrap (8 * (k : Int).tmod 2)) = ((8 * (k % 2) : Nat) : Int) := by
      have : (k : Int).tmod 2 = ((k % 2 : Nat) : Int) := rfl
      rw [this, wrap_i64' (by omega) (by omega), wrap_u64 (by omega) (by omega)]; omega
    have e3 : k < N → IntKind.i64.wrap (IntKind.i64.wrap ((N : Int) - 1) - (k : Int)) = ((N - 1 - k : Nat) : Int) := fun h => by
      rw [wrap_i64' (a := (N : Int) - 1) (by omega) (by omega), wrap_i64' (by omega) (by omega)]; omega
    rw [wrap_succ (by omega), e1, e2, Int.toNat_natCast, Int.toNat_natCast, Int.toNat_natCast, v16_get _ ha, byte_of]
    refine ⟨fun h => ?_, fun h => triv_intro ?_⟩
    · have hlt : k < N := by have := of_decide_eq_true h; omega
      rw [e3 hlt, Int.toNat_natCast]
      have hmu : N - ((k + 1 : Nat) : Int).toNat < N - (k : Int).toNat := by rw [Int.toNat_natCast, Int.toNat_natCast]; omega
      refine ⟨by decide, fun h2 => ⟨by decide, ⟨by omega, of_decide_eq_true h2⟩, by have := of_decide_eq_true h2; omega, by decide, by omega, ⟨by omega, by omega⟩, by omega, triv_intro ⟨⟨k + 1, hlt, rfl, ?_⟩, hmu⟩⟩, fun h2 => triv_intro ⟨⟨k + 1, hlt, rfl, ?_⟩, hmu⟩⟩
      · show l.set (N - 1 - k) _ = _
        rw [kl, byK_step hlt]
      · show l = _
        have hz : v16 a / p256 k = 0 := by
          refine Int.ediv_eq_zero_of_lt (v16_nn ha) (Int.lt_of_lt_of_le (v16_lt ha) ?_)
          rw [pv16_256]
          exact p256_mono (by have := of_decide_eq_false h2; omega)
        rw [← byK_step hlt, hz, kl]
        symm
        refine List.ext_getElem (by simp) fun j h1 h2 => ?_
        rw [List.getElem_set]
        by_cases c : N - 1 - k = j
        · rw [if_pos c]
          simp only [byK, List.getElem_map, List.getElem_range]
          rw [if_neg (by omega)]; rfl
        · rw [if_neg c]
    · have hk2 : k = N := by have := of_decide_eq_false h; omega
      show l = bytesN N (v16 a)
      rw [kl, hk2, byK_all]
  rintro ⟨i, l⟩ hj
  revert i l
  intro (i : Int) (l : List Int) (h2 : l = bytesN N (v16 a))
  refine tr_vc hsp mixed _ _ ?_
  refine vcx (X := ((0 : Nat) + (↑N : Int).toNat ≤ (↑N : Int).toNat ∧ (List.take (↑N : Int).toNat l, ()) = outBytes (a, (↑N : Int), ()))) (by kernel_rfl) ?_
  refine ⟨by omega, ?_⟩
  show _ = (bytesN ((N : Nat) : Int).toNat (v16 a), ())
  rw [Int.toNat_natCast, List.take_of_length_le (by rw [h2, bytesN_length]; exact Nat.le_refl _), h2]
noncomputable def spBytes : Nat × Eng.Spec := (15, fnSpec [wsl, .int .i64] [.own (.int .u8)] preBytes outBytes)
end Go.Proofs.Ytbfimfdhmggieaa.ref03
/- ref03: Number. -/
namespace Cr
theorem bytes_num2 : ∀ (n : Nat) (l : List Int), l.length = n → Bs l → ∀ i, i < n → l.getD (n - 1 - i) 0 = num l / p256 i % 256 := by
  intro n
  induction n with
  | zero => intro l _ _ i h; exact absurd h (Nat.not_lt_zero _)
  | succ n ih =>
    intro l h hb i hi
    have hne : l ≠ [] := by intro c; rw [c] at h; simp at h
    have e := List.dropLast_concat_getLast hne
    have hlast := hb _ (List.getLast_mem hne)
    have hd : Bs l.dropLast := fun x hx => hb x (List.dropLast_subset l hx)
    have hl : l.dropLast.length = n := by rw [List.length_dropLast]; omega
    have hn : num l = num l.dropLast * 256 + l.getLast hne := by rw [← num_snoc, e]
    cases i with
    | zero =>
      have : l.getD n 0 = l.getLast hne := by
        conv => lhs; rw [← e]
        rw [List.getD_eq_getElem?_getD, List.getElem?_append_right (by omega), hl, Nat.sub_self]; rfl
      rw [show n + 1 - 1 - 0 = n by omega, this, hn]
      simp only [p256]; omega
    | succ i =>
      have h2 := ih l.dropLast hl hd i (by omega)
      have : l.getD (n + 1 - 1 - (i + 1)) 0 = l.dropLast.getD (n - 1 - i) 0 := by
        conv => lhs; rw [← e]
        rw [show n + 1 - 1 - (i + 1) = n - 1 - i by omega, List.getD_eq_getElem?_getD, List.getElem?_append_left (by omega), ← List.getD_eq_getElem?_getD]
      rw [this, h2, hn]
      simp only [p256]
      rw [← Int.ediv_ediv_of_nonneg (by decide), show (num l.dropLast * 256 + l.getLast hne) / 256 = num l.dropLast by omega]
theorem num_dig {b : List Int} (hb : Bs b) {i : Nat} (h : i < b.length) : b.getD (b.length - 1 - i) 0 = num b / p256 i % 256 := by
  exact bytes_num2 b.length b rfl hb i h
end Cr
namespace Go.Proofs.Ytbfimfdhmggieaa.ref03
set_option maxRecDepth 100000
open Go Go.Eng Go.RowKit Cr Go.Proofs.Ytbfimfdhmggieaa
theorem ent_number : enters Try.prog 7 Try.f7 := enters_mk (by kernel_rfl) (by kernel_rfl) (by kernel_rfl)
def numbF (b : List Int) : List Int := w16 ((b.length + 1) / 2) (num b)
abbrev preNumb : HL [.sl (.int .u8)] → Prop := fun (b, _) => Bs b ∧ List.length b ≤ 1000000
abbrev outNumb : HL [.sl (.int .u8)] → HO [.own (.int .u32)] := fun (b, _) => (numbF b, ())
theorem or_u32 (n m : Nat) (h1 : n < 256) (h2 : m < 256) (e : Nat) (he : e = 0 ∨ e = 1) (h0 : e = 0 → n = 0) : bitOp .or .u32 (n : Int) (IntKind.u32.wrap (IntKind.u32.wrap (m : Int) * 2 ^ min (8 * e) IntKind.u32.bits)) = (n : Int) + 256 ^ e * (m : Int) := by
  rw [wrap_u32 (a := (m : Int)) (by omega) (by omega)]
  have key : ∀ x : Nat, x < 4294967296 → bitOp .or .u32 (n : Int) (x : Int) = ((n ||| x : Nat) : Int) := by
    intro x hx
    have hlt : n ||| x < 2 ^ 32 := Nat.or_lt_two_pow (by omega) (by omega)
    have e : ((BitVec.ofInt 32 (n : Int) ||| BitVec.ofInt 32 (x : Int) : BitVec 32).toNat) = n ||| x := by
      rw [BitVec.toNat_or, BitVec.toNat_ofInt, BitVec.toNat_ofInt]
      congr 1 <;> omega
    show IntKind.u32.wrap (((BitVec.ofInt 32 (n : Int) ||| BitVec.ofInt 32 (x : Int) : BitVec 32).toNat : Nat) : Int) = _
    rw [e]
    exact wrap_u32 (by omega) (by omega)
  rcases he with rfl | rfl
  · rw [show (2 : Int) ^ min (8 * 0) IntKind.u32.bits = 1 from rfl, Int.mul_one, wrap_u32 (by omega) (by omega), key m (by omega), h0 rfl]
    simp
  · rw [show (2 : Int) ^ min (8 * 1) IntKind.u32.bits = 256 from rfl, wrap_u32 (by omega) (by omega)]
    have := key (m * 256) (by omega)
    rw [Int.natCast_mul] at this
    rw [show (m : Int) * 256 = (m : Int) * ((256 : Nat) : Int) from rfl, this]
    have h3 := Nat.two_pow_add_eq_or_of_lt (i := 8) (b := n) (by omega) m
    rw [Nat.or_comm, show m * 256 = 2 ^ 8 * m by omega, ← h3]
    simp
    omega
theorem num_step {V : Int} {m k : Nat} (hm : k / 2 < m) : (w16 m (V % p256 k)).set (k / 2) (bitOp .or .u32 ((w16 m (V % p256 k)).getD (k / 2) 0) (IntKind.u32.wrap (IntKind.u32.wrap (V / p256 k % 256) * 2 ^ min (8 * (k % 2)) IntKind.u32.bits))) = w16 m (V % p256 (k + 1)) := by
  have hp := p256_pos k
  have eR : V % p256 (k + 1) = V % p256 k + p256 k * (V / p256 k % 256) := by
    rw [show p256 (k + 1) = p256 k * 256 from Int.mul_comm _ _, mod_mul' V hp (by decide)]
  have hR0 := Int.emod_nonneg V (show p256 k ≠ 0 by omega)
  have hR1 := Int.emod_lt_of_pos V hp
  have hd0 : 0 ≤ V / p256 k % 256 := by omega
  have hd1 : V / p256 k % 256 < 256 := by omega
  have hR2 : V % p256 (k + 1) < p256 (k + 1) := Int.emod_lt_of_pos V (p256_pos _)
  have hR3 : 0 ≤ V % p256 (k + 1) := Int.emod_nonneg V (by have := p256_pos (k + 1); omega)
  have hg : (w16 m (V % p256 k)).getD (k / 2) 0 = V % p256 k / pv16 (k / 2) % 65536 := by
    rw [w16, List.getD_eq_getElem?_getD, List.getElem?_map, List.getElem?_range hm]; rfl
  rw [hg]
  generalize V / p256 k % 256 = d at *
  generalize V % p256 k = R at *
  generalize V % p256 (k + 1) = R' at *
  subst eR
  refine List.ext_getElem (by simp [w16]) fun j h1 h2 => ?_
  have hj : j < m := by simpa [w16] using h2
  rw [List.getElem_set]
  simp only [w16, List.getElem_map, List.getElem_range]
  have hpj := pv16_pos j
  by_cases c : k / 2 = j
  · rw [if_pos c, c]
    rcases Nat.mod_two_eq_zero_or_one k with h | h
    · have e : p256 k = pv16 j := by rw [pv16_256]; congr 1; omega
      have z : R / pv16 j = 0 := Int.ediv_eq_zero_of_lt hR0 (by omega)
      obtain ⟨dn, rfl⟩ := Int.eq_ofNat_of_zero_le hd0
      have := or_u32 0 dn (by decide) (by omega) 0 (.inl rfl) (fun _ => rfl)
      rw [z, h, e, Int.add_mul_ediv_left _ _ (by omega), z]
      rw [show (0 : Int) % 65536 = ((0 : Nat) : Int) from rfl, this]
      simp
      omega
    · have e : p256 k = pv16 j * 256 := by
        rw [pv16_256, show k = 2 * j + 1 by omega]; exact Int.mul_comm _ _
      have z0 : 0 ≤ R / pv16 j := Int.ediv_nonneg hR0 (by omega)
      have z1 : R / pv16 j < 256 := Int.ediv_lt_of_lt_mul hpj (by rw [Int.mul_comm]; omega)
      obtain ⟨dn, rfl⟩ := Int.eq_ofNat_of_zero_le hd0
      rw [e, Int.mul_assoc, Int.add_mul_ediv_left _ _ (by omega)]
      generalize R / pv16 j = x at *
      obtain ⟨xn, rfl⟩ := Int.eq_ofNat_of_zero_le z0
      have := or_u32 xn dn (by omega) (by omega) 1 (.inr rfl) (fun c => by cases c)
      rw [h, show (xn : Int) % 65536 = (xn : Int) by omega, this]
      omega
  · rw [if_neg c]
    by_cases c2 : j < k / 2
    · have e : p256 k = pv16 j * (65536 * p256 (k - 2 * (j + 1))) := by
        rw [pv16_256]
        have : p256 k = p256 (2 * j) * p256 (2 + (k - 2 * (j + 1))) := by rw [← p256_add]; congr 1; omega
        rw [this, p256_add 2]; rfl
      rw [e, Int.mul_assoc, Int.add_mul_ediv_left _ _ (by omega), Int.mul_assoc]
      omega
    · have hle : p256 (k + 1) ≤ pv16 j := by rw [pv16_256]; exact p256_mono (by omega)
      have hle2 : p256 k ≤ p256 (k + 1) := p256_mono (by omega)
      rw [Int.ediv_eq_zero_of_lt hR0 (by omega), Int.ediv_eq_zero_of_lt hR3 (by omega)]
noncomputable def nbS (b : List Int) (g : Nat × List Int) : St := mkSt Try.f7.ntmps 64 [(0, .is (.one (.ro (.int .u8) b))), (3, .is (.one (.sl 40 0 0 g.1 1))), (4, sI .i64 0)] [(40, [.ints .u32 g.1 g.2])]
noncomputable def nbI (b : List Int) (m : Nat) (g : Int × List Int) : St := mkSt Try.f7.ntmps 64 [(0, .is (.one (.ro (.int .u8) b))), (3, .is (.one (.sl 40 0 0 m 1))), (4, sI .i64 g.1)] [(40, [.ints .u32 m g.2])]
theorem fn_number : FnOk Try.prog 7 [.sl (.int .u8)] [.own (.int .u32)] noG preNumb outNumb := by
  have hsp : SpecsOk Try.prog (sps []) := sps_nil
  refine fn_of_tr (sp := sps []) ent_number (by decide) (by decide) (by kernel_rfl) ?_
  rintro w M0 ⟨b, ⟨⟩⟩
  revert b
  intro (b : List Int) _ hp
  obtain ⟨hb, hl⟩ := hp
  have hl : b.length ≤ 1000000 := hl
  show Tr _ _ _ _ _ _ _
  refine tr_cutF hsp mixed 3 (fun σ => (rdL 3 σ, rdR (.int .u32) 40 σ)) (nbS b) (fun g => g.1 = (b.length + 1) / 2 ∧ g.2 = List.replicate ((b.length + 1) / 2) 0) ?_ ?_
  · refine vcx (X := (((2 : Int) = (0 : Int) → False) ∧ ((0 : Int) ≤ IntKind.i64.wrap ((IntKind.i64.wrap ((↑b.length : Int) + (1 : Int))).tdiv (2 : Int)) ∧ IntKind.i64.wrap ((IntKind.i64.wrap ((↑b.length : Int) + (1 : Int))).tdiv (2 : Int)) ≤ IntKind.i64.wrap ((IntKind.i64.wrap ((↑b.length : Int) + (1 : Int))).tdiv (2 : Int)) ∧ (↑(4 : Nat) : Int) * IntKind.i64.wrap ((IntKind.i64.wrap ((↑b.length : Int) + (1 : Int))).tdiv (2 : Int)) ≤ (281474976710656 : Int) ∧ IntKind.i64.wrap ((IntKind.i64.wrap ((↑b.length : Int) + (1 : Int))).tdiv (2 : Int)) ≤ (9223372036854775807 : Int)) ∧ (nbS b ((IntKind.i64.wrap ((IntKind.i64.wrap ((↑b.length : Int) + (1 : Int))).tdiv (2 : Int))).toNat, List.replicate (IntKind.i64.wrap ((IntKind.i64.wrap ((↑b.length : Int) + (1 : Int))).tdiv (2 : Int))).toNat (0 : Int))).triv ((IntKind.i64.wrap ((IntKind.i64.wrap ((↑b.length : Int) + (1 : Int))).tdiv (2 : Int))).toNat = (b.length + (1 : Nat)) / (2 : Nat) ∧ List.replicate (IntKind.i64.wrap ((IntKind.i64.wrap ((↑b.length : Int) + (1 : Int))).tdiv (2 : Int))).toNat (0 : Int) = List.replicate ((b.length + (1 : Nat)) / (2 : Nat)) (0 : Car (Kd.int IntKind.u32))))) (by kernel_rfl) ?_
    have e1 : IntKind.i64.wrap ((IntKind.i64.wrap ((b.length : Int) + 1)).tdiv 2) = (((b.length + 1) / 2 : Nat) : Int) := by
      rw [wrap_i64' (a := (b.length : Int) + 1) (by omega) (by omega)]
      have : ((b.length : Int) + 1).tdiv 2 = (((b.length + 1) / 2 : Nat) : Int) := rfl
      rw [this, wrap_i64' (by omega) (by omega)]
    simp only [e1, Int.toNat_natCast]
    exact ⟨by decide, ⟨by omega, by omega, by omega, by omega⟩, triv_intro ⟨by first | rfl | trivial, by first | rfl | trivial⟩⟩
  rintro ⟨m, l⟩ hK
  revert l
  intro (l : List Int) ⟨h1, h2⟩
  have h1 : m = (b.length + 1) / 2 := h1
  have h2 : l = List.replicate ((b.length + 1) / 2) 0 := h2
  refine tr_while hsp mixed noSw (fun σ => (rdS (.int .i64) 4 σ, rdR (.int .u32) 40 σ)) (nbI b m) (fun g => ∃ k : Nat, k ≤ b.length ∧ g.1 = (k : Int) ∧ g.2 = w16 m (num b % p256 k)) (fun g => b.length - g.1.toNat)
    (fun σ => (rdS (.int .i64) 4 σ, rdR (.int .u32) 40 σ)) (nbI b m) (fun g => g.2 = numbF b) (0, l) (c := nthC (codeOf Try.f7) 3) (by kernel_rfl) (by kernel_rfl) (le_of_proj (by kernel_rfl) (by kernel_rfl) ?_) ?_ ?_
  · refine ⟨0, Nat.zero_le _, rfl, ?_⟩
    show l = w16 m (num b % 1)
    rw [h2, h1, show num b % 1 = 0 by omega]
    symm
    refine List.eq_replicate_iff.2 ⟨w16_len _ _, fun x hx => ?_⟩
    simp only [w16, List.mem_map] at hx
    obtain ⟨j, _, rfl⟩ := hx
    simp
  · rintro ⟨i, l⟩ hj
    revert i l
    intro (i : Int) (l : List Int) ⟨k, hk, ei, el⟩
    have ei : i = (k : Int) := ei
    subst ei
    have kl : l = w16 m (num b % p256 k) := el
    refine vcx (X := ((decide ((↑k : Int) < (↑b.length : Int)) = true → ((2 : Int) = (0 : Int) → False) ∧ ((0 : Int) ≤ IntKind.i64.wrap ((↑k : Int).tdiv (2 : Int)) ∧ IntKind.i64.wrap ((↑k : Int).tdiv (2 : Int)) < (↑m : Int)) ∧ (IntKind.i64.wrap ((↑k : Int).tdiv (2 : Int))).toNat < m ∧ ((0 : Int) ≤ IntKind.i64.wrap (IntKind.i64.wrap ((↑b.length : Int) - (1 : Int)) - (↑k : Int)) ∧ IntKind.i64.wrap (IntKind.i64.wrap ((↑b.length : Int) - (1 : Int)) - (↑k : Int)) < (↑b.length : Int)) ∧ (IntKind.i64.wrap (IntKind.i64.wrap ((↑b.length : Int) - (1 : Int)) - (↑k : Int))).toNat < b.length ∧ ((2 : Int) = (0 : Int) → False) ∧ (0 : Int) ≤ IntKind.u64.wrap (IntKind.i64.wrap ((8 : Int) * (↑k : Int).tmod (2 : Int))) ∧ ((0 : Int) ≤ IntKind.i64.wrap ((↑k : Int).tdiv (2 : Int)) ∧ IntKind.i64.wrap ((↑k : Int).tdiv (2 : Int)) < (↑m : Int)) ∧ (IntKind.i64.wrap ((↑k : Int).tdiv (2 : Int))).toNat < m ∧ (nbI b m (IntKind.i64.wrap ((↑k : Int) + (1 : Int)), l.set (IntKind.i64.wrap ((↑k : Int).tdiv (2 : Int))).toNat (bitOp BinOp.or IntKind.u32 (l.getD (IntKind.i64.wrap ((↑k : Int).tdiv (2 : Int))).toNat (0 : Int)) (IntKind.u32.wrap (IntKind.u32.wrap (b.getD (IntKind.i64.wrap (IntKind.i64.wrap ((↑b.length : Int) - (1 : Int)) - (↑k : Int))).toNat (0 : Int)) * (2 : Int) ^ min (IntKind.u64.wrap (IntKind.i64.wrap ((8 : Int) * (↑k : Int).tmod (2 : Int)))).toNat IntKind.u32.bits))))).triv ((∃ k_1, k_1 ≤ b.length ∧ IntKind.i64.wrap ((↑k : Int) + (1 : Int)) = (↑k_1 : Int) ∧ l.set (IntKind.i64.wrap ((↑k : Int).tdiv (2 : Int))).toNat (bitOp BinOp.or IntKind.u32 (l.getD (IntKind.i64.wrap ((↑k : Int).tdiv (2 : Int))).toNat (0 : Int)) (IntKind.u32.wrap (IntKind.u32.wrap (b.getD (IntKind.i64.wrap (IntKind.i64.wrap ((↑b.length : Int) - (1 : Int)) - (↑k : Int))).toNat (0 : Int)) * (2 : Int) ^ min (IntKind.u64.wrap (IntKind.i64.wrap ((8 : Int) * (↑k : Int).tmod (2 : Int)))).toNat IntKind.u32.bits))) = w16 m (num b % p256 k_1)) ∧ b.length - (IntKind.i64.wrap ((↑k : Int) + (1 : Int))).toNat < b.length - (↑k : Int).toNat)) ∧ (decide ((↑k : Int) < (↑b.length : Int)) = false → (nbI b m ((↑k : Int), l)).triv (l = numbF b)))) (by kernel_rfl) ?_
    have e1 : IntKind.i64.wrap ((k : Int).tdiv 2) = ((k / 2 : Nat) : Int) := by
      have : (k : Int).tdiv 2 = ((k / 2 : Nat) : Int) := rfl
      rw [this, wrap_i64' (by omega) (by omega)]
    have e2 : IntKind.u64.wrap (IntKind.i64.wrap (8 * (k : Int).tmod 2)) = ((8 * (k % 2) : Nat) : Int) := by
      have : (k : Int).tmod 2 = ((k % 2 : Nat) : Int) := rfl
      rw [this, wrap_i64' (by omega) (by omega), wrap_u64 (by omega) (by omega)]; omega
    have e3 : k < b.length → IntKind.i64.wrap (IntKind.i64.wrap ((b.length : Int) - 1) - (k : Int)) = ((b.length - 1 - k : Nat) : Int) := fun h => by
      rw [wrap_i64' (a := (b.length : Int) - 1) (by omega) (by omega), wrap_i64' (by omega) (by omega)]; omega
    refine ⟨fun h => ?_, fun h => triv_intro ?_⟩
    · have hlt : k < b.length := by have := of_decide_eq_true h; omega
      have hkm : k / 2 < m := by omega
      simp only [wrap_succ (show k < 9223372036854775807 by omega), e1, e2, e3 hlt, Int.toNat_natCast, num_dig hb hlt]
      refine ⟨by decide, ⟨by omega, by omega⟩, hkm, ⟨by omega, by omega⟩, by omega, by decide, by omega, ⟨by omega, by omega⟩, hkm, triv_intro ⟨⟨k + 1, hlt, rfl, ?_⟩, by omega⟩⟩
      rw [kl, num_step hkm]
    · have hk2 : k = b.length := by have := of_decide_eq_false h; omega
      show l = w16 ((b.length + 1) / 2) (num b)
      rw [kl, hk2, h1, Int.emod_eq_of_lt (num_bd hb).1 (num_bd hb).2]
  rintro ⟨i, l⟩ hj
  revert i l
  intro (i : Int) (l : List Int) (hj : l = numbF b)
  refine tr_vc hsp mixed _ _ ?_
  refine vcx (X := ((0 : Nat) + m ≤ m ∧ (List.take m l, ()) = outNumb (b, ()))) (by kernel_rfl) ?_
  refine ⟨by omega, ?_⟩
  show _ = (numbF b, ())
  rw [List.take_of_length_le (by rw [hj, numbF, w16_len]; omega), hj]
end Go.Proofs.Ytbfimfdhmggieaa.ref03
/- ref03: Times. -/
namespace Go.Proofs.Ytbfimfdhmggieaa.ref03
set_option maxRecDepth 100000
open Go Go.Eng Go.RowKit Cr Go.Proofs.Ytbfimfdhmggieaa
theorem ent_times : enters Try.prog 26 Try.f26 := enters_mk (by kernel_rfl) (by kernel_rfl) (by kernel_rfl)
def timesF (a b : List Int) : List Int := w16 (a.length + b.length + 1) (v16 a * v16 b)
abbrev outTimes : HL [wsl, wsl] → HO [.own (.int .u32)] := fun (a, b, _) => (timesF a b, ())
noncomputable def tiS (a b : List Int) (g : Nat × List Int) : St := mkSt Try.f26.ntmps 96 [(0, .is (.one (.ro (.int .u32) a))), (1, .is (.one (.ro (.int .u32) b))), (5, .is (.one (.sl 56 0 0 g.1 1))), (18, sI .i64 a.length), (19, sI .i64 0)] [(56, [.ints .u32 g.1 g.2])]
noncomputable def tiI (a b : List Int) (L : Nat) (g : Int × List Int) : St := mkSt Try.f26.ntmps 96 [(0, .is (.one (.ro (.int .u32) a))), (1, .is (.one (.ro (.int .u32) b))), (5, .is (.one (.sl 56 0 0 L 1))), (18, sI .i64 a.length), (19, sI .i64 g.1)] [(56, [.ints .u32 L g.2])]
noncomputable def tiN (a b : List Int) (L k : Nat) (g : Int × List Int × Int) : St := mkSt Try.f26.ntmps 128 [(0, .is (.one (.ro (.int .u32) a))), (1, .is (.one (.ro (.int .u32) b))), (5, .is (.one (.sl 56 0 0 L 1))), (6, sI .i64 k), (7, sI .u64 g.2.2), (8, sI .i64 g.1), (18, sI .i64 a.length), (19, sI .i64 k)] [(56, [.ints .u32 L g.2.1])]
/-- The value behind j words. -/
def tiV (a b : List Int) (k j : Nat) : Int := v16 a % pv16 k * v16 b + pv16 k * (v16 a / pv16 k % 65536 * (v16 b % pv16 j))
def tiL (a b : List Int) (L k j : Nat) : List Int := (List.range L).map fun t => if t < k + j then tiV a b k j / pv16 t % 65536 else v16 a % pv16 k * v16 b / pv16 t % 65536
theorem pv16_add (m n : Nat) : pv16 (m + n) = pv16 m * pv16 n := by
  rw [pv16_256, pv16_256, pv16_256, ← p256_add]; congr 1; omega
theorem tiV_succ (a b : List Int) (k n : Nat) : tiV a b k (n + 1) = tiV a b k n + pv16 (k + n) * (v16 a / pv16 k % 65536 * (v16 b / pv16 n % 65536)) := by
  unfold tiV
  rw [show pv16 (n + 1) = pv16 n * 65536 from Int.mul_comm _ _, mod_mul' (v16 b) (pv16_pos n) (by decide), pv16_add]
  generalize v16 a % pv16 k * v16 b = T
  generalize v16 a / pv16 k % 65536 = x
  generalize v16 b / pv16 n % 65536 = y
  generalize v16 b % pv16 n = r
  generalize pv16 k = p
  generalize pv16 n = q
  grind
theorem tiL_getD (a b : List Int) {L k n : Nat} (h : k + n < L) : (tiL a b L k n).getD (k + n) 0 = v16 a % pv16 k * v16 b / pv16 (k + n) % 65536 := by
  rw [tiL, List.getD_eq_getElem?_getD, List.getElem?_map, List.getElem?_range h, Option.map_some, Option.getD_some, if_neg (by omega)]
theorem tiL_step (a b : List Int) {L k n : Nat} (h : k + n < L) : (tiL a b L k n).set (k + n) (tiV a b k (n + 1) / pv16 (k + n) % 65536) = tiL a b L k (n + 1) := by
  refine List.ext_getElem (by simp [tiL]) fun t h1 h2 => ?_
  rw [List.getElem_set]
  simp only [tiL, List.getElem_map, List.getElem_range]
  by_cases c : k + n = t
  · rw [if_pos c, if_pos (by omega), c]
  · rw [if_neg c]
    by_cases d : t < k + n
    · rw [if_pos d, if_pos (by omega), tiV_succ]
      have e : pv16 (k + n) = pv16 t * (65536 * pv16 (k + n - t - 1)) := by
        have : pv16 (k + n) = pv16 (t + (1 + (k + n - t - 1))) := by congr 1; omega
        rw [this, pv16_add, pv16_add]; rfl
      have hp := pv16_pos t
      rw [e, Int.mul_assoc, Int.add_mul_ediv_left _ _ (by omega), Int.mul_assoc]
      omega
    · rw [if_neg d, if_neg (by omega)]
theorem tiV_zero (a b : List Int) (k : Nat) : tiV a b k 0 = v16 a % pv16 k * v16 b := by
  unfold tiV
  rw [show v16 b % pv16 0 = 0 from Int.emod_one _, Int.mul_zero, Int.mul_zero, Int.add_zero]
theorem tiL_zero (a b : List Int) (L k : Nat) : tiL a b L k 0 = w16 L (v16 a % pv16 k * v16 b) := by
  refine List.map_congr_left fun t _ => ?_
  rw [tiV_zero]
  split <;> rfl
theorem tiV_end {a b : List Int} (hb : W16 b) (k : Nat) : tiV a b k (b.length + 1) = v16 a % pv16 (k + 1) * v16 b := by
  unfold tiV
  rw [Int.emod_eq_of_lt (a := v16 b) (v16_nn hb) (Int.lt_of_lt_of_le (v16_lt hb) (pv16_mono (by omega))), show pv16 (k + 1) = pv16 k * 65536 from Int.mul_comm _ _, mod_mul' (v16 a) (pv16_pos k) (by decide), Int.add_mul, Int.mul_assoc]
theorem prod_lt {a b : List Int} (ha : W16 a) (hb : W16 b) (k : Nat) : 0 ≤ v16 a % pv16 k * v16 b ∧ v16 a % pv16 k * v16 b < pv16 (k + b.length) := by
  have hp := pv16_pos k
  have h1 := Int.emod_nonneg (v16 a) (show pv16 k ≠ 0 by omega)
  have h2 := Int.emod_lt_of_pos (v16 a) hp
  have h3 := v16_nn hb
  have h4 := v16_lt hb
  refine ⟨Int.mul_nonneg h1 h3, ?_⟩
  rw [pv16_add]
  have hq := pv16_pos b.length
  exact Int.lt_of_le_of_lt (Int.mul_le_mul_of_nonneg_right (Int.le_of_lt h2) h3) (Int.mul_lt_mul_of_pos_left h4 hp)
theorem tiL_end {a b : List Int} (ha : W16 a) (hb : W16 b) (L k : Nat) : tiL a b L k (b.length + 1) = w16 L (v16 a % pv16 (k + 1) * v16 b) := by
  refine List.map_congr_left fun t _ => ?_
  rw [tiV_end hb]
  split
  · rfl
  · rename_i h
    obtain ⟨a1, a2⟩ := prod_lt ha hb k
    obtain ⟨b1, b2⟩ := prod_lt ha hb (k + 1)
    have m1 : pv16 (k + b.length) ≤ pv16 t := pv16_mono (by omega)
    have m2 : pv16 (k + 1 + b.length) ≤ pv16 t := pv16_mono (by omega)
    rw [Int.ediv_eq_zero_of_lt a1 (by omega), Int.ediv_eq_zero_of_lt b1 (by omega)]
theorem and16_64 {a : Int} (h0 : 0 ≤ a) (h1 : a < 18446744073709551616) : bitOp .and .u64 a 65535 = a % 65536 := by
  obtain ⟨n, rfl⟩ := Int.eq_ofNat_of_zero_le h0
  have := and_u64 n 65535 (by omega) (by omega)
  rw [show ((65535 : Nat) : Int) = 65535 from rfl] at this
  rw [this]
  have h := Nat.and_two_pow_sub_one_eq_mod n 16
  rw [show 2 ^ 16 - 1 = 65535 from rfl] at h
  rw [h]
  omega
theorem ti_carry (a b : List Int) (k n : Nat) {c : Int} (hc : c = tiV a b k n / pv16 (k + n) - v16 a % pv16 k * v16 b / pv16 (k + n)) :
    tiV a b k (n + 1) / pv16 (k + n) % 65536 = (v16 a % pv16 k * v16 b / pv16 (k + n) % 65536 + v16 a / pv16 k % 65536 * (v16 b / pv16 n % 65536) + c) % 65536 ∧
    tiV a b k (n + 1) / pv16 (k + (n + 1)) - v16 a % pv16 k * v16 b / pv16 (k + (n + 1)) = (v16 a % pv16 k * v16 b / pv16 (k + n) % 65536 + v16 a / pv16 k % 65536 * (v16 b / pv16 n % 65536) + c) / 65536 := by
  have hp := pv16_pos (k + n)
  have e : pv16 (k + (n + 1)) = pv16 (k + n) * 65536 := Int.mul_comm _ _
  rw [e, ← Int.ediv_ediv_of_nonneg (by omega), ← Int.ediv_ediv_of_nonneg (by omega), tiV_succ, Int.add_mul_ediv_left _ _ (by omega)]
  generalize v16 a / pv16 k % 65536 * (v16 b / pv16 n % 65536) = z
  generalize v16 a % pv16 k * v16 b / pv16 (k + n) = q at *
  generalize tiV a b k n / pv16 (k + n) = r at *
  omega
def tiJ (a b : List Int) (L k : Nat) (g : Int × List Int × Int) : Prop := ∃ n : Nat, n ≤ b.length + 1 ∧ g.1 = (n : Int) ∧ g.2.1 = tiL a b L k n ∧ (g.2.2 = tiV a b k n / pv16 (k + n) - v16 a % pv16 k * v16 b / pv16 (k + n) ∧ 0 ≤ g.2.2 ∧ g.2.2 < 65536)
theorem fn_times : FnOk Try.prog 26 [wsl, wsl] [.own (.int .u32)] noG preW2 outTimes := by
  have hsp : SpecsOk Try.prog (sps [spWord]) := (sps_cons (fnSpec_ok fn_word) sps_nil)
  refine fn_of_tr (sp := sps [spWord]) ent_times (by decide) (by decide) (by kernel_rfl) ?_
  rintro w M0 ⟨a, b, ⟨⟩⟩
  revert a b
  intro (a : List Int) (b : List Int) _ hp
  obtain ⟨ha, hb, hla, hlb⟩ := hp
  have hla : a.length ≤ 1000000 := hla
  have hlb : b.length ≤ 1000000 := hlb
  show Tr _ _ _ _ _ _ _
  have eL : (IntKind.i64.wrap (IntKind.i64.wrap ((a.length : Int) + (b.length : Int)) + 1)) = ((a.length + b.length + 1 : Nat) : Int) := by
    rw [wrap_i64' (a := (a.length : Int) + (b.length : Int)) (by omega) (by omega), wrap_i64' (by omega) (by omega)]; omega
  refine tr_cutF hsp mixed 3 (fun σ => (rdL 5 σ, rdR (.int .u32) 56 σ)) (tiS a b) (fun g => g.1 = a.length + b.length + 1 ∧ g.2 = w16 (a.length + b.length + 1) 0) ?_ ?_
  · refine vcx (X := (((0 : Int) ≤ IntKind.i64.wrap (IntKind.i64.wrap ((↑a.length : Int) + (↑b.length : Int)) + (1 : Int)) ∧ IntKind.i64.wrap (IntKind.i64.wrap ((↑a.length : Int) + (↑b.length : Int)) + (1 : Int)) ≤ IntKind.i64.wrap (IntKind.i64.wrap ((↑a.length : Int) + (↑b.length : Int)) + (1 : Int)) ∧ (↑(4 : Nat) : Int) * IntKind.i64.wrap (IntKind.i64.wrap ((↑a.length : Int) + (↑b.length : Int)) + (1 : Int)) ≤ (281474976710656 : Int) ∧ IntKind.i64.wrap (IntKind.i64.wrap ((↑a.length : Int) + (↑b.length : Int)) + (1 : Int)) ≤ (9223372036854775807 : Int)) ∧ (tiS a b ((IntKind.i64.wrap (IntKind.i64.wrap ((↑a.length : Int) + (↑b.length : Int)) + (1 : Int))).toNat, List.replicate (IntKind.i64.wrap (IntKind.i64.wrap ((↑a.length : Int) + (↑b.length : Int)) + (1 : Int))).toNat (0 : Int))).triv ((IntKind.i64.wrap (IntKind.i64.wrap ((↑a.length : Int) + (↑b.length : Int)) + (1 : Int))).toNat = a.length + b.length + (1 : Nat) ∧ List.replicate (IntKind.i64.wrap (IntKind.i64.wrap ((↑a.length : Int) + (↑b.length : Int)) + (1 : Int))).toNat (0 : Int) = w16 (a.length + b.length + (1 : Nat)) (0 : Int)))) (by kernel_rfl) ?_
    simp only [eL, Int.toNat_natCast]
    refine ⟨⟨by omega, by omega, by omega, by omega⟩, triv_intro ⟨by first | rfl | trivial, ?_⟩⟩
    symm
    refine List.eq_replicate_iff.2 ⟨w16_len _ _, fun x hx => ?_⟩
    simp only [w16, List.mem_map] at hx
    obtain ⟨j, _, rfl⟩ := hx
    simp
  rintro ⟨L, l⟩ hK
  revert l
  intro (l : List Int) ⟨h1, h2⟩
  have h1 : L = a.length + b.length + 1 := h1
  have h2 : l = w16 (a.length + b.length + 1) 0 := h2
  rw [← h1] at h2
  refine tr_whileT noSw (fun σ => (rdS (.int .i64) 19 σ, rdR (.int .u32) 56 σ)) (tiI a b L) (fun g => ∃ k : Nat, k ≤ a.length ∧ g.1 = (k : Int) ∧ g.2 = w16 L (v16 a % pv16 k * v16 b)) (fun g => a.length - g.1.toNat)
    (fun σ => (rdS (.int .i64) 19 σ, rdR (.int .u32) 56 σ)) (tiI a b L) (fun g => g.2 = timesF a b) (0, l) (c := nthC (codeOf Try.f26) 3) (by kernel_rfl) (by kernel_rfl) (le_of_proj (by kernel_rfl) (by kernel_rfl) ?_) ?_ ?_
  · refine ⟨0, Nat.zero_le _, rfl, ?_⟩
    show l = w16 L (v16 a % 1 * v16 b)
    rw [h2, show v16 a % 1 = 0 by omega, Int.zero_mul]
  · rintro ⟨i, l⟩ hj
    revert i l
    intro (i : Int) (l : List Int) ⟨k, hk, ei, el⟩
    have ei : i = (k : Int) := ei
    subst ei
    have kl : l = w16 L (v16 a % pv16 k * v16 b) := el
    refine tr_cut hsp mixed 2 (tiI a b L ((k : Int), l)) (k < a.length) ?_ (fun hlt => ?_)
    · refine vcx (X := ((decide ((↑k : Int) < (↑a.length : Int)) = true → (tiI a b L ((↑k : Int), l)).triv (k < a.length)) ∧ (decide ((↑k : Int) < (↑a.length : Int)) = false → (tiI a b L ((↑k : Int), l)).triv (l = timesF a b)))) (by kernel_rfl) ?_
      refine ⟨fun h => triv_intro (by have := dec_lt h; omega), fun h => triv_intro ?_⟩
      have hk2 : k = a.length := by have := dec_ge h; omega
      show l = timesF a b
      rw [kl, hk2, timesF, h1, Int.emod_eq_of_lt (v16_nn ha) (v16_lt ha)]
    refine tr_block (c := nthC (loopOf (nthC (codeOf Try.f26) 3)) 2) (by kernel_rfl) (by kernel_rfl) ?_
    refine tr_cut hsp mixed 3 (tiN a b L k (0, l, 0)) True ?_ (fun _ => ?_)
    · refine vcx (X := ((tiN a b L k ((0 : Int), l, (0 : Int))).triv True)) (by kernel_rfl) ?_
      exact triv_intro trivial
    refine tr_while hsp mixed noSw (fun σ => (rdS (.int .i64) 8 σ, rdR (.int .u32) 56 σ, rdS (.int .u64) 7 σ)) (tiN a b L k) (tiJ a b L k) (fun g => b.length + 1 - g.1.toNat)
      (fun σ => rdR (.int .u32) 56 σ) (fun l => tiI a b L ((k : Int), l)) (fun l => l = w16 L (v16 a % pv16 (k + 1) * v16 b)) (0, l, 0) (c := nthC (bodyOf (nthC (loopOf (nthC (codeOf Try.f26) 3)) 2)) 3) (by kernel_rfl) (by kernel_rfl) (le_of_proj (by kernel_rfl) (by kernel_rfl) ?_) ?_ ?_
    · refine ⟨0, Nat.zero_le _, rfl, ?_, ?_, Int.le_refl _, show (0 : Int) < 65536 by decide⟩
      · show l = _
        rw [tiL_zero, kl]
      · show (0 : Int) = _
        rw [tiV_zero]; omega
    · rintro ⟨j, l, c⟩ hj
      revert j l c
      intro (j : Int) (l : List Int) (c : Int) ⟨n, hn, ej, el, ec⟩
      have ej : j = (n : Int) := ej
      subst ej
      have kl2 : l = tiL a b L k n := el
      have kc : c = tiV a b k n / pv16 (k + n) - v16 a % pv16 k * v16 b / pv16 (k + n) := ec.1
      have c0 : 0 ≤ c := ec.2.1
      have c1 : c < 65536 := ec.2.2
      refine vcx (X := ((decide ((↑n : Int) ≤ (↑b.length : Int)) = true → ((0 : Int) ≤ IntKind.i64.wrap ((↑k : Int) + (↑n : Int)) ∧ IntKind.i64.wrap ((↑k : Int) + (↑n : Int)) < (↑L : Int)) ∧ (IntKind.i64.wrap ((↑k : Int) + (↑n : Int))).toNat < L ∧ ((0 : Int) ≤ (↑k : Int) ∧ (↑k : Int) < (↑a.length : Int)) ∧ (↑k : Int).toNat < a.length ∧ preWord (b, (↑n : Int), ()) ∧ ((0 : Int) ≤ IntKind.i64.wrap ((↑k : Int) + (↑n : Int)) ∧ IntKind.i64.wrap ((↑k : Int) + (↑n : Int)) < (↑L : Int)) ∧ (IntKind.i64.wrap ((↑k : Int) + (↑n : Int))).toNat < L ∧ (0 : Int) ≤ (16 : Int) ∧ (tiN a b L k (IntKind.i64.wrap ((↑n : Int) + (1 : Int)), l.set (IntKind.i64.wrap ((↑k : Int) + (↑n : Int))).toNat (IntKind.u32.wrap (bitOp BinOp.and IntKind.u64 (IntKind.u64.wrap (IntKind.u64.wrap (IntKind.u64.wrap (l.getD (IntKind.i64.wrap ((↑k : Int) + (↑n : Int))).toNat (0 : Int)) + IntKind.u64.wrap (IntKind.u64.wrap (a.getD (↑k : Int).toNat (0 : Int)) * IntKind.u64.wrap (b.getD (↑n : Int).toNat (0 : Int)))) + c)) (65535 : Int))), (IntKind.u64.wrap (IntKind.u64.wrap (IntKind.u64.wrap (l.getD (IntKind.i64.wrap ((↑k : Int) + (↑n : Int))).toNat (0 : Int)) + IntKind.u64.wrap (IntKind.u64.wrap (a.getD (↑k : Int).toNat (0 : Int)) * IntKind.u64.wrap (b.getD (↑n : Int).toNat (0 : Int)))) + c)).fdiv ((2 : Int) ^ min (16 : Nat) IntKind.u64.bits))).triv (tiJ a b L k (IntKind.i64.wrap ((↑n : Int) + (1 : Int)), l.set (IntKind.i64.wrap ((↑k : Int) + (↑n : Int))).toNat (IntKind.u32.wrap (bitOp BinOp.and IntKind.u64 (IntKind.u64.wrap (IntKind.u64.wrap (IntKind.u64.wrap (l.getD (IntKind.i64.wrap ((↑k : Int) + (↑n : Int))).toNat (0 : Int)) + IntKind.u64.wrap (IntKind.u64.wrap (a.getD (↑k : Int).toNat (0 : Int)) * IntKind.u64.wrap (b.getD (↑n : Int).toNat (0 : Int)))) + c)) (65535 : Int))), (IntKind.u64.wrap (IntKind.u64.wrap (IntKind.u64.wrap (l.getD (IntKind.i64.wrap ((↑k : Int) + (↑n : Int))).toNat (0 : Int)) + IntKind.u64.wrap (IntKind.u64.wrap (a.getD (↑k : Int).toNat (0 : Int)) * IntKind.u64.wrap (b.getD (↑n : Int).toNat (0 : Int)))) + c)).fdiv ((2 : Int) ^ min (16 : Nat) IntKind.u64.bits)) ∧ b.length + (1 : Nat) - (IntKind.i64.wrap ((↑n : Int) + (1 : Int))).toNat < b.length + (1 : Nat) - (↑n : Int).toNat)) ∧ (decide ((↑n : Int) ≤ (↑b.length : Int)) = false → (tiI a b L ((↑k : Int), l)).triv (l = w16 L (v16 a % pv16 (k + (1 : Nat)) * v16 b))))) (by kernel_rfl) ?_
      refine ⟨fun h => ?_, fun h => triv_intro ?_⟩
      · have hnb : n ≤ b.length := by have := of_decide_eq_true h; omega
        have hkn : k + n < L := by omega
        have e1 : IntKind.i64.wrap ((k : Int) + (n : Int)) = ((k + n : Nat) : Int) := by rw [wrap_i64' (by omega) (by omega)]; omega
        obtain ⟨t1, t2⟩ := ti_carry a b k n kc
        have x1 := dig_bd (v16 a) k
        have y1 := dig_bd (v16 b) n
        have z1 := dig_bd (v16 a % pv16 k * v16 b) (k + n)
        simp only [e1, Int.toNat_natCast, wrap_succ (show n < 9223372036854775807 by omega), v16_get k ha, v16_get n hb, kl2, tiL_getD a b hkn]
        have xy := mul_bd x1.1 (show v16 a / pv16 k % 65536 ≤ 65535 by omega) y1.1 (show v16 b / pv16 n % 65536 ≤ 65535 by omega)
        generalize v16 a % pv16 k * v16 b / pv16 (k + n) % 65536 = z at *
        rw [wrap_u64 z1.1 (by omega), wrap_u64 x1.1 (by omega), wrap_u64 y1.1 (by omega), wrap_u64 xy.1 (by omega)]
        generalize v16 a / pv16 k % 65536 * (v16 b / pv16 n % 65536) = xyz at *
        rw [wrap_u64 (a := z + xyz) (by omega) (by omega), wrap_u64 (a := z + xyz + c) (by omega) (by omega), and16_64 (by omega) (by omega), wrap_u32 (by omega) (by omega), show (2 : Int) ^ min (16 : Nat) IntKind.u64.bits = 65536 from rfl, Int.fdiv_eq_ediv_of_nonneg _ (by decide)]
        refine ⟨⟨by omega, by omega⟩, hkn, ⟨by omega, by omega⟩, hlt, by show (0 : Int) ≤ n; omega, ⟨by omega, by omega⟩, hkn, by decide, triv_intro ⟨⟨n + 1, by omega, rfl, ?_, t2.symm, by show 0 ≤ (z + xyz + c) / 65536; omega, by show (z + xyz + c) / 65536 < 65536; omega⟩, by omega⟩⟩
        show (tiL a b L k n).set (k + n) _ = _
        rw [← t1, tiL_step a b hkn]
      · have hn2 : n = b.length + 1 := by have := of_decide_eq_false h; omega
        show l = _
        rw [kl2, hn2, tiL_end ha hb]
    intro (l : List Int) (hl : l = w16 L (v16 a % pv16 (k + 1) * v16 b))
    refine tr_nil ?_
    refine tr_vc hsp mixed _ _ ?_
    refine vcx (X := ((tiI a b L (IntKind.i64.wrap ((↑k : Int) + (1 : Int)), l)).triv ((∃ k_1, k_1 ≤ a.length ∧ IntKind.i64.wrap ((↑k : Int) + (1 : Int)) = (↑k_1 : Int) ∧ l = w16 L (v16 a % pv16 k_1 * v16 b)) ∧ a.length - (IntKind.i64.wrap ((↑k : Int) + (1 : Int))).toNat < a.length - (↑k : Int).toNat))) (by kernel_rfl) ?_
    rw [wrap_succ (by omega)]
    exact triv_intro ⟨⟨k + 1, hlt, rfl, hl⟩, by rw [Int.toNat_natCast]; omega⟩
  rintro ⟨i, l⟩ hj
  revert i l
  intro (i : Int) (l : List Int) (hj : l = timesF a b)
  refine tr_vc hsp mixed _ _ ?_
  refine vcx (X := ((0 : Nat) + L ≤ L ∧ (List.take L l, ()) = outTimes (a, b, ()))) (by kernel_rfl) ?_
  refine ⟨by omega, ?_⟩
  show _ = (timesF a b, ())
  rw [List.take_of_length_le (by rw [hj, timesF, w16_len]; omega), hj]
end Go.Proofs.Ytbfimfdhmggieaa.ref03
/- ref03: Mod. -/
namespace Go.Proofs.Ytbfimfdhmggieaa.ref03
set_option maxRecDepth 100000
open Go Go.Eng Go.RowKit Cr Go.Proofs.Ytbfimfdhmggieaa
theorem ent_mod : enters Try.prog 9 Try.f9 := enters_mk (by kernel_rfl) (by kernel_rfl) (by kernel_rfl)
def modF (a m : List Int) : List Int := w16 m.length (v16 a % v16 m)
abbrev preMod : HL [wsl, wsl] → Prop := fun (a, m, _) => (W16 a ∧ W16 m ∧ List.length a ≤ 1000000 ∧ List.length m < 1000000) ∧ 0 < v16 m
abbrev outMod : HL [wsl, wsl] → HO [.own (.int .u32)] := fun (a, m, _) => (modF a m, ())
theorem pv16_two (q : Nat) : pv16 q = 2 ^ (16 * q) := by
  induction q with
  | zero => rfl
  | succ q ih => rw [Nat.mul_succ, Int.pow_add, ← ih]; simp only [pv16]; omega
theorem bit_of (V : Int) (j : Nat) : bitOp .and .u32 ((V / pv16 (j / 16) % 65536).fdiv (2 ^ min (j % 16) IntKind.u32.bits)) 1 = V / 2 ^ j % 2 := by
  have hm : min (j % 16) IntKind.u32.bits = j % 16 := Nat.min_eq_left (show j % 16 ≤ 32 by omega)
  have hp : (0 : Int) < 2 ^ (j % 16) := Int.pow_pos (by decide)
  have hp2 : (0 : Int) < 2 ^ (16 * (j / 16)) := Int.pow_pos (by decide)
  have h0 : 0 ≤ V / pv16 (j / 16) % 65536 := by omega
  have h1 : V / pv16 (j / 16) % 65536 < 65536 := by omega
  rw [hm, Int.fdiv_eq_ediv_of_nonneg _ (Int.le_of_lt hp)]
  have ex : (2 : Int) ^ j = 2 ^ (16 * (j / 16)) * 2 ^ (j % 16) := by rw [← Int.pow_add]; congr 1; omega
  have e65 : (65536 : Int) = 2 ^ (j % 16) * 2 ^ (16 - j % 16) := by rw [← Int.pow_add, show j % 16 + (16 - j % 16) = 16 by omega]; rfl
  rw [ex, ← Int.ediv_ediv_of_nonneg (Int.le_of_lt hp2), ← pv16_two]
  generalize V / pv16 (j / 16) = x at *
  have hx : 0 ≤ x % 65536 / 2 ^ (j % 16) := Int.ediv_nonneg h0 (Int.le_of_lt hp)
  have hx2 : x % 65536 / 2 ^ (j % 16) < 65536 := Int.lt_of_le_of_lt (Int.ediv_le_self _ h0) h1
  have hb : bitOp .and .u32 (x % 65536 / 2 ^ (j % 16)) 1 = x % 65536 / 2 ^ (j % 16) % 2 := by
    generalize x % 65536 / 2 ^ (j % 16) = y at *
    obtain ⟨n, rfl⟩ := Int.eq_ofNat_of_zero_le hx
    have := and_u32 n 1 (by omega) (by omega)
    rw [show ((1 : Nat) : Int) = 1 from rfl] at this
    rw [this, Nat.and_one_is_mod]; omega
  rw [hb]
  have hq : (2 : Int) ^ (16 - j % 16) = 2 * 2 ^ (15 - j % 16) := by rw [show 16 - j % 16 = (15 - j % 16) + 1 by omega, Int.pow_succ]; omega
  have hdx := Int.mul_ediv_add_emod x 65536
  have e3 : x / 2 ^ (j % 16) = x % 65536 / 2 ^ (j % 16) + 2 * (2 ^ (15 - j % 16) * (x / 65536)) := by
    have : x = x % 65536 + 2 ^ (j % 16) * (2 * (2 ^ (15 - j % 16) * (x / 65536))) := by
      rw [← Int.mul_assoc 2, ← hq, ← Int.mul_assoc, ← e65]; omega
    conv => lhs; rw [this]
    rw [Int.add_mul_ediv_left _ _ (by omega)]
  rw [e3]
  omega
/-- Twice and a bit: the words below j are the new ones. -/
def dbL (L : Nat) (R c0 : Int) (j : Nat) : List Int := (List.range L).map fun t => if t < j then (2 * R + c0) / pv16 t % 65536 else R / pv16 t % 65536
def dbC (R c0 : Int) (j : Nat) : Int := (2 * R + c0) / pv16 j - 2 * (R / pv16 j)
theorem dbL_zero (L : Nat) (R c0 : Int) : dbL L R c0 0 = w16 L R := by
  refine List.map_congr_left fun t _ => ?_
  rw [if_neg (by omega)]
theorem dbL_all (L : Nat) (R c0 : Int) : dbL L R c0 L = w16 L (2 * R + c0) := by
  refine List.map_congr_left fun t ht => ?_
  rw [if_pos (List.mem_range.1 ht)]
theorem dbC_zero (R c0 : Int) : dbC R c0 0 = c0 := by
  have : pv16 0 = 1 := rfl
  rw [dbC, this]; omega
theorem dbL_get {L : Nat} {R c0 : Int} {j : Nat} (h : j < L) : (dbL L R c0 j).getD j 0 = R / pv16 j % 65536 := by
  simp [dbL, List.getD_eq_getElem?_getD, h]
theorem dbL_step {L : Nat} {R c0 : Int} {j : Nat} (h : j < L) : (dbL L R c0 j).set j ((2 * R + c0) / pv16 j % 65536) = dbL L R c0 (j + 1) := by
  refine List.ext_getElem (by simp [dbL]) fun t h1 h2 => ?_
  rw [List.getElem_set]
  by_cases e : j = t
  · subst e
    rw [if_pos rfl]
    simp [dbL]
  · rw [if_neg e]
    simp only [dbL, List.getElem_map, List.getElem_range]
    by_cases h3 : t < j
    · rw [if_pos h3, if_pos (by omega)]
    · rw [if_neg h3, if_neg (by omega)]
theorem pv16_S (j : Nat) : pv16 (j + 1) = pv16 j * 65536 := by simp only [pv16]; omega
theorem db_step (R c0 : Int) (j : Nat) : (2 * (R / pv16 j % 65536) + dbC R c0 j) % 65536 = (2 * R + c0) / pv16 j % 65536 ∧ (2 * (R / pv16 j % 65536) + dbC R c0 j) / 65536 = dbC R c0 (j + 1) := by
  have hp := pv16_pos j
  have e1 : (2 * R + c0) / pv16 (j + 1) = (2 * R + c0) / pv16 j / 65536 := by rw [pv16_S, Int.ediv_ediv_of_nonneg (Int.le_of_lt hp)]
  have e2 : R / pv16 (j + 1) = R / pv16 j / 65536 := by rw [pv16_S, Int.ediv_ediv_of_nonneg (Int.le_of_lt hp)]
  unfold dbC
  rw [e1, e2]
  generalize (2 * R + c0) / pv16 j = X
  generalize R / pv16 j = A
  omega
theorem dbC_bd {R c0 : Int} (h0 : 0 ≤ c0) (h1 : c0 ≤ 1) : ∀ j, 0 ≤ dbC R c0 j ∧ dbC R c0 j ≤ 1
  | 0 => by rw [dbC_zero]; exact ⟨h0, h1⟩
  | j + 1 => by
    have h := dbC_bd (R := R) h0 h1 j
    rw [← (db_step R c0 j).2]
    omega
theorem shl_or {w c : Int} (hw0 : 0 ≤ w) (hw : w < 65536) (hc0 : 0 ≤ c) (hc : c ≤ 1) : bitOp .or .u32 (IntKind.u32.wrap (w * 2 ^ min (1 : Nat) IntKind.u32.bits)) c = 2 * w + c := by
  have e : IntKind.u32.wrap (w * 2 ^ min (1 : Nat) IntKind.u32.bits) = 2 * w := by
    show IntKind.u32.wrap (w * 2) = _
    rw [wrap_u32 (by omega) (by omega)]; omega
  rw [e]
  obtain ⟨n, rfl⟩ := Int.eq_ofNat_of_zero_le hw0
  obtain ⟨m, rfl⟩ := Int.eq_ofNat_of_zero_le hc0
  show IntKind.u32.wrap ((BitVec.ofInt IntKind.u32.bits (2 * (n : Int)) ||| BitVec.ofInt IntKind.u32.bits (m : Int)).toNat : Int) = _
  have e1 : BitVec.ofInt IntKind.u32.bits (2 * (n : Int)) = BitVec.ofNat IntKind.u32.bits (2 * n) := by
    rw [show (2 * (n : Int)) = ((2 * n : Nat) : Int) by omega]; exact BitVec.ofInt_natCast _ _
  have e2 : BitVec.ofInt IntKind.u32.bits (m : Int) = BitVec.ofNat IntKind.u32.bits m := BitVec.ofInt_natCast _ _
  rw [e1, e2, BitVec.toNat_or, BitVec.toNat_ofNat, BitVec.toNat_ofNat, Nat.mod_eq_of_lt (show 2 * n < 2 ^ IntKind.u32.bits by show _ < 4294967296; omega), Nat.mod_eq_of_lt (show m < 2 ^ IntKind.u32.bits by show _ < 4294967296; omega)]
  have e3 : 2 * n ||| m = 2 * n + m := by
    have hm : m = 0 ∨ m = 1 := by omega
    rcases hm with rfl | rfl
    · simp
    · have := Nat.two_pow_add_eq_or_of_lt (i := 1) (b := 1) (by decide) n
      rw [Nat.pow_one] at this
      exact this.symm
  rw [e3, wrap_u32 (by omega) (by omega)]; omega
/-- The next remainder. -/
theorem mod_next {R c0 N : Int} (hR0 : 0 ≤ R) (hR : R < N) (h0 : 0 ≤ c0) (h1 : c0 ≤ 1) : (2 * R + c0) % N = if 2 * R + c0 < N then 2 * R + c0 else 2 * R + c0 - N := by
  split
  · rw [Int.emod_eq_of_lt (by omega) (by omega)]
  · rw [← Int.sub_emod_right, Int.emod_eq_of_lt (by omega) (by omega)]
theorem mod_bits (A N : Int) (k : Nat) : A / 2 ^ k % N = (2 * (A / 2 ^ (k + 1) % N) + A / 2 ^ k % 2) % N := by
  have e : A / 2 ^ k = 2 * (A / 2 ^ (k + 1)) + A / 2 ^ k % 2 := by
    have : A / 2 ^ (k + 1) = A / 2 ^ k / 2 := by
      rw [Int.pow_succ, Int.ediv_ediv_of_nonneg (Int.le_of_lt (Int.pow_pos (by decide)))]
    rw [this]; omega
  conv => lhs; rw [e]
  generalize A / 2 ^ (k + 1) = x
  generalize A / 2 ^ k % 2 = y
  have h := Int.mul_ediv_add_emod x N
  have e2 : 2 * x + y = (2 * (x % N) + y) + N * (2 * (x / N)) := by
    have e3 : N * (2 * (x / N)) = 2 * (N * (x / N)) := by ac_rfl
    rw [e3]; omega
  rw [e2, Int.add_mul_emod_self_left]
noncomputable def moI (a m : List Int) (g : Int × Nat × List Int) : St := mkSt Try.f9.ntmps 88 [(0, .is (.one (.ro (.int .u32) a))), (1, .is (.one (.ro (.int .u32) m))), (5, .is (.one (.sl 32 0 0 g.2.1 1))), (6, sI .i64 g.1)] [(32, [.ints .u32 g.2.1 g.2.2])]
noncomputable def moD (a m : List Int) (i : Int) (L : Nat) (g : Int × List Int × Int) : St := mkSt Try.f9.ntmps 88 [(0, .is (.one (.ro (.int .u32) a))), (1, .is (.one (.ro (.int .u32) m))), (5, .is (.one (.sl 32 0 0 L 1))), (6, sI .i64 i), (7, sI .u32 g.2.2), (33, sI .i64 L), (34, sI .i64 g.1)] [(32, [.ints .u32 L g.2.1])]
def moJ (a m : List Int) (g : Int × Nat × List Int) : Prop := ∃ k : Nat, k ≤ 16 * a.length ∧ g.1 = (k : Int) - 1 ∧ g.2.1 = m.length + 1 ∧ g.2.2 = w16 (m.length + 1) (v16 a / 2 ^ k % v16 m)
theorem fn_mod : FnOk Try.prog 9 [wsl, wsl] [.own (.int .u32)] noG preMod outMod := by
  have hsp : SpecsOk Try.prog (sps [spLess, spMinus]) := (sps_cons (fnSpec_ok fn_less) (sps_cons (fnSpec_ok fn_minus) sps_nil))
  refine fn_of_tr (sp := sps [spLess, spMinus]) ent_mod (by decide) (by decide) (by kernel_rfl) ?_
  rintro w M0 ⟨a, m, ⟨⟩⟩
  revert a m
  intro (a : List Int) (m : List Int) _ hp
  obtain ⟨⟨ha, hm, hla, hlm⟩, hM⟩ := hp
  have hla : a.length ≤ 1000000 := hla
  have hlm : m.length < 1000000 := hlm
  show Tr _ _ _ _ _ _ _
  have e1 : IntKind.i64.wrap ((m.length : Int) + 1) = ((m.length + 1 : Nat) : Int) := by rw [wrap_i64' (by omega) (by omega)]; omega
  have e2 : IntKind.i64.wrap (IntKind.i64.wrap (16 * (a.length : Int)) - 1) = ((16 * a.length : Nat) : Int) - 1 := by
    rw [wrap_i64' (a := 16 * (a.length : Int)) (by omega) (by omega), wrap_i64' (by omega) (by omega)]; omega
  have hV := v16_nn ha
  have hVm := v16_lt hm
  refine tr_cutF hsp mixed 3 (fun σ => (rdS (.int .i64) 6 σ, rdL 5 σ, rdR (.int .u32) 32 σ)) (moI a m) (fun g => g.1 = ((16 * a.length : Nat) : Int) - 1 ∧ g.2.1 = m.length + 1 ∧ g.2.2 = w16 (m.length + 1) 0) ?_ ?_
  · refine vcx (X := (((0 : Int) ≤ IntKind.i64.wrap ((↑m.length : Int) + (1 : Int)) ∧ IntKind.i64.wrap ((↑m.length : Int) + (1 : Int)) ≤ IntKind.i64.wrap ((↑m.length : Int) + (1 : Int)) ∧ (↑(4 : Nat) : Int) * IntKind.i64.wrap ((↑m.length : Int) + (1 : Int)) ≤ (281474976710656 : Int) ∧ IntKind.i64.wrap ((↑m.length : Int) + (1 : Int)) ≤ (9223372036854775807 : Int)) ∧ (moI a m (IntKind.i64.wrap (IntKind.i64.wrap ((16 : Int) * (↑a.length : Int)) - (1 : Int)), (IntKind.i64.wrap ((↑m.length : Int) + (1 : Int))).toNat, List.replicate (IntKind.i64.wrap ((↑m.length : Int) + (1 : Int))).toNat (0 : Int))).triv (IntKind.i64.wrap (IntKind.i64.wrap ((16 : Int) * (↑a.length : Int)) - (1 : Int)) = (↑((16 : Nat) * a.length) : Int) - (1 : Car (Kd.int IntKind.i64)) ∧ (IntKind.i64.wrap ((↑m.length : Int) + (1 : Int))).toNat = m.length + (1 : Nat) ∧ List.replicate (IntKind.i64.wrap ((↑m.length : Int) + (1 : Int))).toNat (0 : Int) = w16 (m.length + (1 : Nat)) (0 : Int)))) (by kernel_rfl) ?_
    simp only [e1, e2, Int.toNat_natCast]
    refine ⟨⟨by omega, by omega, by omega, by omega⟩, triv_intro ⟨by first | rfl | trivial, by first | rfl | trivial, ?_⟩⟩
    symm
    refine List.eq_replicate_iff.2 ⟨w16_len _ _, fun x hx => ?_⟩
    simp only [w16, List.mem_map] at hx
    obtain ⟨j, _, rfl⟩ := hx
    simp
  rintro ⟨i, L, l⟩ hK
  revert i l
  intro (i : Int) (l : List Int) ⟨h0, h1, h2⟩
  have h0 : i = ((16 * a.length : Nat) : Int) - 1 := h0
  have h1 : L = m.length + 1 := h1
  have h2 : l = w16 (m.length + 1) 0 := h2
  refine tr_whileT (fun σ => [(32, rdI 5 σ)]) (fun σ => (rdS (.int .i64) 6 σ, rdL 5 σ, rdR (.int .u32) 32 σ)) (moI a m) (moJ a m) (fun g => (g.1 + 1).toNat)
    (fun σ => (rdS (.int .i64) 6 σ, rdL 5 σ, rdR (.int .u32) 32 σ)) (moI a m) (fun g => g.2.1 = m.length + 1 ∧ g.2.2 = w16 (m.length + 1) (v16 a % v16 m)) (i, L, l) (c := nthC (codeOf Try.f9) 3) (by kernel_rfl) (by kernel_rfl) (le_of_proj (by kernel_rfl) (by kernel_rfl) ?_) ?_ ?_
  · refine ⟨16 * a.length, Nat.le_refl _, h0, h1, ?_⟩
    show l = _
    have hz : v16 a / 2 ^ (16 * a.length) = 0 := by
      rw [← pv16_two]
      exact Int.ediv_eq_zero_of_lt hV (v16_lt ha)
    rw [h2, hz, Int.zero_emod]
  · rintro ⟨i, L, l⟩ hj
    revert i l
    intro (i : Int) (l : List Int) ⟨k, hk, ei, eL, el⟩
    have ei : i = (k : Int) - 1 := ei
    subst ei
    have hL : L = m.length + 1 := eL
    have kl : l = w16 (m.length + 1) (v16 a / 2 ^ k % v16 m) := el
    refine tr_cut hsp mixed 2 (moI a m ((k : Int) - 1, L, l)) (1 ≤ k) ?_ (fun hk1 => ?_)
    · refine vcx (X := ((decide ((↑k : Int) - (1 : Int) ≥ (0 : Int)) = true → (moI a m ((↑k : Int) - (1 : Int), L, l)).triv ((1 : Nat) ≤ k)) ∧ (decide ((↑k : Int) - (1 : Int) ≥ (0 : Int)) = false → (moI a m ((↑k : Int) - (1 : Int), L, l)).triv (L = m.length + (1 : Nat) ∧ l = w16 (m.length + (1 : Nat)) (v16 a % v16 m))))) (by kernel_rfl) ?_
      refine ⟨fun h => triv_intro (by have := of_decide_eq_true h; omega), fun h => triv_intro ?_⟩
      have hk0 : k = 0 := by have := of_decide_eq_false h; omega
      refine ⟨hL, ?_⟩
      show l = _
      rw [kl, hk0]; simp
    refine tr_block (c := nthC (loopOf (nthC (codeOf Try.f9) 3)) 2) (by kernel_rfl) (by kernel_rfl) ?_
    obtain ⟨j, rfl⟩ : ∃ j, k = j + 1 := ⟨k - 1, by omega⟩
    have hR0 : 0 ≤ v16 a / 2 ^ (j + 1) % v16 m := Int.emod_nonneg _ (by omega)
    have hR1 : v16 a / 2 ^ (j + 1) % v16 m < v16 m := Int.emod_lt_of_pos _ hM
    have hb0 : 0 ≤ v16 a / 2 ^ j % 2 ∧ v16 a / 2 ^ j % 2 ≤ 1 := by omega
    have hnext := mod_bits (v16 a) (v16 m) j
    obtain ⟨R, hR⟩ : ∃ R, R = v16 a / 2 ^ (j + 1) % v16 m := ⟨_, rfl⟩
    obtain ⟨c0, hc0⟩ : ∃ c0, c0 = v16 a / 2 ^ j % 2 := ⟨_, rfl⟩
    rw [← hR] at kl hR0 hR1 hnext
    rw [← hc0] at hb0 hnext
    refine tr_cutF hsp mixed 2 (fun σ => rdS (.int .u32) 7 σ) (fun c => moD a m (((j + 1 : Nat) : Int) - 1) L (0, l, c)) (fun c => c = c0) ?_ ?_
    · have hj16 : j < 16 * a.length := by omega
      have i1 : ((j + 1 : Nat) : Int) - 1 = (j : Int) := by omega
      have i2 : IntKind.i64.wrap ((j : Int).tdiv 16) = ((j / 16 : Nat) : Int) := by
        rw [Int.tdiv_eq_ediv_of_nonneg (by omega), wrap_i64' (by omega) (by omega)]; rfl
      have i3 : IntKind.u64.wrap ((j : Int).tmod 16) = ((j % 16 : Nat) : Int) := by
        rw [Int.tmod_eq_emod_of_nonneg (by omega), wrap_u64 (by omega) (by omega)]; rfl
      refine vcx (X := (((16 : Int) = (0 : Int) → False) ∧ ((0 : Int) ≤ IntKind.i64.wrap (((↑(j + (1 : Nat)) : Int) - (1 : Int)).tdiv (16 : Int)) ∧ IntKind.i64.wrap (((↑(j + (1 : Nat)) : Int) - (1 : Int)).tdiv (16 : Int)) < (↑a.length : Int)) ∧ (IntKind.i64.wrap (((↑(j + (1 : Nat)) : Int) - (1 : Int)).tdiv (16 : Int))).toNat < a.length ∧ ((16 : Int) = (0 : Int) → False) ∧ (0 : Int) ≤ IntKind.u64.wrap (((↑(j + (1 : Nat)) : Int) - (1 : Int)).tmod (16 : Int)) ∧ (moD a m ((↑(j + (1 : Nat)) : Int) - (1 : Int)) L ((0 : Int), l, bitOp BinOp.and IntKind.u32 ((a.getD (IntKind.i64.wrap (((↑(j + (1 : Nat)) : Int) - (1 : Int)).tdiv (16 : Int))).toNat (0 : Int)).fdiv ((2 : Int) ^ min (IntKind.u64.wrap (((↑(j + (1 : Nat)) : Int) - (1 : Int)).tmod (16 : Int))).toNat IntKind.u32.bits)) (1 : Int))).triv (bitOp BinOp.and IntKind.u32 ((a.getD (IntKind.i64.wrap (((↑(j + (1 : Nat)) : Int) - (1 : Int)).tdiv (16 : Int))).toNat (0 : Int)).fdiv ((2 : Int) ^ min (IntKind.u64.wrap (((↑(j + (1 : Nat)) : Int) - (1 : Int)).tmod (16 : Int))).toNat IntKind.u32.bits)) (1 : Int) = c0))) (by kernel_rfl) ?_
      rw [i1, i2, i3]
      simp only [Int.toNat_natCast]
      have hlt : j / 16 < a.length := by omega
      have ga : a.getD (j / 16) 0 = v16 a / pv16 (j / 16) % 65536 := v16_get _ ha
      rw [ga, bit_of]
      exact ⟨by decide, ⟨by omega, by omega⟩, hlt, by decide, by omega, triv_intro hc0.symm⟩
    rintro c hc
    revert c
    intro (c : Int) (hc : c = c0)
    refine tr_while hsp mixed noSw (fun σ => (rdS (.int .i64) 34 σ, rdR (.int .u32) 32 σ, rdS (.int .u32) 7 σ)) (moD a m (((j + 1 : Nat) : Int) - 1) L) (fun g => ∃ t : Nat, t ≤ L ∧ g.1 = (t : Int) ∧ g.2.1 = dbL L R c0 t ∧ g.2.2 = dbC R c0 t) (fun g => L - g.1.toNat)
      (fun σ => (rdS (.int .i64) 34 σ, rdR (.int .u32) 32 σ, rdS (.int .u32) 7 σ)) (moD a m (((j + 1 : Nat) : Int) - 1) L) (fun g => g.2.1 = w16 L (2 * R + c0)) (0, l, c) (c := nthC (bodyOf (nthC (loopOf (nthC (codeOf Try.f9) 3)) 2)) 2) (by kernel_rfl) (by kernel_rfl) (le_of_proj (by kernel_rfl) (by kernel_rfl) ?_) ?_ ?_
    · exact ⟨0, Nat.zero_le _, rfl, by rw [dbL_zero, hL]; exact kl, by rw [dbC_zero]; exact hc⟩
    · rintro ⟨x, ys, c⟩ hj
      revert x ys c
      intro (x : Int) (ys : List Int) (c : Int) ⟨t, ht, ex, ey, ec⟩
      have ex : x = (t : Int) := ex
      have ky : ys = dbL L R c0 t := ey
      have kc : c = dbC R c0 t := ec
      subst ex
      have hc1 := dbC_bd (R := R) hb0.1 hb0.2 t
      rw [← kc] at hc1
      refine vcx (X := ((decide ((↑t : Int) < (↑L : Int)) = true → ((0 : Int) ≤ (↑t : Int) ∧ (↑t : Int) < (↑L : Int)) ∧ (↑t : Int).toNat < L ∧ (0 : Int) ≤ (1 : Int) ∧ ((0 : Int) ≤ (↑t : Int) ∧ (↑t : Int) < (↑L : Int)) ∧ (↑t : Int).toNat < L ∧ (0 : Int) ≤ (16 : Int) ∧ (moD a m ((↑(j + (1 : Nat)) : Int) - (1 : Int)) L (IntKind.i64.wrap ((↑t : Int) + (1 : Int)), ys.set (↑t : Int).toNat (bitOp BinOp.and IntKind.u32 (bitOp BinOp.or IntKind.u32 (IntKind.u32.wrap (ys.getD (↑t : Int).toNat (0 : Int) * (2 : Int) ^ min (1 : Nat) IntKind.u32.bits)) c) (65535 : Int)), (bitOp BinOp.or IntKind.u32 (IntKind.u32.wrap (ys.getD (↑t : Int).toNat (0 : Int) * (2 : Int) ^ min (1 : Nat) IntKind.u32.bits)) c).fdiv ((2 : Int) ^ min (16 : Nat) IntKind.u32.bits))).triv ((∃ t_1, t_1 ≤ L ∧ IntKind.i64.wrap ((↑t : Int) + (1 : Int)) = (↑t_1 : Int) ∧ ys.set (↑t : Int).toNat (bitOp BinOp.and IntKind.u32 (bitOp BinOp.or IntKind.u32 (IntKind.u32.wrap (ys.getD (↑t : Int).toNat (0 : Int) * (2 : Int) ^ min (1 : Nat) IntKind.u32.bits)) c) (65535 : Int)) = dbL L R c0 t_1 ∧ (bitOp BinOp.or IntKind.u32 (IntKind.u32.wrap (ys.getD (↑t : Int).toNat (0 : Int) * (2 : Int) ^ min (1 : Nat) IntKind.u32.bits)) c).fdiv ((2 : Int) ^ min (16 : Nat) IntKind.u32.bits) = dbC R c0 t_1) ∧ L - (IntKind.i64.wrap ((↑t : Int) + (1 : Int))).toNat < L - (↑t : Int).toNat)) ∧ (decide ((↑t : Int) < (↑L : Int)) = false → (moD a m ((↑(j + (1 : Nat)) : Int) - (1 : Int)) L ((↑t : Int), ys, c)).triv (ys = w16 L ((2 : Int) * R + c0))))) (by kernel_rfl) ?_
      simp only [Int.toNat_natCast]
      refine ⟨fun h => ?_, fun h => triv_intro ?_⟩
      · have hlt : t < L := by have := of_decide_eq_true h; omega
        have ew : ys.getD t 0 = R / pv16 t % 65536 := by rw [ky, dbL_get hlt]
        have es : bitOp BinOp.or IntKind.u32 (IntKind.u32.wrap (ys.getD t 0 * 2 ^ min 1 IntKind.u32.bits)) c = 2 * (R / pv16 t % 65536) + c := by rw [ew]; exact shl_or (by omega) (by omega) hc1.1 hc1.2
        obtain ⟨d1, d2⟩ := db_step R c0 t
        rw [← kc] at d1 d2
        rw [es, and16 (by omega) (by omega), shr16, d1, d2, wrap_succ (by omega)]
        refine ⟨⟨by omega, by omega⟩, hlt, by decide, ⟨by omega, by omega⟩, hlt, by decide, triv_intro ⟨⟨t + 1, hlt, rfl, ?_, rfl⟩, ?_⟩⟩
        · rw [ky, dbL_step hlt]
        · rw [Int.toNat_natCast]; omega
      · have hk2 : t = L := by have := of_decide_eq_false h; omega
        rw [ky, hk2, dbL_all]
    rintro ⟨x, ys, c⟩ hj
    revert x ys c
    intro (x : Int) (ys : List Int) (c : Int) (hys : ys = w16 L (2 * R + c0))
    refine tr_cutSF hsp mixed 2 (fun σ => [(32, rdI 5 σ)]) (fun σ => (rdL 5 σ, rdR (.int .u32) 32 σ)) (fun g => moI a m (((j + 1 : Nat) : Int) - 1, g.1, g.2)) (fun g => g.1 = L ∧ g.2 = w16 L (v16 a / 2 ^ j % v16 m)) ?_ ?_
    · have hV2 : 0 ≤ 2 * R + c0 ∧ 2 * R + c0 < pv16 L := by
        rw [hL, pv16_S]; omega
      have ly : ys.length = L := by rw [hys, w16_len]
      have ty : List.take L ys = ys := List.take_of_length_le (by omega)
      have vy : v16 ys = 2 * R + c0 := by rw [hys, v16_w16, Int.emod_eq_of_lt hV2.1 hV2.2]
      have py : preW2 (ys, m, ()) := ⟨by rw [hys]; exact w16_W _ _, hm, by show ys.length ≤ _; omega, by show m.length ≤ _; omega⟩
      have hnx := mod_next hR0 hR1 hb0.1 hb0.2
      refine vcx (X := ((0 : Nat) + L ≤ L ∧ preW2 (List.take L ys, m, ()) ∧ ((!decide (v16 (List.take L ys) < v16 m)) = true → (0 : Nat) + L ≤ L ∧ preW2 (List.take L ys, m, ()) ∧ (moI a m ((↑(j + (1 : Nat)) : Int) - (1 : Int), ((minusF (List.take L ys) m).length, minusF (List.take L ys) m).fst, ((minusF (List.take L ys) m).length, minusF (List.take L ys) m).snd)).triv ((minusF (List.take L ys) m).length = L ∧ minusF (List.take L ys) m = w16 L (v16 a / (2 : Int) ^ j % v16 m))) ∧ ((!decide (v16 (List.take L ys) < v16 m)) = false → (moI a m ((↑(j + (1 : Nat)) : Int) - (1 : Int), (L, ys).fst, (L, ys).snd)).triv (L = L ∧ ys = w16 L (v16 a / (2 : Int) ^ j % v16 m))))) (by kernel_rfl) ?_
      rw [ty, vy, hnext, hnx]
      refine ⟨Nat.le_of_eq (Nat.zero_add _), py, fun h => ⟨Nat.le_of_eq (Nat.zero_add _), py, triv_intro ⟨?_, ?_⟩⟩, fun h => triv_intro ⟨rfl, ?_⟩⟩
      · show (minusF ys m).length = L
        rw [minusF, w16_len, ly]
      · have h2 : ¬ 2 * R + c0 < v16 m := by simpa using h
        show minusF ys m = _
        rw [if_neg h2, minusF, ly, vy]
      · have h2 : 2 * R + c0 < v16 m := by simpa using h
        rw [if_pos h2]; exact hys
    rintro ⟨L', l'⟩ hj
    revert l'
    intro (l' : List Int) ⟨hL', hl'⟩
    have hL' : L' = L := hL'
    have hl' : l' = w16 L (v16 a / 2 ^ j % v16 m) := hl'
    refine tr_nil ?_
    refine tr_vc hsp mixed _ _ ?_
    refine vcx (X := ((moI a m (IntKind.i64.wrap ((↑(j + (1 : Nat)) : Int) - (1 : Int) - (1 : Int)), L', l')).triv (moJ a m (IntKind.i64.wrap ((↑(j + (1 : Nat)) : Int) - (1 : Int) - (1 : Int)), L', l') ∧ Int.toNat (IntKind.i64.wrap ((↑(j + (1 : Nat)) : Int) - (1 : Int) - (1 : Int)) + (1 : Car (Kd.int IntKind.i64))) < Int.toNat ((↑(j + (1 : Nat)) : Int) - (1 : Int) + (1 : Car (Kd.int IntKind.i64)))))) (by kernel_rfl) ?_
    have i1 : IntKind.i64.wrap (((j + 1 : Nat) : Int) - 1 - 1) = (j : Int) - 1 := by rw [wrap_i64' (by omega) (by omega)]; omega
    rw [i1]
    refine triv_intro ⟨⟨j, by omega, rfl, by show L' = _; omega, ?_⟩, by omega⟩
    show l' = _
    rw [hl', hL]
  rintro ⟨i, L, l⟩ hj
  revert i l
  intro (i : Int) (l : List Int) ⟨j1, j2⟩
  have j1 : L = m.length + 1 := j1
  have j2 : l = w16 (m.length + 1) (v16 a % v16 m) := j2
  refine tr_vc hsp mixed _ _ ?_
  refine vcx (X := (((0 : Int) ≤ (↑m.length : Int) ∧ (↑m.length : Int) ≤ (↑L : Int)) ∧ (0 : Nat) + ((↑m.length : Int) - (0 : Int)).toNat ≤ L ∧ (List.take ((↑m.length : Int) - (0 : Int)).toNat l, ()) = outMod (a, m, ()))) (by kernel_rfl) ?_
  have e3 : ((m.length : Int) - 0).toNat = m.length := by omega
  rw [e3, j2]
  refine ⟨⟨by omega, by omega⟩, by omega, ?_⟩
  show (_, ()) = (modF a m, ())
  rw [w16_succ, List.take_left' (w16_len _ _), modF]
end Go.Proofs.Ytbfimfdhmggieaa.ref03
/- Values forced one by one, for computation. No program here. -/
namespace Cr
def fcn {α : Type} (n : Nat) (k : Nat → α) : α := Nat.rec (k 0) (fun m _ => k (m + 1)) n
noncomputable def fi {α : Type} (x : Int) (k : Int → α) : α := Int.rec (fun n => fcn n fun m => k (Int.ofNat m)) (fun n => fcn n fun m => k (Int.negSucc m)) x
noncomputable def fl {α : Type} (l : List Int) (k : List Int → α) : α := List.rec (motive := fun _ => (List Int → α) → α) (fun k => k []) (fun x _ ih k => fi x fun x' => ih fun l' => k (x' :: l')) l k
/-- So many steps. -/
def it {α : Type} (f : Nat → α → α) (s : α) : Nat → α
  | 0 => s
  | k + 1 => f k (it f s k)
end Cr
namespace Go.Proofs.Ytbfimfdhmggieaa.ref03
set_option maxRecDepth 100000
open Go Go.Eng Go.RowKit Cr Go.Proofs.Ytbfimfdhmggieaa
def hxC (s : ByteArray) (k : Nat) : Int := (sbytes s).getD (s.size - 1 - k) 0
def hxD (c : Int) : Int := if c ≥ 97 then IntKind.u32.wrap (IntKind.u32.wrap (IntKind.u32.wrap c - 97) + 10) else IntKind.u32.wrap (IntKind.u32.wrap c - 48)
def hxA (n : Nat) (xs : List Int) : List Int := if n % 4 = 0 then xs ++ [0] else xs
def hxW (n : Nat) (xs : List Int) (d : Int) : List Int := xs.set (n / 4) (bitOp .or .u32 (xs.getD (n / 4) 0) (IntKind.u32.wrap (d * 2 ^ min (4 * (n % 4)) IntKind.u32.bits)))
def hxS (s : ByteArray) (k : Nat) (g : Nat × List Int) : Nat × List Int := if hxC s k = 32 then g else (g.1 + 1, hxW g.1 (hxA g.1 g.2) (hxD (hxC s k)))
def hxK (s : ByteArray) (k : Nat) : Nat × List Int := it (hxS s) (0, []) k
theorem hxA_len {n : Nat} {xs : List Int} (h : xs.length = (n + 3) / 4) : (hxA n xs).length = n / 4 + 1 := by
  unfold hxA
  split
  · rw [List.length_append, h]; show _ + 1 = _; omega
  · omega
theorem hxK_len (s : ByteArray) : ∀ k, (hxK s k).2.length = ((hxK s k).1 + 3) / 4 ∧ (hxK s k).1 ≤ k
  | 0 => ⟨by show (0 : Nat) = (0 + 3) / 4; decide, Nat.le_refl _⟩
  | k + 1 => by
    have h := hxK_len s k
    show (hxS s k (hxK s k)).2.length = ((hxS s k (hxK s k)).1 + 3) / 4 ∧ (hxS s k (hxK s k)).1 ≤ k + 1
    unfold hxS
    split
    · exact ⟨h.1, by omega⟩
    · refine ⟨?_, by show _ + 1 ≤ _; omega⟩
      show (hxW _ _ _).length = ((hxK s k).1 + 1 + 3) / 4
      rw [hxW, List.length_set, hxA_len h.1]; omega
theorem ent_hex : enters Try.prog 22 Try.f22 := enters_mk (by kernel_rfl) (by kernel_rfl) (by kernel_rfl)
noncomputable def hxI (s : ByteArray) (g : Int × Int × Nat × List Int) : St := mkSt Try.f22.ntmps 64 [(0, .is (.one (.v (.string s)))), (3, .is (.one (.sl 8 0 0 g.2.2.1 1))), (4, sI .i64 g.2.1), (5, sI .i64 g.1)] [(8, [.ints .u32 g.2.2.1 g.2.2.2])]
theorem fn_hex : FnOk Try.prog 22 [.str] [.own (.int .u32)] noG (fun (s, _) => ByteArray.size s ≤ 1000) (fun (s, _) => ((hxK s (ByteArray.size s)).2, ())) := by
  have hsp : SpecsOk Try.prog (sps []) := sps_nil
  refine fn_of_tr (sp := sps []) ent_hex (by decide) (by decide) (by kernel_rfl) ?_
  rintro w M0 ⟨s, ⟨⟩⟩
  revert s
  intro (s : ByteArray) _ hs
  have hs : s.size ≤ 1000 := hs
  show Tr _ _ _ _ _ _ _
  have ew : IntKind.i64.wrap ((s.size : Int) - 1) = (s.size : Int) - 1 := wrap_i64' (by omega) (by omega)
  refine tr_cut hsp mixed 4 (hxI s ((s.size : Int) - 1, 0, 0, [])) True ?_ (fun _ => ?_)
  · rw [← ew]
    refine vcx (X := ((hxI s (IntKind.i64.wrap ((↑s.size : Int) - (1 : Int)), (0 : Int), (0 : Nat), [])).triv True)) (by kernel_rfl) ?_
    exact triv_intro trivial
  refine tr_while hsp mixed (fun σ => [(8, rdI 3 σ)]) (fun σ => (rdS (.int .i64) 5 σ, rdS (.int .i64) 4 σ, rdL 3 σ, rdR (.int .u32) 8 σ)) (hxI s) (fun g => ∃ k : Nat, k ≤ s.size ∧ g.1 = (s.size : Int) - 1 - (k : Int) ∧ g.2.1 = ((hxK s k).1 : Int) ∧ g.2.2.1 = (hxK s k).2.length ∧ g.2.2.2 = (hxK s k).2) (fun g => (g.1 + 1).toNat)
    (fun σ => (rdS (.int .i64) 5 σ, rdS (.int .i64) 4 σ, rdL 3 σ, rdR (.int .u32) 8 σ)) (hxI s) (fun g => g.2.2.1 = (hxK s s.size).2.length ∧ g.2.2.2 = (hxK s s.size).2) ((s.size : Int) - 1, 0, 0, []) (c := nthC (codeOf Try.f22) 4) (by kernel_rfl) (by kernel_rfl) (le_of_proj (by kernel_rfl) (by kernel_rfl) ?_) ?_ ?_
  · exact ⟨0, Nat.zero_le _, by show (s.size : Int) - 1 = _; omega, rfl, rfl, rfl⟩
  · rintro ⟨i, n, L, xs⟩ hj
    revert i n xs
    intro (i : Int) (n : Int) (xs : List Int) ⟨k, hk, ei, en, eL, ex⟩
    have ki : i = (s.size : Int) - 1 - (k : Int) := ei
    have kn : n = ((hxK s k).1 : Int) := en
    have kL : L = (hxK s k).2.length := eL
    have kx : xs = (hxK s k).2 := ex
    obtain ⟨hl1, hl2⟩ := hxK_len s k
    obtain ⟨N, hN⟩ : ∃ N, N = (hxK s k).1 := ⟨_, rfl⟩
    have hK : hxK s k = (N, xs) := by rw [hN, kx]
    rw [← kx] at kL hl1
    rw [← hN] at kn hl1 hl2
    subst kn kL
    have t1 : ((N : Int).tmod 4) = ((N % 4 : Nat) : Int) := by rw [Int.tmod_eq_emod_of_nonneg (by omega)]; rfl
    have t2 : IntKind.i64.wrap ((N : Int).tdiv 4) = ((N / 4 : Nat) : Int) := by
      rw [Int.tdiv_eq_ediv_of_nonneg (by omega), wrap_i64' (by omega) (by omega)]; rfl
    have t3 : IntKind.u64.wrap (IntKind.i64.wrap (4 * ((N % 4 : Nat) : Int))) = ((4 * (N % 4) : Nat) : Int) := by
      rw [wrap_i64' (by omega) (by omega), wrap_u64 (by omega) (by omega)]; omega
    have t4 : List.take xs.length xs = xs := List.take_length
    have t5 : List.take 1 [(0 : Int)] = [0] := rfl
    have t6 : IntKind.i64.wrap ((N : Int) + 1) = ((N + 1 : Nat) : Int) := wrap_succ (by omega)
    refine vcx (X := ((decide (i ≥ (0 : Int)) = true → ((0 : Int) ≤ i ∧ i < (↑s.size : Int)) ∧ (((sbytes s).getD i.toNat (0 : Int) == (32 : Int)) = true → (hxI s (IntKind.i64.wrap (i - (1 : Int)), (↑N : Int), xs.length, xs)).triv ((∃ k, k ≤ s.size ∧ IntKind.i64.wrap (i - (1 : Int)) = (↑s.size : Int) - (1 : Car (Kd.int IntKind.i64)) - (↑k : Int) ∧ (↑N : Int) = (↑(hxK s k).fst : Int) ∧ xs.length = (hxK s k).snd.length ∧ xs = (hxK s k).snd) ∧ Int.toNat (IntKind.i64.wrap (i - (1 : Int)) + (1 : Car (Kd.int IntKind.i64))) < Int.toNat (i + (1 : Car (Kd.int IntKind.i64))))) ∧ (((sbytes s).getD i.toNat (0 : Int) == (32 : Int)) = false → (decide ((sbytes s).getD i.toNat (0 : Int) ≥ (97 : Int)) = true → ((4 : Int) = (0 : Int) → False) ∧ (((↑N : Int).tmod (4 : Int) == (0 : Int)) = true → (0 : Nat) + (1 : Nat) ≤ (1 : Nat) ∧ xs.length ≤ xs.length ∧ (xs.length + (1 : Nat)) * (4 : Nat) ≤ (140737488355328 : Nat) ∧ xs.length + (1 : Nat) ≤ (4611686018427387904 : Nat) ∧ ((4 : Int) = (0 : Int) → False) ∧ ((0 : Int) ≤ IntKind.i64.wrap ((↑N : Int).tdiv (4 : Int)) ∧ IntKind.i64.wrap ((↑N : Int).tdiv (4 : Int)) < (↑(xs.length + (1 : Nat)) : Int)) ∧ (IntKind.i64.wrap ((↑N : Int).tdiv (4 : Int))).toNat < xs.length + (1 : Nat) ∧ ((4 : Int) = (0 : Int) → False) ∧ (0 : Int) ≤ IntKind.u64.wrap (IntKind.i64.wrap ((4 : Int) * (↑N : Int).tmod (4 : Int))) ∧ ((0 : Int) ≤ IntKind.i64.wrap ((↑N : Int).tdiv (4 : Int)) ∧ IntKind.i64.wrap ((↑N : Int).tdiv (4 : Int)) < (↑(xs.length + (1 : Nat)) : Int)) ∧ (IntKind.i64.wrap ((↑N : Int).tdiv (4 : Int))).toNat < xs.length + (1 : Nat) ∧ (hxI s (IntKind.i64.wrap (i - (1 : Int)), IntKind.i64.wrap ((↑N : Int) + (1 : Int)), xs.length + (1 : Nat), (List.take xs.length xs ++ List.take (1 : Nat) [(0 : Int)]).set (IntKind.i64.wrap ((↑N : Int).tdiv (4 : Int))).toNat (bitOp BinOp.or IntKind.u32 ((List.take xs.length xs ++ List.take (1 : Nat) [(0 : Int)]).getD (IntKind.i64.wrap ((↑N : Int).tdiv (4 : Int))).toNat (0 : Int)) (IntKind.u32.wrap (IntKind.u32.wrap (IntKind.u32.wrap (IntKind.u32.wrap ((sbytes s).getD i.toNat (0 : Int)) - (97 : Int)) + (10 : Int)) * (2 : Int) ^ min (IntKind.u64.wrap (IntKind.i64.wrap ((4 : Int) * (↑N : Int).tmod (4 : Int)))).toNat IntKind.u32.bits))))).triv ((∃ k, k ≤ s.size ∧ IntKind.i64.wrap (i - (1 : Int)) = (↑s.size : Int) - (1 : Car (Kd.int IntKind.i64)) - (↑k : Int) ∧ IntKind.i64.wrap ((↑N : Int) + (1 : Int)) = (↑(hxK s k).fst : Int) ∧ xs.length + (1 : Nat) = (hxK s k).snd.length ∧ (List.take xs.length xs ++ List.take (1 : Nat) [(0 : Int)]).set (IntKind.i64.wrap ((↑N : Int).tdiv (4 : Int))).toNat (bitOp BinOp.or IntKind.u32 ((List.take xs.length xs ++ List.take (1 : Nat) [(0 : Int)]).getD (IntKind.i64.wrap ((↑N : Int).tdiv (4 : Int))).toNat (0 : Int)) (IntKind.u32.wrap (IntKind.u32.wrap (IntKind.u32.wrap (IntKind.u32.wrap ((sbytes s).getD i.toNat (0 : Int)) - (97 : Int)) + (10 : Int)) * (2 : Int) ^ min (IntKind.u64.wrap (IntKind.i64.wrap ((4 : Int) * (↑N : Int).tmod (4 : Int)))).toNat IntKind.u32.bits))) = (hxK s k).snd) ∧ Int.toNat (IntKind.i64.wrap (i - (1 : Int)) + (1 : Car (Kd.int IntKind.i64))) < Int.toNat (i + (1 : Car (Kd.int IntKind.i64))))) ∧ (((↑N : Int).tmod (4 : Int) == (0 : Int)) = false → ((4 : Int) = (0 : Int) → False) ∧ ((0 : Int) ≤ IntKind.i64.wrap ((↑N : Int).tdiv (4 : Int)) ∧ IntKind.i64.wrap ((↑N : Int).tdiv (4 : Int)) < (↑xs.length : Int)) ∧ (IntKind.i64.wrap ((↑N : Int).tdiv (4 : Int))).toNat < xs.length ∧ ((4 : Int) = (0 : Int) → False) ∧ (0 : Int) ≤ IntKind.u64.wrap (IntKind.i64.wrap ((4 : Int) * (↑N : Int).tmod (4 : Int))) ∧ ((0 : Int) ≤ IntKind.i64.wrap ((↑N : Int).tdiv (4 : Int)) ∧ IntKind.i64.wrap ((↑N : Int).tdiv (4 : Int)) < (↑xs.length : Int)) ∧ (IntKind.i64.wrap ((↑N : Int).tdiv (4 : Int))).toNat < xs.length ∧ (hxI s (IntKind.i64.wrap (i - (1 : Int)), IntKind.i64.wrap ((↑N : Int) + (1 : Int)), xs.length, xs.set (IntKind.i64.wrap ((↑N : Int).tdiv (4 : Int))).toNat (bitOp BinOp.or IntKind.u32 (xs.getD (IntKind.i64.wrap ((↑N : Int).tdiv (4 : Int))).toNat (0 : Int)) (IntKind.u32.wrap (IntKind.u32.wrap (IntKind.u32.wrap (IntKind.u32.wrap ((sbytes s).getD i.toNat (0 : Int)) - (97 : Int)) + (10 : Int)) * (2 : Int) ^ min (IntKind.u64.wrap (IntKind.i64.wrap ((4 : Int) * (↑N : Int).tmod (4 : Int)))).toNat IntKind.u32.bits))))).triv ((∃ k, k ≤ s.size ∧ IntKind.i64.wrap (i - (1 : Int)) = (↑s.size : Int) - (1 : Car (Kd.int IntKind.i64)) - (↑k : Int) ∧ IntKind.i64.wrap ((↑N : Int) + (1 : Int)) = (↑(hxK s k).fst : Int) ∧ xs.length = (hxK s k).snd.length ∧ xs.set (IntKind.i64.wrap ((↑N : Int).tdiv (4 : Int))).toNat (bitOp BinOp.or IntKind.u32 (xs.getD (IntKind.i64.wrap ((↑N : Int).tdiv (4 : Int))).toNat (0 : Int)) (IntKind.u32.wrap (IntKind.u32.wrap (IntKind.u32.wrap (IntKind.u32.wrap ((sbytes s).getD i.toNat (0 : Int)) - (97 : Int)) + (10 : Int)) * (2 : Int) ^ min (IntKind.u64.wrap (IntKind.i64.wrap ((4 : Int) * (↑N : Int).tmod (4 : Int)))).toNat IntKind.u32.bits))) = (hxK s k).snd) ∧ Int.toNat (IntKind.i64.wrap (i - (1 : Int)) + (1 : Car (Kd.int IntKind.i64))) < Int.toNat (i + (1 : Car (Kd.int IntKind.i64)))))) ∧ (decide ((sbytes s).getD i.toNat (0 : Int) ≥ (97 : Int)) = false → ((4 : Int) = (0 : Int) → False) ∧ (((↑N : Int).tmod (4 : Int) == (0 : Int)) = true → (0 : Nat) + (1 : Nat) ≤ (1 : Nat) ∧ xs.length ≤ xs.length ∧ (xs.length + (1 : Nat)) * (4 : Nat) ≤ (140737488355328 : Nat) ∧ xs.length + (1 : Nat) ≤ (4611686018427387904 : Nat) ∧ ((4 : Int) = (0 : Int) → False) ∧ ((0 : Int) ≤ IntKind.i64.wrap ((↑N : Int).tdiv (4 : Int)) ∧ IntKind.i64.wrap ((↑N : Int).tdiv (4 : Int)) < (↑(xs.length + (1 : Nat)) : Int)) ∧ (IntKind.i64.wrap ((↑N : Int).tdiv (4 : Int))).toNat < xs.length + (1 : Nat) ∧ ((4 : Int) = (0 : Int) → False) ∧ (0 : Int) ≤ IntKind.u64.wrap (IntKind.i64.wrap ((4 : Int) * (↑N : Int).tmod (4 : Int))) ∧ ((0 : Int) ≤ IntKind.i64.wrap ((↑N : Int).tdiv (4 : Int)) ∧ IntKind.i64.wrap ((↑N : Int).tdiv (4 : Int)) < (↑(xs.length + (1 : Nat)) : Int)) ∧ (IntKind.i64.wrap ((↑N : Int).tdiv (4 : Int))).toNat < xs.length + (1 : Nat) ∧ (hxI s (IntKind.i64.wrap (i - (1 : Int)), IntKind.i64.wrap ((↑N : Int) + (1 : Int)), xs.length + (1 : Nat), (List.take xs.length xs ++ List.take (1 : Nat) [(0 : Int)]).set (IntKind.i64.wrap ((↑N : Int).tdiv (4 : Int))).toNat (bitOp BinOp.or IntKind.u32 ((List.take xs.length xs ++ List.take (1 : Nat) [(0 : Int)]).getD (IntKind.i64.wrap ((↑N : Int).tdiv (4 : Int))).toNat (0 : Int)) (IntKind.u32.wrap (IntKind.u32.wrap (IntKind.u32.wrap ((sbytes s).getD i.toNat (0 : Int)) - (48 : Int)) * (2 : Int) ^ min (IntKind.u64.wrap (IntKind.i64.wrap ((4 : Int) * (↑N : Int).tmod (4 : Int)))).toNat IntKind.u32.bits))))).triv ((∃ k, k ≤ s.size ∧ IntKind.i64.wrap (i - (1 : Int)) = (↑s.size : Int) - (1 : Car (Kd.int IntKind.i64)) - (↑k : Int) ∧ IntKind.i64.wrap ((↑N : Int) + (1 : Int)) = (↑(hxK s k).fst : Int) ∧ xs.length + (1 : Nat) = (hxK s k).snd.length ∧ (List.take xs.length xs ++ List.take (1 : Nat) [(0 : Int)]).set (IntKind.i64.wrap ((↑N : Int).tdiv (4 : Int))).toNat (bitOp BinOp.or IntKind.u32 ((List.take xs.length xs ++ List.take (1 : Nat) [(0 : Int)]).getD (IntKind.i64.wrap ((↑N : Int).tdiv (4 : Int))).toNat (0 : Int)) (IntKind.u32.wrap (IntKind.u32.wrap (IntKind.u32.wrap ((sbytes s).getD i.toNat (0 : Int)) - (48 : Int)) * (2 : Int) ^ min (IntKind.u64.wrap (IntKind.i64.wrap ((4 : Int) * (↑N : Int).tmod (4 : Int)))).toNat IntKind.u32.bits))) = (hxK s k).snd) ∧ Int.toNat (IntKind.i64.wrap (i - (1 : Int)) + (1 : Car (Kd.int IntKind.i64))) < Int.toNat (i + (1 : Car (Kd.int IntKind.i64))))) ∧ (((↑N : Int).tmod (4 : Int) == (0 : Int)) = false → ((4 : Int) = (0 : Int) → False) ∧ ((0 : Int) ≤ IntKind.i64.wrap ((↑N : Int).tdiv (4 : Int)) ∧ IntKind.i64.wrap ((↑N : Int).tdiv (4 : Int)) < (↑xs.length : Int)) ∧ (IntKind.i64.wrap ((↑N : Int).tdiv (4 : Int))).toNat < xs.length ∧ ((4 : Int) = (0 : Int) → False) ∧ (0 : Int) ≤ IntKind.u64.wrap (IntKind.i64.wrap ((4 : Int) * (↑N : Int).tmod (4 : Int))) ∧ ((0 : Int) ≤ IntKind.i64.wrap ((↑N : Int).tdiv (4 : Int)) ∧ IntKind.i64.wrap ((↑N : Int).tdiv (4 : Int)) < (↑xs.length : Int)) ∧ (IntKind.i64.wrap ((↑N : Int).tdiv (4 : Int))).toNat < xs.length ∧ (hxI s (IntKind.i64.wrap (i - (1 : Int)), IntKind.i64.wrap ((↑N : Int) + (1 : Int)), xs.length, xs.set (IntKind.i64.wrap ((↑N : Int).tdiv (4 : Int))).toNat (bitOp BinOp.or IntKind.u32 (xs.getD (IntKind.i64.wrap ((↑N : Int).tdiv (4 : Int))).toNat (0 : Int)) (IntKind.u32.wrap (IntKind.u32.wrap (IntKind.u32.wrap ((sbytes s).getD i.toNat (0 : Int)) - (48 : Int)) * (2 : Int) ^ min (IntKind.u64.wrap (IntKind.i64.wrap ((4 : Int) * (↑N : Int).tmod (4 : Int)))).toNat IntKind.u32.bits))))).triv ((∃ k, k ≤ s.size ∧ IntKind.i64.wrap (i - (1 : Int)) = (↑s.size : Int) - (1 : Car (Kd.int IntKind.i64)) - (↑k : Int) ∧ IntKind.i64.wrap ((↑N : Int) + (1 : Int)) = (↑(hxK s k).fst : Int) ∧ xs.length = (hxK s k).snd.length ∧ xs.set (IntKind.i64.wrap ((↑N : Int).tdiv (4 : Int))).toNat (bitOp BinOp.or IntKind.u32 (xs.getD (IntKind.i64.wrap ((↑N : Int).tdiv (4 : Int))).toNat (0 : Int)) (IntKind.u32.wrap (IntKind.u32.wrap (IntKind.u32.wrap ((sbytes s).getD i.toNat (0 : Int)) - (48 : Int)) * (2 : Int) ^ min (IntKind.u64.wrap (IntKind.i64.wrap ((4 : Int) * (↑N : Int).tmod (4 : Int)))).toNat IntKind.u32.bits))) = (hxK s k).snd) ∧ Int.toNat (IntKind.i64.wrap (i - (1 : Int)) + (1 : Car (Kd.int IntKind.i64))) < Int.toNat (i + (1 : Car (Kd.int IntKind.i64)))))))) ∧ (decide (i ≥ (0 : Int)) = false → (hxI s (i, (↑N : Int), xs.length, xs)).triv (xs.length = (hxK s s.size).snd.length ∧ xs = (hxK s s.size).snd)))) (by kernel_rfl) ?_
    rw [t1, t2, t3, t4, t5, t6]
    simp only [Int.toNat_natCast]
    refine ⟨fun h => ?_, fun h => triv_intro ?_⟩
    · have h0 : 0 ≤ i := of_decide_eq_true h
      have hlt : k < s.size := by omega
      have ei2 : i.toNat = s.size - 1 - k := by omega
      have ew2 : IntKind.i64.wrap (i - 1) = (s.size : Int) - 1 - ((k + 1 : Nat) : Int) := by rw [wrap_i64' (by omega) (by omega)]; omega
      rw [ei2, ew2]
      obtain ⟨c, hc⟩ : ∃ c, c = hxC s k := ⟨_, rfl⟩
      have hc2 : (sbytes s).getD (s.size - 1 - k) 0 = c := hc.symm
      rw [hc2]
      have hme : ((s.size : Int) - 1 - ((k + 1 : Nat) : Int) + 1).toNat < (i + 1).toNat := by omega
      have hnx : hxK s (k + 1) = hxS s k (N, xs) := by show hxS s k (hxK s k) = _; rw [hK]
      have key : ∀ (d : Int) (zs : List Int) (Lz : Nat), ¬ c = 32 → hxD c = d → hxA N xs = zs → Lz = zs.length → (∃ k', k' ≤ s.size ∧ (s.size : Int) - 1 - ((k + 1 : Nat) : Int) = (s.size : Int) - 1 - (k' : Int) ∧ ((N + 1 : Nat) : Int) = ((hxK s k').1 : Int) ∧ Lz = (hxK s k').2.length ∧ zs.set (N / 4) (bitOp BinOp.or IntKind.u32 (zs.getD (N / 4) 0) (IntKind.u32.wrap (d * 2 ^ min (4 * (N % 4)) IntKind.u32.bits))) = (hxK s k').2) ∧ ((s.size : Int) - 1 - ((k + 1 : Nat) : Int) + 1).toNat < (i + 1).toNat := by
        intro d zs Lz h32 hd hz hLz
        refine ⟨⟨k + 1, hlt, rfl, ?_, ?_, ?_⟩, hme⟩
        · rw [hnx, hxS, ← hc, if_neg h32]
        · rw [hnx, hxS, ← hc, if_neg h32, hLz, hz]
          show _ = (hxW _ _ _).length
          rw [hxW, List.length_set]
        · rw [hnx, hxS, ← hc, if_neg h32, hz, hd]; rfl
      have b4 : N % 4 = 0 → hxA N xs = xs ++ [0] := fun h => by rw [hxA, if_pos h]
      have b5 : ¬ N % 4 = 0 → hxA N xs = xs := fun h => by rw [hxA, if_neg h]
      have leafA : (((N % 4 : Nat) : Int) == 0) = true → N % 4 = 0 := by
        intro h4
        have h5 : ((N % 4 : Nat) : Int) = 0 := eq_of_beq h4
        omega
      have leafB : (((N % 4 : Nat) : Int) == 0) = false → ¬ N % 4 = 0 := by
        intro h4 e
        rw [e] at h4
        cases h4
      have hlen : (xs ++ [(0 : Int)]).length = xs.length + 1 := by rw [List.length_append]; rfl
      refine ⟨⟨by omega, by omega⟩, fun h32 => triv_intro ?_, fun h32 => ?_⟩
      · have h32 : c = 32 := by simpa using h32
        refine ⟨⟨k + 1, hlt, rfl, ?_, ?_, ?_⟩, hme⟩
        · rw [hnx, hxS, ← hc, if_pos h32]
        · rw [hnx, hxS, ← hc, if_pos h32]
        · rw [hnx, hxS, ← hc, if_pos h32]
      · have h32 : ¬ c = 32 := by simpa using h32
        refine ⟨fun h97 => ⟨by decide, fun h4 => ?_, fun h4 => ?_⟩, fun h97 => ⟨by decide, fun h4 => ?_, fun h4 => ?_⟩⟩
        · have hd : hxD c = IntKind.u32.wrap (IntKind.u32.wrap (IntKind.u32.wrap c - 97) + 10) := by rw [hxD, if_pos (of_decide_eq_true h97)]
          have h4 := leafA h4
          exact ⟨Nat.le_refl _, Nat.le_refl _, by omega, by omega, by decide, ⟨by omega, by omega⟩, by omega, by decide, by omega, ⟨by omega, by omega⟩, by omega, triv_intro (key _ _ _ h32 hd (b4 h4) hlen.symm)⟩
        · have hd : hxD c = IntKind.u32.wrap (IntKind.u32.wrap (IntKind.u32.wrap c - 97) + 10) := by rw [hxD, if_pos (of_decide_eq_true h97)]
          have h4 := leafB h4
          exact ⟨by decide, ⟨by omega, by omega⟩, by omega, by decide, by omega, ⟨by omega, by omega⟩, by omega, triv_intro (key _ _ _ h32 hd (b5 h4) rfl)⟩
        · have hd : hxD c = IntKind.u32.wrap (IntKind.u32.wrap c - 48) := by rw [hxD, if_neg (of_decide_eq_false h97)]
          have h4 := leafA h4
          exact ⟨Nat.le_refl _, Nat.le_refl _, by omega, by omega, by decide, ⟨by omega, by omega⟩, by omega, by decide, by omega, ⟨by omega, by omega⟩, by omega, triv_intro (key _ _ _ h32 hd (b4 h4) hlen.symm)⟩
        · have hd : hxD c = IntKind.u32.wrap (IntKind.u32.wrap c - 48) := by rw [hxD, if_neg (of_decide_eq_false h97)]
          have h4 := leafB h4
          exact ⟨by decide, ⟨by omega, by omega⟩, by omega, by decide, by omega, ⟨by omega, by omega⟩, by omega, triv_intro (key _ _ _ h32 hd (b5 h4) rfl)⟩
    · have hk2 : k = s.size := by have := of_decide_eq_false h; omega
      rw [← hk2, hK]
      exact ⟨rfl, rfl⟩
  rintro ⟨i, n, L, xs⟩ hj
  revert i n xs
  intro (i : Int) (n : Int) (xs : List Int) ⟨hL, hx⟩
  have hL : L = (hxK s s.size).2.length := hL
  have hx : xs = (hxK s s.size).2 := hx
  refine tr_vc hsp mixed _ _ ?_
  refine vcx (X := ((0 : Nat) + L ≤ L ∧ (List.take L xs, ()) = ((hxK s s.size).snd, ()))) (by kernel_rfl) ?_
  rw [hL, hx, List.take_length]
  exact ⟨Nat.le_of_eq (Nat.zero_add _), rfl⟩
end Go.Proofs.Ytbfimfdhmggieaa.ref03
