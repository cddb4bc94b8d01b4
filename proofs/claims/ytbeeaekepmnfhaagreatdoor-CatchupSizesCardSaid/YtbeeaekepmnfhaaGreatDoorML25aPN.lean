/- Read, Odd, Large of package fp; Wide of package fr. -/
import Derived.Test.YtbeeaekepmnfhaaGreatDoorML25aPM
/- shift and Of of both fields. -/
namespace Go.Proofs.YtbeeaekepmnfhaaGreatDoor.fp
set_option maxRecDepth 100000
open Go Go.Eng Go.RowKit Cr Go.Proofs.YtbeeaekepmnfhaaGreatDoor

theorem ent_shift : enters Tryz.prog 141 Tryz.f141 := enters_mk (by kernel_rfl) (by kernel_rfl) (by kernel_rfl)
noncomputable def shI (t : Nat) (g : Int × Fp) : St := mkSt Tryz.f141.ntmps 40 [(0, .is (.one (.ptr 0 0))), (1, .is (.one (.ptr 16 0))), (t, sI .i64 g.1)] [(16, [.row .fp 1 [g.2]]), (0, [.row .fp 1 [(0 : Fp)]])]
def dbls : Nat → Fp
  | 0 => 1
  | k + 1 => dbls k + dbls k
def sqs (x : Fp) : Nat → Fp
  | 0 => x
  | k + 1 => sqs x k * sqs x k

theorem fn_shift : FnOk Tryz.prog 141 [] [.val .fp] noG (fun _ => True) (fun _ => ((R2 : Fp), ())) := by
  have hsp : SpecsOk Tryz.prog (sps [spOne, spAdd, spSquare]) := sps_cons (fnSpec_ok fn_one) (sps_cons (fnSpec_ok fn_add) (sps_cons (fnSpec_ok fn_square) sps_nil))
  refine fn_of_tr (sp := sps [spOne, spAdd, spSquare]) ent_shift (by decide) (by decide) (by kernel_rfl) ?_
  rintro w M0 ⟨⟩ _ _
  show Tr _ _ _ _ _ _ _
  refine tr_cut hsp mixed 3 (shI 3 (0, 1)) True ?_ (fun _ => ?_)
  · refine vcx (X := True ∧ (shI 3 (0, 1)).triv True) (by kernel_rfl) ⟨trivial, triv_intro trivial⟩
  refine tr_count hsp mixed (shI 3) (fun k => ((k : Int), dbls k)) 3 (fun g => (IntKind.i64.wrap (g.1 + 1), g.2 + g.2)) (shI 3) (c := nthC (codeOf Tryz.f141) 3) (by kernel_rfl) (by kernel_rfl) (le_of_proj (by kernel_rfl) (by kernel_rfl) trivial)
    (fun k hk => by show (_, _) = (_, _); rw [wrap_succ (by omega)]; rfl) ?_ ?_
  · intro k hk
    refine vcx (X := ((decide ((k : Int) < 3) = true → True ∧ (shI 3 (IntKind.i64.wrap ((k : Int) + 1), dbls k + dbls k)).triv (k < 3)) ∧ (decide ((k : Int) < 3) = false → (shI 3 ((k : Int), dbls k)).triv (k = 3)))) (by kernel_rfl) ?_
    exact ⟨fun h => ⟨trivial, triv_intro (by have := dec_lt h; omega)⟩, fun h => triv_intro (by have := dec_ge h; omega)⟩
  refine tr_cut hsp mixed 1 (shI 9 (0, dbls 3)) True ?_ (fun _ => ?_)
  · refine vcx (X := (shI 9 (0, dbls 3)).triv True) (by kernel_rfl) (triv_intro trivial)
  refine tr_count hsp mixed (shI 9) (fun k => ((k : Int), sqs (dbls 3) k)) 7 (fun g => (IntKind.i64.wrap (g.1 + 1), g.2 * g.2)) (shI 9) (c := nthC (codeOf Tryz.f141) 5) (by kernel_rfl) (by kernel_rfl) (le_of_proj (by kernel_rfl) (by kernel_rfl) trivial)
    (fun k hk => by show (_, _) = (_, _); rw [wrap_succ (by omega)]; rfl) ?_ ?_
  · intro k hk
    refine vcx (X := ((decide ((k : Int) < 7) = true → True ∧ (shI 9 (IntKind.i64.wrap ((k : Int) + 1), sqs (dbls 3) k * sqs (dbls 3) k)).triv (k < 7)) ∧ (decide ((k : Int) < 7) = false → (shI 9 ((k : Int), sqs (dbls 3) k)).triv (k = 7)))) (by kernel_rfl) ?_
    exact ⟨fun h => ⟨trivial, triv_intro (by have := dec_lt h; omega)⟩, fun h => triv_intro (by have := dec_ge h; omega)⟩
  refine tr_vc hsp mixed _ _ ?_
  refine vcx (X := (sqs (dbls 3) 7, ()) = ((R2 : Fp), ())) (by kernel_rfl) ?_
  rw [show sqs (dbls 3) 7 = R2 from Zm.ext (by decide)]
noncomputable def spShift : Nat × Eng.Spec := (141, fnSpec [] [.val .fp] (fun _ => True) (fun _ => ((R2 : Fp), ())))

theorem ent_of : enters Tryz.prog 95 Tryz.f95 := enters_mk (by kernel_rfl) (by kernel_rfl) (by kernel_rfl)
abbrev outOf : HL [.int .u64] → HO [.val .fp] := fun (n, _) => ((zm n : Fp), ())
theorem fn_of : FnOk Tryz.prog 95 [.int .u64] [.val .fp] noG (fun (n, _) => U64 n) outOf := by
  refine fn_of_vc (sp := sps [spShift, spTimes]) (sps_cons (fnSpec_ok fn_shift) (sps_cons (fnSpec_ok fn_times) sps_nil)) mixed ent_of (by decide) (by decide) ?_
  rintro w M0 ⟨n, ⟨⟩⟩ _ hn
  refine vcx (X := (True ∧ preTimes (enc (R2 : Fp), [n, 0, 0, 0, 0, 0], ()) ∧ Canon Mp (lim 6 (val (enc (R2 : Fp)) * val [n, 0, 0, 0, 0, 0] * rinv % M)) ∧ (dec (lim 6 (val (enc (R2 : Fp)) * val [n, 0, 0, 0, 0, 0] * rinv % M)), ()) = outOf (n, ()))) (by kernel_rfl) ?_
  rw [show lim 6 (val (enc (R2 : Fp)) * val [n, 0, 0, 0, 0, 0] * rinv % M) = enc (zm (val [n, 0, 0, 0, 0, 0]) : Fp) from shift_enc (M := Mp)]
  refine ⟨trivial, ⟨enc_ws _, ?_, (enc_canon _).2.2⟩, enc_canon _, ?_⟩
  · intro x hx
    rcases List.mem_cons.1 hx with rfl | hx
    · exact hn
    · simp at hx; subst hx; exact ⟨by decide, by decide⟩
  · rw [dec_enc]; simp [val, outOf]
noncomputable def spOf : Nat × Eng.Spec := (95, fnSpec [.int .u64] [.val .fp] (fun (n, _) => U64 n) outOf)
end Go.Proofs.YtbeeaekepmnfhaaGreatDoor.fp

namespace Go.Proofs.YtbeeaekepmnfhaaGreatDoor.fr
set_option maxRecDepth 100000
open Go Go.Eng Go.RowKit Cr Go.Proofs.YtbeeaekepmnfhaaGreatDoor

theorem ent_shift : enters Tryz.prog 44 Tryz.f44 := enters_mk (by kernel_rfl) (by kernel_rfl) (by kernel_rfl)
noncomputable def shI (t : Nat) (g : Int × Fr) : St := mkSt Tryz.f44.ntmps 56 [(0, .is (.one (.ptr 0 0))), (1, .is (.one (.ptr 32 0))), (t, sI .i64 g.1)] [(32, [.row .fr 1 [g.2]]), (0, [.row .fr 1 [(0 : Fr)]])]
def sqs (x : Fr) : Nat → Fr
  | 0 => x
  | k + 1 => sqs x k * sqs x k

theorem fn_shift : FnOk Tryz.prog 44 [] [.val .fr] noG (fun _ => True) (fun _ => ((R2 : Fr), ())) := by
  have hsp : SpecsOk Tryz.prog (sps [spOne, spAdd, spSquare]) := sps_cons (fnSpec_ok fn_one) (sps_cons (fnSpec_ok fn_add) (sps_cons (fnSpec_ok fn_square) sps_nil))
  refine fn_of_tr (sp := sps [spOne, spAdd, spSquare]) ent_shift (by decide) (by decide) (by kernel_rfl) ?_
  rintro w M0 ⟨⟩ _ _
  show Tr _ _ _ _ _ _ _
  refine tr_cut hsp mixed 3 (shI 5 (0, 1 + 1)) True ?_ (fun _ => ?_)
  · refine vcx (X := True ∧ True ∧ True ∧ (shI 5 (0, 1 + 1)).triv True) (by kernel_rfl) ⟨trivial, trivial, trivial, triv_intro trivial⟩
  refine tr_count hsp mixed (shI 5) (fun k => ((k : Int), sqs (1 + 1) k)) 8 (fun g => (IntKind.i64.wrap (g.1 + 1), g.2 * g.2)) (shI 5) (c := nthC (codeOf Tryz.f44) 3) (by kernel_rfl) (by kernel_rfl) (le_of_proj (by kernel_rfl) (by kernel_rfl) trivial)
    (fun k hk => by show (_, _) = (_, _); rw [wrap_succ (by omega)]; rfl) ?_ ?_
  · intro k hk
    refine vcx (X := ((decide ((k : Int) < 8) = true → True ∧ (shI 5 (IntKind.i64.wrap ((k : Int) + 1), sqs (1 + 1) k * sqs (1 + 1) k)).triv (k < 8)) ∧ (decide ((k : Int) < 8) = false → (shI 5 ((k : Int), sqs (1 + 1) k)).triv (k = 8)))) (by kernel_rfl) ?_
    exact ⟨fun h => ⟨trivial, triv_intro (by have := dec_lt h; omega)⟩, fun h => triv_intro (by have := dec_ge h; omega)⟩
  refine tr_vc hsp mixed _ _ ?_
  refine vcx (X := (sqs (1 + 1) 8, ()) = ((R2 : Fr), ())) (by kernel_rfl) ?_
  rw [show sqs (1 + 1) 8 = R2 from Zm.ext (by decide)]
noncomputable def spShift : Nat × Eng.Spec := (44, fnSpec [] [.val .fr] (fun _ => True) (fun _ => ((R2 : Fr), ())))

theorem ent_of : enters Tryz.prog 11 Tryz.f11 := enters_mk (by kernel_rfl) (by kernel_rfl) (by kernel_rfl)
abbrev outOf : HL [.int .u64] → HO [.val .fr] := fun (n, _) => ((zm n : Fr), ())
theorem fn_of : FnOk Tryz.prog 11 [.int .u64] [.val .fr] noG (fun (n, _) => U64 n) outOf := by
  refine fn_of_vc (sp := sps [spShift, spTimes]) (sps_cons (fnSpec_ok fn_shift) (sps_cons (fnSpec_ok fn_times) sps_nil)) mixed ent_of (by decide) (by decide) ?_
  rintro w M0 ⟨n, ⟨⟩⟩ _ hn
  refine vcx (X := (True ∧ preTimes (enc (R2 : Fr), [n, 0, 0, 0], ()) ∧ Canon Mr (lim 4 (val (enc (R2 : Fr)) * val [n, 0, 0, 0] * rinv % M)) ∧ (dec (lim 4 (val (enc (R2 : Fr)) * val [n, 0, 0, 0] * rinv % M)), ()) = outOf (n, ()))) (by kernel_rfl) ?_
  rw [show lim 4 (val (enc (R2 : Fr)) * val [n, 0, 0, 0] * rinv % M) = enc (zm (val [n, 0, 0, 0]) : Fr) from shift_enc (M := Mr)]
  refine ⟨trivial, ⟨enc_ws _, ?_, (enc_canon _).2.2⟩, enc_canon _, ?_⟩
  · intro x hx
    rcases List.mem_cons.1 hx with rfl | hx
    · exact hn
    · simp at hx; subst hx; exact ⟨by decide, by decide⟩
  · rw [dec_enc]; simp [val, outOf]
noncomputable def spOf : Nat × Eng.Spec := (11, fnSpec [.int .u64] [.val .fr] (fun (n, _) => U64 n) outOf)
end Go.Proofs.YtbeeaekepmnfhaaGreatDoor.fr
/- Bytes and words, numbers. No program here. -/
namespace Cr

/-- Bytes. -/
def Bs (l : List Int) : Prop := ∀ x ∈ l, 0 ≤ x ∧ x < 256

/-- The number that bytes are, the highest first. -/
def num (l : List Int) : Int := l.foldl (fun a b => a * 256 + b) 0

def p256 : Nat → Int
  | 0 => 1
  | n + 1 => 256 * p256 n

theorem p256_pos (n : Nat) : 0 < p256 n := by
  induction n with
  | zero => decide
  | succ n ih => simp only [p256]; omega

theorem p256_add (m n : Nat) : p256 (m + n) = p256 m * p256 n := by
  induction m with
  | zero => simp [p256]
  | succ m ih => rw [Nat.succ_add]; simp only [p256, ih, Int.mul_assoc]

theorem p256_8 (n : Nat) : p256 (8 * n) = pw n := by
  induction n with
  | zero => rfl
  | succ n ih =>
    rw [Nat.mul_succ, Nat.add_comm, p256_add, ih]
    rfl

theorem num_snoc (l : List Int) (b : Int) : num (l ++ [b]) = num l * 256 + b := by simp [num]

theorem foldl_num (l : List Int) : ∀ a : Int, l.foldl (fun a b => a * 256 + b) a = a * p256 l.length + num l := by
  induction l with
  | nil => intro a; simp [num, p256]
  | cons b l ih =>
    intro a
    simp only [List.foldl_cons, List.length_cons, p256, num]
    rw [ih, ih (0 * 256 + b)]
    simp only [Int.add_mul, Int.zero_mul, Int.zero_add]
    rw [show a * 256 * p256 l.length = a * (256 * p256 l.length) from Int.mul_assoc _ _ _]
    omega

theorem num_append (l m : List Int) : num (l ++ m) = num l * p256 m.length + num m := by
  show (l ++ m).foldl _ 0 = _
  rw [List.foldl_append, foldl_num]
  rfl

theorem num_bd {l : List Int} (h : Bs l) : 0 ≤ num l ∧ num l < p256 l.length := by
  induction l with
  | nil => simp [num, p256]
  | cons b l ih =>
    have hb := h b (by simp)
    have hi := ih (fun x hx => h x (by simp [hx]))
    have e : num (b :: l) = b * p256 l.length + num l := num_append [b] l ▸ by simp [num]
    rw [e, List.length_cons]
    simp only [p256]
    have hp := p256_pos l.length
    have h1 := Int.mul_nonneg hb.1 (Int.le_of_lt hp)
    have h2 : b * p256 l.length ≤ 255 * p256 l.length := Int.mul_le_mul_of_nonneg_right (by omega) (Int.le_of_lt hp)
    omega

theorem Bs_take {l : List Int} (h : Bs l) (n : Nat) : Bs (l.take n) := fun x hx => h x (List.mem_of_mem_take hx)
theorem num_take_succ {l : List Int} {k : Nat} (h : k < l.length) : num (l.take (k + 1)) = num (l.take k) * 256 + l.getD k 0 := by
  rw [List.take_succ_eq_append_getElem h, num_snoc]
  congr 1
  simp [h]

/-- One word more. -/
theorem lim_set : ∀ (n j : Nat) (A d : Int), j < n → 0 ≤ d → (lim n A).getD j 0 + d < 18446744073709551616 →
    (lim n A).set j ((lim n A).getD j 0 + d) = lim n (A + d * pw j) := by
  intro n
  induction n with
  | zero => intro j A d h; omega
  | succ n ih =>
    intro j A d hj hd hlt
    cases j with
    | zero =>
      simp only [lim, List.getD_cons_zero, List.set_cons_zero, pw, Int.mul_one] at hlt ⊢
      have h1 : (A + d) % 18446744073709551616 = A % 18446744073709551616 + d := by omega
      have h2 : (A + d) / 18446744073709551616 = A / 18446744073709551616 := by omega
      rw [h1, h2]
    | succ j =>
      simp only [lim, List.getD_cons_succ, List.set_cons_succ, pw] at hlt ⊢
      rw [ih j _ d (by omega) hd hlt]
      have e : d * (18446744073709551616 * pw j) = 18446744073709551616 * (d * pw j) := by rw [Int.mul_left_comm]
      have h1 : (A + 18446744073709551616 * (d * pw j)) % 18446744073709551616 = A % 18446744073709551616 := by omega
      have h2 : (A + 18446744073709551616 * (d * pw j)) / 18446744073709551616 = A / 18446744073709551616 + d * pw j := by omega
      rw [e, h1, h2]

theorem lim_get : ∀ (n j : Nat) (A : Int), j < n → (lim n A).getD j 0 = A / pw j % 18446744073709551616 := by
  intro n
  induction n with
  | zero => intro j A h; omega
  | succ n ih =>
    intro j A hj
    cases j with
    | zero => simp [lim, pw]
    | succ j =>
      simp only [lim, List.getD_cons_succ, pw]
      rw [ih j _ (by omega), Int.ediv_ediv_of_nonneg (by decide)]

theorem p256_pow (n : Nat) : p256 n = ((2 ^ (8 * n) : Nat) : Int) := by
  induction n with
  | zero => rfl
  | succ n ih => rw [p256, ih, Nat.mul_succ, Nat.pow_add]; simp; omega

/-- The word into which a byte goes, ahead of it. -/
theorem word_at (N : Int) (q : Nat) : (N * p256 (q + 1)) / pw (q / 8) % 18446744073709551616 = N * p256 (q % 8 + 1) % 18446744073709551616 := by
  have e : N * p256 (q + 1) = N * p256 (q % 8 + 1) * pw (q / 8) := by
    rw [← p256_8, Int.mul_assoc, ← p256_add]
    congr 2; omega
  rw [e, Int.mul_ediv_cancel _ (by have := pw_pos (q / 8); omega)]

theorem p256_dvd {m : Nat} (h : m ≤ 8) : ∃ c : Int, (18446744073709551616 : Int) = c * p256 m ∧ 0 < c := by
  refine ⟨p256 (8 - m), ?_, p256_pos _⟩
  rw [← p256_add, Nat.sub_add_cancel h]; rfl

/-- What 'or' lays into a word. -/
theorem or_word {N v : Int} {q : Nat} (hv0 : 0 ≤ v) (hv : v < 256) (hq : q < 8) :
    ∃ c : Nat, N * p256 (q + 1) % 18446744073709551616 = ((c * 2 ^ (8 * (q + 1)) : Nat) : Int) ∧ v * p256 q < p256 (q + 1) ∧ 0 ≤ v * p256 q ∧ N * p256 (q + 1) % 18446744073709551616 + v * p256 q < 18446744073709551616 := by
  obtain ⟨c, hc, hc0⟩ := p256_dvd (m := q + 1) (by omega)
  have hp := p256_pos (q + 1)
  have e : N * p256 (q + 1) % 18446744073709551616 = (N % c) * p256 (q + 1) := by
    rw [hc, Int.mul_comm N, Int.mul_comm c, Int.mul_emod_mul_of_pos _ _ hp, Int.mul_comm]
  have hn0 := Int.emod_nonneg N (show c ≠ 0 by omega)
  have hn1 := Int.emod_lt_of_pos N hc0
  have hvb : v * p256 q < p256 (q + 1) := by
    show _ < 256 * p256 q
    exact Int.mul_lt_mul_of_pos_right hv (p256_pos q)
  have hvn : 0 ≤ v * p256 q := Int.mul_nonneg hv0 (Int.le_of_lt (p256_pos q))
  refine ⟨(N % c).toNat, ?_, hvb, hvn, ?_⟩
  · rw [e, p256_pow]
    rw [Int.natCast_mul, Int.toNat_of_nonneg hn0]
  · rw [e, hc]
    have : (N % c) * p256 (q + 1) + p256 (q + 1) ≤ c * p256 (q + 1) := by
      have := Int.mul_le_mul_of_nonneg_right (show N % c + 1 ≤ c by omega) (Int.le_of_lt hp)
      rw [Int.add_mul, Int.one_mul] at this
      exact this
    omega

/-- Bytes of a number, the highest first. -/
def bytesN (n : Nat) (N : Int) : List Int := (List.range n).map fun i => N / p256 (n - 1 - i) % 256

theorem bytesN_length (n : Nat) (N : Int) : (bytesN n N).length = n := by simp [bytesN]
theorem bytesN_Bs (n : Nat) (N : Int) : Bs (bytesN n N) := by
  intro x hx
  simp [bytesN] at hx
  obtain ⟨i, _, rfl⟩ := hx
  omega

/-- A byte of a word of a number. -/
theorem byte_at {n : Nat} {N : Int} {i : Nat} (hi : i < 8 * n) : ((lim n N).getD (n - 1 - i / 8) 0) / p256 (7 - i % 8) % 256 = N / p256 (8 * n - 1 - i) % 256 := by
  rw [lim_get _ _ _ (by omega)]
  obtain ⟨c, hc, hc0⟩ := p256_dvd (m := 7 - i % 8 + 1) (by omega)
  have e1 : p256 (8 * n - 1 - i) = pw (n - 1 - i / 8) * p256 (7 - i % 8) := by
    rw [← p256_8, ← p256_add]; congr 1; omega
  rw [e1, ← Int.ediv_ediv_of_nonneg (Int.le_of_lt (pw_pos _))]
  generalize N / pw (n - 1 - i / 8) = A
  have hp := p256_pos (7 - i % 8)
  rw [hc, show p256 (7 - i % 8 + 1) = 256 * p256 (7 - i % 8) from rfl]
  generalize p256 (7 - i % 8) = P at *
  have h1 : A % (c * (256 * P)) = A % (P * (256 * c)) := by congr 1; rw [Int.mul_comm c, Int.mul_comm 256 P, Int.mul_assoc]
  rw [h1]
  have h2 : A % (P * (256 * c)) / P = (A / P) % (256 * c) := by
    rw [Int.emod_def, Int.emod_def, Int.mul_assoc, ← Int.sub_mul_ediv_left _ _ (show P ≠ 0 by omega), ← Int.ediv_ediv_of_nonneg (Int.le_of_lt hp)]
  rw [h2, Int.emod_emod_of_dvd _ ⟨c, rfl⟩]

end Cr
/- What the code's loops over bytes and words compute, as the executor spells it. -/
namespace Go.Eng
open Go Cr

theorem wrap_u8 (a : Int) : IntKind.u8.wrap a = a % 256 := by simp [IntKind.wrap, IntKind.signed, IntKind.bits]
theorem wrap_u64' (a : Int) : IntKind.u64.wrap a = a % 18446744073709551616 := by simp [IntKind.wrap, IntKind.signed, IntKind.bits]

def wk (n i : Int) : Int := IntKind.i64.wrap (IntKind.i64.wrap (n - 1) - i)
def wj (n i : Int) : Int := IntKind.i64.wrap ((wk n i).tdiv 8)
def wsh (n i : Int) : Int := IntKind.i64.wrap (8 * (wk n i).tmod 8)
def wput (ws : List Int) (n i v : Int) : List Int :=
  ws.set (wj n i).toNat (bitOp .or .u64 (ws.getD (wj n i).toNat 0) (IntKind.u64.wrap (IntKind.u64.wrap v * 2 ^ (min (wsh n i).toNat IntKind.u64.bits))))

theorem wk_eq {len k : Nat} (h : k < len) (hl : len < 1000000) : wk len k = ((len - 1 - k : Nat) : Int) := by
  unfold wk
  rw [wrap_i64' (a := (len : Int) - 1) (by omega) (by omega), wrap_i64' (by omega) (by omega)]
  omega

theorem wj_eq {len k : Nat} (h : k < len) (hl : len < 1000000) : wj len k = (((len - 1 - k) / 8 : Nat) : Int) := by
  unfold wj
  rw [wk_eq h hl, Int.tdiv_eq_ediv_of_nonneg (by omega), wrap_i64' (by omega) (by omega)]
  omega

theorem wsh_eq {len k : Nat} (h : k < len) (hl : len < 1000000) : wsh len k = ((8 * ((len - 1 - k) % 8) : Nat) : Int) := by
  unfold wsh
  rw [wk_eq h hl, Int.tmod_eq_emod_of_nonneg (by omega), wrap_i64' (by omega) (by omega)]
  omega

theorem or_u64 (c t y : Nat) (h : y < 2 ^ t) (hlt : c * 2 ^ t + y < 18446744073709551616) : bitOp .or .u64 ((c * 2 ^ t : Nat) : Int) (y : Int) = ((c * 2 ^ t + y : Nat) : Int) := by
  show IntKind.u64.wrap ((BitVec.ofInt 64 ((c * 2 ^ t : Nat) : Int) ||| BitVec.ofInt 64 (y : Int) : BitVec 64).toNat : Int) = _
  have h1 : (BitVec.ofInt 64 ((c * 2 ^ t : Nat) : Int)).toNat = c * 2 ^ t := by
    rw [show BitVec.ofInt 64 ((c * 2 ^ t : Nat) : Int) = BitVec.ofNat 64 (c * 2 ^ t) from BitVec.ofInt_natCast .., BitVec.toNat_ofNat, Nat.mod_eq_of_lt (by omega)]
  have h2 : (BitVec.ofInt 64 (y : Int)).toNat = y := by
    rw [show BitVec.ofInt 64 (y : Int) = BitVec.ofNat 64 y from BitVec.ofInt_natCast .., BitVec.toNat_ofNat, Nat.mod_eq_of_lt (by omega)]
  rw [BitVec.toNat_or, h1, h2]
  have h3 := Nat.shiftLeft_add_eq_or_of_lt h c
  rw [Nat.shiftLeft_eq] at h3
  rw [← h3, wrap_u64']
  omega

theorem wput_ok {n : Nat} {bs : List Int} (hb : Bs bs) (hl : bs.length ≤ 8 * n) (hs : bs.length < 1000000) {k : Nat} (hk : k < bs.length) :
    wput (lim n (num (bs.take k) * p256 (bs.length - k))) bs.length k (bs.getD k 0) = lim n (num (bs.take (k + 1)) * p256 (bs.length - (k + 1))) := by
  unfold wput
  rw [wj_eq hk hs, wsh_eq hk hs]
  simp only [Int.toNat_natCast]
  have hv : 0 ≤ bs.getD k 0 ∧ bs.getD k 0 < 256 := by
    have := hb (bs.getD k 0) (by simp [hk])
    exact this
  rw [num_take_succ hk]
  generalize hq : bs.length - 1 - k = q at *
  generalize bs.getD k 0 = v at *
  have hN := (num_bd (Bs_take hb k)).1
  have e1 : bs.length - k = q + 1 := by omega
  have e2 : bs.length - (k + 1) = q := by omega
  rw [e1, e2]
  generalize num (bs.take k) = N at *
  have hj : q / 8 < n := by omega
  rw [lim_get _ _ _ hj, word_at]
  obtain ⟨c, h1, h2, h3, h4⟩ := or_word (N := N) (v := v) (q := q % 8) hv.1 hv.2 (by omega)
  have hsh : IntKind.u64.wrap (IntKind.u64.wrap v * 2 ^ min (8 * (q % 8)) IntKind.u64.bits) = v * p256 (q % 8) := by
    rw [show IntKind.u64.bits = 64 from rfl, Nat.min_eq_left (by omega), wrap_u64' v, Int.emod_eq_of_lt hv.1 (by omega), p256_pow, wrap_u64']
    have e : ((2 ^ (8 * (q % 8)) : Nat) : Int) = (2 : Int) ^ (8 * (q % 8)) := by simp
    rw [← e, ← p256_pow]
    exact Int.emod_eq_of_lt h3 (by have := Int.emod_nonneg (N * p256 (q % 8 + 1)) (show (18446744073709551616 : Int) ≠ 0 by decide); omega)
  rw [hsh]
  have hor : bitOp .or .u64 (N * p256 (q % 8 + 1) % 18446744073709551616) (v * p256 (q % 8)) = N * p256 (q % 8 + 1) % 18446744073709551616 + v * p256 (q % 8) := by
    obtain ⟨y, hy⟩ := Int.eq_ofNat_of_zero_le h3
    rw [h1, hy] at h4 ⊢
    rw [hy, p256_pow] at h2
    have := or_u64 c (8 * (q % 8 + 1)) y (by omega) (by omega)
    rw [this]
    omega
  rw [hor]
  have hset := lim_set n (q / 8) (N * p256 (q + 1)) (v * p256 (q % 8)) hj h3 (by rw [lim_get _ _ _ hj, word_at]; exact h4)
  rw [lim_get _ _ _ hj, word_at] at hset
  rw [hset]
  congr 1
  rw [Int.add_mul, Int.mul_assoc, Int.mul_assoc, ← p256_8, ← p256_add]
  rw [show q % 8 + 8 * (q / 8) = q by omega]
  rfl

theorem wput_bd {n : Nat} {bs : List Int} (hl : bs.length ≤ 8 * n) (hs : bs.length < 1000000) {k : Nat} (hk : k < bs.length) :
    (0 ≤ wj bs.length k ∧ wj bs.length k < (n : Int)) ∧ (wj bs.length k).toNat < n ∧ 0 ≤ wsh bs.length k := by
  rw [wj_eq hk hs, wsh_eq hk hs]
  exact ⟨⟨by omega, by omega⟩, by omega, by omega⟩

theorem words_zero (n : Nat) (bs : List Int) : lim n (num (bs.take 0) * p256 (bs.length - 0)) = List.replicate n 0 := by
  rw [show num (bs.take 0) = 0 from rfl, Int.zero_mul, lim_zero]

def bj (n i : Int) : Int := IntKind.i64.wrap (n - IntKind.i64.wrap (i.tdiv 8))
def bsh (i : Int) : Int := IntKind.i64.wrap (56 - IntKind.i64.wrap (8 * i.tmod 8))
def bget (n : Int) (ws : List Int) (i : Int) : Int := IntKind.u8.wrap (Int.fdiv (ws.getD (bj n i).toNat 0) (2 ^ min (bsh i).toNat IntKind.u64.bits))

theorem bj_eq {n k : Nat} (h : k < 8 * (n + 1)) (hn : n < 1000) : bj n k = ((n - k / 8 : Nat) : Int) := by
  unfold bj
  rw [Int.tdiv_eq_ediv_of_nonneg (by omega), wrap_i64' (a := (k : Int) / 8) (by omega) (by omega), wrap_i64' (by omega) (by omega)]
  omega

theorem bsh_eq {k : Nat} : bsh k = ((8 * (7 - k % 8) : Nat) : Int) := by
  unfold bsh
  rw [Int.tmod_eq_emod_of_nonneg (by omega), wrap_i64' (a := 8 * ((k : Int) % 8)) (by omega) (by omega), wrap_i64' (by omega) (by omega)]
  omega

theorem bget_ok {n k : Nat} {N : Int} (h : k < 8 * (n + 1)) (hn : n < 1000) : bget n (lim (n + 1) N) k = N / p256 (8 * (n + 1) - 1 - k) % 256 := by
  unfold bget
  rw [bj_eq h hn, bsh_eq, wrap_u8]
  simp only [Int.toNat_natCast]
  rw [show IntKind.u64.bits = 64 from rfl, Nat.min_eq_left (by omega)]
  have e : (2 : Int) ^ (8 * (7 - k % 8)) = p256 (7 - k % 8) := by rw [p256_pow]; simp
  rw [e, Int.fdiv_eq_ediv_of_nonneg _ (Int.le_of_lt (p256_pos _))]
  have := byte_at (n := n + 1) (N := N) (i := k) h
  rw [show n + 1 - 1 - k / 8 = n - k / 8 by omega] at this
  exact this

theorem bget_bd {n k : Nat} (h : k < 8 * (n + 1)) (hn : n < 1000) : (0 ≤ bj n k ∧ bj n k < ((n + 1 : Nat) : Int)) ∧ (bj n k).toNat < n + 1 ∧ 0 ≤ bsh k := by
  rw [bj_eq h hn, bsh_eq]
  exact ⟨⟨by omega, by omega⟩, by omega, by omega⟩

/-- Behind k rounds. -/
def bytesAt (m : Nat) (N : Int) (k : Nat) : List Int := (bytesN m N).take k ++ List.replicate (m - k) 0

theorem bytesAt_zero (m : Nat) (N : Int) : bytesAt m N 0 = List.replicate m 0 := by simp [bytesAt]
theorem bytesAt_all (m : Nat) (N : Int) : bytesAt m N m = bytesN m N := by simp [bytesAt, List.take_of_length_le, bytesN_length]

theorem bytesAt_succ {m : Nat} {N : Int} {k : Nat} (h : k < m) : (bytesAt m N k).set k (N / p256 (m - 1 - k) % 256) = bytesAt m N (k + 1) := by
  unfold bytesAt
  have hl : ((bytesN m N).take k).length = k := by simp [bytesN_length]; omega
  rw [List.set_append_right _ _ (by omega), hl, Nat.sub_self]
  rw [show m - k = (m - (k + 1)) + 1 by omega, List.replicate_succ, List.set_cons_zero]
  rw [List.take_succ_eq_append_getElem (by rw [bytesN_length]; exact h)]
  simp [bytesN]

end Go.Eng
/- words, Bytes of both fields. Printed by gen_byt.py. -/
namespace Go.Proofs.YtbeeaekepmnfhaaGreatDoor.fp
set_option maxRecDepth 100000
open Go Go.Eng Go.RowKit Cr Go.Proofs.YtbeeaekepmnfhaaGreatDoor

theorem ent_words : enters Tryz.prog 170 Tryz.f170 := enters_mk (by kernel_rfl) (by kernel_rfl) (by kernel_rfl)
noncomputable def wordsI (bs : List Int) (g : Int × List Int) : St := mkSt Tryz.f170.ntmps 40 [(0, .is (.one (.ro (.int .u8) bs))), (2, .is (.one (.ptr 0 0))), (3, .is (.one (.ptr 8 0))), (7, .is (.one (.ro (.int .u8) bs))), (8, sI .i64 bs.length), (9, sI .i64 g.1)] [(8, [.ints .u64 6 g.2]), (0, [.ints .u64 6 (zeros 6)])]
abbrev preWords : HL [.sl (.int .u8)] → Prop := fun (bs, _) => Bs bs ∧ List.length bs ≤ 48
abbrev outWords : HL [.sl (.int .u8)] → HO [.val (.arr 6 (.int .u64))] := fun (bs, _) => (lim 6 (num bs), ())
theorem fn_words : FnOk Tryz.prog 170 [.sl (.int .u8)] [.val (.arr 6 (.int .u64))] noG preWords outWords := by
  refine fn_of_tr (sp := sps []) ent_words (by decide) (by decide) (by kernel_rfl) ?_
  have hsp : SpecsOk Tryz.prog (sps []) := sps_nil
  rintro w M0 ⟨bs, ⟨⟩⟩ _ ⟨hb, hl⟩
  have hb : Bs bs := hb
  have hl : List.length bs ≤ 48 := hl
  show Tr _ _ _ _ _ _ _
  refine tr_cut hsp mixed 3 (wordsI bs (0, List.replicate 6 0)) True ?_ (fun _ => ?_)
  · refine vcx (X := (wordsI bs (0, List.replicate 6 0)).triv True) (by kernel_rfl) (triv_intro trivial)
  rw [← words_zero 6 bs]
  refine tr_count hsp mixed (wordsI bs) (fun k => ((k : Int), lim 6 (num (List.take k bs) * p256 (List.length bs - k)))) bs.length (fun g => (IntKind.i64.wrap (g.1 + 1), wput g.2 bs.length g.1 (bs.getD g.1.toNat 0))) (wordsI bs) (c := nthC (codeOf Tryz.f170) 3) (by kernel_rfl) (by kernel_rfl) (le_of_proj (by kernel_rfl) (by kernel_rfl) trivial)
    (fun k hk => by
      show (_, _) = (_, _)
      rw [wrap_succ (by omega), Int.toNat_natCast, wput_ok hb hl (by omega) hk]) ?_ ?_
  · intro k hk
    refine vcx (X := ((decide ((k : Int) < (bs.length : Int)) = true → (0 ≤ (k : Int) ∧ (k : Int) < (bs.length : Int)) ∧ (k : Int).toNat < bs.length ∧ (8 : Int) ≠ 0 ∧ (0 ≤ wj bs.length k ∧ wj bs.length k < ((6 : Nat) : Int)) ∧ (wj bs.length k).toNat < 6 ∧ (8 : Int) ≠ 0 ∧ 0 ≤ wsh bs.length k ∧ (0 ≤ wj bs.length k ∧ wj bs.length k < ((6 : Nat) : Int)) ∧ (wj bs.length k).toNat < 6 ∧
        (wordsI bs (IntKind.i64.wrap ((k : Int) + 1), wput (lim 6 (num (List.take k bs) * p256 (List.length bs - k))) bs.length k (bs.getD (k : Int).toNat 0))).triv (k < bs.length)) ∧
      (decide ((k : Int) < (bs.length : Int)) = false → (wordsI bs ((k : Int), lim 6 (num (List.take k bs) * p256 (List.length bs - k)))).triv (k = bs.length)))) (by kernel_rfl) ?_
    refine ⟨fun h => ?_, fun h => triv_intro (by have := dec_ge h; omega)⟩
    have hlt : k < bs.length := by have := dec_lt h; omega
    obtain ⟨b1, b2, b3⟩ := wput_bd (n := 6) hl (by omega) hlt
    exact ⟨⟨by omega, by omega⟩, by omega, by decide, b1, b2, by decide, b3, b1, b2, triv_intro hlt⟩
  refine tr_vc hsp mixed _ _ ?_
  refine vcx (X := ((lim 6 (num (List.take bs.length bs) * p256 (List.length bs - bs.length)), ()) : List Int × Unit) = outWords (bs, ())) (by kernel_rfl) ?_
  rw [List.take_length, Nat.sub_self, p256, Int.mul_one]
noncomputable def spWords : Nat × Eng.Spec := (170, fnSpec [.sl (.int .u8)] [.val (.arr 6 (.int .u64))] preWords outWords)

end Go.Proofs.YtbeeaekepmnfhaaGreatDoor.fp
namespace Go.Proofs.YtbeeaekepmnfhaaGreatDoor.fr
set_option maxRecDepth 100000
open Go Go.Eng Go.RowKit Cr Go.Proofs.YtbeeaekepmnfhaaGreatDoor

theorem ent_bytes : enters Tryz.prog 60 Tryz.f60 := enters_mk (by kernel_rfl) (by kernel_rfl) (by kernel_rfl)
noncomputable def bytesI (ws : List Int) (g : Int × List Int) : St := mkSt Tryz.f60.ntmps 80 [(2, .is (.one (.ptr 8 0))), (3, .is (.one (.ptr 16 0))), (4, .is (.one (.ptr 56 0))), (10, sI .i64 g.1)] [(8, [.ints .u8 32 (zeros 32)]), (16, [.ints .u8 32 g.2]), (56, [.ints .u64 4 ws])]
abbrev outBytes : HL [.fr] → HO [.val (.arr 32 (.int .u8))] := fun (x, _) => (bytesN 32 (Zm.v (x : Fr)), ())
theorem fn_bytes : FnOk Tryz.prog 60 [.fr] [.val (.arr 32 (.int .u8))] noG (fun _ => True) outBytes := by
  have hsp : SpecsOk Tryz.prog (sps [spTimes]) := sps_cons (fnSpec_ok fn_times) sps_nil
  refine fn_of_tr (sp := sps [spTimes]) ent_bytes (by decide) (by decide) (by kernel_rfl) ?_
  rintro w M0 ⟨x, ⟨⟩⟩ _ _
  show Tr _ _ _ _ _ _ _
  refine tr_cut hsp mixed 4 (bytesI (lim 4 (val (enc x) * val [1, 0, 0, 0] * rinv % M)) (0, List.replicate 32 0)) True ?_ (fun _ => ?_)
  · refine vcx (X := preTimes (enc x, [1, 0, 0, 0], ()) ∧ (bytesI (lim 4 (val (enc x) * val [1, 0, 0, 0] * rinv % M)) (0, List.replicate 32 0)).triv True) (by kernel_rfl) ⟨⟨enc_ws x, by intro y hy; simp at hy; rcases hy with rfl | rfl <;> exact ⟨by decide, by decide⟩, (enc_canon x).2.2⟩, triv_intro trivial⟩
  rw [show lim 4 (val (enc x) * val [1, 0, 0, 0] * rinv % M) = lim 4 x.v from plain_enc x (by decide)]
  rw [← bytesAt_zero 32 x.v]
  refine tr_count hsp mixed (bytesI (lim 4 x.v)) (fun k => ((k : Int), bytesAt 32 x.v k)) 32 (fun g => (IntKind.i64.wrap (g.1 + 1), g.2.set g.1.toNat (bget (3 : Nat) (lim 4 x.v) g.1))) (bytesI (lim 4 x.v)) (c := nthC (codeOf Tryz.f60) 4) (by kernel_rfl) (by kernel_rfl) (le_of_proj (by kernel_rfl) (by kernel_rfl) trivial)
    (fun k hk => by
      show (_, _) = (_, _)
      rw [wrap_succ (by omega), Int.toNat_natCast, bget_ok (n := 3) hk (by omega), bytesAt_succ hk]) ?_ ?_
  · intro k hk
    refine vcx (X := ((decide ((k : Int) < 32) = true → (8 : Int) ≠ 0 ∧ (0 ≤ bj (3 : Nat) k ∧ bj (3 : Nat) k < ((4 : Nat) : Int)) ∧ (bj (3 : Nat) k).toNat < 4 ∧ (8 : Int) ≠ 0 ∧ 0 ≤ bsh k ∧ (0 ≤ (k : Int) ∧ (k : Int) < ((32 : Nat) : Int)) ∧ (k : Int).toNat < 32 ∧
        (bytesI (lim 4 x.v) (IntKind.i64.wrap ((k : Int) + 1), (bytesAt 32 x.v k).set (k : Int).toNat (bget (3 : Nat) (lim 4 x.v) k))).triv (k < 32)) ∧
      (decide ((k : Int) < 32) = false → (bytesI (lim 4 x.v) ((k : Int), bytesAt 32 x.v k)).triv (k = 32)))) (by kernel_rfl) ?_
    refine ⟨fun h => ?_, fun h => triv_intro (by have := dec_ge h; omega)⟩
    have hlt : k < 32 := by have := dec_lt h; omega
    obtain ⟨b1, b2, b3⟩ := bget_bd (n := 3) hlt (by omega)
    exact ⟨by decide, b1, b2, by decide, b3, ⟨by omega, by omega⟩, by omega, triv_intro hlt⟩
  refine tr_vc hsp mixed _ _ ?_
  refine vcx (X := ((bytesAt 32 x.v 32, ()) : List Int × Unit) = outBytes (x, ())) (by kernel_rfl) ?_
  rw [bytesAt_all]
noncomputable def spBytes : Nat × Eng.Spec := (60, fnSpec [.fr] [.val (.arr 32 (.int .u8))] (fun _ => True) outBytes)

end Go.Proofs.YtbeeaekepmnfhaaGreatDoor.fr
namespace Go.Proofs.YtbeeaekepmnfhaaGreatDoor.fp
set_option maxRecDepth 100000
open Go Go.Eng Go.RowKit Cr Go.Proofs.YtbeeaekepmnfhaaGreatDoor

theorem ent_read : enters Tryz.prog 120 Tryz.f120 := enters_mk (by kernel_rfl) (by kernel_rfl) (by kernel_rfl)
abbrev preRead : HL [.sl (.int .u8)] → Prop := fun (bs, _) => Bs bs
/-- What Read answers. -/
def rdFp (bs : List Int) : Fp × Int := if bs.length = 48 then (if num bs < Mp then (zm (num bs), 0) else (0, 12)) else (0, 10)
abbrev outRead : HL [.sl (.int .u8)] → HO [.val .fp, .val (.int .i64)] := fun (bs, _) => ((rdFp bs).1, (rdFp bs).2, ())
theorem fn_read : FnOk Tryz.prog 120 [.sl (.int .u8)] [.val .fp, .val (.int .i64)] noG preRead outRead := by
  refine fn_of_vc (sp := sps [spWords, spModulus, spMinus, spShift, spTimes]) (sps_cons (fnSpec_ok fn_words) (sps_cons (fnSpec_ok fn_modulus) (sps_cons (fnSpec_ok fn_minus) (sps_cons (fnSpec_ok fn_shift) (sps_cons (fnSpec_ok fn_times) sps_nil))))) mixed ent_read (by decide) (by decide) ?_
  rintro w M0 ⟨bs, ⟨⟩⟩ _ hb
  have hb : Bs bs := hb
  refine vcx (X := (((((bs.length : Int) != 48) = true → (((0 : Fp), (10 : Int), ()) = outRead (bs, ()))) ∧
    (((bs.length : Int) != 48) = false → preWords (bs, ()) ∧ True ∧ pre2 (lim 6 (num bs), ms, ()) ∧
      ((((if val (lim 6 (num bs)) < val ms then (1 : Int) else 0) == 0) = true → (((0 : Fp), (12 : Int), ()) = outRead (bs, ()))) ∧
       (((if val (lim 6 (num bs)) < val ms then (1 : Int) else 0) == 0) = false → True ∧ preTimes (enc (R2 : Fp), lim 6 (num bs), ()) ∧ Canon Mp (lim 6 (val (enc (R2 : Fp)) * val (lim 6 (num bs)) * rinv % M)) ∧ ((dec (lim 6 (val (enc (R2 : Fp)) * val (lim 6 (num bs)) * rinv % M)), (0 : Int), ()) = outRead (bs, ())))))))) (by kernel_rfl) ?_
  refine ⟨fun h => ?_, fun h => ?_⟩
  · have : ¬ bs.length = 48 := by intro e; rw [e] at h; exact absurd h (by decide)
    simp [outRead, rdFp, this]
  · have hl : bs.length = 48 := by
      have : ¬ ((bs.length : Int) ≠ 48) := by simpa using h
      omega
    have hnb := num_bd hb
    rw [hl] at hnb
    have hp : p256 48 = pw 6 := p256_8 6
    have hv : val (lim 6 (num bs)) = num bs := val_lim_of hnb.1 (by rw [← hp]; exact hnb.2)
    refine ⟨⟨hb, by show List.length bs ≤ 48; omega⟩, trivial, ⟨lim_ws _ _, ws_ms⟩, fun h => ?_, fun h => ⟨trivial, ⟨enc_ws _, lim_ws _ _, (enc_canon _).2.2⟩, ?_⟩⟩
    · rw [hv, val_ms] at h
      have : ¬ num bs < Mp := by intro hh; rw [if_pos hh] at h; exact absurd h (by decide)
      simp [outRead, rdFp, hl, this]
    · rw [hv, val_ms] at h
      have : num bs < Mp := Decidable.byContradiction fun hh => by rw [if_neg hh] at h; exact absurd h (by decide)
      rw [show lim 6 (val (enc (R2 : Fp)) * val (lim 6 (num bs)) * rinv % M) = enc (zm (val (lim 6 (num bs))) : Fp) from shift_enc (M := Mp), hv]
      refine ⟨enc_canon _, ?_⟩
      rw [dec_enc]
      simp [outRead, rdFp, hl, this]
noncomputable def spRead : Nat × Eng.Spec := (120, fnSpec [.sl (.int .u8)] [.val .fp, .val (.int .i64)] preRead outRead)

end Go.Proofs.YtbeeaekepmnfhaaGreatDoor.fp

namespace Go.Proofs.YtbeeaekepmnfhaaGreatDoor.fr
set_option maxRecDepth 100000
open Go Go.Eng Go.RowKit Cr Go.Proofs.YtbeeaekepmnfhaaGreatDoor

end Go.Proofs.YtbeeaekepmnfhaaGreatDoor.fr
