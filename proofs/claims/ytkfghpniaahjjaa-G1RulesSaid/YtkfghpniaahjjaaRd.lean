/- Read, Odd, Large of package fp; Wide of package fr. -/
import Derived.Test.YtkfghpniaahjjaaBts
namespace Go.Proofs.Ytkfghpniaahjjaa.fp
set_option maxRecDepth 100000
open Go Go.Eng Go.RowKit Cr Go.Proofs.Ytkfghpniaahjjaa

theorem ent_read : enters Try.prog 85 Try.f85 := enters_mk (by kernel_rfl) (by kernel_rfl) (by kernel_rfl)
abbrev preRead : HL [.sl (.int .u8)] → Prop := fun (bs, _) => Bs bs
/-- What Read answers. -/
def rdFp (bs : List Int) : Fp × Int := if bs.length = 48 then (if num bs < Mp then (zm (num bs), 0) else (0, 12)) else (0, 10)
abbrev outRead : HL [.sl (.int .u8)] → HO [.val .fp, .val (.int .i64)] := fun (bs, _) => ((rdFp bs).1, (rdFp bs).2, ())
theorem fn_read : FnOk Try.prog 85 [.sl (.int .u8)] [.val .fp, .val (.int .i64)] noG preRead outRead := by
  refine fn_of_vc (sp := sps [spWords, spModulus, spMinus, spShift, spTimes]) (sps_cons (fnSpec_ok fn_words) (sps_cons (fnSpec_ok fn_modulus) (sps_cons (fnSpec_ok fn_minus) (sps_cons (fnSpec_ok fn_shift) (sps_cons (fnSpec_ok fn_times) sps_nil))))) mixed ent_read (by decide) (by decide) ?_
  rintro w M0 ⟨bs, ⟨⟩⟩ _ hb
  have hb : Bs bs := hb
  refine vcx (X := (((((bs.length : Int) != 48) = true → (((0 : Fp), (10 : Int), ()) = outRead (bs, ()))) ∧
    (((bs.length : Int) != 48) = false → preWords (bs, ()) ∧ True ∧ pre2 (lim 6 (num bs), ms, ()) ∧
      ((((if val (lim 6 (num bs)) < val ms then (1 : Int) else 0) == 0) = true → (((0 : Fp), (12 : Int), ()) = outRead (bs, ()))) ∧
       (((if val (lim 6 (num bs)) < val ms then (1 : Int) else 0) == 0) = false → True ∧ preTimes (enc (R2 : Fp), lim 6 (num bs), ()) ∧ Canon Mp (lim 6 (val (enc (R2 : Fp)) * val (lim 6 (num bs)) * rinv % M)) ∧ ((dec (lim 6 (val (enc (R2 : Fp)) * val (lim 6 (num bs)) * rinv % M)), (0 : Int), ()) = outRead (bs, ())))))))) (by kernel_rfl) ?_
  refine ⟨fun h => ?_, fun h => ?_⟩
  · have : ¬ bs.length = 48 := by intro e; rw [e] at h; exact absurd h (by decide)
    simp [outRead, rdFp, this]
  · have hl : bs.length = 48 := by
      have : ¬ ((bs.length : Int) ≠ 48) := by simpa using h
      omega
    have hnb := num_bd hb
    rw [hl] at hnb
    have hp : p256 48 = pw 6 := p256_8 6
    have hv : val (lim 6 (num bs)) = num bs := val_lim_of hnb.1 (by rw [← hp]; exact hnb.2)
    refine ⟨⟨hb, by show List.length bs ≤ 48; omega⟩, trivial, ⟨lim_ws _ _, ws_ms⟩, fun h => ?_, fun h => ⟨trivial, ⟨enc_ws _, lim_ws _ _, (enc_canon _).2.2⟩, ?_⟩⟩
    · rw [hv, val_ms] at h
      have : ¬ num bs < Mp := by intro hh; rw [if_pos hh] at h; exact absurd h (by decide)
      simp [outRead, rdFp, hl, this]
    · rw [hv, val_ms] at h
      have : num bs < Mp := Decidable.byContradiction fun hh => by rw [if_neg hh] at h; exact absurd h (by decide)
      rw [show lim 6 (val (enc (R2 : Fp)) * val (lim 6 (num bs)) * rinv % M) = enc (zm (val (lim 6 (num bs))) : Fp) from shift_enc (M := Mp), hv]
      refine ⟨enc_canon _, ?_⟩
      rw [dec_enc]
      simp [outRead, rdFp, hl, this]
noncomputable def spRead : Nat × Eng.Spec := (85, fnSpec [.sl (.int .u8)] [.val .fp, .val (.int .i64)] preRead outRead)

theorem ent_odd : enters Try.prog 48 Try.f48 := enters_mk (by kernel_rfl) (by kernel_rfl) (by kernel_rfl)
abbrev outOdd : HL [.fp] → HO [.val .bool] := fun (x, _) => (decide (Zm.v (x : Fp) % 2 = 1), ())
theorem and_one {a : Int} (h0 : 0 ≤ a) (h1 : a < 18446744073709551616) : bitOp .and .u64 a 1 = a % 2 := by
  obtain ⟨n, rfl⟩ := Int.eq_ofNat_of_zero_le h0
  have := and_u64 n 1 (by omega) (by omega)
  rw [show ((1 : Nat) : Int) = 1 from rfl] at this
  rw [this, Nat.and_one_is_mod]
  omega
theorem fn_odd : FnOk Try.prog 48 [.fp] [.val .bool] noG (fun _ => True) outOdd := by
  refine fn_of_vc (sp := sps [spPlain]) (sps_cons (fnSpec_ok fn_plain) sps_nil) mixed ent_odd (by decide) (by decide) ?_
  rintro w M0 ⟨x, ⟨⟩⟩ _ _
  refine vcx (X := (True ∧ ((bitOp .and .u64 ((lim 6 x.v).getD 0 0) 1 == 1, ()) : Bool × Unit) = outOdd (x, ()))) (by kernel_rfl) ⟨trivial, ?_⟩
  rw [show (lim 6 x.v).getD 0 0 = x.v % 18446744073709551616 from rfl, and_one (by omega) (by omega)]
  have e : x.v % 18446744073709551616 % 2 = x.v % 2 := by omega
  rw [e]
  simp only [outOdd, Prod.mk.injEq, and_true]
  rw [Bool.eq_iff_iff, beq_iff_eq, decide_eq_true_iff]
noncomputable def spOdd : Nat × Eng.Spec := (48, fnSpec [.fp] [.val .bool] (fun _ => True) outOdd)

theorem val_lim_v (x : Fp) : val (lim 6 x.v) = x.v := val_lim_of x.nn (by have := x.lt; have : Mp < pw 6 := (by decide); omega)

theorem ent_large : enters Try.prog 106 Try.f106 := enters_mk (by kernel_rfl) (by kernel_rfl) (by kernel_rfl)
abbrev outLarge : HL [.fp] → HO [.val .bool] := fun (x, _) => (decide (Zm.v (-(x : Fp)) < Zm.v (x : Fp)), ())
theorem fn_large : FnOk Try.prog 106 [.fp] [.val .bool] noG (fun _ => True) outLarge := by
  refine fn_of_vc (sp := sps [spPlain, spNeg, spMinus]) (sps_cons (fnSpec_ok fn_plain) (sps_cons (fnSpec_ok fn_neg) (sps_cons (fnSpec_ok fn_minus) sps_nil))) mixed ent_large (by decide) (by decide) ?_
  rintro w M0 ⟨x, ⟨⟩⟩ _ _
  refine vcx (X := (True ∧ True ∧ True ∧ pre2 (lim 6 (-x).v, lim 6 x.v, ()) ∧ (((if val (lim 6 (-x).v) < val (lim 6 x.v) then (1 : Int) else 0) == 1, ()) : Bool × Unit) = outLarge (x, ()))) (by kernel_rfl) ⟨trivial, trivial, trivial, ⟨lim_ws _ _, lim_ws _ _⟩, ?_⟩
  rw [val_lim_v, val_lim_v]
  simp only [outLarge, Prod.mk.injEq, and_true]
  by_cases h : (-x).v < x.v
  · simp [h]
  · simp [h]
noncomputable def spLarge : Nat × Eng.Spec := (106, fnSpec [.fp] [.val .bool] (fun _ => True) outLarge)
end Go.Proofs.Ytkfghpniaahjjaa.fp

namespace Go.Proofs.Ytkfghpniaahjjaa.fr
set_option maxRecDepth 100000
open Go Go.Eng Go.RowKit Cr Go.Proofs.Ytkfghpniaahjjaa

theorem ent_wide : enters Try.prog 50 Try.f50 := enters_mk (by kernel_rfl) (by kernel_rfl) (by kernel_rfl)
noncomputable def wideI (g : List Int × Fr) : St := mkSt Try.f50.ntmps 40 [(0, .is (.one (.ro (.int .u8) g.1))), (2, .is (.one (.ptr 0 0))), (3, .is (.one (.ptr 8 0))), (4, .is (.one (.ptr 24 0)))] [(0, [.row .fr 1 [(0 : Fr)]]), (8, [.row .fr 1 [g.2]]), (24, [.row .fr 1 [(R2 : Fr)]])]
def wn (len : Int) : Int := IntKind.i64.wrap ((IntKind.i64.wrap (len - 1)).tmod 32 + 1)
def wch (bs : List Int) : List Int := List.take (wn bs.length - 0).toNat (List.drop (Int.toNat 0) bs)
def wideN (g : List Int × Fr) : List Int × Fr := (List.take ((g.1.length : Int) - wn g.1.length).toNat (List.drop (wn g.1.length).toNat g.1), g.2 * R2 + dec (lim 4 (val (enc (R2 : Fr)) * val (lim 4 (num (wch g.1))) * rinv % M)))
/-- How many bytes are taken behind k of m rounds. -/
def wp (len k : Nat) : Nat := len - 32 * ((len + 31) / 32 - k)
def wideG (bs : List Int) (k : Nat) : List Int × Fr := (bs.drop (wp bs.length k), zm (num (bs.take (wp bs.length k))))

theorem wn_eq {L : Nat} (h0 : 0 < L) (h1 : L < 4611686018427387904) : wn L = (((L - 1) % 32 + 1 : Nat) : Int) := by
  unfold wn
  rw [wrap_i64' (a := (L : Int) - 1) (by omega) (by omega), Int.tmod_eq_emod_of_nonneg (by omega), wrap_i64' (by omega) (by omega)]
  omega

theorem wide_next {bs : List Int} (hb : Bs bs) (hl : bs.length < 4611686018427387904) {k : Nat} (hk : k < (bs.length + 31) / 32) :
    0 < bs.length - wp bs.length k ∧ wideN (wideG bs k) = wideG bs (k + 1) ∧ (wch (bs.drop (wp bs.length k))).length ≤ 32 ∧ 1 ≤ (bs.length - wp bs.length k - 1) % 32 + 1 ∧ (bs.length - wp bs.length k - 1) % 32 + 1 ≤ bs.length - wp bs.length k := by
  have hL : 0 < bs.length - wp bs.length k := by unfold wp; omega
  have hn : (bs.length - wp bs.length k - 1) % 32 + 1 = wp bs.length (k + 1) - wp bs.length k := by unfold wp; omega
  have hle : wp bs.length (k + 1) ≤ bs.length := by unfold wp; omega
  have hlt : wp bs.length k < wp bs.length (k + 1) := by unfold wp; omega
  have hlen : (bs.drop (wp bs.length k)).length = bs.length - wp bs.length k := List.length_drop
  have hwn : wn (bs.drop (wp bs.length k)).length = ((wp bs.length (k + 1) - wp bs.length k : Nat) : Int) := by
    rw [wn_eq (by omega) (by omega), hlen, hn]
  have hch : wch (bs.drop (wp bs.length k)) = (bs.drop (wp bs.length k)).take (wp bs.length (k + 1) - wp bs.length k) := by
    unfold wch
    rw [hwn]
    congr 1
  refine ⟨hL, ?_, ?_, by omega, by omega⟩
  · unfold wideN wideG
    simp only
    rw [hwn, hch]
    have e1 : List.take (((bs.drop (wp bs.length k)).length : Int) - ((wp bs.length (k + 1) - wp bs.length k : Nat) : Int)).toNat (List.drop ((wp bs.length (k + 1) - wp bs.length k : Nat) : Int).toNat (bs.drop (wp bs.length k))) = bs.drop (wp bs.length (k + 1)) := by
      rw [Int.toNat_natCast, List.drop_drop, show wp bs.length k + (wp bs.length (k + 1) - wp bs.length k) = wp bs.length (k + 1) by omega]
      exact List.take_of_length_le (by simp; omega)
    rw [e1]
    congr 1
    have hcb : Bs ((bs.drop (wp bs.length k)).take (wp bs.length (k + 1) - wp bs.length k)) := Bs_take (Bs_drop hb _) _
    have hcl : ((bs.drop (wp bs.length k)).take (wp bs.length (k + 1) - wp bs.length k)).length = wp bs.length (k + 1) - wp bs.length k := by simp; omega
    have hc32 : wp bs.length (k + 1) - wp bs.length k ≤ 32 := by omega
    have hnb := num_bd hcb
    rw [hcl] at hnb
    have hpl : p256 (wp bs.length (k + 1) - wp bs.length k) ≤ pw 4 := by
      rw [← p256_8, show 8 * 4 = (wp bs.length (k + 1) - wp bs.length k) + (32 - (wp bs.length (k + 1) - wp bs.length k)) by omega, p256_add]
      have h1 := p256_pos (wp bs.length (k + 1) - wp bs.length k)
      have h2 := p256_pos (32 - (wp bs.length (k + 1) - wp bs.length k))
      have := Int.mul_le_mul_of_nonneg_left (show 1 ≤ p256 (32 - (wp bs.length (k + 1) - wp bs.length k)) by omega) (Int.le_of_lt h1)
      omega
    rw [show lim 4 (val (enc (R2 : Fr)) * val (lim 4 (num ((bs.drop (wp bs.length k)).take (wp bs.length (k + 1) - wp bs.length k)))) * rinv % M) = enc (zm (val (lim 4 (num ((bs.drop (wp bs.length k)).take (wp bs.length (k + 1) - wp bs.length k))))) : Fr) from shift_enc (M := Mr), val_lim_of hnb.1 (by omega), dec_enc]
    show zm _ * zm (pw 4) + zm _ = zm _
    rw [zm_mul, zm_add]
    congr 1
    have hsplit : bs.take (wp bs.length (k + 1)) = bs.take (wp bs.length k) ++ (bs.drop (wp bs.length k)).take (wp bs.length (k + 1) - wp bs.length k) := by
      rw [← List.take_add, show wp bs.length k + (wp bs.length (k + 1) - wp bs.length k) = wp bs.length (k + 1) by omega]
    rw [hsplit, num_append, hcl]
    by_cases h0 : wp bs.length k = 0
    · rw [h0]; simp [num]
    · rw [show wp bs.length (k + 1) - wp bs.length k = 32 by unfold wp at h0 ⊢; omega, ← p256_8]
  · rw [hch]; simp; omega

abbrev preWide : HL [.sl (.int .u8)] → Prop := fun (bs, _) => Bs bs ∧ List.length bs < 4611686018427387904
abbrev outWide : HL [.sl (.int .u8)] → HO [.val .fr] := fun (bs, _) => ((zm (num bs) : Fr), ())
theorem fn_wide : FnOk Try.prog 50 [.sl (.int .u8)] [.val .fr] noG preWide outWide := by
  have hsp : SpecsOk Try.prog (sps [spWords, spMul, spAdd, spShift, spTimes]) := sps_cons (fnSpec_ok fn_words) (sps_cons (fnSpec_ok fn_mul) (sps_cons (fnSpec_ok fn_add) (sps_cons (fnSpec_ok fn_shift) (sps_cons (fnSpec_ok fn_times) sps_nil))))
  refine fn_of_tr (sp := sps [spWords, spMul, spAdd, spShift, spTimes]) ent_wide (by decide) (by decide) (by kernel_rfl) ?_
  rintro w M0 ⟨bs, ⟨⟩⟩ _ ⟨hb, hl⟩
  have hb : Bs bs := hb
  have hl : bs.length < 4611686018427387904 := hl
  show Tr _ _ _ _ _ _ _
  refine tr_cut hsp mixed 3 (wideI (bs, 0)) True ?_ (fun _ => ?_)
  · refine vcx (X := True ∧ (wideI (bs, 0)).triv True) (by kernel_rfl) ⟨trivial, triv_intro trivial⟩
  have e0 : (bs, (0 : Fr)) = wideG bs 0 := by
    unfold wideG
    rw [show wp bs.length 0 = 0 by unfold wp; omega]
    rfl
  rw [e0]
  refine tr_count hsp mixed wideI (wideG bs) ((bs.length + 31) / 32) wideN wideI (c := nthC (codeOf Try.f50) 3) (by kernel_rfl) (by kernel_rfl) (le_of_proj (by kernel_rfl) (by kernel_rfl) trivial)
    (fun k hk => (wide_next hb hl hk).2.1) ?_ ?_
  · intro k hk
    have hlen : (wideG bs k).1.length = bs.length - wp bs.length k := by unfold wideG; simp
    have hbs : Bs (wideG bs k).1 := Bs_drop hb _
    have hnx : k < (bs.length + 31) / 32 → (wch (wideG bs k).1).length ≤ 32 := fun h => (wide_next hb hl h).2.2.1
    have hb1 : k < (bs.length + 31) / 32 → 1 ≤ ((wideG bs k).1.length - 1) % 32 + 1 ∧ ((wideG bs k).1.length - 1) % 32 + 1 ≤ (wideG bs k).1.length := fun h => by rw [hlen]; exact (wide_next hb hl h).2.2.2
    have hiff : k < (bs.length + 31) / 32 ↔ 0 < (wideG bs k).1.length := by rw [hlen]; unfold wp; omega
    have hll : (wideG bs k).1.length < 4611686018427387904 := by omega
    clear hlen
    generalize wideG bs k = g at *
    obtain ⟨cs, x⟩ := g
    simp only at hbs hnx hb1 hiff hll
    refine vcx (X := ((decide ((cs.length : Int) > 0) = true → (32 : Int) ≠ 0 ∧ True ∧ (0 ≤ wn cs.length ∧ wn cs.length ≤ (cs.length : Int)) ∧ preWords (wch cs, ()) ∧ preTimes (enc (R2 : Fr), lim 4 (num (wch cs)), ()) ∧ Canon Mr (lim 4 (val (enc (R2 : Fr)) * val (lim 4 (num (wch cs))) * rinv % M)) ∧ True ∧ (0 ≤ wn cs.length ∧ wn cs.length ≤ (cs.length : Int)) ∧ (wideI (wideN (cs, x))).triv (k < (bs.length + 31) / 32)) ∧
      (decide ((cs.length : Int) > 0) = false → (wideI (cs, x)).triv (k = (bs.length + 31) / 32)))) (by kernel_rfl) ?_
    refine ⟨fun h => ?_, fun h => triv_intro ?_⟩
    · have h0 : 0 < cs.length := by have := of_decide_eq_true h; omega
      have hk' := hiff.2 h0
      have h1 := hb1 hk'
      have hw := wn_eq h0 hll
      have hch : Bs (wch cs) := by unfold wch; exact Bs_take (Bs_drop hbs _) _
      refine ⟨by decide, trivial, by rw [hw]; omega, ⟨hch, hnx hk'⟩, ⟨enc_ws _, lim_ws _ _, (enc_canon _).2.2⟩, ?_, trivial, by rw [hw]; omega, triv_intro hk'⟩
      rw [show lim 4 (val (enc (R2 : Fr)) * val (lim 4 (num (wch cs))) * rinv % M) = enc (zm (val (lim 4 (num (wch cs)))) : Fr) from shift_enc (M := Mr)]
      exact enc_canon _
    · have := of_decide_eq_false h
      omega
  refine tr_vc hsp mixed _ _ ?_
  refine vcx (X := ((wideG bs ((bs.length + 31) / 32)).2, ()) = outWide (bs, ())) (by kernel_rfl) ?_
  unfold wideG
  rw [show wp bs.length ((bs.length + 31) / 32) = bs.length by unfold wp; omega, List.take_length]
noncomputable def spWide : Nat × Eng.Spec := (50, fnSpec [.sl (.int .u8)] [.val .fr] preWide outWide)
end Go.Proofs.Ytkfghpniaahjjaa.fr
