/- deal: Check, Least, Write; the law's rising. -/
import Derived.Test.YtkfghpniaahjjaaDealA
namespace Go.Proofs.Ytkfghpniaahjjaa.deal
set_option maxRecDepth 100000
open Go Go.Eng Go.RowKit Cr Go.Proofs.Ytkfghpniaahjjaa

/-- Is a setup right? 0: yes. -/
def chk (d t : List Int) (n : Int) (o : List (Fp × Fp)) : Int :=
  if ((d.length : Int) == 0) = true then 1 else if (!risF 0 d) = true then 1 else if ((t.length : Int) == 0) = true then 1 else if (!risF 0 t) = true then 1
  else if decide (n < 1) = true then 1 else if decide (n > (t.length : Int)) = true then 1 else if decide ((o.length : Int) > (d.length : Int)) = true then 1
  else if ((o.length : Int) == 0) = true then (if (!decide (d = t)) = true then 1 else 0) else 0
theorem ent_check : enters Try.prog 14 Try.f14 := enters_mk (by kernel_rfl) (by kernel_rfl) (by kernel_rfl)
abbrev preSet : HL [setK] → Prop := fun ((d, t, _, _), _) => List.length d < 4611686018427387904 ∧ List.length t < 4611686018427387904
abbrev outCheck : HL [setK] → HO [.val (.int .i64)] := fun ((d, t, n, o), _) => (chk d t n o, ())
theorem fn_check : FnOk Try.prog 14 [setK] [.val (.int .i64)] noG preSet outCheck := by
  refine fn_of_vc (sp := sps [spRising, spEqual, spFresh]) (sps_cons (fnSpec_ok fn_rising) (sps_cons (fnSpec_ok fn_equal) (sps_cons (fnSpec_ok fn_fresh) sps_nil))) mixed ent_check (by decide) (by decide) ?_
  rintro w M0 ⟨⟨d, t, n, o⟩, ⟨⟩⟩ _ ⟨h1, h2⟩
  have h1 : List.length d < 4611686018427387904 := h1
  have h2 : List.length t < 4611686018427387904 := h2
  let d : List Int := d
  let t : List Int := t
  let n : Int := n
  let o : List (Fp × Fp) := o
  refine vcx (X := ((((d.length : Int) == 0) = true → ((1 : Int), ()) = outCheck ((d, t, n, o), ())) ∧
    (((d.length : Int) == 0) = false → preLen (d, ()) ∧ ((!risF 0 d) = true → ((1 : Int), ()) = outCheck ((d, t, n, o), ())) ∧
      ((!risF 0 d) = false → (((t.length : Int) == 0) = true → ((1 : Int), ()) = outCheck ((d, t, n, o), ())) ∧
        (((t.length : Int) == 0) = false → preLen (t, ()) ∧ ((!risF 0 t) = true → ((1 : Int), ()) = outCheck ((d, t, n, o), ())) ∧
          ((!risF 0 t) = false → (decide (n < 1) = true → ((1 : Int), ()) = outCheck ((d, t, n, o), ())) ∧
            (decide (n < 1) = false → (decide (n > (t.length : Int)) = true → ((1 : Int), ()) = outCheck ((d, t, n, o), ())) ∧
              (decide (n > (t.length : Int)) = false → (decide ((o.length : Int) > (d.length : Int)) = true → ((1 : Int), ()) = outCheck ((d, t, n, o), ())) ∧
                (decide ((o.length : Int) > (d.length : Int)) = false → True ∧ (((o.length : Int) == 0) = true → preEqual (d, t, ()) ∧ ((!decide (d = t)) = true → ((1 : Int), ()) = outCheck ((d, t, n, o), ())) ∧ ((!decide (d = t)) = false → ((0 : Int), ()) = outCheck ((d, t, n, o), ()))) ∧
                  (((o.length : Int) == 0) = false → ((0 : Int), ()) = outCheck ((d, t, n, o), ()))))))))))) (by kernel_rfl) ?_
  refine ⟨fun a1 => ?_, fun a1 => ⟨h1, fun a2 => ?_, fun a2 => ⟨fun a3 => ?_, fun a3 => ⟨h2, fun a4 => ?_, fun a4 => ⟨fun a5 => ?_, fun a5 => ⟨fun a6 => ?_, fun a6 => ⟨fun a7 => ?_, fun a7 => ⟨trivial, fun a8 => ⟨h1, fun a9 => ?_, fun a9 => ?_⟩, fun a8 => ?_⟩⟩⟩⟩⟩⟩⟩⟩
  all_goals (simp_all [outCheck, chk])
  all_goals (rw [if_neg (by omega), if_neg (by omega), if_neg (by omega)])
noncomputable def spCheck : Nat × Eng.Spec := (14, fnSpec [setK] [.val (.int .i64)] preSet outCheck)

theorem ent_least : enters Try.prog 15 Try.f15 := enters_mk (by kernel_rfl) (by kernel_rfl) (by kernel_rfl)
def lst (d : List Int) (o : List (Fp × Fp)) : Int := if (!((o.length : Int) == 0)) = true then o.length else IntKind.i64.wrap ((d.length : Int) - IntKind.i64.wrap ((IntKind.i64.wrap ((d.length : Int) - 1)).tdiv 3))
abbrev outLeast : HL [setK] → HO [.val (.int .i64)] := fun ((d, _, _, o), _) => (lst d o, ())
theorem fn_least : FnOk Try.prog 15 [setK] [.val (.int .i64)] noG (fun _ => True) outLeast := by
  refine fn_of_vc (sp := sps [spFresh]) (sps_cons (fnSpec_ok fn_fresh) sps_nil) mixed ent_least (by decide) (by decide) ?_
  rintro w M0 ⟨⟨d, t, n, o⟩, ⟨⟩⟩ _ _
  let d : List Int := d
  let o : List (Fp × Fp) := o
  refine vcx (X := (True ∧ ((!((o.length : Int) == 0)) = true → ((o.length : Int), ()) = outLeast ((d, t, n, o), ())) ∧
    ((!((o.length : Int) == 0)) = false → (3 : Int) ≠ 0 ∧ (IntKind.i64.wrap ((d.length : Int) - IntKind.i64.wrap ((IntKind.i64.wrap ((d.length : Int) - 1)).tdiv 3)), ()) = outLeast ((d, t, n, o), ())))) (by kernel_rfl) ?_
  refine ⟨trivial, fun h => ?_, fun h => ⟨by decide, ?_⟩⟩
  · simp only [outLeast, lst, h, if_true]
  · simp only [outLeast, lst, h]; rfl
noncomputable def spLeast : Nat × Eng.Spec := (15, fnSpec [setK] [.val (.int .i64)] (fun _ => True) outLeast)

theorem ent_write : enters Try.prog 44 Try.f44 := enters_mk (by kernel_rfl) (by kernel_rfl) (by kernel_rfl)
noncomputable def wrI (ps : List (Fp × Fp)) (g : Int × Nat × Nat × List Int) : St := mkSt Try.f44.ntmps 72 [(11, .is (.one (.ro pt1 ps))), (12, sI .i64 ps.length), (3, .is (.one (.sl 32 0 0 g.2.1 1))), (13, sI .i64 g.1)] [(32, [.ints .u8 g.2.2.1 g.2.2.2])]
def wrF (ps : List (Fp × Fp)) : List Int := (ps.map codec.g1b).flatten
def wrG (ps : List (Fp × Fp)) : Nat → Int × Nat × Nat × List Int
  | 0 => (0, 0, (IntKind.i64.wrap ((ps.length : Int) * 48)).toNat, List.replicate (IntKind.i64.wrap ((ps.length : Int) * 48)).toNat 0)
  | k + 1 => (((k + 1 : Nat) : Int), 48 * (k + 1), 48 * (k + 1), wrF (ps.take (k + 1)))
def wrN (ps : List (Fp × Fp)) (g : Int × Nat × Nat × List Int) : Int × Nat × Nat × List Int := (IntKind.i64.wrap (g.1 + 1), g.2.1 + 48, g.2.1 + 48, g.2.2.2.take g.2.1 ++ (codec.g1b (ps.getD g.1.toNat (0, 0))).take 48)
theorem g1b_len (p : Fp × Fp) : (codec.g1b p).length = 48 := by simp [codec.g1b, bytesN_length]
theorem wrF_len (ps : List (Fp × Fp)) : (wrF ps).length = 48 * ps.length := by
  unfold wrF
  induction ps with
  | nil => rfl
  | cons p ps ih => simp only [List.map_cons, List.flatten_cons, List.length_append, ih, g1b_len, List.length_cons]; omega
theorem wrF_snoc {ps : List (Fp × Fp)} {k : Nat} (h : k < ps.length) : wrF (ps.take (k + 1)) = wrF (ps.take k) ++ codec.g1b (ps.getD k (0, 0)) := by
  unfold wrF
  rw [List.take_succ_eq_append_getElem h, List.map_append, List.flatten_append]
  simp [h]
theorem wrG_fst (ps : List (Fp × Fp)) (k : Nat) : (wrG ps k).1 = (k : Int) ∧ (wrG ps k).2.1 = 48 * k ∧ (wrG ps k).2.1 ≤ (wrG ps k).2.2.1 := by
  cases k with
  | zero => exact ⟨rfl, rfl, Nat.zero_le _⟩
  | succ k => exact ⟨rfl, rfl, Nat.le_refl _⟩
theorem wr_next {ps : List (Fp × Fp)} (hl : ps.length ≤ 1000000) {k : Nat} (h : k < ps.length) : wrN ps (wrG ps k) = wrG ps (k + 1) := by
  have hb := List.take_of_length_le (l := codec.g1b (ps.getD k (0, 0))) (i := 48) (by rw [g1b_len]; exact Nat.le_refl _)
  cases k with
  | zero =>
    show (IntKind.i64.wrap (0 + 1), 0 + 48, 0 + 48, List.take 0 _ ++ List.take 48 (codec.g1b (ps.getD 0 (0, 0)))) = (((0 + 1 : Nat) : Int), 48 * (0 + 1), 48 * (0 + 1), wrF (ps.take (0 + 1)))
    rw [hb, wrF_snoc h, show IntKind.i64.wrap (0 + 1) = ((0 + 1 : Nat) : Int) from by decide]
    rfl
  | succ k =>
    show (IntKind.i64.wrap (((k + 1 : Nat) : Int) + 1), 48 * (k + 1) + 48, 48 * (k + 1) + 48, List.take (48 * (k + 1)) (wrF (ps.take (k + 1))) ++ List.take 48 (codec.g1b (ps.getD (((k + 1 : Nat) : Int)).toNat (0, 0)))) = (((k + 1 + 1 : Nat) : Int), 48 * (k + 1 + 1), 48 * (k + 1 + 1), wrF (ps.take (k + 1 + 1)))
    rw [wrap_succ (by omega), Int.toNat_natCast, hb, wrF_snoc h, List.take_of_length_le (by rw [wrF_len]; simp; omega)]
    rfl
abbrev preWrite : HL [.sl pt1] → Prop := fun (ps, _) => List.length ps ≤ 1000000
abbrev outWrite : HL [.sl pt1] → HO [.own (.int .u8)] := fun (ps, _) => (wrF ps, ())
theorem fn_write : FnOk Try.prog 44 [.sl pt1] [.own (.int .u8)] noG preWrite outWrite := by
  have hsp : SpecsOk Try.prog (sps [codec.spG1]) := sps_cons (fnSpec_ok codec.fn_g1) sps_nil
  refine fn_of_tr (sp := sps [codec.spG1]) ent_write (by decide) (by decide) (by kernel_rfl) ?_
  rintro w M0 ⟨ps, ⟨⟩⟩ _ hl
  have hl : List.length ps ≤ 1000000 := hl
  have hwr : IntKind.i64.wrap ((List.length ps : Int) * 48) = (List.length ps : Int) * 48 := wrap_i64' (by omega) (by omega)
  show Tr _ _ _ _ _ _ _
  refine tr_cut hsp mixed 3 (wrI ps (wrG ps 0)) True ?_ (fun _ => ?_)
  · refine vcx (X := (((0 : Int) ≤ 0 ∧ (0 : Int) ≤ IntKind.i64.wrap ((List.length ps : Int) * 48) ∧ ((1 : Nat) : Int) * IntKind.i64.wrap ((List.length ps : Int) * 48) ≤ 281474976710656 ∧ IntKind.i64.wrap ((List.length ps : Int) * 48) ≤ 9223372036854775807) ∧ (wrI ps (wrG ps 0)).triv True)) (by kernel_rfl) ?_
    rw [hwr]
    exact ⟨⟨by omega, by omega, by omega, by omega⟩, triv_intro trivial⟩
  refine tr_countS hsp mixed [(160, 32)] (wrI ps) (wrG ps) (List.length ps) (wrN ps) (wrI ps) (c := nthC (codeOf Try.f44) 3) (by kernel_rfl) (by kernel_rfl) (le_of_proj (by kernel_rfl) (by kernel_rfl) trivial) (fun k hk => wr_next hl hk) ?_ ?_
  · intro k hk
    obtain ⟨e1, e2, e3⟩ := wrG_fst ps k
    generalize wrG ps k = g at *
    obtain ⟨i, len, n, os⟩ := g
    simp only at e1 e2 e3
    subst e1
    refine vcx (X := ((decide ((k : Int) < (List.length ps : Int)) = true → (0 ≤ (k : Int) ∧ (k : Int) < (List.length ps : Int)) ∧ (k : Int).toNat < List.length ps ∧ True ∧ (0 + 48 : Nat) ≤ 48 ∧ len ≤ n ∧ (len + 48) * 1 ≤ 140737488355328 ∧ len + 48 ≤ 4611686018427387904 ∧ (wrI ps (wrN ps ((k : Int), len, n, os))).triv (k < List.length ps)) ∧
      (decide ((k : Int) < (List.length ps : Int)) = false → (wrI ps ((k : Int), len, n, os)).triv (k = List.length ps)))) (by kernel_rfl) ?_
    refine ⟨fun h => ?_, fun h => triv_intro (by have := dec_ge h; omega)⟩
    have hlt : k < List.length ps := by have := dec_lt h; omega
    exact ⟨⟨by omega, by omega⟩, by omega, trivial, by omega, e3, by omega, by omega, triv_intro hlt⟩
  have e := wrG_fst ps (List.length ps)
  have hfin : (wrG ps (List.length ps)).2.2.2.take (wrG ps (List.length ps)).2.1 = wrF ps := by
    cases hp : List.length ps with
    | zero => have : ps = [] := List.eq_nil_of_length_eq_zero hp; subst this; rfl
    | succ k =>
      show List.take (48 * (k + 1)) (wrF (ps.take (k + 1))) = _
      rw [← hp, List.take_length, List.take_of_length_le (by rw [wrF_len]; exact Nat.le_refl _)]
  generalize wrG ps (List.length ps) = g at *
  obtain ⟨i, len, n, os⟩ := g
  simp only at e hfin
  refine tr_vc hsp mixed _ _ ?_
  refine vcx (X := (0 + len ≤ n ∧ ((os.take len, ()) : List Int × Unit) = outWrite (ps, ()))) (by kernel_rfl) ⟨by omega, ?_⟩
  rw [hfin]
noncomputable def spWrite : Nat × Eng.Spec := (44, fnSpec [.sl pt1] [.own (.int .u8)] preWrite outWrite)
end Go.Proofs.Ytkfghpniaahjjaa.deal

namespace Go.Proofs.Ytkfghpniaahjjaa.law22
set_option maxRecDepth 100000
open Go Go.Eng Go.RowKit Cr Go.Proofs.Ytkfghpniaahjjaa Go.Proofs.Ytkfghpniaahjjaa.deal

theorem ent_rising : enters Try.prog 13 Try.f13 := enters_mk (by kernel_rfl) (by kernel_rfl) (by kernel_rfl)
noncomputable def risI (xs : List Int) (g : Int × Int) : St := mkSt Try.f13.ntmps 40 [(0, .is (.one (.ro (.int .i64) xs))), (6, sI .i64 xs.length), (3, sI .i64 g.1), (7, sI .i64 g.2)] []
/-- The law's own: one at least. -/
def risB (xs : List Int) : Bool := risF 0 xs && decide (deal.ahead xs xs.length > 0)
abbrev outRising : HL [.sl (.int .i64)] → HO [.val .bool] := fun (xs, _) => (risB xs, ())
theorem fn_rising : FnOk Try.prog 13 [.sl (.int .i64)] [.val .bool] noG preLen outRising := by
  have hsp : SpecsOk Try.prog (sps []) := sps_nil
  refine fn_of_tr (sp := sps []) ent_rising (by decide) (by decide) (by kernel_rfl) ?_
  rintro w M0 ⟨xs, ⟨⟩⟩ _ hl
  have hl : List.length xs < 4611686018427387904 := hl
  show Tr _ _ _ _ _ _ _
  refine tr_cut hsp mixed 3 (risI xs (0, 0)) True ?_ (fun _ => ?_)
  · refine vcx (X := (risI xs (0, 0)).triv True) (by kernel_rfl) (triv_intro trivial)
  refine tr_countJ hsp mixed [] (risI xs) (fun k => (deal.ahead xs k, (k : Int))) (fun k => risF 0 xs = risF (deal.ahead xs k) (xs.drop k)) xs.length (fun g => (xs.getD g.2.toNat 0, IntKind.i64.wrap (g.2 + 1))) (risI xs) (c := nthC (codeOf Try.f13) 3) (by kernel_rfl) (by kernel_rfl) (le_of_proj (by kernel_rfl) (by kernel_rfl) trivial) rfl
    (fun k hk _ _ => by show (_, _) = (_, _); rw [wrap_succ (by omega)]; rfl) ?_ ?_
  · intro k hk hj
    refine vcx (X := ((decide ((k : Int) < (xs.length : Int)) = true → (0 ≤ (k : Int) ∧ (k : Int) < (xs.length : Int)) ∧ (k : Int).toNat < xs.length ∧
        (decide (xs.getD (k : Int).toNat 0 ≤ deal.ahead xs k) = true → (false, ()) = outRising (xs, ())) ∧
        (decide (xs.getD (k : Int).toNat 0 ≤ deal.ahead xs k) = false → (0 ≤ (k : Int) ∧ (k : Int) < (xs.length : Int)) ∧ (k : Int).toNat < xs.length ∧
          (decide (xs.getD (k : Int).toNat 0 > 9) = true → (false, ()) = outRising (xs, ())) ∧
          (decide (xs.getD (k : Int).toNat 0 > 9) = false → (0 ≤ (k : Int) ∧ (k : Int) < (xs.length : Int)) ∧ (k : Int).toNat < xs.length ∧ (risI xs (xs.getD (k : Int).toNat 0, IntKind.i64.wrap ((k : Int) + 1))).triv (k < xs.length ∧ risF 0 xs = risF (deal.ahead xs (k + 1)) (xs.drop (k + 1)))))) ∧
      (decide ((k : Int) < (xs.length : Int)) = false → (risI xs (deal.ahead xs k, (k : Int))).triv (k = xs.length)))) (by kernel_rfl) ?_
    refine ⟨fun h => ?_, fun h => triv_intro (by have := dec_ge h; omega)⟩
    have hlt : k < xs.length := by have := dec_lt h; omega
    have hs := risF_step hlt
    rw [Int.toNat_natCast]
    have b1 : 0 ≤ (k : Int) ∧ (k : Int) < (xs.length : Int) := ⟨by omega, by omega⟩
    refine ⟨b1, hlt, fun h1 => ?_, fun h1 => ⟨b1, hlt, fun h2 => ?_, fun h2 => ⟨b1, hlt, triv_intro ⟨hlt, ?_⟩⟩⟩⟩
    · rw [if_pos (.inl (of_decide_eq_true h1))] at hs
      simp [outRising, risB, hj, hs]
    · rw [if_pos (.inr (of_decide_eq_true h2))] at hs
      simp [outRising, risB, hj, hs]
    · rw [if_neg (fun hh => hh.elim (of_decide_eq_false h1) (of_decide_eq_false h2))] at hs
      rw [hj, hs]
  · intro hj
    refine tr_vc hsp mixed _ _ ?_
    refine vcx (X := ((decide (deal.ahead xs xs.length > 0), ()) = outRising (xs, ()))) (by kernel_rfl) ?_
    rw [List.drop_length] at hj
    have hj : risF 0 xs = true := hj
    simp [outRising, risB, hj]
noncomputable def spRising : Nat × Eng.Spec := (13, fnSpec [.sl (.int .i64)] [.val .bool] preLen outRising)
end Go.Proofs.Ytkfghpniaahjjaa.law22
