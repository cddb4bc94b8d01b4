/- pairing: values of pairs of multiples of the generators. -/
import Derived.Test.YtbfimfdhmggieaaGreatMLPckPX
/- g1: Times. -/
namespace Go.Proofs.YtbfimfdhmggieaaGreat.g1
set_option maxRecDepth 100000
open Go Go.Eng Go.RowKit Cr Go.Proofs.YtbfimfdhmggieaaGreat

abbrev Jp := Fp × Fp × Fp
noncomputable def tmI (k : List Int) (o : Jp) (g : Int × List Jp) : St := mkSt Tryz.f20.ntmps 64 [(1, .is (.one (.ro (.int .u8) k))), (4, .is (.one (.ptr 8 0))), (5, .is (.one (.ptr 16 0))), (6, .is (.one (.ptr 40 0))), (15, sI .i64 g.1)] [(40, bc o), (16, [.row bk 16 g.2]), (8, pc (0, 0))]
noncomputable def tmS (k : List Int) (tb : List Jp) (s : Jp) (nx : Nat) (xs : List (Nat × SV)) : St := mkSt Tryz.f20.ntmps nx ([(4, .is (.one (.ptr 8 0))), (5, .is (.one (.ptr 16 0))), (8, .is (.one (.ptr 64 0))), (27, .is (.one (.ro (.int .u8) k))), (28, sI .i64 k.length)] ++ xs) [(64, bc s), (16, [.row bk 16 tb]), (8, pc (0, 0))]
noncomputable abbrev tmJ (k : List Int) (tb : List Jp) (g : Int × Jp) : St := tmS k tb g.2 96 [(29, sI .i64 g.1)]
noncomputable abbrev tmK (k : List Int) (tb : List Jp) (i : Int) (ds : List Int) (g : Int × Jp) : St := tmS k tb g.2 168 [(29, sI .i64 i), (37, .is (.agg [.ints .u8 2 ds])), (38, sI .i64 g.1)]
noncomputable abbrev tmL (k : List Int) (tb : List Jp) (i : Int) (ds : List Int) (j d : Int) (g : Int × Jp) : St := tmS k tb g.2 184 [(29, sI .i64 i), (37, .is (.agg [.ints .u8 2 ds])), (38, sI .i64 j), (12, sI .u8 d), (41, sI .i64 g.1)]

theorem ent_times : enters Tryz.prog 20 Tryz.f20 := enters_mk (by kernel_rfl) (by kernel_rfl) (by kernel_rfl)
abbrev preTimes : HL [pt1, .sl (.int .u8)] → Prop := fun (_, k, _) => Bs k ∧ List.length k < 4611686018427387904
noncomputable abbrev outTimes : HL [pt1, .sl (.int .u8)] → HO [.val pt1] := fun (p, k, _) => (jpoint (F := Fp) (jtm (tabAt (jt (jlift (F := Fp) p)) (0, 0, 0) 15) k (List.length k)), ())
theorem fn_times : FnOk Tryz.prog 20 [pt1, .sl (.int .u8)] [.val pt1] noG preTimes outTimes := by
  have hsp : SpecsOk Tryz.prog (sps [spLift, spAdd, spPoint, spDouble]) := sps_cons (fnSpec_ok fn_lift) (sps_cons (fnSpec_ok fn_add) (sps_cons (fnSpec_ok fn_point) (sps_cons (fnSpec_ok fn_double) sps_nil)))
  refine fn_of_tr (sp := sps [spLift, spAdd, spPoint, spDouble]) ent_times (by decide) (by decide) (by kernel_rfl) ?_
  rintro w M0 ⟨p, k, ⟨⟩⟩
  revert p k
  intro (p : Fp × Fp) (k : List Int) _ hp
  obtain ⟨hk, hl⟩ := hp
  have hk : Bs k := hk
  have hl : k.length < 4611686018427387904 := hl
  show Tr _ _ _ _ _ _ _
  refine tr_cut hsp mixed 4 (tmI k (jlift (F := Fp) p) (0, tabAt (jt (jlift (F := Fp) p)) (0, 0, 0) 0)) True ?_ (fun _ => ?_)
  · exact vcx (X := (True ∧ (tmI k (jlift (F := Fp) p) (0, tabAt (jt (jlift (F := Fp) p)) (0, 0, 0) 0)).triv True)) (by kernel_rfl) ⟨trivial, triv_intro trivial⟩
  generalize ho : jlift (F := Fp) p = o
  refine tr_count hsp mixed (tmI k o) (fun n => ((n : Int), tabAt (jt o) (0, 0, 0) n)) 15 (fun g => (IntKind.i64.wrap (g.1 + 1), g.2.set (IntKind.i64.wrap (g.1 + 1)).toNat (jadd (F := Fp) (g.2.getD g.1.toNat (0, 0, 0)) o))) (tmI k o) (c := nthC (codeOf Tryz.f20) 4) (by kernel_rfl) (by kernel_rfl) (le_of_proj (by kernel_rfl) (by kernel_rfl) trivial)
    (fun n hn => by
      show (_, _) = (_, _)
      rw [wrap_succ (by omega), Int.toNat_natCast, Int.toNat_natCast, tabAt_get _ _ _ (Nat.le_refl n) (by omega), show jadd (F := Fp) (jt o n) o = jt o (n + 1) from rfl, tabAt_set]) ?_ ?_
  · intro n hn
    generalize tabAt (jt o) (0, 0, 0) n = tb
    refine vcx (X := ((decide ((n : Int) < 15) = true → (0 ≤ (n : Int) ∧ (n : Int) < ((16 : Nat) : Int)) ∧ (n : Int).toNat < 16 ∧ True ∧ (0 ≤ IntKind.i64.wrap ((n : Int) + 1) ∧ IntKind.i64.wrap ((n : Int) + 1) < ((16 : Nat) : Int)) ∧ (IntKind.i64.wrap ((n : Int) + 1)).toNat < 16 ∧
        (tmI k o (IntKind.i64.wrap ((n : Int) + 1), tb.set (IntKind.i64.wrap ((n : Int) + 1)).toNat (jadd (F := Fp) (tb.getD (n : Int).toNat (0, 0, 0)) o))).triv (n < 15)) ∧
      (decide ((n : Int) < 15) = false → (tmI k o ((n : Int), tb)).triv (n = 15)))) (by kernel_rfl) ?_
    refine ⟨fun h => ?_, fun h => triv_intro (by have := dec_ge h; omega)⟩
    have hlt : n < 15 := by have := dec_lt h; omega
    rw [wrap_succ (by omega)]
    exact ⟨⟨by omega, by omega⟩, by omega, trivial, ⟨by omega, by omega⟩, by omega, triv_intro hlt⟩
  subst ho
  show Tr _ _ _ _ _ _ _
  generalize htb : tabAt (jt (jlift (F := Fp) p)) (0, 0, 0) 15 = tb
  refine tr_cut hsp mixed 2 (tmJ k tb (0, jtm tb k 0)) True ?_ (fun _ => ?_)
  · exact vcx (X := (tmJ k tb (0, jtm tb k 0)).triv True) (by kernel_rfl) (triv_intro trivial)
  refine tr_countT (tmJ k tb) (fun i => ((i : Int), jtm tb k i)) k.length (fun g => (IntKind.i64.wrap (g.1 + 1), jby tb g.2 (k.getD g.1.toNat 0))) (tmJ k tb) (c := nthC (codeOf Tryz.f20) 7) (by kernel_rfl) (by kernel_rfl) (le_of_proj (by kernel_rfl) (by kernel_rfl) trivial)
    (fun i hi => by show (_, _) = (_, _); rw [wrap_succ (by omega), Int.toNat_natCast]; rfl) ?_ ?_
  · intro i hi
    generalize jtm tb k i = s
    refine tr_cut hsp mixed 2 (tmJ k tb ((i : Int), s)) (i < k.length) ?_ (fun hlt => ?_)
    · refine vcx (X := ((decide ((i : Int) < (k.length : Int)) = true → (tmJ k tb ((i : Int), s)).triv (i < k.length)) ∧ (decide ((i : Int) < (k.length : Int)) = false → (tmJ k tb ((i : Int), s)).triv (i = k.length)))) (by kernel_rfl) ?_
      exact ⟨fun h => triv_intro (by have := dec_lt h; omega), fun h => triv_intro (by have := dec_ge h; omega)⟩
    have hb : 0 ≤ k.getD i 0 ∧ k.getD i 0 < 256 := by
      have : k.getD i 0 ∈ k := by rw [List.getD_eq_getElem?_getD, List.getElem?_eq_getElem hlt]; exact List.getElem_mem hlt
      exact hk _ this
    have hbi : k.getD (i : Int).toNat 0 = k.getD i 0 := by rw [Int.toNat_natCast]
    generalize hbb : k.getD i 0 = b at hb hbi
    obtain ⟨_, d1, d2⟩ := dh_ok hb.1 hb.2
    obtain ⟨_, d3, d4⟩ := dl_ok hb.1 hb.2
    refine tr_block (c := nthC (loopOf (nthC (codeOf Tryz.f20) 7)) 2) (by kernel_rfl) (by kernel_rfl) ?_
    refine tr_cut hsp mixed 2 (tmK k tb (i : Int) [dh (k.getD (i : Int).toNat 0), dl (k.getD (i : Int).toNat 0)] (0, jsd tb [dh b, dl b] s 0)) True ?_ (fun _ => ?_)
    · refine vcx (X := ((0 ≤ (i : Int) ∧ (i : Int) < (k.length : Int)) ∧ (i : Int).toNat < k.length ∧ (0 : Int) ≤ 4 ∧ (tmK k tb (i : Int) [dh (k.getD (i : Int).toNat 0), dl (k.getD (i : Int).toNat 0)] (0, jsd tb [dh b, dl b] s 0)).triv True)) (by kernel_rfl) ?_
      exact ⟨⟨by omega, by omega⟩, by omega, by decide, triv_intro trivial⟩
    rw [hbi]
    generalize hds : [dh b, dl b] = ds
    have hdd : ∀ j, j < 2 → 0 ≤ ds.getD j 0 ∧ ds.getD j 0 < 16 := by
      intro j hj
      subst hds
      match j, hj with
      | 0, _ => exact ⟨d1, d2⟩
      | 1, _ => exact ⟨d3, d4⟩
    refine tr_countT (tmK k tb (i : Int) ds) (fun j => ((j : Int), jsd tb ds s j)) 2 (fun g => (IntKind.i64.wrap (g.1 + 1), jst tb g.2 (ds.getD g.1.toNat 0))) (tmK k tb (i : Int) ds) (c := nthC (bodyOf (nthC (loopOf (nthC (codeOf Tryz.f20) 7)) 2)) 2) (by kernel_rfl) (by kernel_rfl) (le_of_proj (by kernel_rfl) (by kernel_rfl) trivial)
      (fun j hj => by show (_, _) = (_, _); rw [wrap_succ (by omega), Int.toNat_natCast]; rfl) ?_ ?_
    · intro j hj
      generalize jsd tb ds s j = y
      refine tr_cut hsp mixed 2 (tmK k tb (i : Int) ds ((j : Int), y)) (j < 2) ?_ (fun hj2 => ?_)
      · refine vcx (X := ((decide ((j : Int) < 2) = true → (tmK k tb (i : Int) ds ((j : Int), y)).triv (j < 2)) ∧ (decide ((j : Int) < 2) = false → (tmK k tb (i : Int) ds ((j : Int), y)).triv (j = 2)))) (by kernel_rfl) ?_
        exact ⟨fun h => triv_intro (by have := dec_lt h; omega), fun h => triv_intro (by have := dec_ge h; omega)⟩
      have hd := hdd j hj2
      have hdj : ds.getD (j : Int).toNat 0 = ds.getD j 0 := by rw [Int.toNat_natCast]
      generalize ds.getD j 0 = d at hd hdj
      refine tr_block (c := nthC (loopOf (nthC (bodyOf (nthC (loopOf (nthC (codeOf Tryz.f20) 7)) 2)) 2)) 2) (by kernel_rfl) (by kernel_rfl) ?_
      refine tr_cut hsp mixed 2 (tmL k tb (i : Int) ds (j : Int) (ds.getD (j : Int).toNat 0) (0, jdn y 0)) True ?_ (fun _ => ?_)
      · refine vcx (X := ((0 ≤ (j : Int) ∧ (j : Int) < ((2 : Nat) : Int)) ∧ (tmL k tb (i : Int) ds (j : Int) (ds.getD (j : Int).toNat 0) (0, jdn y 0)).triv True)) (by kernel_rfl) ?_
        exact ⟨⟨by omega, by omega⟩, triv_intro trivial⟩
      rw [hdj]
      refine tr_count hsp mixed (tmL k tb (i : Int) ds (j : Int) d) (fun n => ((n : Int), jdn y n)) 4 (fun g => (IntKind.i64.wrap (g.1 + 1), jdbl (F := Fp) g.2)) (tmL k tb (i : Int) ds (j : Int) d) (c := nthC (bodyOf (nthC (loopOf (nthC (bodyOf (nthC (loopOf (nthC (codeOf Tryz.f20) 7)) 2)) 2)) 2)) 2) (by kernel_rfl) (by kernel_rfl) (le_of_proj (by kernel_rfl) (by kernel_rfl) trivial)
        (fun n hn => by show (_, _) = (_, _); rw [wrap_succ (by omega)]; rfl) ?_ ?_
      · intro n hn
        generalize jdn y n = z
        refine vcx (X := ((decide ((n : Int) < 4) = true → True ∧ (tmL k tb (i : Int) ds (j : Int) d (IntKind.i64.wrap ((n : Int) + 1), jdbl (F := Fp) z)).triv (n < 4)) ∧ (decide ((n : Int) < 4) = false → (tmL k tb (i : Int) ds (j : Int) d ((n : Int), z)).triv (n = 4)))) (by kernel_rfl) ?_
        exact ⟨fun h => ⟨trivial, triv_intro (by have := dec_lt h; omega)⟩, fun h => triv_intro (by have := dec_ge h; omega)⟩
      refine tr_cut hsp mixed 1 (tmK k tb (i : Int) ds ((j : Int), jst tb y d)) True ?_ (fun _ => ?_)
      · refine vcx (X := ((0 ≤ d ∧ d < ((16 : Nat) : Int)) ∧ d.toNat < 16 ∧ True ∧ (tmK k tb (i : Int) ds ((j : Int), jst tb y d)).triv True)) (by kernel_rfl) ?_
        exact ⟨⟨hd.1, by omega⟩, by omega, trivial, triv_intro trivial⟩
      refine tr_nil ?_
      refine tr_vc hsp mixed _ _ ?_
      exact vcx (X := (tmK k tb (i : Int) ds (IntKind.i64.wrap ((j : Int) + 1), jst tb y d)).triv (j < 2)) (by kernel_rfl) (triv_intro hj2)
    refine tr_nil ?_
    refine tr_vc hsp mixed _ _ ?_
    have ey : jby tb s b = jsd tb ds s 2 := by unfold jby; rw [hds]
    show VC _ _ _ (fun σ' => σ'.le _ (tmJ k tb (IntKind.i64.wrap ((i : Int) + 1), jby tb s b)) (i < k.length)) _ _
    rw [ey]
    generalize jsd tb ds s 2 = z
    exact vcx (X := (tmJ k tb (IntKind.i64.wrap ((i : Int) + 1), z)).triv (i < k.length)) (by kernel_rfl) (triv_intro hlt)
  · refine tr_vc hsp mixed _ _ ?_
    refine vcx (X := (True ∧ (jpoint (F := Fp) (jtm tb k k.length), ()) = outTimes (p, k, ()))) (by kernel_rfl) ⟨trivial, ?_⟩
    show _ = (jpoint (F := Fp) (jtm (tabAt (jt (jlift (F := Fp) p)) (0, 0, 0) 15) k k.length), ())
    rw [htb]
noncomputable def spTimes : Nat × Eng.Spec := (20, fnSpec [pt1, .sl (.int .u8)] [.val pt1] preTimes outTimes)
end Go.Proofs.YtbfimfdhmggieaaGreat.g1
/- g1: Mul. -/
namespace Go.Proofs.YtbfimfdhmggieaaGreat.g1
set_option maxRecDepth 100000
open Go Go.Eng Go.RowKit Cr Go.Proofs.YtbfimfdhmggieaaGreat
noncomputable def tms (p : Fp × Fp) (k : List Int) : Fp × Fp := jpoint (F := Fp) (jtm (tabAt (jt (jlift (F := Fp) p)) (0, 0, 0) 15) k (List.length k))
noncomputable def pml (p : Fp × Fp) (k : Fr) : Fp × Fp := tms p (bytesN 32 k.v)
theorem ent_pmul : enters Tryz.prog 6 Tryz.f6 := enters_mk (by kernel_rfl) (by kernel_rfl) (by kernel_rfl)
noncomputable abbrev outPMul : HL [pt1, .fr] → HO [.val pt1] := fun (p, k, _) => (pml p k, ())
theorem fn_pmul : FnOk Tryz.prog 6 [pt1, .fr] [.val pt1] noG (fun _ => True) outPMul := by
  refine fn_of_vc (sp := sps [fr.spBytes, spTimes]) (sps_cons (fnSpec_ok fr.fn_bytes) (sps_cons (fnSpec_ok fn_times) sps_nil)) mixed ent_pmul (by decide) (by decide) ?_
  rintro w M0 ⟨p, k, ⟨⟩⟩
  revert p k
  intro (p : Fp × Fp) (k : Fr) _ _
  refine vcx (X := (True ∧ (0 : Nat) + 32 ≤ 32 ∧ preTimes (p, (bytesN 32 k.v).take 32, ()) ∧ (tms p ((bytesN 32 k.v).take 32), ()) = outPMul (p, k, ()))) (by kernel_rfl) ?_
  rw [List.take_of_length_le (by rw [bytesN_length]; exact Nat.le_refl _)]
  exact ⟨trivial, by decide, ⟨bytesN_Bs _ _, by show (bytesN 32 k.v).length < _; rw [bytesN_length]; decide⟩, rfl⟩
end Go.Proofs.YtbfimfdhmggieaaGreat.g1
/- The references' Copy; law07: scalar, long. -/
namespace Go.Proofs.YtbfimfdhmggieaaGreat.ref01
set_option maxRecDepth 100000
open Go Go.Eng Go.RowKit Cr Go.Proofs.YtbfimfdhmggieaaGreat

theorem ent_copy : enters Tryz.prog 22 Tryz.f22 := enters_mk (by kernel_rfl) (by kernel_rfl) (by kernel_rfl)
noncomputable def cpI (b : List Int) (g : Int × List Int) : St := mkSt Tryz.f22.ntmps 64 [(0, .is (.one (.ro (.int .u8) b))), (3, .is (.one (.sl 24 0 0 (b.length : Int).toNat 1))), (9, sI .i64 b.length), (10, sI .i64 g.1)] [(24, [.ints .u8 (b.length : Int).toNat g.2])]
def cpL (b : List Int) (k : Nat) : List Int := b.take k ++ List.replicate (b.length - k) 0
theorem cpL_step {b : List Int} {k : Nat} (h : k < b.length) : (cpL b k).set k (b.getD k 0) = cpL b (k + 1) := by
  unfold cpL
  rw [List.set_append_right _ _ (by simp; omega), List.take_succ_eq_append_getElem h]
  have e : b.length - k = (b.length - (k + 1)) + 1 := by omega
  have e2 : k - (b.take k).length = 0 := by simp; omega
  rw [e2, e, List.replicate_succ, List.set_cons_zero, List.append_assoc]
  simp [h]
abbrev preCopy : HL [.sl (.int .u8)] → Prop := fun (b, _) => List.length b ≤ 281474976710656
abbrev outCopy : HL [.sl (.int .u8)] → HO [.own (.int .u8)] := fun (b, _) => (b, ())
theorem fn_copy : FnOk Tryz.prog 22 [.sl (.int .u8)] [.own (.int .u8)] noG preCopy outCopy := by
  have hsp : SpecsOk Tryz.prog (sps []) := sps_nil
  refine fn_of_tr (sp := sps []) ent_copy (by decide) (by decide) (by kernel_rfl) ?_
  rintro w M0 ⟨b, ⟨⟩⟩
  revert b
  intro (b : List Int) _ hl
  have hl : b.length ≤ 281474976710656 := hl
  show Tr _ _ _ _ _ _ _
  refine tr_cut hsp mixed 3 (cpI b (0, List.replicate (b.length : Int).toNat 0)) True ?_ (fun _ => ?_)
  · refine vcx (X := ((0 ≤ (b.length : Int) ∧ (b.length : Int) ≤ (b.length : Int) ∧ ((1 : Nat) : Int) * (b.length : Int) ≤ 281474976710656 ∧ (b.length : Int) ≤ 9223372036854775807) ∧ (cpI b (0, List.replicate (b.length : Int).toNat 0)).triv True)) (by kernel_rfl) ?_
    exact ⟨⟨by omega, by omega, by omega, by omega⟩, triv_intro trivial⟩
  rw [show List.replicate (b.length : Int).toNat (0 : Int) = cpL b 0 by simp [cpL]]
  refine tr_count hsp mixed (cpI b) (fun k => ((k : Int), cpL b k)) b.length (fun g => (IntKind.i64.wrap (g.1 + 1), g.2.set g.1.toNat (b.getD g.1.toNat 0))) (cpI b) (c := nthC (codeOf Tryz.f22) 3) (by kernel_rfl) (by kernel_rfl) (le_of_proj (by kernel_rfl) (by kernel_rfl) trivial)
    (fun k hk => by show (_, _) = (_, _); rw [wrap_succ (by omega), Int.toNat_natCast, cpL_step hk]) ?_ ?_
  · intro k hk
    generalize cpL b k = xs
    refine vcx (X := ((decide ((k : Int) < (b.length : Int)) = true → (0 ≤ (k : Int) ∧ (k : Int) < (b.length : Int)) ∧ (k : Int).toNat < b.length ∧ (0 ≤ (k : Int) ∧ (k : Int) < ((b.length : Int).toNat : Int)) ∧ (k : Int).toNat < (b.length : Int).toNat ∧ (cpI b (IntKind.i64.wrap ((k : Int) + 1), xs.set (k : Int).toNat (b.getD (k : Int).toNat 0))).triv (k < b.length)) ∧
      (decide ((k : Int) < (b.length : Int)) = false → (cpI b ((k : Int), xs)).triv (k = b.length)))) (by kernel_rfl) ?_
    refine ⟨fun h => ?_, fun h => triv_intro (by have := dec_ge h; omega)⟩
    have hlt : k < b.length := by have := dec_lt h; omega
    exact ⟨⟨by omega, by omega⟩, by omega, ⟨by omega, by omega⟩, by omega, triv_intro hlt⟩
  · refine tr_vc hsp mixed _ _ ?_
    refine vcx (X := (0 + (b.length : Int).toNat ≤ (b.length : Int).toNat ∧ (((cpL b b.length).take (b.length : Int).toNat, ()) : List Int × Unit) = outCopy (b, ()))) (by kernel_rfl) ⟨by omega, ?_⟩
    simp [cpL, outCopy]
noncomputable def spCopy : Nat × Eng.Spec := (22, fnSpec [.sl (.int .u8)] [.own (.int .u8)] preCopy outCopy)
end Go.Proofs.YtbfimfdhmggieaaGreat.ref01
/- g1: the same contracts, for laws: what is computed is not unfolded; what it is on points of the curve. -/
namespace Go.Proofs.YtbfimfdhmggieaaGreat.g1
set_option maxRecDepth 100000
open Go Go.Eng Go.RowKit Cr Go.Proofs.YtbfimfdhmggieaaGreat
theorem b4_ne : b4 ≠ 0 := by decide
noncomputable def gG : Fp × Fp := opq (gx, gy)
noncomputable def gneg (p : Fp × Fp) : Fp × Fp := opq (pneg (F := Fp) p)
noncomputable def gmul (p : Fp × Fp) (k : Fr) : Fp × Fp := opq (pml p k)
theorem fo_gen : FnOk Tryz.prog 5 [] [.val pt1] noG (fun _ => True) (fun _ => (gG, ())) := fn_gen.out fun _ => by show (gG, ()) = ((gx, gy), ()); rw [gG, opq_eq]
theorem fo_neg : FnOk Tryz.prog 17 [pt1] [.val pt1] noG (fun _ => True) (fun (p, _) => (gneg p, ())) := fn_pneg.out fun (p, _) => by show (gneg p, ()) = (_, ()); rw [gneg, opq_eq]
theorem fo_mul : FnOk Tryz.prog 6 [pt1, .fr] [.val pt1] noG (fun _ => True) (fun (p, k, _) => (gmul p k, ())) := fn_pmul.out fun (p, k, _) => by show (gmul p k, ()) = (_, ()); rw [gmul, opq_eq]
noncomputable def soGen : Nat × Eng.Spec := (5, fnSpec [] [.val pt1] (fun _ => True) (fun _ => (gG, ())))
noncomputable def soNeg : Nat × Eng.Spec := (17, fnSpec [pt1] [.val pt1] (fun _ => True) (fun (p, _) => (gneg p, ())))
noncomputable def soMul : Nat × Eng.Spec := (6, fnSpec [pt1, .fr] [.val pt1] (fun _ => True) (fun (p, k, _) => (gmul p k, ())))
abbrev Onb (p : Fp × Fp) : Prop := OnP b4 p
theorem gG_eq : gG = (gx, gy) := opq_eq _
theorem gG_on : Onb gG := by rw [gG_eq]; exact (isOn_iff _).1 (by decide +kernel)
theorem gneg_eq (p : Fp × Fp) : gneg p = pneg p := opq_eq _
theorem gmul_eq {p : Fp × Fp} (hp : Onb p) (k : Fr) : gmul p k = nmul p k.v.toNat := by
  rw [gmul, opq_eq, pml, tms, times_eq b4_ne hp (bytesN_Bs _ _), num_bytesN 32 _ k.nn (Int.lt_trans k.lt (by decide))]
end Go.Proofs.YtbfimfdhmggieaaGreat.g1
/- g1: the group; scalars. -/
namespace Go.Proofs.YtbfimfdhmggieaaGreat.g1
set_option maxRecDepth 100000
open Go Go.Eng Go.RowKit Cr Go.Proofs.YtbfimfdhmggieaaGreat

theorem gG_ne : gG ≠ O2 := by rw [gG_eq]; decide
def rN : Nat := 52435875175126190479447740508185965837690552500527637822603658699938581184513
theorem gG_ord : nmul gG rN = O2 := by
  have h1 : Rep b4 (evP1.φ3 (gxN, gyN, (1 : Nat))) gG := by
    have h := rep_lift gG_on
    unfold jlift at h
    rw [if_neg gG_ne, gG_eq] at h
    rw [gG_eq]
    exact h
  have h2 := Ev.mul2_rep b4_ne h1 256 rN (by decide)
  have h3 := (evP1.isz_φ _).1 ord_z
  rcases h2 with ⟨_, h⟩ | ⟨h, _⟩
  · exact h
  · exact absurd h3 h
/-- Points that come to nought r times. -/
def Sub (p : Fp × Fp) : Prop := Onb p ∧ nmul p rN = O2
theorem sub_G : Sub gG := ⟨gG_on, gG_ord⟩
theorem sub_nmul {p : Fp × Fp} (h : Sub p) (n : Nat) : Sub (nmul p n) := by
  refine ⟨nmul_on b4_ne h.1 n, ?_⟩
  rw [nmul_mul b4_ne h.1, Nat.mul_comm, ← nmul_mul b4_ne h.1, h.2, nmul_O]
theorem sub_gmul {p : Fp × Fp} (h : Sub p) (k : Fr) : Sub (gmul p k) := by rw [gmul_eq h.1]; exact sub_nmul h _
theorem nmul_mod {p : Fp × Fp} (h : Sub p) (m : Nat) : nmul p m = nmul p (m % rN) := by
  conv => lhs; rw [← Nat.div_add_mod m rN]
  rw [nmul_add b4_ne h.1, ← nmul_mul b4_ne h.1, h.2, nmul_O, O_add]
theorem frv (x : Fr) : ∃ n : Nat, x.v = (n : Int) ∧ n < rN := by
  obtain ⟨n, hn⟩ := Int.eq_ofNat_of_zero_le x.nn
  exact ⟨n, hn, by have := x.lt; have e : Mr = (rN : Int) := rfl; omega⟩
theorem mul_of {p : Fp × Fp} (h : Sub p) {x : Fr} {m : Nat} (hx : x.v = (m : Int) % (rN : Int)) : gmul p x = nmul p m := by
  rw [gmul_eq h.1, hx, nmul_mod h m, ← Int.natCast_emod, Int.toNat_natCast]
theorem mul_add {p : Fp × Fp} (h : Sub p) (x y : Fr) : gmul p (x + y) = padd (gmul p x) (gmul p y) := by
  obtain ⟨m, hm, _⟩ := frv x
  obtain ⟨n, hn, _⟩ := frv y
  rw [mul_of h (x := x + y) (m := m + n) (by rw [add_v, hm, hn, Int.natCast_add]; rfl), gmul_eq h.1, gmul_eq h.1, hm, hn, Int.toNat_natCast, Int.toNat_natCast, nmul_add b4_ne h.1]
theorem mul_zero {p : Fp × Fp} (h : Sub p) : gmul p 0 = O2 := by
  rw [gmul_eq h.1, zero_v]; rfl
theorem mul_one {p : Fp × Fp} (h : Sub p) : gmul p 1 = p := by
  rw [gmul_eq h.1, one_v]; exact nmul_one
theorem mul_neg {p : Fp × Fp} (h : Sub p) (x : Fr) : gmul p (-x) = pneg (gmul p x) := by
  have e : padd (gmul p x) (gmul p (-x)) = O2 := by rw [← mul_add h, Rg.add_neg, mul_zero h]
  have hx := (sub_gmul h x).1
  have hn := (sub_gmul h (-x)).1
  have := cancel b4_ne hx hn
  rw [e, add_O] at this
  exact this.symm
end Go.Proofs.YtbfimfdhmggieaaGreat.g1
/- fp2.Read; g2: number, Gen. -/
namespace Go.Proofs.YtbfimfdhmggieaaGreat.fp2
set_option maxRecDepth 100000
open Go Go.Eng Go.RowKit Cr Go.Proofs.YtbfimfdhmggieaaGreat
/-- The number of bytes: b first. -/
def rdF2 (bs : List Int) : F2 × Int := if bs.length = 96 then (if (fp.rdFp (bs.take 48)).2 = 0 then (if (fp.rdFp (bs.drop 48)).2 = 0 then (((fp.rdFp (bs.drop 48)).1, (fp.rdFp (bs.take 48)).1), 0) else ((0, 0), (fp.rdFp (bs.drop 48)).2)) else ((0, 0), (fp.rdFp (bs.take 48)).2)) else ((0, 0), 10)
theorem ent_read : enters Tryz.prog 44 Tryz.f44 := enters_mk (by kernel_rfl) (by kernel_rfl) (by kernel_rfl)
abbrev preRead : HL [.sl (.int .u8)] → Prop := fun (bs, _) => Bs bs
abbrev outRead : HL [.sl (.int .u8)] → HO [.val f2, .val (.int .i64)] := fun (bs, _) => ((rdF2 bs).1, (rdF2 bs).2, ())
theorem fn_read : FnOk Tryz.prog 44 [.sl (.int .u8)] [.val f2, .val (.int .i64)] noG preRead outRead := by
  refine fn_of_vc (sp := sps [fp.spRead]) (sps_cons (fnSpec_ok fp.fn_read) sps_nil) mixed ent_read (by decide) (by decide) ?_
  rintro w M0 ⟨bs, ⟨⟩⟩
  revert bs
  intro (bs : List Int) _ hb
  have hb : Bs bs := hb
  refine vcx (X := ((((↑bs.length : Int) != (96 : Int)) = true → (((0 : Fp), (0 : Fp)), (10 : Int), ()) = outRead (bs, ())) ∧ (((↑bs.length : Int) != (96 : Int)) = false → ((0 : Int) ≤ (48 : Int) ∧ (48 : Int) ≤ (↑bs.length : Int)) ∧ fp.preRead (List.take (48 : Nat) bs, ()) ∧ (((fp.rdFp (List.take (48 : Nat) bs)).snd != (0 : Int)) = true → (((0 : Fp), (0 : Fp)), (fp.rdFp (List.take (48 : Nat) bs)).snd, ()) = outRead (bs, ())) ∧ (((fp.rdFp (List.take (48 : Nat) bs)).snd != (0 : Int)) = false → ((0 : Int) ≤ (48 : Int) ∧ (48 : Int) ≤ (↑bs.length : Int)) ∧ fp.preRead (List.take ((↑bs.length : Int) - (48 : Int)).toNat (List.drop (48 : Nat) bs), ()) ∧ (((fp.rdFp (List.take ((↑bs.length : Int) - (48 : Int)).toNat (List.drop (48 : Nat) bs))).snd != (0 : Int)) = true → (((0 : Fp), (0 : Fp)), (fp.rdFp (List.take ((↑bs.length : Int) - (48 : Int)).toNat (List.drop (48 : Nat) bs))).snd, ()) = outRead (bs, ())) ∧ (((fp.rdFp (List.take ((↑bs.length : Int) - (48 : Int)).toNat (List.drop (48 : Nat) bs))).snd != (0 : Int)) = false → (((fp.rdFp (List.take ((↑bs.length : Int) - (48 : Int)).toNat (List.drop (48 : Nat) bs))).fst, (fp.rdFp (List.take (48 : Nat) bs)).fst), (0 : Int), ()) = outRead (bs, ())))))) (by kernel_rfl) ?_
  refine ⟨fun h => ?_, fun h => ?_⟩
  · have hl : ¬ bs.length = 96 := by simp at h; omega
    show _ = ((rdF2 bs).1, (rdF2 bs).2, ())
    rw [rdF2, if_neg hl]
  have hl : bs.length = 96 := by simp at h; omega
  have e1 : List.take ((bs.length : Int) - 48).toNat (List.drop 48 bs) = bs.drop 48 := List.take_of_length_le (by simp; omega)
  rw [e1]
  refine ⟨⟨by omega, by omega⟩, fun x hx => hb x (List.mem_of_mem_take hx), fun h2 => ?_, fun h2 => ⟨⟨by omega, by omega⟩, fun x hx => hb x (List.mem_of_mem_drop hx), fun h3 => ?_, fun h3 => ?_⟩⟩
  · have h2 : ¬ (fp.rdFp (bs.take 48)).2 = 0 := by simpa using h2
    show _ = ((rdF2 bs).1, (rdF2 bs).2, ())
    rw [rdF2, if_pos hl, if_neg h2]
  · have h2 : (fp.rdFp (bs.take 48)).2 = 0 := by simpa using h2
    have h3 : ¬ (fp.rdFp (bs.drop 48)).2 = 0 := by simpa using h3
    show _ = ((rdF2 bs).1, (rdF2 bs).2, ())
    rw [rdF2, if_pos hl, if_pos h2, if_neg h3]
  · have h2 : (fp.rdFp (bs.take 48)).2 = 0 := by simpa using h2
    have h3 : (fp.rdFp (bs.drop 48)).2 = 0 := by simpa using h3
    show _ = ((rdF2 bs).1, (rdF2 bs).2, ())
    rw [rdF2, if_pos hl, if_pos h2, if_pos h3]
noncomputable def spRead : Nat × Eng.Spec := (44, fnSpec [.sl (.int .u8)] [.val f2, .val (.int .i64)] preRead outRead)
end Go.Proofs.YtbfimfdhmggieaaGreat.fp2
namespace Go.Proofs.YtbfimfdhmggieaaGreat.g2
set_option maxRecDepth 100000
open Go Go.Eng Go.RowKit Cr Go.Proofs.YtbfimfdhmggieaaGreat Go.Proofs.YtbfimfdhmggieaaGreat.fp2
/-- Points of the second curve: (0, 0) is infinity. -/
abbrev pt2 : Kd := .pair f2 f2
theorem ent_number : enters Tryz.prog 26 Tryz.f26 := enters_mk (by kernel_rfl) (by kernel_rfl) (by kernel_rfl)
abbrev outNumber : HL [.str] → HO [.val f2] := fun (s, _) => ((fp2.rdF2 (sbytes s)).1, ())
theorem fn_number : FnOk Tryz.prog 26 [.str] [.val f2] noG (fun _ => True) outNumber := by
  refine fn_of_vc (sp := sps [fp2.spRead]) (sps_cons (fnSpec_ok fp2.fn_read) sps_nil) mixed ent_number (by decide) (by decide) ?_
  rintro w M0 ⟨s, ⟨⟩⟩ _ _
  refine vcx (X := (0 + s.size ≤ s.size ∧ fp2.preRead ((sbytes s).take s.size, ()) ∧ ((fp2.rdF2 ((sbytes s).take s.size)).1, ()) = outNumber (s, ()))) (by kernel_rfl) ?_
  rw [List.take_of_length_le (by rw [sbytes_len]; exact Nat.le_refl _)]
  exact ⟨by omega, sbytes_Bs s, rfl⟩
noncomputable def spNumber : Nat × Eng.Spec := (26, fnSpec [.str] [.val f2] (fun _ => True) outNumber)

def gxA : Nat := 0x024aa2b2f08f0a91260805272dc51051c6e47ad4fa403b02b4510b647ae3d1770bac0326a805bbefd48056c8c121bdb8
def gxB : Nat := 0x13e02b6052719f607dacd3a088274f65596bd0d09920b61ab5da61bbdc7f5049334cf11213945d57e5ac7d055d042b7e
def gyA : Nat := 0x0ce5d527727d6e118cc9cdc6da2e351aadfd9baa8cbdd3a76d429a695160d12c923ac9cc3baca289e193548608b82801
def gyB : Nat := 0x0606c4a02ea734cc32acd2b02bc28b99cb3e287e85a763af267492ab572e99ab3f370d275cec1da1aaa9075ff05f79be
def gx : F2 := (zm (gxA : Int), zm (gxB : Int))
def gy : F2 := (zm (gyA : Int), zm (gyB : Int))
theorem ent_gen : enters Tryz.prog 10 Tryz.f10 := enters_mk (by kernel_rfl) (by kernel_rfl) (by kernel_rfl)
abbrev outGen : HL [] → HO [.val pt2] := fun _ => ((gx, gy), ())
theorem fn_gen : FnOk Tryz.prog 10 [] [.val pt2] noG (fun _ => True) outGen := by
  refine fn_of_vc (sp := sps [spNumber]) (sps_cons (fnSpec_ok fn_number) sps_nil) mixed ent_gen (by decide) (by decide) ?_
  rintro w M0 ⟨⟩ _ _
  exact vcx (X := (True ∧ True ∧ (((gx, gy), ()) : (F2 × F2) × Unit) = outGen ())) (by kernel_rfl) ⟨trivial, trivial, rfl⟩
end Go.Proofs.YtbfimfdhmggieaaGreat.g2
/- g2: points without a division. -/
namespace Go.Proofs.YtbfimfdhmggieaaGreat.g2
set_option maxRecDepth 100000
open Go Go.Eng Go.RowKit Cr Go.Proofs.YtbfimfdhmggieaaGreat Go.Proofs.YtbfimfdhmggieaaGreat.fp2
abbrev bk : Kd := .pair f2 (.pair f2 f2)
theorem eqP2 (a b : F2 × F2) : eqC (.pair (.pair .fp .fp) (.pair .fp .fp)) a b = decide (a = b) := by
  have h := eqC_iff (e := .pair (.pair .fp .fp) (.pair .fp .fp)) a b
  rw [Bool.eq_iff_iff, h, decide_eq_true_iff]

theorem ent_lift : enters Tryz.prog 45 Tryz.f45 := enters_mk (by kernel_rfl) (by kernel_rfl) (by kernel_rfl)
noncomputable abbrev outLift : HL [pt2] → HO [.val bk] := fun (p, _) => (jlift (F := F2) p, ())
theorem fn_lift : FnOk Tryz.prog 45 [pt2] [.val bk] noG (fun _ => True) outLift := by
  refine fn_of_vc (sp := sps [fp2.spSmall]) (sps_cons (fnSpec_ok fp2.fn_small) sps_nil) mixed ent_lift (by decide) (by decide) ?_
  rintro w M0 ⟨p, ⟨⟩⟩
  revert p
  intro (p : F2 × F2) _ _
  refine vcx (X := ((eqC ((Kd.fp.pair Kd.fp).pair (Kd.fp.pair Kd.fp)) p (((0 : Fp), (0 : Fp)), (0 : Fp), (0 : Fp)) = true → ((((0 : Fp), (0 : Fp)), ((0 : Fp), (0 : Fp)), (0 : Fp), (0 : Fp)), ()) = outLift (p, ())) ∧ (eqC ((Kd.fp.pair Kd.fp).pair (Kd.fp.pair Kd.fp)) p (((0 : Fp), (0 : Fp)), (0 : Fp), (0 : Fp)) = false → (U64 (1 : Int) ∧ U64 (0 : Int)) ∧ ((p.fst, p.snd, zmp (1 : Int), zmp (0 : Int)), ()) = outLift (p, ())))) (by kernel_rfl) ?_
  rw [eqP2]
  refine ⟨fun h => ?_, fun h => ⟨⟨by constructor <;> decide, by constructor <;> decide⟩, ?_⟩⟩
  · show _ = (jlift p, ())
    unfold jlift
    rw [if_pos (show p = O2 from of_decide_eq_true h)]; rfl
  · show _ = (jlift p, ())
    unfold jlift
    rw [if_neg (show ¬ p = O2 from of_decide_eq_false h)]; rfl
noncomputable def spLift : Nat × Eng.Spec := (45, fnSpec [pt2] [.val bk] (fun _ => True) outLift)

theorem ent_point : enters Tryz.prog 48 Tryz.f48 := enters_mk (by kernel_rfl) (by kernel_rfl) (by kernel_rfl)
noncomputable abbrev outPoint : HL [bk] → HO [.val pt2] := fun (a, _) => (jpoint (F := F2) a, ())
theorem fn_point : FnOk Tryz.prog 48 [bk] [.val pt2] noG (fun _ => True) outPoint := by
  refine fn_of_vc (sp := sps [fp2.spZero, fp2.spInv, fp2.spSquare, fp2.spMul]) (sps_cons (fnSpec_ok fp2.fn_zero) (sps_cons (fnSpec_ok fp2.fn_inv) (sps_cons (fnSpec_ok fp2.fn_square) (sps_cons (fnSpec_ok fp2.fn_mul) sps_nil)))) mixed ent_point (by decide) (by decide) ?_
  rintro w M0 ⟨a, ⟨⟩⟩
  revert a
  intro (a : F2 × F2 × F2) _ _
  refine vcx (X := (True ∧ (decide (a.2.2 = 0) = true → (((0 : F2), (0 : F2)), ()) = outPoint (a, ())) ∧ (decide (a.2.2 = 0) = false → Trs 5 (((a.1 * (inv2 a.2.2 * inv2 a.2.2), a.2.1 * (inv2 a.2.2 * inv2 a.2.2) * inv2 a.2.2), ()) = outPoint (a, ()))))) (by kernel_rfl) ?_
  refine ⟨trivial, fun h => ?_, fun h => trs ?_ _⟩
  · show _ = (jpoint a, ())
    unfold jpoint
    rw [if_pos (of_decide_eq_true h)]
  · show _ = (jpoint a, ())
    unfold jpoint
    rw [if_neg (of_decide_eq_false h)]
    rfl
noncomputable def spPoint : Nat × Eng.Spec := (48, fnSpec [bk] [.val pt2] (fun _ => True) outPoint)

theorem ent_double : enters Tryz.prog 47 Tryz.f47 := enters_mk (by kernel_rfl) (by kernel_rfl) (by kernel_rfl)
noncomputable abbrev outDouble : HL [bk] → HO [.val bk] := fun (a, _) => (jdbl (F := F2) a, ())
theorem fn_double : FnOk Tryz.prog 47 [bk] [.val bk] noG (fun _ => True) outDouble := by
  refine fn_of_vc (sp := sps [fp2.spZero, fp2.spAdd, fp2.spSub, fp2.spSquare, fp2.spMul]) (sps_cons (fnSpec_ok fp2.fn_zero) (sps_cons (fnSpec_ok fp2.fn_add) (sps_cons (fnSpec_ok fp2.fn_sub) (sps_cons (fnSpec_ok fp2.fn_square) (sps_cons (fnSpec_ok fp2.fn_mul) sps_nil))))) mixed ent_double (by decide) (by decide) ?_
  rintro w M0 ⟨a, ⟨⟩⟩
  revert a
  intro (a : F2 × F2 × F2) _ _
  refine vcx (X := (True ∧ (decide (a.2.2 = 0) = true → (((0 : F2), (0 : F2), (0 : F2)), ()) = outDouble (a, ())) ∧ (decide (a.2.2 = 0) = false → Trs 18 ((jdbN a, ()) = outDouble (a, ()))))) (by kernel_rfl) ?_
  refine ⟨trivial, fun h => ?_, fun h => trs ?_ _⟩
  · show _ = (jdbl a, ())
    unfold jdbl
    rw [if_pos (of_decide_eq_true h)]
  · show _ = (jdbl a, ())
    unfold jdbl
    rw [if_neg (of_decide_eq_false h)]
noncomputable def spDouble : Nat × Eng.Spec := (47, fnSpec [bk] [.val bk] (fun _ => True) outDouble)

theorem ent_add : enters Tryz.prog 46 Tryz.f46 := enters_mk (by kernel_rfl) (by kernel_rfl) (by kernel_rfl)
noncomputable abbrev outAdd : HL [bk, bk] → HO [.val bk] := fun (a, b, _) => (jadd (F := F2) a b, ())
noncomputable abbrev wd (a b : F2 × F2 × F2) : F2 := b.1 * (a.2.2 * a.2.2) - a.1 * (b.2.2 * b.2.2)
noncomputable abbrev rs (a b : F2 × F2 × F2) : F2 := b.2.1 * (a.2.2 * a.2.2) * a.2.2 - a.2.1 * (b.2.2 * b.2.2) * b.2.2
theorem fn_add : FnOk Tryz.prog 46 [bk, bk] [.val bk] noG (fun _ => True) outAdd := by
  refine fn_of_vc (sp := sps [fp2.spZero, fp2.spSub, fp2.spSquare, fp2.spMul, spDouble]) (sps_cons (fnSpec_ok fp2.fn_zero) (sps_cons (fnSpec_ok fp2.fn_sub) (sps_cons (fnSpec_ok fp2.fn_square) (sps_cons (fnSpec_ok fp2.fn_mul) (sps_cons (fnSpec_ok fn_double) sps_nil))))) mixed ent_add (by decide) (by decide) ?_
  rintro w M0 ⟨a, b, ⟨⟩⟩
  revert a b
  intro (a : F2 × F2 × F2) (b : F2 × F2 × F2) _ _
  refine vcx (X := (True ∧ (decide (a.2.2 = 0) = true → (b, ()) = outAdd (a, b, ())) ∧ (decide (a.2.2 = 0) = false → True ∧ (decide (b.2.2 = 0) = true → (a, ()) = outAdd (a, b, ())) ∧ (decide (b.2.2 = 0) = false →
    Trs 11 ((decide (wd a b = 0) = true → True ∧ (decide (rs a b = 0) = true → True ∧ (jdbl (F := F2) a, ()) = outAdd (a, b, ())) ∧ (decide (rs a b = 0) = false → (((0 : F2), (0 : F2), (0 : F2)), ()) = outAdd (a, b, ()))) ∧
      (decide (wd a b = 0) = false → Trs 13 ((jfin (F := F2) (wd a b) (rs a b) (a.1 * (b.2.2 * b.2.2)) (a.2.1 * (b.2.2 * b.2.2) * b.2.2) a.2.2 b.2.2, ()) = outAdd (a, b, ())))))))) (by kernel_rfl) ?_
  refine ⟨trivial, fun h => ?_, fun h => ⟨trivial, fun h2 => ?_, fun h2 => trs ⟨fun h3 => ⟨trivial, fun h4 => ⟨trivial, ?_⟩, fun h4 => ?_⟩, fun h3 => trs ?_ _⟩ _⟩⟩
  all_goals show _ = (jadd a b, ())
  all_goals unfold jadd
  · rw [if_pos (of_decide_eq_true h)]
  · rw [if_neg (of_decide_eq_false h), if_pos (of_decide_eq_true h2)]
  · rw [if_neg (of_decide_eq_false h), if_neg (of_decide_eq_false h2), if_pos (of_decide_eq_true h3), if_pos (of_decide_eq_true h4)]
  · rw [if_neg (of_decide_eq_false h), if_neg (of_decide_eq_false h2), if_pos (of_decide_eq_true h3), if_neg (of_decide_eq_false h4)]
  · rw [if_neg (of_decide_eq_false h), if_neg (of_decide_eq_false h2), if_neg (of_decide_eq_false h3)]
noncomputable def spAdd : Nat × Eng.Spec := (46, fnSpec [bk, bk] [.val bk] (fun _ => True) outAdd)
end Go.Proofs.YtbfimfdhmggieaaGreat.g2
/- g2: Sum, Add, Neg, On. -/
namespace Go.Proofs.YtbfimfdhmggieaaGreat.g2
set_option maxRecDepth 100000
open Go Go.Eng Go.RowKit Cr Go.Proofs.YtbfimfdhmggieaaGreat Go.Proofs.YtbfimfdhmggieaaGreat.fp2

abbrev bc (s : F2 × F2 × F2) : List Cell := [.row .fp 1 [s.1.1], .row .fp 1 [s.1.2], .row .fp 1 [s.2.1.1], .row .fp 1 [s.2.1.2], .row .fp 1 [s.2.2.1], .row .fp 1 [s.2.2.2]]
abbrev pc (s : F2 × F2) : List Cell := [.row .fp 1 [s.1.1], .row .fp 1 [s.1.2], .row .fp 1 [s.2.1], .row .fp 1 [s.2.2]]
/-- The curve: y^2 = x^3 + 4 + 4 i. -/
def b4 : F2 := (zm 4, zm 4)
end Go.Proofs.YtbfimfdhmggieaaGreat.g2
/- g2: Times. -/
namespace Go.Proofs.YtbfimfdhmggieaaGreat.g2
set_option maxRecDepth 100000
open Go Go.Eng Go.RowKit Cr Go.Proofs.YtbfimfdhmggieaaGreat Go.Proofs.YtbfimfdhmggieaaGreat.fp2

abbrev Jp := F2 × F2 × F2
noncomputable def tmI (k : List Int) (o : Jp) (g : Int × List Jp) : St := mkSt Tryz.f27.ntmps 64 [(1, .is (.one (.ro (.int .u8) k))), (4, .is (.one (.ptr 8 0))), (5, .is (.one (.ptr 16 0))), (6, .is (.one (.ptr 40 0))), (15, sI .i64 g.1)] [(40, bc o), (16, [.row bk 16 g.2]), (8, pc (0, 0))]
noncomputable def tmS (k : List Int) (tb : List Jp) (s : Jp) (nx : Nat) (xs : List (Nat × SV)) : St := mkSt Tryz.f27.ntmps nx ([(4, .is (.one (.ptr 8 0))), (5, .is (.one (.ptr 16 0))), (8, .is (.one (.ptr 64 0))), (27, .is (.one (.ro (.int .u8) k))), (28, sI .i64 k.length)] ++ xs) [(64, bc s), (16, [.row bk 16 tb]), (8, pc (0, 0))]
noncomputable abbrev tmJ (k : List Int) (tb : List Jp) (g : Int × Jp) : St := tmS k tb g.2 96 [(29, sI .i64 g.1)]
noncomputable abbrev tmK (k : List Int) (tb : List Jp) (i : Int) (ds : List Int) (g : Int × Jp) : St := tmS k tb g.2 168 [(29, sI .i64 i), (37, .is (.agg [.ints .u8 2 ds])), (38, sI .i64 g.1)]
noncomputable abbrev tmL (k : List Int) (tb : List Jp) (i : Int) (ds : List Int) (j d : Int) (g : Int × Jp) : St := tmS k tb g.2 184 [(29, sI .i64 i), (37, .is (.agg [.ints .u8 2 ds])), (38, sI .i64 j), (12, sI .u8 d), (41, sI .i64 g.1)]

theorem ent_times : enters Tryz.prog 27 Tryz.f27 := enters_mk (by kernel_rfl) (by kernel_rfl) (by kernel_rfl)
abbrev preTimes : HL [pt2, .sl (.int .u8)] → Prop := fun (_, k, _) => Bs k ∧ List.length k < 4611686018427387904
noncomputable abbrev outTimes : HL [pt2, .sl (.int .u8)] → HO [.val pt2] := fun (p, k, _) => (jpoint (F := F2) (jtm (tabAt (jt (jlift (F := F2) p)) (0, 0, 0) 15) k (List.length k)), ())
theorem fn_times : FnOk Tryz.prog 27 [pt2, .sl (.int .u8)] [.val pt2] noG preTimes outTimes := by
  have hsp : SpecsOk Tryz.prog (sps [spLift, spAdd, spPoint, spDouble]) := sps_cons (fnSpec_ok fn_lift) (sps_cons (fnSpec_ok fn_add) (sps_cons (fnSpec_ok fn_point) (sps_cons (fnSpec_ok fn_double) sps_nil)))
  refine fn_of_tr (sp := sps [spLift, spAdd, spPoint, spDouble]) ent_times (by decide) (by decide) (by kernel_rfl) ?_
  rintro w M0 ⟨p, k, ⟨⟩⟩
  revert p k
  intro (p : F2 × F2) (k : List Int) _ hp
  obtain ⟨hk, hl⟩ := hp
  have hk : Bs k := hk
  have hl : k.length < 4611686018427387904 := hl
  show Tr _ _ _ _ _ _ _
  refine tr_cut hsp mixed 4 (tmI k (jlift (F := F2) p) (0, tabAt (jt (jlift (F := F2) p)) (0, 0, 0) 0)) True ?_ (fun _ => ?_)
  · exact vcx (X := (True ∧ (tmI k (jlift (F := F2) p) (0, tabAt (jt (jlift (F := F2) p)) (0, 0, 0) 0)).triv True)) (by kernel_rfl) ⟨trivial, triv_intro trivial⟩
  generalize ho : jlift (F := F2) p = o
  refine tr_count hsp mixed (tmI k o) (fun n => ((n : Int), tabAt (jt o) (0, 0, 0) n)) 15 (fun g => (IntKind.i64.wrap (g.1 + 1), g.2.set (IntKind.i64.wrap (g.1 + 1)).toNat (jadd (F := F2) (g.2.getD g.1.toNat (0, 0, 0)) o))) (tmI k o) (c := nthC (codeOf Tryz.f27) 4) (by kernel_rfl) (by kernel_rfl) (le_of_proj (by kernel_rfl) (by kernel_rfl) trivial)
    (fun n hn => by
      show (_, _) = (_, _)
      rw [wrap_succ (by omega), Int.toNat_natCast, Int.toNat_natCast, tabAt_get _ _ _ (Nat.le_refl n) (by omega), show jadd (F := F2) (jt o n) o = jt o (n + 1) from rfl, tabAt_set]) ?_ ?_
  · intro n hn
    generalize tabAt (jt o) (0, 0, 0) n = tb
    refine vcx (X := ((decide ((n : Int) < 15) = true → (0 ≤ (n : Int) ∧ (n : Int) < ((16 : Nat) : Int)) ∧ (n : Int).toNat < 16 ∧ True ∧ (0 ≤ IntKind.i64.wrap ((n : Int) + 1) ∧ IntKind.i64.wrap ((n : Int) + 1) < ((16 : Nat) : Int)) ∧ (IntKind.i64.wrap ((n : Int) + 1)).toNat < 16 ∧
        (tmI k o (IntKind.i64.wrap ((n : Int) + 1), tb.set (IntKind.i64.wrap ((n : Int) + 1)).toNat (jadd (F := F2) (tb.getD (n : Int).toNat (0, 0, 0)) o))).triv (n < 15)) ∧
      (decide ((n : Int) < 15) = false → (tmI k o ((n : Int), tb)).triv (n = 15)))) (by kernel_rfl) ?_
    refine ⟨fun h => ?_, fun h => triv_intro (by have := dec_ge h; omega)⟩
    have hlt : n < 15 := by have := dec_lt h; omega
    rw [wrap_succ (by omega)]
    exact ⟨⟨by omega, by omega⟩, by omega, trivial, ⟨by omega, by omega⟩, by omega, triv_intro hlt⟩
  subst ho
  show Tr _ _ _ _ _ _ _
  generalize htb : tabAt (jt (jlift (F := F2) p)) (0, 0, 0) 15 = tb
  refine tr_cut hsp mixed 2 (tmJ k tb (0, jtm tb k 0)) True ?_ (fun _ => ?_)
  · exact vcx (X := (tmJ k tb (0, jtm tb k 0)).triv True) (by kernel_rfl) (triv_intro trivial)
  refine tr_countT (tmJ k tb) (fun i => ((i : Int), jtm tb k i)) k.length (fun g => (IntKind.i64.wrap (g.1 + 1), jby tb g.2 (k.getD g.1.toNat 0))) (tmJ k tb) (c := nthC (codeOf Tryz.f27) 7) (by kernel_rfl) (by kernel_rfl) (le_of_proj (by kernel_rfl) (by kernel_rfl) trivial)
    (fun i hi => by show (_, _) = (_, _); rw [wrap_succ (by omega), Int.toNat_natCast]; rfl) ?_ ?_
  · intro i hi
    generalize jtm tb k i = s
    refine tr_cut hsp mixed 2 (tmJ k tb ((i : Int), s)) (i < k.length) ?_ (fun hlt => ?_)
    · refine vcx (X := ((decide ((i : Int) < (k.length : Int)) = true → (tmJ k tb ((i : Int), s)).triv (i < k.length)) ∧ (decide ((i : Int) < (k.length : Int)) = false → (tmJ k tb ((i : Int), s)).triv (i = k.length)))) (by kernel_rfl) ?_
      exact ⟨fun h => triv_intro (by have := dec_lt h; omega), fun h => triv_intro (by have := dec_ge h; omega)⟩
    have hb : 0 ≤ k.getD i 0 ∧ k.getD i 0 < 256 := by
      have : k.getD i 0 ∈ k := by rw [List.getD_eq_getElem?_getD, List.getElem?_eq_getElem hlt]; exact List.getElem_mem hlt
      exact hk _ this
    have hbi : k.getD (i : Int).toNat 0 = k.getD i 0 := by rw [Int.toNat_natCast]
    generalize hbb : k.getD i 0 = b at hb hbi
    obtain ⟨_, d1, d2⟩ := dh_ok hb.1 hb.2
    obtain ⟨_, d3, d4⟩ := dl_ok hb.1 hb.2
    refine tr_block (c := nthC (loopOf (nthC (codeOf Tryz.f27) 7)) 2) (by kernel_rfl) (by kernel_rfl) ?_
    refine tr_cut hsp mixed 2 (tmK k tb (i : Int) [dh (k.getD (i : Int).toNat 0), dl (k.getD (i : Int).toNat 0)] (0, jsd tb [dh b, dl b] s 0)) True ?_ (fun _ => ?_)
    · refine vcx (X := ((0 ≤ (i : Int) ∧ (i : Int) < (k.length : Int)) ∧ (i : Int).toNat < k.length ∧ (0 : Int) ≤ 4 ∧ (tmK k tb (i : Int) [dh (k.getD (i : Int).toNat 0), dl (k.getD (i : Int).toNat 0)] (0, jsd tb [dh b, dl b] s 0)).triv True)) (by kernel_rfl) ?_
      exact ⟨⟨by omega, by omega⟩, by omega, by decide, triv_intro trivial⟩
    rw [hbi]
    generalize hds : [dh b, dl b] = ds
    have hdd : ∀ j, j < 2 → 0 ≤ ds.getD j 0 ∧ ds.getD j 0 < 16 := by
      intro j hj
      subst hds
      match j, hj with
      | 0, _ => exact ⟨d1, d2⟩
      | 1, _ => exact ⟨d3, d4⟩
    refine tr_countT (tmK k tb (i : Int) ds) (fun j => ((j : Int), jsd tb ds s j)) 2 (fun g => (IntKind.i64.wrap (g.1 + 1), jst tb g.2 (ds.getD g.1.toNat 0))) (tmK k tb (i : Int) ds) (c := nthC (bodyOf (nthC (loopOf (nthC (codeOf Tryz.f27) 7)) 2)) 2) (by kernel_rfl) (by kernel_rfl) (le_of_proj (by kernel_rfl) (by kernel_rfl) trivial)
      (fun j hj => by show (_, _) = (_, _); rw [wrap_succ (by omega), Int.toNat_natCast]; rfl) ?_ ?_
    · intro j hj
      generalize jsd tb ds s j = y
      refine tr_cut hsp mixed 2 (tmK k tb (i : Int) ds ((j : Int), y)) (j < 2) ?_ (fun hj2 => ?_)
      · refine vcx (X := ((decide ((j : Int) < 2) = true → (tmK k tb (i : Int) ds ((j : Int), y)).triv (j < 2)) ∧ (decide ((j : Int) < 2) = false → (tmK k tb (i : Int) ds ((j : Int), y)).triv (j = 2)))) (by kernel_rfl) ?_
        exact ⟨fun h => triv_intro (by have := dec_lt h; omega), fun h => triv_intro (by have := dec_ge h; omega)⟩
      have hd := hdd j hj2
      have hdj : ds.getD (j : Int).toNat 0 = ds.getD j 0 := by rw [Int.toNat_natCast]
      generalize ds.getD j 0 = d at hd hdj
      refine tr_block (c := nthC (loopOf (nthC (bodyOf (nthC (loopOf (nthC (codeOf Tryz.f27) 7)) 2)) 2)) 2) (by kernel_rfl) (by kernel_rfl) ?_
      refine tr_cut hsp mixed 2 (tmL k tb (i : Int) ds (j : Int) (ds.getD (j : Int).toNat 0) (0, jdn y 0)) True ?_ (fun _ => ?_)
      · refine vcx (X := ((0 ≤ (j : Int) ∧ (j : Int) < ((2 : Nat) : Int)) ∧ (tmL k tb (i : Int) ds (j : Int) (ds.getD (j : Int).toNat 0) (0, jdn y 0)).triv True)) (by kernel_rfl) ?_
        exact ⟨⟨by omega, by omega⟩, triv_intro trivial⟩
      rw [hdj]
      refine tr_count hsp mixed (tmL k tb (i : Int) ds (j : Int) d) (fun n => ((n : Int), jdn y n)) 4 (fun g => (IntKind.i64.wrap (g.1 + 1), jdbl (F := F2) g.2)) (tmL k tb (i : Int) ds (j : Int) d) (c := nthC (bodyOf (nthC (loopOf (nthC (bodyOf (nthC (loopOf (nthC (codeOf Tryz.f27) 7)) 2)) 2)) 2)) 2) (by kernel_rfl) (by kernel_rfl) (le_of_proj (by kernel_rfl) (by kernel_rfl) trivial)
        (fun n hn => by show (_, _) = (_, _); rw [wrap_succ (by omega)]; rfl) ?_ ?_
      · intro n hn
        generalize jdn y n = z
        refine vcx (X := ((decide ((n : Int) < 4) = true → True ∧ (tmL k tb (i : Int) ds (j : Int) d (IntKind.i64.wrap ((n : Int) + 1), jdbl (F := F2) z)).triv (n < 4)) ∧ (decide ((n : Int) < 4) = false → (tmL k tb (i : Int) ds (j : Int) d ((n : Int), z)).triv (n = 4)))) (by kernel_rfl) ?_
        exact ⟨fun h => ⟨trivial, triv_intro (by have := dec_lt h; omega)⟩, fun h => triv_intro (by have := dec_ge h; omega)⟩
      refine tr_cut hsp mixed 1 (tmK k tb (i : Int) ds ((j : Int), jst tb y d)) True ?_ (fun _ => ?_)
      · refine vcx (X := ((0 ≤ d ∧ d < ((16 : Nat) : Int)) ∧ d.toNat < 16 ∧ True ∧ (tmK k tb (i : Int) ds ((j : Int), jst tb y d)).triv True)) (by kernel_rfl) ?_
        exact ⟨⟨hd.1, by omega⟩, by omega, trivial, triv_intro trivial⟩
      refine tr_nil ?_
      refine tr_vc hsp mixed _ _ ?_
      exact vcx (X := (tmK k tb (i : Int) ds (IntKind.i64.wrap ((j : Int) + 1), jst tb y d)).triv (j < 2)) (by kernel_rfl) (triv_intro hj2)
    refine tr_nil ?_
    refine tr_vc hsp mixed _ _ ?_
    have ey : jby tb s b = jsd tb ds s 2 := by unfold jby; rw [hds]
    show VC _ _ _ (fun σ' => σ'.le _ (tmJ k tb (IntKind.i64.wrap ((i : Int) + 1), jby tb s b)) (i < k.length)) _ _
    rw [ey]
    generalize jsd tb ds s 2 = z
    exact vcx (X := (tmJ k tb (IntKind.i64.wrap ((i : Int) + 1), z)).triv (i < k.length)) (by kernel_rfl) (triv_intro hlt)
  · refine tr_vc hsp mixed _ _ ?_
    refine vcx (X := (True ∧ (jpoint (F := F2) (jtm tb k k.length), ()) = outTimes (p, k, ()))) (by kernel_rfl) ⟨trivial, ?_⟩
    show _ = (jpoint (F := F2) (jtm (tabAt (jt (jlift (F := F2) p)) (0, 0, 0) 15) k k.length), ())
    rw [htb]
noncomputable def spTimes : Nat × Eng.Spec := (27, fnSpec [pt2, .sl (.int .u8)] [.val pt2] preTimes outTimes)
end Go.Proofs.YtbfimfdhmggieaaGreat.g2
/- g2: Mul. -/
namespace Go.Proofs.YtbfimfdhmggieaaGreat.g2
set_option maxRecDepth 100000
open Go Go.Eng Go.RowKit Cr Go.Proofs.YtbfimfdhmggieaaGreat Go.Proofs.YtbfimfdhmggieaaGreat.fp2
noncomputable def tms (p : F2 × F2) (k : List Int) : F2 × F2 := jpoint (F := F2) (jtm (tabAt (jt (jlift (F := F2) p)) (0, 0, 0) 15) k (List.length k))
noncomputable def pml (p : F2 × F2) (k : Fr) : F2 × F2 := tms p (bytesN 32 k.v)
theorem ent_pmul : enters Tryz.prog 11 Tryz.f11 := enters_mk (by kernel_rfl) (by kernel_rfl) (by kernel_rfl)
noncomputable abbrev outPMul : HL [pt2, .fr] → HO [.val pt2] := fun (p, k, _) => (pml p k, ())
theorem fn_pmul : FnOk Tryz.prog 11 [pt2, .fr] [.val pt2] noG (fun _ => True) outPMul := by
  refine fn_of_vc (sp := sps [fr.spBytes, spTimes]) (sps_cons (fnSpec_ok fr.fn_bytes) (sps_cons (fnSpec_ok fn_times) sps_nil)) mixed ent_pmul (by decide) (by decide) ?_
  rintro w M0 ⟨p, k, ⟨⟩⟩
  revert p k
  intro (p : F2 × F2) (k : Fr) _ _
  refine vcx (X := (True ∧ (0 : Nat) + 32 ≤ 32 ∧ preTimes (p, (bytesN 32 k.v).take 32, ()) ∧ (tms p ((bytesN 32 k.v).take 32), ()) = outPMul (p, k, ()))) (by kernel_rfl) ?_
  rw [List.take_of_length_le (by rw [bytesN_length]; exact Nat.le_refl _)]
  exact ⟨trivial, by decide, ⟨bytesN_Bs _ _, by show (bytesN 32 k.v).length < _; rw [bytesN_length]; decide⟩, rfl⟩
end Go.Proofs.YtbfimfdhmggieaaGreat.g2
/- g2: the same contracts, for laws: what is computed is not unfolded; what it is on points of the curve. -/
namespace Go.Proofs.YtbfimfdhmggieaaGreat.g2
set_option maxRecDepth 100000
open Go Go.Eng Go.RowKit Cr Go.Proofs.YtbfimfdhmggieaaGreat Go.Proofs.YtbfimfdhmggieaaGreat.fp2
theorem b4_ne : b4 ≠ 0 := fun h => absurd (congrArg Prod.fst h) (by decide)
noncomputable def gG : F2 × F2 := opq (gx, gy)
noncomputable def gmul (p : F2 × F2) (k : Fr) : F2 × F2 := opq (pml p k)
theorem fo_gen : FnOk Tryz.prog 10 [] [.val pt2] noG (fun _ => True) (fun _ => (gG, ())) := fn_gen.out fun _ => by show (gG, ()) = ((gx, gy), ()); rw [gG, opq_eq]
theorem fo_mul : FnOk Tryz.prog 11 [pt2, .fr] [.val pt2] noG (fun _ => True) (fun (p, k, _) => (gmul p k, ())) := fn_pmul.out fun (p, k, _) => by show (gmul p k, ()) = (_, ()); rw [gmul, opq_eq]
noncomputable def soGen : Nat × Eng.Spec := (10, fnSpec [] [.val pt2] (fun _ => True) (fun _ => (gG, ())))
noncomputable def soMul : Nat × Eng.Spec := (11, fnSpec [pt2, .fr] [.val pt2] (fun _ => True) (fun (p, k, _) => (gmul p k, ())))
abbrev Onb (p : F2 × F2) : Prop := OnP b4 p
theorem gG_eq : gG = (gx, gy) := opq_eq _
theorem gG_on : Onb gG := by
  rw [gG_eq]
  refine .inr ?_
  show gy * gy = gx * gx * gx + b4
  refine F2.ext ?_ ?_
  · simp only [F2.mul1, F2.mul2, F2.add1]; decide +kernel
  · simp only [F2.mul1, F2.mul2, F2.add2]; decide +kernel
theorem gmul_eq {p : F2 × F2} (hp : Onb p) (k : Fr) : gmul p k = nmul p k.v.toNat := by
  rw [gmul, opq_eq, pml, tms, times_eq b4_ne hp (bytesN_Bs _ _), num_bytesN 32 _ k.nn (Int.lt_trans k.lt (by decide))]
end Go.Proofs.YtbfimfdhmggieaaGreat.g2
/- g2: the group; scalars. -/
namespace Go.Proofs.YtbfimfdhmggieaaGreat.g2
set_option maxRecDepth 100000
open Go Go.Eng Go.RowKit Cr Go.Proofs.YtbfimfdhmggieaaGreat Go.Proofs.YtbfimfdhmggieaaGreat.fp2

theorem gG_ne : gG ≠ O2 := by rw [gG_eq]; exact fun h => absurd (congrArg (fun p : F2 × F2 => p.1.1) h) (by decide)
abbrev rN : Nat := g1.rN
theorem gG_ord : nmul gG rN = O2 := by
  have h1 : Rep b4 (evP2.φ3 ((qxA, qxB), (qyA, qyB), ((1 : Nat), (0 : Nat)))) gG := by
    have h := rep_lift gG_on
    unfold jlift at h
    rw [if_neg gG_ne, gG_eq] at h
    rw [gG_eq]
    exact h
  have h2 := Ev.mul2_rep b4_ne h1 256 rN (by decide)
  have h3 := (evP2.isz_φ _).1 ord2_z
  rcases h2 with ⟨_, h⟩ | ⟨h, _⟩
  · exact h
  · exact absurd h3 h
/-- Points that come to nought r times. -/
def Sub (p : F2 × F2) : Prop := Onb p ∧ nmul p rN = O2
theorem sub_G : Sub gG := ⟨gG_on, gG_ord⟩
theorem sub_nmul {p : F2 × F2} (h : Sub p) (n : Nat) : Sub (nmul p n) := by
  refine ⟨nmul_on b4_ne h.1 n, ?_⟩
  rw [nmul_mul b4_ne h.1, Nat.mul_comm, ← nmul_mul b4_ne h.1, h.2, nmul_O]
theorem sub_gmul {p : F2 × F2} (h : Sub p) (k : Fr) : Sub (gmul p k) := by rw [gmul_eq h.1]; exact sub_nmul h _
theorem nmul_mod {p : F2 × F2} (h : Sub p) (m : Nat) : nmul p m = nmul p (m % rN) := by
  conv => lhs; rw [← Nat.div_add_mod m rN]
  rw [nmul_add b4_ne h.1, ← nmul_mul b4_ne h.1, h.2, nmul_O, O_add]
theorem frv (x : Fr) : ∃ n : Nat, x.v = (n : Int) ∧ n < rN := g1.frv x
theorem mul_of {p : F2 × F2} (h : Sub p) {x : Fr} {m : Nat} (hx : x.v = (m : Int) % (rN : Int)) : gmul p x = nmul p m := by
  rw [gmul_eq h.1, hx, nmul_mod h m, ← Int.natCast_emod, Int.toNat_natCast]
theorem mul_mul {p : F2 × F2} (h : Sub p) (x y : Fr) : gmul p (x * y) = gmul (gmul p x) y := by
  obtain ⟨m, hm, _⟩ := frv x
  obtain ⟨n, hn, _⟩ := frv y
  rw [mul_of h (x := x * y) (m := m * n) (by rw [mul_v, hm, hn, Int.natCast_mul]; rfl), gmul_eq (sub_gmul h x).1, gmul_eq h.1, hm, hn, Int.toNat_natCast, Int.toNat_natCast, nmul_mul b4_ne h.1]
theorem mul_one {p : F2 × F2} (h : Sub p) : gmul p 1 = p := by
  rw [gmul_eq h.1, one_v]; exact nmul_one
end Go.Proofs.YtbfimfdhmggieaaGreat.g2
/- pairing: the generators' value; what pairs of the groups' points make. -/
namespace Go.Proofs.YtbfimfdhmggieaaGreat.pairing
set_option maxRecDepth 100000
open Go Go.Eng Go.RowKit Cr Go.Proofs.YtbfimfdhmggieaaGreat Go.Proofs.YtbfimfdhmggieaaGreat.fp2 Go.Proofs.YtbfimfdhmggieaaGreat.tower

abbrev b1 : Fp := g1.b4
abbrev b2 : F2 := g2.b4
theorem b2_eq : b2 = e0 b1 * xi := by
  rw [F2.mul_def]
  refine F2.ext ?_ ?_
  · show (zm 4 : Fp) = zm 4 * 1 - 0 * 1
    rw [Rg.mul_one, Rg.mul_one, sub_z]
  · show (zm 4 : Fp) = zm 4 * 1 + 0 * 1
    rw [Rg.mul_one, Rg.mul_one, Rg.add_zero]
theorem b2_ns (y : F2) (h : y * y = b2) : False := by
  obtain ⟨i, hi⟩ : ∃ i : F2, (1 + 1) * i = 1 := ⟨_, Fd.mul_inv _ Fd.two_ne⟩
  have h4 : e0 b1 = (1 + 1) * (1 + 1) := by
    have h2 : ((1 + 1 : Fp) * (1 + 1)) = zm 4 := Zm.ext (by decide)
    have h3 : e0 ((1 + 1 : Fp) * (1 + 1)) = (1 + 1) * (1 + 1) := by rw [hm_e0.mul, hm_e0.add, hm_e0.one]
    rw [← h3, h2]; rfl
  refine xi_sq (s := y * i) ?_
  have e : y * i * (y * i) = y * y * (i * i) := pm_1 _ _ _ _
  have e2 : (1 + 1 : F2) * (1 + 1) * xi * (i * i) = (1 + 1) * i * ((1 + 1) * i) * xi := by ac_rfl
  rw [e, h, b2_eq, h4, e2, hi, Rg.one_mul, Rg.one_mul]
noncomputable def pp : Nat := opq fpP
noncomputable def uu : Nat := opq 15132376222941642752
noncomputable def vu : Nat := opq 15132376222941642753
noncomputable def nn : Nat := opq (fpP ^ 6 - 1)
noncomputable def NN : Nat := opq (finN pp nn vu uu)
abbrev rN : Nat := g1.rN
theorem pp_eq : pp = fpP := opq_eq _
theorem uu_eq : uu = 15132376222941642752 := opq_eq _
theorem vu_eq : vu = 15132376222941642753 := opq_eq _
theorem nn_eq : pp ^ 6 = nn + 1 := by
  rw [pp_eq, nn, opq_eq]; exact of_decide_eq_true (by kernel_rfl)
theorem NN_eq : NN = finN pp nn vu uu := opq_eq _
theorem NN_six {x : F12} (hx : x ≠ 0) (h2 : x.2 = 0) : pwn x NN = 1 := by
  rw [NN_eq]; exact kill6 pp_eq nn_eq hx h2
theorem NN_form : ∃ t, NN = nn * (2 * t) := by
  obtain ⟨M, hM⟩ : ∃ M, M = vu * vu * (uu * pp ^ 6 + pp) * (uu * uu + pp * pp + pp ^ 6) + 2 + 1 := ⟨_, rfl⟩
  have h : ∃ k, pp * pp + 1 = 2 * k := by
    rw [pp_eq]; exact ⟨(fpP * fpP + 1) / 2, of_decide_eq_true (by kernel_rfl)⟩
  obtain ⟨k, hk⟩ := h
  refine ⟨k * M, ?_⟩
  rw [NN_eq, finN, ← hM, hk, Nat.mul_assoc, Nat.mul_assoc]
theorem NN_odd {x : F12} (hx : x ≠ 0) (h1 : x.1 = 0) : pwn x NN = 1 := by
  obtain ⟨t, ht⟩ := NN_form
  have h3 : pwn x nn * x = -x := by
    have h := pw_6 pp_eq x
    rw [nn_eq] at h
    have h4 : pwn x nn * x = (x.1, -x.2) := h
    rw [h4, F12.neg_def, h1]
    exact F12.ext neg_z.symm rfl
  have h5 : pwn x nn = -1 := by
    have h6 : pwn x nn * (x * Fd.inv x) = -(x * Fd.inv x) := by rw [← Rg.mul_assoc, h3, Rg.neg_mul]
    rwa [Fd.mul_inv _ hx, Rg.mul_one] at h6
  rw [ht, pwn_mul, h5, pwn_mul]
  have h7 : pwn (-1 : F12) 2 = 1 := by
    show 1 * -1 * -1 = (1 : F12)
    rw [Rg.one_mul, Rg.neg_mul, Rg.one_mul, Rg.neg_neg]
  rw [h7, pwn_one]
theorem NN_ord {x : F12} (hx : x ≠ 0) : pwn (pwn x NN) rN = 1 := by
  obtain ⟨m, hm⟩ := fin_mul
  have e : rN = rrN := rfl
  have e2 : finN pp nn vu uu = finN fpP (fpP ^ 6 - 1) 15132376222941642753 15132376222941642752 := by
    rw [pp_eq, uu_eq, vu_eq, nn, opq_eq]
  rw [NN_eq, e2, e]
  exact fin_r hm hx
theorem uu_np : ∃ s, uu + pp = rN * s := by
  rw [uu_eq, pp_eq]
  exact ⟨(15132376222941642752 + fpP) / rN, of_decide_eq_true (by kernel_rfl)⟩
theorem NN_pos : 0 < NN := by
  have h : NN ≠ 0 := by
    rw [NN_eq, show finN pp nn vu uu = finN fpP (fpP ^ 6 - 1) 15132376222941642753 15132376222941642752 by rw [pp_eq, uu_eq, vu_eq, nn, opq_eq]]
    exact of_decide_eq_true (by kernel_rfl)
  omega
theorem lastP : LastP NN pp uu rN := ⟨pp_eq, fun _ h h2 => NN_six h h2, fun _ h h1 => NN_odd h h1, fun _ h => NN_ord h, uu_np, NN_pos⟩
theorem uu_pos : 0 < uu := by rw [uu_eq]; exact of_decide_eq_true (by kernel_rfl)
theorem bls_val : bval (bls 63) 1 = uu := by rw [uu_eq]; exact of_decide_eq_true (by kernel_rfl)
theorem rN_pos : 0 < rN := of_decide_eq_true (by kernel_rfl)

def rtv : V2 := vcj (rtN, rtN)
theorem rtv_eq : q2 rtv = rt1 := by
  obtain ⟨m, hm⟩ : ∃ m, m = fpP / 12 := ⟨_, rfl⟩
  have h1 : fpP / 6 = 2 * m + 1 := by rw [hm]; exact of_decide_eq_true (by kernel_rfl)
  have h2 : m = 2 * (2 * (fpP / 48)) + 2 + 1 := by rw [hm]; exact of_decide_eq_true (by kernel_rfl)
  have h3 : (zm (rtN : Int) : Fp) = pwn (1 + 1 : Fp) m := by
    rw [← zpow_pwn]
    refine Zm.ext ?_
    rw [zpow_two_v, ← npm_eq fpP 2 (of_decide_eq_true (by kernel_rfl)) 384 m (by rw [hm]; exact of_decide_eq_true (by kernel_rfl)), hm]
    exact of_decide_eq_true (by kernel_rfl)
  rw [rt1_eq rfl, xi_pw h1 h2, ← h3, rtv, q2_cj]; rfl

theorem fro_wi : fro pp wi * e2 rt1 = wi := by
  have hq : pp = 6 * (fpP / 6) + 1 := pp_eq.trans (of_decide_eq_true (by kernel_rfl))
  have h1 : fro pp ww = e2 rt1 * ww := by
    rw [rt1_eq rfl]; exact pw_ww hq
  have h2 := congrArg (fro pp) ww_wi
  have hf := hm_fro pp_eq
  rw [hf.mul, hf.one, h1] at h2
  have h3 : e2 rt1 * ww * fro pp wi * wi = wi := by rw [h2, Rg.one_mul]
  have h4 : e2 rt1 * ww * fro pp wi * wi = fro pp wi * e2 rt1 * (ww * wi) := by ac_rfl
  rw [h4, ww_wi, Rg.mul_one] at h3
  exact h3
theorem fro_e2 (x : F2) : fro pp (e2 x) = e2 (x.1, -x.2) := by
  show pwn (e2 x) pp = _
  rw [e2_pw, pw_f2 pp_eq]
theorem fro_tws {x y x' y' : F2} (hx : ((x.1, -x.2) : F2) = x' * (rt1 * rt1)) (hy : ((y.1, -y.2) : F2) = -(y' * (rt1 * rt1 * rt1))) : hmp (fro pp) (tws e2 wi (x, y)) = pneg (tws e2 wi (x', y')) := by
  have hf := hm_fro pp_eq
  refine Prod.ext ?_ ?_
  · show fro pp (e2 x * (wi * wi)) = e2 x' * (wi * wi)
    rw [hf.mul, hf.mul, fro_e2, hx, hm_e2.mul, hm_e2.mul]
    have e : e2 x' * (e2 rt1 * e2 rt1) * (fro pp wi * fro pp wi) = e2 x' * (fro pp wi * e2 rt1 * (fro pp wi * e2 rt1)) := by ac_rfl
    rw [e, fro_wi]
  · show fro pp (e2 y * (wi * wi * wi)) = -(e2 y' * (wi * wi * wi))
    rw [hf.mul, hf.mul, hf.mul, fro_e2, hy, hm_e2.neg, hm_e2.mul, hm_e2.mul, hm_e2.mul, Rg.neg_mul]
    have e : e2 y' * (e2 rt1 * e2 rt1 * e2 rt1) * (fro pp wi * fro pp wi * fro pp wi) = e2 y' * (fro pp wi * e2 rt1 * (fro pp wi * e2 rt1) * (fro pp wi * e2 rt1)) := by ac_rfl
    rw [e, fro_wi]
def qx : V2 := (qxA, qxB)
def qy : V2 := (qyA, qyB)
/-- The generator, so often as the parameter says: what the power p makes of it. -/
noncomputable def chq (T : V3) : Bool :=
  fo6 T fun T => fo2 (vmul T.2.2 T.2.2) fun zz => fo2 (vmul zz T.2.2) fun zzz => fo2 (vmul rtv rtv) fun r2 => fo2 (vmul r2 rtv) fun r3 =>
  evP2.isz (vsub (vmul (vcj qx) zz) (vmul T.1 r2)) && evP2.isz (vadd (vmul (vcj qy) zzz) (vmul T.2.1 r3))
theorem chq_ok : chq (evP2.mul2 (qx, qy, ((1 : Nat), (0 : Nat))) 64 15132376222941642752) = true := by kernel_rfl
theorem chq_nz : evP2.isz (evP2.mul2 (qx, qy, ((1 : Nat), (0 : Nat))) 64 15132376222941642752).2.2 = false := by kernel_rfl
theorem gG_rep : Rep b2 (evP2.φ3 (qx, qy, ((1 : Nat), (0 : Nat)))) g2.gG := by
  have h := rep_lift g2.gG_on
  unfold jlift at h
  rw [if_neg g2.gG_ne, g2.gG_eq] at h
  rw [g2.gG_eq]
  exact h
theorem gG_fro : hmp (fro pp) (tws e2 wi g2.gG) = pneg (tws e2 wi (nmul g2.gG uu)) := by
  have h2 := Ev.mul2_rep g2.b4_ne gG_rep 64 15132376222941642752 (of_decide_eq_true (by kernel_rfl))
  have h3 := chq_ok
  have h4 := chq_nz
  rw [uu_eq]
  obtain ⟨T, hT⟩ : ∃ T : V3, T = evP2.mul2 (qx, qy, ((1 : Nat), (0 : Nat))) 64 15132376222941642752 := ⟨_, rfl⟩
  obtain ⟨G, hG⟩ : ∃ G, G = nmul g2.gG 15132376222941642752 := ⟨_, rfl⟩
  rw [← hT] at h3 h4
  have h2 : Rep b2 (evP2.φ3 (evP2.mul2 (qx, qy, ((1 : Nat), (0 : Nat))) 64 15132376222941642752)) (nmul g2.gG 15132376222941642752) := h2
  rw [← hT, ← hG] at h2
  rw [← hG]
  have nz : q2 T.2.2 ≠ 0 := fun e => by
    have := (evP2.isz_φ T.2.2).2 e
    rw [h4] at this; cases this
  obtain ⟨_, e1, e2', _⟩ := h2.resolve_left (fun e => nz e.1)
  have e1 : q2 T.1 = G.1 * (q2 T.2.2 * q2 T.2.2) := e1
  have e2' : q2 T.2.1 = G.2 * (q2 T.2.2 * (q2 T.2.2 * q2 T.2.2)) := e2'
  unfold chq at h3
  simp only [fo6_eq, fo2_eq] at h3
  rw [Bool.and_eq_true] at h3
  have h5 : q2 (vsub (vmul (vcj qx) (vmul T.2.2 T.2.2)) (vmul T.1 (vmul rtv rtv))) = 0 := (evP2.isz_φ _).1 h3.1
  have h6 : q2 (vadd (vmul (vcj qy) (vmul (vmul T.2.2 T.2.2) T.2.2)) (vmul T.2.1 (vmul (vmul rtv rtv) rtv))) = 0 := (evP2.isz_φ _).1 h3.2
  simp only [q2_sub, q2_mul, q2_cj, q2_add, rtv_eq] at h5 h6
  have k5 := Rg.eq_of_sub h5
  have k6 := (Rg.neg_eq h6).symm
  rw [e1] at k5
  rw [e2'] at k6
  obtain ⟨Z, hZ⟩ : ∃ Z, Z = q2 T.2.2 := ⟨_, rfl⟩
  rw [← hZ] at k5 k6 nz
  rw [g2.gG_eq]
  refine fro_tws (x := g2.gx) (y := g2.gy) (x' := G.1) (y' := G.2) ?_ ?_
  · refine Fd.mul_left (Fd.mul_ne nz nz) ?_
    rw [Rg.mul_comm]
    refine Eq.trans k5 ?_
    ac_rfl
  · refine Fd.mul_left (Fd.mul_ne (Fd.mul_ne nz nz) nz) ?_
    have k7 : ((g2.gy.1, -g2.gy.2) : F2) * (Z * Z * Z) = -(G.2 * (Z * (Z * Z)) * (rt1 * rt1 * rt1)) := by
      rw [k6, Rg.neg_neg]; rfl
    rw [Rg.mul_comm, k7, Rg.mul_neg]
    congr 1
    ac_rfl
theorem gq_nmul (n : Nat) : GQ pp uu rN b2 (nmul g2.gG n) := by
  have hB := bb_ne g1.b4_ne
  have eb := bb_2 b2_eq
  have oG : OnP b2 g2.gG := g2.gG_on
  have oT := tws_onP hm_e2 eb oG
  have oU : OnP b2 (nmul g2.gG uu) := nmul_on g2.b4_ne oG uu
  have hs : g2.Sub (nmul g2.gG n) := g2.sub_nmul g2.sub_G n
  refine ⟨hs.1, ?_, hs.2, ?_⟩
  · have h1 : tws e2 wi (nmul g2.gG n) = nmul (tws e2 wi g2.gG) n := tws_nmul hm_e2 eb g2.b4_ne hB oG n
    rw [h1, hmp_nmul (f := fro pp) (b' := e1 b1) (hm_fro pp_eq) (fro_e1 pp_eq b1).symm hB hB oT, gG_fro, nmul_neg hB (tws_onP hm_e2 eb oU), ← tws_nmul hm_e2 eb g2.b4_ne hB oU, nmul_mul g2.b4_ne oG, nmul_mul g2.b4_ne oG, Nat.mul_comm]
  · by_cases hQ : nmul g2.gG n = O2
    · exact .inl hQ
    · refine .inr fun k h0 h1 hk => hQ ?_
      have hv : (zm (k : Int) : Fr).v = (k : Int) % (rN : Int) := rfl
      have hk' : k < rN := by
        rw [uu_eq] at h1
        exact Nat.lt_of_le_of_lt h1 (of_decide_eq_true (by kernel_rfl))
      have hx : (zm (k : Int) : Fr) ≠ 0 := fun e => by
        have h2 := congrArg Zm.v e
        rw [hv] at h2
        have h2 : (k : Int) % (rN : Int) = 0 := h2
        rw [Int.emod_eq_of_lt (by omega) (Int.ofNat_lt.2 hk')] at h2
        omega
      have h3 := g2.mul_of hs hv
      rw [hk] at h3
      have h4 := g2.mul_mul hs (zm (k : Int) : Fr) (Fd.inv (zm (k : Int)))
      rw [Fd.mul_inv _ hx, g2.mul_one hs, h3, g2.gmul_eq (.inl rfl), nmul_O] at h4
      exact h4

theorem bls_63 : bls 63 = [true, false, true, false, false, true, false, false, false, false, false, false, false, false, true, false, false, false, false, false, false, false, false, false, false, false, false, false, false, false, false, false, false, false, false, false, false, false, false, false, false, false, false, false, false, false, true, false, false, false, false, false, false, false, false, false, false, false, false, false, false, false, false] := of_decide_eq_true (by kernel_rfl)
noncomputable def gev : F12 := ev lastP (bls 63) g1.gG g2.gG
def mil : V12 := vlp (qx, qy) gxN gyN [true, false, true, false, false, true, false, false, false, false, false, false, false, false, true, false, false, false, false, false, false, false, false, false, false, false, false, false, false, false, false, false, false, false, false, false, false, false, false, false, false, false, false, false, false, false, true, false, false, false, false, false, false, false, false, false, false, false, false, false, false, false, false] vone (qx, qy, ((1 : Nat), (0 : Nat)))
theorem mil_nz : evP2.isz (fo12 mil fun x => vfin rtv x).2.1 = false := by kernel_rfl
theorem gq_gG : GQ pp uu rN b2 g2.gG := by
  have h := gq_nmul 1
  rwa [nmul_one] at h
theorem gev_mil : gev = pwn (q12 mil) NN := by
  have h := sg_ev lastP g1.b4_ne g2.b4_ne b2_eq bls_val g1.gG_ne g2.gG_ne gq_gG
  rw [gev, ← h, g1.gG_eq, g2.gG_eq, bls_63]
  refine congrArg (fun x => pwn x NN) ?_
  exact q_vlp (qx, qy) gxN gyN _ vone (qx, qy, ((1 : Nat), (0 : Nat)))
theorem gev_ne : gev ≠ 1 := by
  intro h
  rw [gev_mil] at h
  have hz := mil_nz
  rw [fo12_eq] at hz
  obtain ⟨X, hX⟩ : ∃ X, X = mil := ⟨_, rfl⟩
  rw [← hX] at h hz
  have k := q_vfin rtv_eq pp_eq vu_eq uu_eq X
  obtain ⟨Y, hY⟩ : ∃ Y, Y = vfin rtv X := ⟨_, rfl⟩
  rw [← hY] at k hz
  rw [NN_eq, finN, Nat.mul_assoc, Nat.mul_comm, pwn_mul, ← k] at h
  have h1 : pwn (q12 Y) (pp ^ 6) = q12 Y := by
    rw [nn_eq]
    show pwn (q12 Y) nn * q12 Y = _
    rw [h, Rg.one_mul]
  rw [pw_6 pp_eq] at h1
  have h2 : -(q12 Y).2 = (q12 Y).2 := congrArg Prod.snd h1
  have h3 : (q12 Y).2 = 0 := eq_neg_self h2.symm
  have h4 : q2 Y.2.1 = 0 := congrArg Prod.fst h3
  have h5 := (evP2.isz_φ Y.2.1).2 h4
  rw [hz] at h5; cases h5
end Go.Proofs.YtbfimfdhmggieaaGreat.pairing
namespace Go.Proofs.YtbfimfdhmggieaaGreat.pairing
set_option maxRecDepth 100000
open Go Go.Eng Go.RowKit Cr Go.Proofs.YtbfimfdhmggieaaGreat Go.Proofs.YtbfimfdhmggieaaGreat.fp2 Go.Proofs.YtbfimfdhmggieaaGreat.tower

theorem gev_r : pwn gev rN = 1 := ev_r lastP g1.b4_ne g2.b4_ne b2_ns b2_eq bls_val g1.gG_on gq_gG
theorem gev_mod (m : Nat) : pwn gev m = pwn gev (m % rN) := by
  conv => lhs; rw [← Nat.div_add_mod m rN]
  rw [pwn_add, pwn_mul, gev_r, pwn_one, Rg.one_mul]
theorem ev_gn (b : Nat) : ev lastP (bls 63) g1.gG (nmul g2.gG b) = pwn gev b := by
  induction b with
  | zero => exact ev_OQ lastP _
  | succ b ih =>
    show ev lastP (bls 63) g1.gG (padd (nmul g2.gG b) g2.gG) = pwn gev b * gev
    rw [ev_addQ lastP g1.b4_ne g2.b4_ne b2_ns b2_eq bls_val g1.gG_on (gq_nmul b) gq_gG, ih]; rfl
theorem ev_mn (a b : Nat) : ev lastP (bls 63) (nmul g1.gG a) (nmul g2.gG b) = pwn gev (a * b) := by
  rw [ev_mulP lastP g1.b4_ne g2.b4_ne b2_ns b2_eq bls_val g1.gG_on (gq_nmul b) uu_pos, ev_gn, ← pwn_mul, Nat.mul_comm]
/-- The generators' value, so often as a scalar says. -/
noncomputable def pe (x : Fr) : F12 := opq (cjo (pwn gev x.v.toNat))
theorem pe_eq (x : Fr) : pe x = pwn (pwn gev x.v.toNat) (pp ^ 6) := by rw [pe, opq_eq, cjo_eq pp_eq]
theorem pe_of {x : Fr} {m : Nat} (hx : x.v = (m : Int) % (rN : Int)) : pe x = pwn (pwn gev m) (pp ^ 6) := by
  rw [pe_eq, gev_mod m, hx, ← Int.natCast_emod, Int.toNat_natCast]
theorem pe_zero : pe 0 = 1 := by
  rw [pe_eq, zero_v]
  show pwn (1 : F12) _ = 1
  exact pwn_one _
theorem pe_add (x y : Fr) : pe (x + y) = pe x * pe y := by
  obtain ⟨m, hm, _⟩ := g1.frv x
  obtain ⟨n, hn, _⟩ := g1.frv y
  rw [pe_of (x := x + y) (m := m + n) (by rw [add_v, hm, hn, Int.natCast_add]; rfl), pe_eq, pe_eq, hm, hn, Int.toNat_natCast, Int.toNat_natCast, pwn_add, pwn_prod]
theorem pe_mul (x y : Fr) : pe (x * y) = pwn (pe x) y.v.toNat := by
  obtain ⟨m, hm, _⟩ := g1.frv x
  obtain ⟨n, hn, _⟩ := g1.frv y
  rw [pe_of (x := x * y) (m := m * n) (by rw [mul_v, hm, hn, Int.natCast_mul]; rfl), pe_eq, hm, hn, Int.toNat_natCast, Int.toNat_natCast, pwn_mul, ← pwn_mul (pwn gev m), ← pwn_mul (pwn gev m), Nat.mul_comm]
theorem pe_iff (x : Fr) : pe x = 1 ↔ x = 0 := by
  constructor
  · intro h
    by_cases hx : x = 0
    · exact hx
    · exfalso
      have h1 := pe_mul x (Fd.inv x)
      rw [Fd.mul_inv _ hx, h, pwn_one, pe_of (x := 1) (m := 1) (by rw [one_v]; rfl), pw_1, pw_6 pp_eq] at h1
      have h2 := congrArg Prod.fst h1
      have h2 : gev.1 = (1 : F12).1 := h2
      have h3 : -gev.2 = (1 : F12).2 := congrArg Prod.snd h1
      have h4 : gev.2 = (1 : F12).2 := by
        rw [← Rg.neg_neg gev.2, h3]
        exact neg_z (F := F6)
      exact gev_ne (F12.ext h2 h4)
  · rintro rfl; exact pe_zero
/-- Sums of products. -/
noncomputable def dotk (xs ys : List Fr) (k : Nat) : Fr := it (fun i s => s + xs.getD i 0 * ys.getD i 0) 0 k
noncomputable def mp1 (xs : List Fr) : List (Fp × Fp) := xs.map fun x => g1.gmul g1.gG x
noncomputable def mp2 (ys : List Fr) : List (F2 × F2) := ys.map fun y => g2.gmul g2.gG y
theorem mp1_at {xs : List Fr} {i : Nat} (h : i < xs.length) : (mp1 xs).getD i ((0 : Fp), (0 : Fp)) = nmul g1.gG (xs.getD i 0).v.toNat := by
  rw [← g1.gmul_eq g1.gG_on]
  simp [mp1, List.getD_eq_getElem?_getD, h]
theorem mp2_at {ys : List Fr} {i : Nat} (h : i < ys.length) : (mp2 ys).getD i (((0 : Fp), (0 : Fp)), (0 : Fp), (0 : Fp)) = nmul g2.gG (ys.getD i 0).v.toNat := by
  rw [← g2.gmul_eq g2.gG_on]
  simp [mp2, List.getD_eq_getElem?_getD, h]
theorem evl_val (xs ys : List Fr) : ∀ k, k ≤ xs.length → k ≤ ys.length → pwn (evl lastP (bls 63) (mp1 xs) (mp2 ys) k) (pp ^ 6) = pe (dotk xs ys k)
  | 0, _, _ => (pwn_one _).trans pe_zero.symm
  | k + 1, h1, h2 => by
    show pwn (evl lastP (bls 63) (mp1 xs) (mp2 ys) k * ev lastP (bls 63) ((mp1 xs).getD k ((0 : Fp), (0 : Fp))) ((mp2 ys).getD k (((0 : Fp), (0 : Fp)), (0 : Fp), (0 : Fp)))) (pp ^ 6) = pe (dotk xs ys k + xs.getD k 0 * ys.getD k 0)
    rw [pwn_prod, evl_val xs ys k (by omega) (by omega), mp1_at (by omega), mp2_at (by omega), ev_mn, pe_add]
    congr 1
    obtain ⟨m, hm, _⟩ := g1.frv (xs.getD k 0)
    obtain ⟨n, hn, _⟩ := g1.frv (ys.getD k 0)
    rw [pe_of (x := xs.getD k 0 * ys.getD k 0) (m := m * n) (by rw [mul_v, hm, hn, Int.natCast_mul]; rfl), hm, hn, Int.toNat_natCast, Int.toNat_natCast]
/-- WHAT PAIRS MAKE. -/
theorem pairs_val {xs ys : List Fr} (h : xs.length = ys.length) : fino (lino (mp1 xs) (mp2 ys)) = pe (dotk xs ys xs.length) := by
  have hl : (mp1 xs).length = xs.length := List.length_map _
  rw [fino_lino lastP g1.b4_ne g2.b4_ne b2_ns b2_eq bls_val rN_pos nn_eq NN_eq vu_eq uu_eq (ps := mp1 xs) (qs := mp2 ys), hl, cjo_eq pp_eq, evl_val xs ys _ (Nat.le_refl _) (Nat.le_of_eq h)]
  · intro i hi
    rw [hl] at hi
    rw [mp1_at hi]; exact nmul_on g1.b4_ne g1.gG_on _
  · intro i hi
    rw [hl] at hi
    rw [mp2_at (by omega)]; exact gq_nmul _
theorem pair_val (x y : Fr) : fino (lino [g1.gmul g1.gG x] [g2.gmul g2.gG y]) = pe (x * y) := by
  have h := pairs_val (xs := [x]) (ys := [y]) rfl
  refine Eq.trans h ?_
  show pe (0 + x * y) = _
  rw [Rg.zero_add]
end Go.Proofs.YtbfimfdhmggieaaGreat.pairing
