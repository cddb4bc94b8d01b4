/- g1: In. -/
import Derived.Test.YtbfimfdhmggieaaDoorML24aPQ
/- Contracts of package fp2. -/
namespace Go.Proofs.YtbfimfdhmggieaaDoor.fp2
set_option maxRecDepth 100000
open Go Go.Eng Go.RowKit Cr Go.Proofs.YtbfimfdhmggieaaDoor
end Go.Proofs.YtbfimfdhmggieaaDoor.fp2
/- Roots of a + b i. No program here. -/
namespace Cr
open Rg Fd
end Cr
/- Sqrt of package fp2. -/
namespace Go.Proofs.YtbfimfdhmggieaaDoor.fp2
set_option maxRecDepth 100000
open Go Go.Eng Go.RowKit Cr Go.Proofs.YtbfimfdhmggieaaDoor Rg Fd
end Go.Proofs.YtbfimfdhmggieaaDoor.fp2
/- g1: Times. -/
namespace Go.Proofs.YtbfimfdhmggieaaDoor.g1
set_option maxRecDepth 100000
open Go Go.Eng Go.RowKit Cr Go.Proofs.YtbfimfdhmggieaaDoor

abbrev Jp := Fp × Fp × Fp
noncomputable def tmI (k : List Int) (o : Jp) (g : Int × List Jp) : St := mkSt Tryd.f69.ntmps 64 [(1, .is (.one (.ro (.int .u8) k))), (4, .is (.one (.ptr 8 0))), (5, .is (.one (.ptr 16 0))), (6, .is (.one (.ptr 40 0))), (15, sI .i64 g.1)] [(40, bc o), (16, [.row bk 16 g.2]), (8, pc (0, 0))]
noncomputable def tmS (k : List Int) (tb : List Jp) (s : Jp) (nx : Nat) (xs : List (Nat × SV)) : St := mkSt Tryd.f69.ntmps nx ([(4, .is (.one (.ptr 8 0))), (5, .is (.one (.ptr 16 0))), (8, .is (.one (.ptr 64 0))), (27, .is (.one (.ro (.int .u8) k))), (28, sI .i64 k.length)] ++ xs) [(64, bc s), (16, [.row bk 16 tb]), (8, pc (0, 0))]
noncomputable abbrev tmJ (k : List Int) (tb : List Jp) (g : Int × Jp) : St := tmS k tb g.2 96 [(29, sI .i64 g.1)]
noncomputable abbrev tmK (k : List Int) (tb : List Jp) (i : Int) (ds : List Int) (g : Int × Jp) : St := tmS k tb g.2 168 [(29, sI .i64 i), (37, .is (.agg [.ints .u8 2 ds])), (38, sI .i64 g.1)]
noncomputable abbrev tmL (k : List Int) (tb : List Jp) (i : Int) (ds : List Int) (j d : Int) (g : Int × Jp) : St := tmS k tb g.2 184 [(29, sI .i64 i), (37, .is (.agg [.ints .u8 2 ds])), (38, sI .i64 j), (12, sI .u8 d), (41, sI .i64 g.1)]

theorem ent_times : enters Tryd.prog 69 Tryd.f69 := enters_mk (by kernel_rfl) (by kernel_rfl) (by kernel_rfl)
abbrev preTimes : HL [pt1, .sl (.int .u8)] → Prop := fun (_, k, _) => Bs k ∧ List.length k < 4611686018427387904
noncomputable abbrev outTimes : HL [pt1, .sl (.int .u8)] → HO [.val pt1] := fun (p, k, _) => (jpoint (F := Fp) (jtm (tabAt (jt (jlift (F := Fp) p)) (0, 0, 0) 15) k (List.length k)), ())
theorem fn_times : FnOk Tryd.prog 69 [pt1, .sl (.int .u8)] [.val pt1] noG preTimes outTimes := by
  have hsp : SpecsOk Tryd.prog (sps [spLift, spAdd, spPoint, spDouble]) := sps_cons (fnSpec_ok fn_lift) (sps_cons (fnSpec_ok fn_add) (sps_cons (fnSpec_ok fn_point) (sps_cons (fnSpec_ok fn_double) sps_nil)))
  refine fn_of_tr (sp := sps [spLift, spAdd, spPoint, spDouble]) ent_times (by decide) (by decide) (by kernel_rfl) ?_
  rintro w M0 ⟨p, k, ⟨⟩⟩
  revert p k
  intro (p : Fp × Fp) (k : List Int) _ hp
  obtain ⟨hk, hl⟩ := hp
  have hk : Bs k := hk
  have hl : k.length < 4611686018427387904 := hl
  show Tr _ _ _ _ _ _ _
  refine tr_cut hsp mixed 4 (tmI k (jlift (F := Fp) p) (0, tabAt (jt (jlift (F := Fp) p)) (0, 0, 0) 0)) True ?_ (fun _ => ?_)
  · exact vcx (X := (True ∧ (tmI k (jlift (F := Fp) p) (0, tabAt (jt (jlift (F := Fp) p)) (0, 0, 0) 0)).triv True)) (by kernel_rfl) ⟨trivial, triv_intro trivial⟩
  generalize ho : jlift (F := Fp) p = o
  refine tr_count hsp mixed (tmI k o) (fun n => ((n : Int), tabAt (jt o) (0, 0, 0) n)) 15 (fun g => (IntKind.i64.wrap (g.1 + 1), g.2.set (IntKind.i64.wrap (g.1 + 1)).toNat (jadd (F := Fp) (g.2.getD g.1.toNat (0, 0, 0)) o))) (tmI k o) (c := nthC (codeOf Tryd.f69) 4) (by kernel_rfl) (by kernel_rfl) (le_of_proj (by kernel_rfl) (by kernel_rfl) trivial)
    (fun n hn => by
      show (_, _) = (_, _)
      rw [wrap_succ (by omega), Int.toNat_natCast, Int.toNat_natCast, tabAt_get _ _ _ (Nat.le_refl n) (by omega), show jadd (F := Fp) (jt o n) o = jt o (n + 1) from rfl, tabAt_set]) ?_ ?_
  · intro n hn
    generalize tabAt (jt o) (0, 0, 0) n = tb
    refine vcx (X := ((decide ((n : Int) < 15) = true → (0 ≤ (n : Int) ∧ (n : Int) < ((16 : Nat) : Int)) ∧ (n : Int).toNat < 16 ∧ True ∧ (0 ≤ IntKind.i64.wrap ((n : Int) + 1) ∧ IntKind.i64.wrap ((n : Int) + 1) < ((16 : Nat) : Int)) ∧ (IntKind.i64.wrap ((n : Int) + 1)).toNat < 16 ∧
        (tmI k o (IntKind.i64.wrap ((n : Int) + 1), tb.set (IntKind.i64.wrap ((n : Int) + 1)).toNat (jadd (F := Fp) (tb.getD (n : Int).toNat (0, 0, 0)) o))).triv (n < 15)) ∧
      (decide ((n : Int) < 15) = false → (tmI k o ((n : Int), tb)).triv (n = 15)))) (by kernel_rfl) ?_
    refine ⟨fun h => ?_, fun h => triv_intro (by have := dec_ge h; omega)⟩
    have hlt : n < 15 := by have := dec_lt h; omega
    rw [wrap_succ (by omega)]
    exact ⟨⟨by omega, by omega⟩, by omega, trivial, ⟨by omega, by omega⟩, by omega, triv_intro hlt⟩
  subst ho
  show Tr _ _ _ _ _ _ _
  generalize htb : tabAt (jt (jlift (F := Fp) p)) (0, 0, 0) 15 = tb
  refine tr_cut hsp mixed 2 (tmJ k tb (0, jtm tb k 0)) True ?_ (fun _ => ?_)
  · exact vcx (X := (tmJ k tb (0, jtm tb k 0)).triv True) (by kernel_rfl) (triv_intro trivial)
  refine tr_countT (tmJ k tb) (fun i => ((i : Int), jtm tb k i)) k.length (fun g => (IntKind.i64.wrap (g.1 + 1), jby tb g.2 (k.getD g.1.toNat 0))) (tmJ k tb) (c := nthC (codeOf Tryd.f69) 7) (by kernel_rfl) (by kernel_rfl) (le_of_proj (by kernel_rfl) (by kernel_rfl) trivial)
    (fun i hi => by show (_, _) = (_, _); rw [wrap_succ (by omega), Int.toNat_natCast]; rfl) ?_ ?_
  · intro i hi
    generalize jtm tb k i = s
    refine tr_cut hsp mixed 2 (tmJ k tb ((i : Int), s)) (i < k.length) ?_ (fun hlt => ?_)
    · refine vcx (X := ((decide ((i : Int) < (k.length : Int)) = true → (tmJ k tb ((i : Int), s)).triv (i < k.length)) ∧ (decide ((i : Int) < (k.length : Int)) = false → (tmJ k tb ((i : Int), s)).triv (i = k.length)))) (by kernel_rfl) ?_
      exact ⟨fun h => triv_intro (by have := dec_lt h; omega), fun h => triv_intro (by have := dec_ge h; omega)⟩
    have hb : 0 ≤ k.getD i 0 ∧ k.getD i 0 < 256 := by
      have : k.getD i 0 ∈ k := by rw [List.getD_eq_getElem?_getD, List.getElem?_eq_getElem hlt]; exact List.getElem_mem hlt
      exact hk _ this
    have hbi : k.getD (i : Int).toNat 0 = k.getD i 0 := by rw [Int.toNat_natCast]
    generalize hbb : k.getD i 0 = b at hb hbi
    obtain ⟨_, d1, d2⟩ := dh_ok hb.1 hb.2
    obtain ⟨_, d3, d4⟩ := dl_ok hb.1 hb.2
    refine tr_block (c := nthC (loopOf (nthC (codeOf Tryd.f69) 7)) 2) (by kernel_rfl) (by kernel_rfl) ?_
    refine tr_cut hsp mixed 2 (tmK k tb (i : Int) [dh (k.getD (i : Int).toNat 0), dl (k.getD (i : Int).toNat 0)] (0, jsd tb [dh b, dl b] s 0)) True ?_ (fun _ => ?_)
    · refine vcx (X := ((0 ≤ (i : Int) ∧ (i : Int) < (k.length : Int)) ∧ (i : Int).toNat < k.length ∧ (0 : Int) ≤ 4 ∧ (tmK k tb (i : Int) [dh (k.getD (i : Int).toNat 0), dl (k.getD (i : Int).toNat 0)] (0, jsd tb [dh b, dl b] s 0)).triv True)) (by kernel_rfl) ?_
      exact ⟨⟨by omega, by omega⟩, by omega, by decide, triv_intro trivial⟩
    rw [hbi]
    generalize hds : [dh b, dl b] = ds
    have hdd : ∀ j, j < 2 → 0 ≤ ds.getD j 0 ∧ ds.getD j 0 < 16 := by
      intro j hj
      subst hds
      match j, hj with
      | 0, _ => exact ⟨d1, d2⟩
      | 1, _ => exact ⟨d3, d4⟩
    refine tr_countT (tmK k tb (i : Int) ds) (fun j => ((j : Int), jsd tb ds s j)) 2 (fun g => (IntKind.i64.wrap (g.1 + 1), jst tb g.2 (ds.getD g.1.toNat 0))) (tmK k tb (i : Int) ds) (c := nthC (bodyOf (nthC (loopOf (nthC (codeOf Tryd.f69) 7)) 2)) 2) (by kernel_rfl) (by kernel_rfl) (le_of_proj (by kernel_rfl) (by kernel_rfl) trivial)
      (fun j hj => by show (_, _) = (_, _); rw [wrap_succ (by omega), Int.toNat_natCast]; rfl) ?_ ?_
    · intro j hj
      generalize jsd tb ds s j = y
      refine tr_cut hsp mixed 2 (tmK k tb (i : Int) ds ((j : Int), y)) (j < 2) ?_ (fun hj2 => ?_)
      · refine vcx (X := ((decide ((j : Int) < 2) = true → (tmK k tb (i : Int) ds ((j : Int), y)).triv (j < 2)) ∧ (decide ((j : Int) < 2) = false → (tmK k tb (i : Int) ds ((j : Int), y)).triv (j = 2)))) (by kernel_rfl) ?_
        exact ⟨fun h => triv_intro (by have := dec_lt h; omega), fun h => triv_intro (by have := dec_ge h; omega)⟩
      have hd := hdd j hj2
      have hdj : ds.getD (j : Int).toNat 0 = ds.getD j 0 := by rw [Int.toNat_natCast]
      generalize ds.getD j 0 = d at hd hdj
      refine tr_block (c := nthC (loopOf (nthC (bodyOf (nthC (loopOf (nthC (codeOf Tryd.f69) 7)) 2)) 2)) 2) (by kernel_rfl) (by kernel_rfl) ?_
      refine tr_cut hsp mixed 2 (tmL k tb (i : Int) ds (j : Int) (ds.getD (j : Int).toNat 0) (0, jdn y 0)) True ?_ (fun _ => ?_)
      · refine vcx (X := ((0 ≤ (j : Int) ∧ (j : Int) < ((2 : Nat) : Int)) ∧ (tmL k tb (i : Int) ds (j : Int) (ds.getD (j : Int).toNat 0) (0, jdn y 0)).triv True)) (by kernel_rfl) ?_
        exact ⟨⟨by omega, by omega⟩, triv_intro trivial⟩
      rw [hdj]
      refine tr_count hsp mixed (tmL k tb (i : Int) ds (j : Int) d) (fun n => ((n : Int), jdn y n)) 4 (fun g => (IntKind.i64.wrap (g.1 + 1), jdbl (F := Fp) g.2)) (tmL k tb (i : Int) ds (j : Int) d) (c := nthC (bodyOf (nthC (loopOf (nthC (bodyOf (nthC (loopOf (nthC (codeOf Tryd.f69) 7)) 2)) 2)) 2)) 2) (by kernel_rfl) (by kernel_rfl) (le_of_proj (by kernel_rfl) (by kernel_rfl) trivial)
        (fun n hn => by show (_, _) = (_, _); rw [wrap_succ (by omega)]; rfl) ?_ ?_
      · intro n hn
        generalize jdn y n = z
        refine vcx (X := ((decide ((n : Int) < 4) = true → True ∧ (tmL k tb (i : Int) ds (j : Int) d (IntKind.i64.wrap ((n : Int) + 1), jdbl (F := Fp) z)).triv (n < 4)) ∧ (decide ((n : Int) < 4) = false → (tmL k tb (i : Int) ds (j : Int) d ((n : Int), z)).triv (n = 4)))) (by kernel_rfl) ?_
        exact ⟨fun h => ⟨trivial, triv_intro (by have := dec_lt h; omega)⟩, fun h => triv_intro (by have := dec_ge h; omega)⟩
      refine tr_cut hsp mixed 1 (tmK k tb (i : Int) ds ((j : Int), jst tb y d)) True ?_ (fun _ => ?_)
      · refine vcx (X := ((0 ≤ d ∧ d < ((16 : Nat) : Int)) ∧ d.toNat < 16 ∧ True ∧ (tmK k tb (i : Int) ds ((j : Int), jst tb y d)).triv True)) (by kernel_rfl) ?_
        exact ⟨⟨hd.1, by omega⟩, by omega, trivial, triv_intro trivial⟩
      refine tr_nil ?_
      refine tr_vc hsp mixed _ _ ?_
      exact vcx (X := (tmK k tb (i : Int) ds (IntKind.i64.wrap ((j : Int) + 1), jst tb y d)).triv (j < 2)) (by kernel_rfl) (triv_intro hj2)
    refine tr_nil ?_
    refine tr_vc hsp mixed _ _ ?_
    have ey : jby tb s b = jsd tb ds s 2 := by unfold jby; rw [hds]
    show VC _ _ _ (fun σ' => σ'.le _ (tmJ k tb (IntKind.i64.wrap ((i : Int) + 1), jby tb s b)) (i < k.length)) _ _
    rw [ey]
    generalize jsd tb ds s 2 = z
    exact vcx (X := (tmJ k tb (IntKind.i64.wrap ((i : Int) + 1), z)).triv (i < k.length)) (by kernel_rfl) (triv_intro hlt)
  · refine tr_vc hsp mixed _ _ ?_
    refine vcx (X := (True ∧ (jpoint (F := Fp) (jtm tb k k.length), ()) = outTimes (p, k, ()))) (by kernel_rfl) ⟨trivial, ?_⟩
    show _ = (jpoint (F := Fp) (jtm (tabAt (jt (jlift (F := Fp) p)) (0, 0, 0) 15) k k.length), ())
    rw [htb]
noncomputable def spTimes : Nat × Eng.Spec := (69, fnSpec [pt1, .sl (.int .u8)] [.val pt1] preTimes outTimes)
end Go.Proofs.YtbfimfdhmggieaaDoor.g1
/- g1: Mul. -/
namespace Go.Proofs.YtbfimfdhmggieaaDoor.g1
set_option maxRecDepth 100000
open Go Go.Eng Go.RowKit Cr Go.Proofs.YtbfimfdhmggieaaDoor
noncomputable def tms (p : Fp × Fp) (k : List Int) : Fp × Fp := jpoint (F := Fp) (jtm (tabAt (jt (jlift (F := Fp) p)) (0, 0, 0) 15) k (List.length k))
noncomputable def pml (p : Fp × Fp) (k : Fr) : Fp × Fp := tms p (bytesN 32 k.v)
theorem ent_pmul : enters Tryd.prog 30 Tryd.f30 := enters_mk (by kernel_rfl) (by kernel_rfl) (by kernel_rfl)
noncomputable abbrev outPMul : HL [pt1, .fr] → HO [.val pt1] := fun (p, k, _) => (pml p k, ())
theorem fn_pmul : FnOk Tryd.prog 30 [pt1, .fr] [.val pt1] noG (fun _ => True) outPMul := by
  refine fn_of_vc (sp := sps [fr.spBytes, spTimes]) (sps_cons (fnSpec_ok fr.fn_bytes) (sps_cons (fnSpec_ok fn_times) sps_nil)) mixed ent_pmul (by decide) (by decide) ?_
  rintro w M0 ⟨p, k, ⟨⟩⟩
  revert p k
  intro (p : Fp × Fp) (k : Fr) _ _
  refine vcx (X := (True ∧ (0 : Nat) + 32 ≤ 32 ∧ preTimes (p, (bytesN 32 k.v).take 32, ()) ∧ (tms p ((bytesN 32 k.v).take 32), ()) = outPMul (p, k, ()))) (by kernel_rfl) ?_
  rw [List.take_of_length_le (by rw [bytesN_length]; exact Nat.le_refl _)]
  exact ⟨trivial, by decide, ⟨bytesN_Bs _ _, by show (bytesN 32 k.v).length < _; rw [bytesN_length]; decide⟩, rfl⟩
noncomputable def spPMul : Nat × Eng.Spec := (30, fnSpec [pt1, .fr] [.val pt1] (fun _ => True) outPMul)

end Go.Proofs.YtbfimfdhmggieaaDoor.g1
/- The references' Copy; law07: scalar, long. -/
namespace Go.Proofs.YtbfimfdhmggieaaDoor.ref01
set_option maxRecDepth 100000
open Go Go.Eng Go.RowKit Cr Go.Proofs.YtbfimfdhmggieaaDoor

theorem ent_copy : enters Tryd.prog 11 Tryd.f11 := enters_mk (by kernel_rfl) (by kernel_rfl) (by kernel_rfl)
noncomputable def cpI (b : List Int) (g : Int × List Int) : St := mkSt Tryd.f11.ntmps 64 [(0, .is (.one (.ro (.int .u8) b))), (3, .is (.one (.sl 24 0 0 (b.length : Int).toNat 1))), (9, sI .i64 b.length), (10, sI .i64 g.1)] [(24, [.ints .u8 (b.length : Int).toNat g.2])]
def cpL (b : List Int) (k : Nat) : List Int := b.take k ++ List.replicate (b.length - k) 0
theorem cpL_step {b : List Int} {k : Nat} (h : k < b.length) : (cpL b k).set k (b.getD k 0) = cpL b (k + 1) := by
  unfold cpL
  rw [List.set_append_right _ _ (by simp; omega), List.take_succ_eq_append_getElem h]
  have e : b.length - k = (b.length - (k + 1)) + 1 := by omega
  have e2 : k - (b.take k).length = 0 := by simp; omega
  rw [e2, e, List.replicate_succ, List.set_cons_zero, List.append_assoc]
  simp [h]
abbrev preCopy : HL [.sl (.int .u8)] → Prop := fun (b, _) => List.length b ≤ 281474976710656
abbrev outCopy : HL [.sl (.int .u8)] → HO [.own (.int .u8)] := fun (b, _) => (b, ())
theorem fn_copy : FnOk Tryd.prog 11 [.sl (.int .u8)] [.own (.int .u8)] noG preCopy outCopy := by
  have hsp : SpecsOk Tryd.prog (sps []) := sps_nil
  refine fn_of_tr (sp := sps []) ent_copy (by decide) (by decide) (by kernel_rfl) ?_
  rintro w M0 ⟨b, ⟨⟩⟩
  revert b
  intro (b : List Int) _ hl
  have hl : b.length ≤ 281474976710656 := hl
  show Tr _ _ _ _ _ _ _
  refine tr_cut hsp mixed 3 (cpI b (0, List.replicate (b.length : Int).toNat 0)) True ?_ (fun _ => ?_)
  · refine vcx (X := ((0 ≤ (b.length : Int) ∧ (b.length : Int) ≤ (b.length : Int) ∧ ((1 : Nat) : Int) * (b.length : Int) ≤ 281474976710656 ∧ (b.length : Int) ≤ 9223372036854775807) ∧ (cpI b (0, List.replicate (b.length : Int).toNat 0)).triv True)) (by kernel_rfl) ?_
    exact ⟨⟨by omega, by omega, by omega, by omega⟩, triv_intro trivial⟩
  rw [show List.replicate (b.length : Int).toNat (0 : Int) = cpL b 0 by simp [cpL]]
  refine tr_count hsp mixed (cpI b) (fun k => ((k : Int), cpL b k)) b.length (fun g => (IntKind.i64.wrap (g.1 + 1), g.2.set g.1.toNat (b.getD g.1.toNat 0))) (cpI b) (c := nthC (codeOf Tryd.f11) 3) (by kernel_rfl) (by kernel_rfl) (le_of_proj (by kernel_rfl) (by kernel_rfl) trivial)
    (fun k hk => by show (_, _) = (_, _); rw [wrap_succ (by omega), Int.toNat_natCast, cpL_step hk]) ?_ ?_
  · intro k hk
    generalize cpL b k = xs
    refine vcx (X := ((decide ((k : Int) < (b.length : Int)) = true → (0 ≤ (k : Int) ∧ (k : Int) < (b.length : Int)) ∧ (k : Int).toNat < b.length ∧ (0 ≤ (k : Int) ∧ (k : Int) < ((b.length : Int).toNat : Int)) ∧ (k : Int).toNat < (b.length : Int).toNat ∧ (cpI b (IntKind.i64.wrap ((k : Int) + 1), xs.set (k : Int).toNat (b.getD (k : Int).toNat 0))).triv (k < b.length)) ∧
      (decide ((k : Int) < (b.length : Int)) = false → (cpI b ((k : Int), xs)).triv (k = b.length)))) (by kernel_rfl) ?_
    refine ⟨fun h => ?_, fun h => triv_intro (by have := dec_ge h; omega)⟩
    have hlt : k < b.length := by have := dec_lt h; omega
    exact ⟨⟨by omega, by omega⟩, by omega, ⟨by omega, by omega⟩, by omega, triv_intro hlt⟩
  · refine tr_vc hsp mixed _ _ ?_
    refine vcx (X := (0 + (b.length : Int).toNat ≤ (b.length : Int).toNat ∧ (((cpL b b.length).take (b.length : Int).toNat, ()) : List Int × Unit) = outCopy (b, ()))) (by kernel_rfl) ⟨by omega, ?_⟩
    simp [cpL, outCopy]
noncomputable def spCopy : Nat × Eng.Spec := (11, fnSpec [.sl (.int .u8)] [.own (.int .u8)] preCopy outCopy)
end Go.Proofs.YtbfimfdhmggieaaDoor.ref01
/- g1: the same contracts, for laws: what is computed is not unfolded; what it is on points of the curve. -/
namespace Go.Proofs.YtbfimfdhmggieaaDoor.g1
set_option maxRecDepth 100000
open Go Go.Eng Go.RowKit Cr Go.Proofs.YtbfimfdhmggieaaDoor
noncomputable def gG : Fp × Fp := opq (gx, gy)
noncomputable def gadd (p q : Fp × Fp) : Fp × Fp := opq (jpoint (F := Fp) (jsm [p, q] 2))
noncomputable def gneg (p : Fp × Fp) : Fp × Fp := opq (pneg (F := Fp) p)
noncomputable def gtms (p : Fp × Fp) (k : List Int) : Fp × Fp := opq (tms p k)
noncomputable def gmul (p : Fp × Fp) (k : Fr) : Fp × Fp := opq (pml p k)
noncomputable def gon (p : Fp × Fp) : Bool := opq (isOn p)

theorem fo_gen : FnOk Tryd.prog 29 [] [.val pt1] noG (fun _ => True) (fun _ => (gG, ())) := fn_gen.out fun _ => by show (gG, ()) = ((gx, gy), ()); rw [gG, opq_eq]
theorem fo_add : FnOk Tryd.prog 139 [pt1, pt1] [.val pt1] noG (fun _ => True) (fun (p, q, _) => (gadd p q, ())) := fn_padd.out fun (p, q, _) => by show (gadd p q, ()) = (_, ()); rw [gadd, opq_eq]
theorem fo_neg : FnOk Tryd.prog 131 [pt1] [.val pt1] noG (fun _ => True) (fun (p, _) => (gneg p, ())) := fn_pneg.out fun (p, _) => by show (gneg p, ()) = (_, ()); rw [gneg, opq_eq]
theorem fo_times : FnOk Tryd.prog 69 [pt1, .sl (.int .u8)] [.val pt1] noG preTimes (fun (p, k, _) => (gtms p k, ())) := fn_times.out fun (p, k, _) => by show (gtms p k, ()) = (_, ()); rw [gtms, opq_eq]; rfl
theorem fo_mul : FnOk Tryd.prog 30 [pt1, .fr] [.val pt1] noG (fun _ => True) (fun (p, k, _) => (gmul p k, ())) := fn_pmul.out fun (p, k, _) => by show (gmul p k, ()) = (_, ()); rw [gmul, opq_eq]
theorem fo_on : FnOk Tryd.prog 84 [pt1] [.val .bool] noG (fun _ => True) (fun (p, _) => (gon p, ())) := fn_on.out fun (p, _) => by show (gon p, ()) = (_, ()); rw [gon, opq_eq]
noncomputable def soGen : Nat × Eng.Spec := (29, fnSpec [] [.val pt1] (fun _ => True) (fun _ => (gG, ())))
noncomputable def soAdd : Nat × Eng.Spec := (139, fnSpec [pt1, pt1] [.val pt1] (fun _ => True) (fun (p, q, _) => (gadd p q, ())))
noncomputable def soNeg : Nat × Eng.Spec := (131, fnSpec [pt1] [.val pt1] (fun _ => True) (fun (p, _) => (gneg p, ())))
noncomputable def soTimes : Nat × Eng.Spec := (69, fnSpec [pt1, .sl (.int .u8)] [.val pt1] preTimes (fun (p, k, _) => (gtms p k, ())))
noncomputable def soMul : Nat × Eng.Spec := (30, fnSpec [pt1, .fr] [.val pt1] (fun _ => True) (fun (p, k, _) => (gmul p k, ())))
noncomputable def soOn : Nat × Eng.Spec := (84, fnSpec [pt1] [.val .bool] (fun _ => True) (fun (p, _) => (gon p, ())))

end Go.Proofs.YtbfimfdhmggieaaDoor.g1
/- Bulk points by computation: values forced one by one. No program here. -/
namespace Cr
open Rg Fd

/-- A way to compute in a field. -/
structure Ev (F : Type) [Fd F] where
  V : Type
  φ : V → F
  add : V → V → V
  sub : V → V → V
  mul : V → V → V
  isz : V → Bool
  zero : V
  force : {α : Type} → V → (V → α) → α
  add_φ : ∀ a b, φ (add a b) = φ a + φ b
  sub_φ : ∀ a b, φ (sub a b) = φ a - φ b
  mul_φ : ∀ a b, φ (mul a b) = φ a * φ b
  isz_φ : ∀ a, isz a = true ↔ φ a = 0
  zero_φ : φ zero = 0
  force_eq : ∀ {α : Type} (a : V) (k : V → α), force a k = k a

section
variable {F : Type} [Fd F] (E : Ev F)
abbrev Ev.J := E.V × E.V × E.V
def Ev.dbl (a : E.J) : E.J := match E.isz a.2.2 with
  | true => (E.zero, E.zero, E.zero)
  | false =>
    E.force (E.mul a.1 a.1) fun xx => E.force (E.mul a.2.1 a.2.1) fun yy => E.force (E.add (E.add xx xx) xx) fun sl =>
    E.force (E.mul a.1 yy) fun m1 => E.force (E.add m1 m1) fun m2 => E.force (E.add m2 m2) fun mid =>
    E.force (E.add yy yy) fun y2 => E.force (E.mul y2 y2) fun fall =>
    E.force (E.sub (E.sub (E.mul sl sl) mid) mid) fun x =>
    E.force (E.sub (E.sub (E.mul sl (E.sub mid x)) fall) fall) fun y =>
    E.force (E.mul a.2.1 a.2.2) fun z1 => E.force (E.add z1 z1) fun z => (x, y, z)
def Ev.jadd (a c : E.J) : E.J := match E.isz a.2.2 with
  | true => c
  | false => match E.isz c.2.2 with
    | true => a
    | false =>
      E.force (E.mul a.2.2 a.2.2) fun aa => E.force (E.mul c.2.2 c.2.2) fun bb =>
      E.force (E.mul a.1 bb) fun left => E.force (E.mul c.1 aa) fun right =>
      E.force (E.mul (E.mul a.2.1 bb) c.2.2) fun low => E.force (E.mul (E.mul c.2.1 aa) a.2.2) fun high =>
      E.force (E.sub right left) fun wide => E.force (E.sub high low) fun rise =>
      match E.isz wide with
      | true => match E.isz rise with
        | true => E.dbl a
        | false => (E.zero, E.zero, E.zero)
      | false =>
        E.force (E.mul wide wide) fun sq => E.force (E.mul sq wide) fun cube => E.force (E.mul left sq) fun l2 =>
        E.force (E.sub (E.sub (E.sub (E.mul rise rise) cube) l2) l2) fun x =>
        E.force (E.sub (E.mul rise (E.sub l2 x)) (E.mul low cube)) fun y =>
        E.force (E.mul (E.mul a.2.2 c.2.2) wide) fun z => (x, y, z)
/-- So many times, by the digits of the number, from its lowest: 2 n, 2 n + 1. -/
def Ev.mul2 (o : E.J) : Nat → Nat → E.J
  | 0, _ => (E.zero, E.zero, E.zero)
  | f + 1, n => match Nat.beq n 0 with
    | true => (E.zero, E.zero, E.zero)
    | false => match Nat.beq (n % 2) 1 with
      | true => E.jadd (E.dbl (Ev.mul2 o f (n / 2))) o
      | false => E.dbl (Ev.mul2 o f (n / 2))
variable {E} in
end
end Cr
/- The generator's order, by computation. No program here. -/
namespace Cr
open Rg Fd
def pN : Nat := 4002409555221667393417789825735904156556882819939007885332058136124031650490837864442687629129015664037894272559787
end Cr
/- g1: the group; scalars. -/
namespace Go.Proofs.YtbfimfdhmggieaaDoor.g1
set_option maxRecDepth 100000
open Go Go.Eng Go.RowKit Cr Go.Proofs.YtbfimfdhmggieaaDoor

end Go.Proofs.YtbfimfdhmggieaaDoor.g1
namespace Go.Proofs.YtbfimfdhmggieaaDoor.g1
set_option maxRecDepth 100000
open Go Go.Eng Go.RowKit Cr Go.Proofs.YtbfimfdhmggieaaDoor
theorem ent_in : enters Tryd.prog 85 Tryd.f85 := enters_mk (by kernel_rfl) (by kernel_rfl) (by kernel_rfl)
noncomputable def isIn (p : Fp × Fp) : Bool := isOn p && decide (pml p (-1) = pneg (F := Fp) p)
noncomputable abbrev outIn : HL [pt1] → HO [.val .bool] := fun (p, _) => (isIn p, ())
theorem fn_in : FnOk Tryd.prog 85 [pt1] [.val .bool] noG (fun _ => True) outIn := by
  refine fn_of_vc (sp := sps [spOn, fr.spOf, fr.spNeg, spPMul, spPNeg]) (sps_cons (fnSpec_ok fn_on) (sps_cons (fnSpec_ok fr.fn_of) (sps_cons (fnSpec_ok fr.fn_neg) (sps_cons (fnSpec_ok fn_pmul) (sps_cons (fnSpec_ok fn_pneg) sps_nil))))) mixed ent_in (by decide) (by decide) ?_
  rintro w M0 ⟨p, ⟨⟩⟩
  revert p
  intro (p : Fp × Fp) _ _
  refine vcx (X := (True ∧ (isOn p = true → U64 1 ∧ Trs 3 ((decide ((pml p (-1)).1 = (pneg (F := Fp) p).1) && decide ((pml p (-1)).2 = (pneg (F := Fp) p).2), ()) = outIn (p, ()))) ∧ (isOn p = false → (false, ()) = outIn (p, ())))) (by kernel_rfl) ?_
  rw [dec_pair]
  refine ⟨trivial, fun h => ⟨by constructor <;> decide, trs ?_ _⟩, fun h => ?_⟩
  · simp only [outIn, isIn, h, Bool.true_and]
  · simp only [outIn, isIn, h, Bool.false_and]
noncomputable def gin (p : Fp × Fp) : Bool := opq (isIn p)
theorem fo_in : FnOk Tryd.prog 85 [pt1] [.val .bool] noG (fun _ => True) (fun (p, _) => (gin p, ())) := fn_in.out fun (p, _) => by show (gin p, ()) = (_, ()); rw [gin, opq_eq]
noncomputable def soIn : Nat × Eng.Spec := (85, fnSpec [pt1] [.val .bool] (fun _ => True) (fun (p, _) => (gin p, ())))
end Go.Proofs.YtbfimfdhmggieaaDoor.g1
