/- Commitments' bytes, plainly: pieces, what is read of them, one byte changed. -/
import Derived.Test.YtlhgcbmanifpiaaMD22RPT
/- g2: Times. -/
namespace Go.Proofs.Ytlhgcbmanifpiaa.g2
set_option maxRecDepth 100000
open Go Go.Eng Go.RowKit Cr Go.Proofs.Ytlhgcbmanifpiaa Go.Proofs.Ytlhgcbmanifpiaa.fp2

abbrev Jp := F2 × F2 × F2
noncomputable def tmI (k : List Int) (o : Jp) (g : Int × List Jp) : St := mkSt Try.f127.ntmps 64 [(1, .is (.one (.ro (.int .u8) k))), (4, .is (.one (.ptr 8 0))), (5, .is (.one (.ptr 16 0))), (6, .is (.one (.ptr 40 0))), (15, sI .i64 g.1)] [(40, bc o), (16, [.row bk 16 g.2]), (8, pc (0, 0))]
noncomputable def tmS (k : List Int) (tb : List Jp) (s : Jp) (nx : Nat) (xs : List (Nat × SV)) : St := mkSt Try.f127.ntmps nx ([(4, .is (.one (.ptr 8 0))), (5, .is (.one (.ptr 16 0))), (8, .is (.one (.ptr 64 0))), (27, .is (.one (.ro (.int .u8) k))), (28, sI .i64 k.length)] ++ xs) [(64, bc s), (16, [.row bk 16 tb]), (8, pc (0, 0))]
noncomputable abbrev tmJ (k : List Int) (tb : List Jp) (g : Int × Jp) : St := tmS k tb g.2 96 [(29, sI .i64 g.1)]
noncomputable abbrev tmK (k : List Int) (tb : List Jp) (i : Int) (ds : List Int) (g : Int × Jp) : St := tmS k tb g.2 168 [(29, sI .i64 i), (37, .is (.agg [.ints .u8 2 ds])), (38, sI .i64 g.1)]
noncomputable abbrev tmL (k : List Int) (tb : List Jp) (i : Int) (ds : List Int) (j d : Int) (g : Int × Jp) : St := tmS k tb g.2 184 [(29, sI .i64 i), (37, .is (.agg [.ints .u8 2 ds])), (38, sI .i64 j), (12, sI .u8 d), (41, sI .i64 g.1)]

theorem ent_times : enters Try.prog 127 Try.f127 := enters_mk (by kernel_rfl) (by kernel_rfl) (by kernel_rfl)
abbrev preTimes : HL [pt2, .sl (.int .u8)] → Prop := fun (_, k, _) => Bs k ∧ List.length k < 4611686018427387904
noncomputable abbrev outTimes : HL [pt2, .sl (.int .u8)] → HO [.val pt2] := fun (p, k, _) => (jpoint (F := F2) (jtm (tabAt (jt (jlift (F := F2) p)) (0, 0, 0) 15) k (List.length k)), ())
theorem fn_times : FnOk Try.prog 127 [pt2, .sl (.int .u8)] [.val pt2] noG preTimes outTimes := by
  have hsp : SpecsOk Try.prog (sps [spLift, spAdd, spPoint, spDouble]) := sps_cons (fnSpec_ok fn_lift) (sps_cons (fnSpec_ok fn_add) (sps_cons (fnSpec_ok fn_point) (sps_cons (fnSpec_ok fn_double) sps_nil)))
  refine fn_of_tr (sp := sps [spLift, spAdd, spPoint, spDouble]) ent_times (by decide) (by decide) (by kernel_rfl) ?_
  rintro w M0 ⟨p, k, ⟨⟩⟩
  revert p k
  intro (p : F2 × F2) (k : List Int) _ hp
  obtain ⟨hk, hl⟩ := hp
  have hk : Bs k := hk
  have hl : k.length < 4611686018427387904 := hl
  show Tr _ _ _ _ _ _ _
  refine tr_cut hsp mixed 4 (tmI k (jlift (F := F2) p) (0, tabAt (jt (jlift (F := F2) p)) (0, 0, 0) 0)) True ?_ (fun _ => ?_)
  · exact vcx (X := (True ∧ (tmI k (jlift (F := F2) p) (0, tabAt (jt (jlift (F := F2) p)) (0, 0, 0) 0)).triv True)) (by kernel_rfl) ⟨trivial, triv_intro trivial⟩
  generalize ho : jlift (F := F2) p = o
  refine tr_count hsp mixed (tmI k o) (fun n => ((n : Int), tabAt (jt o) (0, 0, 0) n)) 15 (fun g => (IntKind.i64.wrap (g.1 + 1), g.2.set (IntKind.i64.wrap (g.1 + 1)).toNat (jadd (F := F2) (g.2.getD g.1.toNat (0, 0, 0)) o))) (tmI k o) (c := nthC (codeOf Try.f127) 4) (by kernel_rfl) (by kernel_rfl) (le_of_proj (by kernel_rfl) (by kernel_rfl) trivial)
    (fun n hn => by
      show (_, _) = (_, _)
      rw [wrap_succ (by omega), Int.toNat_natCast, Int.toNat_natCast, tabAt_get _ _ _ (Nat.le_refl n) (by omega), show jadd (F := F2) (jt o n) o = jt o (n + 1) from rfl, tabAt_set]) ?_ ?_
  · intro n hn
    generalize tabAt (jt o) (0, 0, 0) n = tb
    refine vcx (X := ((decide ((n : Int) < 15) = true → (0 ≤ (n : Int) ∧ (n : Int) < ((16 : Nat) : Int)) ∧ (n : Int).toNat < 16 ∧ True ∧ (0 ≤ IntKind.i64.wrap ((n : Int) + 1) ∧ IntKind.i64.wrap ((n : Int) + 1) < ((16 : Nat) : Int)) ∧ (IntKind.i64.wrap ((n : Int) + 1)).toNat < 16 ∧
        (tmI k o (IntKind.i64.wrap ((n : Int) + 1), tb.set (IntKind.i64.wrap ((n : Int) + 1)).toNat (jadd (F := F2) (tb.getD (n : Int).toNat (0, 0, 0)) o))).triv (n < 15)) ∧
      (decide ((n : Int) < 15) = false → (tmI k o ((n : Int), tb)).triv (n = 15)))) (by kernel_rfl) ?_
    refine ⟨fun h => ?_, fun h => triv_intro (by have := dec_ge h; omega)⟩
    have hlt : n < 15 := by have := dec_lt h; omega
    rw [wrap_succ (by omega)]
    exact ⟨⟨by omega, by omega⟩, by omega, trivial, ⟨by omega, by omega⟩, by omega, triv_intro hlt⟩
  subst ho
  show Tr _ _ _ _ _ _ _
  generalize htb : tabAt (jt (jlift (F := F2) p)) (0, 0, 0) 15 = tb
  refine tr_cut hsp mixed 2 (tmJ k tb (0, jtm tb k 0)) True ?_ (fun _ => ?_)
  · exact vcx (X := (tmJ k tb (0, jtm tb k 0)).triv True) (by kernel_rfl) (triv_intro trivial)
  refine tr_countT (tmJ k tb) (fun i => ((i : Int), jtm tb k i)) k.length (fun g => (IntKind.i64.wrap (g.1 + 1), jby tb g.2 (k.getD g.1.toNat 0))) (tmJ k tb) (c := nthC (codeOf Try.f127) 7) (by kernel_rfl) (by kernel_rfl) (le_of_proj (by kernel_rfl) (by kernel_rfl) trivial)
    (fun i hi => by show (_, _) = (_, _); rw [wrap_succ (by omega), Int.toNat_natCast]; rfl) ?_ ?_
  · intro i hi
    generalize jtm tb k i = s
    refine tr_cut hsp mixed 2 (tmJ k tb ((i : Int), s)) (i < k.length) ?_ (fun hlt => ?_)
    · refine vcx (X := ((decide ((i : Int) < (k.length : Int)) = true → (tmJ k tb ((i : Int), s)).triv (i < k.length)) ∧ (decide ((i : Int) < (k.length : Int)) = false → (tmJ k tb ((i : Int), s)).triv (i = k.length)))) (by kernel_rfl) ?_
      exact ⟨fun h => triv_intro (by have := dec_lt h; omega), fun h => triv_intro (by have := dec_ge h; omega)⟩
    have hb : 0 ≤ k.getD i 0 ∧ k.getD i 0 < 256 := by
      have : k.getD i 0 ∈ k := by rw [List.getD_eq_getElem?_getD, List.getElem?_eq_getElem hlt]; exact List.getElem_mem hlt
      exact hk _ this
    have hbi : k.getD (i : Int).toNat 0 = k.getD i 0 := by rw [Int.toNat_natCast]
    generalize hbb : k.getD i 0 = b at hb hbi
    obtain ⟨_, d1, d2⟩ := dh_ok hb.1 hb.2
    obtain ⟨_, d3, d4⟩ := dl_ok hb.1 hb.2
    refine tr_block (c := nthC (loopOf (nthC (codeOf Try.f127) 7)) 2) (by kernel_rfl) (by kernel_rfl) ?_
    refine tr_cut hsp mixed 2 (tmK k tb (i : Int) [dh (k.getD (i : Int).toNat 0), dl (k.getD (i : Int).toNat 0)] (0, jsd tb [dh b, dl b] s 0)) True ?_ (fun _ => ?_)
    · refine vcx (X := ((0 ≤ (i : Int) ∧ (i : Int) < (k.length : Int)) ∧ (i : Int).toNat < k.length ∧ (0 : Int) ≤ 4 ∧ (tmK k tb (i : Int) [dh (k.getD (i : Int).toNat 0), dl (k.getD (i : Int).toNat 0)] (0, jsd tb [dh b, dl b] s 0)).triv True)) (by kernel_rfl) ?_
      exact ⟨⟨by omega, by omega⟩, by omega, by decide, triv_intro trivial⟩
    rw [hbi]
    generalize hds : [dh b, dl b] = ds
    have hdd : ∀ j, j < 2 → 0 ≤ ds.getD j 0 ∧ ds.getD j 0 < 16 := by
      intro j hj
      subst hds
      match j, hj with
      | 0, _ => exact ⟨d1, d2⟩
      | 1, _ => exact ⟨d3, d4⟩
    refine tr_countT (tmK k tb (i : Int) ds) (fun j => ((j : Int), jsd tb ds s j)) 2 (fun g => (IntKind.i64.wrap (g.1 + 1), jst tb g.2 (ds.getD g.1.toNat 0))) (tmK k tb (i : Int) ds) (c := nthC (bodyOf (nthC (loopOf (nthC (codeOf Try.f127) 7)) 2)) 2) (by kernel_rfl) (by kernel_rfl) (le_of_proj (by kernel_rfl) (by kernel_rfl) trivial)
      (fun j hj => by show (_, _) = (_, _); rw [wrap_succ (by omega), Int.toNat_natCast]; rfl) ?_ ?_
    · intro j hj
      generalize jsd tb ds s j = y
      refine tr_cut hsp mixed 2 (tmK k tb (i : Int) ds ((j : Int), y)) (j < 2) ?_ (fun hj2 => ?_)
      · refine vcx (X := ((decide ((j : Int) < 2) = true → (tmK k tb (i : Int) ds ((j : Int), y)).triv (j < 2)) ∧ (decide ((j : Int) < 2) = false → (tmK k tb (i : Int) ds ((j : Int), y)).triv (j = 2)))) (by kernel_rfl) ?_
        exact ⟨fun h => triv_intro (by have := dec_lt h; omega), fun h => triv_intro (by have := dec_ge h; omega)⟩
      have hd := hdd j hj2
      have hdj : ds.getD (j : Int).toNat 0 = ds.getD j 0 := by rw [Int.toNat_natCast]
      generalize ds.getD j 0 = d at hd hdj
      refine tr_block (c := nthC (loopOf (nthC (bodyOf (nthC (loopOf (nthC (codeOf Try.f127) 7)) 2)) 2)) 2) (by kernel_rfl) (by kernel_rfl) ?_
      refine tr_cut hsp mixed 2 (tmL k tb (i : Int) ds (j : Int) (ds.getD (j : Int).toNat 0) (0, jdn y 0)) True ?_ (fun _ => ?_)
      · refine vcx (X := ((0 ≤ (j : Int) ∧ (j : Int) < ((2 : Nat) : Int)) ∧ (tmL k tb (i : Int) ds (j : Int) (ds.getD (j : Int).toNat 0) (0, jdn y 0)).triv True)) (by kernel_rfl) ?_
        exact ⟨⟨by omega, by omega⟩, triv_intro trivial⟩
      rw [hdj]
      refine tr_count hsp mixed (tmL k tb (i : Int) ds (j : Int) d) (fun n => ((n : Int), jdn y n)) 4 (fun g => (IntKind.i64.wrap (g.1 + 1), jdbl (F := F2) g.2)) (tmL k tb (i : Int) ds (j : Int) d) (c := nthC (bodyOf (nthC (loopOf (nthC (bodyOf (nthC (loopOf (nthC (codeOf Try.f127) 7)) 2)) 2)) 2)) 2) (by kernel_rfl) (by kernel_rfl) (le_of_proj (by kernel_rfl) (by kernel_rfl) trivial)
        (fun n hn => by show (_, _) = (_, _); rw [wrap_succ (by omega)]; rfl) ?_ ?_
      · intro n hn
        generalize jdn y n = z
        refine vcx (X := ((decide ((n : Int) < 4) = true → True ∧ (tmL k tb (i : Int) ds (j : Int) d (IntKind.i64.wrap ((n : Int) + 1), jdbl (F := F2) z)).triv (n < 4)) ∧ (decide ((n : Int) < 4) = false → (tmL k tb (i : Int) ds (j : Int) d ((n : Int), z)).triv (n = 4)))) (by kernel_rfl) ?_
        exact ⟨fun h => ⟨trivial, triv_intro (by have := dec_lt h; omega)⟩, fun h => triv_intro (by have := dec_ge h; omega)⟩
      refine tr_cut hsp mixed 1 (tmK k tb (i : Int) ds ((j : Int), jst tb y d)) True ?_ (fun _ => ?_)
      · refine vcx (X := ((0 ≤ d ∧ d < ((16 : Nat) : Int)) ∧ d.toNat < 16 ∧ True ∧ (tmK k tb (i : Int) ds ((j : Int), jst tb y d)).triv True)) (by kernel_rfl) ?_
        exact ⟨⟨hd.1, by omega⟩, by omega, trivial, triv_intro trivial⟩
      refine tr_nil ?_
      refine tr_vc hsp mixed _ _ ?_
      exact vcx (X := (tmK k tb (i : Int) ds (IntKind.i64.wrap ((j : Int) + 1), jst tb y d)).triv (j < 2)) (by kernel_rfl) (triv_intro hj2)
    refine tr_nil ?_
    refine tr_vc hsp mixed _ _ ?_
    have ey : jby tb s b = jsd tb ds s 2 := by unfold jby; rw [hds]
    show VC _ _ _ (fun σ' => σ'.le _ (tmJ k tb (IntKind.i64.wrap ((i : Int) + 1), jby tb s b)) (i < k.length)) _ _
    rw [ey]
    generalize jsd tb ds s 2 = z
    exact vcx (X := (tmJ k tb (IntKind.i64.wrap ((i : Int) + 1), z)).triv (i < k.length)) (by kernel_rfl) (triv_intro hlt)
  · refine tr_vc hsp mixed _ _ ?_
    refine vcx (X := (True ∧ (jpoint (F := F2) (jtm tb k k.length), ()) = outTimes (p, k, ()))) (by kernel_rfl) ⟨trivial, ?_⟩
    show _ = (jpoint (F := F2) (jtm (tabAt (jt (jlift (F := F2) p)) (0, 0, 0) 15) k k.length), ())
    rw [htb]
noncomputable def spTimes : Nat × Eng.Spec := (127, fnSpec [pt2, .sl (.int .u8)] [.val pt2] preTimes outTimes)
end Go.Proofs.Ytlhgcbmanifpiaa.g2
/- g2: Mul. -/
namespace Go.Proofs.Ytlhgcbmanifpiaa.g2
set_option maxRecDepth 100000
open Go Go.Eng Go.RowKit Cr Go.Proofs.Ytlhgcbmanifpiaa Go.Proofs.Ytlhgcbmanifpiaa.fp2
noncomputable def tms (p : F2 × F2) (k : List Int) : F2 × F2 := jpoint (F := F2) (jtm (tabAt (jt (jlift (F := F2) p)) (0, 0, 0) 15) k (List.length k))
noncomputable def pml (p : F2 × F2) (k : Fr) : F2 × F2 := tms p (bytesN 32 k.v)
theorem ent_pmul : enters Try.prog 74 Try.f74 := enters_mk (by kernel_rfl) (by kernel_rfl) (by kernel_rfl)
noncomputable abbrev outPMul : HL [pt2, .fr] → HO [.val pt2] := fun (p, k, _) => (pml p k, ())
theorem fn_pmul : FnOk Try.prog 74 [pt2, .fr] [.val pt2] noG (fun _ => True) outPMul := by
  refine fn_of_vc (sp := sps [fr.spBytes, spTimes]) (sps_cons (fnSpec_ok fr.fn_bytes) (sps_cons (fnSpec_ok fn_times) sps_nil)) mixed ent_pmul (by decide) (by decide) ?_
  rintro w M0 ⟨p, k, ⟨⟩⟩
  revert p k
  intro (p : F2 × F2) (k : Fr) _ _
  refine vcx (X := (True ∧ (0 : Nat) + 32 ≤ 32 ∧ preTimes (p, (bytesN 32 k.v).take 32, ()) ∧ (tms p ((bytesN 32 k.v).take 32), ()) = outPMul (p, k, ()))) (by kernel_rfl) ?_
  rw [List.take_of_length_le (by rw [bytesN_length]; exact Nat.le_refl _)]
  exact ⟨trivial, by decide, ⟨bytesN_Bs _ _, by show (bytesN 32 k.v).length < _; rw [bytesN_length]; decide⟩, rfl⟩
noncomputable def spPMul : Nat × Eng.Spec := (74, fnSpec [pt2, .fr] [.val pt2] (fun _ => True) outPMul)

end Go.Proofs.Ytlhgcbmanifpiaa.g2
/- g2: the same contracts, for laws: what is computed is not unfolded; what it is on points of the curve. -/
namespace Go.Proofs.Ytlhgcbmanifpiaa.g2
set_option maxRecDepth 100000
open Go Go.Eng Go.RowKit Cr Go.Proofs.Ytlhgcbmanifpiaa Go.Proofs.Ytlhgcbmanifpiaa.fp2
theorem b4_ne : b4 ≠ 0 := fun h => absurd (congrArg Prod.fst h) (by decide)
noncomputable def gG : F2 × F2 := opq (gx, gy)
noncomputable def gadd (p q : F2 × F2) : F2 × F2 := opq (jpoint (F := F2) (jsm [p, q] 2))
noncomputable def gsum (ps : List (F2 × F2)) : F2 × F2 := opq (jpoint (F := F2) (jsm ps ps.length))
noncomputable def gneg (p : F2 × F2) : F2 × F2 := opq (pneg (F := F2) p)
noncomputable def gtms (p : F2 × F2) (k : List Int) : F2 × F2 := opq (tms p k)
noncomputable def gmul (p : F2 × F2) (k : Fr) : F2 × F2 := opq (pml p k)
noncomputable def gon (p : F2 × F2) : Bool := opq (isOn p)

theorem fo_gen : FnOk Try.prog 73 [] [.val pt2] noG (fun _ => True) (fun _ => (gG, ())) := fn_gen.out fun _ => by show (gG, ()) = ((gx, gy), ()); rw [gG, opq_eq]
theorem fo_neg : FnOk Try.prog 76 [pt2] [.val pt2] noG (fun _ => True) (fun (p, _) => (gneg p, ())) := fn_pneg.out fun (p, _) => by show (gneg p, ()) = (_, ()); rw [gneg, opq_eq]
theorem fo_times : FnOk Try.prog 127 [pt2, .sl (.int .u8)] [.val pt2] noG preTimes (fun (p, k, _) => (gtms p k, ())) := fn_times.out fun (p, k, _) => by show (gtms p k, ()) = (_, ()); rw [gtms, opq_eq]; rfl
theorem fo_mul : FnOk Try.prog 74 [pt2, .fr] [.val pt2] noG (fun _ => True) (fun (p, k, _) => (gmul p k, ())) := fn_pmul.out fun (p, k, _) => by show (gmul p k, ()) = (_, ()); rw [gmul, opq_eq]
theorem fo_on : FnOk Try.prog 71 [pt2] [.val .bool] noG (fun _ => True) (fun (p, _) => (gon p, ())) := fn_on.out fun (p, _) => by show (gon p, ()) = (_, ()); rw [gon, opq_eq]
noncomputable def soGen : Nat × Eng.Spec := (73, fnSpec [] [.val pt2] (fun _ => True) (fun _ => (gG, ())))
noncomputable def soNeg : Nat × Eng.Spec := (76, fnSpec [pt2] [.val pt2] (fun _ => True) (fun (p, _) => (gneg p, ())))
noncomputable def soTimes : Nat × Eng.Spec := (127, fnSpec [pt2, .sl (.int .u8)] [.val pt2] preTimes (fun (p, k, _) => (gtms p k, ())))
noncomputable def soMul : Nat × Eng.Spec := (74, fnSpec [pt2, .fr] [.val pt2] (fun _ => True) (fun (p, k, _) => (gmul p k, ())))
noncomputable def soOn : Nat × Eng.Spec := (71, fnSpec [pt2] [.val .bool] (fun _ => True) (fun (p, _) => (gon p, ())))

/-! On points of the curve. -/
abbrev Onb (p : F2 × F2) : Prop := OnP b4 p
theorem gG_eq : gG = (gx, gy) := opq_eq _
theorem gG_on : Onb gG := by
  rw [gG_eq]
  refine .inr ?_
  show gy * gy = gx * gx * gx + b4
  refine F2.ext ?_ ?_
  · simp only [F2.mul1, F2.mul2, F2.add1]; decide +kernel
  · simp only [F2.mul1, F2.mul2, F2.add2]; decide +kernel
theorem gadd_eq {p q : F2 × F2} (hp : Onb p) (hq : Onb q) : gadd p q = padd p q := by rw [gadd, opq_eq]; exact add_eq b4_ne hp hq
theorem gsum_eq {ps : List (F2 × F2)} (h : ∀ p ∈ ps, Onb p) : gsum ps = psum ps := by rw [gsum, opq_eq]; exact sum_eq b4_ne h
theorem gneg_eq (p : F2 × F2) : gneg p = pneg p := opq_eq _
theorem gtms_eq {p : F2 × F2} (hp : Onb p) {k : List Int} (hk : Bs k) : gtms p k = nmul p (num k).toNat := by rw [gtms, opq_eq]; exact times_eq b4_ne hp hk
theorem gmul_eq {p : F2 × F2} (hp : Onb p) (k : Fr) : gmul p k = nmul p k.v.toNat := by
  rw [gmul, opq_eq, pml, tms, times_eq b4_ne hp (bytesN_Bs _ _), num_bytesN 32 _ k.nn (Int.lt_trans k.lt (by decide))]
theorem gon_iff (p : F2 × F2) : gon p = true ↔ Onb p := by rw [gon, opq_eq]; exact isOn_iff p
end Go.Proofs.Ytlhgcbmanifpiaa.g2
/- The second generator's order, by computation. No program here. -/
namespace Cr
open Rg Fd
def addN2 (a b : Nat) : Nat := (a + b) % pN
def subN2 (a b : Nat) : Nat := (a + (pN - b % pN)) % pN
def mulN2 (a b : Nat) : Nat := (a * b) % pN
theorem addN2_φ (a b : Nat) : (zm ((addN2 a b : Nat) : Int) : Fp) = zm (a : Int) + zm (b : Int) := evP1.add_φ a b
theorem subN2_φ (a b : Nat) : (zm ((subN2 a b : Nat) : Int) : Fp) = zm (a : Int) - zm (b : Int) := evP1.sub_φ a b
theorem mulN2_φ (a b : Nat) : (zm ((mulN2 a b : Nat) : Int) : Fp) = zm (a : Int) * zm (b : Int) := evP1.mul_φ a b
noncomputable def evP2 : Ev F2 where
  V := Nat × Nat
  φ n := (zm (n.1 : Int), zm (n.2 : Int))
  add a b := (addN2 a.1 b.1, addN2 a.2 b.2)
  sub a b := (subN2 a.1 b.1, subN2 a.2 b.2)
  mul a b := (subN2 (a.1 * b.1) (a.2 * b.2), addN2 (a.1 * b.2) (a.2 * b.1))
  isz a := Nat.beq (a.1 % pN) 0 && Nat.beq (a.2 % pN) 0
  zero := (0, 0)
  force a k := fc a.1 fun x => fc a.2 fun y => k (x, y)
  add_φ a b := by rw [F2.add_def, addN2_φ, addN2_φ]
  sub_φ a b := by rw [F2.sub_def, subN2_φ, subN2_φ]
  mul_φ a b := by
    rw [F2.mul_def, addN2_φ, subN2_φ]
    simp only [Int.natCast_mul, ← zm_mul]
  isz_φ a := by
    rw [Bool.and_eq_true]
    have h1 := evP1.isz_φ a.1
    have h2 := evP1.isz_φ a.2
    constructor
    · rintro ⟨e1, e2⟩
      exact F2.ext (h1.1 e1) (h2.1 e2)
    · intro e
      exact ⟨h1.2 (congrArg Prod.fst e), h2.2 (congrArg Prod.snd e)⟩
  zero_φ := rfl
  force_eq a k := by rw [fc_eq, fc_eq]
def qxA : Nat := 0x024aa2b2f08f0a91260805272dc51051c6e47ad4fa403b02b4510b647ae3d1770bac0326a805bbefd48056c8c121bdb8
def qxB : Nat := 0x13e02b6052719f607dacd3a088274f65596bd0d09920b61ab5da61bbdc7f5049334cf11213945d57e5ac7d055d042b7e
def qyA : Nat := 0x0ce5d527727d6e118cc9cdc6da2e351aadfd9baa8cbdd3a76d429a695160d12c923ac9cc3baca289e193548608b82801
def qyB : Nat := 0x0606c4a02ea734cc32acd2b02bc28b99cb3e287e85a763af267492ab572e99ab3f370d275cec1da1aaa9075ff05f79be
theorem ord2_z : evP2.isz (evP2.mul2 ((qxA, qxB), (qyA, qyB), ((1 : Nat), (0 : Nat))) 256 52435875175126190479447740508185965837690552500527637822603658699938581184513).2.2 = true := by kernel_rfl
end Cr
/- g2: the group; scalars. -/
namespace Go.Proofs.Ytlhgcbmanifpiaa.g2
set_option maxRecDepth 100000
open Go Go.Eng Go.RowKit Cr Go.Proofs.Ytlhgcbmanifpiaa Go.Proofs.Ytlhgcbmanifpiaa.fp2

theorem gG_ne : gG ≠ O2 := by rw [gG_eq]; exact fun h => absurd (congrArg (fun p : F2 × F2 => p.1.1) h) (by decide)
theorem gmul_on {p : F2 × F2} (hp : Onb p) (k : Fr) : Onb (gmul p k) := by rw [gmul_eq hp]; exact nmul_on b4_ne hp _
abbrev rN : Nat := g1.rN
theorem gG_ord : nmul gG rN = O2 := by
  have h1 : Rep b4 (evP2.φ3 ((qxA, qxB), (qyA, qyB), ((1 : Nat), (0 : Nat)))) gG := by
    have h := rep_lift gG_on
    unfold jlift at h
    rw [if_neg gG_ne, gG_eq] at h
    rw [gG_eq]
    exact h
  have h2 := Ev.mul2_rep b4_ne h1 256 rN (by decide)
  have h3 := (evP2.isz_φ _).1 ord2_z
  rcases h2 with ⟨_, h⟩ | ⟨h, _⟩
  · exact h
  · exact absurd h3 h
/-- Points that come to nought r times. -/
def Sub (p : F2 × F2) : Prop := Onb p ∧ nmul p rN = O2
theorem sub_G : Sub gG := ⟨gG_on, gG_ord⟩
theorem sub_nmul {p : F2 × F2} (h : Sub p) (n : Nat) : Sub (nmul p n) := by
  refine ⟨nmul_on b4_ne h.1 n, ?_⟩
  rw [nmul_mul b4_ne h.1, Nat.mul_comm, ← nmul_mul b4_ne h.1, h.2, nmul_O]
theorem sub_gmul {p : F2 × F2} (h : Sub p) (k : Fr) : Sub (gmul p k) := by rw [gmul_eq h.1]; exact sub_nmul h _
theorem nmul_mod {p : F2 × F2} (h : Sub p) (m : Nat) : nmul p m = nmul p (m % rN) := by
  conv => lhs; rw [← Nat.div_add_mod m rN]
  rw [nmul_add b4_ne h.1, ← nmul_mul b4_ne h.1, h.2, nmul_O, O_add]
theorem frv (x : Fr) : ∃ n : Nat, x.v = (n : Int) ∧ n < rN := g1.frv x
theorem mul_of {p : F2 × F2} (h : Sub p) {x : Fr} {m : Nat} (hx : x.v = (m : Int) % (rN : Int)) : gmul p x = nmul p m := by
  rw [gmul_eq h.1, hx, nmul_mod h m, ← Int.natCast_emod, Int.toNat_natCast]
theorem mul_add {p : F2 × F2} (h : Sub p) (x y : Fr) : gmul p (x + y) = padd (gmul p x) (gmul p y) := by
  obtain ⟨m, hm, _⟩ := frv x
  obtain ⟨n, hn, _⟩ := frv y
  rw [mul_of h (x := x + y) (m := m + n) (by rw [add_v, hm, hn, Int.natCast_add]; rfl), gmul_eq h.1, gmul_eq h.1, hm, hn, Int.toNat_natCast, Int.toNat_natCast, nmul_add b4_ne h.1]
theorem mul_mul {p : F2 × F2} (h : Sub p) (x y : Fr) : gmul p (x * y) = gmul (gmul p x) y := by
  obtain ⟨m, hm, _⟩ := frv x
  obtain ⟨n, hn, _⟩ := frv y
  rw [mul_of h (x := x * y) (m := m * n) (by rw [mul_v, hm, hn, Int.natCast_mul]; rfl), gmul_eq (sub_gmul h x).1, gmul_eq h.1, hm, hn, Int.toNat_natCast, Int.toNat_natCast, nmul_mul b4_ne h.1]
theorem mul_zero {p : F2 × F2} (h : Sub p) : gmul p 0 = O2 := by
  rw [gmul_eq h.1, zero_v]; rfl
theorem mul_one {p : F2 × F2} (h : Sub p) : gmul p 1 = p := by
  rw [gmul_eq h.1, one_v]; exact nmul_one
theorem mul_neg {p : F2 × F2} (h : Sub p) (x : Fr) : gmul p (-x) = pneg (gmul p x) := by
  have e : padd (gmul p x) (gmul p (-x)) = O2 := by rw [← mul_add h, Rg.add_neg, mul_zero h]
  have hx := (sub_gmul h x).1
  have hn := (sub_gmul h (-x)).1
  have := cancel b4_ne hx hn
  rw [e, add_O] at this
  exact this.symm
end Go.Proofs.Ytlhgcbmanifpiaa.g2
/- g2: In. -/
namespace Go.Proofs.Ytlhgcbmanifpiaa.g2
set_option maxRecDepth 100000
open Go Go.Eng Go.RowKit Cr Go.Proofs.Ytlhgcbmanifpiaa Go.Proofs.Ytlhgcbmanifpiaa.fp2
theorem ent_in : enters Try.prog 42 Try.f42 := enters_mk (by kernel_rfl) (by kernel_rfl) (by kernel_rfl)
noncomputable def isIn (p : F2 × F2) : Bool := isOn p && decide (pml p (-1) = pneg (F := F2) p)
noncomputable abbrev outIn : HL [pt2] → HO [.val .bool] := fun (p, _) => (isIn p, ())
theorem fn_in : FnOk Try.prog 42 [pt2] [.val .bool] noG (fun _ => True) outIn := by
  refine fn_of_vc (sp := sps [spOn, fr.spOf, fr.spNeg, spPMul, spPNeg]) (sps_cons (fnSpec_ok fn_on) (sps_cons (fnSpec_ok fr.fn_of) (sps_cons (fnSpec_ok fr.fn_neg) (sps_cons (fnSpec_ok fn_pmul) (sps_cons (fnSpec_ok fn_pneg) sps_nil))))) mixed ent_in (by decide) (by decide) ?_
  rintro w M0 ⟨p, ⟨⟩⟩
  revert p
  intro (p : F2 × F2) _ _
  refine vcx (X := (True ∧ (isOn p = true → U64 (1 : Int) ∧ True ∧ True ∧ True ∧ (eqC ((Kd.fp.pair Kd.fp).pair (Kd.fp.pair Kd.fp)) (pml p (-zmr (1 : Int))) (p.fst, -p.snd), ()) = outIn (p, ())) ∧ (isOn p = false → (false, ()) = outIn (p, ())))) (by kernel_rfl) ?_
  rw [eqP2]
  refine ⟨trivial, fun h => ⟨by constructor <;> decide, trivial, trivial, trivial, ?_⟩, fun h => ?_⟩
  · show _ = (isIn p, ())
    rw [isIn, h, Bool.true_and]
    rfl
  · show _ = (isIn p, ())
    rw [isIn, h, Bool.false_and]
noncomputable def spIn : Nat × Eng.Spec := (42, fnSpec [pt2] [.val .bool] (fun _ => True) outIn)
noncomputable def gin (p : F2 × F2) : Bool := opq (isIn p)
theorem fo_in : FnOk Try.prog 42 [pt2] [.val .bool] noG (fun _ => True) (fun (p, _) => (gin p, ())) := fn_in.out fun (p, _) => by show (gin p, ()) = (_, ()); rw [gin, opq_eq]
noncomputable def soIn : Nat × Eng.Spec := (42, fnSpec [pt2] [.val .bool] (fun _ => True) (fun (p, _) => (gin p, ())))
theorem sub_in {p : F2 × F2} (h : Sub p) : gin p = true := by
  rw [gin, opq_eq, isIn]
  have h1 : isOn p = true := (isOn_iff p).2 h.1
  have h2 : pml p (-1) = pneg p := by
    have := mul_neg h 1
    rw [mul_one h, gmul, opq_eq] at this
    exact this
  rw [h1, h2]; simp
theorem gin_of {p : F2 × F2} (h : Onb p) : gin p = decide (nmul p rN = (0, 0)) := by
  rw [Bool.eq_iff_iff, decide_eq_true_iff]
  constructor
  · intro hi
    rw [gin, opq_eq, isIn, Bool.and_eq_true, decide_eq_true_iff] at hi
    have e : pml p (-1) = nmul p (rN - 1) := by
      have := gmul_eq h (-1)
      rw [gmul, opq_eq] at this
      rw [this]; rfl
    rw [e] at hi
    have : nmul p (rN - 1 + 1) = padd (nmul p (rN - 1)) p := rfl
    rw [hi.2, neg_add_self] at this
    exact this
  · intro hi; exact sub_in ⟨h, hi⟩
end Go.Proofs.Ytlhgcbmanifpiaa.g2
/- codec: ReadG2 (printed by tools/gen_cdr2.py). -/
namespace Go.Proofs.Ytlhgcbmanifpiaa.codec
set_option maxRecDepth 100000
open Go Go.Eng Go.RowKit Cr Go.Proofs.Ytlhgcbmanifpiaa
theorem ent_readG2 : enters Try.prog 35 Try.f35 := enters_mk (by kernel_rfl) (by kernel_rfl) (by kernel_rfl)
/-- Is a point one of the group? -/
noncomputable def chk2 (p : F2 × F2) : (F2 × F2) × Int := if p = ((0 : F2), (0 : F2)) then (((0 : F2), (0 : F2)), 13) else if g2.gon p = true then (if g2.gin p = true then (p, 0) else (((0 : F2), (0 : F2)), 14)) else (((0 : F2), (0 : F2)), 13)
/-- The right one of two roots. -/
noncomputable def sgn2 (y : F2) (l : Bool) : F2 := if fp2.lg2 y = l then y else -y
noncomputable def root2 (x : F2) : F2 := (fp2.sqrt2 (x * x * x + (zm 4, zm 4))).1
noncomputable def rg2 (b : List Int) : (F2 × F2) × Int :=
  if (partF b 96).2.2 = 0 then
    if inF b = true then (((0 : F2), (0 : F2)), 0)
    else if (fp2.rdF2 ((bdy b).take 96)).2 = 0 then
      if shT b = true then chk2 ((fp2.rdF2 ((bdy b).take 96)).1, sgn2 (root2 (fp2.rdF2 ((bdy b).take 96)).1) (lgE b))
      else if (fp2.rdF2 ((bdy b).drop 96)).2 = 0 then chk2 ((fp2.rdF2 ((bdy b).take 96)).1, (fp2.rdF2 ((bdy b).drop 96)).1)
      else (((0 : F2), (0 : F2)), 12)
    else (((0 : F2), (0 : F2)), 12)
  else (((0 : F2), (0 : F2)), (partF b 96).2.2)
noncomputable abbrev outRG2 : HL [.sl (.int .u8)] → HO [.val g2.pt2, .val (.int .i64)] := fun (b, _) => ((rg2 b).1, (rg2 b).2, ())
noncomputable def rhC (g : Int × List Int) : St := mkSt Try.f35.ntmps 144 [(2, .is (.one (.ptr 0 0))), (3, sI .i64 0), (4, .is (.one (.sl 24 0 0 g.2.length 1))), (5, sI .u8 g.1)] [(0, g2.pc (0, 0)), (24, [.ints .u8 g.2.length g.2])]
noncomputable def rhD (p : F2 × F2) : St := mkSt Try.f35.ntmps 352 [(2, .is (.one (.ptr 0 0))), (3, sI .i64 0), (7, .is (.one (.ptr 144 0)))] [(0, g2.pc (0, 0)), (144, g2.pc p)]
theorem fn_readG2 : FnOk Try.prog 35 [.sl (.int .u8)] [.val g2.pt2, .val (.int .i64)] noG preRG outRG2 := by
  have hsp : SpecsOk Try.prog (sps [spPart, fp2.spRead, fp2.spSquare, fp2.spMul, fp2.spAdd, fp2.spSmall, fp2.spSqrt, fp2.spLarge, fp2.spNeg, g2.soOn, g2.soIn]) := (sps_cons (fnSpec_ok fn_part) (sps_cons (fnSpec_ok fp2.fn_read) (sps_cons (fnSpec_ok fp2.fn_square) (sps_cons (fnSpec_ok fp2.fn_mul) (sps_cons (fnSpec_ok fp2.fn_add) (sps_cons (fnSpec_ok fp2.fn_small) (sps_cons (fnSpec_ok fp2.fn_sqrt) (sps_cons (fnSpec_ok fp2.fn_large) (sps_cons (fnSpec_ok fp2.fn_neg) (sps_cons (fnSpec_ok g2.fo_on) (sps_cons (fnSpec_ok g2.fo_in) sps_nil)))))))))))
  refine fn_of_tr (sp := sps [spPart, fp2.spRead, fp2.spSquare, fp2.spMul, fp2.spAdd, fp2.spSmall, fp2.spSqrt, fp2.spLarge, fp2.spNeg, g2.soOn, g2.soIn]) ent_readG2 (by decide) (by decide) (by kernel_rfl) ?_
  rintro w M0 ⟨b, ⟨⟩⟩
  revert b
  intro (b : List Int) _ hp
  obtain ⟨hb, hl⟩ := hp
  have hl : b.length ≤ 1000000 := hl
  show Tr _ _ _ _ _ _ _
  have pp : prePart (b, 96, ()) := ⟨⟨hb, hl⟩, by decide, by decide⟩
  refine tr_cutF hsp mixed 4 (fun σ => (rdS (.int .u8) 5 σ, rdR (.int .u8) 24 σ)) rhC (rgK b 96) ?_ ?_
  · refine vcx (X := (prePart (b, (96 : Int), ()) ∧ (((partF b (96 : Int)).snd.snd != (0 : Int)) = true → ((((0 : Fp), (0 : Fp)), (0 : Fp), (0 : Fp)), (partF b (96 : Int)).snd.snd, ()) = outRG2 (b, ())) ∧ (((partF b (96 : Int)).snd.snd != (0 : Int)) = false → ((bitOp BinOp.and IntKind.u8 (partF b (96 : Int)).snd.fst (64 : Int) != (0 : Int)) = true → ((((0 : Fp), (0 : Fp)), (0 : Fp), (0 : Fp)), (partF b (96 : Int)).snd.snd, ()) = outRG2 (b, ())) ∧ ((bitOp BinOp.and IntKind.u8 (partF b (96 : Int)).snd.fst (64 : Int) != (0 : Int)) = false → (rhC ((partF b (96 : Int)).snd.fst, (partF b (96 : Int)).fst)).triv (rgK b (96 : Int) ((partF b (96 : Int)).snd.fst, (partF b (96 : Int)).fst)))))) (by kernel_rfl) ?_
    have s2 : (partF b 96).2.2 = 0 → (bitOp .and .u8 (partF b 96).2.1 64 != 0) = inF b := fun h => by rw [(part_ok h).1]; rfl
    refine ⟨pp, fun h => ?_, fun h => ?_⟩
    · have h : ¬ (partF b 96).2.2 = 0 := by simpa using h
      show _ = ((rg2 b).1, (rg2 b).2, ())
      rw [rg2, if_neg h]; rfl
    · have h : (partF b 96).2.2 = 0 := by simpa using h
      rw [s2 h]
      refine ⟨fun h2 => ?_, fun h2 => triv_intro ⟨?_, ?_, h, h2⟩⟩
      · show _ = ((rg2 b).1, (rg2 b).2, ())
        rw [rg2, if_pos h, if_pos h2, h]; rfl
      · show (partF b 96).2.1 = brs b
        rw [(part_ok h).1]
      · show (partF b 96).1 = bdy b
        rw [(part_ok h).1]
  rintro ⟨br, bd⟩ hK
  revert br bd
  intro (br : Int) (bd : List Int) ⟨k1, k2, k3, k4⟩
  have k1 : br = brs b := k1
  have k2 : bd = bdy b := k2
  obtain ⟨_, ha, hlen⟩ := part_ok k3
  have hbl : bd.length = b.length := by rw [k2, bdy_len]
  have hbs : Bs bd := by rw [k2]; exact bdy_Bs hb
  have s1 : (bitOp .and .u8 br 128 == 0) = !shT b := by rw [shT, k1]; cases h : (bitOp .and .u8 (brs b) 128 == 0) <;> simp [bne, h]
  have s3 : (bitOp .and .u8 br 32 != 0) = lgE b := by rw [lgE, k1]
  refine tr_cutF hsp mixed 6 (fun σ => rdB g2.pt2 144 σ) rhD (fun p => rg2 b = chk2 p) ?_ ?_
  · refine vcx (X := (((0 : Int) ≤ (96 : Int) ∧ (96 : Int) ≤ (↑bd.length : Int)) ∧ (0 : Nat) + (96 : Nat) ≤ bd.length ∧ fp2.preRead (List.take (96 : Nat) bd, ()) ∧ (((fp2.rdF2 (List.take (96 : Nat) bd)).snd != (0 : Int)) = true → ((((0 : Fp), (0 : Fp)), (0 : Fp), (0 : Fp)), (12 : Int), ()) = outRG2 (b, ())) ∧ (((fp2.rdF2 (List.take (96 : Nat) bd)).snd != (0 : Int)) = false → ((bitOp BinOp.and IntKind.u8 br (128 : Int) == (0 : Int)) = true → ((0 : Int) ≤ (96 : Int) ∧ (96 : Int) ≤ (↑bd.length : Int)) ∧ (96 : Nat) + ((↑bd.length : Int) - (96 : Int)).toNat ≤ bd.length ∧ fp2.preRead (List.take ((↑bd.length : Int) - (96 : Int)).toNat (List.drop (96 : Nat) bd), ()) ∧ (((fp2.rdF2 (List.take ((↑bd.length : Int) - (96 : Int)).toNat (List.drop (96 : Nat) bd))).snd != (0 : Int)) = true → ((((0 : Fp), (0 : Fp)), (0 : Fp), (0 : Fp)), (12 : Int), ()) = outRG2 (b, ())) ∧ (((fp2.rdF2 (List.take ((↑bd.length : Int) - (96 : Int)).toNat (List.drop (96 : Nat) bd))).snd != (0 : Int)) = false → (rhD ((fp2.rdF2 (List.take (96 : Nat) bd)).fst, (fp2.rdF2 (List.take ((↑bd.length : Int) - (96 : Int)).toNat (List.drop (96 : Nat) bd))).fst)).triv (rg2 b = chk2 ((fp2.rdF2 (List.take (96 : Nat) bd)).fst, (fp2.rdF2 (List.take ((↑bd.length : Int) - (96 : Int)).toNat (List.drop (96 : Nat) bd))).fst)))) ∧ ((bitOp BinOp.and IntKind.u8 br (128 : Int) == (0 : Int)) = false → True ∧ True ∧ (U64 (4 : Int) ∧ U64 (4 : Int)) ∧ True ∧ True ∧ True ∧ ((!fp2.lg2 (fp2.sqrt2 ((fp2.rdF2 (List.take (96 : Nat) bd)).fst * (fp2.rdF2 (List.take (96 : Nat) bd)).fst * (fp2.rdF2 (List.take (96 : Nat) bd)).fst + (zmp (4 : Int), zmp (4 : Int)))).fst == (bitOp BinOp.and IntKind.u8 br (32 : Int) != (0 : Int))) = true → True ∧ (rhD ((fp2.rdF2 (List.take (96 : Nat) bd)).fst, -(fp2.sqrt2 ((fp2.rdF2 (List.take (96 : Nat) bd)).fst * (fp2.rdF2 (List.take (96 : Nat) bd)).fst * (fp2.rdF2 (List.take (96 : Nat) bd)).fst + (zmp (4 : Int), zmp (4 : Int)))).fst)).triv (rg2 b = chk2 ((fp2.rdF2 (List.take (96 : Nat) bd)).fst, -(fp2.sqrt2 ((fp2.rdF2 (List.take (96 : Nat) bd)).fst * (fp2.rdF2 (List.take (96 : Nat) bd)).fst * (fp2.rdF2 (List.take (96 : Nat) bd)).fst + (zmp (4 : Int), zmp (4 : Int)))).fst))) ∧ ((!fp2.lg2 (fp2.sqrt2 ((fp2.rdF2 (List.take (96 : Nat) bd)).fst * (fp2.rdF2 (List.take (96 : Nat) bd)).fst * (fp2.rdF2 (List.take (96 : Nat) bd)).fst + (zmp (4 : Int), zmp (4 : Int)))).fst == (bitOp BinOp.and IntKind.u8 br (32 : Int) != (0 : Int))) = false → (rhD ((fp2.rdF2 (List.take (96 : Nat) bd)).fst, (fp2.sqrt2 ((fp2.rdF2 (List.take (96 : Nat) bd)).fst * (fp2.rdF2 (List.take (96 : Nat) bd)).fst * (fp2.rdF2 (List.take (96 : Nat) bd)).fst + (zmp (4 : Int), zmp (4 : Int)))).fst)).triv (rg2 b = chk2 ((fp2.rdF2 (List.take (96 : Nat) bd)).fst, (fp2.sqrt2 ((fp2.rdF2 (List.take (96 : Nat) bd)).fst * (fp2.rdF2 (List.take (96 : Nat) bd)).fst * (fp2.rdF2 (List.take (96 : Nat) bd)).fst + (zmp (4 : Int), zmp (4 : Int)))).fst))))))) (by kernel_rfl) ?_
    rw [s1, s3, show List.take ((bd.length : Int) - 96).toNat (List.drop 96 bd) = List.drop 96 bd from List.take_of_length_le (by simp; omega)]
    have er : rg2 b = if (fp2.rdF2 (bd.take 96)).2 = 0 then
        if shT b = true then chk2 ((fp2.rdF2 (bd.take 96)).1, sgn2 (root2 (fp2.rdF2 (bd.take 96)).1) (lgE b))
        else if (fp2.rdF2 (bd.drop 96)).2 = 0 then chk2 ((fp2.rdF2 (bd.take 96)).1, (fp2.rdF2 (bd.drop 96)).1)
        else (((0 : F2), (0 : F2)), 12)
      else (((0 : F2), (0 : F2)), 12) := by rw [rg2, if_pos k3, if_neg (by rw [k4]; decide), k2]
    have r1 : fp2.preRead (bd.take 96, ()) := fun x hx => hbs x (List.mem_of_mem_take hx)
    have r2 : fp2.preRead (bd.drop 96, ()) := fun x hx => hbs x (List.mem_of_mem_drop hx)
    generalize hX : (fp2.rdF2 (bd.take 96)) = X at *
    generalize hY : (fp2.rdF2 (bd.drop 96)) = Y at *
    rw [show (fp2.sqrt2 (X.1 * X.1 * X.1 + (zmp 4, zmp 4))).1 = root2 X.1 from rfl]
    refine ⟨⟨by decide, by omega⟩, by omega, r1, fun h => ?_, fun h => ⟨fun h2 => ⟨⟨by decide, by omega⟩, by omega, r2, fun h3 => ?_, fun h3 => triv_intro ?_⟩, fun h2 => ⟨trivial, trivial, ⟨by constructor <;> decide, by constructor <;> decide⟩, trivial, trivial, trivial, fun h3 => ⟨trivial, triv_intro ?_⟩, fun h3 => triv_intro ?_⟩⟩⟩
    · show _ = ((rg2 b).1, (rg2 b).2, ())
      rw [er, if_neg (by simpa using h)]; rfl
    · show _ = ((rg2 b).1, (rg2 b).2, ())
      rw [er, if_pos (by simpa using h), if_neg (by simpa using h2), if_neg (by simpa using h3)]; rfl
    · rw [er, if_pos (by simpa using h), if_neg (by simpa using h2), if_pos (by simpa using h3)]
    · rw [er, if_pos (by simpa using h), if_pos (by simpa using h2), sgn2, if_neg (by simpa using h3)]
    · rw [er, if_pos (by simpa using h), if_pos (by simpa using h2), sgn2, if_pos (by simpa using h3)]
  intro (p : F2 × F2) (hp : rg2 b = chk2 p)
  refine tr_vc hsp mixed _ _ ?_
  refine vcx (X := ((eqC ((Kd.fp.pair Kd.fp).pair (Kd.fp.pair Kd.fp)) p (((0 : Fp), (0 : Fp)), (0 : Fp), (0 : Fp)) = true → ((((0 : Fp), (0 : Fp)), (0 : Fp), (0 : Fp)), (13 : Int), ()) = outRG2 (b, ())) ∧ (eqC ((Kd.fp.pair Kd.fp).pair (Kd.fp.pair Kd.fp)) p (((0 : Fp), (0 : Fp)), (0 : Fp), (0 : Fp)) = false → True ∧ ((!g2.gon p) = true → ((((0 : Fp), (0 : Fp)), (0 : Fp), (0 : Fp)), (13 : Int), ()) = outRG2 (b, ())) ∧ ((!g2.gon p) = false → True ∧ ((!g2.gin p) = true → ((((0 : Fp), (0 : Fp)), (0 : Fp), (0 : Fp)), (14 : Int), ()) = outRG2 (b, ())) ∧ ((!g2.gin p) = false → (p, (0 : Int), ()) = outRG2 (b, ())))))) (by kernel_rfl) ?_
  rw [g2.eqP2]
  refine ⟨fun h => ?_, fun h => ⟨trivial, fun h2 => ?_, fun h2 => ⟨trivial, fun h3 => ?_, fun h3 => ?_⟩⟩⟩
  all_goals show _ = ((rg2 b).1, (rg2 b).2, ())
  all_goals rw [hp, chk2]
  · rw [if_pos (show p = ((0 : F2), (0 : F2)) from of_decide_eq_true h)]; try rfl
  · rw [if_neg (show ¬ p = ((0 : F2), (0 : F2)) from of_decide_eq_false h), if_neg (by simpa using h2)]; try rfl
  · rw [if_neg (show ¬ p = ((0 : F2), (0 : F2)) from of_decide_eq_false h), if_pos (by simpa using h2), if_neg (by simpa using h3)]; try rfl
  · rw [if_neg (show ¬ p = ((0 : F2), (0 : F2)) from of_decide_eq_false h), if_pos (by simpa using h2), if_pos (by simpa using h3)]; try rfl
noncomputable def spReadG2 : Nat × Eng.Spec := (35, fnSpec [.sl (.int .u8)] [.val g2.pt2, .val (.int .i64)] preRG outRG2)
end Go.Proofs.Ytlhgcbmanifpiaa.codec
/- codec: forms of points, plainly: what is written is what is read. -/
namespace Go.Proofs.Ytlhgcbmanifpiaa.codec
set_option maxRecDepth 100000
open Go Go.Eng Go.RowKit Cr Go.Proofs.Ytlhgcbmanifpiaa
theorem bit_fin : ∀ v : Fin 32, ∀ k : Fin 8, bitOp .and .u8 ((v.val + 32 * k.val : Nat) : Int) 224 = ((32 * k.val : Nat) : Int) ∧ bitOp .andNot .u8 ((v.val + 32 * k.val : Nat) : Int) 224 = ((v.val : Nat) : Int) ∧ (bitOp .and .u8 ((32 * k.val : Nat) : Int) 128 != 0) = decide (4 ≤ k.val) ∧ (bitOp .and .u8 ((32 * k.val : Nat) : Int) 64 != 0) = decide (k.val / 2 % 2 = 1) ∧ (bitOp .and .u8 ((32 * k.val : Nat) : Int) 32 != 0) = decide (k.val % 2 = 1) := by decide +kernel
theorem or_fin : ∀ v : Fin 32, bitOp .or .u8 ((v.val : Nat) : Int) 128 = ((v.val + 32 * 4 : Nat) : Int) ∧ bitOp .or .u8 ((v.val : Nat) : Int) 160 = ((v.val + 32 * 5 : Nat) : Int) ∧ bitOp .or .u8 ((v.val : Nat) : Int) 192 = ((v.val + 32 * 6 : Nat) : Int) ∧ bitOp .or .u8 ((v.val : Nat) : Int) 64 = ((v.val + 32 * 2 : Nat) : Int) := by decide +kernel
theorem xor_fin : ∀ v : Fin 32, ∀ k m : Fin 8, bitOp .xor .u8 ((v.val + 32 * k.val : Nat) : Int) ((32 * m.val : Nat) : Int) = ((v.val + 32 * (k.val ^^^ m.val) : Nat) : Int) := by decide +kernel
/-- A body: its first byte bears no marks. -/
def BD (l : List Int) : Prop := 1 ≤ l.length ∧ 0 ≤ l.getD 0 0 ∧ l.getD 0 0 < 32
/-- A body with marks. -/
def hdk (l : List Int) (k : Nat) : List Int := l.set 0 (l.getD 0 0 + ((32 * k : Nat) : Int))
theorem BD.cons {l : List Int} (h : BD l) : ∃ (v : Nat) (t : List Int), v < 32 ∧ l = ((v : Nat) : Int) :: t := by
  obtain ⟨h1, h2, h3⟩ := h
  cases l with
  | nil => simp at h1
  | cons a t =>
    simp at h2 h3
    exact ⟨a.toNat, t, by omega, by rw [Int.toNat_of_nonneg h2]⟩
theorem hdk_cons (v : Nat) (t : List Int) (k : Nat) : hdk (((v : Nat) : Int) :: t) k = ((v + 32 * k : Nat) : Int) :: t := by
  simp [hdk]
theorem hdk_len (l : List Int) (k : Nat) : (hdk l k).length = l.length := by rw [hdk, List.length_set]
theorem hdk_brs {l : List Int} (h : BD l) {k : Nat} (hk : k < 8) : brs (hdk l k) = ((32 * k : Nat) : Int) := by
  obtain ⟨v, t, hv, rfl⟩ := h.cons
  rw [hdk_cons]
  exact (bit_fin ⟨v, hv⟩ ⟨k, hk⟩).1
theorem hdk_bdy {l : List Int} (h : BD l) {k : Nat} (hk : k < 8) : bdy (hdk l k) = l := by
  obtain ⟨v, t, hv, rfl⟩ := h.cons
  rw [hdk_cons, bdy]
  show bitOp .andNot .u8 ((v + 32 * k : Nat) : Int) 224 :: t = _
  rw [(bit_fin ⟨v, hv⟩ ⟨k, hk⟩).2.1]
theorem hdk_sh {l : List Int} (h : BD l) {k : Nat} (hk : k < 8) : shT (hdk l k) = decide (4 ≤ k) := by
  rw [shT, hdk_brs h hk]; exact (bit_fin ⟨0, by decide⟩ ⟨k, hk⟩).2.2.1
theorem hdk_in {l : List Int} (h : BD l) {k : Nat} (hk : k < 8) : inF (hdk l k) = decide (k / 2 % 2 = 1) := by
  rw [inF, hdk_brs h hk]; exact (bit_fin ⟨0, by decide⟩ ⟨k, hk⟩).2.2.2.1
theorem hdk_lg {l : List Int} (h : BD l) {k : Nat} (hk : k < 8) : lgE (hdk l k) = decide (k % 2 = 1) := by
  rw [lgE, hdk_brs h hk]; exact (bit_fin ⟨0, by decide⟩ ⟨k, hk⟩).2.2.2.2
theorem hdk_xor {l : List Int} (h : BD l) {k m : Nat} (hk : k < 8) (hm : m < 8) : (hdk l k).set 0 (bitOp .xor .u8 ((hdk l k).getD 0 0) ((32 * m : Nat) : Int)) = hdk l (k ^^^ m) := by
  obtain ⟨v, t, hv, rfl⟩ := h.cons
  rw [hdk_cons, hdk_cons]
  show bitOp .xor .u8 ((v + 32 * k : Nat) : Int) ((32 * m : Nat) : Int) :: t = _
  rw [xor_fin ⟨v, hv⟩ ⟨k, hk⟩ ⟨m, hm⟩]
theorem hdk_or {l : List Int} (h : BD l) : l.set 0 (bitOp .or .u8 (l.getD 0 0) 128) = hdk l 4 ∧ l.set 0 (bitOp .or .u8 (l.getD 0 0) 160) = hdk l 5 ∧ l.set 0 (bitOp .or .u8 (l.getD 0 0) 192) = hdk l 6 ∧ l.set 0 (bitOp .or .u8 (l.getD 0 0) 64) = hdk l 2 := by
  obtain ⟨v, t, hv, rfl⟩ := h.cons
  obtain ⟨e1, e2, e3, e4⟩ := or_fin ⟨v, hv⟩
  simp only [hdk_cons]
  refine ⟨?_, ?_, ?_, ?_⟩
  · exact congrArg (· :: t) e1
  · exact congrArg (· :: t) e2
  · exact congrArg (· :: t) e3
  · exact congrArg (· :: t) e4
theorem hdk_zero {l : List Int} (h : BD l) : hdk l 0 = l := by
  obtain ⟨v, t, hv, rfl⟩ := h.cons
  rw [hdk_cons]
  simp
theorem split_hdk {b : List Int} (h : Bs b) (hl : 1 ≤ b.length) : ∃ k, k < 8 ∧ BD (bdy b) ∧ b = hdk (bdy b) k := by
  cases b with
  | nil => simp at hl
  | cons a t =>
    obtain ⟨h0, h1⟩ := h a (by simp)
    have e : a = ((a.toNat % 32 + 32 * (a.toNat / 32) : Nat) : Int) := by omega
    have hv : a.toNat % 32 < 32 := Nat.mod_lt _ (by decide)
    have hk : a.toNat / 32 < 8 := by omega
    generalize a.toNat % 32 = v at e hv
    generalize a.toNat / 32 = k at e hk
    subst e
    have hb : bdy (((v + 32 * k : Nat) : Int) :: t) = ((v : Nat) : Int) :: t := by
      rw [bdy]
      show bitOp .andNot .u8 ((v + 32 * k : Nat) : Int) 224 :: t = _
      rw [(bit_fin ⟨v, hv⟩ ⟨k, hk⟩).2.1]
    refine ⟨k, hk, ?_, ?_⟩
    · rw [hb]; exact ⟨by simp, by simp, by simp; omega⟩
    · rw [hb, hdk_cons]
/-- A kind of forms. -/
structure Frm (F : Type) where
  n : Nat
  bts : F → List Int
  rd : List Int → F × Int
  lg : F → Bool
  rt : F → F
  gon : F × F → Bool
  gin : F × F → Bool
section
variable {F : Type} [Cr.Fd F] [DecidableEq F]
structure Frm.Ok (S : Frm F) : Prop where
  n0 : 1 ≤ S.n
  len : ∀ x, (S.bts x).length = S.n
  bs : ∀ x, Bs (S.bts x)
  hd : ∀ x, (S.bts x).getD 0 0 < 32
  rdb : ∀ x, S.rd (S.bts x) = (x, 0)
  brd : ∀ b, Bs b → (S.rd b).2 = 0 → S.bts (S.rd b).1 = b
  lgn : ∀ y, y ≠ 0 → S.lg (-y) = !S.lg y
  z : S.bts 0 = List.replicate S.n 0
  root : ∀ x y, S.gon (x, y) = true → (x, y) ≠ ((0 : F), (0 : F)) → y = S.rt x ∨ y = -S.rt x
  on0 : S.gon (0, 0) = true
  in0 : S.gin (0, 0) = true
  iny : ∀ x y, S.gon (x, y) = true → S.gin (x, y) = true → (x, y) ≠ ((0 : F), (0 : F)) → y ≠ 0 ∧ x ≠ 0
  onn : ∀ x y, S.gon (x, y) = true → S.gon (x, -y) = true
  inn : ∀ x y, S.gon (x, y) = true → S.gin (x, y) = true → S.gin (x, -y) = true
def Frm.sgn (S : Frm F) (y : F) (l : Bool) : F := if S.lg y = l then y else -y
def Frm.chk (S : Frm F) (p : F × F) : (F × F) × Int := if p = ((0 : F), (0 : F)) then (((0 : F), (0 : F)), 13) else if S.gon p = true then (if S.gin p = true then (p, 0) else (((0 : F), (0 : F)), 14)) else (((0 : F), (0 : F)), 13)
def Frm.rg (S : Frm F) (b : List Int) : (F × F) × Int :=
  if (partF b S.n).2.2 = 0 then
    if inF b = true then (((0 : F), (0 : F)), 0)
    else if (S.rd ((bdy b).take S.n)).2 = 0 then
      if shT b = true then S.chk ((S.rd ((bdy b).take S.n)).1, S.sgn (S.rt (S.rd ((bdy b).take S.n)).1) (lgE b))
      else if (S.rd ((bdy b).drop S.n)).2 = 0 then S.chk ((S.rd ((bdy b).take S.n)).1, (S.rd ((bdy b).drop S.n)).1)
      else (((0 : F), (0 : F)), 12)
    else (((0 : F), (0 : F)), 12)
  else (((0 : F), (0 : F)), (partF b S.n).2.2)
def Frm.short (S : Frm F) (p : F × F) : List Int := (S.bts p.1).set 0 (bitOp .or .u8 ((S.bts p.1).getD 0 0) (if p = ((0 : F), (0 : F)) then (192 : Int) else if S.lg p.2 = true then 160 else 128))
def Frm.full (S : Frm F) (p : F × F) : List Int := if p = ((0 : F), (0 : F)) then (S.bts p.1 ++ S.bts p.2).set 0 (bitOp .or .u8 ((S.bts p.1 ++ S.bts p.2).getD 0 0) 64) else S.bts p.1 ++ S.bts p.2
variable {S : Frm F}
omit [DecidableEq F] in
theorem Frm.Ok.BD1 (h : S.Ok) (x : F) : BD (S.bts x) := by
  have hl := h.len x
  have h0 := h.n0
  refine ⟨by omega, ?_, h.hd x⟩
  cases hx : S.bts x with
  | nil => simp
  | cons a t =>
    have := h.bs x a (by rw [hx]; simp)
    simpa using this.1
omit [DecidableEq F] in
theorem Frm.Ok.BD2 (h : S.Ok) (x y : F) : BD (S.bts x ++ S.bts y) := by
  obtain ⟨v, t, hv, e⟩ := (h.BD1 x).cons
  rw [e]
  refine ⟨by simp, by simp, by simp; omega⟩
theorem Frm.Ok.short_eq (h : S.Ok) (p : F × F) : S.short p = hdk (S.bts p.1) (if p = ((0 : F), (0 : F)) then 6 else if S.lg p.2 = true then 5 else 4) := by
  obtain ⟨e1, e2, e3, e4⟩ := hdk_or (h.BD1 p.1)
  unfold Frm.short
  split
  · exact e3
  · split
    · exact e2
    · exact e1
theorem Frm.Ok.full_eq (h : S.Ok) (p : F × F) : S.full p = hdk (S.bts p.1 ++ S.bts p.2) (if p = ((0 : F), (0 : F)) then 2 else 0) := by
  obtain ⟨e1, e2, e3, e4⟩ := hdk_or (h.BD2 p.1 p.2)
  unfold Frm.full
  split
  · exact e4
  · rw [hdk_zero (h.BD2 p.1 p.2)]
omit [DecidableEq F] in
theorem Frm.Ok.nz (h : S.Ok) {x : F} (hx : x ≠ 0) : ∃ v ∈ S.bts x, v ≠ 0 := by
  refine Classical.byContradiction fun c => hx ?_
  have e : S.bts x = List.replicate S.n 0 := by
    rw [← h.len x]
    refine List.eq_replicate_of_mem fun v hv => Classical.byContradiction fun c2 => c ⟨v, hv, c2⟩
  have h1 := h.rdb x
  rw [e, ← h.z, h.rdb] at h1
  exact (congrArg Prod.fst h1).symm
/-- What is read of a body with marks. -/
theorem Frm.Ok.rg_hdk {l : List Int} (hl : BD l) {k : Nat} (hk : k < 8) : S.rg (hdk l k) =
    if l.length ≠ S.n ∧ l.length ≠ 2 * S.n then (((0 : F), (0 : F)), 10)
    else if decide (4 ≤ k) ≠ decide (l.length = S.n) then (((0 : F), (0 : F)), 11)
    else if k % 2 = 1 ∧ (k < 4 ∨ k / 2 % 2 = 1) then (((0 : F), (0 : F)), 11)
    else if k / 2 % 2 = 1 then (if ∃ v ∈ l, v ≠ 0 then (((0 : F), (0 : F)), 11) else (((0 : F), (0 : F)), 0))
    else if (S.rd (l.take S.n)).2 = 0 then
      if 4 ≤ k then S.chk ((S.rd (l.take S.n)).1, S.sgn (S.rt (S.rd (l.take S.n)).1) (decide (k % 2 = 1)))
      else if (S.rd (l.drop S.n)).2 = 0 then S.chk ((S.rd (l.take S.n)).1, (S.rd (l.drop S.n)).1)
      else (((0 : F), (0 : F)), 12)
    else (((0 : F), (0 : F)), 12) := by
  unfold Frm.rg partF
  rw [hdk_bdy hl hk, hdk_sh hl hk, hdk_in hl hk, hdk_lg hl hk, hdk_len]
  have c1 : ((l.length : Int) ≠ (S.n : Int) ∧ (l.length : Int) ≠ 2 * (S.n : Int)) ↔ (l.length ≠ S.n ∧ l.length ≠ 2 * S.n) := by omega
  have c2 : decide ((l.length : Int) = (S.n : Int)) = decide (l.length = S.n) := by simp [Int.ofNat_inj]
  by_cases h1 : l.length ≠ S.n ∧ l.length ≠ 2 * S.n
  · simp only [if_pos (c1.2 h1), if_pos h1]
    rw [if_neg (by decide)]
  · simp only [if_neg (fun c => h1 (c1.1 c)), if_neg h1, c2]
    by_cases h2 : decide (4 ≤ k) ≠ decide (l.length = S.n)
    · simp only [if_pos h2]
      rw [if_neg (by decide)]
    · simp only [if_neg h2]
      have c3 : (decide (k % 2 = 1) = true ∧ (decide (4 ≤ k) = false ∨ decide (k / 2 % 2 = 1) = true)) ↔ (k % 2 = 1 ∧ (k < 4 ∨ k / 2 % 2 = 1)) := by
        simp only [decide_eq_true_iff, decide_eq_false_iff_not]
        omega
      by_cases h3 : k % 2 = 1 ∧ (k < 4 ∨ k / 2 % 2 = 1)
      · simp only [if_pos (c3.2 h3), if_pos h3]
        rw [if_neg (by decide)]
      · simp only [if_neg (fun c => h3 (c3.1 c)), if_neg h3]
        by_cases h4 : k / 2 % 2 = 1
        · simp only [if_pos h4, decide_eq_true h4, true_and]
          by_cases h5 : ∃ v ∈ l, v ≠ 0
          · simp only [if_pos h5]
            rw [if_neg (by decide)]
          · simp only [if_neg h5]
            simp only [if_true]
        · have h4' : ¬ (decide (k / 2 % 2 = 1) = true) := by simpa using h4
          simp only [if_neg h4, if_neg h4', if_neg (show ¬ (decide (k / 2 % 2 = 1) = true ∧ ∃ v ∈ l, v ≠ 0) from fun c => h4' c.1), if_true]
          by_cases h6 : 4 ≤ k
          · simp only [if_pos h6, decide_eq_true h6, if_true]
          · have h6' : ¬ (decide (4 ≤ k) = true) := by simpa using h6
            simp only [if_neg h6, if_neg h6']
theorem Frm.chk_ok {p : F × F} (h0 : p ≠ ((0 : F), (0 : F))) (h1 : S.gon p = true) (h2 : S.gin p = true) : S.chk p = (p, 0) := by
  rw [Frm.chk, if_neg h0, if_pos h1, if_pos h2]
omit [DecidableEq F] in
theorem Frm.Ok.sgn_eq (h : S.Ok) {x y : F} (h0 : (x, y) ≠ ((0 : F), (0 : F))) (h1 : S.gon (x, y) = true) (h2 : S.gin (x, y) = true) : S.sgn (S.rt x) (S.lg y) = y := by
  obtain ⟨hy, _⟩ := h.iny x y h1 h2 h0
  unfold Frm.sgn
  rcases h.root x y h1 h0 with e | e
  · rw [← e, if_pos rfl]
  · have hr : S.rt x ≠ 0 := fun c => hy (by rw [e, c, Rg.neg_zero])
    rw [if_neg, e]
    rw [e, h.lgn _ hr]
    cases S.lg (S.rt x) <;> decide
/-- The short form comes back. -/
theorem Frm.Ok.short_back (h : S.Ok) {p : F × F} (h1 : S.gon p = true) (h2 : S.gin p = true) : S.rg (S.short p) = (p, 0) := by
  have hn := h.n0
  have hl := h.len p.1
  rw [h.short_eq, Frm.Ok.rg_hdk (h.BD1 p.1) (by split; decide; split <;> decide), if_neg (by omega)]
  by_cases h0 : p = ((0 : F), (0 : F))
  · rw [if_pos h0, if_neg (by simp [hl]), if_neg (by decide), if_pos (by decide), if_neg, h0]
    rintro ⟨v, hv, hne⟩
    rw [h0, h.z] at hv
    exact hne (List.eq_of_mem_replicate hv)
  · rw [if_neg h0]
    obtain ⟨x, y⟩ := p
    have hx : S.rd ((S.bts x).take S.n) = (x, 0) := by rw [List.take_of_length_le (by rw [h.len]; exact Nat.le_refl _), h.rdb]
    have hs := h.sgn_eq h0 h1 h2
    by_cases hg : S.lg y = true
    · rw [hg] at hs
      rw [if_pos hg, if_neg (by simp [h.len]), if_neg (by decide), if_neg (by decide), hx, if_pos rfl, if_pos (by decide)]
      show S.chk (x, S.sgn (S.rt x) true) = _
      rw [hs, Frm.chk_ok h0 h1 h2]
    · have hg' : S.lg y = false := by simpa using hg
      rw [hg'] at hs
      rw [if_neg hg, if_neg (by simp [h.len]), if_neg (by decide), if_neg (by decide), hx, if_pos rfl, if_pos (by decide)]
      show S.chk (x, S.sgn (S.rt x) false) = _
      rw [hs, Frm.chk_ok h0 h1 h2]
omit [DecidableEq F] in
theorem Frm.Ok.full_len (h : S.Ok) (x y : F) : (S.bts x ++ S.bts y).length = 2 * S.n := by
  rw [List.length_append, h.len, h.len]; omega
omit [DecidableEq F] in
theorem Frm.Ok.full_take (h : S.Ok) (x y : F) : (S.bts x ++ S.bts y).take S.n = S.bts x := by
  rw [List.take_append_of_le_length (by rw [h.len]; exact Nat.le_refl _), List.take_of_length_le (by rw [h.len]; exact Nat.le_refl _)]
omit [DecidableEq F] in
theorem Frm.Ok.full_drop (h : S.Ok) (x y : F) : (S.bts x ++ S.bts y).drop S.n = S.bts y := by
  rw [← h.len x, List.drop_left]
/-- The long form comes back. -/
theorem Frm.Ok.full_back (h : S.Ok) {p : F × F} (h1 : S.gon p = true) (h2 : S.gin p = true) : S.rg (S.full p) = (p, 0) := by
  have hn := h.n0
  have hl := h.full_len p.1 p.2
  rw [h.full_eq, Frm.Ok.rg_hdk (h.BD2 p.1 p.2) (by split <;> decide), if_neg (by omega)]
  have hd : decide ((S.bts p.1 ++ S.bts p.2).length = S.n) = false := decide_eq_false (by omega)
  rw [hd]
  by_cases h0 : p = ((0 : F), (0 : F))
  · rw [if_pos h0, if_neg (by decide), if_neg (by decide), if_pos (by decide), if_neg, h0]
    rintro ⟨v, hv, hne⟩
    rw [h0, List.mem_append, h.z] at hv
    exact hne (List.eq_of_mem_replicate (hv.elim id id))
  · rw [if_neg h0, if_neg (by decide), if_neg (by decide), if_neg (by decide), h.full_take, h.full_drop, h.rdb, h.rdb, if_pos rfl, if_neg (by decide), if_pos rfl, Frm.chk_ok h0 h1 h2]
/-- The negative differs in one mark of the short form. -/
theorem Frm.Ok.short_neg (h : S.Ok) {x y : F} (h0 : (x, y) ≠ ((0 : F), (0 : F))) (hy : y ≠ 0) : (S.short (x, y)).set 0 (bitOp .xor .u8 ((S.short (x, y)).getD 0 0) 32) = S.short (x, -y) := by
  have h0' : (x, -y) ≠ ((0 : F), (0 : F)) := fun c => hy (by
    have := congrArg Prod.snd c
    have : -y = 0 := this
    rw [← Rg.neg_neg y, this, Rg.neg_zero])
  rw [h.short_eq, h.short_eq, if_neg h0, if_neg h0']
  show (hdk (S.bts x) _).set 0 (bitOp .xor .u8 ((hdk (S.bts x) _).getD 0 0) ((32 * 1 : Nat) : Int)) = hdk (S.bts x) (if S.lg (-y) = true then 5 else 4)
  rw [hdk_xor (h.BD1 x) (by split <;> decide) (by decide), h.lgn y hy]
  show hdk (S.bts x) ((if S.lg y = true then 5 else 4) ^^^ 1) = _
  cases S.lg y <;> rfl
/-- Other marks of the short form are refused. -/
theorem Frm.Ok.short_marks (h : S.Ok) {x y : F} (h0 : (x, y) ≠ ((0 : F), (0 : F))) (hx : x ≠ 0) {m : Nat} (hm : m < 8) (hm2 : 2 ≤ m) : S.rg ((S.short (x, y)).set 0 (bitOp .xor .u8 ((S.short (x, y)).getD 0 0) ((32 * m : Nat) : Int))) = (((0 : F), (0 : F)), 11) := by
  have hn := h.n0
  have hl := h.len x
  rw [h.short_eq, if_neg h0]
  show S.rg ((hdk (S.bts x) (if S.lg y = true then 5 else 4)).set 0 (bitOp .xor .u8 ((hdk (S.bts x) (if S.lg y = true then 5 else 4)).getD 0 0) ((32 * m : Nat) : Int))) = _
  generalize hk : (if S.lg y = true then 5 else 4) = k
  have hk : k = 4 ∨ k = 5 := by rw [← hk]; split; exact .inr rfl; exact .inl rfl
  have hk8 : k < 8 := by omega
  rw [hdk_xor (h.BD1 x) hk8 hm]
  have key : k ^^^ m < 4 ∨ k ^^^ m = 6 ∨ k ^^^ m = 7 := by
    have : m = 2 ∨ m = 3 ∨ m = 4 ∨ m = 5 ∨ m = 6 ∨ m = 7 := by omega
    rcases hk with rfl | rfl <;> rcases this with rfl | rfl | rfl | rfl | rfl | rfl <;> decide
  generalize k ^^^ m = j at key
  rw [Frm.Ok.rg_hdk (h.BD1 x) (by omega), if_neg (by omega)]
  rcases key with hj | hj | hj
  · rw [if_pos]
    rw [decide_eq_false (show ¬ 4 ≤ j by omega), decide_eq_true hl]; decide
  · subst hj
    rw [if_neg (by simp [hl]), if_neg (by decide), if_pos (by decide), if_pos (h.nz hx)]
  · subst hj
    rw [if_neg (by simp [hl]), if_pos (by decide)]
/-- Other marks of the long form are refused. -/
theorem Frm.Ok.full_marks (h : S.Ok) {x y : F} (h0 : (x, y) ≠ ((0 : F), (0 : F))) {m : Nat} (hm : m < 8) (hm1 : 1 ≤ m) : S.rg ((S.full (x, y)).set 0 (bitOp .xor .u8 ((S.full (x, y)).getD 0 0) ((32 * m : Nat) : Int))) = (((0 : F), (0 : F)), 11) := by
  have hn := h.n0
  have hl := h.full_len x y
  rw [h.full_eq, if_neg h0]
  show S.rg ((hdk (S.bts x ++ S.bts y) 0).set 0 (bitOp .xor .u8 ((hdk (S.bts x ++ S.bts y) 0).getD 0 0) ((32 * m : Nat) : Int))) = _
  rw [hdk_xor (h.BD2 x y) (by decide) hm, Nat.zero_xor, Frm.Ok.rg_hdk (h.BD2 x y) hm, if_neg (by omega)]
  have hd : decide ((S.bts x ++ S.bts y).length = S.n) = false := decide_eq_false (by omega)
  rw [hd]
  by_cases h4 : 4 ≤ m
  · rw [if_pos (by simpa using h4)]
  · rw [if_neg (by simpa using h4)]
    by_cases h5 : m % 2 = 1
    · rw [if_pos ⟨h5, .inl (by omega)⟩]
    · have hm : m = 2 := by omega
      subst hm
      rw [if_neg (by decide), if_pos (by decide), if_pos]
      by_cases hx : x = 0
      · have hy : y ≠ 0 := fun c => h0 (by rw [hx, c])
        obtain ⟨v, hv, hne⟩ := h.nz hy
        exact ⟨v, List.mem_append_right _ hv, hne⟩
      · obtain ⟨v, hv, hne⟩ := h.nz hx
        exact ⟨v, List.mem_append_left _ hv, hne⟩
theorem Frm.chk_inv {p q : F × F} (h : S.chk p = (q, 0)) : q = p ∧ p ≠ ((0 : F), (0 : F)) ∧ S.gon p = true ∧ S.gin p = true := by
  unfold Frm.chk at h
  split at h
  · simp at h
  · rename_i h0
    split at h
    · rename_i h1
      split at h
      · rename_i h2
        exact ⟨(congrArg Prod.fst h).symm, h0, h1, h2⟩
      · simp at h
    · simp at h
theorem hdk_all {l : List Int} (h : ¬ ∃ v ∈ l, v ≠ 0) : l = List.replicate l.length 0 :=
  List.eq_replicate_of_mem fun v hv => Classical.byContradiction fun c2 => h ⟨v, hv, c2⟩
/-- What is read is what would be written. -/
theorem Frm.Ok.one_form (h : S.Ok) {b : List Int} (hb : Bs b) {p : F × F} (hr : S.rg b = (p, 0)) : S.gon p = true ∧ S.gin p = true ∧ (b.length = S.n → S.short p = b) ∧ (b.length = 2 * S.n → S.full p = b) := by
  have hn := h.n0
  have hl : 1 ≤ b.length := by
    cases b with
    | nil =>
      have : (partF [] S.n).2.2 = 10 := by
        rw [partF, if_pos ⟨by simp; omega, by simp; omega⟩]
      rw [Frm.rg, this, if_neg (by decide)] at hr
      simp at hr
    | cons _ _ => simp
  obtain ⟨k, hk, hBD, e⟩ := split_hdk hb hl
  have hbs : Bs (bdy b) := bdy_Bs hb
  have hbl : (bdy b).length = b.length := bdy_len b
  rw [e] at hr ⊢
  rw [hdk_len]
  generalize bdy b = l at *
  rw [Frm.Ok.rg_hdk hBD hk] at hr
  split at hr
  · simp at hr
  rename_i h1
  split at hr
  · simp at hr
  rename_i h2
  split at hr
  · simp at hr
  rename_i h3
  split at hr
  · rename_i h4
    split at hr
    · simp at hr
    rename_i h5
    have hp : ((0 : F), (0 : F)) = p := congrArg Prod.fst hr
    subst hp
    have hz := hdk_all h5
    refine ⟨h.on0, h.in0, fun hln => ?_, fun hln => ?_⟩
    · have hk6 : k = 6 := by
        have : 4 ≤ k := by simpa [hln] using h2
        omega
      rw [h.short_eq, if_pos rfl, hk6]
      show hdk (S.bts 0) 6 = _
      rw [h.z, ← hln, ← hz]
    · have hk2 : k = 2 := by
        have : ¬ 4 ≤ k := by
          intro c
          rw [decide_eq_true c, decide_eq_false (by omega)] at h2
          exact h2 (by decide)
        omega
      rw [h.full_eq, if_pos rfl, hk2]
      show hdk (S.bts 0 ++ S.bts 0) 2 = _
      rw [h.z, List.replicate_append_replicate, show S.n + S.n = l.length by omega, ← hz]
  rename_i h4
  split at hr
  · rename_i h5
    split at hr
    · rename_i h6
      obtain ⟨e1, e2, e3, e4⟩ := Frm.chk_inv hr
      have hln : l.length = S.n := by
        rw [decide_eq_true h6] at h2
        simpa using h2
      rw [List.take_of_length_le (by omega)] at h5 e1 e2 e3 e4
      have hrd := h.brd l hbs h5
      generalize (S.rd l).1 = x at *
      subst e1
      refine ⟨e3, e4, fun _ => ?_, fun c => by omega⟩
      obtain ⟨hy, _⟩ := h.iny _ _ e3 e4 e2
      rw [h.short_eq, if_neg e2]
      show hdk (S.bts x) _ = _
      rw [hrd]
      have hlg : S.lg (S.sgn (S.rt x) (decide (k % 2 = 1))) = decide (k % 2 = 1) := by
        unfold Frm.sgn at hy ⊢
        split
        · rename_i c; exact c
        · rename_i c
          rw [if_neg c] at hy
          have hr0 : S.rt x ≠ 0 := fun c => hy (by rw [c, Rg.neg_zero])
          rw [h.lgn _ hr0]
          revert c
          cases S.lg (S.rt x) <;> cases decide (k % 2 = 1) <;> decide
      show hdk l (if S.lg (S.sgn (S.rt x) (decide (k % 2 = 1))) = true then 5 else 4) = _
      rw [hlg]
      by_cases hk2 : k % 2 = 1
      · rw [if_pos (decide_eq_true hk2), show k = 5 by omega]
      · rw [if_neg (by simpa using hk2), show k = 4 by omega]
    · rename_i h6
      split at hr
      · rename_i h7
        obtain ⟨e1, e2, e3, e4⟩ := Frm.chk_inv hr
        have hln : l.length = 2 * S.n := by
          have : l.length ≠ S.n := by
            intro c
            rw [decide_eq_false h6, decide_eq_true c] at h2
            exact h2 (by decide)
          omega
        have r1 := h.brd _ (fun v hv => hbs v (List.mem_of_mem_take hv)) h5
        have r2 := h.brd _ (fun v hv => hbs v (List.mem_of_mem_drop hv)) h7
        subst e1
        refine ⟨e3, e4, fun c => by omega, fun _ => ?_⟩
        rw [h.full_eq, if_neg e2]
        show hdk (S.bts _ ++ S.bts _) 0 = _
        rw [r1, r2, List.take_append_drop, show k = 0 by omega]
      · simp at hr
  · simp at hr
end
end Go.Proofs.Ytlhgcbmanifpiaa.codec
/- codec.G2; law09: head, long, marks. -/
namespace Go.Proofs.Ytlhgcbmanifpiaa.codec
set_option maxRecDepth 100000
open Go Go.Eng Go.RowKit Cr Go.Proofs.Ytlhgcbmanifpiaa
theorem ent_g2 : enters Try.prog 69 Try.f69 := enters_mk (by kernel_rfl) (by kernel_rfl) (by kernel_rfl)
/-- The short form of a point of the second group. -/
def g2b (p : F2 × F2) : List Int := (fp2.by2 p.1).set 0 (bitOp .or .u8 ((fp2.by2 p.1).getD 0 0) (if eqC (.pair (.pair .fp .fp) (.pair .fp .fp)) p ((0, 0), (0, 0)) = true then (192 : Int) else if fp2.lg2 p.2 = true then 160 else 128))
abbrev outG2 : HL [g2.pt2] → HO [.val (.arr 96 (.int .u8))] := fun (p, _) => (g2b p, ())
theorem fn_g2 : FnOk Try.prog 69 [g2.pt2] [.val (.arr 96 (.int .u8))] noG (fun _ => True) outG2 := by
  refine fn_of_vc (sp := sps [fp2.spBytes, fp2.spLarge, spMark]) (sps_cons (fnSpec_ok fp2.fn_bytes) (sps_cons (fnSpec_ok fp2.fn_large) (sps_cons (fnSpec_ok fn_mark) sps_nil))) mixed ent_g2 (by decide) (by decide) ?_
  rintro w M0 ⟨⟨x, y⟩, ⟨⟩⟩ _ _
  refine vcx (X := (True ∧ True ∧ True ∧ (0 : Nat) < 96 ∧ ((g2b (x, y), ()) : List Int × Unit) = outG2 ((x, y), ()))) (by kernel_rfl) ⟨trivial, trivial, trivial, by decide, rfl⟩
noncomputable def spG2 : Nat × Eng.Spec := (69, fnSpec [g2.pt2] [.val (.arr 96 (.int .u8))] (fun _ => True) outG2)
end Go.Proofs.Ytlhgcbmanifpiaa.codec
namespace Go.Proofs.Ytlhgcbmanifpiaa.law09
set_option maxRecDepth 100000
open Go Go.Eng Go.RowKit Cr Go.Proofs.Ytlhgcbmanifpiaa Go.Proofs.Ytlhgcbmanifpiaa.codec
theorem ent_head : enters Try.prog 32 Try.f32 := enters_mk (by kernel_rfl) (by kernel_rfl) (by kernel_rfl)
theorem fn_head : FnOk Try.prog 32 [] [.val .bool] noG (fun _ => True) (fun _ => (true, ())) := by
  refine fn_of_vc (sp := sps [codec.spG1, codec.spG2, g1.soGen, g2.soGen]) (sps_cons (fnSpec_ok codec.fn_g1) (sps_cons (fnSpec_ok codec.fn_g2) (sps_cons (fnSpec_ok g1.fo_gen) (sps_cons (fnSpec_ok g2.fo_gen) sps_nil)))) mixed ent_head (by decide) (by decide) ?_
  rintro w M0 ⟨⟩ _ _
  refine vcx (X := (True ∧ True ∧ True ∧ True ∧ True ∧ ((bitOp BinOp.or IntKind.u8 ((bytesN (48 : Nat) (Zm.v (0 : Fp))).getD (0 : Nat) (0 : Int)) (if (decide ((0 : Fp) = (0 : Fp)) && decide ((0 : Fp) = (0 : Fp))) = true then (192 : Int) else if decide ((-0 : Fp).v < Zm.v (0 : Fp)) = true then (160 : Int) else (128 : Int)) == (192 : Int)) = true → ((Zm.v (0 : Fp) / p256 ((48 : Nat) - (1 : Nat) - nat_lit 1) % (256 : Int) == (0 : Int)) = true → ((bitOp BinOp.or IntKind.u8 ((bytesN (48 : Nat) g1.gG.fst.v).getD (0 : Nat) (0 : Int)) (if (decide (g1.gG.fst = (0 : Fp)) && decide (g1.gG.snd = (0 : Fp))) = true then (192 : Int) else if decide ((-g1.gG.snd).v < g1.gG.snd.v) = true then (160 : Int) else (128 : Int)) == (151 : Int)) = true → ((g1.gG.fst.v / p256 ((48 : Nat) - (1 : Nat) - nat_lit 1) % (256 : Int) == (241 : Int)) = true → ((bitOp BinOp.or IntKind.u8 ((fp2.by2 g2.gG.fst).getD (0 : Nat) (0 : Int)) (if eqC ((Kd.fp.pair Kd.fp).pair (Kd.fp.pair Kd.fp)) g2.gG (((0 : Zm Mp), (0 : Zm Mp)), (0 : Zm Mp), (0 : Zm Mp)) = true then (192 : Int) else if fp2.lg2 g2.gG.snd = true then (160 : Int) else (128 : Int)) == (147 : Int)) = true → (g2.gG.fst.snd.v / p256 ((48 : Nat) - (1 : Nat) - nat_lit 1) % (256 : Int) == (224 : Int), ()) = (true, ())) ∧ ((bitOp BinOp.or IntKind.u8 ((fp2.by2 g2.gG.fst).getD (0 : Nat) (0 : Int)) (if eqC ((Kd.fp.pair Kd.fp).pair (Kd.fp.pair Kd.fp)) g2.gG (((0 : Zm Mp), (0 : Zm Mp)), (0 : Zm Mp), (0 : Zm Mp)) = true then (192 : Int) else if fp2.lg2 g2.gG.snd = true then (160 : Int) else (128 : Int)) == (147 : Int)) = false → (false, ()) = (true, ()))) ∧ ((g1.gG.fst.v / p256 ((48 : Nat) - (1 : Nat) - nat_lit 1) % (256 : Int) == (241 : Int)) = false → (false, ()) = (true, ()))) ∧ ((bitOp BinOp.or IntKind.u8 ((bytesN (48 : Nat) g1.gG.fst.v).getD (0 : Nat) (0 : Int)) (if (decide (g1.gG.fst = (0 : Fp)) && decide (g1.gG.snd = (0 : Fp))) = true then (192 : Int) else if decide ((-g1.gG.snd).v < g1.gG.snd.v) = true then (160 : Int) else (128 : Int)) == (151 : Int)) = false → (false, ()) = (true, ()))) ∧ ((Zm.v (0 : Fp) / p256 ((48 : Nat) - (1 : Nat) - nat_lit 1) % (256 : Int) == (0 : Int)) = false → (false, ()) = (true, ()))) ∧ ((bitOp BinOp.or IntKind.u8 ((bytesN (48 : Nat) (Zm.v (0 : Fp))).getD (0 : Nat) (0 : Int)) (if (decide ((0 : Fp) = (0 : Fp)) && decide ((0 : Fp) = (0 : Fp))) = true then (192 : Int) else if decide ((-0 : Fp).v < Zm.v (0 : Fp)) = true then (160 : Int) else (128 : Int)) == (192 : Int)) = false → (false, ()) = (true, ())))) (by kernel_rfl) ?_
  rw [g1.gG_eq, g2.gG_eq]
  decide +kernel
noncomputable def spHead : Nat × Eng.Spec := (32, fnSpec [] [.val .bool] (fun _ => True) (fun _ => (true, ())))
theorem ent_long : enters Try.prog 33 Try.f33 := enters_mk (by kernel_rfl) (by kernel_rfl) (by kernel_rfl)
abbrev outLong : HL [.sl (.int .u8)] → HO [.val .bool] := fun (b, _) => (decide ((List.length b : Int) > 400), ())
theorem fn_long : FnOk Try.prog 33 [.sl (.int .u8)] [.val .bool] noG (fun _ => True) outLong := by
  refine fn_of_vc (sp := sps []) sps_nil mixed ent_long (by decide) (by decide) ?_
  rintro w M0 ⟨b, ⟨⟩⟩
  revert b
  intro (b : List Int) _ _
  refine vcx (X := ((decide ((↑b.length : Int) > (400 : Int)), ()) = outLong (b, ()))) (by kernel_rfl) ?_
  rfl
noncomputable def spLong : Nat × Eng.Spec := (33, fnSpec [.sl (.int .u8)] [.val .bool] (fun _ => True) outLong)
/-- The error of a form's marks, and whether it is infinity. -/
def mkF (b : List Int) (n : Int) : Int × Bool :=
  if (b.length : Int) ≠ n ∧ (b.length : Int) ≠ 2 * n then (10, false)
  else if decide (b.getD 0 0 ≥ 128) ≠ decide ((b.length : Int) = n) ∨ (bitOp .and .u8 (b.getD 0 0) 32 != 0) = true ∧ decide (b.getD 0 0 ≥ 128) = false ∨ (bitOp .and .u8 (b.getD 0 0) 32 != 0) = true ∧ (bitOp .and .u8 (b.getD 0 0) 64 != 0) = true then (11, false)
  else if (bitOp .and .u8 (b.getD 0 0) 64 != 0) = true then (if (∃ v ∈ b.drop 1, v ≠ 0) ∨ bitOp .and .u8 (b.getD 0 0) 31 ≠ 0 then (11, true) else (0, true))
  else (0, false)
theorem ent_marks : enters Try.prog 36 Try.f36 := enters_mk (by kernel_rfl) (by kernel_rfl) (by kernel_rfl)
abbrev outMarks : HL [.sl (.int .u8), .int .i64] → HO [.val (.int .i64), .val .bool] := fun (b, n, _) => ((mkF b n).1, (mkF b n).2, ())
noncomputable def mkC (b : List Int) (n : Int) (g : Bool × Bool × Bool) : St := mkSt Try.f36.ntmps 200 [(0, .is (.one (.ro (.int .u8) b))), (1, sI .i64 n), (4, sI .i64 0), (5, .is (.one .F)), (6, .is (.one (.v (.bool g.1)))), (7, .is (.one (.v (.bool g.2.1)))), (8, .is (.one (.v (.bool g.2.2))))] []
def mkK (b : List Int) (n : Int) (g : Bool × Bool × Bool) : Prop := g.1 = decide (b.getD 0 0 ≥ 128) ∧ g.2.1 = (bitOp .and .u8 (b.getD 0 0) 64 != 0) ∧ g.2.2 = (bitOp .and .u8 (b.getD 0 0) 32 != 0) ∧ 1 ≤ b.length ∧ ((b.length : Int) = n ∨ (b.length : Int) = 2 * n)
noncomputable def mkD (b : List Int) (R : Bool) : St := mkSt Try.f36.ntmps 352 [(0, .is (.one (.ro (.int .u8) b))), (4, sI .i64 0), (5, .is (.one .F)), (7, .is (.one (.v (.bool R)))), (54, .is (.one (.v (.bool R))))] []
noncomputable def mkE (b : List Int) (R : Bool) (g : Int) : St := mkSt Try.f36.ntmps 352 [(0, .is (.one (.ro (.int .u8) b))), (4, sI .i64 0), (5, .is (.one .F)), (7, .is (.one (.v (.bool R)))), (56, sI .i64 b.length), (57, sI .i64 g)] []
def mkJ (b : List Int) (g : Int) : Prop := ∃ k : Nat, k ≤ b.length ∧ g = (k : Int) ∧ (1 ≤ k → bitOp .and .u8 (b.getD 0 0) 31 = 0) ∧ ∀ t, 1 ≤ t → t < k → b.getD t 0 = 0
def mkO (b : List Int) : Prop := bitOp .and .u8 (b.getD 0 0) 31 = 0 ∧ ∀ v ∈ b.drop 1, v = 0
theorem fn_marks : FnOk Try.prog 36 [.sl (.int .u8), .int .i64] [.val (.int .i64), .val .bool] noG prePart outMarks := by
  have hsp : SpecsOk Try.prog (sps []) := sps_nil
  refine fn_of_tr (sp := sps []) ent_marks (by decide) (by decide) (by kernel_rfl) ?_
  rintro w M0 ⟨b, n, ⟨⟩⟩
  revert b n
  intro (b : List Int) (n : Int) _ hp
  obtain ⟨⟨hb, hl⟩, hn1, hn2⟩ := hp
  have hl : b.length ≤ 1000000 := hl
  have hn1 : 1 ≤ n := hn1
  have hn2 : n ≤ 1000 := hn2
  show Tr _ _ _ _ _ _ _
  have e2n : IntKind.i64.wrap (2 * n) = 2 * n := wrap_i64' (by omega) (by omega)
  refine tr_cutF hsp mixed 6 (fun σ => (rdS .bool 6 σ, rdS .bool 7 σ, rdS .bool 8 σ)) (mkC b n) (mkK b n) ?_ ?_
  · refine vcx (X := ((((↑b.length : Int) != n) = true → (((↑b.length : Int) != IntKind.i64.wrap ((2 : Int) * n)) = true → ((10 : Int), false, ()) = outMarks (b, n, ())) ∧ (((↑b.length : Int) != IntKind.i64.wrap ((2 : Int) * n)) = false → ((0 : Int) ≤ (0 : Int) ∧ (0 : Int) < (↑b.length : Int)) ∧ (0 : Nat) < b.length ∧ ((0 : Int) ≤ (0 : Int) ∧ (0 : Int) < (↑b.length : Int)) ∧ (0 : Nat) < b.length ∧ ((0 : Int) ≤ (0 : Int) ∧ (0 : Int) < (↑b.length : Int)) ∧ (0 : Nat) < b.length ∧ (mkC b n (decide (b.getD (0 : Nat) (0 : Int) ≥ (128 : Int)), bitOp BinOp.and IntKind.u8 (b.getD (0 : Nat) (0 : Int)) (64 : Int) != (0 : Int), bitOp BinOp.and IntKind.u8 (b.getD (0 : Nat) (0 : Int)) (32 : Int) != (0 : Int))).triv (mkK b n (decide (b.getD (0 : Nat) (0 : Int) ≥ (128 : Int)), bitOp BinOp.and IntKind.u8 (b.getD (0 : Nat) (0 : Int)) (64 : Int) != (0 : Int), bitOp BinOp.and IntKind.u8 (b.getD (0 : Nat) (0 : Int)) (32 : Int) != (0 : Int))))) ∧ (((↑b.length : Int) != n) = false → ((0 : Int) ≤ (0 : Int) ∧ (0 : Int) < (↑b.length : Int)) ∧ (0 : Nat) < b.length ∧ ((0 : Int) ≤ (0 : Int) ∧ (0 : Int) < (↑b.length : Int)) ∧ (0 : Nat) < b.length ∧ ((0 : Int) ≤ (0 : Int) ∧ (0 : Int) < (↑b.length : Int)) ∧ (0 : Nat) < b.length ∧ (mkC b n (decide (b.getD (0 : Nat) (0 : Int) ≥ (128 : Int)), bitOp BinOp.and IntKind.u8 (b.getD (0 : Nat) (0 : Int)) (64 : Int) != (0 : Int), bitOp BinOp.and IntKind.u8 (b.getD (0 : Nat) (0 : Int)) (32 : Int) != (0 : Int))).triv (mkK b n (decide (b.getD (0 : Nat) (0 : Int) ≥ (128 : Int)), bitOp BinOp.and IntKind.u8 (b.getD (0 : Nat) (0 : Int)) (64 : Int) != (0 : Int), bitOp BinOp.and IntKind.u8 (b.getD (0 : Nat) (0 : Int)) (32 : Int) != (0 : Int)))))) (by kernel_rfl) ?_
    rw [e2n]
    refine ⟨fun h => ⟨fun h' => ?_, fun h' => ?_⟩, fun h => ?_⟩
    · show _ = ((mkF b n).1, (mkF b n).2, ())
      rw [mkF, if_pos ⟨by simpa using h, by simpa using h'⟩]
    · have h' : (b.length : Int) = 2 * n := by simpa using h'
      have hb1 : 1 ≤ b.length := by omega
      exact ⟨⟨by omega, by omega⟩, hb1, ⟨by omega, by omega⟩, hb1, ⟨by omega, by omega⟩, hb1, triv_intro ⟨rfl, rfl, rfl, hb1, .inr h'⟩⟩
    · have h : (b.length : Int) = n := by simpa using h
      have hb1 : 1 ≤ b.length := by omega
      exact ⟨⟨by omega, by omega⟩, hb1, ⟨by omega, by omega⟩, hb1, ⟨by omega, by omega⟩, hb1, triv_intro ⟨rfl, rfl, rfl, hb1, .inl h⟩⟩
  rintro ⟨S, R, L⟩ hK
  revert S R L
  intro (S : Bool) (R : Bool) (L : Bool) ⟨k1, k2, k3, k4, k5⟩
  have k1 : S = decide (b.getD 0 0 ≥ 128) := k1
  have k2 : R = (bitOp .and .u8 (b.getD 0 0) 64 != 0) := k2
  have k3 : L = (bitOp .and .u8 (b.getD 0 0) 32 != 0) := k3
  have em : mkF b n = if S ≠ decide ((b.length : Int) = n) ∨ L = true ∧ S = false ∨ L = true ∧ R = true then (11, false)
      else if R = true then (if (∃ v ∈ b.drop 1, v ≠ 0) ∨ bitOp .and .u8 (b.getD 0 0) 31 ≠ 0 then (11, true) else (0, true)) else (0, false) := by
    rw [mkF, if_neg (by omega), k1, k2, k3]
  refine tr_cut hsp mixed 3 (mkD b R) (S = decide ((b.length : Int) = n) ∧ ¬ (L = true ∧ S = false) ∧ ¬ (L = true ∧ R = true)) ?_ (fun hk => ?_)
  · refine vcx (X := (((!S == ((↑b.length : Int) == n)) = true → ((11 : Int), false, ()) = outMarks (b, n, ())) ∧ ((!S == ((↑b.length : Int) == n)) = false → (L = true → ((!S) = true → ((11 : Int), false, ()) = outMarks (b, n, ())) ∧ ((!S) = false → (L = true → (R = true → ((11 : Int), false, ()) = outMarks (b, n, ())) ∧ (R = false → (mkD b R).triv (S = decide ((↑b.length : Int) = n) ∧ ¬(L = true ∧ S = false) ∧ ¬(L = true ∧ R = true)))) ∧ (L = false → (mkD b R).triv (S = decide ((↑b.length : Int) = n) ∧ ¬(L = true ∧ S = false) ∧ ¬(L = true ∧ R = true))))) ∧ (L = false → (L = true → (R = true → ((11 : Int), false, ()) = outMarks (b, n, ())) ∧ (R = false → (mkD b R).triv (S = decide ((↑b.length : Int) = n) ∧ ¬(L = true ∧ S = false) ∧ ¬(L = true ∧ R = true)))) ∧ (L = false → (mkD b R).triv (S = decide ((↑b.length : Int) = n) ∧ ¬(L = true ∧ S = false) ∧ ¬(L = true ∧ R = true))))))) (by kernel_rfl) ?_
    rw [show ((b.length : Int) == n) = decide ((b.length : Int) = n) from rfl]
    have e11 : (S ≠ decide ((b.length : Int) = n) ∨ L = true ∧ S = false ∨ L = true ∧ R = true) → ((11 : Int), false, ()) = ((mkF b n).1, (mkF b n).2, ()) := fun h => by rw [em, if_pos h]
    refine ⟨fun h => e11 (.inl (by simpa using h)), fun h => ⟨fun h2 => ⟨fun h3 => e11 (.inr (.inl ⟨h2, by simpa using h3⟩)), fun h3 => ⟨fun _ => ⟨fun h4 => e11 (.inr (.inr ⟨h2, h4⟩)), fun h4 => triv_intro ⟨by simpa using h, ?_, ?_⟩⟩, fun h4 => absurd h2 (by rw [h4]; decide)⟩⟩, fun h2 => ⟨fun h3 => absurd h3 (by rw [h2]; decide), fun _ => triv_intro ⟨by simpa using h, ?_, ?_⟩⟩⟩⟩
    · rintro ⟨_, h5⟩; rw [h5] at h3; cases h3
    · rintro ⟨_, h5⟩; rw [h5] at h4; cases h4
    · rintro ⟨h5, _⟩; rw [h2] at h5; cases h5
    · rintro ⟨h5, _⟩; rw [h2] at h5; cases h5
  obtain ⟨ha, hb1, hb2⟩ := hk
  rw [if_neg (by rintro (h | h | h); exact h ha; exact hb1 h; exact hb2 h)] at em
  refine tr_cond (c := nthC (codeOf Try.f36) 9) R (by kernel_rfl) (by kernel_rfl) (by kernel_rfl) (fun ht => ?_) (fun ht => ?_)
  · refine tr_cut hsp mixed 1 (mkE b R 0) True ?_ (fun _ => ?_)
    · refine vcx (X := ((mkE b R (0 : Int)).triv True)) (by kernel_rfl) ?_
      exact triv_intro trivial
    refine tr_while hsp mixed noSw (fun σ => rdS (.int .i64) 57 σ) (mkE b R) (mkJ b) (fun g => b.length - g.toNat)
      (fun σ => rdS (.int .i64) 57 σ) (mkE b R) (fun _ => mkO b) 0 (c := nthC (thenOf (nthC (codeOf Try.f36) 9)) 1) (by kernel_rfl) (by kernel_rfl) (le_of_proj (by kernel_rfl) (by kernel_rfl) ?_) ?_ ?_
    · exact ⟨0, Nat.zero_le _, rfl, fun h => absurd h (by decide), fun t h1 h2 => absurd h2 (Nat.not_lt_zero _)⟩
    · intro (i : Int) ⟨k, hk, ei, hz0, hz⟩
      subst ei
      refine vcx (X := ((decide ((↑k : Int) < (↑b.length : Int)) = true → (decide ((↑k : Int) > (0 : Int)) = true → ((0 : Int) ≤ (↑k : Int) ∧ (↑k : Int) < (↑b.length : Int)) ∧ (↑k : Int).toNat < b.length ∧ ((b.getD (↑k : Int).toNat (0 : Int) != (0 : Int)) = true → ((11 : Int), true, ()) = outMarks (b, n, ())) ∧ ((b.getD (↑k : Int).toNat (0 : Int) != (0 : Int)) = false → (((↑k : Int) == (0 : Int)) = true → ((0 : Int) ≤ (0 : Int) ∧ (0 : Int) < (↑b.length : Int)) ∧ (0 : Nat) < b.length ∧ ((bitOp BinOp.and IntKind.u8 (b.getD (0 : Nat) (0 : Int)) (31 : Int) != (0 : Int)) = true → ((11 : Int), true, ()) = outMarks (b, n, ())) ∧ ((bitOp BinOp.and IntKind.u8 (b.getD (0 : Nat) (0 : Int)) (31 : Int) != (0 : Int)) = false → (mkE b R (IntKind.i64.wrap ((↑k : Int) + (1 : Int)))).triv (mkJ b (IntKind.i64.wrap ((↑k : Int) + (1 : Int))) ∧ b.length - (IntKind.i64.wrap ((↑k : Int) + (1 : Int))).toNat < b.length - (↑k : Int).toNat))) ∧ (((↑k : Int) == (0 : Int)) = false → (mkE b R (IntKind.i64.wrap ((↑k : Int) + (1 : Int)))).triv (mkJ b (IntKind.i64.wrap ((↑k : Int) + (1 : Int))) ∧ b.length - (IntKind.i64.wrap ((↑k : Int) + (1 : Int))).toNat < b.length - (↑k : Int).toNat)))) ∧ (decide ((↑k : Int) > (0 : Int)) = false → (((↑k : Int) == (0 : Int)) = true → ((0 : Int) ≤ (0 : Int) ∧ (0 : Int) < (↑b.length : Int)) ∧ (0 : Nat) < b.length ∧ ((bitOp BinOp.and IntKind.u8 (b.getD (0 : Nat) (0 : Int)) (31 : Int) != (0 : Int)) = true → ((11 : Int), true, ()) = outMarks (b, n, ())) ∧ ((bitOp BinOp.and IntKind.u8 (b.getD (0 : Nat) (0 : Int)) (31 : Int) != (0 : Int)) = false → (mkE b R (IntKind.i64.wrap ((↑k : Int) + (1 : Int)))).triv (mkJ b (IntKind.i64.wrap ((↑k : Int) + (1 : Int))) ∧ b.length - (IntKind.i64.wrap ((↑k : Int) + (1 : Int))).toNat < b.length - (↑k : Int).toNat))) ∧ (((↑k : Int) == (0 : Int)) = false → (mkE b R (IntKind.i64.wrap ((↑k : Int) + (1 : Int)))).triv (mkJ b (IntKind.i64.wrap ((↑k : Int) + (1 : Int))) ∧ b.length - (IntKind.i64.wrap ((↑k : Int) + (1 : Int))).toNat < b.length - (↑k : Int).toNat)))) ∧ (decide ((↑k : Int) < (↑b.length : Int)) = false → (mkE b R (↑k : Int)).triv (mkO b)))) (by kernel_rfl) ?_
      rw [Int.toNat_natCast]
      have e11 : ((∃ v ∈ b.drop 1, v ≠ 0) ∨ bitOp .and .u8 (b.getD 0 0) 31 ≠ 0) → ((11 : Int), true, ()) = ((mkF b n).1, (mkF b n).2, ()) := fun h => by rw [em, if_pos ht, if_pos h]
      refine ⟨fun h => ?_, fun h => triv_intro ?_⟩
      · have hlt : k < b.length := by have := dec_lt h; omega
        rw [wrap_succ (by omega)]
        have hmu : b.length - ((k + 1 : Nat) : Int).toNat < b.length - k := by rw [Int.toNat_natCast]; omega
        have hb0 : ((0 : Int) ≤ 0 ∧ (0 : Int) < (b.length : Int)) := ⟨by decide, by omega⟩
        by_cases hk0 : k = 0
        · subst hk0
          refine ⟨fun h2 => absurd h2 (by decide), fun _ => ⟨fun _ => ⟨hb0, by omega, fun h3 => e11 (.inr (by simpa using h3)), fun h3 => triv_intro ⟨⟨1, hlt, rfl, fun _ => by simpa using h3, fun t t1 t2 => absurd t2 (by omega)⟩, hmu⟩⟩, fun h3 => absurd h3 (by decide)⟩⟩
        · have hg : b.getD k 0 = b[k] := by rw [List.getD_eq_getElem?_getD, List.getElem?_eq_getElem hlt, Option.getD_some]
          refine ⟨fun _ => ⟨⟨by omega, by omega⟩, hlt, fun h3 => e11 (.inl ⟨b[k], ?_, by rw [← hg]; simpa using h3⟩), fun h3 => ⟨fun h4 => absurd (show (k : Int) = 0 by simpa using h4) (by omega), fun _ => triv_intro ⟨⟨k + 1, hlt, rfl, fun _ => hz0 (by omega), fun t t1 t2 => ?_⟩, hmu⟩⟩⟩, fun h2 => absurd h2 (by simp; omega)⟩
          · rw [List.mem_iff_getElem]
            exact ⟨k - 1, by simp; omega, by rw [List.getElem_drop]; congr 1; omega⟩
          · by_cases htk : t = k
            · subst htk; simpa using h3
            · exact hz t t1 (by omega)
      · have : k = b.length := by have := dec_ge h; omega
        refine ⟨hz0 (by omega), fun v hv => ?_⟩
        obtain ⟨t, ht1, ht2⟩ := List.mem_iff_getElem.1 hv
        rw [List.getElem_drop] at ht2
        have ht1 : t < b.length - 1 := by simpa using ht1
        have := hz (1 + t) (by omega) (by omega)
        rw [List.getD_eq_getElem?_getD, List.getElem?_eq_getElem (by omega), Option.getD_some, ht2] at this
        exact this
    intro (i : Int) (ho : mkO b)
    refine tr_vc hsp mixed _ _ ?_
    refine vcx (X := (((0 : Int), R, ()) = outMarks (b, n, ()))) (by kernel_rfl) ?_
    show _ = ((mkF b n).1, (mkF b n).2, ())
    rw [em, if_pos ht, if_neg (by rintro (⟨v, hv, hne⟩ | h); exact hne (ho.2 v hv); exact h ho.1), ht]
  · refine tr_vc hsp mixed _ _ ?_
    refine vcx (X := (((0 : Int), R, ()) = outMarks (b, n, ()))) (by kernel_rfl) ?_
    show _ = ((mkF b n).1, (mkF b n).2, ())
    rw [em, if_neg (by rw [ht]; decide), ht]
noncomputable def spMarks : Nat × Eng.Spec := (36, fnSpec [.sl (.int .u8), .int .i64] [.val (.int .i64), .val .bool] prePart outMarks)
end Go.Proofs.Ytlhgcbmanifpiaa.law09
/- codec: the two groups' forms, plainly. -/
namespace Cr
open Rg Fd Go.Eng
section
variable {F : Type} [Fd F] {b : F}
theorem sq_two (hb : b ≠ 0) {P : F × F} (oP : OnP b P) {r : Nat} (hr : r % 2 = 1) (h : nmul P r = O2) (h0 : P.2 = 0) : P = O2 := by
  have e : pneg P = P := by
    show (P.1, -P.2) = P
    rw [h0, neg_zero, ← h0]
  have h2 : nmul P 2 = O2 := by
    rw [nmul_two]
    have := add_neg_self P
    rwa [e] at this
  have hrr : r = 2 * (r / 2) + 1 := by omega
  rw [hrr, nmul_add hb oP, ← nmul_mul hb oP, h2, nmul_O, O_add, nmul_one] at h
  exact h
theorem sq_three (hb : b ≠ 0) {P : F × F} (oP : OnP b P) {r : Nat} (hr : r % 3 = 1) (h : nmul P r = O2) (h0 : P.1 = 0) : P = O2 := by
  rcases oP with rfl | o
  · rfl
  have oP : OnP b P := .inr o
  have hl : LnP P P 0 := by
    refine ⟨?_, ?_⟩
    · rw [zero_mul, sub_self]
    · rw [h0, zero_mul, zero_mul, add_zero, add_zero]
  have e : padd P P = pneg P := by
    rw [padd_ln hb o o hl, h0]
    show (0 * 0 - 0 - 0, -(P.2 + 0 * _)) = (P.1, -P.2)
    rw [zero_mul, zero_mul, sub_self, sub_self, add_zero, h0]
  have h3 : nmul P 3 = O2 := by
    show padd (nmul P 2) P = O2
    rw [nmul_two, e, neg_add_self]
  have hrr : r = 3 * (r / 3) + 1 := by omega
  rw [hrr, nmul_add hb oP, ← nmul_mul hb oP, h3, nmul_O, O_add, nmul_one] at h
  exact h
end
theorem bytesN_snoc (n : Nat) (N : Int) : bytesN (n + 1) N = bytesN n (N / 256) ++ [N % 256] := by
  unfold bytesN
  rw [List.range_succ, List.map_append]
  congr 1
  · apply List.map_congr_left
    intro i hi
    have hi := List.mem_range.1 hi
    rw [show n + 1 - 1 - i = (n - 1 - i) + 1 by omega]
    rw [show p256 (n - 1 - i + 1) = 256 * p256 (n - 1 - i) from rfl, ← Int.ediv_ediv_of_nonneg (by decide)]
  · simp [p256]
theorem bytesN_num : ∀ (n : Nat) (l : List Int), l.length = n → Bs l → bytesN n (num l) = l := by
  intro n
  induction n with
  | zero => intro l h _; rw [List.length_eq_zero_iff.1 h]; rfl
  | succ n ih =>
    intro l h hb
    have hne : l ≠ [] := by intro c; rw [c] at h; simp at h
    have e := List.dropLast_concat_getLast hne
    have hlast := hb _ (List.getLast_mem hne)
    have hd : Bs l.dropLast := fun x hx => hb x (List.dropLast_subset l hx)
    have hl : l.dropLast.length = n := by rw [List.length_dropLast]; omega
    rw [bytesN_snoc]
    have hn : num l = num l.dropLast * 256 + l.getLast hne := by rw [← num_snoc, e]
    rw [hn, show (num l.dropLast * 256 + l.getLast hne) / 256 = num l.dropLast by omega, show (num l.dropLast * 256 + l.getLast hne) % 256 = l.getLast hne by omega, ih _ hl hd, e]
theorem bytesN_zero (n : Nat) : bytesN n 0 = List.replicate n 0 := by
  have e : ((List.replicate n (0 : Int)).length = n) := List.length_replicate
  have hb : Bs (List.replicate n (0 : Int)) := fun x hx => by rw [List.eq_of_mem_replicate hx]; decide
  have hz : ∀ n : Nat, num (List.replicate n 0) = 0 := by
    intro n
    induction n with
    | zero => rfl
    | succ n ih => rw [List.replicate_succ', num_snoc, ih]; rfl
  have := bytesN_num n _ e hb
  rwa [hz] at this
theorem bytesN_hd {N : Int} (h0 : 0 ≤ N) (h1 : N < Mp) : (bytesN 48 N).getD 0 0 < 32 := by
  show N / p256 47 % 256 < 32
  have hm : Mp ≤ 32 * p256 47 := by decide +kernel
  have hp : 0 < p256 47 := p256_pos 47
  have : N / p256 47 < 32 := Int.ediv_lt_of_lt_mul hp (by omega)
  have : 0 ≤ N / p256 47 := Int.ediv_nonneg h0 (Int.le_of_lt hp)
  omega
theorem neg_fp {y : Fp} (h : y ≠ 0) : (-y).v = Mp - y.v := by
  have h0 := y.nn
  have h1 := y.lt
  have : y.v ≠ 0 := fun c => h (Zm.ext (by rw [c, zero_v]))
  rw [neg_v, ← Int.add_emod_right]
  rw [Int.emod_eq_of_lt (by omega) (by omega)]
  omega
theorem lg_neg {y : Fp} (h : y ≠ 0) : decide ((- -y).v < (-y).v) = !decide ((-y).v < y.v) := by
  rw [neg_neg]
  have e := neg_fp h
  have hodd : Mp % 2 = 1 := by decide +kernel
  by_cases c : (-y).v < y.v
  · rw [decide_eq_true c, decide_eq_false (by omega)]; rfl
  · rw [decide_eq_false c, decide_eq_true (by omega)]; rfl
end Cr
namespace Go.Proofs.Ytlhgcbmanifpiaa.codec
set_option maxRecDepth 100000
open Go Go.Eng Go.RowKit Cr Go.Proofs.Ytlhgcbmanifpiaa Rg Fd
theorem fpsqrt_sq (y : Fp) : (fp.fpSqrt (y * y)).2 = true := by
  by_cases hy : y = 0
  · rw [hy, mul_zero]; exact fp2.fpsqrt_zero
  · unfold fp.fpSqrt
    have e : zpw (y * y) fp.p14 * zpw (y * y) fp.p14 = y * y := by
      have hf := zpw_inv hy
      rw [zpw_eq] at hf ⊢
      rw [← zpow_sq, ← zpow_add]
      have en : 2 * fp.p14.toNat + 2 * fp.p14.toNat = (4002409555221667393417789825735904156556882819939007885332058136124031650490837864442687629129015664037894272559785 : Int).toNat + 1 + 1 + 1 := of_decide_eq_true (by kernel_rfl)
      rw [en]
      generalize (4002409555221667393417789825735904156556882819939007885332058136124031650490837864442687629129015664037894272559785 : Int).toNat = m at *
      show zpow y m * y * y * y = y * y
      rw [mul_comm (zpow y m) y, hf, one_mul]
    rw [if_pos e]
theorem sqrt2_sq (z : F2) : (fp2.sqrt2 (z * z)).2 = true := by
  obtain ⟨c, d⟩ := z
  have e1 : (((c, d) : F2) * (c, d)).1 = c * c - d * d := F2.mul1 _ _
  have e2 : (((c, d) : F2) * (c, d)).2 = c * d + d * c := F2.mul2 _ _
  by_cases hb : (((c, d) : F2) * (c, d)).2 = 0
  · rw [fp2.sqrt2, if_pos hb]
    by_cases h1 : (fp.fpSqrt (((c, d) : F2) * (c, d)).1).2 = true
    · rw [if_pos h1]
    · rw [if_neg h1]
      show (fp.fpSqrt (-(((c, d) : F2) * (c, d)).1)).2 = true
      rw [e1] at h1 ⊢
      rw [e2, mul_comm d c] at hb
      rcases mul_eq_zero (double_eq_zero hb) with h | h
      · rw [h, q_8, neg_neg]; exact fpsqrt_sq d
      · rw [h, mul_zero, sub_def, neg_zero, add_zero] at h1
        exact absurd (fpsqrt_sq c) h1
  · rw [fp2.sqrt2, if_neg hb, e1, e2, q_5, if_pos (fpsqrt_sq _)]
    have hn := fp2.fpsqrt_ok (fpsqrt_sq (c * c + d * d))
    generalize (fp.fpSqrt ((c * c + d * d) * (c * c + d * d))).1 = n at *
    rcases sq_eq hn with h | h
    · rw [h, q_6, if_pos (fpsqrt_sq _)]
    · by_cases h2 : (fp.fpSqrt (c * c - d * d + n + (c * c - d * d + n))).2 = true
      · rw [if_pos h2]
      · rw [if_neg h2]
        show (fp.fpSqrt (c * c - d * d - n + (c * c - d * d - n))).2 = true
        rw [h, q_7]
        exact fpsqrt_sq _
theorem rd_by (x : Fp) : fp.rdFp (bytesN 48 x.v) = (x, 0) := by
  have hlt : x.v < p256 48 := Int.lt_trans x.lt (by decide +kernel)
  rw [fp.rdFp, if_pos (bytesN_length _ _), num_bytesN 48 _ x.nn hlt, if_pos x.lt, zm_self]
theorem by_rd {b : List Int} (hb : Bs b) (h : (fp.rdFp b).2 = 0) : bytesN 48 (fp.rdFp b).1.v = b ∧ b.length = 48 := by
  unfold fp.rdFp at h ⊢
  split at h
  · rename_i hl
    rw [if_pos hl]
    split at h
    · rename_i hm
      rw [if_pos hm]
      refine ⟨?_, hl⟩
      have : (zm (num b) : Fp).v = num b := by rw [zm_v]; exact Int.emod_eq_of_lt (num_bd hb).1 hm
      show bytesN 48 (zm (num b) : Fp).v = b
      rw [this, bytesN_num 48 b hl hb]
    · cases h
  · cases h
/-- The forms of the first group. -/
noncomputable def frm1 : Frm Fp := ⟨48, fun x => bytesN 48 x.v, fp.rdFp, fun y => decide ((-y).v < y.v), root1, g1.gon, g1.gin⟩
theorem in1_ok {x y : Fp} (h1 : g1.gon (x, y) = true) (h2 : g1.gin (x, y) = true) : g1.Sub (x, y) := by
  have o := (g1.gon_iff _).1 h1
  rw [g1.gin_of o, decide_eq_true_iff] at h2
  exact ⟨o, h2⟩
theorem frm1_ok : frm1.Ok where
  n0 := by decide
  len x := bytesN_length _ _
  bs x := bytesN_Bs _ _
  hd x := bytesN_hd x.nn x.lt
  rdb x := rd_by x
  brd b hb h := (by_rd hb h).1
  lgn y hy := lg_neg hy
  z := bytesN_zero 48
  root x y h h0 := by
    rcases (g1.gon_iff _).1 h with c | c
    · exact absurd c h0
    · have c : y * y = x * x * x + zm 4 := c
      have := fp2.fpsqrt_ok (fpsqrt_sq y)
      show y = root1 x ∨ y = -root1 x
      rw [root1, ← c]
      exact sq_eq this.symm
  on0 := (g1.gon_iff _).2 (.inl rfl)
  in0 := by rw [show ((0 : Fp), (0 : Fp)) = O2 from rfl]; exact g1.sub_in ⟨.inl rfl, nmul_O _⟩
  iny x y h1 h2 h0 := by
    obtain ⟨o, hr⟩ := in1_ok h1 h2
    exact ⟨fun c => h0 (sq_two g1.b4_ne o (by decide +kernel) hr c), fun c => h0 (sq_three g1.b4_ne o (by decide +kernel) hr c)⟩
  onn x y h := (g1.gon_iff _).2 (pneg_onP ((g1.gon_iff _).1 h))
  inn x y h1 h2 := by
    obtain ⟨o, hr⟩ := in1_ok h1 h2
    refine g1.sub_in ⟨pneg_onP o, ?_⟩
    show nmul (pneg (x, y)) g1.rN = O2
    rw [nmul_neg g1.b4_ne o, hr, pneg_O]
theorem rg1_eq (b : List Int) : rg1 b = frm1.rg b := rfl
theorem g1b_eq (p : Fp × Fp) : g1b p = frm1.short p := by
  obtain ⟨x, y⟩ := p
  unfold g1b Frm.short
  have e : (decide (x = 0) && decide (y = 0)) = decide ((x, y) = ((0 : Fp), (0 : Fp))) := by
    rw [Bool.eq_iff_iff]; simp
  show List.set _ 0 (bitOp .or .u8 _ (if (decide (x = 0) && decide (y = 0)) = true then _ else _)) = _
  rw [e]
  simp only [frm1, decide_eq_true_eq]
/-- The forms of the second group. -/
noncomputable def frm2 : Frm F2 := ⟨96, fp2.by2, fp2.rdF2, fp2.lg2, root2, g2.gon, g2.gin⟩
theorem in2_ok {x y : F2} (h1 : g2.gon (x, y) = true) (h2 : g2.gin (x, y) = true) : g2.Sub (x, y) := by
  have o := (g2.gon_iff _).1 h1
  rw [g2.gin_of o, decide_eq_true_iff] at h2
  exact ⟨o, h2⟩
theorem by2_len (x : F2) : (fp2.by2 x).length = 96 := by rw [fp2.by2, List.length_append, bytesN_length, bytesN_length]
theorem by2_take (x : F2) : (fp2.by2 x).take 48 = bytesN 48 x.2.v := by
  rw [fp2.by2, List.take_append_of_le_length (by rw [bytesN_length]; exact Nat.le_refl _), List.take_of_length_le (by rw [bytesN_length]; exact Nat.le_refl _)]
theorem by2_drop (x : F2) : (fp2.by2 x).drop 48 = bytesN 48 x.1.v := by
  have := List.drop_left (l₁ := bytesN 48 x.2.v) (l₂ := bytesN 48 x.1.v)
  rwa [bytesN_length] at this
theorem frm2_ok : frm2.Ok where
  n0 := by decide
  len x := by2_len x
  bs x v hv := by
    have hv : v ∈ bytesN 48 x.2.v ++ bytesN 48 x.1.v := hv
    rcases List.mem_append.1 hv with c | c
    · exact bytesN_Bs _ _ v c
    · exact bytesN_Bs _ _ v c
  hd x := by
    show (bytesN 48 x.2.v ++ bytesN 48 x.1.v).getD 0 0 < 32
    have := bytesN_hd x.2.nn x.2.lt
    have hl := bytesN_length 48 x.2.v
    cases h : bytesN 48 x.2.v with
    | nil => rw [h] at hl; simp at hl
    | cons a t => rw [h] at this; exact this
  rdb x := by
    show fp2.rdF2 (fp2.by2 x) = (x, 0)
    rw [fp2.rdF2, if_pos (by2_len x), by2_take, by2_drop, rd_by, rd_by, if_pos rfl, if_pos rfl]
  brd b hb h := by
    have h : (fp2.rdF2 b).2 = 0 := h
    show fp2.by2 (fp2.rdF2 b).1 = b
    unfold fp2.rdF2 at h ⊢
    split at h
    · rename_i hl
      rw [if_pos hl]
      split at h
      · rename_i h1
        rw [if_pos h1]
        split at h
        · rename_i h2
          rw [if_pos h2]
          have e1 := (by_rd (fun v hv => hb v (List.mem_of_mem_take hv)) h1).1
          have e2 := (by_rd (fun v hv => hb v (List.mem_of_mem_drop hv)) h2).1
          show bytesN 48 (fp.rdFp (b.take 48)).1.v ++ bytesN 48 (fp.rdFp (b.drop 48)).1.v = b
          rw [e1, e2, List.take_append_drop]
        · rename_i h2; exact absurd h h2
      · rename_i h1; exact absurd h h1
    · cases h
  lgn y hy := by
    show fp2.lg2 (-y) = !fp2.lg2 y
    unfold fp2.lg2
    rw [F2.neg1, F2.neg2]
    by_cases h2 : y.2 = 0
    · have h1 : y.1 ≠ 0 := fun c => hy (F2.ext c h2)
      rw [if_pos h2, if_pos (by rw [h2, neg_zero]), lg_neg h1]
    · rw [if_neg h2, if_neg (fun c => h2 (by rw [← neg_neg y.2, c, neg_zero])), lg_neg h2]
  z := by
    show bytesN 48 (0 : Fp).v ++ bytesN 48 (0 : Fp).v = _
    rw [zero_v, bytesN_zero, List.replicate_append_replicate]
    rfl
  root x y h h0 := by
    rcases (g2.gon_iff _).1 h with c | c
    · exact absurd c h0
    · have c : y * y = x * x * x + (zm 4, zm 4) := c
      have := fp2.sqrt2_ok (sqrt2_sq y)
      show y = root2 x ∨ y = -root2 x
      rw [root2, ← c]
      exact sq_eq this.symm
  on0 := (g2.gon_iff _).2 (.inl rfl)
  in0 := by rw [show ((0 : F2), (0 : F2)) = O2 from rfl]; exact g2.sub_in ⟨.inl rfl, nmul_O _⟩
  iny x y h1 h2 h0 := by
    obtain ⟨o, hr⟩ := in2_ok h1 h2
    exact ⟨fun c => h0 (sq_two g2.b4_ne o (by decide +kernel) hr c), fun c => h0 (sq_three g2.b4_ne o (by decide +kernel) hr c)⟩
  onn x y h := (g2.gon_iff _).2 (pneg_onP ((g2.gon_iff _).1 h))
  inn x y h1 h2 := by
    obtain ⟨o, hr⟩ := in2_ok h1 h2
    refine g2.sub_in ⟨pneg_onP o, ?_⟩
    show nmul (pneg (x, y)) g2.rN = O2
    rw [nmul_neg g2.b4_ne o, hr, pneg_O]
theorem rg2_eq (b : List Int) : rg2 b = frm2.rg b := rfl
theorem g2b_eq (p : F2 × F2) : g2b p = frm2.short p := by
  unfold g2b Frm.short
  rw [g2.eqP2]
  simp only [decide_eq_true_eq]
  rfl
end Go.Proofs.Ytlhgcbmanifpiaa.codec
/- codec: G1Full, G2Full; the others for laws. -/
namespace Go.Proofs.Ytlhgcbmanifpiaa.codec
set_option maxRecDepth 100000
open Go Go.Eng Go.RowKit Cr Go.Proofs.Ytlhgcbmanifpiaa
theorem cat_eq {n m : Nat} (hm : m = n + n) {l1 l2 : List Int} (h1 : l1.length = n) (h2 : l2.length = n) : (List.take n (List.take 0 (List.replicate m (0 : Int)) ++ (List.take (Nat.min n n) (List.take n l1) ++ List.drop (0 + Nat.min n n) (List.replicate m (0 : Int)))) ++ (List.take (Nat.min n n) (List.take n l2) ++ List.drop (n + Nat.min n n) (List.take 0 (List.replicate m (0 : Int)) ++ (List.take (Nat.min n n) (List.take n l1) ++ List.drop (0 + Nat.min n n) (List.replicate m (0 : Int)))))) = l1 ++ l2 := by
  have e : Nat.min n n = n := Nat.min_self n
  have t1 : List.take n l1 = l1 := List.take_of_length_le (by omega)
  have t2 : List.take n l2 = l2 := List.take_of_length_le (by omega)
  rw [e, t1, t2, t1, t2, List.take_zero, List.nil_append, List.take_append_of_le_length (by omega), t1, List.drop_eq_nil_of_le (by simp; omega), List.append_nil]
theorem hd_eq (l : List Int) : (List.take ((nat_lit 0 + 1) / width (Kd.int IntKind.u8)) l).getD 0 0 = l.getD 0 0 := by
  cases l <;> rfl
theorem ent_g1f : enters Try.prog 66 Try.f66 := enters_mk (by kernel_rfl) (by kernel_rfl) (by kernel_rfl)
noncomputable def ob1 (x : Fp) : List Int := opq (bytesN 48 x.v)
theorem ob1_eq (x : Fp) : ob1 x = frm1.bts x := opq_eq _
theorem ob1_len (x : Fp) : (ob1 x).length = 48 := by rw [ob1_eq]; exact frm1_ok.len x
theorem fo_by1 : FnOk Try.prog 122 [.fp] [.val (.arr 48 (.int .u8))] noG (fun _ => True) (fun (x, _) => (ob1 x, ())) := fp.fn_bytes.out fun (x, _) => by show (ob1 x, ()) = (_, ()); rw [ob1, opq_eq]
noncomputable def soBy1 : Nat × Eng.Spec := (122, fnSpec [.fp] [.val (.arr 48 (.int .u8))] (fun _ => True) (fun (x, _) => (ob1 x, ())))
noncomputable def of1 (p : Fp × Fp) : List Int := opq (frm1.full p)
theorem of1_eq (p : Fp × Fp) : of1 p = frm1.full p := opq_eq _
theorem fo_g1f : FnOk Try.prog 66 [pt1] [.val (.arr 96 (.int .u8))] noG (fun _ => True) (fun (p, _) => (of1 p, ())) := by
  refine fn_of_vc (sp := sps [soBy1]) (sps_cons (fnSpec_ok fo_by1) sps_nil) mixed ent_g1f (by decide) (by decide) ?_
  rintro w M0 ⟨p, ⟨⟩⟩
  revert p
  intro (p : Fp × Fp) _ _
  refine vcx (X := (True ∧ True ∧ ((0 : Int) ≤ (48 : Int) ∧ (48 : Int) ≤ (↑(96 : Nat) : Int)) ∧ (0 : Nat) + (48 : Nat) ≤ (48 : Nat) ∧ (0 : Nat) + (48 : Nat) ≤ (96 : Nat) ∧ ((0 : Int) ≤ (48 : Int) ∧ (48 : Int) ≤ (↑(96 : Nat) : Int)) ∧ (0 : Nat) + (48 : Nat) ≤ (48 : Nat) ∧ (48 : Nat) + (48 : Nat) ≤ (96 : Nat) ∧ (eqC (Kd.fp.pair Kd.fp) p ((0 : Fp), (0 : Fp)) = true → (0 : Nat) < (96 : Nat) ∧ ((List.take (48 : Nat) (List.take (0 : Nat) (List.replicate (96 : Nat) (0 : Int)) ++ (List.take (Nat.min (48 : Nat) (48 : Nat)) (List.take (48 : Nat) (ob1 p.fst)) ++ List.drop ((0 : Nat) + Nat.min (48 : Nat) (48 : Nat)) (List.replicate (96 : Nat) (0 : Int)))) ++ (List.take (Nat.min (48 : Nat) (48 : Nat)) (List.take (48 : Nat) (ob1 p.snd)) ++ List.drop ((48 : Nat) + Nat.min (48 : Nat) (48 : Nat)) (List.take (0 : Nat) (List.replicate (96 : Nat) (0 : Int)) ++ (List.take (Nat.min (48 : Nat) (48 : Nat)) (List.take (48 : Nat) (ob1 p.fst)) ++ List.drop ((0 : Nat) + Nat.min (48 : Nat) (48 : Nat)) (List.replicate (96 : Nat) (0 : Int)))))).set (0 : Nat) (bitOp BinOp.or IntKind.u8 ((List.take ((nat_lit 0 + (1 : Nat)) / width (Kd.int IntKind.u8)) (List.take (48 : Nat) (List.take (0 : Nat) (List.replicate (96 : Nat) (0 : Int)) ++ (List.take (Nat.min (48 : Nat) (48 : Nat)) (List.take (48 : Nat) (ob1 p.fst)) ++ List.drop ((0 : Nat) + Nat.min (48 : Nat) (48 : Nat)) (List.replicate (96 : Nat) (0 : Int)))) ++ (List.take (Nat.min (48 : Nat) (48 : Nat)) (List.take (48 : Nat) (ob1 p.snd)) ++ List.drop ((48 : Nat) + Nat.min (48 : Nat) (48 : Nat)) (List.take (0 : Nat) (List.replicate (96 : Nat) (0 : Int)) ++ (List.take (Nat.min (48 : Nat) (48 : Nat)) (List.take (48 : Nat) (ob1 p.fst)) ++ List.drop ((0 : Nat) + Nat.min (48 : Nat) (48 : Nat)) (List.replicate (96 : Nat) (0 : Int))))))).getD (0 : Nat) (0 : Int)) (64 : Int)), ()) = (of1 p, ())) ∧ (eqC (Kd.fp.pair Kd.fp) p ((0 : Fp), (0 : Fp)) = false → (List.take (48 : Nat) (List.take (0 : Nat) (List.replicate (96 : Nat) (0 : Int)) ++ (List.take (Nat.min (48 : Nat) (48 : Nat)) (List.take (48 : Nat) (ob1 p.fst)) ++ List.drop ((0 : Nat) + Nat.min (48 : Nat) (48 : Nat)) (List.replicate (96 : Nat) (0 : Int)))) ++ (List.take (Nat.min (48 : Nat) (48 : Nat)) (List.take (48 : Nat) (ob1 p.snd)) ++ List.drop ((48 : Nat) + Nat.min (48 : Nat) (48 : Nat)) (List.take (0 : Nat) (List.replicate (96 : Nat) (0 : Int)) ++ (List.take (Nat.min (48 : Nat) (48 : Nat)) (List.take (48 : Nat) (ob1 p.fst)) ++ List.drop ((0 : Nat) + Nat.min (48 : Nat) (48 : Nat)) (List.replicate (96 : Nat) (0 : Int))))), ()) = (of1 p, ())))) (by kernel_rfl) ?_
  rw [cat_eq (n := 48) rfl (ob1_len _) (ob1_len _), eqP, hd_eq]
  refine ⟨trivial, trivial, ⟨by decide, by decide⟩, by decide, by decide, ⟨by decide, by decide⟩, by decide, by decide, fun h => ⟨by decide, ?_⟩, fun h => ?_⟩
  all_goals rw [of1_eq, Frm.full, ob1_eq, ob1_eq]
  · rw [if_pos (of_decide_eq_true h)]
  · rw [if_neg (of_decide_eq_false h)]
noncomputable def soG1f : Nat × Eng.Spec := (66, fnSpec [pt1] [.val (.arr 96 (.int .u8))] (fun _ => True) (fun (p, _) => (of1 p, ())))
noncomputable def os1 (p : Fp × Fp) : List Int := opq (frm1.short p)
theorem os1_eq (p : Fp × Fp) : os1 p = frm1.short p := opq_eq _
theorem fo_g1 : FnOk Try.prog 65 [pt1] [.val (.arr 48 (.int .u8))] noG (fun _ => True) (fun (p, _) => (os1 p, ())) := fn_g1.out fun (p, _) => by show (os1 p, ()) = (g1b p, ()); rw [os1_eq, g1b_eq]
noncomputable def soG1 : Nat × Eng.Spec := (65, fnSpec [pt1] [.val (.arr 48 (.int .u8))] (fun _ => True) (fun (p, _) => (os1 p, ())))
noncomputable def or1 (b : List Int) : (Fp × Fp) × Int := opq (frm1.rg b)
theorem or1_eq (b : List Int) : or1 b = frm1.rg b := opq_eq _
theorem fo_readG1 : FnOk Try.prog 59 [.sl (.int .u8)] [.val pt1, .val (.int .i64)] noG preRG (fun (b, _) => ((or1 b).1, (or1 b).2, ())) := fn_readG1.out fun (b, _) => by show ((or1 b).1, (or1 b).2, ()) = ((rg1 b).1, (rg1 b).2, ()); rw [or1_eq, rg1_eq]
noncomputable def soReadG1 : Nat × Eng.Spec := (59, fnSpec [.sl (.int .u8)] [.val pt1, .val (.int .i64)] preRG (fun (b, _) => ((or1 b).1, (or1 b).2, ())))

theorem ent_g2f : enters Try.prog 70 Try.f70 := enters_mk (by kernel_rfl) (by kernel_rfl) (by kernel_rfl)
noncomputable def ob2 (x : F2) : List Int := opq (fp2.by2 x)
theorem ob2_eq (x : F2) : ob2 x = frm2.bts x := opq_eq _
theorem ob2_len (x : F2) : (ob2 x).length = 96 := by rw [ob2_eq]; exact frm2_ok.len x
theorem fo_by2 : FnOk Try.prog 124 [fp2.f2] [.val (.arr 96 (.int .u8))] noG (fun _ => True) (fun (x, _) => (ob2 x, ())) := fp2.fn_bytes.out fun (x, _) => by show (ob2 x, ()) = (_, ()); rw [ob2, opq_eq]
noncomputable def soBy2 : Nat × Eng.Spec := (124, fnSpec [fp2.f2] [.val (.arr 96 (.int .u8))] (fun _ => True) (fun (x, _) => (ob2 x, ())))
noncomputable def of2 (p : F2 × F2) : List Int := opq (frm2.full p)
theorem of2_eq (p : F2 × F2) : of2 p = frm2.full p := opq_eq _
theorem fo_g2f : FnOk Try.prog 70 [g2.pt2] [.val (.arr 192 (.int .u8))] noG (fun _ => True) (fun (p, _) => (of2 p, ())) := by
  refine fn_of_vc (sp := sps [soBy2]) (sps_cons (fnSpec_ok fo_by2) sps_nil) mixed ent_g2f (by decide) (by decide) ?_
  rintro w M0 ⟨p, ⟨⟩⟩
  revert p
  intro (p : F2 × F2) _ _
  refine vcx (X := (True ∧ True ∧ ((0 : Int) ≤ (96 : Int) ∧ (96 : Int) ≤ (↑(192 : Nat) : Int)) ∧ (0 : Nat) + (96 : Nat) ≤ (96 : Nat) ∧ (0 : Nat) + (96 : Nat) ≤ (192 : Nat) ∧ ((0 : Int) ≤ (96 : Int) ∧ (96 : Int) ≤ (↑(192 : Nat) : Int)) ∧ (0 : Nat) + (96 : Nat) ≤ (96 : Nat) ∧ (96 : Nat) + (96 : Nat) ≤ (192 : Nat) ∧ (eqC ((Kd.fp.pair Kd.fp).pair (Kd.fp.pair Kd.fp)) p (((0 : Fp), (0 : Fp)), (0 : Fp), (0 : Fp)) = true → (0 : Nat) < (192 : Nat) ∧ ((List.take (96 : Nat) (List.take (0 : Nat) (List.replicate (192 : Nat) (0 : Int)) ++ (List.take (Nat.min (96 : Nat) (96 : Nat)) (List.take (96 : Nat) (ob2 p.fst)) ++ List.drop ((0 : Nat) + Nat.min (96 : Nat) (96 : Nat)) (List.replicate (192 : Nat) (0 : Int)))) ++ (List.take (Nat.min (96 : Nat) (96 : Nat)) (List.take (96 : Nat) (ob2 p.snd)) ++ List.drop ((96 : Nat) + Nat.min (96 : Nat) (96 : Nat)) (List.take (0 : Nat) (List.replicate (192 : Nat) (0 : Int)) ++ (List.take (Nat.min (96 : Nat) (96 : Nat)) (List.take (96 : Nat) (ob2 p.fst)) ++ List.drop ((0 : Nat) + Nat.min (96 : Nat) (96 : Nat)) (List.replicate (192 : Nat) (0 : Int)))))).set (0 : Nat) (bitOp BinOp.or IntKind.u8 ((List.take ((nat_lit 0 + (1 : Nat)) / width (Kd.int IntKind.u8)) (List.take (96 : Nat) (List.take (0 : Nat) (List.replicate (192 : Nat) (0 : Int)) ++ (List.take (Nat.min (96 : Nat) (96 : Nat)) (List.take (96 : Nat) (ob2 p.fst)) ++ List.drop ((0 : Nat) + Nat.min (96 : Nat) (96 : Nat)) (List.replicate (192 : Nat) (0 : Int)))) ++ (List.take (Nat.min (96 : Nat) (96 : Nat)) (List.take (96 : Nat) (ob2 p.snd)) ++ List.drop ((96 : Nat) + Nat.min (96 : Nat) (96 : Nat)) (List.take (0 : Nat) (List.replicate (192 : Nat) (0 : Int)) ++ (List.take (Nat.min (96 : Nat) (96 : Nat)) (List.take (96 : Nat) (ob2 p.fst)) ++ List.drop ((0 : Nat) + Nat.min (96 : Nat) (96 : Nat)) (List.replicate (192 : Nat) (0 : Int))))))).getD (0 : Nat) (0 : Int)) (64 : Int)), ()) = (of2 p, ())) ∧ (eqC ((Kd.fp.pair Kd.fp).pair (Kd.fp.pair Kd.fp)) p (((0 : Fp), (0 : Fp)), (0 : Fp), (0 : Fp)) = false → (List.take (96 : Nat) (List.take (0 : Nat) (List.replicate (192 : Nat) (0 : Int)) ++ (List.take (Nat.min (96 : Nat) (96 : Nat)) (List.take (96 : Nat) (ob2 p.fst)) ++ List.drop ((0 : Nat) + Nat.min (96 : Nat) (96 : Nat)) (List.replicate (192 : Nat) (0 : Int)))) ++ (List.take (Nat.min (96 : Nat) (96 : Nat)) (List.take (96 : Nat) (ob2 p.snd)) ++ List.drop ((96 : Nat) + Nat.min (96 : Nat) (96 : Nat)) (List.take (0 : Nat) (List.replicate (192 : Nat) (0 : Int)) ++ (List.take (Nat.min (96 : Nat) (96 : Nat)) (List.take (96 : Nat) (ob2 p.fst)) ++ List.drop ((0 : Nat) + Nat.min (96 : Nat) (96 : Nat)) (List.replicate (192 : Nat) (0 : Int))))), ()) = (of2 p, ())))) (by kernel_rfl) ?_
  rw [cat_eq (n := 96) rfl (ob2_len _) (ob2_len _), g2.eqP2, hd_eq]
  refine ⟨trivial, trivial, ⟨by decide, by decide⟩, by decide, by decide, ⟨by decide, by decide⟩, by decide, by decide, fun h => ⟨by decide, ?_⟩, fun h => ?_⟩
  all_goals rw [of2_eq, Frm.full, ob2_eq, ob2_eq]
  · rw [if_pos (show p = ((0 : F2), (0 : F2)) from of_decide_eq_true h)]
  · rw [if_neg (show ¬ p = ((0 : F2), (0 : F2)) from of_decide_eq_false h)]
noncomputable def soG2f : Nat × Eng.Spec := (70, fnSpec [g2.pt2] [.val (.arr 192 (.int .u8))] (fun _ => True) (fun (p, _) => (of2 p, ())))
noncomputable def os2 (p : F2 × F2) : List Int := opq (frm2.short p)
theorem os2_eq (p : F2 × F2) : os2 p = frm2.short p := opq_eq _
theorem fo_g2 : FnOk Try.prog 69 [g2.pt2] [.val (.arr 96 (.int .u8))] noG (fun _ => True) (fun (p, _) => (os2 p, ())) := fn_g2.out fun (p, _) => by show (os2 p, ()) = (g2b p, ()); rw [os2_eq, g2b_eq]
noncomputable def soG2 : Nat × Eng.Spec := (69, fnSpec [g2.pt2] [.val (.arr 96 (.int .u8))] (fun _ => True) (fun (p, _) => (os2 p, ())))
noncomputable def or2 (b : List Int) : (F2 × F2) × Int := opq (frm2.rg b)
theorem or2_eq (b : List Int) : or2 b = frm2.rg b := opq_eq _
theorem fo_readG2 : FnOk Try.prog 35 [.sl (.int .u8)] [.val g2.pt2, .val (.int .i64)] noG preRG (fun (b, _) => ((or2 b).1, (or2 b).2, ())) := fn_readG2.out fun (b, _) => by show ((or2 b).1, (or2 b).2, ()) = ((rg2 b).1, (rg2 b).2, ()); rw [or2_eq, rg2_eq]
noncomputable def soReadG2 : Nat × Eng.Spec := (35, fnSpec [.sl (.int .u8)] [.val g2.pt2, .val (.int .i64)] preRG (fun (b, _) => ((or2 b).1, (or2 b).2, ())))
end Go.Proofs.Ytlhgcbmanifpiaa.codec
/- deal.Read. -/
namespace Go.Proofs.Ytlhgcbmanifpiaa.deal
set_option maxRecDepth 100000
open Go Go.Eng Go.RowKit Cr Go.Proofs.Ytlhgcbmanifpiaa Go.Proofs.Ytlhgcbmanifpiaa.law22 Go.Proofs.Ytlhgcbmanifpiaa.poly
theorem ent_read : enters Try.prog 56 Try.f56 := enters_mk (by kernel_rfl) (by kernel_rfl) (by kernel_rfl)
/-- A piece of a commitment's bytes. -/
def pcs (b : List Int) (i : Nat) : List Int := (b.drop (48 * i)).take 48
noncomputable def errK (b : List Int) : Nat → Int
  | 0 => 0
  | k + 1 => if errK b k = 0 then (codec.or1 (pcs b k)).2 else errK b k
noncomputable def ptK (b : List Int) (k : Nat) : List (Fp × Fp) := (List.range k).map fun i => (codec.or1 (pcs b i)).1
theorem errK_le {b : List Int} : ∀ {k m : Nat}, k ≤ m → errK b k ≠ 0 → errK b m = errK b k
  | k, 0, h, _ => by rw [Nat.le_zero.1 h]
  | k, m + 1, h, h2 => by
    by_cases c : k = m + 1
    · rw [c]
    · have := errK_le (b := b) (k := k) (m := m) (by omega) h2
      rw [errK, if_neg (by rw [this]; exact h2), this]
theorem ptK_succ (b : List Int) (k : Nat) : ptK b (k + 1) = ptK b k ++ [(codec.or1 (pcs b k)).1] := by
  rw [ptK, List.range_succ, List.map_append]; rfl
theorem ptK_len (b : List Int) (k : Nat) : (ptK b k).length = k := by rw [ptK]; simp
noncomputable def rdF (d : List Int) (n : Int) (o : List (Fp × Fp)) (fm : Int) (b : List Int) : List (Fp × Fp) × Int :=
  if fm ∈ d then
    if b.length % 48 = 0 ∧ ((b.length / 48 : Nat) : Int) = n then
      if errK b (b.length / 48) = 0 then
        if o = [] ∨ (1 ≤ b.length / 48 ∧ (ptK b (b.length / 48)).getD 0 (0, 0) = catF fm o) then (ptK b (b.length / 48), 0) else ([], 31)
      else ([], errK b (b.length / 48))
    else ([], 10)
  else ([], 34)
abbrev preRd : HL [setK, .int .i64, .sl (.int .u8)] → Prop := fun ((d, _, _, o), fm, b, _) => List.length d < 4611686018427387904 ∧ preCat (o, fm, ()) ∧ Bs b ∧ List.length b ≤ 1000000
noncomputable abbrev outRd : HL [setK, .int .i64, .sl (.int .u8)] → HO [.own pt1, .val (.int .i64)] := fun ((d, _, n, o), fm, b, _) => ((rdF d n o fm b).1, (rdF d n o fm b).2, ())
abbrev sC (d t : List Int) (n : Int) (o : List (Fp × Fp)) : List Cell := [.ro (.int .i64) d, .ro (.int .i64) t, .v (.int .i64 n), .ro pt1 o]
noncomputable def rdS0 (d t : List Int) (n : Int) (o : List (Fp × Fp)) (fm : Int) (g : List Int × Nat × Nat × List (Fp × Fp)) : St := mkSt Try.f56.ntmps 192 [(1, sI .i64 fm), (2, .is (.one (.ro (.int .u8) g.1))), (3, .is (.one (.ptr 0 0))), (6, .is (.one (.v (.slice none 0 0)))), (7, sI .i64 0), (8, .is (.one (.sl 176 0 0 g.2.1 12)))] [(0, sC d t n o), (176, [.row pt1 g.2.2.1 g.2.2.2])]
noncomputable def rdJ (b : List Int) (g : List Int × Nat × Nat × List (Fp × Fp)) : Prop := g.2.1 ≤ b.length / 48 ∧ g.1 = b.drop (48 * g.2.1) ∧ g.2.2.2.take g.2.1 = ptK b g.2.1 ∧ errK b g.2.1 = 0 ∧ g.2.1 ≤ g.2.2.1 ∧ g.2.2.1 = g.2.2.2.length
noncomputable def rdO0 (b : List Int) (g : List Int × Nat × Nat × List (Fp × Fp)) : Prop := g.2.1 = b.length / 48 ∧ g.2.2.2.take g.2.1 = ptK b g.2.1 ∧ errK b g.2.1 = 0 ∧ g.2.1 ≤ g.2.2.1 ∧ g.2.2.1 = g.2.2.2.length
theorem fn_read : FnOk Try.prog 56 [setK, .int .i64, .sl (.int .u8)] [.own pt1, .val (.int .i64)] noG preRd outRd := by
  have hsp : SpecsOk Try.prog (sps [spContains, codec.soReadG1, spFresh, spCat]) := (sps_cons (fnSpec_ok fn_contains) (sps_cons (fnSpec_ok codec.fo_readG1) (sps_cons (fnSpec_ok fn_fresh) (sps_cons (fnSpec_ok fn_cat) sps_nil))))
  refine fn_of_tr (sp := sps [spContains, codec.soReadG1, spFresh, spCat]) ent_read (by decide) (by decide) (by kernel_rfl) ?_
  rintro w M0 ⟨⟨d, t, n, o⟩, from_, b, ⟨⟩⟩
  revert d t n o from_ b
  intro (d : List Int) (t : List Int) (n : Int) (o : List (Fp × Fp)) (fm : Int) (b : List Int) _ hp
  obtain ⟨hd, hc, hb, hl⟩ := hp
  have hl : b.length ≤ 1000000 := hl
  show Tr _ _ _ _ _ _ _
  refine tr_cutF hsp mixed 6 (fun σ => (rdO (.int .u8) 2 σ, rdL 8 σ, rdN 176 σ, rdR pt1 176 σ)) (rdS0 d t n o fm) (fun g => rdJ b g ∧ fm ∈ d ∧ b.length % 48 = 0 ∧ ((b.length / 48 : Nat) : Int) = n) ?_ ?_
  · refine vcx (X := (preIn (d, fm, ()) ∧ ((!decide (fm ∈ d)) = true → ([], (34 : Int), ()) = outRd ((d, t, n, o), fm, b, ())) ∧ ((!decide (fm ∈ d)) = false → ((48 : Int) = (0 : Int) → False) ∧ (((↑b.length : Int).tmod (48 : Int) != (0 : Int)) = true → ([], (10 : Int), ()) = outRd ((d, t, n, o), fm, b, ())) ∧ (((↑b.length : Int).tmod (48 : Int) != (0 : Int)) = false → ((48 : Int) = (0 : Int) → False) ∧ ((IntKind.i64.wrap ((↑b.length : Int).tdiv (48 : Int)) != n) = true → ([], (10 : Int), ()) = outRd ((d, t, n, o), fm, b, ())) ∧ ((IntKind.i64.wrap ((↑b.length : Int).tdiv (48 : Int)) != n) = false → ((0 : Int) ≤ (0 : Int) ∧ (0 : Int) ≤ n ∧ (↑(96 : Nat) : Int) * n ≤ (281474976710656 : Int) ∧ n ≤ (9223372036854775807 : Int)) ∧ (rdS0 d t n o fm (b, (0 : Nat), n.toNat, List.replicate n.toNat ((0 : Fp), (0 : Fp)))).triv (rdJ b (b, (0 : Nat), n.toNat, List.replicate n.toNat ((0 : Fp), (0 : Fp))) ∧ fm ∈ d ∧ b.length % (48 : Nat) = (0 : Nat) ∧ (↑(b.length / (48 : Nat)) : Int) = n)))))) (by kernel_rfl) ?_
    have e1 : (b.length : Int).tmod 48 = ((b.length % 48 : Nat) : Int) := rfl
    have e2 : (b.length : Int).tdiv 48 = ((b.length / 48 : Nat) : Int) := rfl
    rw [e1, e2, wrap_i64' (by omega) (by omega)]
    refine ⟨hd, fun h => ?_, fun h => ⟨by decide, fun h2 => ?_, fun h2 => ⟨by decide, fun h3 => ?_, fun h3 => ?_⟩⟩⟩
    · have h : ¬ fm ∈ d := by simpa using h
      show _ = ((rdF d n o fm b).1, (rdF d n o fm b).2, ())
      rw [rdF, if_neg h]
    · have h : fm ∈ d := by simpa using h
      have h2 : ¬ b.length % 48 = 0 := fun c => by rw [c] at h2; simp at h2
      show _ = ((rdF d n o fm b).1, (rdF d n o fm b).2, ())
      rw [rdF, if_pos h, if_neg (fun c => h2 c.1)]
    · have h : fm ∈ d := by simpa using h
      have h3 : ¬ ((b.length / 48 : Nat) : Int) = n := bne_iff_ne.1 h3
      show _ = ((rdF d n o fm b).1, (rdF d n o fm b).2, ())
      rw [rdF, if_pos h, if_neg (fun c => h3 c.2)]
    · have h : fm ∈ d := by simpa using h
      have h2 : b.length % 48 = 0 := by have : ((b.length % 48 : Nat) : Int) = 0 := by simpa using h2
                                        omega
      have h3 : ((b.length / 48 : Nat) : Int) = n := by simpa using h3
      have hn : n.toNat = b.length / 48 := by omega
      refine ⟨⟨by decide, by omega, by omega, by omega⟩, triv_intro ⟨⟨Nat.zero_le _, ?_, ?_, rfl, Nat.zero_le _, ?_⟩, h, h2, h3⟩⟩
      · show b = List.drop (48 * 0) b; simp
      · rfl
      · show n.toNat = (List.replicate n.toNat ((0 : Fp), (0 : Fp))).length
        rw [List.length_replicate]
  rintro ⟨b', k, m, l⟩ hK
  revert b' l
  intro (b' : List Int) (l : List (Fp × Fp)) ⟨hj, hfd, h48, hn⟩
  refine tr_while hsp mixed (fun σ => [(176, rdI 8 σ)]) (fun σ => (rdO (.int .u8) 2 σ, rdL 8 σ, rdN 176 σ, rdR pt1 176 σ)) (rdS0 d t n o fm) (rdJ b) (fun g => b.length / 48 - g.2.1)
    (fun σ => (rdO (.int .u8) 2 σ, rdL 8 σ, rdN 176 σ, rdR pt1 176 σ)) (rdS0 d t n o fm) (rdO0 b) (b', k, m, l) (c := nthC (codeOf Try.f56) 6) (by kernel_rfl) (by kernel_rfl) (le_of_proj (by kernel_rfl) (by kernel_rfl) hj) ?_ ?_
  · rintro ⟨b', k, m, l⟩ hj
    revert b' l
    intro (b' : List Int) (l : List (Fp × Fp)) ⟨j1, j2, j3, j4, j5, j6⟩
    refine vcx (X := ((decide ((↑b'.length : Int) > (0 : Int)) = true → ((0 : Int) ≤ (48 : Int) ∧ (48 : Int) ≤ (↑b'.length : Int)) ∧ codec.preRG (List.take (48 : Nat) b', ()) ∧ (((codec.or1 (List.take (48 : Nat) b')).snd != (0 : Int)) = true → ([], (codec.or1 (List.take (48 : Nat) b')).snd, ()) = outRd ((d, t, n, o), fm, b, ())) ∧ (((codec.or1 (List.take (48 : Nat) b')).snd != (0 : Int)) = false → (0 : Nat) + (1 : Nat) ≤ (1 : Nat) ∧ k ≤ m ∧ (k + (1 : Nat)) * (96 : Nat) ≤ (140737488355328 : Nat) ∧ k + (1 : Nat) ≤ (4611686018427387904 : Nat) ∧ ((0 : Int) ≤ (48 : Int) ∧ (48 : Int) ≤ (↑b'.length : Int)) ∧ (rdS0 d t n o fm (List.take ((↑b'.length : Int) - (48 : Int)).toNat (List.drop (48 : Nat) b'), k + (1 : Nat), k + (1 : Nat), List.take k l ++ List.take (1 : Nat) [(codec.or1 (List.take (48 : Nat) b')).fst])).triv (rdJ b (List.take ((↑b'.length : Int) - (48 : Int)).toNat (List.drop (48 : Nat) b'), k + (1 : Nat), k + (1 : Nat), List.take k l ++ List.take (1 : Nat) [(codec.or1 (List.take (48 : Nat) b')).fst]) ∧ b.length / (48 : Nat) - (k + (1 : Nat)) < b.length / (48 : Nat) - k))) ∧ (decide ((↑b'.length : Int) > (0 : Int)) = false → (rdS0 d t n o fm (b', k, m, l)).triv (rdO0 b (b', k, m, l))))) (by kernel_rfl) ?_
    have j1 : k ≤ b.length / 48 := j1
    have j2 : b' = b.drop (48 * k) := j2
    have j3 : l.take k = ptK b k := j3
    have j4 : errK b k = 0 := j4
    have j5 : k ≤ m := j5
    have hbl : b'.length = b.length - 48 * k := by rw [j2, List.length_drop]
    have hpc : List.take 48 b' = pcs b k := by rw [j2]; rfl
    rw [hpc]
    refine ⟨fun h => ?_, fun h => triv_intro ?_⟩
    · have hlt : k < b.length / 48 := by
        have := of_decide_eq_true h
        omega
      have h48' : 48 ≤ b'.length := by omega
      refine ⟨⟨by omega, by omega⟩, ⟨fun x hx => hb x (List.mem_of_mem_drop (List.mem_of_mem_take hx)), by show (pcs b k).length ≤ _; rw [pcs]; exact Nat.le_trans (List.length_take_le _ _) (by decide)⟩, fun h2 => ?_, fun h2 => ⟨by decide, j5, by omega, by omega, ⟨by omega, by omega⟩, triv_intro ⟨⟨hlt, ?_, ?_, ?_, Nat.le_refl _, ?_⟩, by omega⟩⟩⟩
      · have h2 : ¬ (codec.or1 (pcs b k)).2 = 0 := bne_iff_ne.1 h2
        have he : errK b (k + 1) = (codec.or1 (pcs b k)).2 := by rw [errK, if_pos j4]
        have hz : errK b (b.length / 48) = (codec.or1 (pcs b k)).2 := by rw [← he]; exact errK_le hlt (by rw [he]; exact h2)
        show _ = ((rdF d n o fm b).1, (rdF d n o fm b).2, ())
        rw [rdF, if_pos hfd, if_pos ⟨h48, hn⟩, if_neg (by rw [hz]; exact h2), hz]
      · show List.take ((b'.length : Int) - 48).toNat (List.drop 48 b') = b.drop (48 * (k + 1))
        rw [List.take_of_length_le (by rw [List.length_drop]; omega), j2, List.drop_drop]
        congr 1
      · show List.take (k + 1) (List.take k l ++ [_]) = ptK b (k + 1)
        rw [j3, ptK_succ, List.take_of_length_le (by rw [List.length_append, ptK_len]; simp)]
      · show errK b (k + 1) = 0
        rw [errK, if_pos j4]
        simpa using h2
      · show k + 1 = (List.take k l ++ [_]).length
        rw [j3, List.length_append, ptK_len]; rfl
    · have hk : k = b.length / 48 := by
        have := of_decide_eq_false h
        omega
      exact ⟨hk, j3, j4, j5, j6⟩
  rintro ⟨b', k, m, l⟩ hj
  revert b' l
  intro (b' : List Int) (l : List (Fp × Fp)) ⟨j1, j3, j4, j5, j6⟩
  refine tr_vc hsp mixed _ _ ?_
  refine vcx (X := (True ∧ ((!(↑o.length : Int) == (0 : Int)) = true → (((↑k : Int) == (0 : Int)) = true → ([], (31 : Int), ()) = outRd ((d, t, n, o), fm, b, ())) ∧ (((↑k : Int) == (0 : Int)) = false → ((0 : Int) ≤ (0 : Int) ∧ (0 : Int) < (↑k : Int)) ∧ (0 : Nat) < m ∧ preCat (o, fm, ()) ∧ ((!eqC (Kd.fp.pair Kd.fp) (l.getD (0 : Nat) ((0 : Fp), (0 : Fp))) (catF fm o)) = true → ([], (31 : Int), ()) = outRd ((d, t, n, o), fm, b, ())) ∧ ((!eqC (Kd.fp.pair Kd.fp) (l.getD (0 : Nat) ((0 : Fp), (0 : Fp))) (catF fm o)) = false → (0 : Nat) + k ≤ m ∧ (List.take k l, (0 : Int), ()) = outRd ((d, t, n, o), fm, b, ())))) ∧ ((!(↑o.length : Int) == (0 : Int)) = false → (0 : Nat) + k ≤ m ∧ (List.take k l, (0 : Int), ()) = outRd ((d, t, n, o), fm, b, ())))) (by kernel_rfl) ?_
  have j1 : k = b.length / 48 := j1
  have j3 : l.take k = ptK b k := j3
  have j4 : errK b k = 0 := j4
  have j5 : k ≤ m := j5
  have j6 : m = l.length := j6
  have er : rdF d n o fm b = if o = [] ∨ (1 ≤ k ∧ (ptK b k).getD 0 (0, 0) = catF fm o) then (ptK b k, 0) else ([], 31) := by
    rw [rdF, if_pos hfd, if_pos ⟨h48, hn⟩, ← j1, if_pos j4]
  have hg : 1 ≤ k → l.getD 0 ((0 : Fp), (0 : Fp)) = (ptK b k).getD 0 (0, 0) := fun h => by
    rw [← j3, List.getD_eq_getElem?_getD, List.getD_eq_getElem?_getD, List.getElem?_take, if_pos (by omega)]
  have kp : ((k : Int) == 0) = false → (0 : Int) < (k : Int) := fun h => by
    have : ¬ (k : Int) = 0 := by simpa using h
    omega
  rw [eqP, j3]
  refine ⟨trivial, fun h => ⟨fun h2 => ?_, fun h2 => ⟨⟨by decide, kp h2⟩, ?_, hc, fun h3 => ?_, fun h3 => ⟨by omega, ?_⟩⟩⟩, fun h => ⟨by omega, ?_⟩⟩
  all_goals try show _ = ((rdF d n o fm b).1, (rdF d n o fm b).2, ())
  all_goals try rw [er]
  · have h2 : (k : Int) = 0 := by simpa using h2
    have ho : ¬ o = [] := fun c => by rw [c] at h; simp at h
    rw [if_neg (fun c => c.elim ho (fun c => by omega))]
  · have : ¬ (k : Int) = 0 := by simpa using h2
    omega
  · have hk : 1 ≤ k := by have : ¬ (k : Int) = 0 := by simpa using h2
                          omega
    have ho : ¬ o = [] := fun c => by rw [c] at h; simp at h
    rw [hg hk] at h3
    have h3 : ¬ (ptK b k).getD 0 (0, 0) = catF fm o := by simpa using h3
    rw [if_neg (fun c => c.elim ho (fun c => h3 c.2))]
  · have hk : 1 ≤ k := by have : ¬ (k : Int) = 0 := by simpa using h2
                          omega
    rw [hg hk] at h3
    have h3 : (ptK b k).getD 0 (0, 0) = catF fm o := by simpa using h3
    rw [if_pos (.inr ⟨hk, h3⟩)]
  · have ho : o = [] := List.eq_nil_of_length_eq_zero (by have : (o.length : Int) = 0 := by simpa using h
                                                          omega)
    rw [if_pos (.inl ho)]
noncomputable def spRead : Nat × Eng.Spec := (56, fnSpec [setK, .int .i64, .sl (.int .u8)] [.own pt1, .val (.int .i64)] preRd outRd)
end Go.Proofs.Ytlhgcbmanifpiaa.deal
/- codec: forms, for laws. -/
namespace Go.Proofs.Ytlhgcbmanifpiaa.codec
set_option maxRecDepth 100000
open Go Go.Eng Go.RowKit Cr Go.Proofs.Ytlhgcbmanifpiaa
theorem xor_u8 (a b : Int) : 0 ≤ bitOp .xor .u8 a b ∧ bitOp .xor .u8 a b < 256 := by
  show 0 ≤ IntKind.u8.wrap _ ∧ IntKind.u8.wrap _ < 256
  simp only [IntKind.wrap, IntKind.signed, IntKind.bits]
  simp
  omega
section
variable {F : Type} [Cr.Fd F] [DecidableEq F] {S : Frm F}
theorem hdk_Bs {l : List Int} (h : Bs l) (hd : BD l) {k : Nat} (hk : k < 8) : Bs (hdk l k) := set_Bs h (by obtain ⟨_, h2, h3⟩ := hd; omega)
theorem Frm.Ok.short_Bs (h : S.Ok) (p : F × F) : Bs (S.short p) := by
  rw [h.short_eq]
  exact hdk_Bs (h.bs _) (h.BD1 _) (by split; decide; split <;> decide)
theorem Frm.Ok.full_Bs (h : S.Ok) (p : F × F) : Bs (S.full p) := by
  rw [h.full_eq]
  refine hdk_Bs (fun v hv => ?_) (h.BD2 _ _) (by split <;> decide)
  rcases List.mem_append.1 hv with c | c
  · exact h.bs _ v c
  · exact h.bs _ v c
theorem Frm.Ok.short_len (h : S.Ok) (p : F × F) : (S.short p).length = S.n := by rw [h.short_eq, hdk_len, h.len]
theorem Frm.Ok.full_len' (h : S.Ok) (p : F × F) : (S.full p).length = 2 * S.n := by rw [h.full_eq, hdk_len, h.full_len]
end

theorem os1_len (p : Fp × Fp) : (os1 p).length = 48 := by rw [os1_eq]; exact frm1_ok.short_len p
theorem of1_len (p : Fp × Fp) : (of1 p).length = 96 := by rw [of1_eq]; exact frm1_ok.full_len' p
theorem os1_take (p : Fp × Fp) : List.take 48 (os1 p) = os1 p := List.take_of_length_le (by rw [os1_len]; exact Nat.le_refl _)
theorem of1_take (p : Fp × Fp) : List.take 96 (of1 p) = of1 p := List.take_of_length_le (by rw [of1_len]; exact Nat.le_refl _)
theorem os1_pre (p : Fp × Fp) : preRG (os1 p, ()) := ⟨by rw [os1_eq]; exact frm1_ok.short_Bs p, by show List.length (os1 p) ≤ _; rw [os1_len]; decide⟩
theorem of1_pre (p : Fp × Fp) : preRG (of1 p, ()) := ⟨by rw [of1_eq]; exact frm1_ok.full_Bs p, by show List.length (of1 p) ≤ _; rw [of1_len]; decide⟩
theorem set_pre1 {b : List Int} (h : preRG (b, ())) (x y : Int) : preRG (b.set 0 (bitOp .xor .u8 x y), ()) := ⟨set_Bs h.1 (xor_u8 x y), by show List.length (b.set 0 _) ≤ _; rw [List.length_set]; exact h.2⟩
theorem sub_gon1 {p : Fp × Fp} (h : g1.Sub p) : g1.gon p = true := (g1.gon_iff p).2 h.1
theorem or_os1 {p : Fp × Fp} (h : g1.Sub p) : or1 (os1 p) = (p, 0) := by rw [os1_eq, or1_eq]; exact frm1_ok.short_back (sub_gon1 h) (g1.sub_in h)
theorem or_of1 {p : Fp × Fp} (h : g1.Sub p) : or1 (of1 p) = (p, 0) := by rw [of1_eq, or1_eq]; exact frm1_ok.full_back (sub_gon1 h) (g1.sub_in h)
theorem gmul_ne1 {x : Fr} (h : x ≠ 0) : g1.gmul g1.gG x ≠ ((0 : Fp), (0 : Fp)) := by
  intro c
  have e : g1.gmul g1.gG (x * Cr.Fd.inv x) = g1.gmul (g1.gmul g1.gG x) (Cr.Fd.inv x) := g1.mul_mul g1.sub_G _ _
  rw [Cr.Fd.mul_inv x h, g1.mul_one g1.sub_G, c, g1.gmul_eq (.inl rfl), nmul_O] at e
  exact g1.gG_ne e
theorem neg_ok1 {p : Fp × Fp} (h : g1.Sub p) (h0 : p ≠ ((0 : Fp), (0 : Fp))) : p.2 ≠ 0 ∧ p.1 ≠ 0 := frm1_ok.iny p.1 p.2 (sub_gon1 h) (g1.sub_in h) h0
theorem os_neg1 {p : Fp × Fp} (h : g1.Sub p) (h0 : p ≠ ((0 : Fp), (0 : Fp))) : (os1 p).set 0 (bitOp .xor .u8 ((os1 p).getD 0 0) 32) = os1 (pneg p) := by
  rw [os1_eq, os1_eq]
  exact frm1_ok.short_neg h0 (neg_ok1 h h0).1
theorem neg_sub1 {p : Fp × Fp} (h : g1.Sub p) : g1.Sub (pneg p) := ⟨pneg_onP h.1, by rw [nmul_neg g1.b4_ne h.1, h.2, pneg_O]⟩
theorem neg_ne1 {p : Fp × Fp} (h0 : p ≠ ((0 : Fp), (0 : Fp))) : pneg p ≠ ((0 : Fp), (0 : Fp)) := fun c => h0 (by rw [← pneg_pneg p, c]; exact pneg_O)
theorem or_short1 {p : Fp × Fp} (h : g1.Sub p) (h0 : p ≠ ((0 : Fp), (0 : Fp))) {m : Nat} (hm : m < 8) (hm2 : 2 ≤ m) : or1 ((os1 p).set 0 (bitOp .xor .u8 ((os1 p).getD 0 0) ((32 * m : Nat) : Int))) = (((0 : Fp), (0 : Fp)), 11) := by
  rw [os1_eq, or1_eq]
  exact frm1_ok.short_marks h0 (neg_ok1 h h0).2 hm hm2
theorem or_full1 {p : Fp × Fp} (h0 : p ≠ ((0 : Fp), (0 : Fp))) {m : Nat} (hm : m < 8) (hm2 : 1 ≤ m) : or1 ((of1 p).set 0 (bitOp .xor .u8 ((of1 p).getD 0 0) ((32 * m : Nat) : Int))) = (((0 : Fp), (0 : Fp)), 11) := by
  rw [of1_eq, or1_eq]
  exact frm1_ok.full_marks h0 hm hm2

theorem os2_len (p : F2 × F2) : (os2 p).length = 96 := by rw [os2_eq]; exact frm2_ok.short_len p
theorem of2_len (p : F2 × F2) : (of2 p).length = 192 := by rw [of2_eq]; exact frm2_ok.full_len' p
theorem os2_take (p : F2 × F2) : List.take 96 (os2 p) = os2 p := List.take_of_length_le (by rw [os2_len]; exact Nat.le_refl _)
theorem of2_take (p : F2 × F2) : List.take 192 (of2 p) = of2 p := List.take_of_length_le (by rw [of2_len]; exact Nat.le_refl _)
theorem os2_pre (p : F2 × F2) : preRG (os2 p, ()) := ⟨by rw [os2_eq]; exact frm2_ok.short_Bs p, by show List.length (os2 p) ≤ _; rw [os2_len]; decide⟩
theorem of2_pre (p : F2 × F2) : preRG (of2 p, ()) := ⟨by rw [of2_eq]; exact frm2_ok.full_Bs p, by show List.length (of2 p) ≤ _; rw [of2_len]; decide⟩
theorem set_pre2 {b : List Int} (h : preRG (b, ())) (x y : Int) : preRG (b.set 0 (bitOp .xor .u8 x y), ()) := ⟨set_Bs h.1 (xor_u8 x y), by show List.length (b.set 0 _) ≤ _; rw [List.length_set]; exact h.2⟩
theorem sub_gon2 {p : F2 × F2} (h : g2.Sub p) : g2.gon p = true := (g2.gon_iff p).2 h.1
theorem or_os2 {p : F2 × F2} (h : g2.Sub p) : or2 (os2 p) = (p, 0) := by rw [os2_eq, or2_eq]; exact frm2_ok.short_back (sub_gon2 h) (g2.sub_in h)
theorem or_of2 {p : F2 × F2} (h : g2.Sub p) : or2 (of2 p) = (p, 0) := by rw [of2_eq, or2_eq]; exact frm2_ok.full_back (sub_gon2 h) (g2.sub_in h)
theorem gmul_ne2 {x : Fr} (h : x ≠ 0) : g2.gmul g2.gG x ≠ ((0 : F2), (0 : F2)) := by
  intro c
  have e : g2.gmul g2.gG (x * Cr.Fd.inv x) = g2.gmul (g2.gmul g2.gG x) (Cr.Fd.inv x) := g2.mul_mul g2.sub_G _ _
  rw [Cr.Fd.mul_inv x h, g2.mul_one g2.sub_G, c, g2.gmul_eq (.inl rfl), nmul_O] at e
  exact g2.gG_ne e
theorem neg_ok2 {p : F2 × F2} (h : g2.Sub p) (h0 : p ≠ ((0 : F2), (0 : F2))) : p.2 ≠ 0 ∧ p.1 ≠ 0 := frm2_ok.iny p.1 p.2 (sub_gon2 h) (g2.sub_in h) h0
theorem os_neg2 {p : F2 × F2} (h : g2.Sub p) (h0 : p ≠ ((0 : F2), (0 : F2))) : (os2 p).set 0 (bitOp .xor .u8 ((os2 p).getD 0 0) 32) = os2 (pneg p) := by
  rw [os2_eq, os2_eq]
  exact frm2_ok.short_neg h0 (neg_ok2 h h0).1
theorem neg_sub2 {p : F2 × F2} (h : g2.Sub p) : g2.Sub (pneg p) := ⟨pneg_onP h.1, by rw [nmul_neg g2.b4_ne h.1, h.2, pneg_O]⟩
theorem neg_ne2 {p : F2 × F2} (h0 : p ≠ ((0 : F2), (0 : F2))) : pneg p ≠ ((0 : F2), (0 : F2)) := fun c => h0 (by rw [← pneg_pneg p, c]; exact pneg_O)
theorem or_short2 {p : F2 × F2} (h : g2.Sub p) (h0 : p ≠ ((0 : F2), (0 : F2))) {m : Nat} (hm : m < 8) (hm2 : 2 ≤ m) : or2 ((os2 p).set 0 (bitOp .xor .u8 ((os2 p).getD 0 0) ((32 * m : Nat) : Int))) = (((0 : F2), (0 : F2)), 11) := by
  rw [os2_eq, or2_eq]
  exact frm2_ok.short_marks h0 (neg_ok2 h h0).2 hm hm2
theorem or_full2 {p : F2 × F2} (h0 : p ≠ ((0 : F2), (0 : F2))) {m : Nat} (hm : m < 8) (hm2 : 1 ≤ m) : or2 ((of2 p).set 0 (bitOp .xor .u8 ((of2 p).getD 0 0) ((32 * m : Nat) : Int))) = (((0 : F2), (0 : F2)), 11) := by
  rw [of2_eq, or2_eq]
  exact frm2_ok.full_marks h0 hm hm2
end Go.Proofs.Ytlhgcbmanifpiaa.codec
/- The references' Same. -/
namespace Go.Proofs.Ytlhgcbmanifpiaa.ref01
set_option maxRecDepth 100000
open Go Go.Eng Go.RowKit Cr Go.Proofs.Ytlhgcbmanifpiaa
theorem ent_same : enters Try.prog 30 Try.f30 := enters_mk (by kernel_rfl) (by kernel_rfl) (by kernel_rfl)
abbrev preSame : HL [.sl (.int .u8), .sl (.int .u8)] → Prop := fun (a, _, _) => List.length a < 4611686018427387904
def sameF (a b : List Int) : Bool := decide (a = b)
abbrev outSame : HL [.sl (.int .u8), .sl (.int .u8)] → HO [.val .bool] := fun (a, b, _) => (sameF a b, ())
noncomputable def saI (a b : List Int) (g : Int) : St := mkSt Try.f30.ntmps 72 [(0, .is (.one (.ro (.int .u8) a))), (1, .is (.one (.ro (.int .u8) b))), (4, .is (.one .F)), (12, sI .i64 a.length), (13, sI .i64 g)] []
def saJ (a b : List Int) (g : Int) : Prop := ∃ k : Nat, k ≤ a.length ∧ g = (k : Int) ∧ a.take k = b.take k
theorem fn_same : FnOk Try.prog 30 [.sl (.int .u8), .sl (.int .u8)] [.val .bool] noG preSame outSame := by
  have hsp : SpecsOk Try.prog (sps []) := sps_nil
  refine fn_of_tr (sp := sps []) ent_same (by decide) (by decide) (by kernel_rfl) ?_
  rintro w M0 ⟨a, b, ⟨⟩⟩
  revert a b
  intro (a : List Int) (b : List Int) _ hl
  have hl : a.length < 4611686018427387904 := hl
  show Tr _ _ _ _ _ _ _
  refine tr_cut hsp mixed 4 (saI a b 0) (a.length = b.length) ?_ (fun he => ?_)
  · refine vcx (X := ((((↑a.length : Int) != (↑b.length : Int)) = true → (false, ()) = outSame (a, b, ())) ∧ (((↑a.length : Int) != (↑b.length : Int)) = false → (saI a b (0 : Int)).triv (a.length = b.length)))) (by kernel_rfl) ?_
    refine ⟨fun h => ?_, fun h => triv_intro (by simp at h; omega)⟩
    have h : ¬ a.length = b.length := by simp at h; omega
    show _ = (sameF a b, ())
    rw [sameF, decide_eq_false (fun e => h (by rw [e]))]
  refine tr_while hsp mixed noSw (fun σ => rdS (.int .i64) 13 σ) (saI a b) (saJ a b) (fun g => a.length - g.toNat)
    (fun σ => rdS (.int .i64) 13 σ) (saI a b) (fun _ => a = b) 0 (c := nthC (codeOf Try.f30) 4) (by kernel_rfl) (by kernel_rfl) (le_of_proj (by kernel_rfl) (by kernel_rfl) ?_) ?_ ?_
  · exact ⟨0, Nat.zero_le _, rfl, rfl⟩
  · intro (i : Int) ⟨k, hk, ei, ht⟩
    subst ei
    refine vcx (X := ((decide ((↑k : Int) < (↑a.length : Int)) = true → ((0 : Int) ≤ (↑k : Int) ∧ (↑k : Int) < (↑a.length : Int)) ∧ (↑k : Int).toNat < a.length ∧ ((0 : Int) ≤ (↑k : Int) ∧ (↑k : Int) < (↑b.length : Int)) ∧ (↑k : Int).toNat < b.length ∧ ((a.getD (↑k : Int).toNat (0 : Int) != b.getD (↑k : Int).toNat (0 : Int)) = true → (false, ()) = outSame (a, b, ())) ∧ ((a.getD (↑k : Int).toNat (0 : Int) != b.getD (↑k : Int).toNat (0 : Int)) = false → (saI a b (IntKind.i64.wrap ((↑k : Int) + (1 : Int)))).triv (saJ a b (IntKind.i64.wrap ((↑k : Int) + (1 : Int))) ∧ a.length - (IntKind.i64.wrap ((↑k : Int) + (1 : Int))).toNat < a.length - (↑k : Int).toNat))) ∧ (decide ((↑k : Int) < (↑a.length : Int)) = false → (saI a b (↑k : Int)).triv (a = b)))) (by kernel_rfl) ?_
    rw [Int.toNat_natCast]
    refine ⟨fun h => ?_, fun h => triv_intro ?_⟩
    · have hlt : k < a.length := by have := dec_lt h; omega
      have ga : a.getD k 0 = a[k] := by rw [List.getD_eq_getElem?_getD, List.getElem?_eq_getElem hlt, Option.getD_some]
      have gb : b.getD k 0 = b[k] := by rw [List.getD_eq_getElem?_getD, List.getElem?_eq_getElem (by omega), Option.getD_some]
      rw [wrap_succ (by omega), ga, gb]
      refine ⟨⟨by omega, by omega⟩, hlt, ⟨by omega, by omega⟩, by omega, fun h2 => ?_, fun h2 => triv_intro ⟨⟨k + 1, hlt, rfl, ?_⟩, by rw [Int.toNat_natCast]; omega⟩⟩
      · have h2 : a[k] ≠ b[k] := by simpa using h2
        show _ = (sameF a b, ())
        rw [sameF, decide_eq_false (fun e => h2 (by subst e; rfl))]
      · have h2 : a[k] = b[k] := by simpa using h2
        rw [List.take_succ_eq_append_getElem hlt, List.take_succ_eq_append_getElem (by omega), ht, h2]
    · have : k = a.length := by have := dec_ge h; omega
      subst this
      rw [List.take_length] at ht
      rw [ht, he, List.take_length]
  intro (i : Int) (h : a = b)
  refine tr_vc hsp mixed _ _ ?_
  refine vcx (X := ((true, ()) = outSame (a, b, ()))) (by kernel_rfl) ?_
  show _ = (sameF a b, ())
  rw [sameF, decide_eq_true h]
noncomputable def spSame : Nat × Eng.Spec := (30, fnSpec [.sl (.int .u8), .sl (.int .u8)] [.val .bool] preSame outSame)
end Go.Proofs.Ytlhgcbmanifpiaa.ref01
namespace Go.Proofs.Ytlhgcbmanifpiaa.deal
set_option maxRecDepth 100000
open Go Go.Eng Go.RowKit Cr Go.Proofs.Ytlhgcbmanifpiaa Go.Proofs.Ytlhgcbmanifpiaa.law22 Go.Proofs.Ytlhgcbmanifpiaa.poly Go.Proofs.Ytlhgcbmanifpiaa.codec
theorem wrF_cons (p : Fp × Fp) (ps : List (Fp × Fp)) : wrF (p :: ps) = os1 p ++ wrF ps := by
  rw [os1_eq, ← g1b_eq]; rfl
theorem pcs_wr : ∀ (ps : List (Fp × Fp)) (i : Nat), i < ps.length → pcs (wrF ps) i = os1 (ps.getD i (0, 0))
  | [], i, h => absurd h (Nat.not_lt_zero _)
  | p :: ps, 0, _ => by
    rw [wrF_cons, pcs, Nat.mul_zero, List.drop_zero, List.take_append_of_le_length (by rw [os1_len]; exact Nat.le_refl _), os1_take]; rfl
  | p :: ps, i + 1, h => by
    have ih := pcs_wr ps i (by simpa using h)
    rw [wrF_cons, pcs, show 48 * (i + 1) = (os1 p).length + 48 * i by rw [os1_len]; omega, ← List.drop_drop, List.drop_left]
    exact ih
theorem errK_zero {b : List Int} : ∀ {k : Nat}, (∀ i, i < k → (or1 (pcs b i)).2 = 0) → errK b k = 0
  | 0, _ => rfl
  | k + 1, h => by
    rw [errK, if_pos (errK_zero fun i hi => h i (by omega))]
    exact h k (by omega)
theorem or_wr {ps : List (Fp × Fp)} (hs : ∀ p ∈ ps, g1.Sub p) {i : Nat} (h : i < ps.length) : or1 (pcs (wrF ps) i) = (ps.getD i (0, 0), 0) := by
  rw [pcs_wr ps i h]
  refine or_os1 (hs _ ?_)
  rw [List.getD_eq_getElem?_getD, List.getElem?_eq_getElem h, Option.getD_some]
  exact List.getElem_mem h
theorem err_wr {ps : List (Fp × Fp)} (hs : ∀ p ∈ ps, g1.Sub p) : errK (wrF ps) ps.length = 0 := errK_zero fun i hi => by rw [or_wr hs hi]
theorem ext_getD {l m : List (Fp × Fp)} (hl : l.length = m.length) (h : ∀ i, i < l.length → l.getD i (0, 0) = m.getD i (0, 0)) : l = m := by
  refine List.ext_getElem hl fun i h1 h2 => ?_
  have := h i h1
  rwa [List.getD_eq_getElem?_getD, List.getElem?_eq_getElem h1, Option.getD_some, List.getD_eq_getElem?_getD, List.getElem?_eq_getElem h2, Option.getD_some] at this
theorem ptK_getD (b : List Int) {k i : Nat} (h : i < k) : (ptK b k).getD i (0, 0) = (or1 (pcs b i)).1 := by
  rw [ptK, List.getD_eq_getElem?_getD, List.getElem?_map, List.getElem?_range h]; rfl
theorem pt_wr {ps : List (Fp × Fp)} (hs : ∀ p ∈ ps, g1.Sub p) : ptK (wrF ps) ps.length = ps := by
  refine ext_getD (ptK_len _ _) fun i hi => ?_
  rw [ptK_len] at hi
  rw [ptK_getD _ hi, or_wr hs hi]
/-- One byte changed: its piece alone. -/
theorem pcs_set_ne (b : List Int) {t i : Nat} (v : Int) (h : t / 48 ≠ i) : pcs (b.set t v) i = pcs b i := by
  refine List.ext_getElem? fun j => ?_
  rw [pcs, pcs, List.getElem?_take, List.getElem?_take]
  by_cases hj : j < 48
  · rw [if_pos hj, if_pos hj, List.getElem?_drop, List.getElem?_drop, List.getElem?_set_ne (by omega)]
  · rw [if_neg hj, if_neg hj]
theorem pcs_set_eq (b : List Int) (t : Nat) (v : Int) : pcs (b.set t v) (t / 48) = (pcs b (t / 48)).set (t % 48) v := by
  refine List.ext_getElem? fun j => ?_
  rw [pcs, pcs, List.getElem?_take]
  by_cases hj : j < 48
  · rw [if_pos hj, List.getElem?_drop]
    by_cases c : j = t % 48
    · have e : 48 * (t / 48) + j = t := by omega
      rw [e, List.getElem?_set_self', c, List.getElem?_set_self', List.getElem?_take, if_pos (by omega), List.getElem?_drop, show 48 * (t / 48) + t % 48 = t by omega]
    · rw [List.getElem?_set_ne (by omega), List.getElem?_set_ne (by omega), List.getElem?_take, if_pos hj, List.getElem?_drop]
  · rw [if_neg hj, List.getElem?_eq_none]
    rw [List.length_set]
    exact Nat.le_trans (List.length_take_le _ _) (by omega)
/-- What is read where one byte is changed: the error. -/
theorem err_set {ps : List (Fp × Fp)} (hs : ∀ p ∈ ps, g1.Sub p) {t : Nat} (ht : t / 48 < ps.length) (v : Int) : errK ((wrF ps).set t v) ps.length = (or1 (pcs ((wrF ps).set t v) (t / 48))).2 := by
  by_cases hz : (or1 (pcs ((wrF ps).set t v) (t / 48))).2 = 0
  · rw [hz]
    refine errK_zero fun i hi => ?_
    by_cases c : t / 48 = i
    · rw [← c, hz]
    · rw [pcs_set_ne _ _ c, or_wr hs hi]
  · have h1 : errK ((wrF ps).set t v) (t / 48) = 0 := errK_zero fun i hi => by rw [pcs_set_ne _ _ (by omega), or_wr hs (by omega)]
    have h2 : errK ((wrF ps).set t v) (t / 48 + 1) = (or1 (pcs ((wrF ps).set t v) (t / 48))).2 := by rw [errK, if_pos h1]
    rw [← h2]
    exact errK_le ht (by rw [h2]; exact hz)
theorem pt_set {ps : List (Fp × Fp)} (hs : ∀ p ∈ ps, g1.Sub p) {t : Nat} (v : Int) {i : Nat} (hi : i < ps.length) : (ptK ((wrF ps).set t v) ps.length).getD i (0, 0) = if t / 48 = i then (or1 (pcs ((wrF ps).set t v) (t / 48))).1 else ps.getD i (0, 0) := by
  rw [ptK_getD _ hi]
  by_cases c : t / 48 = i
  · rw [if_pos c, c]
  · rw [if_neg c, pcs_set_ne _ _ c, or_wr hs hi]
/-- Another form is another point. -/
theorem other_form {p : Fp × Fp} {b : List Int} (hb : Bs b) (hl : b.length = 48) (h0 : (or1 b).2 = 0) (hne : b ≠ os1 p) : (or1 b).1 ≠ p := by
  intro c
  have := frm1_ok.one_form hb (p := (or1 b).1) (by rw [← or1_eq, ← h0])
  exact hne (by rw [← c, os1_eq]; exact (this.2.2.1 hl).symm)
theorem set_BsAt {b : List Int} (h : Bs b) {t : Nat} {x : Int} (hx : 0 ≤ x ∧ x < 256) : Bs (b.set t x) := by
  intro y hy
  rcases List.mem_or_eq_of_mem_set hy with hy | hy
  · exact h y hy
  · rw [hy]; exact hx
theorem xor1_fin : ∀ x : Fin 256, bitOp .xor .u8 ((x.val : Nat) : Int) 1 ≠ ((x.val : Nat) : Int) := by decide +kernel
theorem xor1_ne {x : Int} (h0 : 0 ≤ x) (h1 : x < 256) : bitOp .xor .u8 x 1 ≠ x := by
  obtain ⟨n, rfl⟩ := Int.eq_ofNat_of_zero_le h0
  exact xor1_fin ⟨n, by omega⟩
theorem wrF_Bs (ps : List (Fp × Fp)) : Bs (wrF ps) := by
  induction ps with
  | nil => intro x hx; exact absurd hx (by simp [wrF])
  | cons p ps ih =>
    intro x hx
    rw [wrF_cons] at hx
    rcases List.mem_append.1 hx with c | c
    · exact (os1_pre p).1 x c
    · exact ih x c
/-- What Read answers where one byte is changed. -/
theorem rd_set {d : List Int} {need : Int} {O : List (Fp × Fp)} {fm : Int} {ps : List (Fp × Fp)} (hs : ∀ p ∈ ps, g1.Sub p) (hfd : fm ∈ d) (hn : ((ps.length : Nat) : Int) = need) {t : Nat} (ht : t / 48 < ps.length) (hO : O = [] ∨ ps.getD 0 (0, 0) = catF fm O)
    {v : Int} (hvb : 0 ≤ v ∧ v < 256) (hv : v ≠ (wrF ps).getD t 0) :
    ((or1 (pcs ((wrF ps).set t v) (t / 48))).2 ≠ 0 → rdF d need O fm ((wrF ps).set t v) = ([], (or1 (pcs ((wrF ps).set t v) (t / 48))).2)) ∧
    ((or1 (pcs ((wrF ps).set t v) (t / 48))).2 = 0 → (O = [] ∨ t / 48 ≠ 0) → rdF d need O fm ((wrF ps).set t v) = (ptK ((wrF ps).set t v) ps.length, 0)) ∧
    ((or1 (pcs ((wrF ps).set t v) (t / 48))).2 = 0 → O ≠ [] → t / 48 = 0 → rdF d need O fm ((wrF ps).set t v) = ([], 31)) := by
  have hl : ((wrF ps).set t v).length = 48 * ps.length := by rw [List.length_set, wrF_len]
  have er : rdF d need O fm ((wrF ps).set t v) = if errK ((wrF ps).set t v) ps.length = 0 then
        if O = [] ∨ (1 ≤ ps.length ∧ (ptK ((wrF ps).set t v) ps.length).getD 0 (0, 0) = catF fm O) then (ptK ((wrF ps).set t v) ps.length, 0) else ([], 31)
      else ([], errK ((wrF ps).set t v) ps.length) := by
    rw [rdF, if_pos hfd, if_pos ⟨by omega, by omega⟩, show ((wrF ps).set t v).length / 48 = ps.length by omega]
  rw [err_set hs ht] at er
  refine ⟨fun h => by rw [er, if_neg h], fun h ho => ?_, fun h ho hq => ?_⟩
  · rw [er, if_pos h, if_pos]
    rcases ho with ho | ho
    · exact .inl ho
    · rcases hO with hO | hO
      · exact .inl hO
      · exact .inr ⟨by omega, by rw [pt_set hs v (by omega), if_neg ho, hO]⟩
  · rw [er, if_pos h, if_neg]
    rintro (c | ⟨_, c⟩)
    · exact ho c
    · rw [pt_set hs v (by omega), if_pos hq, ← hO.resolve_left ho] at c
      have hpc : pcs (wrF ps) (t / 48) = os1 (ps.getD 0 (0, 0)) := by rw [pcs_wr ps _ ht, hq]
      refine other_form ?_ ?_ h ?_ c
      · rw [pcs_set_eq]
        intro x hx
        rcases List.mem_or_eq_of_mem_set hx with hx | hx
        · exact wrF_Bs ps x (List.mem_of_mem_drop (List.mem_of_mem_take hx))
        · rw [hx]; exact hvb
      · rw [pcs_set_eq, List.length_set, hpc, os1_len]
      · rw [pcs_set_eq, ← hpc]
        intro e
        have e := congrArg (fun l => l[t % 48]?) e
        have hlt : t % 48 < (pcs (wrF ps) (t / 48)).length := by rw [hpc, os1_len]; omega
        simp only [List.getElem?_set_self hlt] at e
        rw [pcs, List.getElem?_take, if_pos (by omega), List.getElem?_drop, show 48 * (t / 48) + t % 48 = t by omega] at e
        exact hv (by rw [List.getD_eq_getElem?_getD, ← e, Option.getD_some])
end Go.Proofs.Ytlhgcbmanifpiaa.deal
