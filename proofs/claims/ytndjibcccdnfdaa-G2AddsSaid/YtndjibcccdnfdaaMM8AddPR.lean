/- g2: the group; scalars. -/
import Derived.Test.YtndjibcccdnfdaaMM8AddPQ
/- Contracts of package fp2. -/
namespace Go.Proofs.Ytndjibcccdnfdaa.fp2
set_option maxRecDepth 100000
open Go Go.Eng Go.RowKit Cr Go.Proofs.Ytndjibcccdnfdaa
abbrev f2 : Kd := .pair .fp .fp
theorem eqF2 (a b : F2) : eqC (.pair .fp .fp) a b = decide (a = b) := by
  have h := eqC_iff (e := .pair .fp .fp) a b
  rw [Bool.eq_iff_iff, h, decide_eq_true_iff]

theorem ent_small : enters Try.prog 77 Try.f77 := enters_mk (by kernel_rfl) (by kernel_rfl) (by kernel_rfl)
noncomputable abbrev outSmall : HL [.int .u64, .int .u64] → HO [.val f2] := fun (a, b, _) => ((zm a, zm b), ())
theorem fn_small : FnOk Try.prog 77 [.int .u64, .int .u64] [.val f2] noG (fun (a, b, _) => U64 a ∧ U64 b) outSmall := by
  refine fn_of_vc (sp := sps [fp.spOf]) (sps_cons (fnSpec_ok fp.fn_of) sps_nil) mixed ent_small (by decide) (by decide) ?_
  rintro w M0 ⟨a, b, ⟨⟩⟩
  revert a b
  intro (a : Int) (b : Int) _ hp
  refine vcx (X := (U64 a ∧ U64 b ∧ ((zmp a, zmp b), ()) = outSmall (a, b, ()))) (by kernel_rfl) ?_
  exact ⟨hp.1, hp.2, rfl⟩
noncomputable def spSmall : Nat × Eng.Spec := (77, fnSpec [.int .u64, .int .u64] [.val f2] (fun (a, b, _) => U64 a ∧ U64 b) outSmall)

theorem ent_zero : enters Try.prog 89 Try.f89 := enters_mk (by kernel_rfl) (by kernel_rfl) (by kernel_rfl)
noncomputable abbrev outZero : HL [f2] → HO [.val .bool] := fun (x, _) => (decide ((x : F2) = 0), ())
theorem fn_zero : FnOk Try.prog 89 [f2] [.val .bool] noG (fun _ => True) outZero := by
  refine fn_of_vc (sp := sps []) sps_nil mixed ent_zero (by decide) (by decide) ?_
  rintro w M0 ⟨x, ⟨⟩⟩
  revert x
  intro (x : F2) _ _
  refine vcx (X := ((eqC (Kd.fp.pair Kd.fp) x ((0 : Fp), (0 : Fp)), ()) = outZero (x, ()))) (by kernel_rfl) ?_
  rw [eqF2]; rfl
noncomputable def spZero : Nat × Eng.Spec := (89, fnSpec [f2] [.val .bool] (fun _ => True) outZero)

theorem ent_add : enters Try.prog 33 Try.f33 := enters_mk (by kernel_rfl) (by kernel_rfl) (by kernel_rfl)
noncomputable abbrev outAdd : HL [f2, f2] → HO [.val f2] := fun (x, y, _) => ((x : F2) + y, ())
theorem fn_add : FnOk Try.prog 33 [f2, f2] [.val f2] noG (fun _ => True) outAdd := by
  refine fn_of_vc (sp := sps [fp.spAdd]) (sps_cons (fnSpec_ok fp.fn_add) sps_nil) mixed ent_add (by decide) (by decide) ?_
  rintro w M0 ⟨x, y, ⟨⟩⟩
  revert x y
  intro (x : F2) (y : F2) _ _
  refine vcx (X := (True ∧ True ∧ ((x.fst + y.fst, x.snd + y.snd), ()) = outAdd (x, y, ()))) (by kernel_rfl) ?_
  exact ⟨trivial, trivial, by show _ = ((x : F2) + y, ()); rw [F2.add_def]⟩
noncomputable def spAdd : Nat × Eng.Spec := (33, fnSpec [f2, f2] [.val f2] (fun _ => True) outAdd)

theorem ent_sub : enters Try.prog 90 Try.f90 := enters_mk (by kernel_rfl) (by kernel_rfl) (by kernel_rfl)
noncomputable abbrev outSub : HL [f2, f2] → HO [.val f2] := fun (x, y, _) => ((x : F2) - y, ())
theorem fn_sub : FnOk Try.prog 90 [f2, f2] [.val f2] noG (fun _ => True) outSub := by
  refine fn_of_vc (sp := sps [fp.spSub]) (sps_cons (fnSpec_ok fp.fn_sub) sps_nil) mixed ent_sub (by decide) (by decide) ?_
  rintro w M0 ⟨x, y, ⟨⟩⟩
  revert x y
  intro (x : F2) (y : F2) _ _
  refine vcx (X := (True ∧ True ∧ ((x.fst - y.fst, x.snd - y.snd), ()) = outSub (x, y, ()))) (by kernel_rfl) ?_
  exact ⟨trivial, trivial, by show _ = ((x : F2) - y, ()); rw [F2.sub_def]⟩
noncomputable def spSub : Nat × Eng.Spec := (90, fnSpec [f2, f2] [.val f2] (fun _ => True) outSub)

theorem ent_neg : enters Try.prog 80 Try.f80 := enters_mk (by kernel_rfl) (by kernel_rfl) (by kernel_rfl)
noncomputable abbrev outNeg : HL [f2] → HO [.val f2] := fun (x, _) => (-(x : F2), ())
theorem fn_neg : FnOk Try.prog 80 [f2] [.val f2] noG (fun _ => True) outNeg := by
  refine fn_of_vc (sp := sps [fp.spNeg]) (sps_cons (fnSpec_ok fp.fn_neg) sps_nil) mixed ent_neg (by decide) (by decide) ?_
  rintro w M0 ⟨x, ⟨⟩⟩
  revert x
  intro (x : F2) _ _
  refine vcx (X := (True ∧ True ∧ ((-x.fst, -x.snd), ()) = outNeg (x, ()))) (by kernel_rfl) ?_
  exact ⟨trivial, trivial, by show _ = (-(x : F2), ()); rw [F2.neg_def]⟩
noncomputable def spNeg : Nat × Eng.Spec := (80, fnSpec [f2] [.val f2] (fun _ => True) outNeg)

theorem ent_mul : enters Try.prog 76 Try.f76 := enters_mk (by kernel_rfl) (by kernel_rfl) (by kernel_rfl)
noncomputable abbrev outMul : HL [f2, f2] → HO [.val f2] := fun (x, y, _) => ((x : F2) * y, ())
theorem fn_mul : FnOk Try.prog 76 [f2, f2] [.val f2] noG (fun _ => True) outMul := by
  refine fn_of_vc (sp := sps [fp.spAdd, fp.spSub, fp.spMul]) (sps_cons (fnSpec_ok fp.fn_add) (sps_cons (fnSpec_ok fp.fn_sub) (sps_cons (fnSpec_ok fp.fn_mul) sps_nil))) mixed ent_mul (by decide) (by decide) ?_
  rintro w M0 ⟨x, y, ⟨⟩⟩
  revert x y
  intro (x : F2) (y : F2) _ _
  refine vcx (X := (True ∧ True ∧ True ∧ True ∧ True ∧ True ∧ True ∧ True ∧ ((x.fst * y.fst - x.snd * y.snd, (x.fst + x.snd) * (y.fst + y.snd) - x.fst * y.fst - x.snd * y.snd), ()) = outMul (x, y, ()))) (by kernel_rfl) ?_
  refine ⟨trivial, trivial, trivial, trivial, trivial, trivial, trivial, trivial, ?_⟩
  show _ = ((x : F2) * y, ())
  rw [F2.mul_def, f2_kar]
noncomputable def spMul : Nat × Eng.Spec := (76, fnSpec [f2, f2] [.val f2] (fun _ => True) outMul)

theorem ent_square : enters Try.prog 75 Try.f75 := enters_mk (by kernel_rfl) (by kernel_rfl) (by kernel_rfl)
noncomputable abbrev outSquare : HL [f2] → HO [.val f2] := fun (x, _) => ((x : F2) * x, ())
theorem fn_square : FnOk Try.prog 75 [f2] [.val f2] noG (fun _ => True) outSquare := by
  refine fn_of_vc (sp := sps [fp.spAdd, fp.spSub, fp.spMul]) (sps_cons (fnSpec_ok fp.fn_add) (sps_cons (fnSpec_ok fp.fn_sub) (sps_cons (fnSpec_ok fp.fn_mul) sps_nil))) mixed ent_square (by decide) (by decide) ?_
  rintro w M0 ⟨x, ⟨⟩⟩
  revert x
  intro (x : F2) _ _
  refine vcx (X := (True ∧ True ∧ True ∧ True ∧ True ∧ (((x.fst + x.snd) * (x.fst - x.snd), x.fst * x.snd + x.fst * x.snd), ()) = outSquare (x, ()))) (by kernel_rfl) ?_
  refine ⟨trivial, trivial, trivial, trivial, trivial, ?_⟩
  show _ = ((x : F2) * x, ())
  rw [F2.mul_def, f2_sq1, f2_sq2]
noncomputable def spSquare : Nat × Eng.Spec := (75, fnSpec [f2] [.val f2] (fun _ => True) outSquare)

theorem ent_conj : enters Try.prog 152 Try.f152 := enters_mk (by kernel_rfl) (by kernel_rfl) (by kernel_rfl)
noncomputable abbrev outConj : HL [f2] → HO [.val f2] := fun (x, _) => ((Prod.fst (x : F2), -Prod.snd (x : F2)), ())
theorem fn_conj : FnOk Try.prog 152 [f2] [.val f2] noG (fun _ => True) outConj := by
  refine fn_of_vc (sp := sps [fp.spNeg]) (sps_cons (fnSpec_ok fp.fn_neg) sps_nil) mixed ent_conj (by decide) (by decide) ?_
  rintro w M0 ⟨x, ⟨⟩⟩
  revert x
  intro (x : F2) _ _
  refine vcx (X := (True ∧ ((x.fst, -x.snd), ()) = outConj (x, ()))) (by kernel_rfl) ?_
  exact ⟨trivial, rfl⟩
noncomputable def spConj : Nat × Eng.Spec := (152, fnSpec [f2] [.val f2] (fun _ => True) outConj)

theorem ent_scale : enters Try.prog 129 Try.f129 := enters_mk (by kernel_rfl) (by kernel_rfl) (by kernel_rfl)
noncomputable abbrev outScale : HL [f2, .fp] → HO [.val f2] := fun (x, k, _) => ((Prod.fst (x : F2) * k, Prod.snd (x : F2) * k), ())
theorem fn_scale : FnOk Try.prog 129 [f2, .fp] [.val f2] noG (fun _ => True) outScale := by
  refine fn_of_vc (sp := sps [fp.spMul]) (sps_cons (fnSpec_ok fp.fn_mul) sps_nil) mixed ent_scale (by decide) (by decide) ?_
  rintro w M0 ⟨x, k, ⟨⟩⟩
  revert x k
  intro (x : F2) (k : Fp) _ _
  refine vcx (X := (True ∧ True ∧ ((x.fst * k, x.snd * k), ()) = outScale (x, k, ()))) (by kernel_rfl) ?_
  exact ⟨trivial, trivial, rfl⟩
noncomputable def spScale : Nat × Eng.Spec := (129, fnSpec [f2, .fp] [.val f2] (fun _ => True) outScale)

theorem ent_norm : enters Try.prog 128 Try.f128 := enters_mk (by kernel_rfl) (by kernel_rfl) (by kernel_rfl)
noncomputable abbrev outNorm : HL [f2] → HO [.val .fp] := fun (x, _) => (Prod.fst (x : F2) * Prod.fst (x : F2) + Prod.snd (x : F2) * Prod.snd (x : F2), ())
theorem fn_norm : FnOk Try.prog 128 [f2] [.val .fp] noG (fun _ => True) outNorm := by
  refine fn_of_vc (sp := sps [fp.spAdd, fp.spSquare]) (sps_cons (fnSpec_ok fp.fn_add) (sps_cons (fnSpec_ok fp.fn_square) sps_nil)) mixed ent_norm (by decide) (by decide) ?_
  rintro w M0 ⟨x, ⟨⟩⟩
  revert x
  intro (x : F2) _ _
  refine vcx (X := (True ∧ True ∧ True ∧ (x.fst * x.fst + x.snd * x.snd, ()) = outNorm (x, ()))) (by kernel_rfl) ?_
  exact ⟨trivial, trivial, trivial, rfl⟩
noncomputable def spNorm : Nat × Eng.Spec := (128, fnSpec [f2] [.val .fp] (fun _ => True) outNorm)

theorem ent_inv : enters Try.prog 138 Try.f138 := enters_mk (by kernel_rfl) (by kernel_rfl) (by kernel_rfl)
noncomputable abbrev outInv : HL [f2] → HO [.val f2] := fun (x, _) => (inv2 x, ())
theorem fn_inv : FnOk Try.prog 138 [f2] [.val f2] noG (fun _ => True) outInv := by
  refine fn_of_vc (sp := sps [fp.spInv, spConj, spNorm, spScale]) (sps_cons (fnSpec_ok fp.fn_inv) (sps_cons (fnSpec_ok fn_conj) (sps_cons (fnSpec_ok fn_norm) (sps_cons (fnSpec_ok fn_scale) sps_nil)))) mixed ent_inv (by decide) (by decide) ?_
  rintro w M0 ⟨x, ⟨⟩⟩
  revert x
  intro (x : F2) _ _
  refine vcx (X := (True ∧ True ∧ True ∧ True ∧ ((x.fst * fp.zinv (x.fst * x.fst + x.snd * x.snd), -x.snd * fp.zinv (x.fst * x.fst + x.snd * x.snd)), ()) = outInv (x, ()))) (by kernel_rfl) ?_
  refine ⟨trivial, trivial, trivial, trivial, ?_⟩
  show _ = (inv2 x, ())
  rw [inv2_def]; rfl
noncomputable def spInv : Nat × Eng.Spec := (138, fnSpec [f2] [.val f2] (fun _ => True) outInv)

theorem ent_odd : enters Try.prog 83 Try.f83 := enters_mk (by kernel_rfl) (by kernel_rfl) (by kernel_rfl)
noncomputable abbrev outOdd : HL [f2] → HO [.val .bool] := fun (x, _) => (if Prod.fst (x : F2) = 0 then (fp.outOdd (Prod.snd (x : F2), ())).1 else (fp.outOdd (Prod.fst (x : F2), ())).1, ())
theorem fn_odd : FnOk Try.prog 83 [f2] [.val .bool] noG (fun _ => True) outOdd := by
  refine fn_of_vc (sp := sps [fp.spZero, fp.spOdd]) (sps_cons (fnSpec_ok fp.fn_zero) (sps_cons (fnSpec_ok fp.fn_odd) sps_nil)) mixed ent_odd (by decide) (by decide) ?_
  rintro w M0 ⟨x, ⟨⟩⟩
  revert x
  intro (x : F2) _ _
  refine vcx (X := (True ∧ (decide (x.fst = (0 : Zm Mp)) = true → True ∧ (decide (x.snd.v % (2 : Int) = (1 : Int)), ()) = outOdd (x, ())) ∧ (decide (x.fst = (0 : Zm Mp)) = false → True ∧ (decide (x.fst.v % (2 : Int) = (1 : Int)), ()) = outOdd (x, ())))) (by kernel_rfl) ?_
  refine ⟨trivial, fun h => ⟨trivial, ?_⟩, fun h => ⟨trivial, ?_⟩⟩
  · show _ = (if x.1 = 0 then _ else _, ())
    rw [if_pos (of_decide_eq_true h)]
  · show _ = (if x.1 = 0 then _ else _, ())
    rw [if_neg (of_decide_eq_false h)]
noncomputable def spOdd : Nat × Eng.Spec := (83, fnSpec [f2] [.val .bool] (fun _ => True) outOdd)
end Go.Proofs.Ytndjibcccdnfdaa.fp2
/- fp2.Read; g2: number, Gen. -/
namespace Go.Proofs.Ytndjibcccdnfdaa.fp2
set_option maxRecDepth 100000
open Go Go.Eng Go.RowKit Cr Go.Proofs.Ytndjibcccdnfdaa
/-- The number of bytes: b first. -/
def rdF2 (bs : List Int) : F2 × Int := if bs.length = 96 then (if (fp.rdFp (bs.take 48)).2 = 0 then (if (fp.rdFp (bs.drop 48)).2 = 0 then (((fp.rdFp (bs.drop 48)).1, (fp.rdFp (bs.take 48)).1), 0) else ((0, 0), (fp.rdFp (bs.drop 48)).2)) else ((0, 0), (fp.rdFp (bs.take 48)).2)) else ((0, 0), 10)
theorem ent_read : enters Try.prog 74 Try.f74 := enters_mk (by kernel_rfl) (by kernel_rfl) (by kernel_rfl)
abbrev preRead : HL [.sl (.int .u8)] → Prop := fun (bs, _) => Bs bs
abbrev outRead : HL [.sl (.int .u8)] → HO [.val f2, .val (.int .i64)] := fun (bs, _) => ((rdF2 bs).1, (rdF2 bs).2, ())
theorem fn_read : FnOk Try.prog 74 [.sl (.int .u8)] [.val f2, .val (.int .i64)] noG preRead outRead := by
  refine fn_of_vc (sp := sps [fp.spRead]) (sps_cons (fnSpec_ok fp.fn_read) sps_nil) mixed ent_read (by decide) (by decide) ?_
  rintro w M0 ⟨bs, ⟨⟩⟩
  revert bs
  intro (bs : List Int) _ hb
  have hb : Bs bs := hb
  refine vcx (X := ((((↑bs.length : Int) != (96 : Int)) = true → (((0 : Fp), (0 : Fp)), (10 : Int), ()) = outRead (bs, ())) ∧ (((↑bs.length : Int) != (96 : Int)) = false → ((0 : Int) ≤ (48 : Int) ∧ (48 : Int) ≤ (↑bs.length : Int)) ∧ fp.preRead (List.take (48 : Nat) bs, ()) ∧ (((fp.rdFp (List.take (48 : Nat) bs)).snd != (0 : Int)) = true → (((0 : Fp), (0 : Fp)), (fp.rdFp (List.take (48 : Nat) bs)).snd, ()) = outRead (bs, ())) ∧ (((fp.rdFp (List.take (48 : Nat) bs)).snd != (0 : Int)) = false → ((0 : Int) ≤ (48 : Int) ∧ (48 : Int) ≤ (↑bs.length : Int)) ∧ fp.preRead (List.take ((↑bs.length : Int) - (48 : Int)).toNat (List.drop (48 : Nat) bs), ()) ∧ (((fp.rdFp (List.take ((↑bs.length : Int) - (48 : Int)).toNat (List.drop (48 : Nat) bs))).snd != (0 : Int)) = true → (((0 : Fp), (0 : Fp)), (fp.rdFp (List.take ((↑bs.length : Int) - (48 : Int)).toNat (List.drop (48 : Nat) bs))).snd, ()) = outRead (bs, ())) ∧ (((fp.rdFp (List.take ((↑bs.length : Int) - (48 : Int)).toNat (List.drop (48 : Nat) bs))).snd != (0 : Int)) = false → (((fp.rdFp (List.take ((↑bs.length : Int) - (48 : Int)).toNat (List.drop (48 : Nat) bs))).fst, (fp.rdFp (List.take (48 : Nat) bs)).fst), (0 : Int), ()) = outRead (bs, ())))))) (by kernel_rfl) ?_
  refine ⟨fun h => ?_, fun h => ?_⟩
  · have hl : ¬ bs.length = 96 := by simp at h; omega
    show _ = ((rdF2 bs).1, (rdF2 bs).2, ())
    rw [rdF2, if_neg hl]
  have hl : bs.length = 96 := by simp at h; omega
  have e1 : List.take ((bs.length : Int) - 48).toNat (List.drop 48 bs) = bs.drop 48 := List.take_of_length_le (by simp; omega)
  rw [e1]
  refine ⟨⟨by omega, by omega⟩, fun x hx => hb x (List.mem_of_mem_take hx), fun h2 => ?_, fun h2 => ⟨⟨by omega, by omega⟩, fun x hx => hb x (List.mem_of_mem_drop hx), fun h3 => ?_, fun h3 => ?_⟩⟩
  · have h2 : ¬ (fp.rdFp (bs.take 48)).2 = 0 := by simpa using h2
    show _ = ((rdF2 bs).1, (rdF2 bs).2, ())
    rw [rdF2, if_pos hl, if_neg h2]
  · have h2 : (fp.rdFp (bs.take 48)).2 = 0 := by simpa using h2
    have h3 : ¬ (fp.rdFp (bs.drop 48)).2 = 0 := by simpa using h3
    show _ = ((rdF2 bs).1, (rdF2 bs).2, ())
    rw [rdF2, if_pos hl, if_pos h2, if_neg h3]
  · have h2 : (fp.rdFp (bs.take 48)).2 = 0 := by simpa using h2
    have h3 : (fp.rdFp (bs.drop 48)).2 = 0 := by simpa using h3
    show _ = ((rdF2 bs).1, (rdF2 bs).2, ())
    rw [rdF2, if_pos hl, if_pos h2, if_pos h3]
noncomputable def spRead : Nat × Eng.Spec := (74, fnSpec [.sl (.int .u8)] [.val f2, .val (.int .i64)] preRead outRead)
end Go.Proofs.Ytndjibcccdnfdaa.fp2
namespace Go.Proofs.Ytndjibcccdnfdaa.g2
set_option maxRecDepth 100000
open Go Go.Eng Go.RowKit Cr Go.Proofs.Ytndjibcccdnfdaa Go.Proofs.Ytndjibcccdnfdaa.fp2
/-- Points of the second curve: (0, 0) is infinity. -/
abbrev pt2 : Kd := .pair f2 f2
theorem ent_number : enters Try.prog 84 Try.f84 := enters_mk (by kernel_rfl) (by kernel_rfl) (by kernel_rfl)
abbrev outNumber : HL [.str] → HO [.val f2] := fun (s, _) => ((fp2.rdF2 (sbytes s)).1, ())
theorem fn_number : FnOk Try.prog 84 [.str] [.val f2] noG (fun _ => True) outNumber := by
  refine fn_of_vc (sp := sps [fp2.spRead]) (sps_cons (fnSpec_ok fp2.fn_read) sps_nil) mixed ent_number (by decide) (by decide) ?_
  rintro w M0 ⟨s, ⟨⟩⟩ _ _
  refine vcx (X := (0 + s.size ≤ s.size ∧ fp2.preRead ((sbytes s).take s.size, ()) ∧ ((fp2.rdF2 ((sbytes s).take s.size)).1, ()) = outNumber (s, ()))) (by kernel_rfl) ?_
  rw [List.take_of_length_le (by rw [sbytes_len]; exact Nat.le_refl _)]
  exact ⟨by omega, sbytes_Bs s, rfl⟩
noncomputable def spNumber : Nat × Eng.Spec := (84, fnSpec [.str] [.val f2] (fun _ => True) outNumber)

def gxA : Nat := 0x024aa2b2f08f0a91260805272dc51051c6e47ad4fa403b02b4510b647ae3d1770bac0326a805bbefd48056c8c121bdb8
def gxB : Nat := 0x13e02b6052719f607dacd3a088274f65596bd0d09920b61ab5da61bbdc7f5049334cf11213945d57e5ac7d055d042b7e
def gyA : Nat := 0x0ce5d527727d6e118cc9cdc6da2e351aadfd9baa8cbdd3a76d429a695160d12c923ac9cc3baca289e193548608b82801
def gyB : Nat := 0x0606c4a02ea734cc32acd2b02bc28b99cb3e287e85a763af267492ab572e99ab3f370d275cec1da1aaa9075ff05f79be
def gx : F2 := (zm (gxA : Int), zm (gxB : Int))
def gy : F2 := (zm (gyA : Int), zm (gyB : Int))
theorem ent_gen : enters Try.prog 18 Try.f18 := enters_mk (by kernel_rfl) (by kernel_rfl) (by kernel_rfl)
abbrev outGen : HL [] → HO [.val pt2] := fun _ => ((gx, gy), ())
theorem fn_gen : FnOk Try.prog 18 [] [.val pt2] noG (fun _ => True) outGen := by
  refine fn_of_vc (sp := sps [spNumber]) (sps_cons (fnSpec_ok fn_number) sps_nil) mixed ent_gen (by decide) (by decide) ?_
  rintro w M0 ⟨⟩ _ _
  exact vcx (X := (True ∧ True ∧ (((gx, gy), ()) : (F2 × F2) × Unit) = outGen ())) (by kernel_rfl) ⟨trivial, trivial, rfl⟩
noncomputable def spGen : Nat × Eng.Spec := (18, fnSpec [] [.val pt2] (fun _ => True) outGen)
end Go.Proofs.Ytndjibcccdnfdaa.g2
/- g2: points without a division. -/
namespace Go.Proofs.Ytndjibcccdnfdaa.g2
set_option maxRecDepth 100000
open Go Go.Eng Go.RowKit Cr Go.Proofs.Ytndjibcccdnfdaa Go.Proofs.Ytndjibcccdnfdaa.fp2
abbrev bk : Kd := .pair f2 (.pair f2 f2)
theorem eqP2 (a b : F2 × F2) : eqC (.pair (.pair .fp .fp) (.pair .fp .fp)) a b = decide (a = b) := by
  have h := eqC_iff (e := .pair (.pair .fp .fp) (.pair .fp .fp)) a b
  rw [Bool.eq_iff_iff, h, decide_eq_true_iff]

theorem ent_lift : enters Try.prog 94 Try.f94 := enters_mk (by kernel_rfl) (by kernel_rfl) (by kernel_rfl)
noncomputable abbrev outLift : HL [pt2] → HO [.val bk] := fun (p, _) => (jlift (F := F2) p, ())
theorem fn_lift : FnOk Try.prog 94 [pt2] [.val bk] noG (fun _ => True) outLift := by
  refine fn_of_vc (sp := sps [fp2.spSmall]) (sps_cons (fnSpec_ok fp2.fn_small) sps_nil) mixed ent_lift (by decide) (by decide) ?_
  rintro w M0 ⟨p, ⟨⟩⟩
  revert p
  intro (p : F2 × F2) _ _
  refine vcx (X := ((eqC ((Kd.fp.pair Kd.fp).pair (Kd.fp.pair Kd.fp)) p (((0 : Fp), (0 : Fp)), (0 : Fp), (0 : Fp)) = true → ((((0 : Fp), (0 : Fp)), ((0 : Fp), (0 : Fp)), (0 : Fp), (0 : Fp)), ()) = outLift (p, ())) ∧ (eqC ((Kd.fp.pair Kd.fp).pair (Kd.fp.pair Kd.fp)) p (((0 : Fp), (0 : Fp)), (0 : Fp), (0 : Fp)) = false → (U64 (1 : Int) ∧ U64 (0 : Int)) ∧ ((p.fst, p.snd, zmp (1 : Int), zmp (0 : Int)), ()) = outLift (p, ())))) (by kernel_rfl) ?_
  rw [eqP2]
  refine ⟨fun h => ?_, fun h => ⟨⟨by constructor <;> decide, by constructor <;> decide⟩, ?_⟩⟩
  · show _ = (jlift p, ())
    unfold jlift
    rw [if_pos (show p = O2 from of_decide_eq_true h)]; rfl
  · show _ = (jlift p, ())
    unfold jlift
    rw [if_neg (show ¬ p = O2 from of_decide_eq_false h)]; rfl
noncomputable def spLift : Nat × Eng.Spec := (94, fnSpec [pt2] [.val bk] (fun _ => True) outLift)

theorem ent_point : enters Try.prog 95 Try.f95 := enters_mk (by kernel_rfl) (by kernel_rfl) (by kernel_rfl)
noncomputable abbrev outPoint : HL [bk] → HO [.val pt2] := fun (a, _) => (jpoint (F := F2) a, ())
theorem fn_point : FnOk Try.prog 95 [bk] [.val pt2] noG (fun _ => True) outPoint := by
  refine fn_of_vc (sp := sps [fp2.spZero, fp2.spInv, fp2.spSquare, fp2.spMul]) (sps_cons (fnSpec_ok fp2.fn_zero) (sps_cons (fnSpec_ok fp2.fn_inv) (sps_cons (fnSpec_ok fp2.fn_square) (sps_cons (fnSpec_ok fp2.fn_mul) sps_nil)))) mixed ent_point (by decide) (by decide) ?_
  rintro w M0 ⟨a, ⟨⟩⟩
  revert a
  intro (a : F2 × F2 × F2) _ _
  refine vcx (X := (True ∧ (decide (a.2.2 = 0) = true → (((0 : F2), (0 : F2)), ()) = outPoint (a, ())) ∧ (decide (a.2.2 = 0) = false → Trs 5 (((a.1 * (inv2 a.2.2 * inv2 a.2.2), a.2.1 * (inv2 a.2.2 * inv2 a.2.2) * inv2 a.2.2), ()) = outPoint (a, ()))))) (by kernel_rfl) ?_
  refine ⟨trivial, fun h => ?_, fun h => trs ?_ _⟩
  · show _ = (jpoint a, ())
    unfold jpoint
    rw [if_pos (of_decide_eq_true h)]
  · show _ = (jpoint a, ())
    unfold jpoint
    rw [if_neg (of_decide_eq_false h)]
    rfl
noncomputable def spPoint : Nat × Eng.Spec := (95, fnSpec [bk] [.val pt2] (fun _ => True) outPoint)

theorem ent_double : enters Try.prog 96 Try.f96 := enters_mk (by kernel_rfl) (by kernel_rfl) (by kernel_rfl)
noncomputable abbrev outDouble : HL [bk] → HO [.val bk] := fun (a, _) => (jdbl (F := F2) a, ())
theorem fn_double : FnOk Try.prog 96 [bk] [.val bk] noG (fun _ => True) outDouble := by
  refine fn_of_vc (sp := sps [fp2.spZero, fp2.spAdd, fp2.spSub, fp2.spSquare, fp2.spMul]) (sps_cons (fnSpec_ok fp2.fn_zero) (sps_cons (fnSpec_ok fp2.fn_add) (sps_cons (fnSpec_ok fp2.fn_sub) (sps_cons (fnSpec_ok fp2.fn_square) (sps_cons (fnSpec_ok fp2.fn_mul) sps_nil))))) mixed ent_double (by decide) (by decide) ?_
  rintro w M0 ⟨a, ⟨⟩⟩
  revert a
  intro (a : F2 × F2 × F2) _ _
  refine vcx (X := (True ∧ (decide (a.2.2 = 0) = true → (((0 : F2), (0 : F2), (0 : F2)), ()) = outDouble (a, ())) ∧ (decide (a.2.2 = 0) = false → Trs 18 ((jdbN a, ()) = outDouble (a, ()))))) (by kernel_rfl) ?_
  refine ⟨trivial, fun h => ?_, fun h => trs ?_ _⟩
  · show _ = (jdbl a, ())
    unfold jdbl
    rw [if_pos (of_decide_eq_true h)]
  · show _ = (jdbl a, ())
    unfold jdbl
    rw [if_neg (of_decide_eq_false h)]
noncomputable def spDouble : Nat × Eng.Spec := (96, fnSpec [bk] [.val bk] (fun _ => True) outDouble)

theorem ent_add : enters Try.prog 93 Try.f93 := enters_mk (by kernel_rfl) (by kernel_rfl) (by kernel_rfl)
noncomputable abbrev outAdd : HL [bk, bk] → HO [.val bk] := fun (a, b, _) => (jadd (F := F2) a b, ())
noncomputable abbrev wd (a b : F2 × F2 × F2) : F2 := b.1 * (a.2.2 * a.2.2) - a.1 * (b.2.2 * b.2.2)
noncomputable abbrev rs (a b : F2 × F2 × F2) : F2 := b.2.1 * (a.2.2 * a.2.2) * a.2.2 - a.2.1 * (b.2.2 * b.2.2) * b.2.2
theorem fn_add : FnOk Try.prog 93 [bk, bk] [.val bk] noG (fun _ => True) outAdd := by
  refine fn_of_vc (sp := sps [fp2.spZero, fp2.spSub, fp2.spSquare, fp2.spMul, spDouble]) (sps_cons (fnSpec_ok fp2.fn_zero) (sps_cons (fnSpec_ok fp2.fn_sub) (sps_cons (fnSpec_ok fp2.fn_square) (sps_cons (fnSpec_ok fp2.fn_mul) (sps_cons (fnSpec_ok fn_double) sps_nil))))) mixed ent_add (by decide) (by decide) ?_
  rintro w M0 ⟨a, b, ⟨⟩⟩
  revert a b
  intro (a : F2 × F2 × F2) (b : F2 × F2 × F2) _ _
  refine vcx (X := (True ∧ (decide (a.2.2 = 0) = true → (b, ()) = outAdd (a, b, ())) ∧ (decide (a.2.2 = 0) = false → True ∧ (decide (b.2.2 = 0) = true → (a, ()) = outAdd (a, b, ())) ∧ (decide (b.2.2 = 0) = false →
    Trs 11 ((decide (wd a b = 0) = true → True ∧ (decide (rs a b = 0) = true → True ∧ (jdbl (F := F2) a, ()) = outAdd (a, b, ())) ∧ (decide (rs a b = 0) = false → (((0 : F2), (0 : F2), (0 : F2)), ()) = outAdd (a, b, ()))) ∧
      (decide (wd a b = 0) = false → Trs 13 ((jfin (F := F2) (wd a b) (rs a b) (a.1 * (b.2.2 * b.2.2)) (a.2.1 * (b.2.2 * b.2.2) * b.2.2) a.2.2 b.2.2, ()) = outAdd (a, b, ())))))))) (by kernel_rfl) ?_
  refine ⟨trivial, fun h => ?_, fun h => ⟨trivial, fun h2 => ?_, fun h2 => trs ⟨fun h3 => ⟨trivial, fun h4 => ⟨trivial, ?_⟩, fun h4 => ?_⟩, fun h3 => trs ?_ _⟩ _⟩⟩
  all_goals show _ = (jadd a b, ())
  all_goals unfold jadd
  · rw [if_pos (of_decide_eq_true h)]
  · rw [if_neg (of_decide_eq_false h), if_pos (of_decide_eq_true h2)]
  · rw [if_neg (of_decide_eq_false h), if_neg (of_decide_eq_false h2), if_pos (of_decide_eq_true h3), if_pos (of_decide_eq_true h4)]
  · rw [if_neg (of_decide_eq_false h), if_neg (of_decide_eq_false h2), if_pos (of_decide_eq_true h3), if_neg (of_decide_eq_false h4)]
  · rw [if_neg (of_decide_eq_false h), if_neg (of_decide_eq_false h2), if_neg (of_decide_eq_false h3)]
noncomputable def spAdd : Nat × Eng.Spec := (93, fnSpec [bk, bk] [.val bk] (fun _ => True) outAdd)
end Go.Proofs.Ytndjibcccdnfdaa.g2
/- g2: Sum, Add, Neg, On. -/
namespace Go.Proofs.Ytndjibcccdnfdaa.g2
set_option maxRecDepth 100000
open Go Go.Eng Go.RowKit Cr Go.Proofs.Ytndjibcccdnfdaa Go.Proofs.Ytndjibcccdnfdaa.fp2

abbrev bc (s : F2 × F2 × F2) : List Cell := [.row .fp 1 [s.1.1], .row .fp 1 [s.1.2], .row .fp 1 [s.2.1.1], .row .fp 1 [s.2.1.2], .row .fp 1 [s.2.2.1], .row .fp 1 [s.2.2.2]]
abbrev pc (s : F2 × F2) : List Cell := [.row .fp 1 [s.1.1], .row .fp 1 [s.1.2], .row .fp 1 [s.2.1], .row .fp 1 [s.2.2]]
theorem ent_sum : enters Try.prog 30 Try.f30 := enters_mk (by kernel_rfl) (by kernel_rfl) (by kernel_rfl)
noncomputable def sumI (ps : List (F2 × F2)) (g : Int × (F2 × F2 × F2)) : St := mkSt Try.f30.ntmps 40 [(2, .is (.one (.ptr 0 0))), (3, .is (.one (.ptr 8 0))), (6, .is (.one (.ro pt2 ps))), (7, sI .i64 ps.length), (8, sI .i64 g.1)] [(8, bc g.2), (0, pc (0, 0))]
noncomputable def sumN (ps : List (F2 × F2)) (g : Int × (F2 × F2 × F2)) : Int × (F2 × F2 × F2) := (IntKind.i64.wrap (g.1 + 1), jadd (F := F2) g.2 (jlift (F := F2) (ps.getD g.1.toNat (0, 0))))
abbrev preSum : HL [.sl pt2] → Prop := fun (ps, _) => List.length ps < 4611686018427387904
noncomputable abbrev outSum : HL [.sl pt2] → HO [.val pt2] := fun (ps, _) => (jpoint (F := F2) (jsm ps (List.length ps)), ())
theorem fn_sum : FnOk Try.prog 30 [.sl pt2] [.val pt2] noG preSum outSum := by
  have hsp : SpecsOk Try.prog (sps [spLift, spAdd, spPoint]) := sps_cons (fnSpec_ok fn_lift) (sps_cons (fnSpec_ok fn_add) (sps_cons (fnSpec_ok fn_point) sps_nil))
  refine fn_of_tr (sp := sps [spLift, spAdd, spPoint]) ent_sum (by decide) (by decide) (by kernel_rfl) ?_
  rintro w M0 ⟨ps, ⟨⟩⟩
  revert ps
  intro (ps : List (F2 × F2)) _ hl
  have hl : ps.length < 4611686018427387904 := hl
  show Tr _ _ _ _ _ _ _
  refine tr_cut hsp mixed 3 (sumI ps (0, jsm ps 0)) True ?_ (fun _ => ?_)
  · exact vcx (X := (sumI ps (0, jsm ps 0)).triv True) (by kernel_rfl) (triv_intro trivial)
  refine tr_count hsp mixed (sumI ps) (fun k => ((k : Int), jsm ps k)) ps.length (sumN ps) (sumI ps) (c := nthC (codeOf Try.f30) 3) (by kernel_rfl) (by kernel_rfl) (le_of_proj (by kernel_rfl) (by kernel_rfl) trivial)
    (fun k hk => by show (_, _) = (_, _); rw [wrap_succ (by omega)]; rfl) ?_ ?_
  · intro k hk
    generalize hs : jsm ps k = s
    refine vcx (X := ((decide ((k : Int) < (ps.length : Int)) = true → (0 ≤ (k : Int) ∧ (k : Int) < (ps.length : Int)) ∧ (k : Int).toNat < ps.length ∧ True ∧ True ∧ (sumI ps (sumN ps ((k : Int), s))).triv (k < ps.length)) ∧
      (decide ((k : Int) < (ps.length : Int)) = false → (sumI ps ((k : Int), s)).triv (k = ps.length)))) (by kernel_rfl) ?_
    refine ⟨fun h => ?_, fun h => triv_intro (by have := dec_ge h; omega)⟩
    have hlt : k < ps.length := by have := dec_lt h; omega
    exact ⟨⟨by omega, by omega⟩, by omega, trivial, trivial, triv_intro hlt⟩
  · refine tr_vc hsp mixed _ _ ?_
    exact vcx (X := (True ∧ (jpoint (F := F2) (jsm ps ps.length), ()) = outSum (ps, ()))) (by kernel_rfl) ⟨trivial, rfl⟩
noncomputable def spSum : Nat × Eng.Spec := (30, fnSpec [.sl pt2] [.val pt2] preSum outSum)

theorem ent_padd : enters Try.prog 20 Try.f20 := enters_mk (by kernel_rfl) (by kernel_rfl) (by kernel_rfl)
noncomputable abbrev outPAdd : HL [pt2, pt2] → HO [.val pt2] := fun (p, q, _) => (jpoint (F := F2) (jsm [p, q] 2), ())
theorem fn_padd : FnOk Try.prog 20 [pt2, pt2] [.val pt2] noG (fun _ => True) outPAdd := by
  refine fn_of_vc (sp := sps [spSum]) (sps_cons (fnSpec_ok fn_sum) sps_nil) mixed ent_padd (by decide) (by decide) ?_
  rintro w M0 ⟨p, q, ⟨⟩⟩
  revert p q
  intro (p : F2 × F2) (q : F2 × F2) _ _
  refine vcx (X := ((0 + 2 : Nat) ≤ 2 ∧ preSum ([p, q], ()) ∧ outSum ([p, q], ()) = outPAdd (p, q, ()))) (by kernel_rfl) ?_
  exact ⟨by decide, show (2 : Nat) < 4611686018427387904 by decide, rfl⟩
noncomputable def spPAdd : Nat × Eng.Spec := (20, fnSpec [pt2, pt2] [.val pt2] (fun _ => True) outPAdd)

theorem ent_pneg : enters Try.prog 23 Try.f23 := enters_mk (by kernel_rfl) (by kernel_rfl) (by kernel_rfl)
noncomputable abbrev outPNeg : HL [pt2] → HO [.val pt2] := fun (p, _) => (pneg (F := F2) p, ())
theorem fn_pneg : FnOk Try.prog 23 [pt2] [.val pt2] noG (fun _ => True) outPNeg := by
  refine fn_of_vc (sp := sps [fp2.spNeg]) (sps_cons (fnSpec_ok fp2.fn_neg) sps_nil) mixed ent_pneg (by decide) (by decide) ?_
  rintro w M0 ⟨p, ⟨⟩⟩
  revert p
  intro (p : F2 × F2) _ _
  exact vcx (X := (True ∧ (((p.1, -p.2), ()) = outPNeg (p, ())))) (by kernel_rfl) ⟨trivial, rfl⟩
noncomputable def spPNeg : Nat × Eng.Spec := (23, fnSpec [pt2] [.val pt2] (fun _ => True) outPNeg)

/-- The curve: y^2 = x^3 + 4 + 4 i. -/
def b4 : F2 := (zm 4, zm 4)
theorem ent_on : enters Try.prog 27 Try.f27 := enters_mk (by kernel_rfl) (by kernel_rfl) (by kernel_rfl)
noncomputable def isOn (p : F2 × F2) : Bool := decide (p = ((0 : F2), (0 : F2))) || decide (p.2 * p.2 = p.1 * p.1 * p.1 + b4)
theorem isOn_iff (p : F2 × F2) : isOn p = true ↔ OnP b4 p := by
  unfold isOn OnP On
  simp
noncomputable abbrev outOn : HL [pt2] → HO [.val .bool] := fun (p, _) => (isOn p, ())
theorem fn_on : FnOk Try.prog 27 [pt2] [.val .bool] noG (fun _ => True) outOn := by
  refine fn_of_vc (sp := sps [fp2.spSquare, fp2.spMul, fp2.spSmall, fp2.spAdd]) (sps_cons (fnSpec_ok fp2.fn_square) (sps_cons (fnSpec_ok fp2.fn_mul) (sps_cons (fnSpec_ok fp2.fn_small) (sps_cons (fnSpec_ok fp2.fn_add) sps_nil)))) mixed ent_on (by decide) (by decide) ?_
  rintro w M0 ⟨p, ⟨⟩⟩
  revert p
  intro (p : F2 × F2) _ _
  refine vcx (X := ((eqC ((Kd.fp.pair Kd.fp).pair (Kd.fp.pair Kd.fp)) p (((0 : Fp), (0 : Fp)), (0 : Fp), (0 : Fp)) = true → (true, ()) = outOn (p, ())) ∧ (eqC ((Kd.fp.pair Kd.fp).pair (Kd.fp.pair Kd.fp)) p (((0 : Fp), (0 : Fp)), (0 : Fp), (0 : Fp)) = false → True ∧ True ∧ True ∧ (U64 (4 : Int) ∧ U64 (4 : Int)) ∧ True ∧ (eqC (Kd.fp.pair Kd.fp) (p.snd * p.snd) (p.fst * p.fst * p.fst + (zmp (4 : Int), zmp (4 : Int))), ()) = outOn (p, ())))) (by kernel_rfl) ?_
  rw [eqP2]
  refine ⟨fun h => ?_, fun h => ⟨trivial, trivial, trivial, ⟨by constructor <;> decide, by constructor <;> decide⟩, trivial, ?_⟩⟩
  · show _ = (isOn p, ())
    rw [isOn, show decide (p = ((0 : F2), (0 : F2))) = true from h, Bool.true_or]
  · show _ = (isOn p, ())
    rw [isOn, show decide (p = ((0 : F2), (0 : F2))) = false from h, Bool.false_or, eqF2]
    rfl
noncomputable def spOn : Nat × Eng.Spec := (27, fnSpec [pt2] [.val .bool] (fun _ => True) outOn)
end Go.Proofs.Ytndjibcccdnfdaa.g2
/- g2: Times. -/
namespace Go.Proofs.Ytndjibcccdnfdaa.g2
set_option maxRecDepth 100000
open Go Go.Eng Go.RowKit Cr Go.Proofs.Ytndjibcccdnfdaa Go.Proofs.Ytndjibcccdnfdaa.fp2

abbrev Jp := F2 × F2 × F2
noncomputable def tmI (k : List Int) (o : Jp) (g : Int × List Jp) : St := mkSt Try.f31.ntmps 64 [(1, .is (.one (.ro (.int .u8) k))), (4, .is (.one (.ptr 8 0))), (5, .is (.one (.ptr 16 0))), (6, .is (.one (.ptr 40 0))), (15, sI .i64 g.1)] [(40, bc o), (16, [.row bk 16 g.2]), (8, pc (0, 0))]
noncomputable def tmS (k : List Int) (tb : List Jp) (s : Jp) (nx : Nat) (xs : List (Nat × SV)) : St := mkSt Try.f31.ntmps nx ([(4, .is (.one (.ptr 8 0))), (5, .is (.one (.ptr 16 0))), (8, .is (.one (.ptr 64 0))), (27, .is (.one (.ro (.int .u8) k))), (28, sI .i64 k.length)] ++ xs) [(64, bc s), (16, [.row bk 16 tb]), (8, pc (0, 0))]
noncomputable abbrev tmJ (k : List Int) (tb : List Jp) (g : Int × Jp) : St := tmS k tb g.2 96 [(29, sI .i64 g.1)]
noncomputable abbrev tmK (k : List Int) (tb : List Jp) (i : Int) (ds : List Int) (g : Int × Jp) : St := tmS k tb g.2 168 [(29, sI .i64 i), (37, .is (.agg [.ints .u8 2 ds])), (38, sI .i64 g.1)]
noncomputable abbrev tmL (k : List Int) (tb : List Jp) (i : Int) (ds : List Int) (j d : Int) (g : Int × Jp) : St := tmS k tb g.2 184 [(29, sI .i64 i), (37, .is (.agg [.ints .u8 2 ds])), (38, sI .i64 j), (12, sI .u8 d), (41, sI .i64 g.1)]

theorem ent_times : enters Try.prog 31 Try.f31 := enters_mk (by kernel_rfl) (by kernel_rfl) (by kernel_rfl)
abbrev preTimes : HL [pt2, .sl (.int .u8)] → Prop := fun (_, k, _) => Bs k ∧ List.length k < 4611686018427387904
noncomputable abbrev outTimes : HL [pt2, .sl (.int .u8)] → HO [.val pt2] := fun (p, k, _) => (jpoint (F := F2) (jtm (tabAt (jt (jlift (F := F2) p)) (0, 0, 0) 15) k (List.length k)), ())
theorem fn_times : FnOk Try.prog 31 [pt2, .sl (.int .u8)] [.val pt2] noG preTimes outTimes := by
  have hsp : SpecsOk Try.prog (sps [spLift, spAdd, spPoint, spDouble]) := sps_cons (fnSpec_ok fn_lift) (sps_cons (fnSpec_ok fn_add) (sps_cons (fnSpec_ok fn_point) (sps_cons (fnSpec_ok fn_double) sps_nil)))
  refine fn_of_tr (sp := sps [spLift, spAdd, spPoint, spDouble]) ent_times (by decide) (by decide) (by kernel_rfl) ?_
  rintro w M0 ⟨p, k, ⟨⟩⟩
  revert p k
  intro (p : F2 × F2) (k : List Int) _ hp
  obtain ⟨hk, hl⟩ := hp
  have hk : Bs k := hk
  have hl : k.length < 4611686018427387904 := hl
  show Tr _ _ _ _ _ _ _
  refine tr_cut hsp mixed 4 (tmI k (jlift (F := F2) p) (0, tabAt (jt (jlift (F := F2) p)) (0, 0, 0) 0)) True ?_ (fun _ => ?_)
  · exact vcx (X := (True ∧ (tmI k (jlift (F := F2) p) (0, tabAt (jt (jlift (F := F2) p)) (0, 0, 0) 0)).triv True)) (by kernel_rfl) ⟨trivial, triv_intro trivial⟩
  generalize ho : jlift (F := F2) p = o
  refine tr_count hsp mixed (tmI k o) (fun n => ((n : Int), tabAt (jt o) (0, 0, 0) n)) 15 (fun g => (IntKind.i64.wrap (g.1 + 1), g.2.set (IntKind.i64.wrap (g.1 + 1)).toNat (jadd (F := F2) (g.2.getD g.1.toNat (0, 0, 0)) o))) (tmI k o) (c := nthC (codeOf Try.f31) 4) (by kernel_rfl) (by kernel_rfl) (le_of_proj (by kernel_rfl) (by kernel_rfl) trivial)
    (fun n hn => by
      show (_, _) = (_, _)
      rw [wrap_succ (by omega), Int.toNat_natCast, Int.toNat_natCast, tabAt_get _ _ _ (Nat.le_refl n) (by omega), show jadd (F := F2) (jt o n) o = jt o (n + 1) from rfl, tabAt_set]) ?_ ?_
  · intro n hn
    generalize tabAt (jt o) (0, 0, 0) n = tb
    refine vcx (X := ((decide ((n : Int) < 15) = true → (0 ≤ (n : Int) ∧ (n : Int) < ((16 : Nat) : Int)) ∧ (n : Int).toNat < 16 ∧ True ∧ (0 ≤ IntKind.i64.wrap ((n : Int) + 1) ∧ IntKind.i64.wrap ((n : Int) + 1) < ((16 : Nat) : Int)) ∧ (IntKind.i64.wrap ((n : Int) + 1)).toNat < 16 ∧
        (tmI k o (IntKind.i64.wrap ((n : Int) + 1), tb.set (IntKind.i64.wrap ((n : Int) + 1)).toNat (jadd (F := F2) (tb.getD (n : Int).toNat (0, 0, 0)) o))).triv (n < 15)) ∧
      (decide ((n : Int) < 15) = false → (tmI k o ((n : Int), tb)).triv (n = 15)))) (by kernel_rfl) ?_
    refine ⟨fun h => ?_, fun h => triv_intro (by have := dec_ge h; omega)⟩
    have hlt : n < 15 := by have := dec_lt h; omega
    rw [wrap_succ (by omega)]
    exact ⟨⟨by omega, by omega⟩, by omega, trivial, ⟨by omega, by omega⟩, by omega, triv_intro hlt⟩
  subst ho
  show Tr _ _ _ _ _ _ _
  generalize htb : tabAt (jt (jlift (F := F2) p)) (0, 0, 0) 15 = tb
  refine tr_cut hsp mixed 2 (tmJ k tb (0, jtm tb k 0)) True ?_ (fun _ => ?_)
  · exact vcx (X := (tmJ k tb (0, jtm tb k 0)).triv True) (by kernel_rfl) (triv_intro trivial)
  refine tr_countT (tmJ k tb) (fun i => ((i : Int), jtm tb k i)) k.length (fun g => (IntKind.i64.wrap (g.1 + 1), jby tb g.2 (k.getD g.1.toNat 0))) (tmJ k tb) (c := nthC (codeOf Try.f31) 7) (by kernel_rfl) (by kernel_rfl) (le_of_proj (by kernel_rfl) (by kernel_rfl) trivial)
    (fun i hi => by show (_, _) = (_, _); rw [wrap_succ (by omega), Int.toNat_natCast]; rfl) ?_ ?_
  · intro i hi
    generalize jtm tb k i = s
    refine tr_cut hsp mixed 2 (tmJ k tb ((i : Int), s)) (i < k.length) ?_ (fun hlt => ?_)
    · refine vcx (X := ((decide ((i : Int) < (k.length : Int)) = true → (tmJ k tb ((i : Int), s)).triv (i < k.length)) ∧ (decide ((i : Int) < (k.length : Int)) = false → (tmJ k tb ((i : Int), s)).triv (i = k.length)))) (by kernel_rfl) ?_
      exact ⟨fun h => triv_intro (by have := dec_lt h; omega), fun h => triv_intro (by have := dec_ge h; omega)⟩
    have hb : 0 ≤ k.getD i 0 ∧ k.getD i 0 < 256 := by
      have : k.getD i 0 ∈ k := by rw [List.getD_eq_getElem?_getD, List.getElem?_eq_getElem hlt]; exact List.getElem_mem hlt
      exact hk _ this
    have hbi : k.getD (i : Int).toNat 0 = k.getD i 0 := by rw [Int.toNat_natCast]
    generalize hbb : k.getD i 0 = b at hb hbi
    obtain ⟨_, d1, d2⟩ := dh_ok hb.1 hb.2
    obtain ⟨_, d3, d4⟩ := dl_ok hb.1 hb.2
    refine tr_block (c := nthC (loopOf (nthC (codeOf Try.f31) 7)) 2) (by kernel_rfl) (by kernel_rfl) ?_
    refine tr_cut hsp mixed 2 (tmK k tb (i : Int) [dh (k.getD (i : Int).toNat 0), dl (k.getD (i : Int).toNat 0)] (0, jsd tb [dh b, dl b] s 0)) True ?_ (fun _ => ?_)
    · refine vcx (X := ((0 ≤ (i : Int) ∧ (i : Int) < (k.length : Int)) ∧ (i : Int).toNat < k.length ∧ (0 : Int) ≤ 4 ∧ (tmK k tb (i : Int) [dh (k.getD (i : Int).toNat 0), dl (k.getD (i : Int).toNat 0)] (0, jsd tb [dh b, dl b] s 0)).triv True)) (by kernel_rfl) ?_
      exact ⟨⟨by omega, by omega⟩, by omega, by decide, triv_intro trivial⟩
    rw [hbi]
    generalize hds : [dh b, dl b] = ds
    have hdd : ∀ j, j < 2 → 0 ≤ ds.getD j 0 ∧ ds.getD j 0 < 16 := by
      intro j hj
      subst hds
      match j, hj with
      | 0, _ => exact ⟨d1, d2⟩
      | 1, _ => exact ⟨d3, d4⟩
    refine tr_countT (tmK k tb (i : Int) ds) (fun j => ((j : Int), jsd tb ds s j)) 2 (fun g => (IntKind.i64.wrap (g.1 + 1), jst tb g.2 (ds.getD g.1.toNat 0))) (tmK k tb (i : Int) ds) (c := nthC (bodyOf (nthC (loopOf (nthC (codeOf Try.f31) 7)) 2)) 2) (by kernel_rfl) (by kernel_rfl) (le_of_proj (by kernel_rfl) (by kernel_rfl) trivial)
      (fun j hj => by show (_, _) = (_, _); rw [wrap_succ (by omega), Int.toNat_natCast]; rfl) ?_ ?_
    · intro j hj
      generalize jsd tb ds s j = y
      refine tr_cut hsp mixed 2 (tmK k tb (i : Int) ds ((j : Int), y)) (j < 2) ?_ (fun hj2 => ?_)
      · refine vcx (X := ((decide ((j : Int) < 2) = true → (tmK k tb (i : Int) ds ((j : Int), y)).triv (j < 2)) ∧ (decide ((j : Int) < 2) = false → (tmK k tb (i : Int) ds ((j : Int), y)).triv (j = 2)))) (by kernel_rfl) ?_
        exact ⟨fun h => triv_intro (by have := dec_lt h; omega), fun h => triv_intro (by have := dec_ge h; omega)⟩
      have hd := hdd j hj2
      have hdj : ds.getD (j : Int).toNat 0 = ds.getD j 0 := by rw [Int.toNat_natCast]
      generalize ds.getD j 0 = d at hd hdj
      refine tr_block (c := nthC (loopOf (nthC (bodyOf (nthC (loopOf (nthC (codeOf Try.f31) 7)) 2)) 2)) 2) (by kernel_rfl) (by kernel_rfl) ?_
      refine tr_cut hsp mixed 2 (tmL k tb (i : Int) ds (j : Int) (ds.getD (j : Int).toNat 0) (0, jdn y 0)) True ?_ (fun _ => ?_)
      · refine vcx (X := ((0 ≤ (j : Int) ∧ (j : Int) < ((2 : Nat) : Int)) ∧ (tmL k tb (i : Int) ds (j : Int) (ds.getD (j : Int).toNat 0) (0, jdn y 0)).triv True)) (by kernel_rfl) ?_
        exact ⟨⟨by omega, by omega⟩, triv_intro trivial⟩
      rw [hdj]
      refine tr_count hsp mixed (tmL k tb (i : Int) ds (j : Int) d) (fun n => ((n : Int), jdn y n)) 4 (fun g => (IntKind.i64.wrap (g.1 + 1), jdbl (F := F2) g.2)) (tmL k tb (i : Int) ds (j : Int) d) (c := nthC (bodyOf (nthC (loopOf (nthC (bodyOf (nthC (loopOf (nthC (codeOf Try.f31) 7)) 2)) 2)) 2)) 2) (by kernel_rfl) (by kernel_rfl) (le_of_proj (by kernel_rfl) (by kernel_rfl) trivial)
        (fun n hn => by show (_, _) = (_, _); rw [wrap_succ (by omega)]; rfl) ?_ ?_
      · intro n hn
        generalize jdn y n = z
        refine vcx (X := ((decide ((n : Int) < 4) = true → True ∧ (tmL k tb (i : Int) ds (j : Int) d (IntKind.i64.wrap ((n : Int) + 1), jdbl (F := F2) z)).triv (n < 4)) ∧ (decide ((n : Int) < 4) = false → (tmL k tb (i : Int) ds (j : Int) d ((n : Int), z)).triv (n = 4)))) (by kernel_rfl) ?_
        exact ⟨fun h => ⟨trivial, triv_intro (by have := dec_lt h; omega)⟩, fun h => triv_intro (by have := dec_ge h; omega)⟩
      refine tr_cut hsp mixed 1 (tmK k tb (i : Int) ds ((j : Int), jst tb y d)) True ?_ (fun _ => ?_)
      · refine vcx (X := ((0 ≤ d ∧ d < ((16 : Nat) : Int)) ∧ d.toNat < 16 ∧ True ∧ (tmK k tb (i : Int) ds ((j : Int), jst tb y d)).triv True)) (by kernel_rfl) ?_
        exact ⟨⟨hd.1, by omega⟩, by omega, trivial, triv_intro trivial⟩
      refine tr_nil ?_
      refine tr_vc hsp mixed _ _ ?_
      exact vcx (X := (tmK k tb (i : Int) ds (IntKind.i64.wrap ((j : Int) + 1), jst tb y d)).triv (j < 2)) (by kernel_rfl) (triv_intro hj2)
    refine tr_nil ?_
    refine tr_vc hsp mixed _ _ ?_
    have ey : jby tb s b = jsd tb ds s 2 := by unfold jby; rw [hds]
    show VC _ _ _ (fun σ' => σ'.le _ (tmJ k tb (IntKind.i64.wrap ((i : Int) + 1), jby tb s b)) (i < k.length)) _ _
    rw [ey]
    generalize jsd tb ds s 2 = z
    exact vcx (X := (tmJ k tb (IntKind.i64.wrap ((i : Int) + 1), z)).triv (i < k.length)) (by kernel_rfl) (triv_intro hlt)
  · refine tr_vc hsp mixed _ _ ?_
    refine vcx (X := (True ∧ (jpoint (F := F2) (jtm tb k k.length), ()) = outTimes (p, k, ()))) (by kernel_rfl) ⟨trivial, ?_⟩
    show _ = (jpoint (F := F2) (jtm (tabAt (jt (jlift (F := F2) p)) (0, 0, 0) 15) k k.length), ())
    rw [htb]
noncomputable def spTimes : Nat × Eng.Spec := (31, fnSpec [pt2, .sl (.int .u8)] [.val pt2] preTimes outTimes)
end Go.Proofs.Ytndjibcccdnfdaa.g2
/- g2: Mul. -/
namespace Go.Proofs.Ytndjibcccdnfdaa.g2
set_option maxRecDepth 100000
open Go Go.Eng Go.RowKit Cr Go.Proofs.Ytndjibcccdnfdaa Go.Proofs.Ytndjibcccdnfdaa.fp2
noncomputable def tms (p : F2 × F2) (k : List Int) : F2 × F2 := jpoint (F := F2) (jtm (tabAt (jt (jlift (F := F2) p)) (0, 0, 0) 15) k (List.length k))
noncomputable def pml (p : F2 × F2) (k : Fr) : F2 × F2 := tms p (bytesN 32 k.v)
theorem ent_pmul : enters Try.prog 19 Try.f19 := enters_mk (by kernel_rfl) (by kernel_rfl) (by kernel_rfl)
noncomputable abbrev outPMul : HL [pt2, .fr] → HO [.val pt2] := fun (p, k, _) => (pml p k, ())
theorem fn_pmul : FnOk Try.prog 19 [pt2, .fr] [.val pt2] noG (fun _ => True) outPMul := by
  refine fn_of_vc (sp := sps [fr.spBytes, spTimes]) (sps_cons (fnSpec_ok fr.fn_bytes) (sps_cons (fnSpec_ok fn_times) sps_nil)) mixed ent_pmul (by decide) (by decide) ?_
  rintro w M0 ⟨p, k, ⟨⟩⟩
  revert p k
  intro (p : F2 × F2) (k : Fr) _ _
  refine vcx (X := (True ∧ (0 : Nat) + 32 ≤ 32 ∧ preTimes (p, (bytesN 32 k.v).take 32, ()) ∧ (tms p ((bytesN 32 k.v).take 32), ()) = outPMul (p, k, ()))) (by kernel_rfl) ?_
  rw [List.take_of_length_le (by rw [bytesN_length]; exact Nat.le_refl _)]
  exact ⟨trivial, by decide, ⟨bytesN_Bs _ _, by show (bytesN 32 k.v).length < _; rw [bytesN_length]; decide⟩, rfl⟩
noncomputable def spPMul : Nat × Eng.Spec := (19, fnSpec [pt2, .fr] [.val pt2] (fun _ => True) outPMul)

end Go.Proofs.Ytndjibcccdnfdaa.g2
/- The references' Copy; law07: scalar, long. -/
namespace Go.Proofs.Ytndjibcccdnfdaa.ref01
set_option maxRecDepth 100000
open Go Go.Eng Go.RowKit Cr Go.Proofs.Ytndjibcccdnfdaa

theorem ent_copy : enters Try.prog 42 Try.f42 := enters_mk (by kernel_rfl) (by kernel_rfl) (by kernel_rfl)
noncomputable def cpI (b : List Int) (g : Int × List Int) : St := mkSt Try.f42.ntmps 64 [(0, .is (.one (.ro (.int .u8) b))), (3, .is (.one (.sl 24 0 0 (b.length : Int).toNat 1))), (9, sI .i64 b.length), (10, sI .i64 g.1)] [(24, [.ints .u8 (b.length : Int).toNat g.2])]
def cpL (b : List Int) (k : Nat) : List Int := b.take k ++ List.replicate (b.length - k) 0
theorem cpL_step {b : List Int} {k : Nat} (h : k < b.length) : (cpL b k).set k (b.getD k 0) = cpL b (k + 1) := by
  unfold cpL
  rw [List.set_append_right _ _ (by simp; omega), List.take_succ_eq_append_getElem h]
  have e : b.length - k = (b.length - (k + 1)) + 1 := by omega
  have e2 : k - (b.take k).length = 0 := by simp; omega
  rw [e2, e, List.replicate_succ, List.set_cons_zero, List.append_assoc]
  simp [h]
abbrev preCopy : HL [.sl (.int .u8)] → Prop := fun (b, _) => List.length b ≤ 281474976710656
abbrev outCopy : HL [.sl (.int .u8)] → HO [.own (.int .u8)] := fun (b, _) => (b, ())
theorem fn_copy : FnOk Try.prog 42 [.sl (.int .u8)] [.own (.int .u8)] noG preCopy outCopy := by
  have hsp : SpecsOk Try.prog (sps []) := sps_nil
  refine fn_of_tr (sp := sps []) ent_copy (by decide) (by decide) (by kernel_rfl) ?_
  rintro w M0 ⟨b, ⟨⟩⟩
  revert b
  intro (b : List Int) _ hl
  have hl : b.length ≤ 281474976710656 := hl
  show Tr _ _ _ _ _ _ _
  refine tr_cut hsp mixed 3 (cpI b (0, List.replicate (b.length : Int).toNat 0)) True ?_ (fun _ => ?_)
  · refine vcx (X := ((0 ≤ (b.length : Int) ∧ (b.length : Int) ≤ (b.length : Int) ∧ ((1 : Nat) : Int) * (b.length : Int) ≤ 281474976710656 ∧ (b.length : Int) ≤ 9223372036854775807) ∧ (cpI b (0, List.replicate (b.length : Int).toNat 0)).triv True)) (by kernel_rfl) ?_
    exact ⟨⟨by omega, by omega, by omega, by omega⟩, triv_intro trivial⟩
  rw [show List.replicate (b.length : Int).toNat (0 : Int) = cpL b 0 by simp [cpL]]
  refine tr_count hsp mixed (cpI b) (fun k => ((k : Int), cpL b k)) b.length (fun g => (IntKind.i64.wrap (g.1 + 1), g.2.set g.1.toNat (b.getD g.1.toNat 0))) (cpI b) (c := nthC (codeOf Try.f42) 3) (by kernel_rfl) (by kernel_rfl) (le_of_proj (by kernel_rfl) (by kernel_rfl) trivial)
    (fun k hk => by show (_, _) = (_, _); rw [wrap_succ (by omega), Int.toNat_natCast, cpL_step hk]) ?_ ?_
  · intro k hk
    generalize cpL b k = xs
    refine vcx (X := ((decide ((k : Int) < (b.length : Int)) = true → (0 ≤ (k : Int) ∧ (k : Int) < (b.length : Int)) ∧ (k : Int).toNat < b.length ∧ (0 ≤ (k : Int) ∧ (k : Int) < ((b.length : Int).toNat : Int)) ∧ (k : Int).toNat < (b.length : Int).toNat ∧ (cpI b (IntKind.i64.wrap ((k : Int) + 1), xs.set (k : Int).toNat (b.getD (k : Int).toNat 0))).triv (k < b.length)) ∧
      (decide ((k : Int) < (b.length : Int)) = false → (cpI b ((k : Int), xs)).triv (k = b.length)))) (by kernel_rfl) ?_
    refine ⟨fun h => ?_, fun h => triv_intro (by have := dec_ge h; omega)⟩
    have hlt : k < b.length := by have := dec_lt h; omega
    exact ⟨⟨by omega, by omega⟩, by omega, ⟨by omega, by omega⟩, by omega, triv_intro hlt⟩
  · refine tr_vc hsp mixed _ _ ?_
    refine vcx (X := (0 + (b.length : Int).toNat ≤ (b.length : Int).toNat ∧ (((cpL b b.length).take (b.length : Int).toNat, ()) : List Int × Unit) = outCopy (b, ()))) (by kernel_rfl) ⟨by omega, ?_⟩
    simp [cpL, outCopy]
noncomputable def spCopy : Nat × Eng.Spec := (42, fnSpec [.sl (.int .u8)] [.own (.int .u8)] preCopy outCopy)
end Go.Proofs.Ytndjibcccdnfdaa.ref01
/- g1: Times. -/
namespace Go.Proofs.Ytndjibcccdnfdaa.g1
set_option maxRecDepth 100000
open Go Go.Eng Go.RowKit Cr Go.Proofs.Ytndjibcccdnfdaa

abbrev Jp := Fp × Fp × Fp
noncomputable def tmI (k : List Int) (o : Jp) (g : Int × List Jp) : St := mkSt Try.f124.ntmps 64 [(1, .is (.one (.ro (.int .u8) k))), (4, .is (.one (.ptr 8 0))), (5, .is (.one (.ptr 16 0))), (6, .is (.one (.ptr 40 0))), (15, sI .i64 g.1)] [(40, bc o), (16, [.row bk 16 g.2]), (8, pc (0, 0))]
noncomputable def tmS (k : List Int) (tb : List Jp) (s : Jp) (nx : Nat) (xs : List (Nat × SV)) : St := mkSt Try.f124.ntmps nx ([(4, .is (.one (.ptr 8 0))), (5, .is (.one (.ptr 16 0))), (8, .is (.one (.ptr 64 0))), (27, .is (.one (.ro (.int .u8) k))), (28, sI .i64 k.length)] ++ xs) [(64, bc s), (16, [.row bk 16 tb]), (8, pc (0, 0))]
noncomputable abbrev tmJ (k : List Int) (tb : List Jp) (g : Int × Jp) : St := tmS k tb g.2 96 [(29, sI .i64 g.1)]
noncomputable abbrev tmK (k : List Int) (tb : List Jp) (i : Int) (ds : List Int) (g : Int × Jp) : St := tmS k tb g.2 168 [(29, sI .i64 i), (37, .is (.agg [.ints .u8 2 ds])), (38, sI .i64 g.1)]
noncomputable abbrev tmL (k : List Int) (tb : List Jp) (i : Int) (ds : List Int) (j d : Int) (g : Int × Jp) : St := tmS k tb g.2 184 [(29, sI .i64 i), (37, .is (.agg [.ints .u8 2 ds])), (38, sI .i64 j), (12, sI .u8 d), (41, sI .i64 g.1)]

theorem ent_times : enters Try.prog 124 Try.f124 := enters_mk (by kernel_rfl) (by kernel_rfl) (by kernel_rfl)
abbrev preTimes : HL [pt1, .sl (.int .u8)] → Prop := fun (_, k, _) => Bs k ∧ List.length k < 4611686018427387904
noncomputable abbrev outTimes : HL [pt1, .sl (.int .u8)] → HO [.val pt1] := fun (p, k, _) => (jpoint (F := Fp) (jtm (tabAt (jt (jlift (F := Fp) p)) (0, 0, 0) 15) k (List.length k)), ())
theorem fn_times : FnOk Try.prog 124 [pt1, .sl (.int .u8)] [.val pt1] noG preTimes outTimes := by
  have hsp : SpecsOk Try.prog (sps [spLift, spAdd, spPoint, spDouble]) := sps_cons (fnSpec_ok fn_lift) (sps_cons (fnSpec_ok fn_add) (sps_cons (fnSpec_ok fn_point) (sps_cons (fnSpec_ok fn_double) sps_nil)))
  refine fn_of_tr (sp := sps [spLift, spAdd, spPoint, spDouble]) ent_times (by decide) (by decide) (by kernel_rfl) ?_
  rintro w M0 ⟨p, k, ⟨⟩⟩
  revert p k
  intro (p : Fp × Fp) (k : List Int) _ hp
  obtain ⟨hk, hl⟩ := hp
  have hk : Bs k := hk
  have hl : k.length < 4611686018427387904 := hl
  show Tr _ _ _ _ _ _ _
  refine tr_cut hsp mixed 4 (tmI k (jlift (F := Fp) p) (0, tabAt (jt (jlift (F := Fp) p)) (0, 0, 0) 0)) True ?_ (fun _ => ?_)
  · exact vcx (X := (True ∧ (tmI k (jlift (F := Fp) p) (0, tabAt (jt (jlift (F := Fp) p)) (0, 0, 0) 0)).triv True)) (by kernel_rfl) ⟨trivial, triv_intro trivial⟩
  generalize ho : jlift (F := Fp) p = o
  refine tr_count hsp mixed (tmI k o) (fun n => ((n : Int), tabAt (jt o) (0, 0, 0) n)) 15 (fun g => (IntKind.i64.wrap (g.1 + 1), g.2.set (IntKind.i64.wrap (g.1 + 1)).toNat (jadd (F := Fp) (g.2.getD g.1.toNat (0, 0, 0)) o))) (tmI k o) (c := nthC (codeOf Try.f124) 4) (by kernel_rfl) (by kernel_rfl) (le_of_proj (by kernel_rfl) (by kernel_rfl) trivial)
    (fun n hn => by
      show (_, _) = (_, _)
      rw [wrap_succ (by omega), Int.toNat_natCast, Int.toNat_natCast, tabAt_get _ _ _ (Nat.le_refl n) (by omega), show jadd (F := Fp) (jt o n) o = jt o (n + 1) from rfl, tabAt_set]) ?_ ?_
  · intro n hn
    generalize tabAt (jt o) (0, 0, 0) n = tb
    refine vcx (X := ((decide ((n : Int) < 15) = true → (0 ≤ (n : Int) ∧ (n : Int) < ((16 : Nat) : Int)) ∧ (n : Int).toNat < 16 ∧ True ∧ (0 ≤ IntKind.i64.wrap ((n : Int) + 1) ∧ IntKind.i64.wrap ((n : Int) + 1) < ((16 : Nat) : Int)) ∧ (IntKind.i64.wrap ((n : Int) + 1)).toNat < 16 ∧
        (tmI k o (IntKind.i64.wrap ((n : Int) + 1), tb.set (IntKind.i64.wrap ((n : Int) + 1)).toNat (jadd (F := Fp) (tb.getD (n : Int).toNat (0, 0, 0)) o))).triv (n < 15)) ∧
      (decide ((n : Int) < 15) = false → (tmI k o ((n : Int), tb)).triv (n = 15)))) (by kernel_rfl) ?_
    refine ⟨fun h => ?_, fun h => triv_intro (by have := dec_ge h; omega)⟩
    have hlt : n < 15 := by have := dec_lt h; omega
    rw [wrap_succ (by omega)]
    exact ⟨⟨by omega, by omega⟩, by omega, trivial, ⟨by omega, by omega⟩, by omega, triv_intro hlt⟩
  subst ho
  show Tr _ _ _ _ _ _ _
  generalize htb : tabAt (jt (jlift (F := Fp) p)) (0, 0, 0) 15 = tb
  refine tr_cut hsp mixed 2 (tmJ k tb (0, jtm tb k 0)) True ?_ (fun _ => ?_)
  · exact vcx (X := (tmJ k tb (0, jtm tb k 0)).triv True) (by kernel_rfl) (triv_intro trivial)
  refine tr_countT (tmJ k tb) (fun i => ((i : Int), jtm tb k i)) k.length (fun g => (IntKind.i64.wrap (g.1 + 1), jby tb g.2 (k.getD g.1.toNat 0))) (tmJ k tb) (c := nthC (codeOf Try.f124) 7) (by kernel_rfl) (by kernel_rfl) (le_of_proj (by kernel_rfl) (by kernel_rfl) trivial)
    (fun i hi => by show (_, _) = (_, _); rw [wrap_succ (by omega), Int.toNat_natCast]; rfl) ?_ ?_
  · intro i hi
    generalize jtm tb k i = s
    refine tr_cut hsp mixed 2 (tmJ k tb ((i : Int), s)) (i < k.length) ?_ (fun hlt => ?_)
    · refine vcx (X := ((decide ((i : Int) < (k.length : Int)) = true → (tmJ k tb ((i : Int), s)).triv (i < k.length)) ∧ (decide ((i : Int) < (k.length : Int)) = false → (tmJ k tb ((i : Int), s)).triv (i = k.length)))) (by kernel_rfl) ?_
      exact ⟨fun h => triv_intro (by have := dec_lt h; omega), fun h => triv_intro (by have := dec_ge h; omega)⟩
    have hb : 0 ≤ k.getD i 0 ∧ k.getD i 0 < 256 := by
      have : k.getD i 0 ∈ k := by rw [List.getD_eq_getElem?_getD, List.getElem?_eq_getElem hlt]; exact List.getElem_mem hlt
      exact hk _ this
    have hbi : k.getD (i : Int).toNat 0 = k.getD i 0 := by rw [Int.toNat_natCast]
    generalize hbb : k.getD i 0 = b at hb hbi
    obtain ⟨_, d1, d2⟩ := dh_ok hb.1 hb.2
    obtain ⟨_, d3, d4⟩ := dl_ok hb.1 hb.2
    refine tr_block (c := nthC (loopOf (nthC (codeOf Try.f124) 7)) 2) (by kernel_rfl) (by kernel_rfl) ?_
    refine tr_cut hsp mixed 2 (tmK k tb (i : Int) [dh (k.getD (i : Int).toNat 0), dl (k.getD (i : Int).toNat 0)] (0, jsd tb [dh b, dl b] s 0)) True ?_ (fun _ => ?_)
    · refine vcx (X := ((0 ≤ (i : Int) ∧ (i : Int) < (k.length : Int)) ∧ (i : Int).toNat < k.length ∧ (0 : Int) ≤ 4 ∧ (tmK k tb (i : Int) [dh (k.getD (i : Int).toNat 0), dl (k.getD (i : Int).toNat 0)] (0, jsd tb [dh b, dl b] s 0)).triv True)) (by kernel_rfl) ?_
      exact ⟨⟨by omega, by omega⟩, by omega, by decide, triv_intro trivial⟩
    rw [hbi]
    generalize hds : [dh b, dl b] = ds
    have hdd : ∀ j, j < 2 → 0 ≤ ds.getD j 0 ∧ ds.getD j 0 < 16 := by
      intro j hj
      subst hds
      match j, hj with
      | 0, _ => exact ⟨d1, d2⟩
      | 1, _ => exact ⟨d3, d4⟩
    refine tr_countT (tmK k tb (i : Int) ds) (fun j => ((j : Int), jsd tb ds s j)) 2 (fun g => (IntKind.i64.wrap (g.1 + 1), jst tb g.2 (ds.getD g.1.toNat 0))) (tmK k tb (i : Int) ds) (c := nthC (bodyOf (nthC (loopOf (nthC (codeOf Try.f124) 7)) 2)) 2) (by kernel_rfl) (by kernel_rfl) (le_of_proj (by kernel_rfl) (by kernel_rfl) trivial)
      (fun j hj => by show (_, _) = (_, _); rw [wrap_succ (by omega), Int.toNat_natCast]; rfl) ?_ ?_
    · intro j hj
      generalize jsd tb ds s j = y
      refine tr_cut hsp mixed 2 (tmK k tb (i : Int) ds ((j : Int), y)) (j < 2) ?_ (fun hj2 => ?_)
      · refine vcx (X := ((decide ((j : Int) < 2) = true → (tmK k tb (i : Int) ds ((j : Int), y)).triv (j < 2)) ∧ (decide ((j : Int) < 2) = false → (tmK k tb (i : Int) ds ((j : Int), y)).triv (j = 2)))) (by kernel_rfl) ?_
        exact ⟨fun h => triv_intro (by have := dec_lt h; omega), fun h => triv_intro (by have := dec_ge h; omega)⟩
      have hd := hdd j hj2
      have hdj : ds.getD (j : Int).toNat 0 = ds.getD j 0 := by rw [Int.toNat_natCast]
      generalize ds.getD j 0 = d at hd hdj
      refine tr_block (c := nthC (loopOf (nthC (bodyOf (nthC (loopOf (nthC (codeOf Try.f124) 7)) 2)) 2)) 2) (by kernel_rfl) (by kernel_rfl) ?_
      refine tr_cut hsp mixed 2 (tmL k tb (i : Int) ds (j : Int) (ds.getD (j : Int).toNat 0) (0, jdn y 0)) True ?_ (fun _ => ?_)
      · refine vcx (X := ((0 ≤ (j : Int) ∧ (j : Int) < ((2 : Nat) : Int)) ∧ (tmL k tb (i : Int) ds (j : Int) (ds.getD (j : Int).toNat 0) (0, jdn y 0)).triv True)) (by kernel_rfl) ?_
        exact ⟨⟨by omega, by omega⟩, triv_intro trivial⟩
      rw [hdj]
      refine tr_count hsp mixed (tmL k tb (i : Int) ds (j : Int) d) (fun n => ((n : Int), jdn y n)) 4 (fun g => (IntKind.i64.wrap (g.1 + 1), jdbl (F := Fp) g.2)) (tmL k tb (i : Int) ds (j : Int) d) (c := nthC (bodyOf (nthC (loopOf (nthC (bodyOf (nthC (loopOf (nthC (codeOf Try.f124) 7)) 2)) 2)) 2)) 2) (by kernel_rfl) (by kernel_rfl) (le_of_proj (by kernel_rfl) (by kernel_rfl) trivial)
        (fun n hn => by show (_, _) = (_, _); rw [wrap_succ (by omega)]; rfl) ?_ ?_
      · intro n hn
        generalize jdn y n = z
        refine vcx (X := ((decide ((n : Int) < 4) = true → True ∧ (tmL k tb (i : Int) ds (j : Int) d (IntKind.i64.wrap ((n : Int) + 1), jdbl (F := Fp) z)).triv (n < 4)) ∧ (decide ((n : Int) < 4) = false → (tmL k tb (i : Int) ds (j : Int) d ((n : Int), z)).triv (n = 4)))) (by kernel_rfl) ?_
        exact ⟨fun h => ⟨trivial, triv_intro (by have := dec_lt h; omega)⟩, fun h => triv_intro (by have := dec_ge h; omega)⟩
      refine tr_cut hsp mixed 1 (tmK k tb (i : Int) ds ((j : Int), jst tb y d)) True ?_ (fun _ => ?_)
      · refine vcx (X := ((0 ≤ d ∧ d < ((16 : Nat) : Int)) ∧ d.toNat < 16 ∧ True ∧ (tmK k tb (i : Int) ds ((j : Int), jst tb y d)).triv True)) (by kernel_rfl) ?_
        exact ⟨⟨hd.1, by omega⟩, by omega, trivial, triv_intro trivial⟩
      refine tr_nil ?_
      refine tr_vc hsp mixed _ _ ?_
      exact vcx (X := (tmK k tb (i : Int) ds (IntKind.i64.wrap ((j : Int) + 1), jst tb y d)).triv (j < 2)) (by kernel_rfl) (triv_intro hj2)
    refine tr_nil ?_
    refine tr_vc hsp mixed _ _ ?_
    have ey : jby tb s b = jsd tb ds s 2 := by unfold jby; rw [hds]
    show VC _ _ _ (fun σ' => σ'.le _ (tmJ k tb (IntKind.i64.wrap ((i : Int) + 1), jby tb s b)) (i < k.length)) _ _
    rw [ey]
    generalize jsd tb ds s 2 = z
    exact vcx (X := (tmJ k tb (IntKind.i64.wrap ((i : Int) + 1), z)).triv (i < k.length)) (by kernel_rfl) (triv_intro hlt)
  · refine tr_vc hsp mixed _ _ ?_
    refine vcx (X := (True ∧ (jpoint (F := Fp) (jtm tb k k.length), ()) = outTimes (p, k, ()))) (by kernel_rfl) ⟨trivial, ?_⟩
    show _ = (jpoint (F := Fp) (jtm (tabAt (jt (jlift (F := Fp) p)) (0, 0, 0) 15) k k.length), ())
    rw [htb]
noncomputable def spTimes : Nat × Eng.Spec := (124, fnSpec [pt1, .sl (.int .u8)] [.val pt1] preTimes outTimes)
end Go.Proofs.Ytndjibcccdnfdaa.g1
/- g1: Mul. -/
namespace Go.Proofs.Ytndjibcccdnfdaa.g1
set_option maxRecDepth 100000
open Go Go.Eng Go.RowKit Cr Go.Proofs.Ytndjibcccdnfdaa
noncomputable def tms (p : Fp × Fp) (k : List Int) : Fp × Fp := jpoint (F := Fp) (jtm (tabAt (jt (jlift (F := Fp) p)) (0, 0, 0) 15) k (List.length k))
noncomputable def pml (p : Fp × Fp) (k : Fr) : Fp × Fp := tms p (bytesN 32 k.v)
theorem ent_pmul : enters Try.prog 69 Try.f69 := enters_mk (by kernel_rfl) (by kernel_rfl) (by kernel_rfl)
noncomputable abbrev outPMul : HL [pt1, .fr] → HO [.val pt1] := fun (p, k, _) => (pml p k, ())
theorem fn_pmul : FnOk Try.prog 69 [pt1, .fr] [.val pt1] noG (fun _ => True) outPMul := by
  refine fn_of_vc (sp := sps [fr.spBytes, spTimes]) (sps_cons (fnSpec_ok fr.fn_bytes) (sps_cons (fnSpec_ok fn_times) sps_nil)) mixed ent_pmul (by decide) (by decide) ?_
  rintro w M0 ⟨p, k, ⟨⟩⟩
  revert p k
  intro (p : Fp × Fp) (k : Fr) _ _
  refine vcx (X := (True ∧ (0 : Nat) + 32 ≤ 32 ∧ preTimes (p, (bytesN 32 k.v).take 32, ()) ∧ (tms p ((bytesN 32 k.v).take 32), ()) = outPMul (p, k, ()))) (by kernel_rfl) ?_
  rw [List.take_of_length_le (by rw [bytesN_length]; exact Nat.le_refl _)]
  exact ⟨trivial, by decide, ⟨bytesN_Bs _ _, by show (bytesN 32 k.v).length < _; rw [bytesN_length]; decide⟩, rfl⟩
noncomputable def spPMul : Nat × Eng.Spec := (69, fnSpec [pt1, .fr] [.val pt1] (fun _ => True) outPMul)

end Go.Proofs.Ytndjibcccdnfdaa.g1
/- g1: the same contracts, for laws: what is computed is not unfolded; what it is on points of the curve. -/
namespace Go.Proofs.Ytndjibcccdnfdaa.g1
set_option maxRecDepth 100000
open Go Go.Eng Go.RowKit Cr Go.Proofs.Ytndjibcccdnfdaa
theorem b4_ne : b4 ≠ 0 := by decide
noncomputable def gG : Fp × Fp := opq (gx, gy)
noncomputable def gadd (p q : Fp × Fp) : Fp × Fp := opq (jpoint (F := Fp) (jsm [p, q] 2))
noncomputable def gsum (ps : List (Fp × Fp)) : Fp × Fp := opq (jpoint (F := Fp) (jsm ps ps.length))
noncomputable def gneg (p : Fp × Fp) : Fp × Fp := opq (pneg (F := Fp) p)
noncomputable def gtms (p : Fp × Fp) (k : List Int) : Fp × Fp := opq (tms p k)
noncomputable def gmul (p : Fp × Fp) (k : Fr) : Fp × Fp := opq (pml p k)
noncomputable def gon (p : Fp × Fp) : Bool := opq (isOn p)

theorem fo_gen : FnOk Try.prog 68 [] [.val pt1] noG (fun _ => True) (fun _ => (gG, ())) := fn_gen.out fun _ => by show (gG, ()) = ((gx, gy), ()); rw [gG, opq_eq]
theorem fo_add : FnOk Try.prog 72 [pt1, pt1] [.val pt1] noG (fun _ => True) (fun (p, q, _) => (gadd p q, ())) := fn_padd.out fun (p, q, _) => by show (gadd p q, ()) = (_, ()); rw [gadd, opq_eq]
theorem fo_sum : FnOk Try.prog 126 [.sl pt1] [.val pt1] noG preSum (fun (ps, _) => (gsum ps, ())) := fn_sum.out fun (ps, _) => by show (gsum ps, ()) = (_, ()); rw [gsum, opq_eq]
theorem fo_neg : FnOk Try.prog 112 [pt1] [.val pt1] noG (fun _ => True) (fun (p, _) => (gneg p, ())) := fn_pneg.out fun (p, _) => by show (gneg p, ()) = (_, ()); rw [gneg, opq_eq]
theorem fo_times : FnOk Try.prog 124 [pt1, .sl (.int .u8)] [.val pt1] noG preTimes (fun (p, k, _) => (gtms p k, ())) := fn_times.out fun (p, k, _) => by show (gtms p k, ()) = (_, ()); rw [gtms, opq_eq]; rfl
theorem fo_mul : FnOk Try.prog 69 [pt1, .fr] [.val pt1] noG (fun _ => True) (fun (p, k, _) => (gmul p k, ())) := fn_pmul.out fun (p, k, _) => by show (gmul p k, ()) = (_, ()); rw [gmul, opq_eq]
theorem fo_on : FnOk Try.prog 104 [pt1] [.val .bool] noG (fun _ => True) (fun (p, _) => (gon p, ())) := fn_on.out fun (p, _) => by show (gon p, ()) = (_, ()); rw [gon, opq_eq]
noncomputable def soGen : Nat × Eng.Spec := (68, fnSpec [] [.val pt1] (fun _ => True) (fun _ => (gG, ())))
noncomputable def soAdd : Nat × Eng.Spec := (72, fnSpec [pt1, pt1] [.val pt1] (fun _ => True) (fun (p, q, _) => (gadd p q, ())))
noncomputable def soSum : Nat × Eng.Spec := (126, fnSpec [.sl pt1] [.val pt1] preSum (fun (ps, _) => (gsum ps, ())))
noncomputable def soNeg : Nat × Eng.Spec := (112, fnSpec [pt1] [.val pt1] (fun _ => True) (fun (p, _) => (gneg p, ())))
noncomputable def soTimes : Nat × Eng.Spec := (124, fnSpec [pt1, .sl (.int .u8)] [.val pt1] preTimes (fun (p, k, _) => (gtms p k, ())))
noncomputable def soMul : Nat × Eng.Spec := (69, fnSpec [pt1, .fr] [.val pt1] (fun _ => True) (fun (p, k, _) => (gmul p k, ())))
noncomputable def soOn : Nat × Eng.Spec := (104, fnSpec [pt1] [.val .bool] (fun _ => True) (fun (p, _) => (gon p, ())))

/-! On points of the curve. -/
abbrev Onb (p : Fp × Fp) : Prop := OnP b4 p
theorem gG_eq : gG = (gx, gy) := opq_eq _
theorem gG_on : Onb gG := by rw [gG_eq]; exact (isOn_iff _).1 (by decide +kernel)
theorem gadd_eq {p q : Fp × Fp} (hp : Onb p) (hq : Onb q) : gadd p q = padd p q := by rw [gadd, opq_eq]; exact add_eq b4_ne hp hq
theorem gsum_eq {ps : List (Fp × Fp)} (h : ∀ p ∈ ps, Onb p) : gsum ps = psum ps := by rw [gsum, opq_eq]; exact sum_eq b4_ne h
theorem gneg_eq (p : Fp × Fp) : gneg p = pneg p := opq_eq _
theorem gtms_eq {p : Fp × Fp} (hp : Onb p) {k : List Int} (hk : Bs k) : gtms p k = nmul p (num k).toNat := by rw [gtms, opq_eq]; exact times_eq b4_ne hp hk
theorem gmul_eq {p : Fp × Fp} (hp : Onb p) (k : Fr) : gmul p k = nmul p k.v.toNat := by
  rw [gmul, opq_eq, pml, tms, times_eq b4_ne hp (bytesN_Bs _ _), num_bytesN 32 _ k.nn (Int.lt_trans k.lt (by decide))]
theorem gon_iff (p : Fp × Fp) : gon p = true ↔ Onb p := by rw [gon, opq_eq]; exact isOn_iff p
end Go.Proofs.Ytndjibcccdnfdaa.g1
/- g2: the same contracts, for laws: what is computed is not unfolded; what it is on points of the curve. -/
namespace Go.Proofs.Ytndjibcccdnfdaa.g2
set_option maxRecDepth 100000
open Go Go.Eng Go.RowKit Cr Go.Proofs.Ytndjibcccdnfdaa Go.Proofs.Ytndjibcccdnfdaa.fp2
theorem b4_ne : b4 ≠ 0 := fun h => absurd (congrArg Prod.fst h) (by decide)
noncomputable def gG : F2 × F2 := opq (gx, gy)
noncomputable def gadd (p q : F2 × F2) : F2 × F2 := opq (jpoint (F := F2) (jsm [p, q] 2))
noncomputable def gsum (ps : List (F2 × F2)) : F2 × F2 := opq (jpoint (F := F2) (jsm ps ps.length))
noncomputable def gneg (p : F2 × F2) : F2 × F2 := opq (pneg (F := F2) p)
noncomputable def gtms (p : F2 × F2) (k : List Int) : F2 × F2 := opq (tms p k)
noncomputable def gmul (p : F2 × F2) (k : Fr) : F2 × F2 := opq (pml p k)
noncomputable def gon (p : F2 × F2) : Bool := opq (isOn p)

theorem fo_gen : FnOk Try.prog 18 [] [.val pt2] noG (fun _ => True) (fun _ => (gG, ())) := fn_gen.out fun _ => by show (gG, ()) = ((gx, gy), ()); rw [gG, opq_eq]
theorem fo_add : FnOk Try.prog 20 [pt2, pt2] [.val pt2] noG (fun _ => True) (fun (p, q, _) => (gadd p q, ())) := fn_padd.out fun (p, q, _) => by show (gadd p q, ()) = (_, ()); rw [gadd, opq_eq]
theorem fo_sum : FnOk Try.prog 30 [.sl pt2] [.val pt2] noG preSum (fun (ps, _) => (gsum ps, ())) := fn_sum.out fun (ps, _) => by show (gsum ps, ()) = (_, ()); rw [gsum, opq_eq]
theorem fo_neg : FnOk Try.prog 23 [pt2] [.val pt2] noG (fun _ => True) (fun (p, _) => (gneg p, ())) := fn_pneg.out fun (p, _) => by show (gneg p, ()) = (_, ()); rw [gneg, opq_eq]
theorem fo_times : FnOk Try.prog 31 [pt2, .sl (.int .u8)] [.val pt2] noG preTimes (fun (p, k, _) => (gtms p k, ())) := fn_times.out fun (p, k, _) => by show (gtms p k, ()) = (_, ()); rw [gtms, opq_eq]; rfl
theorem fo_mul : FnOk Try.prog 19 [pt2, .fr] [.val pt2] noG (fun _ => True) (fun (p, k, _) => (gmul p k, ())) := fn_pmul.out fun (p, k, _) => by show (gmul p k, ()) = (_, ()); rw [gmul, opq_eq]
theorem fo_on : FnOk Try.prog 27 [pt2] [.val .bool] noG (fun _ => True) (fun (p, _) => (gon p, ())) := fn_on.out fun (p, _) => by show (gon p, ()) = (_, ()); rw [gon, opq_eq]
noncomputable def soGen : Nat × Eng.Spec := (18, fnSpec [] [.val pt2] (fun _ => True) (fun _ => (gG, ())))
noncomputable def soAdd : Nat × Eng.Spec := (20, fnSpec [pt2, pt2] [.val pt2] (fun _ => True) (fun (p, q, _) => (gadd p q, ())))
noncomputable def soSum : Nat × Eng.Spec := (30, fnSpec [.sl pt2] [.val pt2] preSum (fun (ps, _) => (gsum ps, ())))
noncomputable def soNeg : Nat × Eng.Spec := (23, fnSpec [pt2] [.val pt2] (fun _ => True) (fun (p, _) => (gneg p, ())))
noncomputable def soTimes : Nat × Eng.Spec := (31, fnSpec [pt2, .sl (.int .u8)] [.val pt2] preTimes (fun (p, k, _) => (gtms p k, ())))
noncomputable def soMul : Nat × Eng.Spec := (19, fnSpec [pt2, .fr] [.val pt2] (fun _ => True) (fun (p, k, _) => (gmul p k, ())))
noncomputable def soOn : Nat × Eng.Spec := (27, fnSpec [pt2] [.val .bool] (fun _ => True) (fun (p, _) => (gon p, ())))

/-! On points of the curve. -/
abbrev Onb (p : F2 × F2) : Prop := OnP b4 p
theorem gG_eq : gG = (gx, gy) := opq_eq _
theorem gG_on : Onb gG := by
  rw [gG_eq]
  refine .inr ?_
  show gy * gy = gx * gx * gx + b4
  refine F2.ext ?_ ?_
  · simp only [F2.mul1, F2.mul2, F2.add1]; decide +kernel
  · simp only [F2.mul1, F2.mul2, F2.add2]; decide +kernel
theorem gadd_eq {p q : F2 × F2} (hp : Onb p) (hq : Onb q) : gadd p q = padd p q := by rw [gadd, opq_eq]; exact add_eq b4_ne hp hq
theorem gsum_eq {ps : List (F2 × F2)} (h : ∀ p ∈ ps, Onb p) : gsum ps = psum ps := by rw [gsum, opq_eq]; exact sum_eq b4_ne h
theorem gneg_eq (p : F2 × F2) : gneg p = pneg p := opq_eq _
theorem gtms_eq {p : F2 × F2} (hp : Onb p) {k : List Int} (hk : Bs k) : gtms p k = nmul p (num k).toNat := by rw [gtms, opq_eq]; exact times_eq b4_ne hp hk
theorem gmul_eq {p : F2 × F2} (hp : Onb p) (k : Fr) : gmul p k = nmul p k.v.toNat := by
  rw [gmul, opq_eq, pml, tms, times_eq b4_ne hp (bytesN_Bs _ _), num_bytesN 32 _ k.nn (Int.lt_trans k.lt (by decide))]
theorem gon_iff (p : F2 × F2) : gon p = true ↔ Onb p := by rw [gon, opq_eq]; exact isOn_iff p
end Go.Proofs.Ytndjibcccdnfdaa.g2
/- Bulk points by computation: values forced one by one. No program here. -/
namespace Cr
open Rg Fd

/-- A way to compute in a field. -/
structure Ev (F : Type) [Fd F] where
  V : Type
  φ : V → F
  add : V → V → V
  sub : V → V → V
  mul : V → V → V
  isz : V → Bool
  zero : V
  force : {α : Type} → V → (V → α) → α
  add_φ : ∀ a b, φ (add a b) = φ a + φ b
  sub_φ : ∀ a b, φ (sub a b) = φ a - φ b
  mul_φ : ∀ a b, φ (mul a b) = φ a * φ b
  isz_φ : ∀ a, isz a = true ↔ φ a = 0
  zero_φ : φ zero = 0
  force_eq : ∀ {α : Type} (a : V) (k : V → α), force a k = k a

section
variable {F : Type} [Fd F] (E : Ev F)
abbrev Ev.J := E.V × E.V × E.V
def Ev.φ3 (a : E.J) : Jc F := (E.φ a.1, E.φ a.2.1, E.φ a.2.2)
def Ev.dbl (a : E.J) : E.J := match E.isz a.2.2 with
  | true => (E.zero, E.zero, E.zero)
  | false =>
    E.force (E.mul a.1 a.1) fun xx => E.force (E.mul a.2.1 a.2.1) fun yy => E.force (E.add (E.add xx xx) xx) fun sl =>
    E.force (E.mul a.1 yy) fun m1 => E.force (E.add m1 m1) fun m2 => E.force (E.add m2 m2) fun mid =>
    E.force (E.add yy yy) fun y2 => E.force (E.mul y2 y2) fun fall =>
    E.force (E.sub (E.sub (E.mul sl sl) mid) mid) fun x =>
    E.force (E.sub (E.sub (E.mul sl (E.sub mid x)) fall) fall) fun y =>
    E.force (E.mul a.2.1 a.2.2) fun z1 => E.force (E.add z1 z1) fun z => (x, y, z)
theorem Ev.dbl_φ (a : E.J) : E.φ3 (E.dbl a) = jdbl (E.φ3 a) := by
  unfold Ev.dbl jdbl
  cases h : E.isz a.2.2 with
  | true =>
    have : (E.φ3 a).2.2 = 0 := (E.isz_φ _).1 h
    rw [if_pos this]
    show (E.φ E.zero, E.φ E.zero, E.φ E.zero) = _
    rw [E.zero_φ]
  | false =>
    have : (E.φ3 a).2.2 ≠ 0 := fun e => by have := (E.isz_φ a.2.2).2 e; rw [h] at this; cases this
    rw [if_neg this]
    simp only [E.force_eq]
    simp only [Ev.φ3, jdbN, jdX, E.add_φ, E.sub_φ, E.mul_φ]
def Ev.jadd (a c : E.J) : E.J := match E.isz a.2.2 with
  | true => c
  | false => match E.isz c.2.2 with
    | true => a
    | false =>
      E.force (E.mul a.2.2 a.2.2) fun aa => E.force (E.mul c.2.2 c.2.2) fun bb =>
      E.force (E.mul a.1 bb) fun left => E.force (E.mul c.1 aa) fun right =>
      E.force (E.mul (E.mul a.2.1 bb) c.2.2) fun low => E.force (E.mul (E.mul c.2.1 aa) a.2.2) fun high =>
      E.force (E.sub right left) fun wide => E.force (E.sub high low) fun rise =>
      match E.isz wide with
      | true => match E.isz rise with
        | true => E.dbl a
        | false => (E.zero, E.zero, E.zero)
      | false =>
        E.force (E.mul wide wide) fun sq => E.force (E.mul sq wide) fun cube => E.force (E.mul left sq) fun l2 =>
        E.force (E.sub (E.sub (E.sub (E.mul rise rise) cube) l2) l2) fun x =>
        E.force (E.sub (E.mul rise (E.sub l2 x)) (E.mul low cube)) fun y =>
        E.force (E.mul (E.mul a.2.2 c.2.2) wide) fun z => (x, y, z)
theorem Ev.jadd_φ (a c : E.J) : E.φ3 (E.jadd a c) = Cr.jadd (E.φ3 a) (E.φ3 c) := by
  have nz : ∀ v : E.V, E.isz v = false → E.φ v ≠ 0 := fun v h e => by have := (E.isz_φ v).2 e; rw [h] at this; cases this
  unfold Ev.jadd Cr.jadd
  cases h : E.isz a.2.2 with
  | true => rw [if_pos (show (E.φ3 a).2.2 = 0 from (E.isz_φ _).1 h)]
  | false =>
    rw [if_neg (show (E.φ3 a).2.2 ≠ 0 from nz _ h)]
    cases h2 : E.isz c.2.2 with
    | true => rw [if_pos (show (E.φ3 c).2.2 = 0 from (E.isz_φ _).1 h2)]
    | false =>
      rw [if_neg (show (E.φ3 c).2.2 ≠ 0 from nz _ h2)]
      simp only [E.force_eq]
      have ew : E.φ (E.sub (E.mul c.1 (E.mul a.2.2 a.2.2)) (E.mul a.1 (E.mul c.2.2 c.2.2))) = (E.φ3 c).1 * ((E.φ3 a).2.2 * (E.φ3 a).2.2) - (E.φ3 a).1 * ((E.φ3 c).2.2 * (E.φ3 c).2.2) := by simp only [Ev.φ3, E.sub_φ, E.mul_φ]
      have er : E.φ (E.sub (E.mul (E.mul c.2.1 (E.mul a.2.2 a.2.2)) a.2.2) (E.mul (E.mul a.2.1 (E.mul c.2.2 c.2.2)) c.2.2)) = (E.φ3 c).2.1 * ((E.φ3 a).2.2 * (E.φ3 a).2.2) * (E.φ3 a).2.2 - (E.φ3 a).2.1 * ((E.φ3 c).2.2 * (E.φ3 c).2.2) * (E.φ3 c).2.2 := by simp only [Ev.φ3, E.sub_φ, E.mul_φ]
      cases h3 : E.isz (E.sub (E.mul c.1 (E.mul a.2.2 a.2.2)) (E.mul a.1 (E.mul c.2.2 c.2.2))) with
      | true =>
        have := (E.isz_φ _).1 h3
        rw [ew] at this
        rw [if_pos this]
        cases h4 : E.isz (E.sub (E.mul (E.mul c.2.1 (E.mul a.2.2 a.2.2)) a.2.2) (E.mul (E.mul a.2.1 (E.mul c.2.2 c.2.2)) c.2.2)) with
        | true =>
          have := (E.isz_φ _).1 h4
          rw [er] at this
          rw [if_pos this]
          exact E.dbl_φ a
        | false =>
          have := nz _ h4
          rw [er] at this
          rw [if_neg this]
          show (E.φ E.zero, E.φ E.zero, E.φ E.zero) = _
          rw [E.zero_φ]
      | false =>
        have := nz _ h3
        rw [ew] at this
        rw [if_neg this]
        simp only [Ev.φ3, jfin, jaX, E.sub_φ, E.mul_φ]
/-- So many times, by the digits of the number, from its lowest: 2 n, 2 n + 1. -/
def Ev.mul2 (o : E.J) : Nat → Nat → E.J
  | 0, _ => (E.zero, E.zero, E.zero)
  | f + 1, n => match Nat.beq n 0 with
    | true => (E.zero, E.zero, E.zero)
    | false => match Nat.beq (n % 2) 1 with
      | true => E.jadd (E.dbl (Ev.mul2 o f (n / 2))) o
      | false => E.dbl (Ev.mul2 o f (n / 2))
variable {E} in
theorem Ev.mul2_rep {b : F} (hb : b ≠ 0) {o : E.J} {P : F × F} (ho : Rep b (E.φ3 o) P) : ∀ f n, n < 2 ^ f → Rep b (E.φ3 (E.mul2 o f n)) (nmul P n) := by
  have h0 : Rep b (E.φ3 (E.zero, E.zero, E.zero)) (O2 : F × F) := .inl ⟨E.zero_φ, rfl⟩
  intro f
  induction f with
  | zero => intro n h; have : n = 0 := by simp at h; exact h
            subst this; exact h0
  | succ f ih =>
    intro n h
    unfold Ev.mul2
    split
    · rename_i hn; have := Nat.eq_of_beq_eq_true hn; subst this; exact h0
    · have hr := ih (n / 2) (by rw [Nat.pow_succ] at h; omega)
      have hd := rep_dbl hb hr
      rw [← E.dbl_φ, ← nmul_add hb ho.on] at hd
      split
      · rename_i h1
        have h1 := Nat.eq_of_beq_eq_true h1
        have ha := rep_add hb hd ho
        rw [← E.jadd_φ] at ha
        have e : n = n / 2 + n / 2 + 1 := by omega
        have : nmul P n = padd (nmul P (n / 2 + n / 2)) P := by
          conv => lhs; rw [e]
          rfl
        rw [this]
        exact ha
      · rename_i h1
        have h1 : n % 2 ≠ 1 := fun h2 => by rw [h2] at h1; exact absurd h1 (by decide)
        have e : n = n / 2 + n / 2 := by omega
        have : nmul P n = nmul P (n / 2 + n / 2) := by conv => lhs; rw [e]
        rw [this]
        exact hd
end
end Cr
/- The generator's order, by computation. No program here. -/
namespace Cr
open Rg Fd
def fc {α : Type} (n : Nat) (k : Nat → α) : α := Nat.rec (k 0) (fun m _ => k (m + 1)) n
theorem fc_eq {α : Type} (n : Nat) (k : Nat → α) : fc n k = k n := by cases n <;> rfl
def pN : Nat := 4002409555221667393417789825735904156556882819939007885332058136124031650490837864442687629129015664037894272559787
theorem zm_nat (n : Nat) : (zm ((n % pN : Nat) : Int) : Fp) = zm (n : Int) := zm_eq (by rw [Int.natCast_emod]; exact Int.emod_emod_of_dvd _ (Int.dvd_refl _))
noncomputable def evP1 : Ev Fp where
  V := Nat
  φ n := zm (n : Int)
  add a b := (a + b) % pN
  sub a b := (a + (pN - b % pN)) % pN
  mul a b := (a * b) % pN
  isz a := Nat.beq (a % pN) 0
  zero := 0
  force := fc
  add_φ a b := by rw [zm_nat, zm_add, Int.natCast_add]
  sub_φ a b := by
    rw [zm_nat, zm_sub]
    refine zm_eq ?_
    have h := Nat.mod_lt b (show 0 < pN by decide)
    have e : ((a + (pN - b % pN) : Nat) : Int) = (a : Int) - b + (pN : Int) * (1 + (b : Int) / pN) := by
      have h2 := Int.emod_add_mul_ediv (b : Int) (pN : Int)
      rw [Int.mul_add, Int.mul_one]
      omega
    rw [e]
    exact Int.add_mul_emod_self_left _ _ _
  mul_φ a b := by rw [zm_nat, zm_mul, Int.natCast_mul]
  isz_φ a := by
    constructor
    · intro h
      have h := Nat.eq_of_beq_eq_true h
      rw [← zm_nat, h]; rfl
    · intro h
      have h : (zm (a : Int) : Fp).v = 0 := by rw [h, zero_v]
      have h : (a : Int) % (pN : Int) = 0 := h
      have : a % pN = 0 := by omega
      rw [this]; rfl
  zero_φ := rfl
  force_eq := fc_eq
def gxN : Nat := 0x17f1d3a73197d7942695638c4fa9ac0fc3688c4f9774b905a14e3a3f171bac586c55e83ff97a1aeffb3af00adb22c6bb
def gyN : Nat := 0x08b3f481e3aaa0f1a09e30ed741d8ae4fcf5e095d5d00af600db18cb2c04b3edd03cc744a2888ae40caa232946c5e7e1
theorem ord_z : evP1.isz (evP1.mul2 (gxN, gyN, (1 : Nat)) 256 52435875175126190479447740508185965837690552500527637822603658699938581184513).2.2 = true := by kernel_rfl
end Cr
/- The second generator's order, by computation. No program here. -/
namespace Cr
open Rg Fd
def addN2 (a b : Nat) : Nat := (a + b) % pN
def subN2 (a b : Nat) : Nat := (a + (pN - b % pN)) % pN
def mulN2 (a b : Nat) : Nat := (a * b) % pN
theorem addN2_φ (a b : Nat) : (zm ((addN2 a b : Nat) : Int) : Fp) = zm (a : Int) + zm (b : Int) := evP1.add_φ a b
theorem subN2_φ (a b : Nat) : (zm ((subN2 a b : Nat) : Int) : Fp) = zm (a : Int) - zm (b : Int) := evP1.sub_φ a b
theorem mulN2_φ (a b : Nat) : (zm ((mulN2 a b : Nat) : Int) : Fp) = zm (a : Int) * zm (b : Int) := evP1.mul_φ a b
noncomputable def evP2 : Ev F2 where
  V := Nat × Nat
  φ n := (zm (n.1 : Int), zm (n.2 : Int))
  add a b := (addN2 a.1 b.1, addN2 a.2 b.2)
  sub a b := (subN2 a.1 b.1, subN2 a.2 b.2)
  mul a b := (subN2 (a.1 * b.1) (a.2 * b.2), addN2 (a.1 * b.2) (a.2 * b.1))
  isz a := Nat.beq (a.1 % pN) 0 && Nat.beq (a.2 % pN) 0
  zero := (0, 0)
  force a k := fc a.1 fun x => fc a.2 fun y => k (x, y)
  add_φ a b := by rw [F2.add_def, addN2_φ, addN2_φ]
  sub_φ a b := by rw [F2.sub_def, subN2_φ, subN2_φ]
  mul_φ a b := by
    rw [F2.mul_def, addN2_φ, subN2_φ]
    simp only [Int.natCast_mul, ← zm_mul]
  isz_φ a := by
    rw [Bool.and_eq_true]
    have h1 := evP1.isz_φ a.1
    have h2 := evP1.isz_φ a.2
    constructor
    · rintro ⟨e1, e2⟩
      exact F2.ext (h1.1 e1) (h2.1 e2)
    · intro e
      exact ⟨h1.2 (congrArg Prod.fst e), h2.2 (congrArg Prod.snd e)⟩
  zero_φ := rfl
  force_eq a k := by rw [fc_eq, fc_eq]
def qxA : Nat := 0x024aa2b2f08f0a91260805272dc51051c6e47ad4fa403b02b4510b647ae3d1770bac0326a805bbefd48056c8c121bdb8
def qxB : Nat := 0x13e02b6052719f607dacd3a088274f65596bd0d09920b61ab5da61bbdc7f5049334cf11213945d57e5ac7d055d042b7e
def qyA : Nat := 0x0ce5d527727d6e118cc9cdc6da2e351aadfd9baa8cbdd3a76d429a695160d12c923ac9cc3baca289e193548608b82801
def qyB : Nat := 0x0606c4a02ea734cc32acd2b02bc28b99cb3e287e85a763af267492ab572e99ab3f370d275cec1da1aaa9075ff05f79be
theorem ord2_z : evP2.isz (evP2.mul2 ((qxA, qxB), (qyA, qyB), ((1 : Nat), (0 : Nat))) 256 52435875175126190479447740508185965837690552500527637822603658699938581184513).2.2 = true := by kernel_rfl
end Cr
/- g1: the group; scalars. -/
namespace Go.Proofs.Ytndjibcccdnfdaa.g1
set_option maxRecDepth 100000
open Go Go.Eng Go.RowKit Cr Go.Proofs.Ytndjibcccdnfdaa

theorem gG_ne : gG ≠ O2 := by rw [gG_eq]; decide
theorem gmul_on {p : Fp × Fp} (hp : Onb p) (k : Fr) : Onb (gmul p k) := by rw [gmul_eq hp]; exact nmul_on b4_ne hp _
def rN : Nat := 52435875175126190479447740508185965837690552500527637822603658699938581184513
theorem gG_ord : nmul gG rN = O2 := by
  have h1 : Rep b4 (evP1.φ3 (gxN, gyN, (1 : Nat))) gG := by
    have h := rep_lift gG_on
    unfold jlift at h
    rw [if_neg gG_ne, gG_eq] at h
    rw [gG_eq]
    exact h
  have h2 := Ev.mul2_rep b4_ne h1 256 rN (by decide)
  have h3 := (evP1.isz_φ _).1 ord_z
  rcases h2 with ⟨_, h⟩ | ⟨h, _⟩
  · exact h
  · exact absurd h3 h
/-- Points that come to nought r times. -/
def Sub (p : Fp × Fp) : Prop := Onb p ∧ nmul p rN = O2
theorem sub_G : Sub gG := ⟨gG_on, gG_ord⟩
theorem sub_nmul {p : Fp × Fp} (h : Sub p) (n : Nat) : Sub (nmul p n) := by
  refine ⟨nmul_on b4_ne h.1 n, ?_⟩
  rw [nmul_mul b4_ne h.1, Nat.mul_comm, ← nmul_mul b4_ne h.1, h.2, nmul_O]
theorem sub_gmul {p : Fp × Fp} (h : Sub p) (k : Fr) : Sub (gmul p k) := by rw [gmul_eq h.1]; exact sub_nmul h _
theorem nmul_mod {p : Fp × Fp} (h : Sub p) (m : Nat) : nmul p m = nmul p (m % rN) := by
  conv => lhs; rw [← Nat.div_add_mod m rN]
  rw [nmul_add b4_ne h.1, ← nmul_mul b4_ne h.1, h.2, nmul_O, O_add]
theorem frv (x : Fr) : ∃ n : Nat, x.v = (n : Int) ∧ n < rN := by
  obtain ⟨n, hn⟩ := Int.eq_ofNat_of_zero_le x.nn
  exact ⟨n, hn, by have := x.lt; have e : Mr = (rN : Int) := rfl; omega⟩
theorem mul_of {p : Fp × Fp} (h : Sub p) {x : Fr} {m : Nat} (hx : x.v = (m : Int) % (rN : Int)) : gmul p x = nmul p m := by
  rw [gmul_eq h.1, hx, nmul_mod h m, ← Int.natCast_emod, Int.toNat_natCast]
theorem mul_add {p : Fp × Fp} (h : Sub p) (x y : Fr) : gmul p (x + y) = padd (gmul p x) (gmul p y) := by
  obtain ⟨m, hm, _⟩ := frv x
  obtain ⟨n, hn, _⟩ := frv y
  rw [mul_of h (x := x + y) (m := m + n) (by rw [add_v, hm, hn, Int.natCast_add]; rfl), gmul_eq h.1, gmul_eq h.1, hm, hn, Int.toNat_natCast, Int.toNat_natCast, nmul_add b4_ne h.1]
theorem mul_mul {p : Fp × Fp} (h : Sub p) (x y : Fr) : gmul p (x * y) = gmul (gmul p x) y := by
  obtain ⟨m, hm, _⟩ := frv x
  obtain ⟨n, hn, _⟩ := frv y
  rw [mul_of h (x := x * y) (m := m * n) (by rw [mul_v, hm, hn, Int.natCast_mul]; rfl), gmul_eq (sub_gmul h x).1, gmul_eq h.1, hm, hn, Int.toNat_natCast, Int.toNat_natCast, nmul_mul b4_ne h.1]
theorem mul_zero {p : Fp × Fp} (h : Sub p) : gmul p 0 = O2 := by
  rw [gmul_eq h.1, zero_v]; rfl
theorem mul_one {p : Fp × Fp} (h : Sub p) : gmul p 1 = p := by
  rw [gmul_eq h.1, one_v]; exact nmul_one
theorem mul_neg {p : Fp × Fp} (h : Sub p) (x : Fr) : gmul p (-x) = pneg (gmul p x) := by
  have e : padd (gmul p x) (gmul p (-x)) = O2 := by rw [← mul_add h, Rg.add_neg, mul_zero h]
  have hx := (sub_gmul h x).1
  have hn := (sub_gmul h (-x)).1
  have := cancel b4_ne hx hn
  rw [e, add_O] at this
  exact this.symm
end Go.Proofs.Ytndjibcccdnfdaa.g1
namespace Go.Proofs.Ytndjibcccdnfdaa.g2
set_option maxRecDepth 100000
open Go Go.Eng Go.RowKit Cr Go.Proofs.Ytndjibcccdnfdaa Go.Proofs.Ytndjibcccdnfdaa.fp2

theorem gG_ne : gG ≠ O2 := by rw [gG_eq]; exact fun h => absurd (congrArg (fun p : F2 × F2 => p.1.1) h) (by decide)
theorem gmul_on {p : F2 × F2} (hp : Onb p) (k : Fr) : Onb (gmul p k) := by rw [gmul_eq hp]; exact nmul_on b4_ne hp _
abbrev rN : Nat := g1.rN
theorem gG_ord : nmul gG rN = O2 := by
  have h1 : Rep b4 (evP2.φ3 ((qxA, qxB), (qyA, qyB), ((1 : Nat), (0 : Nat)))) gG := by
    have h := rep_lift gG_on
    unfold jlift at h
    rw [if_neg gG_ne, gG_eq] at h
    rw [gG_eq]
    exact h
  have h2 := Ev.mul2_rep b4_ne h1 256 rN (by decide)
  have h3 := (evP2.isz_φ _).1 ord2_z
  rcases h2 with ⟨_, h⟩ | ⟨h, _⟩
  · exact h
  · exact absurd h3 h
/-- Points that come to nought r times. -/
def Sub (p : F2 × F2) : Prop := Onb p ∧ nmul p rN = O2
theorem sub_G : Sub gG := ⟨gG_on, gG_ord⟩
theorem sub_nmul {p : F2 × F2} (h : Sub p) (n : Nat) : Sub (nmul p n) := by
  refine ⟨nmul_on b4_ne h.1 n, ?_⟩
  rw [nmul_mul b4_ne h.1, Nat.mul_comm, ← nmul_mul b4_ne h.1, h.2, nmul_O]
theorem sub_gmul {p : F2 × F2} (h : Sub p) (k : Fr) : Sub (gmul p k) := by rw [gmul_eq h.1]; exact sub_nmul h _
theorem nmul_mod {p : F2 × F2} (h : Sub p) (m : Nat) : nmul p m = nmul p (m % rN) := by
  conv => lhs; rw [← Nat.div_add_mod m rN]
  rw [nmul_add b4_ne h.1, ← nmul_mul b4_ne h.1, h.2, nmul_O, O_add]
theorem frv (x : Fr) : ∃ n : Nat, x.v = (n : Int) ∧ n < rN := g1.frv x
theorem mul_of {p : F2 × F2} (h : Sub p) {x : Fr} {m : Nat} (hx : x.v = (m : Int) % (rN : Int)) : gmul p x = nmul p m := by
  rw [gmul_eq h.1, hx, nmul_mod h m, ← Int.natCast_emod, Int.toNat_natCast]
theorem mul_add {p : F2 × F2} (h : Sub p) (x y : Fr) : gmul p (x + y) = padd (gmul p x) (gmul p y) := by
  obtain ⟨m, hm, _⟩ := frv x
  obtain ⟨n, hn, _⟩ := frv y
  rw [mul_of h (x := x + y) (m := m + n) (by rw [add_v, hm, hn, Int.natCast_add]; rfl), gmul_eq h.1, gmul_eq h.1, hm, hn, Int.toNat_natCast, Int.toNat_natCast, nmul_add b4_ne h.1]
theorem mul_mul {p : F2 × F2} (h : Sub p) (x y : Fr) : gmul p (x * y) = gmul (gmul p x) y := by
  obtain ⟨m, hm, _⟩ := frv x
  obtain ⟨n, hn, _⟩ := frv y
  rw [mul_of h (x := x * y) (m := m * n) (by rw [mul_v, hm, hn, Int.natCast_mul]; rfl), gmul_eq (sub_gmul h x).1, gmul_eq h.1, hm, hn, Int.toNat_natCast, Int.toNat_natCast, nmul_mul b4_ne h.1]
theorem mul_zero {p : F2 × F2} (h : Sub p) : gmul p 0 = O2 := by
  rw [gmul_eq h.1, zero_v]; rfl
theorem mul_one {p : F2 × F2} (h : Sub p) : gmul p 1 = p := by
  rw [gmul_eq h.1, one_v]; exact nmul_one
theorem mul_neg {p : F2 × F2} (h : Sub p) (x : Fr) : gmul p (-x) = pneg (gmul p x) := by
  have e : padd (gmul p x) (gmul p (-x)) = O2 := by rw [← mul_add h, Rg.add_neg, mul_zero h]
  have hx := (sub_gmul h x).1
  have hn := (sub_gmul h (-x)).1
  have := cancel b4_ne hx hn
  rw [e, add_O] at this
  exact this.symm
end Go.Proofs.Ytndjibcccdnfdaa.g2
