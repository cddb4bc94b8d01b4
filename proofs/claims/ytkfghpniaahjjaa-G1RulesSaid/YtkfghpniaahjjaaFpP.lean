/- power, Inv of package fp. Printed by gen_pow.py. -/
import Derived.Test.YtkfghpniaahjjaaBts
import Derived.Test.YtkfghpniaahjjaaRawP
namespace Go.Proofs.Ytkfghpniaahjjaa.fp
set_option maxRecDepth 100000
open Go Go.Eng Go.RowKit Cr Go.Proofs.Ytkfghpniaahjjaa

theorem ent_power : enters Try.prog 96 Try.f96 := enters_mk (by kernel_rfl) (by kernel_rfl) (by kernel_rfl)
noncomputable def powI (x : Fp) (es : List Int) (g : Int × List Fp) : St := mkSt Try.f96.ntmps 64 [(2, .is (.one (.ptr 0 0))), (3, .is (.one (.ptr 8 0))), (4, .is (.one (.ptr 16 0))), (5, .is (.one (.ptr 24 0))), (11, sI .i64 g.1)] [(0, [.row .fp 1 [x]]), (8, [.ints .u64 6 es]), (16, [.row .fp 1 [(0 : Fp)]]), (24, [.row .fp 16 g.2])]
noncomputable def powJ (es : List Int) (tb : List Fp) (g : Int × Fp) : St := mkSt Try.f96.ntmps 96 [(3, .is (.one (.ptr 8 0))), (4, .is (.one (.ptr 16 0))), (5, .is (.one (.ptr 24 0))), (7, .is (.one (.ptr 72 0))), (24, sI .i64 g.1)] [(8, [.ints .u64 6 es]), (16, [.row .fp 1 [(0 : Fp)]]), (24, [.row .fp 16 tb]), (72, [.row .fp 1 [g.2]])]
noncomputable def powK (es : List Int) (tb : List Fp) (i : Int) (g : Int × Fp) : St := mkSt Try.f96.ntmps 128 [(3, .is (.one (.ptr 8 0))), (4, .is (.one (.ptr 16 0))), (5, .is (.one (.ptr 24 0))), (7, .is (.one (.ptr 72 0))), (8, sI .i64 i), (24, sI .i64 i), (27, sI .i64 g.1)] [(8, [.ints .u64 6 es]), (16, [.row .fp 1 [(0 : Fp)]]), (24, [.row .fp 16 tb]), (72, [.row .fp 1 [g.2]])]
noncomputable def powL (es : List Int) (tb : List Fp) (i : Int) (y : Fp) : St := mkSt Try.f96.ntmps 104 [(3, .is (.one (.ptr 8 0))), (4, .is (.one (.ptr 16 0))), (5, .is (.one (.ptr 24 0))), (7, .is (.one (.ptr 72 0))), (24, sI .i64 i)] [(8, [.ints .u64 6 es]), (16, [.row .fp 1 [(0 : Fp)]]), (24, [.row .fp 16 tb]), (72, [.row .fp 1 [y]])]
abbrev prePower : HL [.fp, (.arr 6 (.int .u64))] → Prop := fun (_, es, _) => Ws es
noncomputable abbrev outPower : HL [.fp, (.arr 6 (.int .u64))] → HO [.val .fp] := fun (x, es, _) => (zpw (x : Fp) (val es), ())

theorem fn_power : FnOk Try.prog 96 [.fp, (.arr 6 (.int .u64))] [.val .fp] noG prePower outPower := by
  have hsp : SpecsOk Try.prog (sps [spOne, spMul, spSquare]) := sps_cons (fnSpec_ok fn_one) (sps_cons (fnSpec_ok fn_mul) (sps_cons (fnSpec_ok fn_square) sps_nil))
  refine fn_of_tr (sp := sps [spOne, spMul, spSquare]) ent_power (by decide) (by decide) (by kernel_rfl) ?_
  rintro w M0 ⟨x, es, ⟨⟩⟩ ⟨_, ⟨hl, _⟩, _⟩ he
  have hl : List.length es = 6 := hl
  have he : Ws es := he
  have hE := val_nonneg he
  have hE2 : val es < p16 96 := by have := val_lt he; rw [hl] at this; rw [show 96 = 16 * 6 from rfl, p16_16]; exact this
  have hes : es = lim 6 (val es) := by have := lim_val he; rw [hl] at this; exact this.symm
  show Tr _ _ _ _ _ _ _
  refine tr_cut hsp mixed 4 (powI x es (0, (List.replicate 16 (0 : Fp)).set 0 1)) True ?_ (fun _ => ?_)
  · refine vcx (X := True ∧ (0 : Nat) < 16 ∧ (powI x es (0, (List.replicate 16 (0 : Fp)).set 0 1)).triv True) (by kernel_rfl) ⟨trivial, by decide, triv_intro trivial⟩
  rw [show (List.replicate 16 (0 : Fp)).set 0 1 = tabAt (zpow x) 0 0 from rfl]
  refine tr_count hsp mixed (powI x es) (fun k => ((k : Int), tabAt (zpow x) 0 k)) 15 (fun g => (IntKind.i64.wrap (g.1 + 1), g.2.set (IntKind.i64.wrap (g.1 + 1)).toNat (g.2.getD g.1.toNat 0 * x))) (powI x es) (c := nthC (codeOf Try.f96) 4) (by kernel_rfl) (by kernel_rfl) (le_of_proj (by kernel_rfl) (by kernel_rfl) trivial)
    (fun k hk => by
      show (_, _) = (_, _)
      rw [wrap_succ (by omega), Int.toNat_natCast, Int.toNat_natCast, tabAt_get _ _ _ (Nat.le_refl k) (by omega), show zpow x k * x = zpow x (k + 1) from rfl, tabAt_set]) ?_ ?_
  · intro k hk
    refine vcx (X := ((decide ((k : Int) < 15) = true → (0 ≤ (k : Int) ∧ (k : Int) < ((16 : Nat) : Int)) ∧ (k : Int).toNat < 16 ∧ True ∧ (0 ≤ IntKind.i64.wrap ((k : Int) + 1) ∧ IntKind.i64.wrap ((k : Int) + 1) < ((16 : Nat) : Int)) ∧ (IntKind.i64.wrap ((k : Int) + 1)).toNat < 16 ∧
        (powI x es (IntKind.i64.wrap ((k : Int) + 1), (tabAt (zpow x) 0 k).set (IntKind.i64.wrap ((k : Int) + 1)).toNat ((tabAt (zpow x) 0 k).getD (k : Int).toNat 0 * x))).triv (k < 15)) ∧
      (decide ((k : Int) < 15) = false → (powI x es ((k : Int), tabAt (zpow x) 0 k)).triv (k = 15)))) (by kernel_rfl) ?_
    refine ⟨fun h => ?_, fun h => triv_intro (by have := dec_ge h; omega)⟩
    have hlt : k < 15 := by have := dec_lt h; omega
    rw [wrap_succ (by omega)]
    exact ⟨⟨by omega, by omega⟩, by omega, trivial, ⟨by omega, by omega⟩, by omega, triv_intro hlt⟩
  generalize htb : tabAt (zpow x) 0 15 = tb
  have hget : ∀ j, j < 16 → tb.getD j 0 = zpow x j := fun j hj => by rw [← htb]; exact tabAt_get _ _ _ (by omega) hj
  clear htb
  refine tr_cut hsp mixed 2 (powJ es tb (0, 1)) True ?_ (fun _ => ?_)
  · refine vcx (X := True ∧ (powJ es tb (0, 1)).triv True) (by kernel_rfl) ⟨trivial, triv_intro trivial⟩
  rw [show ((0 : Int), (1 : Fp)) = (((0 : Nat) : Int), zpow x (val es / p16 (96 - 0)).toNat) by
    rw [Nat.sub_zero, Int.ediv_eq_zero_of_lt hE hE2]; rfl]
  refine tr_countT (powJ es tb) (fun i => ((i : Int), zpow x (val es / p16 (96 - i)).toNat)) 96 (fun g => (IntKind.i64.wrap (g.1 + 1), sqn g.2 4 * tb.getD (pdig (5 : Nat) es g.1).toNat 0)) (powJ es tb) (c := nthC (codeOf Try.f96) 7) (by kernel_rfl) (by kernel_rfl) (le_of_proj (by kernel_rfl) (by kernel_rfl) trivial)
    (fun i hi => by
      show (_, _) = (_, _)
      rw [wrap_succ (by omega), hes, pdig_ok (n := 5) hi (by omega), ← hes]
      rw [hget _ (by omega), sqn_zpow, ← zpow_add]
      congr 2
      have := digit_step hE (96 - 1 - i)
      rw [show 96 - (i + 1) = 96 - 1 - i by omega, this, show 96 - 1 - i + 1 = 96 - i by omega]) ?_ ?_
  · intro i hi
    generalize zpow x (val es / p16 (96 - i)).toNat = y
    refine tr_cut hsp mixed 2 (powL es tb (i : Int) y) (i < 96) ?_ (fun hlt => ?_)
    · refine vcx (X := ((decide ((i : Int) < 96) = true → (powL es tb (i : Int) y).triv (i < 96)) ∧ (decide ((i : Int) < 96) = false → (powJ es tb ((i : Int), y)).triv (i = 96)))) (by kernel_rfl) ?_
      exact ⟨fun h => triv_intro (by have := dec_lt h; omega), fun h => triv_intro (by have := dec_ge h; omega)⟩
    refine tr_block (c := nthC (loopOf (nthC (codeOf Try.f96) 7)) 2) (by kernel_rfl) (by kernel_rfl) ?_
    refine tr_cut hsp mixed 2 (powK es tb (i : Int) (0, y)) True ?_ (fun _ => ?_)
    · refine vcx (X := (powK es tb (i : Int) (0, y)).triv True) (by kernel_rfl) (triv_intro trivial)
    refine tr_count hsp mixed (powK es tb (i : Int)) (fun j => ((j : Int), sqn y j)) 4 (fun g => (IntKind.i64.wrap (g.1 + 1), g.2 * g.2)) (powK es tb (i : Int)) (c := nthC (bodyOf (nthC (loopOf (nthC (codeOf Try.f96) 7)) 2)) 2) (by kernel_rfl) (by kernel_rfl) (le_of_proj (by kernel_rfl) (by kernel_rfl) trivial)
      (fun j hj => by show (_, _) = (_, _); rw [wrap_succ (by omega)]; rfl) ?_ ?_
    · intro j hj
      refine vcx (X := ((decide ((j : Int) < 4) = true → True ∧ (powK es tb (i : Int) (IntKind.i64.wrap ((j : Int) + 1), sqn y j * sqn y j)).triv (j < 4)) ∧ (decide ((j : Int) < 4) = false → (powK es tb (i : Int) ((j : Int), sqn y j)).triv (j = 4)))) (by kernel_rfl) ?_
      exact ⟨fun h => ⟨trivial, triv_intro (by have := dec_lt h; omega)⟩, fun h => triv_intro (by have := dec_ge h; omega)⟩
    refine tr_cut hsp mixed 1 (powJ es tb ((i : Int), sqn y 4 * tb.getD (pdig (5 : Nat) es i).toNat 0)) True ?_ (fun _ => ?_)
    · refine vcx (X := ((16 : Int) ≠ 0 ∧ (0 ≤ pj (5 : Nat) i ∧ pj (5 : Nat) i < ((6 : Nat) : Int)) ∧ (pj (5 : Nat) i).toNat < 6 ∧ (16 : Int) ≠ 0 ∧ 0 ≤ psh i ∧ (0 ≤ pdig (5 : Nat) es i ∧ pdig (5 : Nat) es i < ((16 : Nat) : Int)) ∧ (pdig (5 : Nat) es i).toNat < 16 ∧ True ∧ (powJ es tb ((i : Int), sqn y 4 * tb.getD (pdig (5 : Nat) es i).toNat 0)).triv True)) (by kernel_rfl) ?_
      obtain ⟨b1, b2, b3⟩ := pdig_bd (n := 5) hlt (by omega)
      have b4 : 0 ≤ pdig (5 : Nat) es i ∧ pdig (5 : Nat) es i < 16 := by
        rw [hes, pdig_ok (n := 5) hlt (by omega)]
        omega
      exact ⟨by decide, b1, b2, by decide, b3, b4, by omega, trivial, triv_intro trivial⟩
    refine tr_nil ?_
    refine tr_vc hsp mixed _ _ ?_
    refine vcx (X := (powJ es tb (IntKind.i64.wrap ((i : Int) + 1), sqn y 4 * tb.getD (pdig (5 : Nat) es i).toNat 0)).triv (i < 96)) (by kernel_rfl) (triv_intro hlt)
  refine tr_vc hsp mixed _ _ ?_
  refine vcx (X := (zpow x (val es / p16 (96 - 96)).toNat, ()) = outPower (x, es, ())) (by kernel_rfl) ?_
  rw [Nat.sub_self, p16, Int.ediv_one, ← zpw_eq]
noncomputable def spPower : Nat × Eng.Spec := (96, fnSpec [.fp, (.arr 6 (.int .u64))] [.val .fp] prePower outPower)

theorem ent_inv : enters Try.prog 87 Try.f87 := enters_mk (by kernel_rfl) (by kernel_rfl) (by kernel_rfl)
/-- x to the power of the modulus less 2. -/
noncomputable def zinv (x : Fp) : Fp := zpw x 4002409555221667393417789825735904156556882819939007885332058136124031650490837864442687629129015664037894272559785
noncomputable abbrev outInv : HL [.fp] → HO [.val .fp] := fun (x, _) => (zinv (x : Fp), ())
theorem val_pm2 : val [13402431016077863593, 2210141511517208575, 7435674573564081700, 7239337960414712511, 5412103778470702295, 1873798617647539866] = 4002409555221667393417789825735904156556882819939007885332058136124031650490837864442687629129015664037894272559785 := by decide
theorem fn_inv : FnOk Try.prog 87 [.fp] [.val .fp] noG (fun _ => True) outInv := by
  refine fn_of_vc (sp := sps [spPower]) (sps_cons (fnSpec_ok fn_power) sps_nil) mixed ent_inv (by decide) (by decide) ?_
  rintro w M0 ⟨x, ⟨⟩⟩ _ _
  refine vcx (X := (prePower (x, [13402431016077863593, 2210141511517208575, 7435674573564081700, 7239337960414712511, 5412103778470702295, 1873798617647539866], ()) ∧ (zpw x (val [13402431016077863593, 2210141511517208575, 7435674573564081700, 7239337960414712511, 5412103778470702295, 1873798617647539866]), ()) = outInv (x, ()))) (by kernel_rfl) ?_
  refine ⟨?_, ?_⟩
  · intro y hy; simp at hy; rcases hy with rfl | rfl | rfl | rfl | rfl | rfl <;> exact ⟨by decide, by decide⟩
  · rw [val_pm2]; rfl
noncomputable def spInv : Nat × Eng.Spec := (87, fnSpec [.fp] [.val .fp] (fun _ => True) outInv)
end Go.Proofs.Ytkfghpniaahjjaa.fp
