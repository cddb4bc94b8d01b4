/- Words of package cresset/fr: muladd, minus, plus, modulus, fit, times. Printed by gen_field.py. -/
import Derived.Test.YtkfghpniaahjjaaWord
import Derived.Test.YtkfghpniaahjjaaMont
namespace Go.Proofs.Ytkfghpniaahjjaa.fr
set_option maxRecDepth 100000
open Go Go.Eng Go.RowKit Cr Go.Proofs.Ytkfghpniaahjjaa

/-- The modulus. -/
abbrev M : Int := Mr
/-- Its words. -/
def ms : List Int := [18446744069414584321, 6034159408538082302, 3691218898639771653, 8353516859464449352]
/-- 1/2^256 modulo the modulus. -/
abbrev rinv : Int := Md.rinv Mr

theorem val_ms : val ms = M := by decide
theorem ws_ms : Ws ms := by intro x hx; simp [ms] at hx; rcases hx with rfl | rfl | rfl | rfl <;> exact ⟨by decide, by decide⟩
theorem M_pos : 0 < M := by decide
theorem M_two : 2 * M ≤ pw 4 := by decide
theorem pw_rinv : (pw 4 * rinv) % M = 1 % M := by decide


theorem ent_muladd : enters Try.prog 93 Try.f93 := enters_mk (by kernel_rfl) (by kernel_rfl) (by kernel_rfl)
abbrev preMuladd : HL [.int .u64, .int .u64, .int .u64, .int .u64] → Prop := fun (a, b, c, d, _) => U64 a ∧ U64 b ∧ U64 c ∧ U64 d
abbrev outMuladd : HL [.int .u64, .int .u64, .int .u64, .int .u64] → HO [.val (.int .u64), .val (.int .u64)] := fun (a, b, c, d, _) => (((a : Int) * b + c + d) / 18446744073709551616, (a * b + c + d) % 18446744073709551616, ())

theorem fn_muladd : FnOk Try.prog 93 [.int .u64, .int .u64, .int .u64, .int .u64] [.val (.int .u64), .val (.int .u64)] noG preMuladd outMuladd := by
  refine fn_of_vc (sp := sps [spMul64, spAdd64]) (sps_cons (fnSpec_ok fn_mul64) (sps_cons (fnSpec_ok fn_add64) sps_nil)) mixed ent_muladd (by decide) (by decide) ?_
  rintro w M0 ⟨a, b, c, d, ⟨⟩⟩ _ ⟨⟨ha0, ha⟩, ⟨hb0, hb⟩, ⟨hc0, hc⟩, hd0, hd⟩
  have hab := mul_bd (m := 18446744073709551615) (n := 18446744073709551615) ha0 (by omega) hb0 (by omega)
  refine vcx (X := (preMul64 (a, b, ()) ∧ preCarry (a * b % 18446744073709551616, c, (0 : Int), ()) ∧ preCarry ((a * b % 18446744073709551616 + c + 0) % 18446744073709551616, d, (0 : Int), ()) ∧
      ((((a * b / 18446744073709551616 + (a * b % 18446744073709551616 + c + 0) / 18446744073709551616) % 18446744073709551616 + ((a * b % 18446744073709551616 + c + 0) % 18446744073709551616 + d + 0) / 18446744073709551616) % 18446744073709551616,
        ((a * b % 18446744073709551616 + c + 0) % 18446744073709551616 + d + 0) % 18446744073709551616, ()) : Int × Int × Unit) = outMuladd (a, b, c, d, ()))) (by kernel_rfl) ?_
  refine ⟨⟨⟨ha0, ha⟩, hb0, hb⟩, ⟨⟨by omega, by omega⟩, ⟨hc0, hc⟩, .inl rfl⟩, ⟨⟨by omega, by omega⟩, ⟨hd0, hd⟩, .inl rfl⟩, ?_⟩
  simp only [outMuladd, Prod.mk.injEq, and_true]
  generalize (a : Int) * b = ab at *
  exact ⟨by omega, by omega⟩
noncomputable def spMuladd : Nat × Eng.Spec := (93, fnSpec [.int .u64, .int .u64, .int .u64, .int .u64] [.val (.int .u64), .val (.int .u64)] preMuladd outMuladd)


abbrev pre2 : HL [(.arr 4 (.int .u64)), (.arr 4 (.int .u64))] → Prop := fun (xs, ys, _) => Ws xs ∧ Ws ys
abbrev outMinus : HL [(.arr 4 (.int .u64)), (.arr 4 (.int .u64))] → HO [.val (.arr 4 (.int .u64)), .val (.int .u64)] := fun (xs, ys, _) => (lim 4 (val xs - val ys), if val xs < val ys then (1 : Int) else 0, ())
abbrev outPlus : HL [(.arr 4 (.int .u64)), (.arr 4 (.int .u64))] → HO [.val (.arr 4 (.int .u64))] := fun (xs, ys, _) => (lim 4 (val xs + val ys), ())

theorem ent_minus : enters Try.prog 90 Try.f90 := enters_mk (by kernel_rfl) (by kernel_rfl) (by kernel_rfl)
theorem fn_minus : FnOk Try.prog 90 [(.arr 4 (.int .u64)), (.arr 4 (.int .u64))] [.val (.arr 4 (.int .u64)), .val (.int .u64)] noG pre2 outMinus := by
  refine fn_of_vc (sp := sps [spSub64]) (sps_cons (fnSpec_ok fn_sub64) sps_nil) mixed ent_minus (by decide) (by decide) ?_
  rintro w M0 ⟨xs, ys, ⟨⟩⟩ ⟨⟨h1, _⟩, ⟨h2, _⟩, _⟩ ⟨hx, hy⟩
  match xs, ys, h1, h2, hx, hy with
  | [a0, a1, a2, a3], [b0, b1, b2, b3], _, _, hx, hy =>
    refine vcx (X := subPre [a0, a1, a2, a3] [b0, b1, b2, b3] 0 (((subL [a0, a1, a2, a3] [b0, b1, b2, b3] 0).1, (subL [a0, a1, a2, a3] [b0, b1, b2, b3] 0).2, ()) = outMinus ([a0, a1, a2, a3], [b0, b1, b2, b3], ()))) (by kernel_rfl) ?_
    refine subPre_ok _ _ 0 rfl hx hy (.inl rfl) ?_
    obtain ⟨e1, e2⟩ := subL_eq (us := [a0, a1, a2, a3]) (vs := [b0, b1, b2, b3]) rfl hx hy
    rw [e1, e2]
    rfl
noncomputable def spMinus : Nat × Eng.Spec := (90, fnSpec [(.arr 4 (.int .u64)), (.arr 4 (.int .u64))] [.val (.arr 4 (.int .u64)), .val (.int .u64)] pre2 outMinus)

theorem ent_plus : enters Try.prog 61 Try.f61 := enters_mk (by kernel_rfl) (by kernel_rfl) (by kernel_rfl)
theorem fn_plus : FnOk Try.prog 61 [(.arr 4 (.int .u64)), (.arr 4 (.int .u64))] [.val (.arr 4 (.int .u64))] noG pre2 outPlus := by
  refine fn_of_vc (sp := sps [spAdd64]) (sps_cons (fnSpec_ok fn_add64) sps_nil) mixed ent_plus (by decide) (by decide) ?_
  rintro w M0 ⟨xs, ys, ⟨⟩⟩ ⟨⟨h1, _⟩, ⟨h2, _⟩, _⟩ ⟨hx, hy⟩
  match xs, ys, h1, h2, hx, hy with
  | [a0, a1, a2, a3], [b0, b1, b2, b3], _, _, hx, hy =>
    refine vcx (X := addPre [a0, a1, a2, a3] [b0, b1, b2, b3] 0 (((addL [a0, a1, a2, a3] [b0, b1, b2, b3] 0).1, ()) = outPlus ([a0, a1, a2, a3], [b0, b1, b2, b3], ()))) (by kernel_rfl) ?_
    refine addPre_ok _ _ 0 rfl hx hy (.inl rfl) ?_
    rw [addL_eq (us := [a0, a1, a2, a3]) (vs := [b0, b1, b2, b3]) rfl hx hy]
    rfl
noncomputable def spPlus : Nat × Eng.Spec := (61, fnSpec [(.arr 4 (.int .u64)), (.arr 4 (.int .u64))] [.val (.arr 4 (.int .u64))] pre2 outPlus)

theorem ent_modulus : enters Try.prog 91 Try.f91 := enters_mk (by kernel_rfl) (by kernel_rfl) (by kernel_rfl)
theorem fn_modulus : FnOk Try.prog 91 [] [.val (.arr 4 (.int .u64))] noG (fun _ => True) (fun _ => (ms, ())) := by
  refine fn_of_vc (sp := sps []) sps_nil mixed ent_modulus (by decide) (by decide) ?_
  intro w M0 xs _ _
  exact vcx (X := ((ms, ()) : List Int × Unit) = (ms, ())) (by kernel_rfl) rfl
noncomputable def spModulus : Nat × Eng.Spec := (91, fnSpec [] [.val (.arr 4 (.int .u64))] (fun _ => True) (fun _ => (ms, ())))


abbrev preFit : HL [(.arr 4 (.int .u64))] → Prop := fun (xs, _) => Ws xs
abbrev outFit : HL [(.arr 4 (.int .u64))] → HO [.val (.arr 4 (.int .u64))] := fun (xs, _) => (if val xs < M then xs else lim 4 (val xs - M), ())
theorem ent_fit : enters Try.prog 60 Try.f60 := enters_mk (by kernel_rfl) (by kernel_rfl) (by kernel_rfl)
theorem fn_fit : FnOk Try.prog 60 [(.arr 4 (.int .u64))] [.val (.arr 4 (.int .u64))] noG preFit outFit := by
  refine fn_of_vc (sp := sps [spMinus, spModulus]) (sps_cons (fnSpec_ok fn_minus) (sps_cons (fnSpec_ok fn_modulus) sps_nil)) mixed ent_fit (by decide) (by decide) ?_
  rintro w M0 ⟨xs, ⟨⟩⟩ _ hx
  refine vcx (X := (True ∧ (Ws xs ∧ Ws ms) ∧ ((((if val xs < val ms then 1 else 0 : Int) != 0) = true → ((xs, ()) : List Int × Unit) = outFit (xs, ())) ∧ (((if val xs < val ms then 1 else 0 : Int) != 0) = false → ((lim 4 (val xs - val ms), ()) : List Int × Unit) = outFit (xs, ()))))) (by kernel_rfl) ?_
  refine ⟨trivial, ⟨hx, ws_ms⟩, ?_⟩
  rw [val_ms]
  by_cases h : val xs < M
  · simp [h, outFit]
  · simp [h, outFit]
noncomputable def spFit : Nat × Eng.Spec := (60, fnSpec [(.arr 4 (.int .u64))] [.val (.arr 4 (.int .u64))] preFit outFit)


/-- x y / 2^256 modulo the modulus. -/
abbrev preTimes : HL [(.arr 4 (.int .u64)), (.arr 4 (.int .u64))] → Prop := fun (xs, ys, _) => Ws xs ∧ Ws ys ∧ val xs < M
abbrev outTimes : HL [(.arr 4 (.int .u64)), (.arr 4 (.int .u64))] → HO [.val (.arr 4 (.int .u64))] := fun (xs, ys, _) => (lim 4 (val xs * val ys * rinv % M), ())
theorem ent_times : enters Try.prog 62 Try.f62 := enters_mk (by kernel_rfl) (by kernel_rfl) (by kernel_rfl)

noncomputable def timesI (xs ys : List Int) (g : Int × List Int) : St :=
  mkSt Try.f62.ntmps 88 ([(2, .is (.one (.ptr 0 0))), (4, .is (.one (.ptr 16 0)))] ++ [(7, sI .u64 (g.2.getD 0 0)), (8, sI .u64 (g.2.getD 1 0)), (9, sI .u64 (g.2.getD 2 0)), (10, sI .u64 (g.2.getD 3 0))] ++ [(14, sA .u64 4 ys), (15, sI .i64 g.1)])
    [(0, [.ints .u64 4 xs]), (16, [.ints .u64 4 (zeros 4)])]
noncomputable def timesO (g : Int × List Int) : St := mkSt Try.f62.ntmps 88 ([(4, .is (.one (.ptr 16 0)))] ++ [(7, sI .u64 (g.2.getD 0 0)), (8, sI .u64 (g.2.getD 1 0)), (9, sI .u64 (g.2.getD 2 0)), (10, sI .u64 (g.2.getD 3 0))]) [(16, [.ints .u64 4 (zeros 4)])]
def timesN (xs ys : List Int) (g : Int × List Int) : Int × List Int := (IntKind.i64.wrap (g.1 + 1), stepM 18446744069414584319 xs ms g.2 (ys.getD g.1.toNat 0))

/-- What muladd asks in a row. -/
def rowPre : List Int → List Int → List Int → Int → Int → Int → Int → Prop → Prop
  | x :: xs, p :: ps, t :: ts, v, m, a, c, K =>
    preMuladd (x, v, t, a, ()) ∧ preMuladd (m, p, (x * v + t + a) % 18446744073709551616, c, ()) ∧
      rowPre xs ps ts v m ((x * v + t + a) / 18446744073709551616) ((m * p + (x * v + t + a) % 18446744073709551616 + c) / 18446744073709551616) K
  | _, _, _, _, _, _, _, K => K

theorem rowPre_ok {K : Prop} {v m : Int} (hv : U64 v) (hm : U64 m) (hK : K) : ∀ (xs ps ts : List Int) (a c : Int), Ws xs → Ws ps → Ws ts → U64 a → U64 c → rowPre xs ps ts v m a c K := by
  intro xs
  induction xs with
  | nil => intro ps ts a c _ _ _ _ _; exact hK
  | cons x xs ih =>
    intro ps ts a c hx hp ht ha hc
    cases ps with
    | nil => exact hK
    | cons p ps =>
      cases ts with
      | nil => exact hK
      | cons t ts =>
        have x1 := hx x (by simp)
        have p1 := hp p (by simp)
        have t1 := ht t (by simp)
        have hxv := mul_bd (m := 18446744073709551615) (n := 18446744073709551615) x1.1 (by have := x1.2; omega) hv.1 (by have := hv.2; omega)
        have hmp := mul_bd (m := 18446744073709551615) (n := 18446744073709551615) hm.1 (by have := hm.2; omega) p1.1 (by have := p1.2; omega)
        obtain ⟨t2, t3⟩ := t1
        obtain ⟨a2, a3⟩ := ha
        obtain ⟨c2, c3⟩ := hc
        simp only [rowPre]
        generalize x * v = xv at *
        generalize m * p = mp at *
        refine ⟨⟨x1, hv, ⟨t2, t3⟩, a2, a3⟩, ⟨hm, p1, ⟨by omega, by omega⟩, c2, c3⟩, ?_⟩
        exact ih ps ts _ _ (fun y hy => hx y (by simp [hy])) (fun y hy => hp y (by simp [hy])) (fun y hy => ht y (by simp [hy])) ⟨by omega, by omega⟩ ⟨by omega, by omega⟩

/-- What muladd asks for one word of y. -/
def stepPre (xs ps ts : List Int) (v : Int) (K : Prop) : Prop :=
  match xs, ps, ts with
  | x :: xs, p :: ps, t :: ts =>
    preMuladd (x, v, t, (0 : Int), ()) ∧ preMuladd (((x * v + t + 0) % 18446744073709551616) * 18446744069414584319 % 18446744073709551616, p, (x * v + t + 0) % 18446744073709551616, (0 : Int), ()) ∧
    rowPre xs ps ts v (((x * v + t + 0) % 18446744073709551616) * 18446744069414584319 % 18446744073709551616) ((x * v + t + 0) / 18446744073709551616)
      (((((x * v + t + 0) % 18446744073709551616) * 18446744069414584319 % 18446744073709551616) * p + (x * v + t + 0) % 18446744073709551616 + 0) / 18446744073709551616) K
  | _, _, _ => K

theorem stepPre_ok {K : Prop} {v : Int} (hv : U64 v) (hK : K) {xs ps ts : List Int} (hx : Ws xs) (hp : Ws ps) (ht : Ws ts) : stepPre xs ps ts v K := by
  unfold stepPre
  split
  · rename_i x xs p ps t ts
    have x1 := hx x (by simp)
    have p1 := hp p (by simp)
    have t1 := ht t (by simp)
    have hxv := mul_bd (m := 18446744073709551615) (n := 18446744073709551615) x1.1 (by have := x1.2; omega) hv.1 (by have := hv.2; omega)
    obtain ⟨t2, t3⟩ := t1
    generalize x * v = xv at *
    generalize hm : ((xv + t + 0) % 18446744073709551616) * 18446744069414584319 % 18446744073709551616 = m
    have hm1 : U64 m := ⟨by omega, by omega⟩
    have hmp := mul_bd (m := 18446744073709551615) (n := 18446744073709551615) hm1.1 (by have := hm1.2; omega) p1.1 (by have := p1.2; omega)
    generalize m * p = mp at *
    refine ⟨⟨x1, hv, ⟨t2, t3⟩, by omega, by omega⟩, ⟨hm1, p1, ⟨by omega, by omega⟩, by omega, by omega⟩, ?_⟩
    exact rowPre_ok hv hm1 hK xs ps ts _ _ (fun y hy => hx y (by simp [hy])) (fun y hy => hp y (by simp [hy])) (fun y hy => ht y (by simp [hy])) ⟨by omega, by omega⟩ ⟨by omega, by omega⟩
  · exact hK

/-- After so many words. -/
def tsAt (xs ys : List Int) (k : Nat) : List Int := foldM 18446744069414584319 xs ms (List.replicate 4 0) (ys.take k)

/-- What holds at each round's head. -/
def timesJ (xs ys : List Int) (g : Int × List Int) : Prop := ∃ k : Nat, k ≤ 4 ∧ g = ((k : Int), tsAt xs ys k)

theorem foldM_snoc {can : Int} {xs ps : List Int} : ∀ (vs ts : List Int) (v : Int), foldM can xs ps ts (vs ++ [v]) = stepM can xs ps (foldM can xs ps ts vs) v := by
  intro vs
  induction vs with
  | nil => intro ts v; rfl
  | cons u vs ih => intro ts v; exact ih _ _

theorem fn_times : FnOk Try.prog 62 [(.arr 4 (.int .u64)), (.arr 4 (.int .u64))] [.val (.arr 4 (.int .u64))] noG preTimes outTimes := by
  refine fn_of_tr (sp := sps [spMuladd, spFit]) ent_times (by decide) (by decide) (by kernel_rfl) ?_
  have hsp : SpecsOk Try.prog (sps [spMuladd, spFit]) := sps_cons (fnSpec_ok fn_muladd) (sps_cons (fnSpec_ok fn_fit) sps_nil)
  rintro w M0 ⟨xs, ys, ⟨⟩⟩ ⟨⟨h1, _⟩, ⟨h2, _⟩, _⟩ ⟨hx, hy, hxM⟩
  match xs, h1, hx, hxM with
  | [a0, a1, a2, a3], _, hx, hxM =>
    have hyl : List.length ys = 4 := h2
    have hxl : [a0, a1, a2, a3].length = ms.length := rfl
    have hfold : ∀ k, (tsAt [a0, a1, a2, a3] ys k).length = ms.length ∧ Ws (tsAt [a0, a1, a2, a3] ys k) ∧ val (tsAt [a0, a1, a2, a3] ys k) < val [a0, a1, a2, a3] + val ms := by
      intro k
      have := foldM_spec (cancel := 18446744069414584319) hxl hx ws_ms (by simp [ms]) (by decide) (by rw [val_ms]; exact hxM) (by rw [val_ms]; exact M_two) (ys.take k) (List.replicate 4 0) (fun y hy' => hy y (List.mem_of_mem_take hy')) (by rfl)
        (by intro x hx; rw [(List.mem_replicate.1 hx).2]; exact ⟨by omega, by omega⟩) (by rw [val_ms, show val (List.replicate 4 0) = 0 from by decide]; have := val_nonneg hx; have := M_pos; omega)
      exact ⟨this.1, this.2.1, this.2.2.1⟩
    have hmont := mont_spec (cancel := 18446744069414584319) (xs := [a0, a1, a2, a3]) (ps := ms) (ys := ys) (rinv := rinv) hxl hyl hx ws_ms hy (by simp [ms]) (by decide) (by rw [val_ms]; exact hxM) (by rw [val_ms]; exact M_two) (by rw [val_ms]; exact pw_rinv)
    rw [val_ms] at hmont
    -- what holds at each round's head
    have J0 : timesJ [a0, a1, a2, a3] ys (0, List.replicate 4 0) := ⟨0, by omega, by simp [tsAt, foldM]⟩
    show Tr _ _ _ _ _ _ _
    refine tr_cut hsp mixed 3 (timesI [a0, a1, a2, a3] ys (0, List.replicate 4 0)) True ?_ (fun _ => ?_)
    · refine vcx (X := (timesI [a0, a1, a2, a3] ys (0, List.replicate 4 0)).triv True) (by kernel_rfl) (triv_intro trivial)
    refine tr_loopN hsp mixed (timesI [a0, a1, a2, a3] ys) (timesJ [a0, a1, a2, a3] ys) (fun g => (4 - g.1).toNat) (timesN [a0, a1, a2, a3] ys) timesO (fun g => g.2 = tsAt [a0, a1, a2, a3] ys 4) (0, List.replicate 4 0) (c := nthC (codeOf Try.f62) 3) (by kernel_rfl) (by kernel_rfl)
      (le_of_proj (by kernel_rfl) (by kernel_rfl) J0) ?_ ?_
    · rintro g ⟨k, hk, rfl⟩
      obtain ⟨f1, f2, f3⟩ := hfold k
      have hts : ∃ t0 t1 t2 t3, tsAt [a0, a1, a2, a3] ys k = [t0, t1, t2, t3] := by
        match tsAt [a0, a1, a2, a3] ys k, f1 with
        | [t0, t1, t2, t3], _ => exact ⟨_, _, _, _, rfl⟩
      obtain ⟨t0, t1, t2, t3, hts⟩ := hts
      rw [hts] at f2 ⊢
      refine vcx (X := ((decide ((k : Int) < 4) = true → (0 ≤ (k : Int) ∧ (k : Int) < (4 : Nat)) ∧ stepPre [a0, a1, a2, a3] ms [t0, t1, t2, t3] (ys.getD (k : Int).toNat 0) ((timesI [a0, a1, a2, a3] ys (timesN [a0, a1, a2, a3] ys ((k : Int), [t0, t1, t2, t3]))).triv (timesJ [a0, a1, a2, a3] ys (timesN [a0, a1, a2, a3] ys ((k : Int), [t0, t1, t2, t3])) ∧ (4 - (timesN [a0, a1, a2, a3] ys ((k : Int), [t0, t1, t2, t3])).1).toNat < (4 - (k : Int)).toNat)))
        ∧ (decide ((k : Int) < 4) = false → (timesO ((k : Int), [t0, t1, t2, t3])).triv ([t0, t1, t2, t3] = tsAt [a0, a1, a2, a3] ys 4)))) (by kernel_rfl) ?_
      constructor
      · intro hlt
        have hlt : k < 4 := by have := of_decide_eq_true hlt; omega
        have hv : U64 (ys.getD (k : Int).toNat 0) := by
          rw [List.getD_eq_getElem?_getD, Int.toNat_natCast, List.getElem?_eq_getElem (by omega)]
          exact hy _ (List.getElem_mem _)
        refine ⟨⟨by omega, by omega⟩, stepPre_ok hv (triv_intro ⟨⟨k + 1, by omega, ?_⟩, ?_⟩) hx ws_ms f2⟩
        · have e1 : IntKind.i64.wrap ((k : Int) + 1) = ((k + 1 : Nat) : Int) := by rw [wrap_i64 (by omega) (by omega)]; omega
          have e2 : tsAt [a0, a1, a2, a3] ys (k + 1) = stepM 18446744069414584319 [a0, a1, a2, a3] ms (tsAt [a0, a1, a2, a3] ys k) (ys.getD (k : Int).toNat 0) := by
            unfold tsAt
            rw [List.take_succ_eq_append_getElem (by omega), foldM_snoc]
            rw [List.getD_eq_getElem?_getD, Int.toNat_natCast, List.getElem?_eq_getElem (by omega)]
            rfl
          show (IntKind.i64.wrap ((k : Int) + 1), stepM 18446744069414584319 [a0, a1, a2, a3] ms [t0, t1, t2, t3] (ys.getD (k : Int).toNat 0)) = _
          rw [e1, e2, hts]
        · show (4 - IntKind.i64.wrap ((k : Int) + 1)).toNat < _
          rw [wrap_i64 (by omega) (by omega)]; omega
      · intro hge
        have hge : k = 4 := by
          have := of_decide_eq_false hge
          omega
        refine triv_intro ?_
        rw [← hts, hge]
    · rintro ⟨i, ts⟩ hts
      have hts : ts = tsAt [a0, a1, a2, a3] ys 4 := hts
      obtain ⟨f1, f2, f3⟩ := hfold 4
      have hall : ys.take 4 = ys := List.take_of_length_le (by omega)
      have hts2 : ∃ t0 t1 t2 t3, tsAt [a0, a1, a2, a3] ys 4 = [t0, t1, t2, t3] := by
        match tsAt [a0, a1, a2, a3] ys 4, f1 with
        | [t0, t1, t2, t3], _ => exact ⟨_, _, _, _, rfl⟩
      obtain ⟨t0, t1, t2, t3, hts2⟩ := hts2
      subst hts
      rw [hts2] at f2 ⊢
      refine tr_vc hsp mixed _ _ ?_
      refine vcx (X := (Ws [t0, t1, t2, t3] ∧ ((if val [t0, t1, t2, t3] < M then [t0, t1, t2, t3] else lim 4 (val [t0, t1, t2, t3] - M), ()) : List Int × Unit) = outTimes ([a0, a1, a2, a3], ys, ()))) (by kernel_rfl) ?_
      refine ⟨f2, ?_⟩
      have e : foldM 18446744069414584319 [a0, a1, a2, a3] ms (List.replicate ms.length 0) ys = [t0, t1, t2, t3] := by
        have := hts2
        unfold tsAt at this
        rw [hall] at this
        exact this
      rw [e] at hmont
      obtain ⟨m1, m2, m3, m4⟩ := hmont
      have m0 := val_nonneg m2
      have hM := M_pos
      simp only [outTimes, Prod.mk.injEq, and_true]
      rw [← m4]
      split
      · rename_i hlt
        rw [Int.emod_eq_of_lt m0 hlt]
        exact (lim_val f2).symm
      · rename_i hge
        rw [show val [t0, t1, t2, t3] % M = val [t0, t1, t2, t3] - M from by
          rw [← Int.sub_emod_right, Int.emod_eq_of_lt (by omega) (by omega)]]
noncomputable def spTimes : Nat × Eng.Spec := (62, fnSpec [(.arr 4 (.int .u64)), (.arr 4 (.int .u64))] [.val (.arr 4 (.int .u64))] preTimes outTimes)

end Go.Proofs.Ytkfghpniaahjjaa.fr
