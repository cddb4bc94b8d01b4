/- CatchupSizes, for every input: true; the input reads as it did. No condition. -/
import Derived.LaidLaws
import Derived.LaidHandle
import Derived.LaidMore
import Derived.MakeChecks
import Derived.OpenShut
import Derived.Test.YtbeeaekepmnfhaaGreatDoorRows
import Derived.Test.YtbeeaekepmnfhaaGreatDoorCards
import Derived.Test.YtbeeaekepmnfhaaGreatDoorTie
import Derived.ProofKit
import Derived.Stop.Joined
import Derived.SevenTiedAt
import Derived.Test.YtbeeaekepmnfhaaGreatDoorML25aPY
/- What rows ask of their arguments. -/
namespace Go.Proofs.YtbeeaekepmnfhaaGreatDoor
open Go Go.Eng Cr
abbrev preI (x : Int) : Prop := -9223372036854775808 ≤ x ∧ x < 9223372036854775808
end Go.Proofs.YtbeeaekepmnfhaaGreatDoor
/- catchup: New, Ask, Pack, Links (of wrong sizes). -/
namespace Go.Proofs.YtbeeaekepmnfhaaGreatDoor.catchup
set_option maxRecDepth 100000
open Go Go.Eng Go.RowKit Cr Go.Proofs.YtbeeaekepmnfhaaGreatDoor
abbrev iK : Kd := .int .i64
abbrev b8 : Kd := .sl (.int .u8)
abbrev pt1 : Kd := .pair .fp .fp
abbrev seekK : Kd := .pair (.sl iK) (.pair iK (.pair iK (.pair .bool iK)))
abbrev linkK : Kd := .pair iK (.arr 96 (.int .u8))
theorem ent_public : enters Tryz.prog 10 Tryz.f10 := enters_mk (by kernel_rfl) (by kernel_rfl) (by kernel_rfl)
theorem fn_public : FnOk Tryz.prog 10 [.fr] [.val pt1] noG (fun _ => True) (fun (k, _) => (g1.gmul g1.gG k, ())) := by
  refine fn_of_vc (sp := sps [g1.soGen, g1.soMul]) (sps_cons (fnSpec_ok g1.fo_gen) (sps_cons (fnSpec_ok g1.fo_mul) sps_nil)) mixed ent_public (by decide) (by decide) ?_
  rintro w M0 ⟨k, ⟨⟩⟩
  revert k
  intro (k : Fr) _ _
  refine vcx (X := (True ∧ True ∧ (g1.gmul g1.gG k, ()) = (g1.gmul g1.gG k, ()))) (by kernel_rfl) ?_
  exact ⟨trivial, trivial, rfl⟩
noncomputable def spPublic : Nat × Eng.Spec := (10, fnSpec [.fr] [.val pt1] (fun _ => True) (fun (k, _) => (g1.gmul g1.gG k, ())))
theorem ent_ask : enters Tryz.prog 39 Tryz.f39 := enters_mk (by kernel_rfl) (by kernel_rfl) (by kernel_rfl)
def waitF (a : Bool) (l q n : Int) : Bool := a && (decide (n ≥ l) && decide (IntKind.u64.wrap (IntKind.u64.wrap n - IntKind.u64.wrap l) < IntKind.u64.wrap q))
def askF (s : List Int × Int × Int × Bool × Int) (n : Int) : (List Int × Int × Int × Bool × Int) × Int × Bool × Unit :=
  if s.1.length = 0 then (s, 0, false, ())
  else if waitF s.2.2.2.1 s.2.2.2.2 s.2.2.1 n = true then (s, 0, false, ())
  else ((s.1, (IntKind.i64.wrap (s.2.1 + 1)).tmod (s.1.length : Int), s.2.2.1, true, n), s.1.getD s.2.1.toNat 0, true, ())
abbrev preAsk : Car seekK × HL [iK] → Prop := fun ((ps, nx, _), _) => List.length ps = 0 ∨ 0 ≤ (nx : Int) ∧ (nx : Int) < (List.length ps : Int)
theorem fn_ask : FnOkP Tryz.prog 39 seekK [iK] [.val iK, .val .bool] noG preAsk (fun (s, n, _) => askF s n) := by
  have hsp : SpecsOk Tryz.prog (sps []) := sps_nil
  refine fn_of_trP (sp := sps []) ent_ask (by decide) (by decide) (by kernel_rfl) ?_
  rintro w M0 b0 ⟨ps, nx, q, a, l⟩ ⟨n, ⟨⟩⟩
  revert ps nx q a l n
  intro (ps : List Int) (nx : Int) (q : Int) (a : Bool) (l : Int) (n : Int) hw hw2 hp
  show Tr _ _ _ _ _ _ _
  refine tr_vc hsp mixed _ _ ?_
  have hp : ps.length = 0 ∨ 0 ≤ nx ∧ nx < (ps.length : Int) := hp
  refine vcx (X := ((((↑ps.length : Int) == (0 : Int)) = true → ((ps, nx, q, a, l), (0 : Int), false, ()) = askF (ps, nx, q, a, l) n) ∧ (((↑ps.length : Int) == (0 : Int)) = false → (a = true → (decide (n ≥ l) = true → (decide (IntKind.u64.wrap (IntKind.u64.wrap n - IntKind.u64.wrap l) < IntKind.u64.wrap q) = true → ((ps, nx, q, a, l), (0 : Int), false, ()) = askF (ps, nx, q, a, l) n) ∧ (decide (IntKind.u64.wrap (IntKind.u64.wrap n - IntKind.u64.wrap l) < IntKind.u64.wrap q) = false → ((0 : Int) ≤ nx ∧ nx < (↑ps.length : Int)) ∧ nx.toNat < ps.length ∧ ((↑ps.length : Int) = (0 : Int) → False) ∧ ((ps, (IntKind.i64.wrap (nx + (1 : Int))).tmod (↑ps.length : Int), q, true, n), ps.getD nx.toNat (0 : Int), true, ()) = askF (ps, nx, q, a, l) n)) ∧ (decide (n ≥ l) = false → ((0 : Int) ≤ nx ∧ nx < (↑ps.length : Int)) ∧ nx.toNat < ps.length ∧ ((↑ps.length : Int) = (0 : Int) → False) ∧ ((ps, (IntKind.i64.wrap (nx + (1 : Int))).tmod (↑ps.length : Int), q, true, n), ps.getD nx.toNat (0 : Int), true, ()) = askF (ps, nx, q, a, l) n)) ∧ (a = false → ((0 : Int) ≤ nx ∧ nx < (↑ps.length : Int)) ∧ nx.toNat < ps.length ∧ ((↑ps.length : Int) = (0 : Int) → False) ∧ ((ps, (IntKind.i64.wrap (nx + (1 : Int))).tmod (↑ps.length : Int), q, true, n), ps.getD nx.toNat (0 : Int), true, ()) = askF (ps, nx, q, a, l) n)))) (by kernel_rfl) ?_
  have go : ¬ ps.length = 0 → ¬ waitF a l q n = true → ((0 : Int) ≤ nx ∧ nx < (ps.length : Int)) ∧ nx.toNat < ps.length ∧ ((ps.length : Int) = 0 → False) ∧ ((ps, (IntKind.i64.wrap (nx + 1)).tmod (ps.length : Int), q, true, n), ps.getD nx.toNat 0, true, PUnit.unit) = askF (ps, nx, q, a, l) n := by
    intro h0 h1
    have hp : 0 ≤ nx ∧ nx < (ps.length : Int) := by rcases hp with h | h; exact absurd h h0; exact h
    refine ⟨hp, by omega, by omega, ?_⟩
    rw [askF, if_neg h0, if_neg h1]
  have n0 : ((ps.length : Int) == 0) = false → ¬ ps.length = 0 := fun h e => by rw [e] at h; cases h
  have bf : ∀ {b : Bool}, b = false → ¬ b = true := fun h k => by rw [h] at k; cases k
  refine ⟨fun h => ?_, fun h => ⟨fun ha => ⟨fun hl => ⟨fun hq => ?_, fun hq => go (n0 h) (bf (by rw [waitF, ha, hl, hq]; rfl))⟩, fun hl => go (n0 h) (bf (by rw [waitF, ha, hl]; rfl))⟩, fun ha => go (n0 h) (bf (by rw [waitF, ha]; rfl))⟩⟩
  · have h : (ps.length : Int) = 0 := eq_of_beq h
    rw [askF, if_pos (by show ps.length = 0; omega)]
  · rw [askF, if_neg (n0 h), if_pos (by show waitF a l q n = true; rw [waitF, ha, hl, hq]; rfl)]
noncomputable def spAsk : Nat × Eng.Spec := (39, fnSpecP seekK [iK] [.val iK, .val .bool] preAsk (fun (s, n, _) => askF s n))
abbrev preNew : HL [iK, .sl iK, iK] → Prop := fun (_, ps, q, _) => List.length ps < 1000 ∧ (q : Int) = 5
def newA (s : Int) (ps : List Int) : List Int × Int × Int × Bool × Int := (ps.filter (fun x => decide (x ≠ s)), 0, 5, false, 0)
theorem ent_new : enters Tryz.prog 38 Tryz.f38 := enters_mk (by kernel_rfl) (by kernel_rfl) (by kernel_rfl)
noncomputable def nwB (g : Bool × Nat × List Int) : List (Nat × List Cell) := bif g.1 then [(40, [.v (.slice none 0 0), .v (.int .i64 0), .v (.int .i64 5), .F, .v (.int .i64 0)])] else [(40, [.sl 56 0 0 g.2.1 1, .v (.int .i64 0), .v (.int .i64 5), .F, .v (.int .i64 0)]), (56, [.ints .i64 g.2.1 g.2.2])]
noncomputable def nwI (s : Int) (ps : List Int) (g : Int × Bool × Nat × List Int) : St := mkSt Tryz.f38.ntmps 80 [(0, sI .i64 s), (7, .is (.one (.ptr 40 0))), (15, .is (.one (.ro iK ps))), (16, sI .i64 ps.length), (17, sI .i64 g.1)] (nwB g.2)
noncomputable def nwO (g : Bool × Nat × List Int) : St := mkSt Tryz.f38.ntmps 80 [(7, .is (.one (.ptr 40 0)))] (nwB g)
def nwJ (s : Int) (ps : List Int) (g : Int × Bool × Nat × List Int) : Prop := ∃ k : Nat, k ≤ ps.length ∧ g.1 = (k : Int) ∧ g.2.2.2 = (ps.take k).filter (fun x => decide (x ≠ s)) ∧ (g.2.1 = true → g.2.2.2 = []) ∧ g.2.2.2.length = g.2.2.1
def nwK (s : Int) (ps : List Int) (g : Bool × Nat × List Int) : Prop := g.2.2 = ps.filter (fun x => decide (x ≠ s)) ∧ (g.1 = true → g.2.2 = []) ∧ g.2.2.length = g.2.1
theorem flt_len {s : Int} {ps xs : List Int} {k n : Nat} (ex : xs = (ps.take k).filter (fun x => decide (x ≠ s))) (en : xs.length = n) : n ≤ k := by
  have h := List.length_filter_le (fun x => decide (x ≠ s)) (ps.take k)
  rw [← ex, en, List.length_take] at h
  omega
theorem fn_new : FnOk Tryz.prog 38 [iK, .sl iK, iK] [.box seekK] noG preNew (fun (s, ps, _) => (newA s ps, ())) := by
  have hsp : SpecsOk Tryz.prog (sps []) := sps_nil
  refine fn_of_tr (sp := sps []) ent_new (by decide) (by decide) (by kernel_rfl) ?_
  rintro w M0 ⟨s, ps, q, ⟨⟩⟩
  revert s ps q
  intro (s : Int) (ps : List Int) (q : Int) _ ⟨h1, h3⟩
  have h1 : ps.length < 1000 := h1
  have h3 : q = 5 := h3
  subst h3
  show Tr _ _ _ _ _ _ _
  refine tr_cut hsp mixed 3 (nwI s ps (0, true, 0, [])) True ?_ (fun _ => ?_)
  · refine vcx (X := ((nwI s ps ((0 : Int), true, (0 : Nat), [])).triv True)) (by kernel_rfl) ?_
    exact triv_intro trivial
  refine tr_while hsp mixed (fun σ => [(56, rdHI 56 40 σ)]) (fun σ => (rdS iK 17 σ, rdZ 40 σ, rdH 40 σ, rdR iK 56 σ)) (nwI s ps) (nwJ s ps) (fun g => ps.length - g.1.toNat)
    (fun σ => (rdZ 40 σ, rdH 40 σ, rdR iK 56 σ)) nwO (nwK s ps) (0, true, 0, []) (c := nthC (codeOf Tryz.f38) 3) (by kernel_rfl) (by kernel_rfl) (le_of_proj (by kernel_rfl) (by kernel_rfl) ?_) ?_ ?_
  · exact ⟨0, Nat.zero_le _, rfl, rfl, fun _ => rfl, rfl⟩
  · rintro ⟨i, z, n, xs⟩ hj
    revert i z xs
    intro (i : Int) (z : Bool) (xs : List Int) ⟨k, hk, ei, ex, ez, en⟩
    have ei : i = (k : Int) := ei
    have ex : xs = (ps.take k).filter (fun x => decide (x ≠ s)) := ex
    have ez : z = true → xs = [] := ez
    have en : xs.length = n := en
    subst ei
    have hn : n ≤ k := flt_len ex en
    have nxt : k < ps.length → ((ps.getD k 0 != s) = true → xs ++ [ps.getD k 0] = (ps.take (k + 1)).filter (fun x => decide (x ≠ s))) ∧ ((ps.getD k 0 != s) = false → xs = (ps.take (k + 1)).filter (fun x => decide (x ≠ s))) := by
      intro hlt
      have hg : ps.getD k 0 = ps[k] := by rw [List.getD_eq_getElem?_getD, List.getElem?_eq_getElem hlt, Option.getD_some]
      have htk : ps.take (k + 1) = ps.take k ++ [ps[k]] := List.take_succ_eq_append_getElem hlt
      rw [hg, htk, List.filter_append, ← ex]
      generalize ps[k] = y
      refine ⟨fun h => ?_, fun h => ?_⟩
      · have h : y ≠ s := by simpa using h
        simp [h]
      · have h : y = s := by simpa using h
        simp [h]
    cases z with
    | true =>
      have ez : xs = [] := ez rfl
      subst ez
      refine vcx (X := ((decide ((↑k : Int) < (↑ps.length : Int)) = true → ((0 : Int) ≤ (↑k : Int) ∧ (↑k : Int) < (↑ps.length : Int)) ∧ (↑k : Int).toNat < ps.length ∧ ((ps.getD (↑k : Int).toNat (0 : Int) != s) = true → (0 : Nat) + (1 : Nat) ≤ (1 : Nat) ∧ (1 : Nat) * (8 : Nat) ≤ (140737488355328 : Nat) ∧ (1 : Nat) ≤ (4611686018427387904 : Nat) ∧ (nwI s ps (IntKind.i64.wrap ((↑k : Int) + (1 : Int)), false, (1 : Nat), [ps.getD (↑k : Int).toNat (0 : Int)])).triv (nwJ s ps (IntKind.i64.wrap ((↑k : Int) + (1 : Int)), false, (1 : Nat), [ps.getD (↑k : Int).toNat (0 : Int)]) ∧ ps.length - (IntKind.i64.wrap ((↑k : Int) + (1 : Int))).toNat < ps.length - (↑k : Int).toNat)) ∧ ((ps.getD (↑k : Int).toNat (0 : Int) != s) = false → (nwI s ps (IntKind.i64.wrap ((↑k : Int) + (1 : Int)), true, (0 : Nat), [])).triv (nwJ s ps (IntKind.i64.wrap ((↑k : Int) + (1 : Int)), true, (0 : Nat), []) ∧ ps.length - (IntKind.i64.wrap ((↑k : Int) + (1 : Int))).toNat < ps.length - (↑k : Int).toNat))) ∧ (decide ((↑k : Int) < (↑ps.length : Int)) = false → (nwO (true, (0 : Nat), [])).triv (nwK s ps (true, (0 : Nat), []))))) (by kernel_rfl) ?_
      rw [Int.toNat_natCast]
      refine ⟨fun h => ?_, fun h => triv_intro ?_⟩
      · have hlt : k < ps.length := by have := of_decide_eq_true h; omega
        rw [wrap_i64' (by omega) (by omega)]
        obtain ⟨n1, n2⟩ := nxt hlt
        exact ⟨⟨by omega, by omega⟩, hlt, fun h => ⟨by decide, by decide, by decide, triv_intro ⟨⟨k + 1, hlt, rfl, n1 h, (fun h => by cases h), rfl⟩, by omega⟩⟩, fun h => triv_intro ⟨⟨k + 1, hlt, rfl, n2 h, fun _ => rfl, rfl⟩, by omega⟩⟩
      · have : k = ps.length := by have := of_decide_eq_false h; omega
        subst this
        rw [List.take_length] at ex
        exact ⟨ex, fun _ => rfl, rfl⟩
    | false =>
      refine vcx (X := ((decide ((↑k : Int) < (↑ps.length : Int)) = true → ((0 : Int) ≤ (↑k : Int) ∧ (↑k : Int) < (↑ps.length : Int)) ∧ (↑k : Int).toNat < ps.length ∧ ((ps.getD (↑k : Int).toNat (0 : Int) != s) = true → (0 : Nat) + (1 : Nat) ≤ (1 : Nat) ∧ n ≤ n ∧ (n + (1 : Nat)) * (8 : Nat) ≤ (140737488355328 : Nat) ∧ n + (1 : Nat) ≤ (4611686018427387904 : Nat) ∧ (nwI s ps (IntKind.i64.wrap ((↑k : Int) + (1 : Int)), false, n + (1 : Nat), List.take n xs ++ List.take (1 : Nat) [ps.getD (↑k : Int).toNat (0 : Int)])).triv (nwJ s ps (IntKind.i64.wrap ((↑k : Int) + (1 : Int)), false, n + (1 : Nat), List.take n xs ++ List.take (1 : Nat) [ps.getD (↑k : Int).toNat (0 : Int)]) ∧ ps.length - (IntKind.i64.wrap ((↑k : Int) + (1 : Int))).toNat < ps.length - (↑k : Int).toNat)) ∧ ((ps.getD (↑k : Int).toNat (0 : Int) != s) = false → (nwI s ps (IntKind.i64.wrap ((↑k : Int) + (1 : Int)), false, n, xs)).triv (nwJ s ps (IntKind.i64.wrap ((↑k : Int) + (1 : Int)), false, n, xs) ∧ ps.length - (IntKind.i64.wrap ((↑k : Int) + (1 : Int))).toNat < ps.length - (↑k : Int).toNat))) ∧ (decide ((↑k : Int) < (↑ps.length : Int)) = false → (nwO (false, n, xs)).triv (nwK s ps (false, n, xs))))) (by kernel_rfl) ?_
      rw [Int.toNat_natCast]
      refine ⟨fun h => ?_, fun h => triv_intro ?_⟩
      · have hlt : k < ps.length := by have := of_decide_eq_true h; omega
        rw [wrap_i64' (by omega) (by omega)]
        obtain ⟨n1, n2⟩ := nxt hlt
        have e1 : List.take n xs ++ List.take 1 [ps.getD k 0] = xs ++ [ps.getD k 0] := by rw [List.take_of_length_le (Nat.le_of_eq en)]; rfl
        rw [e1]
        exact ⟨⟨by omega, by omega⟩, hlt, fun h => ⟨by decide, Nat.le_refl _, by omega, by omega, triv_intro ⟨⟨k + 1, hlt, rfl, n1 h, (fun h => by cases h), by show (xs ++ [_]).length = _; rw [List.length_append, en]; rfl⟩, by omega⟩⟩, fun h => triv_intro ⟨⟨k + 1, hlt, rfl, n2 h, (fun h => by cases h), en⟩, by omega⟩⟩
      · have : k = ps.length := by have := of_decide_eq_false h; omega
        subst this
        rw [List.take_length] at ex
        exact ⟨ex, (fun h => by cases h), en⟩
  rintro ⟨z, n, xs⟩ ⟨ex, ez, en⟩
  revert z xs
  intro (z : Bool) (xs : List Int) (ex : xs = ps.filter (fun x => decide (x ≠ s))) (ez : z = true → xs = []) (en : xs.length = n)
  cases z with
  | true =>
    refine tr_vc hsp mixed _ _ ?_
    refine vcx (X := ((([], (0 : Int), (5 : Int), false, (0 : Int)), ()) = (newA s ps, ()))) (by kernel_rfl) ?_
    rw [newA, ← ex, ez rfl]
  | false =>
    refine tr_frzC 40 56 n 1 iK xs (.ints .i64 n xs) _ (by decide) (fun _ _ h => ⟨h.1, RdL_int.2 h.2⟩) rfl rfl en ?_
    refine tr_vc hsp mixed _ _ ?_
    refine vcx (X := (((xs, (0 : Int), (5 : Int), false, (0 : Int)), ()) = (newA s ps, ()))) (by kernel_rfl) ?_
    rw [newA, ← ex]
noncomputable def spNew : Nat × Eng.Spec := (38, fnSpec [iK, .sl iK, iK] [.box seekK] preNew (fun (s, ps, _) => (newA s ps, ())))
end Go.Proofs.YtbeeaekepmnfhaaGreatDoor.catchup
/- catchup: Pack, Links (of wrong sizes). -/
namespace Go.Proofs.YtbeeaekepmnfhaaGreatDoor.catchup
set_option maxRecDepth 100000
open Go Go.Eng Go.RowKit Cr Go.Proofs.YtbeeaekepmnfhaaGreatDoor
theorem ent_pack : enters Tryz.prog 12 Tryz.f12 := enters_mk (by kernel_rfl) (by kernel_rfl) (by kernel_rfl)
noncomputable def pkI (L : List (Int × List Int)) (g : Int × Bool × Nat × List Int) : St := mkSt Tryz.f12.ntmps 72 [(3, bif g.2.1 then .is (.one (.v (.slice none 0 0))) else .is (.one (.sl 40 0 0 g.2.2.1 1))), (10, .is (.one (.ro linkK L))), (11, sI .i64 L.length), (12, sI .i64 g.1)] (bif g.2.1 then [] else [(40, [.ints .u8 g.2.2.1 g.2.2.2])])
noncomputable def pkO (g : Bool × Nat × List Int) : St := mkSt Tryz.f12.ntmps 72 [(3, bif g.1 then .is (.one (.v (.slice none 0 0))) else .is (.one (.sl 40 0 0 g.2.1 1)))] (bif g.1 then [] else [(40, [.ints .u8 g.2.1 g.2.2])])
def pkF (L : List (Int × List Int)) : List Int := (L.map Prod.snd).flatten
def pkJ (L : List (Int × List Int)) (g : Int × Bool × Nat × List Int) : Prop := ∃ k : Nat, k ≤ L.length ∧ g.1 = (k : Int) ∧ g.2.2.2 = pkF (L.take k) ∧ (g.2.1 = true → g.2.2.2 = []) ∧ g.2.2.2.length = g.2.2.1 ∧ g.2.2.1 = 96 * k
def pkK (L : List (Int × List Int)) (g : Bool × Nat × List Int) : Prop := g.2.2 = pkF L ∧ (g.1 = true → g.2.2 = []) ∧ g.2.2.length = g.2.1
theorem fn_pack : FnOk Tryz.prog 12 [.sl linkK] [.own (.int .u8)] noG (fun (l, _) => List.length l ≤ 1000) (fun (l, _) => (pkF (List.take 8 l), ())) := by
  have hsp : SpecsOk Tryz.prog (sps []) := sps_nil
  refine fn_of_tr (sp := sps []) ent_pack (by decide) (by decide) (by kernel_rfl) ?_
  rintro w M0 ⟨l, ⟨⟩⟩
  revert l
  intro (l : List (Int × List Int)) hw hl
  have hl : l.length ≤ 1000 := hl
  have h96 : ∀ x ∈ l, x.2.length = 96 := fun x hx => (hw.1 x hx).2.1
  show Tr _ _ _ _ _ _ _
  refine tr_cutF hsp mixed 3 (fun σ => rdO linkK 10 σ) (fun L => pkI L (0, true, 0, [])) (fun L => L = l.take 8) ?_ ?_
  · refine vcx (X := ((((0 : Int) ≤ if (8 : Int) < (↑l.length : Int) then (8 : Int) else (↑l.length : Int)) ∧ (if (8 : Int) < (↑l.length : Int) then (8 : Int) else (↑l.length : Int)) ≤ (↑l.length : Int)) ∧ (pkI (List.take ((if (8 : Int) < (↑l.length : Int) then (8 : Int) else (↑l.length : Int)) - (0 : Int)).toNat l) ((0 : Int), true, (0 : Nat), [])).triv (List.take ((if (8 : Int) < (↑l.length : Int) then (8 : Int) else (↑l.length : Int)) - (0 : Int)).toNat l = List.take (8 : Nat) l))) (by kernel_rfl) ?_
    have e : ((if (8 : Int) < (l.length : Int) then (8 : Int) else (l.length : Int)) - 0).toNat = min 8 l.length := by split <;> omega
    rw [e]
    refine ⟨⟨by split <;> omega, by split <;> omega⟩, triv_intro ?_⟩
    show l.take (min 8 l.length) = l.take 8
    by_cases h8 : 8 ≤ l.length
    · rw [Nat.min_eq_left h8]
    · rw [Nat.min_eq_right (by omega), List.take_length, List.take_of_length_le (by omega)]
  intro (L : List (Int × List Int)) hL
  have hL : L = l.take 8 := hL
  have hLn : L.length ≤ 8 := by rw [hL, List.length_take]; omega
  have hLs : ∀ x ∈ L, x.2.length = 96 := fun x hx => h96 x (List.mem_of_mem_take (hL ▸ hx))
  refine tr_while hsp mixed (fun σ => [(40, rdJ 40 3 σ)]) (fun σ => (rdS iK 12 σ, rdE 3 σ, rdL 3 σ, rdR (.int .u8) 40 σ)) (pkI L) (pkJ L) (fun g => L.length - g.1.toNat)
    (fun σ => (rdE 3 σ, rdL 3 σ, rdR (.int .u8) 40 σ)) pkO (pkK L) (0, true, 0, []) (c := nthC (codeOf Tryz.f12) 3) (by kernel_rfl) (by kernel_rfl) (le_of_proj (by kernel_rfl) (by kernel_rfl) ?_) ?_ ?_
  · exact ⟨0, Nat.zero_le _, rfl, rfl, fun _ => rfl, rfl, rfl⟩
  · rintro ⟨i, z, n, xs⟩ hj
    revert i z xs
    intro (i : Int) (z : Bool) (xs : List Int) ⟨k, hk, ei, ex, ez, en, en2⟩
    have ei : i = (k : Int) := ei
    subst ei
    have ex : xs = pkF (L.take k) := ex
    have ez : z = true → xs = [] := ez
    have en : xs.length = n := en
    have en2 : n = 96 * k := en2
    have nx : k < L.length → ∃ r : Int × List Int, L.getD k (0, List.replicate 96 0) = r ∧ r.2.length = 96 ∧ pkF (L.take (k + 1)) = xs ++ r.2 := by
      intro hlt
      refine ⟨L[k], ?_, hLs _ (List.getElem_mem _), ?_⟩
      · rw [List.getD_eq_getElem?_getD, List.getElem?_eq_getElem hlt, Option.getD_some]
      · rw [List.take_succ_eq_append_getElem hlt, ex, pkF, pkF, List.map_append, List.flatten_append]
        simp
    cases z with
    | true =>
      have ez : xs = [] := ez rfl
      subst ez
      have en : 0 = n := en
      refine vcx (X := ((decide ((↑k : Int) < (↑L.length : Int)) = true → ((0 : Int) ≤ (↑k : Int) ∧ (↑k : Int) < (↑L.length : Int)) ∧ (↑k : Int).toNat < L.length ∧ (0 : Nat) + (96 : Nat) ≤ (96 : Nat) ∧ (96 : Nat) * (1 : Nat) ≤ (140737488355328 : Nat) ∧ (96 : Nat) ≤ (4611686018427387904 : Nat) ∧ (pkI L (IntKind.i64.wrap ((↑k : Int) + (1 : Int)), false, (96 : Nat), List.take (96 : Nat) (L.getD (↑k : Int).toNat ((0 : Int), List.replicate (96 : Nat) (0 : Int))).snd)).triv (pkJ L (IntKind.i64.wrap ((↑k : Int) + (1 : Int)), false, (96 : Nat), List.take (96 : Nat) (L.getD (↑k : Int).toNat ((0 : Int), List.replicate (96 : Nat) (0 : Int))).snd) ∧ L.length - (IntKind.i64.wrap ((↑k : Int) + (1 : Int))).toNat < L.length - (↑k : Int).toNat)) ∧ (decide ((↑k : Int) < (↑L.length : Int)) = false → (pkO (true, (0 : Nat), [])).triv (pkK L (true, (0 : Nat), []))))) (by kernel_rfl) ?_
      rw [Int.toNat_natCast]
      refine ⟨fun h => ?_, fun h => triv_intro ?_⟩
      · have hlt : k < L.length := by have := of_decide_eq_true h; omega
        rw [wrap_i64' (by omega) (by omega)]
        obtain ⟨r, e1, e2, e3⟩ := nx hlt
        rw [e1, List.take_of_length_le (Nat.le_of_eq e2)]
        exact ⟨⟨by omega, by omega⟩, hlt, by decide, by decide, by decide, triv_intro ⟨⟨k + 1, hlt, rfl, e3.symm, (fun h => by cases h), e2, by show 96 = _; omega⟩, by omega⟩⟩
      · have : k = L.length := by have := of_decide_eq_false h; omega
        subst this
        rw [List.take_length] at ex
        exact ⟨ex, fun _ => rfl, rfl⟩
    | false =>
      refine vcx (X := ((decide ((↑k : Int) < (↑L.length : Int)) = true → ((0 : Int) ≤ (↑k : Int) ∧ (↑k : Int) < (↑L.length : Int)) ∧ (↑k : Int).toNat < L.length ∧ (0 : Nat) + (96 : Nat) ≤ (96 : Nat) ∧ n ≤ n ∧ (n + (96 : Nat)) * (1 : Nat) ≤ (140737488355328 : Nat) ∧ n + (96 : Nat) ≤ (4611686018427387904 : Nat) ∧ (pkI L (IntKind.i64.wrap ((↑k : Int) + (1 : Int)), false, n + (96 : Nat), List.take n xs ++ List.take (96 : Nat) (L.getD (↑k : Int).toNat ((0 : Int), List.replicate (96 : Nat) (0 : Int))).snd)).triv (pkJ L (IntKind.i64.wrap ((↑k : Int) + (1 : Int)), false, n + (96 : Nat), List.take n xs ++ List.take (96 : Nat) (L.getD (↑k : Int).toNat ((0 : Int), List.replicate (96 : Nat) (0 : Int))).snd) ∧ L.length - (IntKind.i64.wrap ((↑k : Int) + (1 : Int))).toNat < L.length - (↑k : Int).toNat)) ∧ (decide ((↑k : Int) < (↑L.length : Int)) = false → (pkO (false, n, xs)).triv (pkK L (false, n, xs))))) (by kernel_rfl) ?_
      rw [Int.toNat_natCast]
      refine ⟨fun h => ?_, fun h => triv_intro ?_⟩
      · have hlt : k < L.length := by have := of_decide_eq_true h; omega
        rw [wrap_i64' (by omega) (by omega)]
        obtain ⟨r, e1, e2, e3⟩ := nx hlt
        rw [e1, List.take_of_length_le (Nat.le_of_eq e2), List.take_of_length_le (Nat.le_of_eq en)]
        exact ⟨⟨by omega, by omega⟩, hlt, by decide, Nat.le_refl _, by omega, by omega, triv_intro ⟨⟨k + 1, hlt, rfl, e3.symm, (fun h => by cases h), by show (xs ++ r.2).length = _; rw [List.length_append, en, e2], by show n + 96 = _; omega⟩, by omega⟩⟩
      · have : k = L.length := by have := of_decide_eq_false h; omega
        subst this
        rw [List.take_length] at ex
        exact ⟨ex, (fun h => by cases h), en⟩
  rintro ⟨z, n, xs⟩ ⟨ex, ez, en⟩
  revert z xs
  intro (z : Bool) (xs : List Int) (ex : xs = pkF L) (ez : z = true → xs = []) (en : xs.length = n)
  cases z with
  | true =>
    refine tr_vc hsp mixed _ _ ?_
    refine vcx (X := (([], ()) = (pkF (List.take (8 : Nat) l), ()))) (by kernel_rfl) ?_
    rw [← hL, ← ex, ez rfl]
  | false =>
    refine tr_vc hsp mixed _ _ ?_
    refine vcx (X := ((0 : Nat) + n ≤ n ∧ (List.take n xs, ()) = (pkF (List.take (8 : Nat) l), ()))) (by kernel_rfl) ?_
    exact ⟨by omega, by rw [← hL, ← ex, List.take_of_length_le (Nat.le_of_eq en)]⟩
noncomputable def spPack : Nat × Eng.Spec := (12, fnSpec [.sl linkK] [.own (.int .u8)] (fun (l, _) => List.length l ≤ 1000) (fun (l, _) => (pkF (List.take 8 l), ())))
theorem ent_links : enters Tryz.prog 9 Tryz.f9 := enters_mk (by kernel_rfl) (by kernel_rfl) (by kernel_rfl)
noncomputable def lkA : List (Int × List Int) × Int × Unit := opq ([], 10, ())
theorem lkA_eq : lkA = ([], 10, ()) := by rw [lkA, opq_eq]
abbrev preLinks : HL [pt1, b8, iK, b8] → Prop := fun (_, _, _, b, _) => (List.length b = 0 ∨ ¬ List.length b % 96 = 0 ∨ 768 < List.length b) ∧ List.length b < 2000
theorem fn_links : FnOk Tryz.prog 9 [pt1, b8, iK, b8] [.val (.sl linkK), .val iK] noG preLinks (fun _ => lkA) := by
  have hsp : SpecsOk Tryz.prog (sps []) := sps_nil
  refine fn_of_tr (sp := sps []) ent_links (by decide) (by decide) (by kernel_rfl) ?_
  rintro w M0 ⟨g, p, i, b, ⟨⟩⟩
  revert g p i b
  intro (g : Fp × Fp) (p : List Int) (i : Int) (b : List Int) _ hp
  obtain ⟨hp, hl⟩ := hp
  have hl : b.length < 2000 := hl
  have hp : b.length = 0 ∨ ¬ b.length % 96 = 0 ∨ 768 < b.length := hp
  show Tr _ _ _ _ _ _ _
  refine tr_cut hsp mixed 3 (mkSt Tryz.f9.ntmps 136 [] []) False ?_ (fun h => h.elim)
  refine vcx (X := ((((↑b.length : Int) == (0 : Int)) = true → ([], (10 : Int), ()) = lkA) ∧ (((↑b.length : Int) == (0 : Int)) = false → ((96 : Int) = (0 : Int) → False) ∧ (((↑b.length : Int).tmod (96 : Int) != (0 : Int)) = true → ([], (10 : Int), ()) = lkA) ∧ (((↑b.length : Int).tmod (96 : Int) != (0 : Int)) = false → (decide ((↑b.length : Int) > (768 : Int)) = true → ([], (10 : Int), ()) = lkA) ∧ (decide ((↑b.length : Int) > (768 : Int)) = false → (mkSt Tryz.f9.ntmps (136 : Nat) [] []).triv False))))) (by kernel_rfl) ?_
  refine ⟨fun _ => lkA_eq.symm, fun h0 => ⟨by decide, fun _ => lkA_eq.symm, fun h1 => ⟨fun _ => lkA_eq.symm, fun h2 => ?_⟩⟩⟩
  exfalso
  have h0 : ¬ (b.length : Int) = 0 := fun e => by rw [e] at h0; cases h0
  have h1 : (b.length : Int).tmod 96 = 0 := by simpa using h1
  have h2 : ¬ (b.length : Int) > 768 := of_decide_eq_false h2
  rw [Int.tmod_eq_emod_of_nonneg (by omega)] at h1
  omega
noncomputable def spLinks : Nat × Eng.Spec := (9, fnSpec [pt1, b8, iK, b8] [.val (.sl linkK), .val iK] preLinks (fun _ => lkA))
end Go.Proofs.YtbeeaekepmnfhaaGreatDoor.catchup
/- sha: rotations, one block. -/
namespace Go.Proofs.YtbeeaekepmnfhaaGreatDoor.sha
set_option maxRecDepth 100000
open Go Go.Eng Go.RowKit Cr Go.Proofs.YtbeeaekepmnfhaaGreatDoor
abbrev uK : Kd := .int .u32
def firstL : List Int := [1779033703, 3144134277, 1013904242, 2773480762, 1359893119, 2600822924, 528734635, 1541459225]
def rootsL : List Int := [1116352408, 1899447441, 3049323471, 3921009573, 961987163, 1508970993, 2453635748, 2870763221, 3624381080, 310598401, 607225278, 1426881987, 1925078388, 2162078206, 2614888103, 3248222580, 3835390401, 4022224774, 264347078, 604807628, 770255983, 1249150122, 1555081692, 1996064986, 2554220882, 2821834349, 2952996808, 3210313671, 3336571891, 3584528711, 113926993, 338241895, 666307205, 773529912, 1294757372, 1396182291, 1695183700, 1986661051, 2177026350, 2456956037, 2730485921, 2820302411, 3259730800, 3345764771, 3516065817, 3600352804, 4094571909, 275423344, 430227734, 506948616, 659060556, 883997877, 958139571, 1322822218, 1537002063, 1747873779, 1955562222, 2024104815, 2227730452, 2361852424, 2428436474, 2756734187, 3204031479, 3329325298]
/-- The package's variables. -/
def shaG : Glob := fun g => if g = 0 then some ⟨.arr 8 uK, firstL⟩ else if g = 1 then some ⟨.arr 64 uK, rootsL⟩ else none
end Go.Proofs.YtbeeaekepmnfhaaGreatDoor.sha
/- law25: head, CatchupSizes. -/
namespace Go.Proofs.YtbeeaekepmnfhaaGreatDoor.law25
set_option maxRecDepth 100000
open Go Go.Eng Go.RowKit Cr Go.Proofs.YtbeeaekepmnfhaaGreatDoor Go.Proofs.YtbeeaekepmnfhaaGreatDoor.catchup
theorem and_mask {x m : Int} (h0 : 0 ≤ m) (h1 : m < 4294967296) : 0 ≤ bitOp .and .i64 x m ∧ bitOp .and .i64 x m ≤ m := by
  have h64 : ((2 ^ 64 : Nat) : Int) = 18446744073709551616 := by decide
  have hm : (BitVec.ofInt 64 m).toNat = m.toNat := by
    rw [BitVec.toNat_ofInt, Int.emod_eq_of_lt h0 (by rw [h64]; omega)]
  have h : ((BitVec.ofInt 64 x &&& BitVec.ofInt 64 m : BitVec 64).toNat) ≤ m.toNat := by
    rw [BitVec.toNat_and, hm]
    exact Nat.and_le_right
  have e : bitOp .and .i64 x m = (((BitVec.ofInt 64 x &&& BitVec.ofInt 64 m : BitVec 64).toNat : Nat) : Int) := by
    show IntKind.i64.wrap (((BitVec.ofInt 64 x &&& BitVec.ofInt 64 m : BitVec 64).toNat : Nat) : Int) = _
    exact wrap_i64' (by omega) (by omega)
  rw [e]; omega
theorem pk_len : ∀ (L : List (Int × List Int)), (∀ x ∈ L, x.2.length = 96) → (pkF L).length = 96 * L.length
  | [], _ => rfl
  | x :: L, h => by
    have ih := pk_len L (fun y hy => h y (List.mem_cons_of_mem _ hy))
    have hx := h x (List.mem_cons_self ..)
    rw [pkF] at ih ⊢
    rw [List.map_cons, List.flatten_cons, List.length_append, hx, ih, List.length_cons]
    omega
def okS (S : Int) : Prop := 0 ≤ S ∧ S < 1025 ∧ (S = 0 ∨ ¬ S.toNat % 96 = 0 ∨ 768 < S.toNat)
theorem ent_head : enters Tryz.prog 8 Tryz.f8 := enters_mk (by kernel_rfl) (by kernel_rfl) (by kernel_rfl)
theorem fn_head : FnOk Tryz.prog 8 [] [.val .bool] noG (fun _ => True) (fun _ => (true, ())) := by
  refine fn_of_vc (sp := sps [spNew, spAsk, spPack]) (sps_cons (fnSpec_ok fn_new) (sps_cons (fnSpecP_ok fn_ask) (sps_cons (fnSpec_ok fn_pack) sps_nil))) mixed ent_head (by decide) (by decide) ?_
  rintro w M0 ⟨⟩ _ _
  refine vcx (X := ((0 : Nat) + (3 : Nat) ≤ (3 : Nat) ∧ preNew ((1 : Int), List.take (3 : Nat) [(1 : Int), (2 : Int), (3 : Int)], (5 : Int), ()) ∧ preAsk ((List.filter (fun x => decide (x ≠ (1 : Int))) (List.take (3 : Nat) [(1 : Int), (2 : Int), (3 : Int)]), (0 : Int), (5 : Int), false, (0 : Int)), (0 : Int), ()) ∧ preAsk ((List.filter (fun x => decide (x ≠ (1 : Int))) (List.take (3 : Nat) [(1 : Int), (2 : Int), (3 : Int)]), (IntKind.i64.wrap ((0 : Int) + (1 : Int))).tmod (↑(List.filter (fun x => decide (x ≠ (1 : Int))) (List.take (3 : Nat) [(1 : Int), (2 : Int), (3 : Int)])).length : Int), (5 : Int), true, (0 : Int)), (4 : Int), ()) ∧ preAsk ((List.filter (fun x => decide (x ≠ (1 : Int))) (List.take (3 : Nat) [(1 : Int), (2 : Int), (3 : Int)]), (IntKind.i64.wrap ((0 : Int) + (1 : Int))).tmod (↑(List.filter (fun x => decide (x ≠ (1 : Int))) (List.take (3 : Nat) [(1 : Int), (2 : Int), (3 : Int)])).length : Int), (5 : Int), true, (0 : Int)), (5 : Int), ()) ∧ (true = true → ((!false) = true → (true = true → (((2 : Int) == (2 : Int)) = true → (((3 : Int) == (3 : Int)) = true → (0 : Nat) + (1 : Nat) ≤ (1 : Nat) ∧ (List.take (1 : Nat) [((1 : Int), List.replicate (96 : Nat) (0 : Int))]).length ≤ (1000 : Nat) ∧ ((↑(pkF (List.take (8 : Nat) (List.take (1 : Nat) [((1 : Int), List.replicate (96 : Nat) (0 : Int))]))).length : Int) == (96 : Int), ()) = (true, ())) ∧ (((3 : Int) == (3 : Int)) = false → (false, ()) = (true, ()))) ∧ (((2 : Int) == (2 : Int)) = false → (false, ()) = (true, ()))) ∧ (true = false → (false, ()) = (true, ()))) ∧ ((!false) = false → (false, ()) = (true, ()))) ∧ (true = false → (false, ()) = (true, ())))) (by kernel_rfl) ?_
  have no : ∀ {P : Prop} {b : Bool}, b = true → b = false → P := fun h k => by rw [h] at k; cases k
  exact ⟨by decide, ⟨by decide, rfl⟩, .inr ⟨by decide, by decide⟩, .inr ⟨by decide, by decide⟩, .inr ⟨by decide, by decide⟩, fun _ => ⟨fun _ => ⟨fun _ => ⟨fun _ => ⟨fun _ => ⟨by decide, by decide, rfl⟩, no rfl⟩, no rfl⟩, no rfl⟩, no rfl⟩, no rfl⟩
noncomputable def spHead : Nat × Eng.Spec := (8, fnSpec [] [.val .bool] (fun _ => True) (fun _ => (true, ())))
theorem ent_sizes : enters Tryz.prog 3 Tryz.f3 := enters_mk (by kernel_rfl) (by kernel_rfl) (by kernel_rfl)
theorem fn_sizes : FnOk Tryz.prog 3 [iK, iK] [.val .bool] sha.shaG (fun (s, n, _) => preI s ∧ preI n) (fun _ => (true, ())) := by
  refine fn_of_tr (sp := sps [spHead, fr.spOf, spPublic, spLinks, spPack]) ent_sizes (by decide) (by decide) (by kernel_rfl) ?_
  rintro w M0 ⟨s, n, ⟨⟩⟩
  revert s n
  intro (s : Int) (n : Int) _ hp
  obtain ⟨hs, hn⟩ := hp
  have hsp : SpecsOk Tryz.prog (sps [spHead, fr.spOf, spPublic, spLinks, spPack]) := sps_cons (fnSpec_ok fn_head) (sps_cons (fnSpec_ok fr.fn_of) (sps_cons (fnSpec_ok fn_public) (sps_cons (fnSpec_ok fn_links) (sps_cons (fnSpec_ok fn_pack) sps_nil))))
  show Tr _ _ _ _ _ _ _
  refine tr_cutF hsp mixed 6 (fun σ => rdS iK 0 σ) (fun S => mkSt Tryz.f3.ntmps 136 [(0, sI .i64 S), (1, sI .i64 n)] []) okS ?_ ?_
  · refine vcx (X := (True ∧ ((!true) = true → (false, ()) = (true, ())) ∧ ((!true) = false → (decide (bitOp BinOp.and IntKind.i64 s (1023 : Int) > (0 : Int)) = true → (decide (bitOp BinOp.and IntKind.i64 s (1023 : Int) ≤ (768 : Int)) = true → ((96 : Int) = (0 : Int) → False) ∧ (((bitOp BinOp.and IntKind.i64 s (1023 : Int)).tmod (96 : Int) == (0 : Int)) = true → (mkSt Tryz.f3.ntmps (136 : Nat) [((0 : Nat), sI IntKind.i64 (IntKind.i64.wrap (bitOp BinOp.and IntKind.i64 s (1023 : Int) + (1 : Int)))), ((1 : Nat), sI IntKind.i64 n)] []).triv (okS (IntKind.i64.wrap (bitOp BinOp.and IntKind.i64 s (1023 : Int) + (1 : Int))))) ∧ (((bitOp BinOp.and IntKind.i64 s (1023 : Int)).tmod (96 : Int) == (0 : Int)) = false → (mkSt Tryz.f3.ntmps (136 : Nat) [((0 : Nat), sI IntKind.i64 (bitOp BinOp.and IntKind.i64 s (1023 : Int))), ((1 : Nat), sI IntKind.i64 n)] []).triv (okS (bitOp BinOp.and IntKind.i64 s (1023 : Int))))) ∧ (decide (bitOp BinOp.and IntKind.i64 s (1023 : Int) ≤ (768 : Int)) = false → (mkSt Tryz.f3.ntmps (136 : Nat) [((0 : Nat), sI IntKind.i64 (bitOp BinOp.and IntKind.i64 s (1023 : Int))), ((1 : Nat), sI IntKind.i64 n)] []).triv (okS (bitOp BinOp.and IntKind.i64 s (1023 : Int))))) ∧ (decide (bitOp BinOp.and IntKind.i64 s (1023 : Int) > (0 : Int)) = false → (mkSt Tryz.f3.ntmps (136 : Nat) [((0 : Nat), sI IntKind.i64 (bitOp BinOp.and IntKind.i64 s (1023 : Int))), ((1 : Nat), sI IntKind.i64 n)] []).triv (okS (bitOp BinOp.and IntKind.i64 s (1023 : Int))))))) (by kernel_rfl) ?_
    obtain ⟨a0, a1⟩ := and_mask (x := s) (m := 1023) (by decide) (by decide)
    generalize bitOp BinOp.and IntKind.i64 s 1023 = a at *
    refine ⟨trivial, fun h => absurd h (by decide), fun _ => ⟨fun h1 => ⟨fun h2 => ⟨by decide, fun h3 => triv_intro ?_, fun h3 => triv_intro ?_⟩, fun h2 => triv_intro ?_⟩, fun h1 => triv_intro ?_⟩⟩
    · have h2 : a ≤ 768 := of_decide_eq_true h2
      have h3 : a.tmod 96 = 0 := eq_of_beq h3
      rw [Int.tmod_eq_emod_of_nonneg a0] at h3
      rw [wrap_i64' (by omega) (by omega)]
      exact ⟨by omega, by omega, .inr (.inl (by omega))⟩
    · have h3 : ¬ a.tmod 96 = 0 := fun e => by rw [e] at h3; cases h3
      rw [Int.tmod_eq_emod_of_nonneg a0] at h3
      exact ⟨by omega, by omega, .inr (.inl (by omega))⟩
    · have h2 : ¬ a ≤ 768 := of_decide_eq_false h2
      exact ⟨by omega, by omega, .inr (.inr (by omega))⟩
    · have h1 : ¬ a > 0 := of_decide_eq_false h1
      exact ⟨by omega, by omega, .inl (by omega)⟩
  intro (S : Int) ⟨h1, h2, h3⟩
  refine tr_vc hsp mixed _ _ ?_
  refine vcx (X := (U64 (3 : Int) ∧ True ∧ ((0 : Int) ≤ S ∧ S ≤ S ∧ (↑(1 : Nat) : Int) * S ≤ (281474976710656 : Int) ∧ S ≤ (9223372036854775807 : Int)) ∧ (0 : Nat) + S.toNat ≤ S.toNat ∧ preLinks (g1.gmul g1.gG (zmr (3 : Int)), [], (1 : Int), List.take S.toNat (List.replicate S.toNat (0 : Int)), ()) ∧ ((0 : Int) ≤ bitOp BinOp.and IntKind.i64 n (31 : Int) ∧ bitOp BinOp.and IntKind.i64 n (31 : Int) ≤ bitOp BinOp.and IntKind.i64 n (31 : Int) ∧ (↑(104 : Nat) : Int) * bitOp BinOp.and IntKind.i64 n (31 : Int) ≤ (281474976710656 : Int) ∧ bitOp BinOp.and IntKind.i64 n (31 : Int) ≤ (9223372036854775807 : Int)) ∧ ((lkA.snd.fst == (10 : Int)) = true → (((↑lkA.fst.length : Int) == (0 : Int)) = true → (0 : Nat) + (bitOp BinOp.and IntKind.i64 n (31 : Int)).toNat ≤ (bitOp BinOp.and IntKind.i64 n (31 : Int)).toNat ∧ (List.take (bitOp BinOp.and IntKind.i64 n (31 : Int)).toNat (List.replicate (bitOp BinOp.and IntKind.i64 n (31 : Int)).toNat ((0 : Int), List.replicate (96 : Nat) (0 : Int)))).length ≤ (1000 : Nat) ∧ ((↑(pkF (List.take (8 : Nat) (List.take (bitOp BinOp.and IntKind.i64 n (31 : Int)).toNat (List.replicate (bitOp BinOp.and IntKind.i64 n (31 : Int)).toNat ((0 : Int), List.replicate (96 : Nat) (0 : Int)))))).length : Int) == IntKind.i64.wrap ((96 : Int) * if bitOp BinOp.and IntKind.i64 n (31 : Int) < (8 : Int) then bitOp BinOp.and IntKind.i64 n (31 : Int) else (8 : Int)), ()) = (true, ())) ∧ (((↑lkA.fst.length : Int) == (0 : Int)) = false → (false, ()) = (true, ()))) ∧ ((lkA.snd.fst == (10 : Int)) = false → (false, ()) = (true, ())))) (by kernel_rfl) ?_
  obtain ⟨m0, m1⟩ := and_mask (x := n) (m := 31) (by decide) (by decide)
  generalize bitOp BinOp.and IntKind.i64 n 31 = m at *
  have no : ∀ {P : Prop} {b : Bool}, b = true → b = false → P := fun h k => by rw [h] at k; cases k
  have e : List.take 8 (List.take m.toNat (List.replicate m.toNat ((0 : Int), List.replicate 96 (0 : Int)))) = List.replicate (min 8 m.toNat) (0, List.replicate 96 0) := by simp [List.take_replicate]
  have el : (pkF (List.replicate (min 8 m.toNat) ((0 : Int), List.replicate 96 (0 : Int)))).length = 96 * min 8 m.toNat := by
    rw [pk_len _ (fun x hx => by rw [List.eq_of_mem_replicate hx]; exact List.length_replicate ..), List.length_replicate]
  have e2 : ((96 * min 8 m.toNat : Nat) : Int) = IntKind.i64.wrap (96 * if m < 8 then m else 8) := by
    split
    · rw [wrap_i64' (by omega) (by omega)]; omega
    · rw [wrap_i64' (by omega) (by omega)]; omega
  rw [e, el, e2, lkA_eq]
  refine ⟨⟨by decide, by decide⟩, trivial, ⟨h1, Int.le_refl _, by omega, by omega⟩, by omega, ⟨?_, ?_⟩, ⟨m0, Int.le_refl _, by omega, by omega⟩, fun _ => ⟨fun _ => ⟨by omega, ?_, by rw [beq_self_eq_true]⟩, no rfl⟩, no rfl⟩
  · rw [List.take_replicate, List.length_replicate, Nat.min_self]
    omega
  · rw [List.take_replicate, List.length_replicate, Nat.min_self]
    omega
  · rw [List.take_replicate, List.length_replicate, Nat.min_self]
    omega
end Go.Proofs.YtbeeaekepmnfhaaGreatDoor.law25
/- From a contract to a law's row where package variables read as listed. -/
namespace Go.Eng
open Go Go.RowKit Cr Go.ChangeShapes Go.WideShapes Go.ChangeAt
/-- An array of integers that reads as these. -/
theorem laid_ints {P : Program} {t e : TypeId} {n : Nat} {k : IntKind} {H : Type} {enc : TypeId × Value → H} {W : World} {fl : Bool} {fuel : Nat} {cs : List Value} {p : List MemPlace} {xs : List Int} (ht : P.underlying t = some (.array n e)) (he : P.underlying e = some (.int k)) (hce : P.cellsOf e = 1) (hct : P.cellsOf t = n)
    (h : DataW.trod enc P W 0 (fun _ => true) fl fuel t cs = some (.agg (xs.map fun x => .lit (.int k x)), p)) : cs = xs.map (Value.int k) := by
  obtain ⟨ys, m, rfl, hx, hlen, hn, hel⟩ := DataW.trod_array ht h
  simp only [Prod.mk.injEq, DataW.agg.injEq] at hx
  obtain ⟨hx, _⟩ := hx
  have hxl : xs.length = n := by
    have := congrArg List.length hx
    simpa [hn] using this
  refine List.ext_getElem (by rw [hlen, hct, List.length_map, hxl]) fun i h1 h2 => ?_
  have hin : i < n := by rw [hlen, hct] at h1; exact h1
  have h3 := hel i hin
  rw [hce, Nat.mul_one, List.getElem?_eq_getElem (by omega)] at h3
  obtain ⟨z, e1, e2, _⟩ := DataW.trod_int he h3
  have e3 : (cs.drop i).take 1 = [cs[i]] := by rw [List.drop_eq_getElem_cons h1]; rfl
  rw [e3] at e1
  simp only [List.cons.injEq, and_true] at e1
  have h4 : (xs.map fun x => (DataW.lit (.int k x) : DataW H))[i]? = (ys.map (·.1))[i]? := by rw [hx]
  rw [List.getElem?_map, List.getElem?_map, List.getElem?_eq_getElem (by omega), List.getElem?_eq_getElem (by omega)] at h4
  simp only [Option.map_some, Option.some.injEq] at h4
  rw [e2] at h4
  simp only [DataW.lit.injEq, Lit.int.injEq, true_and] at h4
  rw [e1, List.getElem_map, h4]
/-- What a listed table is in memory. -/
theorem laid_row {P : Program} {W : World} {nm : String} {g n : Nat} {k : IntKind} {cs : Array Value} {xs : List Int} (hg : P.globalNamed nm = some g) (hv : W.var? P nm = some cs) (hcs : cs.toList = xs.map (Value.int k)) (hx : xs.length = n) : RowAt (Rd (memOf W) (.arr n (.int k))) (width (.arr n (.int k))) (memOf W) g 0 [xs] := by
  have hh : ∃ el fr, W.heap[g]? = some (.cells cs el fr) := by
    simp only [World.var?, hg, Option.bind_some] at hv
    split at hv
    · rename_i c el fr hh
      simp only [Option.some.injEq] at hv
      subst hv
      exact ⟨el, fr, hh⟩
    · cases hv
  obtain ⟨el, fr, hh⟩ := hh
  obtain ⟨l⟩ := cs
  have hcs : l = xs.map (Value.int k) := hcs
  refine ⟨l, memOf_blk hh, ?_, ?_⟩
  · simp [width, hcs, hx]
  · rw [List.drop_zero, List.take_of_length_le (by simp [width, hcs, hx])]
    exact RdL_one ⟨hx, RdL_int.2 hcs⟩
/-- A law: true; its arguments read as they did; package variables are what G says. -/
theorem law_rowG {C : Checked} {f : FuncId} {fn : Func} {s : ChangeSpec} {bt : TypeId} {ts : List TypeId} {ks : List Kd} {pre pre' : HL ks → Prop} {H : Type} {enc : TypeId × Value → H} {G : Glob}
    (he : enters C.prog f fn) (hf : FnOk C.prog f ks [.val .bool] G pre (fun _ => (true, ()))) (hl : laidOutB C.prog = true) (hts : fn.params.toList = ts) (hrs : fn.resultTypes = #[bt]) (hbt : C.prog.underlying bt = some .bool)
    (ho : OpnL C.prog ts ks pre') (hpre : ∀ xs, pre' xs → pre xs) (hv : s.vars = []) (hs : ∀ ds : List (DataW H), ds.length = ts.length → s.fn H ds = { results := [.lit (.bool true)], args := ds })
    (W : World) (hG : GlOk G (memOf W)) (base : Nat) (args : Array Value) (ds gs : List (DataW H)) (before : List MemPlace)
    (hok : ∀ (j : Nat) t v, fn.params[j]? = some t → args[j]? = some v → Value.okWide C.prog W .any base t v)
    (hW : DataW.Whole enc C.prog fn.params.toList s.vars false W args.toList ds gs before)
    (hsz : (DataW.weightsEach C.prog (fn.params.toList ++ s.plain.varTypes C.prog) (ds ++ gs)).all (· ≤ reachBytes) = true) :
    Calls C.prog f args W fun e W' => ∃ v, e = .returned v ∧ s.post enc C.prog fn false true false false W args v W' := by
  have hW' := hW
  have hlt : ∀ x ∈ before, x.block < W.heap.size := fun x hx => by simpa using hW'.lt x hx
  obtain ⟨p, q, hA, hV, rfl, hfz, hnd⟩ := hW
  rw [hv] at hV
  obtain ⟨rfl, rfl⟩ := trodVars_none hV
  rw [hts] at hA
  have hlen : ds.length = ts.length := by
    exact trodAll_len hA
  have hwt : ∀ n ∈ DataW.weightsEach C.prog ts ds, n ≤ reachBytes := by
    intro n hn
    have e : s.plain.varTypes C.prog = [] := by simp [DataSpec.varTypes, ChangeSpec.plain, hv]
    rw [e, hts, List.append_nil, List.append_nil, List.all_eq_true] at hsz
    simpa using hsz n hn
  obtain ⟨xs, hin, hp⟩ := opnL_open ho (enc := enc) (W := W) (base := base) (vs := args.toList) (ds := ds) (p := p) (fun j t v ht hj => hok j t v (by rw [← hts] at ht; simpa using ht) (by simpa using hj)) hA hwt
  have hc := hf W (memOf W) args.toList xs (fun b l h => h) hG hin (hpre xs hp)
  refine (callOk_calls he hc).mono ?_
  rintro e W' ⟨v, rfl, vs, ob, rfl, ⟨v, vs', rfl, hv1, rfl⟩, hb⟩
  have hv1 : v = .bool true := by have h : [v] = [Value.bool true] := hv1; simpa using h
  subst hv1
  refine ⟨_, rfl, ds, [], p ++ [], [], p, [], hW', ?_, ?_, ?_, ?_, fun h => by cases h⟩
  · rw [hrs, List.append_nil, hs ds hlen]
    exact trodAll_mk1 (shut_bool hbt true)
  · rw [hts, List.append_nil, hs ds hlen]
    exact opnL_stays hl ho hb hA (fun x hx => hlt x (by simpa using hx))
  · rw [hv, List.append_nil, hs ds hlen]
    rfl
  · exact hb.frame _
end Go.Eng
/- sha's tables as the card's rows list them. -/
namespace Go.Proofs.YtbeeaekepmnfhaaGreatDoor.sha
set_option maxRecDepth 100000
open Go Go.Eng Go.RowKit Cr Go.Proofs.YtbeeaekepmnfhaaGreatDoor
abbrev shaLaid : List (String × DataW Unit) := [("cresset/sha.first", Rows.laid_cresset_sha_first), ("cresset/sha.roots", Rows.laid_cresset_sha_roots)]
theorem gFirst : Tryz.prog.globalNamed "cresset/sha.first" = some 0 := by kernel_rfl
theorem gRoots : Tryz.prog.globalNamed "cresset/sha.roots" = some 1 := by kernel_rfl
theorem tFirst : (Tryz.prog.globals[0]?).map (·.type) = some 213 := by kernel_rfl
theorem tRoots : (Tryz.prog.globals[1]?).map (·.type) = some 261 := by kernel_rfl
/-- What the condition says of memory. -/
theorem sha_glob {W : World} (h : laidMetH Tryz.prog shaLaid W) : GlOk shaG (memOf W) := by
  rw [MakeChecks.laidMetH_plain _ _ _ (by kernel_rfl)] at h
  obtain ⟨ps, ⟨g0, t0, cs0, f0, p0, q0, hg0, ht0, hv0, hd0, ⟨g1, t1, cs1, f1, p1, q1, hg1, ht1, hv1, hd1, _, _⟩, _⟩, _, _⟩ := h
  obtain rfl := Option.some.inj (gFirst.symm.trans hg0)
  obtain rfl := Option.some.inj (gRoots.symm.trans hg1)
  obtain rfl := Option.some.inj (tFirst.symm.trans ht0)
  obtain rfl := Option.some.inj (tRoots.symm.trans ht1)
  have e0 : (Rows.laid_cresset_sha_first : DataW Unit) = .agg (firstL.map fun x => .lit (.int .u32 x)) := rfl
  have e1 : (Rows.laid_cresset_sha_roots : DataW Unit) = .agg (rootsL.map fun x => .lit (.int .u32 x)) := rfl
  rw [e0] at hd0
  rw [e1] at hd1
  have c0 := laid_ints (e := 191) (n := 8) (k := .u32) (by kernel_rfl) (by kernel_rfl) (by kernel_rfl) (by kernel_rfl) hd0
  have c1 := laid_ints (e := 191) (n := 64) (k := .u32) (by kernel_rfl) (by kernel_rfl) (by kernel_rfl) (by kernel_rfl) hd1
  have r0 := laid_row hg0 hv0 c0 (n := 8) rfl
  have r1 := laid_row hg1 hv1 c1 (n := 64) rfl
  intro g e x hx
  unfold shaG at hx
  split at hx
  · rename_i hg
    subst hg
    simp only [Option.some.injEq] at hx
    cases hx
    exact r0
  · split at hx
    · rename_i hg
      subst hg
      simp only [Option.some.injEq] at hx
      cases hx
      exact r1
    · cases hx
/-- The door's own heap meets the condition. -/
theorem door_met (os : Os) (args : Array Value) : laidMetH Tryz.prog shaLaid ((World.doorLaid Tryz.prog 400 os).forCall (fun _ _ => 0) ⟨#[], args, []⟩).memory :=
  laidMetH_of_parts3 (fuel := 8) (laidMet_of_run' 8 (by kernel_rfl) (by kernel_rfl)) (by kernel_rfl) (by kernel_rfl)
end Go.Proofs.YtbeeaekepmnfhaaGreatDoor.sha
namespace Go.Proofs.YtbeeaekepmnfhaaGreatDoor
set_option maxRecDepth 100000
open Go Go.Eng Go.RowKit Cr Go.ChangeShapes Go.WideShapes Go.ChangeAt

namespace catchupSizes
theorem own : ownKnob Tryz.prog.godebug = none := by kernel_rfl
theorem laidOut : laidOutB Tryz.prog = true := by kernel_rfl
abbrev wtI : Car (.int .i64) → Prop := fun x => (Lit.int .i64 x).wf = true
theorem oI : OpnV Tryz.prog 3 (.int .i64) wtI := opnV_int (by kernel_rfl)
theorem pI {x : Int} (h : wtI x) : preI x := by
  have : (Lit.int .i64 x).wf = true := h
  simp [Lit.wf, IntKind.min, IntKind.max, IntKind.signed, IntKind.bits] at this
  exact ⟨by omega, by omega⟩
theorem opened : OpnL Tryz.prog [3, 3] [.int .i64, .int .i64] (fun x => wtI x.1 ∧ wtI x.2.1 ∧ True) :=
  .cons oI (by kernel_rfl) (of_decide_eq_true (by kernel_rfl)) (.cons oI (by kernel_rfl) (of_decide_eq_true (by kernel_rfl)) .nil)
theorem lifted (os : Os) (started : os.Started) (H : Type) (enc : TypeId × Value → H) :
    ReturnsInHanded {} Tryz.checked os 3 .any (fun w args => (Rows.catchupSizesSpec.pre enc Tryz.prog Tryz.f3 Rows.catchupSizesRow.domain false w args ∧ laidMetH Tryz.prog sha.shaLaid w) ∧ sizedMet enc Tryz.prog Tryz.f3 (OpenSpec.ofChange Rows.catchupSizesSpec) false w args) (Rows.catchupSizesSpec.post enc Tryz.prog Tryz.f3 false true false false) := by
  refine returnsInHanded_of_change_and (C := Tryz.checked) (X := fun w _ => laidMetH Tryz.prog sha.shaLaid w) (fun _ _ _ hh h => h.of_heap hh) own started (by kernel_rfl) Tryz.func3
    (ChangeSpec.witness_shaped (enc := enc) (C := Tryz.checked) (os := os) (X := fun w _ => laidMetH Tryz.prog sha.shaLaid w) false (World.doorLaid Tryz.prog 400 os) #[.int .i64 0, .int .i64 0] 8 rfl (World.shaped_of_RefB (by kernel_rfl) (by kernel_rfl)) (by kernel_rfl) (by kernel_rfl) (by kernel_rfl) (sha.door_met os _)) ?_
  intro W base args ds gs before hval hW _ hsz hL _
  refine law_rowG (C := Tryz.checked) (bt := 4) (ts := [3, 3]) law25.ent_sizes law25.fn_sizes laidOut (by kernel_rfl) (by kernel_rfl) (by kernel_rfl) opened ?_ rfl ?_ W (sha.sha_glob hL) base args ds gs before hval hW hsz
  · rintro ⟨x0, x1, ⟨⟩⟩ ⟨h0, h1, _⟩
    exact ⟨pI h0, pI h1⟩
  · intro ds hl
    match ds, hl with
    | [d0, d1], _ => rfl

theorem row : Rows.CatchupSizesSaid :=
  OpenClaim.holds_of_wide 3 Tryz.f3 rfl rfl rfl rfl rfl rfl rfl ⟨rfl, rfl, rfl, rfl, rfl⟩ rfl rfl rfl rfl rfl (by kernel_rfl) Tryz.func3 (by kernel_rfl)
    (of_decide_eq_true (by kernel_rfl)) (by unfold Func.isWrapper; first | (rw [if_pos (by decide +kernel)]; kernel_rfl) | (rw [if_neg (by decide +kernel)]; exact ⟨rfl, rfl⟩))
    (fun os started H enc _ => lifted os started H enc)
theorem wants : (Tryz.f3.params.toList.all fun u => !Tryz.prog.wantsStandIn u) = true := by kernel_rfl
/-- THE TIED CARD. -/
theorem proved : Rows.CatchupSizesCardSaid :=
  Claim7.holds_tied_plain_at .later [] [.data, .data] true (true, "cf2e951b99f3f2b23b04da4c4894839ac980a495d785b014e0b6a3403a28d2a0") false
    row (fun _ h => by cases h) (by kernel_rfl) (fun _ h => by cases h) catchupSizes_row_tie rfl ⟨rfl, rfl⟩ (by kernel_rfl) rfl
    (fun f fn hf hfn => by
      obtain rfl : f = 3 := Option.some.inj ((show Tryz.prog.funcNamed "cresset/cressetlaw25.CatchupSizes" = some 3 by kernel_rfl).symm.trans hf) |>.symm
      obtain rfl : fn = Tryz.f3 := (Option.some.inj (Tryz.func3.symm.trans hfn)).symm
      exact ⟨by kernel_rfl, fun j t ht => by
        have hm : t ∈ Tryz.f3.params.toList := by simpa using Array.mem_of_getElem? ht
        exact (show Tryz.prog.wantsStandIn t = false by simpa using List.all_eq_true.1 wants t hm)⟩)
    (by kernel_rfl)
#print axioms proved
end catchupSizes
end Go.Proofs.YtbeeaekepmnfhaaGreatDoor
