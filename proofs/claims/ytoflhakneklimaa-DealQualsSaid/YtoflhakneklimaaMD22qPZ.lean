/- DealQuals, for every input: true; the input reads as it did. No condition. -/
import Derived.ChangeSame
import Derived.Test.YtoflhakneklimaaMD22qPY
/- DealQuals: the walk. -/
namespace Go.Proofs.Ytoflhakneklimaa.law22
set_option maxRecDepth 100000
open Go Go.Eng Go.RowKit Cr Go.Proofs.Ytoflhakneklimaa Go.Proofs.Ytoflhakneklimaa.law14 Go.Proofs.Ytoflhakneklimaa.poly Go.Proofs.Ytoflhakneklimaa.deal
theorem ent_quals : enters Try.prog 4 Try.f4 := enters_mk (by kernel_rfl) (by kernel_rfl) (by kernel_rfl)
abbrev preFlt (f : Flt) : Prop := preI f.1 ∧ preIS f.2
abbrev preQuals : HL [iK, iK, bsl, .sl iK, .sl faultK, .sl iK] → Prop := fun (n, need, b, dl, fl, pl, _) => preI n ∧ preI need ∧ preB b ∧ preIS dl ∧ (∀ f ∈ (fl : List Flt), preFlt f) ∧ preIS pl
noncomputable def quA (b : List Int) (dl : List Int) (fl : List Flt) (pl : List Int) (need n : Int) : St := mkSt Try.f4.ntmps 200 [(0, sI .i64 n), (1, sI .i64 need), (2, .is (.one (.ro (.int .u8) b))), (3, .is (.one (.ro iK dl))), (4, .is (.one (.ro faultK fl))), (5, .is (.one (.ro iK pl)))] []
noncomputable def quB (b : List Int) (dl : List Int) (fl : List Flt) (pl : List Int) (n need : Int) (d : List Int) : St := mkSt Try.f4.ntmps 200 [(0, sI .i64 n), (1, sI .i64 need), (2, .is (.one (.ro (.int .u8) b))), (3, .is (.one (.ro iK dl))), (4, .is (.one (.ro faultK fl))), (5, .is (.one (.ro iK pl))), (13, .is (.one (.ro iK d)))] []
noncomputable def quC (b : List Int) (dl : List Int) (fl : List Flt) (pl : List Int) (n : Int) (d : List Int) (need : Int) : St := mkSt Try.f4.ntmps 200 [(0, sI .i64 n), (1, sI .i64 need), (2, .is (.one (.ro (.int .u8) b))), (3, .is (.one (.ro iK dl))), (4, .is (.one (.ro faultK fl))), (5, .is (.one (.ro iK pl))), (13, .is (.one (.ro iK d)))] []
noncomputable def quD (b : List Int) (dl : List Int) (fl : List Flt) (pl : List Int) (n need : Int) (d : List Int) (g : Int × Nat × List Dl) : St := mkSt Try.f4.ntmps 288 [(0, sI .i64 n), (1, sI .i64 need), (2, .is (.one (.ro (.int .u8) b))), (3, .is (.one (.ro iK dl))), (4, .is (.one (.ro faultK fl))), (5, .is (.one (.ro iK pl))), (13, .is (.one (.ro iK d))), (14, .is (.one (.ptr 232 0))), (15, .is (.one (.sl 248 0 0 g.2.1 2))), (85, .is (.one (.ro iK dl))), (86, sI .i64 dl.length), (87, sI .i64 g.1)] [(248, [.row dealK g.2.1 g.2.2]), (232, [.ro iK d, .ro iK d, .v (.int .i64 need), .v (.slice none 0 0)])]
noncomputable def quE (b : List Int) (dl : List Int) (fl : List Flt) (pl : List Int) (n need : Int) (d : List Int) (g : Int × Nat × List Dl) (x k : Int) : St := mkSt Try.f4.ntmps 288 [(0, sI .i64 n), (1, sI .i64 need), (2, .is (.one (.ro (.int .u8) b))), (3, .is (.one (.ro iK dl))), (4, .is (.one (.ro faultK fl))), (5, .is (.one (.ro iK pl))), (13, .is (.one (.ro iK d))), (14, .is (.one (.ptr 232 0))), (15, .is (.one (.sl 248 0 0 g.2.1 2))), (18, sI .i64 x), (19, sI .i64 k), (85, .is (.one (.ro iK dl))), (86, sI .i64 dl.length), (87, sI .i64 g.1)] [(248, [.row dealK g.2.1 g.2.2]), (232, [.ro iK d, .ro iK d, .v (.int .i64 need), .v (.slice none 0 0)])]
noncomputable def qdJ (b : List Int) (need : Int) (dl : List Int) (g : Int × Nat × List Dl) : Prop := ∃ k : Nat, k ≤ dl.length ∧ g.1 = (k : Int) ∧ g.2.2 = (dl.take k).map (dlF b need) ∧ g.2.1 = k
abbrev GQ : Type := Int × (Nat × List Pf) × (Nat × List Bool)
noncomputable def quF (b : List Int) (dl : List Int) (fl : List Flt) (pl : List Int) (n need : Int) (d : List Int) (m : Nat) (ds : List Dl) (g : GQ) : St := mkSt Try.f4.ntmps 344 [(0, sI .i64 n), (1, sI .i64 need), (2, .is (.one (.ro (.int .u8) b))), (3, .is (.one (.ro iK dl))), (4, .is (.one (.ro faultK fl))), (5, .is (.one (.ro iK pl))), (13, .is (.one (.ro iK d))), (14, .is (.one (.ptr 232 0))), (15, .is (.one (.sl 248 0 0 m 2))), (20, .is (.one (.sl 288 0 0 g.2.1.1 6))), (21, .is (.one (.sl 304 0 0 g.2.2.1 1))), (113, .is (.one (.ro iK pl))), (114, sI .i64 pl.length), (115, sI .i64 g.1)] [(288, [.row proofK g.2.1.1 g.2.1.2]), (304, [.row .bool g.2.2.1 g.2.2.2]), (248, [.row dealK m ds]), (232, [.ro iK d, .ro iK d, .v (.int .i64 need), .v (.slice none 0 0)])]
noncomputable def quG (b : List Int) (dl : List Int) (fl : List Flt) (pl : List Int) (n need : Int) (d : List Int) (m : Nat) (ds : List Dl) (g : GQ) (z x y : Int) : St := mkSt Try.f4.ntmps 344 [(0, sI .i64 n), (1, sI .i64 need), (2, .is (.one (.ro (.int .u8) b))), (3, .is (.one (.ro iK dl))), (4, .is (.one (.ro faultK fl))), (5, .is (.one (.ro iK pl))), (13, .is (.one (.ro iK d))), (14, .is (.one (.ptr 232 0))), (15, .is (.one (.sl 248 0 0 m 2))), (20, .is (.one (.sl 288 0 0 g.2.1.1 6))), (21, .is (.one (.sl 304 0 0 g.2.2.1 1))), (23, sI .i64 z), (24, sI .i64 x), (25, sI .i64 y), (113, .is (.one (.ro iK pl))), (114, sI .i64 pl.length), (115, sI .i64 g.1)] [(288, [.row proofK g.2.1.1 g.2.1.2]), (304, [.row .bool g.2.2.1 g.2.2.2]), (248, [.row dealK m ds]), (232, [.ro iK d, .ro iK d, .v (.int .i64 need), .v (.slice none 0 0)])]
noncomputable def quS (b : List Int) (dl : List Int) (fl : List Flt) (pl : List Int) (n need : Int) (d : List Int) (m : Nat) (ds : List Dl) (g : GQ) (z x y : Int) (s : Fr) : St := mkSt Try.f4.ntmps 432 [(0, sI .i64 n), (1, sI .i64 need), (2, .is (.one (.ro (.int .u8) b))), (3, .is (.one (.ro iK dl))), (4, .is (.one (.ro faultK fl))), (5, .is (.one (.ro iK pl))), (13, .is (.one (.ro iK d))), (14, .is (.one (.ptr 232 0))), (15, .is (.one (.sl 248 0 0 m 2))), (20, .is (.one (.sl 288 0 0 g.2.1.1 6))), (21, .is (.one (.sl 304 0 0 g.2.2.1 1))), (23, sI .i64 z), (24, sI .i64 x), (25, sI .i64 y), (26, .is (.one (.ptr 392 0))), (113, .is (.one (.ro iK pl))), (114, sI .i64 pl.length), (115, sI .i64 g.1)] [(392, [.row .fr 1 [s]]), (288, [.row proofK g.2.1.1 g.2.1.2]), (304, [.row .bool g.2.2.1 g.2.2.2]), (248, [.row dealK m ds]), (232, [.ro iK d, .ro iK d, .v (.int .i64 need), .v (.slice none 0 0)])]
noncomputable def quH (b : List Int) (dl : List Int) (fl : List Flt) (pl : List Int) (n need : Int) (d : List Int) (m : Nat) (ds : List Dl) (mp : Nat) (ps : List Pf) (mg : Nat) (gs : List Bool) (g : Int × Nat × List Flt) : St := mkSt Try.f4.ntmps 384 [(0, sI .i64 n), (1, sI .i64 need), (2, .is (.one (.ro (.int .u8) b))), (3, .is (.one (.ro iK dl))), (4, .is (.one (.ro faultK fl))), (5, .is (.one (.ro iK pl))), (13, .is (.one (.ro iK d))), (14, .is (.one (.ptr 232 0))), (15, .is (.one (.sl 248 0 0 m 2))), (20, .is (.one (.sl 288 0 0 mp 6))), (21, .is (.one (.sl 304 0 0 mg 1))), (27, .is (.one (.sl 344 0 0 g.2.1 2))), (153, .is (.one (.ro faultK fl))), (154, sI .i64 fl.length), (155, sI .i64 g.1)] [(344, [.row faultK g.2.1 g.2.2]), (288, [.row proofK mp ps]), (304, [.row .bool mg gs]), (248, [.row dealK m ds]), (232, [.ro iK d, .ro iK d, .v (.int .i64 need), .v (.slice none 0 0)])]
noncomputable def qfJ (b : List Int) (need : Int) (pl : List Int) (g : GQ) : Prop := ∃ k : Nat, k ≤ pl.length ∧ g.1 = (k : Int) ∧ g.2.1.2 = (pl.take k).map (pfF b need) ∧ g.2.1.1 = k ∧ g.2.2.2 = (pl.take k).map gdF ∧ g.2.2.1 = k
theorem toP_bd (z : Int) : 1 ≤ toP z ∧ toP z ≤ 4 := by
  have h := and3 (z.fdiv (2 ^ min (2 : Nat) IntKind.i64.bits))
  rw [toP, wrap_i64' (by omega) (by omega)]; omega
noncomputable def quM (fl : List Flt) (need : Int) (d : List Int) (m : Nat) (ds : List Dl) (mp : Nat) (ps : List Pf) (mg : Nat) (gs : List Bool) (gl : Nat) (got : List Int) (g : Int × Int) : St := mkSt Try.f4.ntmps 432 [(1, sI .i64 need), (4, .is (.one (.ro faultK fl))), (13, .is (.one (.ro iK d))), (15, .is (.one (.sl 248 0 0 m 2))), (20, .is (.one (.sl 288 0 0 mp 6))), (21, .is (.one (.sl 304 0 0 mg 1))), (30, .is (.one (.sl 416 0 0 gl 1))), (31, sI .i64 g.2), (175, .is (.one (.ro iK d))), (176, sI .i64 d.length), (177, sI .i64 g.1)] [(416, [.ints .i64 gl got]), (288, [.row proofK mp ps]), (304, [.row .bool mg gs]), (248, [.row dealK m ds])]
noncomputable def qu8 (fl : List Flt) (need : Int) (d : List Int) (m : Nat) (ds : List Dl) (mp : Nat) (ps : List Pf) (mg : Nat) (gs : List Bool) (gl : Nat) (got : List Int) (i aa x : Int) (g : Bool × Int) : St := mkSt Try.f4.ntmps 432 [(1, sI .i64 need), (4, .is (.one (.ro faultK fl))), (13, .is (.one (.ro iK d))), (15, .is (.one (.sl 248 0 0 m 2))), (20, .is (.one (.sl 288 0 0 mp 6))), (21, .is (.one (.sl 304 0 0 mg 1))), (30, .is (.one (.sl 416 0 0 gl 1))), (31, sI .i64 aa), (175, .is (.one (.ro iK d))), (176, sI .i64 d.length), (177, sI .i64 i), (33, sI .i64 x), (34, .is (.one (.v (.bool g.1)))), (35, sI .i64 g.2)] [(416, [.ints .i64 gl got]), (288, [.row proofK mp ps]), (304, [.row .bool mg gs]), (248, [.row dealK m ds])]
noncomputable def qu8F (fl : List Flt) (need : Int) (d : List Int) (m : Nat) (ds : List Dl) (mp : Nat) (ps : List Pf) (mg : Nat) (gs : List Bool) (gl : Nat) (got : List Int) (i aa x : Int) (g : Int) : St := mkSt Try.f4.ntmps 432 [(1, sI .i64 need), (4, .is (.one (.ro faultK fl))), (13, .is (.one (.ro iK d))), (15, .is (.one (.sl 248 0 0 m 2))), (20, .is (.one (.sl 288 0 0 mp 6))), (21, .is (.one (.sl 304 0 0 mg 1))), (30, .is (.one (.sl 416 0 0 gl 1))), (31, sI .i64 aa), (175, .is (.one (.ro iK d))), (176, sI .i64 d.length), (177, sI .i64 i), (33, sI .i64 x), (34, .is (.one .F)), (35, sI .i64 g)] [(416, [.ints .i64 gl got]), (288, [.row proofK mp ps]), (304, [.row .bool mg gs]), (248, [.row dealK m ds])]
theorem tr_exit {E : Env} {N : Nat} {n r : St → Prop} {x : Nat → St → Prop} {l : List Code} {σ : St} (i : Nat) (hl : l.head? = some (.exit i)) (h : x i σ) : Tr E N l σ n r x := by
  intro a w Q hh hn hr hx
  cases l with
  | nil => simp at hl
  | cons d l =>
    simp at hl; subst hl
    exact wp_exit (hx i σ a w hh h)
def fixF : SV → SV
  | .is (.one .F) => .is (.one (.v (.bool false)))
  | .is (.one .T) => .is (.one (.v (.bool true)))
  | s => s
theorem fixF_ref (s : SV) : refines s (fixF s) := by
  unfold fixF
  split
  · exact fun ρ v h => ⟨h, rfl⟩
  · exact fun ρ v h => ⟨h, rfl⟩
  · exact fun ρ v h => h
def normF (t : Nat) (σ : St) : St := ⟨σ.slots.set t (fixF (σ.S t)), σ.blks, σ.next⟩
theorem holds_ref {W : Base} {n : Nat} {σ : St} {a : Act} {w : World} (t : Nat) (s : SV) (hs : refines (σ.S t) s) (hh : Holds W n σ a w) : Holds W n ⟨σ.slots.set t s, σ.blks, σ.next⟩ a w := by
  obtain ⟨hlen, ρ, hrep, hid⟩ := hh
  refine ⟨by show (σ.slots.set t s).length = n; rw [List.length_set]; exact hlen, ρ, { hrep with slots := ?_ }, hid⟩
  intro u
  have hu := hrep.slots u
  show ((σ.slots.set t s).getD u .junk).rel ρ _
  rw [List.getD_eq_getElem?_getD, List.getElem?_set]
  split
  · rename_i htu
    subst htu
    split
    · exact hs ρ _ hu
    · trivial
  · rw [← List.getD_eq_getElem?_getD]; exact hu
/-- As tr_cutF; slot t, where false, is read as a bool. -/
theorem tr_cutB {E : Env} {N : Nat} {n r : St → Prop} {x : Nat → St → Prop} (hsp : SpecsOk E.P E.sp) (hm : E.P.follows .mixedOrders = true) {l : List Code} {σ : St} {α : Type} (k t : Nat) (f : St → α) (τ : α → St) (K : α → Prop) (h1 : VC E (l.take k) σ (fun σ' => (normF t σ').le E.w0 (τ (f (normF t σ'))) (K (f (normF t σ')))) r x) (h2 : ∀ a, K a → Tr E N (l.drop k) (τ a) n r x) : Tr E N l σ n r x := by
  intro a w Q hh hn hr hx
  rw [← List.take_append_drop k l]
  refine WpL_append _ _ a w ?_
  refine tr_vc hsp hm _ _ h1 a w _ hh (fun σ' a' w' hh' h' => ?_) hr hx
  obtain ⟨hK, hτ⟩ := le_spec h' (holds_ref t _ (fixF_ref _) hh')
  exact h2 _ hK a' w' Q hτ hn hr hx
theorem ref_F : refines (.is (.one .F)) (.is (.one (.v (.bool false)))) := fun ρ v h => ⟨h, rfl⟩
noncomputable def qu10 (fl : List Flt) (need : Int) (d : List Int) (m : Nat) (ds : List Dl) (mp : Nat) (ps : List Pf) (mg : Nat) (gs : List Bool) (gl : Nat) (got : List Int) (i aa x : Int) (g : Bool × Int × Int) : St := mkSt Try.f4.ntmps 432 [(1, sI .i64 need), (4, .is (.one (.ro faultK fl))), (13, .is (.one (.ro iK d))), (15, .is (.one (.sl 248 0 0 m 2))), (20, .is (.one (.sl 288 0 0 mp 6))), (21, .is (.one (.sl 304 0 0 mg 1))), (30, .is (.one (.sl 416 0 0 gl 1))), (31, sI .i64 aa), (175, .is (.one (.ro iK d))), (176, sI .i64 d.length), (177, sI .i64 i), (33, sI .i64 x), (34, .is (.one (.v (.bool g.1)))), (36, sI .i64 g.2.1), (203, .is (.one (.ro iK d))), (204, sI .i64 d.length), (205, sI .i64 g.2.2)] [(416, [.ints .i64 gl got]), (288, [.row proofK mp ps]), (304, [.row .bool mg gs]), (248, [.row dealK m ds])]
noncomputable def qu12 (fl : List Flt) (need : Int) (d : List Int) (m : Nat) (ds : List Dl) (mp : Nat) (ps : List Pf) (mg : Nat) (gs : List Bool) (gl : Nat) (got : List Int) (i aa x : Int) (ok : Bool) (cn j y : Int) (g : Bool × Int) : St := mkSt Try.f4.ntmps 432 [(1, sI .i64 need), (4, .is (.one (.ro faultK fl))), (13, .is (.one (.ro iK d))), (15, .is (.one (.sl 248 0 0 m 2))), (20, .is (.one (.sl 288 0 0 mp 6))), (21, .is (.one (.sl 304 0 0 mg 1))), (30, .is (.one (.sl 416 0 0 gl 1))), (31, sI .i64 aa), (175, .is (.one (.ro iK d))), (176, sI .i64 d.length), (177, sI .i64 i), (33, sI .i64 x), (34, .is (.one (.v (.bool ok)))), (36, sI .i64 cn), (203, .is (.one (.ro iK d))), (204, sI .i64 d.length), (205, sI .i64 j), (38, sI .i64 y), (39, .is (.one (.v (.bool g.1)))), (209, .is (.one (.ro faultK fl))), (210, sI .i64 fl.length), (211, sI .i64 g.2)] [(416, [.ints .i64 gl got]), (288, [.row proofK mp ps]), (304, [.row .bool mg gs]), (248, [.row dealK m ds])]
noncomputable def qu12C (fl : List Flt) (need : Int) (d : List Int) (m : Nat) (ds : List Dl) (mp : Nat) (ps : List Pf) (mg : Nat) (gs : List Bool) (gl : Nat) (got : List Int) (i aa x : Int) (ok : Bool) (cn j y : Int) (g : Bool × Int) (c : Bool) : St := mkSt Try.f4.ntmps 432 [(1, sI .i64 need), (4, .is (.one (.ro faultK fl))), (13, .is (.one (.ro iK d))), (15, .is (.one (.sl 248 0 0 m 2))), (20, .is (.one (.sl 288 0 0 mp 6))), (21, .is (.one (.sl 304 0 0 mg 1))), (30, .is (.one (.sl 416 0 0 gl 1))), (31, sI .i64 aa), (175, .is (.one (.ro iK d))), (176, sI .i64 d.length), (177, sI .i64 i), (33, sI .i64 x), (34, .is (.one (.v (.bool ok)))), (36, sI .i64 cn), (203, .is (.one (.ro iK d))), (204, sI .i64 d.length), (205, sI .i64 j), (38, sI .i64 y), (39, .is (.one (.v (.bool g.1)))), (230, .is (.one (.v (.bool c)))), (209, .is (.one (.ro faultK fl))), (210, sI .i64 fl.length), (211, sI .i64 g.2)] [(416, [.ints .i64 gl got]), (288, [.row proofK mp ps]), (304, [.row .bool mg gs]), (248, [.row dealK m ds])]
noncomputable def qu12F (fl : List Flt) (need : Int) (d : List Int) (m : Nat) (ds : List Dl) (mp : Nat) (ps : List Pf) (mg : Nat) (gs : List Bool) (gl : Nat) (got : List Int) (i aa x : Int) (ok : Bool) (cn j y : Int) (g : Int) : St := mkSt Try.f4.ntmps 432 [(1, sI .i64 need), (4, .is (.one (.ro faultK fl))), (13, .is (.one (.ro iK d))), (15, .is (.one (.sl 248 0 0 m 2))), (20, .is (.one (.sl 288 0 0 mp 6))), (21, .is (.one (.sl 304 0 0 mg 1))), (30, .is (.one (.sl 416 0 0 gl 1))), (31, sI .i64 aa), (175, .is (.one (.ro iK d))), (176, sI .i64 d.length), (177, sI .i64 i), (33, sI .i64 x), (34, .is (.one (.v (.bool ok)))), (36, sI .i64 cn), (203, .is (.one (.ro iK d))), (204, sI .i64 d.length), (205, sI .i64 j), (38, sI .i64 y), (39, .is (.one .F)), (209, .is (.one (.ro faultK fl))), (210, sI .i64 fl.length), (211, sI .i64 g)] [(416, [.ints .i64 gl got]), (288, [.row proofK mp ps]), (304, [.row .bool mg gs]), (248, [.row dealK m ds])]
noncomputable def qu14 (fl : List Flt) (need : Int) (d : List Int) (m : Nat) (ds : List Dl) (mp : Nat) (ps : List Pf) (mg : Nat) (gs : List Bool) (gl : Nat) (got : List Int) (i aa x : Int) (ok : Bool) (cn j y : Int) (g : Bool × Int) : St := mkSt Try.f4.ntmps 432 [(1, sI .i64 need), (4, .is (.one (.ro faultK fl))), (13, .is (.one (.ro iK d))), (15, .is (.one (.sl 248 0 0 m 2))), (20, .is (.one (.sl 288 0 0 mp 6))), (21, .is (.one (.sl 304 0 0 mg 1))), (30, .is (.one (.sl 416 0 0 gl 1))), (31, sI .i64 aa), (175, .is (.one (.ro iK d))), (176, sI .i64 d.length), (177, sI .i64 i), (33, sI .i64 x), (34, .is (.one (.v (.bool ok)))), (36, sI .i64 cn), (203, .is (.one (.ro iK d))), (204, sI .i64 d.length), (205, sI .i64 j), (38, sI .i64 y), (42, .is (.one (.v (.bool g.1)))), (234, sI .i64 mp), (235, sI .i64 g.2)] [(416, [.ints .i64 gl got]), (288, [.row proofK mp ps]), (304, [.row .bool mg gs]), (248, [.row dealK m ds])]
noncomputable def qu14F (fl : List Flt) (need : Int) (d : List Int) (m : Nat) (ds : List Dl) (mp : Nat) (ps : List Pf) (mg : Nat) (gs : List Bool) (gl : Nat) (got : List Int) (i aa x : Int) (ok : Bool) (cn j y : Int) (g : Int) : St := mkSt Try.f4.ntmps 432 [(1, sI .i64 need), (4, .is (.one (.ro faultK fl))), (13, .is (.one (.ro iK d))), (15, .is (.one (.sl 248 0 0 m 2))), (20, .is (.one (.sl 288 0 0 mp 6))), (21, .is (.one (.sl 304 0 0 mg 1))), (30, .is (.one (.sl 416 0 0 gl 1))), (31, sI .i64 aa), (175, .is (.one (.ro iK d))), (176, sI .i64 d.length), (177, sI .i64 i), (33, sI .i64 x), (34, .is (.one (.v (.bool ok)))), (36, sI .i64 cn), (203, .is (.one (.ro iK d))), (204, sI .i64 d.length), (205, sI .i64 j), (38, sI .i64 y), (42, .is (.one .F)), (234, sI .i64 mp), (235, sI .i64 g)] [(416, [.ints .i64 gl got]), (288, [.row proofK mp ps]), (304, [.row .bool mg gs]), (248, [.row dealK m ds])]
set_option maxHeartbeats 4000000 in
theorem fn_quals : FnOk Try.prog 4 [iK, iK, bsl, .sl iK, .sl faultK, .sl iK] [.val .bool] noG preQuals (fun _ => (true, ())) := by
  have hsp : SpecsOk Try.prog (sps [spHead, soNumbers, soMade, soCommit, spIn, spAt, fr.spAdd, fr.spOf, spQual, (1000000 + 46, Eng.mark)]) := sps_cons (fnSpec_ok fn_head) (sps_cons (fnSpec_ok fo_numbers) (sps_cons (fnSpec_ok fo_made) (sps_cons (fnSpec_ok fo_commit) (sps_cons (fnSpec_ok fn_in) (sps_cons (fnSpec_ok fn_at) (sps_cons (fnSpec_ok fr.fn_add) (sps_cons (fnSpec_ok fr.fn_of) (sps_cons (fnSpec_ok fn_qual) (sps_cons Eng.mark_ok sps_nil)))))))))
  refine fn_of_tr (sp := sps [spHead, soNumbers, soMade, soCommit, spIn, spAt, fr.spAdd, fr.spOf, spQual, (1000000 + 46, Eng.mark)]) ent_quals (by decide) (by decide) (by kernel_rfl) ?_
  rintro w M0 ⟨n, need, b, dl, fl, pl, ⟨⟩⟩
  revert n need b dl fl pl
  intro (n : Int) (need : Int) (b : List Int) (dl : List Int) (fl : List Flt) (pl : List Int) _ hp
  obtain ⟨hn, hne, ⟨hb, hl⟩, hdl, hfl, hpl⟩ := hp
  show Tr _ _ _ _ _ _ _
  refine tr_cutF hsp mixed 6 (fun σ => rdS iK 0 σ) (quA b dl fl pl need) (fun g => (b.length ≤ 100 ∧ dl.length ≤ 12 ∧ pl.length ≤ 12 ∧ fl.length ≤ 12) ∧ 1 ≤ g ∧ g ≤ 4) ?_ ?_
  · refine vcx (X := (True ∧ ((!true) = true → (false, ()) = (true, ())) ∧ ((!true) = false → (decide ((↑b.length : Int) > (100 : Int)) = true → (true, ()) = (true, ())) ∧ (decide ((↑b.length : Int) > (100 : Int)) = false → (decide ((↑dl.length : Int) > (12 : Int)) = true → (true, ()) = (true, ())) ∧ (decide ((↑dl.length : Int) > (12 : Int)) = false → (decide ((↑pl.length : Int) > (12 : Int)) = true → (true, ()) = (true, ())) ∧ (decide ((↑pl.length : Int) > (12 : Int)) = false → (decide ((↑fl.length : Int) > (12 : Int)) = true → (true, ()) = (true, ())) ∧ (decide ((↑fl.length : Int) > (12 : Int)) = false → (quA b dl fl pl need (IntKind.i64.wrap ((1 : Int) + bitOp BinOp.and IntKind.i64 n (3 : Int)))).triv ((b.length ≤ (100 : Nat) ∧ dl.length ≤ (12 : Nat) ∧ pl.length ≤ (12 : Nat) ∧ fl.length ≤ (12 : Nat)) ∧ (1 : Car iK) ≤ IntKind.i64.wrap ((1 : Int) + bitOp BinOp.and IntKind.i64 n (3 : Int)) ∧ IntKind.i64.wrap ((1 : Int) + bitOp BinOp.and IntKind.i64 n (3 : Int)) ≤ (4 : Car iK))))))))) (by kernel_rfl) ?_
    obtain ⟨a0, a1⟩ := and3 n
    rw [wrap_i64' (show -9223372036854775808 ≤ 1 + bitOp BinOp.and IntKind.i64 n 3 by omega) (by omega)]
    generalize bitOp BinOp.and IntKind.i64 n 3 = u at *
    refine ⟨trivial, fun h => absurd h (by decide), fun _ => ⟨fun _ => rfl, fun h1 => ⟨fun _ => rfl, fun h2 => ⟨fun _ => rfl, fun h3 => ⟨fun _ => rfl, fun h4 => triv_intro ⟨⟨?_, ?_, ?_, ?_⟩, show 1 ≤ 1 + u by omega, show 1 + u ≤ 4 by omega⟩⟩⟩⟩⟩⟩
    · have := of_decide_eq_false h1; omega
    · have := of_decide_eq_false h2; omega
    · have := of_decide_eq_false h3; omega
    · have := of_decide_eq_false h4; omega
  intro (n : Int) ⟨⟨hb1, hd12, hp12, hf12⟩, hn1, hn4⟩
  have hn1 : 1 ≤ n := hn1
  have hn4 : n ≤ 4 := hn4
  refine tr_cutF hsp mixed 1 (fun σ => rdO iK 13 σ) (quB b dl fl pl n need) (fun d => d = dn n) ?_ ?_
  · refine vcx (X := ((0 : Int) ≤ IntKind.u64.wrap (IntKind.i64.wrap (n + (1 : Int))) ∧ True ∧ (quB b dl fl pl n need (numF (IntKind.i64.wrap (IntKind.i64.wrap ((1 : Int) * (2 : Int) ^ min (IntKind.u64.wrap (IntKind.i64.wrap (n + (1 : Int)))).toNat IntKind.i64.bits) - (2 : Int))), ()).fst).triv (numF (IntKind.i64.wrap (IntKind.i64.wrap ((1 : Int) * (2 : Int) ^ min (IntKind.u64.wrap (IntKind.i64.wrap (n + (1 : Int)))).toNat IntKind.i64.bits) - (2 : Int))) = dn n))) (by kernel_rfl) ?_
    have h4 : n = 1 ∨ n = 2 ∨ n = 3 ∨ n = 4 := by omega
    rcases h4 with rfl | rfl | rfl | rfl <;> exact ⟨by decide, trivial, triv_intro (by decide +kernel)⟩
  intro (d : List Int) (hd : d = dn n)
  refine tr_cutF hsp mixed 3 (fun σ => rdS iK 1 σ) (quC b dl fl pl n d) (fun g => 1 ≤ g ∧ g ≤ n ∧ g ≤ 2) ?_ ?_
  · refine vcx (X := ((decide (IntKind.i64.wrap ((1 : Int) + bitOp BinOp.and IntKind.i64 need (1 : Int)) > n) = true → (quC b dl fl pl n d n).triv ((1 : Car iK) ≤ n ∧ n ≤ n ∧ n ≤ (2 : Car iK))) ∧ (decide (IntKind.i64.wrap ((1 : Int) + bitOp BinOp.and IntKind.i64 need (1 : Int)) > n) = false → (quC b dl fl pl n d (IntKind.i64.wrap ((1 : Int) + bitOp BinOp.and IntKind.i64 need (1 : Int)))).triv ((1 : Car iK) ≤ IntKind.i64.wrap ((1 : Int) + bitOp BinOp.and IntKind.i64 need (1 : Int)) ∧ IntKind.i64.wrap ((1 : Int) + bitOp BinOp.and IntKind.i64 need (1 : Int)) ≤ n ∧ IntKind.i64.wrap ((1 : Int) + bitOp BinOp.and IntKind.i64 need (1 : Int)) ≤ (2 : Car iK))))) (by kernel_rfl) ?_
    obtain ⟨c0, c1⟩ := and_mask (x := need) (m := 1) (by decide) (by decide)
    rw [wrap_i64' (show -9223372036854775808 ≤ 1 + bitOp BinOp.and IntKind.i64 need 1 by omega) (by omega)]
    generalize bitOp BinOp.and IntKind.i64 need 1 = v at *
    refine ⟨fun h1 => triv_intro ?_, fun h1 => triv_intro ?_⟩
    · have h1 := of_decide_eq_true h1
      exact ⟨show 1 ≤ n by omega, show n ≤ n by omega, show n ≤ 2 by omega⟩
    · have h1 := of_decide_eq_false h1
      exact ⟨show 1 ≤ 1 + v by omega, show 1 + v ≤ n by omega, show 1 + v ≤ 2 by omega⟩
  intro (need : Int) ⟨he1, hen, he2⟩
  have he1 : 1 ≤ need := he1
  have hen : need ≤ n := hen
  have he2 : need ≤ 2 := he2
  refine tr_cut hsp mixed 3 (quD b dl fl pl n need d (0, 0, [])) True ?_ (fun _ => ?_)
  · refine vcx (X := ((quD b dl fl pl n need d ((0 : Int), (0 : Nat), [])).triv True)) (by kernel_rfl) ?_
    exact triv_intro trivial
  refine tr_whileT (fun σ => [(248, rdI 15 σ)]) (fun σ => (rdS iK 87 σ, rdL 15 σ, rdR dealK 248 σ)) (quD b dl fl pl n need d) (qdJ b need dl) (fun g => dl.length - g.1.toNat)
    (fun σ => (rdS iK 87 σ, rdL 15 σ, rdR dealK 248 σ)) (quD b dl fl pl n need d) (fun g => g.2.2 = dl.map (dlF b need) ∧ g.2.1 = dl.length) (0, 0, []) (c := nthC (codeOf Try.f4) 13) (by kernel_rfl) (by kernel_rfl) (le_of_proj (by kernel_rfl) (by kernel_rfl) ?_) ?_ ?_
  · exact ⟨0, Nat.zero_le _, rfl, rfl, rfl⟩
  · rintro ⟨i, m, ds⟩ hj
    revert i ds
    intro (i : Int) (ds : List Dl) ⟨k, hk, ei, eds, em⟩
    have ei : i = (k : Int) := ei
    have kds : ds = (dl.take k).map (dlF b need) := eds
    have km : m = k := em
    subst ei
    refine tr_cut hsp mixed 2 (quD b dl fl pl n need d ((k : Int), m, ds)) (k < dl.length) ?_ (fun hlt => ?_)
    · refine vcx (X := ((decide ((↑k : Int) < (↑dl.length : Int)) = true → (quD b dl fl pl n need d ((↑k : Int), m, ds)).triv (k < dl.length)) ∧ (decide ((↑k : Int) < (↑dl.length : Int)) = false → (quD b dl fl pl n need d ((↑k : Int), m, ds)).triv (ds = List.map (dlF b need) dl ∧ m = dl.length)))) (by kernel_rfl) ?_
      refine ⟨fun h => triv_intro (by have := dec_lt h; omega), fun h => triv_intro ?_⟩
      have : k = dl.length := by have := dec_ge h; omega
      exact ⟨by rw [kds, this, List.take_length], by rw [km, this]⟩
    refine tr_block (c := nthC (loopOf (nthC (codeOf Try.f4) 13)) 2) (by kernel_rfl) (by kernel_rfl) ?_
    refine tr_cutF hsp mixed 5 (fun σ => (rdS iK 18 σ, rdS iK 19 σ)) (fun y => quE b dl fl pl n need d ((k : Int), m, ds) y.1 y.2) (fun y => y = (whoD (dl.getD k 0), kD need (dl.getD k 0))) ?_ ?_
    · refine vcx (X := (((0 : Int) ≤ (↑k : Int) ∧ (↑k : Int) < (↑dl.length : Int)) ∧ (↑k : Int).toNat < dl.length ∧ ((bitOp BinOp.and IntKind.i64 (dl.getD (↑k : Int).toNat (0 : Int)) (64 : Int) != (0 : Int)) = true → (quE b dl fl pl n need d ((↑k : Int), m, ds) (IntKind.i64.wrap ((1 : Int) + bitOp BinOp.and IntKind.i64 (dl.getD (↑k : Int).toNat (0 : Int)) (7 : Int)), IntKind.i64.wrap (need - (1 : Int))).fst (IntKind.i64.wrap ((1 : Int) + bitOp BinOp.and IntKind.i64 (dl.getD (↑k : Int).toNat (0 : Int)) (7 : Int)), IntKind.i64.wrap (need - (1 : Int))).snd).triv ((IntKind.i64.wrap ((1 : Int) + bitOp BinOp.and IntKind.i64 (dl.getD (↑k : Int).toNat (0 : Int)) (7 : Int)), IntKind.i64.wrap (need - (1 : Int))) = (whoD (dl.getD k (0 : Int)), kD need (dl.getD k (0 : Int))))) ∧ ((bitOp BinOp.and IntKind.i64 (dl.getD (↑k : Int).toNat (0 : Int)) (64 : Int) != (0 : Int)) = false → (quE b dl fl pl n need d ((↑k : Int), m, ds) (IntKind.i64.wrap ((1 : Int) + bitOp BinOp.and IntKind.i64 (dl.getD (↑k : Int).toNat (0 : Int)) (7 : Int)), need).fst (IntKind.i64.wrap ((1 : Int) + bitOp BinOp.and IntKind.i64 (dl.getD (↑k : Int).toNat (0 : Int)) (7 : Int)), need).snd).triv ((IntKind.i64.wrap ((1 : Int) + bitOp BinOp.and IntKind.i64 (dl.getD (↑k : Int).toNat (0 : Int)) (7 : Int)), need) = (whoD (dl.getD k (0 : Int)), kD need (dl.getD k (0 : Int))))))) (by kernel_rfl) ?_
      rw [Int.toNat_natCast]
      refine ⟨⟨by omega, by omega⟩, hlt, fun h => triv_intro ?_, fun h => triv_intro ?_⟩
      · rw [kD, if_pos h]; rfl
      · rw [kD, if_neg (by rw [h]; decide)]; rfl
    rintro ⟨x, kk⟩ hy
    revert x kk
    intro (x : Int) (kk : Int) hy
    refine tr_cutSF hsp mixed 1 (fun σ => [(248, rdI 15 σ)]) (fun σ => (rdS iK 87 σ, rdL 15 σ, rdR dealK 248 σ)) (quD b dl fl pl n need d) (fun g => g.1 = (k : Int) ∧ qdJ b need dl (((k + 1 : Nat) : Int), g.2)) ?_ ?_
    · refine vcx (X := (preMade2 (b, x, kk, ()) ∧ preCommit (mdP b x kk.toNat, ()) ∧ (0 : Nat) + (1 : Nat) ≤ (1 : Nat) ∧ m ≤ m ∧ (m + (1 : Nat)) * (32 : Nat) ≤ (140737488355328 : Nat) ∧ m + (1 : Nat) ≤ (4611686018427387904 : Nat) ∧ (quD b dl fl pl n need d ((↑k : Int), m + (1 : Nat), List.take m ds ++ List.take (1 : Nat) [(x, cmt (mdP b x kk.toNat))])).triv ((↑k : Int) = (↑k : Int) ∧ qdJ b need dl ((↑(k + (1 : Nat)) : Int), m + (1 : Nat), List.take m ds ++ List.take (1 : Nat) [(x, cmt (mdP b x kk.toNat))])))) (by kernel_rfl) ?_
      have hml : m = ds.length := by rw [km, kds, List.length_map, List.length_take]; omega
      have hx : x = whoD (dl.getD k 0) := congrArg Prod.fst hy
      have hkk : kk = kD need (dl.getD k 0) := congrArg Prod.snd hy
      have hk2 : 0 ≤ kk ∧ kk ≤ 2 := by
        rw [hkk, kD]
        split
        · rw [wrap_i64' (by omega) (by omega)]; omega
        · omega
      refine ⟨⟨⟨hb, by show b.length ≤ _; omega⟩, by show 0 ≤ kk; omega, by show kk ≤ 1000; omega⟩, by show (mdP b x kk.toNat).length < _; rw [mdP_len]; omega, by omega, by omega, by omega, by omega, triv_intro ⟨rfl, k + 1, hlt, rfl, ?_, by show m + 1 = k + 1; omega⟩⟩
      show List.take m ds ++ [(x, cmt (mdP b x kk.toNat))] = _
      rw [hml, List.take_length, kds, List.take_succ_eq_append_getElem hlt, List.map_append, hx, hkk, List.getD_eq_getElem?_getD, List.getElem?_eq_getElem hlt]; rfl
    rintro ⟨i, m', ds'⟩ hj
    revert i ds'
    intro (i : Int) (ds' : List Dl) ⟨ei, hj⟩
    have ei : i = (k : Int) := ei
    subst ei
    refine tr_nil ?_
    refine tr_vc hsp mixed _ _ ?_
    refine vcx (X := ((quD b dl fl pl n need d (IntKind.i64.wrap ((↑k : Int) + (1 : Int)), m', ds')).triv (qdJ b need dl (IntKind.i64.wrap ((↑k : Int) + (1 : Int)), m', ds') ∧ dl.length - (IntKind.i64.wrap ((↑k : Int) + (1 : Int))).toNat < dl.length - (↑k : Int).toNat))) (by kernel_rfl) ?_
    rw [wrap_succ (by omega)]
    exact triv_intro ⟨hj, by rw [Int.toNat_natCast, Int.toNat_natCast]; omega⟩
  rintro ⟨i, m, ds⟩ hj
  revert i ds
  intro (i : Int) (ds : List Dl) ⟨eds, em⟩
  have eds : ds = dl.map (dlF b need) := eds
  have em : m = dl.length := em
  refine tr_cut hsp mixed 3 (quF b dl fl pl n need d m ds (0, (0, []), (0, []))) True ?_ (fun _ => ?_)
  · refine vcx (X := ((quF b dl fl pl n need d m ds ((0 : Int), ((0 : Nat), []), (0 : Nat), [])).triv True)) (by kernel_rfl) ?_
    exact triv_intro trivial
  refine tr_whileT (fun σ => [(288, rdI 20 σ), (304, rdI 21 σ)]) (fun σ => (rdS iK 115 σ, (rdL 20 σ, rdR proofK 288 σ), (rdL 21 σ, rdR .bool 304 σ))) (quF b dl fl pl n need d m ds) (qfJ b need pl) (fun g => pl.length - g.1.toNat)
    (fun σ => (rdS iK 115 σ, (rdL 20 σ, rdR proofK 288 σ), (rdL 21 σ, rdR .bool 304 σ))) (quF b dl fl pl n need d m ds) (fun g => g.2.1.2 = pl.map (pfF b need) ∧ g.2.1.1 = pl.length ∧ g.2.2.2 = pl.map gdF ∧ g.2.2.1 = pl.length) (0, (0, []), (0, [])) (c := nthC (codeOf Try.f4) 17) (by kernel_rfl) (by kernel_rfl) (le_of_proj (by kernel_rfl) (by kernel_rfl) ?_) ?_ ?_
  · exact ⟨0, Nat.zero_le _, rfl, rfl, rfl, rfl, rfl⟩
  · rintro ⟨i, ⟨mp, ps⟩, ⟨mg, gs⟩⟩ hj
    revert i ps gs
    intro (i : Int) (ps : List Pf) (gs : List Bool) ⟨k, hk, ei, eps, emp, egs, emg⟩
    have ei : i = (k : Int) := ei
    have kps : ps = (pl.take k).map (pfF b need) := eps
    have kmp : mp = k := emp
    have kgs : gs = (pl.take k).map gdF := egs
    have kmg : mg = k := emg
    subst ei
    refine tr_cut hsp mixed 2 (quF b dl fl pl n need d m ds ((k : Int), (mp, ps), (mg, gs))) (k < pl.length) ?_ (fun hlt => ?_)
    · refine vcx (X := ((decide ((↑k : Int) < (↑pl.length : Int)) = true → (quF b dl fl pl n need d m ds ((↑k : Int), (mp, ps), mg, gs)).triv (k < pl.length)) ∧ (decide ((↑k : Int) < (↑pl.length : Int)) = false → (quF b dl fl pl n need d m ds ((↑k : Int), (mp, ps), mg, gs)).triv (ps = List.map (pfF b need) pl ∧ mp = pl.length ∧ gs = List.map gdF pl ∧ mg = pl.length)))) (by kernel_rfl) ?_
      refine ⟨fun h => triv_intro (by have := dec_lt h; omega), fun h => triv_intro ?_⟩
      have : k = pl.length := by have := dec_ge h; omega
      exact ⟨by rw [kps, this, List.take_length], by rw [kmp, this], by rw [kgs, this, List.take_length], by rw [kmg, this]⟩
    refine tr_block (c := nthC (loopOf (nthC (codeOf Try.f4) 17)) 2) (by kernel_rfl) (by kernel_rfl) ?_
    refine tr_cutF hsp mixed 3 (fun σ => (rdS iK 23 σ, rdS iK 24 σ, rdS iK 25 σ)) (fun y => quG b dl fl pl n need d m ds ((k : Int), (mp, ps), (mg, gs)) y.1 y.2.1 y.2.2) (fun y => y = (pl.getD k 0, whoP (pl.getD k 0), toP (pl.getD k 0))) ?_ ?_
    · refine vcx (X := (((0 : Int) ≤ (↑k : Int) ∧ (↑k : Int) < (↑pl.length : Int)) ∧ (↑k : Int).toNat < pl.length ∧ (0 : Int) ≤ (2 : Int) ∧ (quG b dl fl pl n need d m ds ((↑k : Int), (mp, ps), mg, gs) (pl.getD (↑k : Int).toNat (0 : Int), IntKind.i64.wrap ((1 : Int) + bitOp BinOp.and IntKind.i64 (pl.getD (↑k : Int).toNat (0 : Int)) (3 : Int)), IntKind.i64.wrap ((1 : Int) + bitOp BinOp.and IntKind.i64 ((pl.getD (↑k : Int).toNat (0 : Int)).fdiv ((2 : Int) ^ min (2 : Nat) IntKind.i64.bits)) (3 : Int))).fst (pl.getD (↑k : Int).toNat (0 : Int), IntKind.i64.wrap ((1 : Int) + bitOp BinOp.and IntKind.i64 (pl.getD (↑k : Int).toNat (0 : Int)) (3 : Int)), IntKind.i64.wrap ((1 : Int) + bitOp BinOp.and IntKind.i64 ((pl.getD (↑k : Int).toNat (0 : Int)).fdiv ((2 : Int) ^ min (2 : Nat) IntKind.i64.bits)) (3 : Int))).snd.fst (pl.getD (↑k : Int).toNat (0 : Int), IntKind.i64.wrap ((1 : Int) + bitOp BinOp.and IntKind.i64 (pl.getD (↑k : Int).toNat (0 : Int)) (3 : Int)), IntKind.i64.wrap ((1 : Int) + bitOp BinOp.and IntKind.i64 ((pl.getD (↑k : Int).toNat (0 : Int)).fdiv ((2 : Int) ^ min (2 : Nat) IntKind.i64.bits)) (3 : Int))).snd.snd).triv ((pl.getD (↑k : Int).toNat (0 : Int), IntKind.i64.wrap ((1 : Int) + bitOp BinOp.and IntKind.i64 (pl.getD (↑k : Int).toNat (0 : Int)) (3 : Int)), IntKind.i64.wrap ((1 : Int) + bitOp BinOp.and IntKind.i64 ((pl.getD (↑k : Int).toNat (0 : Int)).fdiv ((2 : Int) ^ min (2 : Nat) IntKind.i64.bits)) (3 : Int))) = (pl.getD k (0 : Int), whoP (pl.getD k (0 : Int)), toP (pl.getD k (0 : Int)))))) (by kernel_rfl) ?_
      rw [Int.toNat_natCast]
      exact ⟨⟨by omega, by omega⟩, hlt, by decide, triv_intro rfl⟩
    rintro ⟨z, x, y⟩ hy
    revert z x y
    intro (z : Int) (x : Int) (y : Int) hy
    refine tr_cutF hsp mixed 3 (fun σ => rdB .fr 392 σ) (fun s => quS b dl fl pl n need d m ds ((k : Int), (mp, ps), (mg, gs)) z x y s) (fun s => s = shP b need z) ?_ ?_
    · refine vcx (X := (preMade2 (b, x, need, ()) ∧ preAt (mdP b x need.toNat, y, ()) ∧ ((bitOp BinOp.and IntKind.i64 z (64 : Int) != (0 : Int)) = true → U64 (1 : Int) ∧ True ∧ (quS b dl fl pl n need d m ds ((↑k : Int), (mp, ps), mg, gs) z x y (pat (mdP b x need.toNat) y + zmr (1 : Int))).triv (pat (mdP b x need.toNat) y + zmr (1 : Int) = shP b need z)) ∧ ((bitOp BinOp.and IntKind.i64 z (64 : Int) != (0 : Int)) = false → (quS b dl fl pl n need d m ds ((↑k : Int), (mp, ps), mg, gs) z x y (pat (mdP b x need.toNat) y)).triv (pat (mdP b x need.toNat) y = shP b need z)))) (by kernel_rfl) ?_
      have hx : x = whoP z := by
        have h1 : z = pl.getD k 0 := congrArg Prod.fst hy
        have h2 : x = whoP (pl.getD k 0) := congrArg (fun q : Int × Int × Int => q.2.1) hy
        rw [h2, h1]
      have hyy : y = toP z := by
        have h1 : z = pl.getD k 0 := congrArg Prod.fst hy
        have h2 : y = toP (pl.getD k 0) := congrArg (fun q : Int × Int × Int => q.2.2) hy
        rw [h2, h1]
      have hy4 := toP_bd z
      rw [← hyy] at hy4
      refine ⟨⟨⟨hb, by show b.length ≤ _; omega⟩, by show 0 ≤ need; omega, by show need ≤ 1000; omega⟩, ⟨by show (mdP b x need.toNat).length < _; rw [mdP_len]; omega, by omega, by omega⟩, fun h => ⟨⟨by decide, by decide⟩, trivial, triv_intro ?_⟩, fun h => triv_intro ?_⟩
      · rw [shP, if_pos h, hx, hyy]
      · rw [shP, if_neg (by rw [h]; decide), hx, hyy]
    intro (s : Fr) (hs : s = shP b need z)
    refine tr_cutSF hsp mixed 2 (fun σ => [(288, rdI 20 σ), (304, rdI 21 σ)]) (fun σ => (rdS iK 115 σ, (rdL 20 σ, rdR proofK 288 σ), (rdL 21 σ, rdR .bool 304 σ))) (quF b dl fl pl n need d m ds) (fun g => g.1 = (k : Int) ∧ qfJ b need pl (((k + 1 : Nat) : Int), g.2)) ?_ ?_
    · refine vcx (X := ((0 : Nat) + (1 : Nat) ≤ (1 : Nat) ∧ mp ≤ mp ∧ (mp + (1 : Nat)) * (48 : Nat) ≤ (140737488355328 : Nat) ∧ mp + (1 : Nat) ≤ (4611686018427387904 : Nat) ∧ (0 : Nat) + (1 : Nat) ≤ (1 : Nat) ∧ mg ≤ mg ∧ (mg + (1 : Nat)) * (1 : Nat) ≤ (140737488355328 : Nat) ∧ mg + (1 : Nat) ≤ (4611686018427387904 : Nat) ∧ (quF b dl fl pl n need d m ds ((↑k : Int), (mp + (1 : Nat), List.take mp ps ++ List.take (1 : Nat) [(x, y, s)]), mg + (1 : Nat), List.take mg gs ++ List.take (1 : Nat) [bitOp BinOp.and IntKind.i64 z (64 : Int) == (0 : Int)])).triv ((↑k : Int) = (↑k : Int) ∧ qfJ b need pl ((↑(k + (1 : Nat)) : Int), (mp + (1 : Nat), List.take mp ps ++ List.take (1 : Nat) [(x, y, s)]), mg + (1 : Nat), List.take mg gs ++ List.take (1 : Nat) [bitOp BinOp.and IntKind.i64 z (64 : Int) == (0 : Int)])))) (by kernel_rfl) ?_
      have h1 : ps.length = mp := by rw [kps, List.length_map, List.length_take]; omega
      have h2 : gs.length = mg := by rw [kgs, List.length_map, List.length_take]; omega
      have hz : z = pl[k] := by
        have h1 : z = pl.getD k 0 := congrArg Prod.fst hy
        rw [h1, List.getD_eq_getElem?_getD, List.getElem?_eq_getElem hlt]; rfl
      have hx : x = whoP z := by
        have h1 : z = pl.getD k 0 := congrArg Prod.fst hy
        have h2 : x = whoP (pl.getD k 0) := congrArg (fun q : Int × Int × Int => q.2.1) hy
        rw [h2, h1]
      have hyy : y = toP z := by
        have h1 : z = pl.getD k 0 := congrArg Prod.fst hy
        have h2 : y = toP (pl.getD k 0) := congrArg (fun q : Int × Int × Int => q.2.2) hy
        rw [h2, h1]
      refine ⟨by omega, by omega, by omega, by omega, by omega, by omega, by omega, by omega, triv_intro ⟨rfl, k + 1, hlt, rfl, ?_, by show mp + 1 = k + 1; omega, ?_, by show mg + 1 = k + 1; omega⟩⟩
      · show List.take mp ps ++ [(x, y, s)] = _
        rw [← h1, List.take_length, kps, List.take_succ_eq_append_getElem hlt, List.map_append, hs, hx, hyy, hz]; rfl
      · show List.take mg gs ++ [_] = _
        rw [← h2, List.take_length, kgs, List.take_succ_eq_append_getElem hlt, List.map_append, hz]; rfl
    rintro ⟨i, ⟨mp', ps'⟩, ⟨mg', gs'⟩⟩ hj
    revert i ps' gs'
    intro (i : Int) (ps' : List Pf) (gs' : List Bool) ⟨ei, hj⟩
    have ei : i = (k : Int) := ei
    subst ei
    refine tr_nil ?_
    refine tr_vc hsp mixed _ _ ?_
    refine vcx (X := ((quF b dl fl pl n need d m ds (IntKind.i64.wrap ((↑k : Int) + (1 : Int)), (mp', ps'), mg', gs')).triv (qfJ b need pl (IntKind.i64.wrap ((↑k : Int) + (1 : Int)), (mp', ps'), mg', gs') ∧ pl.length - (IntKind.i64.wrap ((↑k : Int) + (1 : Int))).toNat < pl.length - (↑k : Int).toNat))) (by kernel_rfl) ?_
    rw [wrap_succ (by omega)]
    exact triv_intro ⟨hj, by rw [Int.toNat_natCast, Int.toNat_natCast]; omega⟩
  rintro ⟨i, ⟨mp, ps⟩, ⟨mg, gs⟩⟩ hj
  revert i ps gs
  intro (i : Int) (ps : List Pf) (gs : List Bool) ⟨eps, emp, egs, emg⟩
  have eps : ps = pl.map (pfF b need) := eps
  have emp : mp = pl.length := emp
  have egs : gs = pl.map gdF := egs
  have emg : mg = pl.length := emg
  refine tr_cut hsp mixed 2 (quH b dl fl pl n need d m ds mp ps mg gs (0, 0, [])) True ?_ (fun _ => ?_)
  · refine vcx (X := ((quH b dl fl pl n need d m ds mp ps mg gs ((0 : Int), (0 : Nat), [])).triv True)) (by kernel_rfl) ?_
    exact triv_intro trivial
  refine tr_while hsp mixed (fun σ => [(344, rdI 27 σ)]) (fun σ => (rdS iK 155 σ, rdL 27 σ, rdR faultK 344 σ)) (quH b dl fl pl n need d m ds mp ps mg gs) (fun g => ∃ k : Nat, k ≤ fl.length ∧ g.1 = (k : Int) ∧ g.2.2 = fl.take k ∧ g.2.1 = k) (fun g => fl.length - g.1.toNat)
    (fun σ => (rdS iK 155 σ, rdL 27 σ, rdR faultK 344 σ)) (quH b dl fl pl n need d m ds mp ps mg gs) (fun g => g.2.2 = fl ∧ g.2.1 = fl.length) (0, 0, []) (c := nthC (codeOf Try.f4) 20) (by kernel_rfl) (by kernel_rfl) (le_of_proj (by kernel_rfl) (by kernel_rfl) ?_) ?_ ?_
  · exact ⟨0, Nat.zero_le _, rfl, rfl, rfl⟩
  · rintro ⟨i, mf, fs⟩ hj
    revert i fs
    intro (i : Int) (fs : List Flt) ⟨k, hk, ei, efs, emf⟩
    have ei : i = (k : Int) := ei
    have kfs : fs = fl.take k := efs
    have kmf : mf = k := emf
    subst ei
    refine vcx (X := ((decide ((↑k : Int) < (↑fl.length : Int)) = true → ((0 : Int) ≤ (↑k : Int) ∧ (↑k : Int) < (↑fl.length : Int)) ∧ (↑k : Int).toNat < fl.length ∧ (List.take (0 : Nat) [] ++ (fl.getD (↑k : Int).toNat ((0 : Int), [])).snd).length = (0 : Nat) + (fl.getD (↑k : Int).toNat ((0 : Int), [])).snd.length ∧ (0 : Nat) ≤ (0 : Nat) ∧ ((0 : Nat) + (fl.getD (↑k : Int).toNat ((0 : Int), [])).snd.length) * (8 : Nat) ≤ (140737488355328 : Nat) ∧ (0 : Nat) + (fl.getD (↑k : Int).toNat ((0 : Int), [])).snd.length ≤ (4611686018427387904 : Nat) ∧ (0 : Nat) + (1 : Nat) ≤ (1 : Nat) ∧ mf ≤ mf ∧ (mf + (1 : Nat)) * (32 : Nat) ≤ (140737488355328 : Nat) ∧ mf + (1 : Nat) ≤ (4611686018427387904 : Nat) ∧ (quH b dl fl pl n need d m ds mp ps mg gs (IntKind.i64.wrap ((↑k : Int) + (1 : Int)), mf + (1 : Nat), List.take mf fs ++ List.take (1 : Nat) [((fl.getD (↑k : Int).toNat ((0 : Int), [])).fst, List.take (0 : Nat) [] ++ (fl.getD (↑k : Int).toNat ((0 : Int), [])).snd)])).triv ((∃ k_1, k_1 ≤ fl.length ∧ IntKind.i64.wrap ((↑k : Int) + (1 : Int)) = (↑k_1 : Int) ∧ List.take mf fs ++ List.take (1 : Nat) [((fl.getD (↑k : Int).toNat ((0 : Int), [])).fst, List.take (0 : Nat) [] ++ (fl.getD (↑k : Int).toNat ((0 : Int), [])).snd)] = List.take k_1 fl ∧ mf + (1 : Nat) = k_1) ∧ fl.length - (IntKind.i64.wrap ((↑k : Int) + (1 : Int))).toNat < fl.length - (↑k : Int).toNat)) ∧ (decide ((↑k : Int) < (↑fl.length : Int)) = false → (quH b dl fl pl n need d m ds mp ps mg gs ((↑k : Int), mf, fs)).triv (fs = fl ∧ mf = fl.length)))) (by kernel_rfl) ?_
    rw [Int.toNat_natCast, List.take_zero]
    simp only [List.nil_append]
    refine ⟨fun h => ?_, fun h => triv_intro ?_⟩
    · have hlt : k < fl.length := by have := dec_lt h; omega
      have hg : fl.getD k ((0 : Int), []) = fl[k] := by rw [List.getD_eq_getElem?_getD, List.getElem?_eq_getElem hlt, Option.getD_some]
      have hm := hfl _ (List.getElem_mem hlt)
      have hwl : fl[k].2.length ≤ 17592186044416 := hm.2.2
      have hul : fs.length = mf := by rw [kfs, List.length_take]; omega
      rw [hg, wrap_succ (by omega)]
      refine ⟨⟨by omega, by omega⟩, hlt, by omega, by omega, by omega, by omega, by omega, by omega, by omega, by omega, triv_intro ⟨⟨k + 1, hlt, rfl, ?_, by omega⟩, by rw [Int.toNat_natCast]; omega⟩⟩
      show List.take mf fs ++ [(fl[k].1, fl[k].2)] = _
      rw [← hul, List.take_length, kfs, List.take_succ_eq_append_getElem hlt]
    · have : k = fl.length := by have := dec_ge h; omega
      exact ⟨by rw [kfs, this, List.take_length], by rw [kmf, this]⟩
  rintro ⟨i, mf, fs⟩ hj
  revert i fs
  intro (i : Int) (fs : List Flt) ⟨efs, emf⟩
  have efs : fs = fl := efs
  have emf : mf = fl.length := emf
  have hml : m = ds.length := by rw [em, eds, List.length_map]
  have hm12 : m ≤ 12 := by omega
  have h4 : n = 1 ∨ n = 2 ∨ n = 3 ∨ n = 4 := by omega
  have hd4 : d.length ≤ 4 := by rw [hd]; rcases h4 with rfl | rfl | rfl | rfl <;> decide +kernel
  have hdn : d.Nodup := by rw [hd]; rcases h4 with rfl | rfl | rfl | rfl <;> decide +kernel
  have hdi : ∀ y ∈ d, preI y := by rw [hd]; rcases h4 with rfl | rfl | rfl | rfl <;> decide +kernel
  refine tr_cutF hsp mixed 3 (fun σ => (rdL 30 σ, rdR iK 416 σ)) (fun y => quM fl need d m ds mp ps mg gs y.1 y.2 (0, 0)) (fun y => y.2 = qualF d d need ds fl ps ∧ y.1 = y.2.length) ?_ ?_
  · refine vcx (X := ((0 : Nat) + m ≤ m ∧ (0 : Nat) + mf ≤ mf ∧ (0 : Nat) + mp ≤ mp ∧ preQual ((d, d, need, []), List.take m ds, List.take mf fs, List.take mp ps, ()) ∧ (quM fl need d m ds mp ps mg gs ((qualF d d need (List.take m ds) (List.take mf fs) (List.take mp ps)).length, qualF d d need (List.take m ds) (List.take mf fs) (List.take mp ps)).fst ((qualF d d need (List.take m ds) (List.take mf fs) (List.take mp ps)).length, qualF d d need (List.take m ds) (List.take mf fs) (List.take mp ps)).snd ((0 : Int), (0 : Int))).triv (qualF d d need (List.take m ds) (List.take mf fs) (List.take mp ps) = qualF d d need ds fl ps ∧ (qualF d d need (List.take m ds) (List.take mf fs) (List.take mp ps)).length = (qualF d d need (List.take m ds) (List.take mf fs) (List.take mp ps)).length))) (by kernel_rfl) ?_
    have hmp : mp = ps.length := by rw [emp, eps, List.length_map]
    have hmf : mf = fs.length := by rw [emf, efs]
    have e1 : ds.take m = ds := by rw [hml, List.take_length]
    have e2 : fs.take mf = fl := by rw [hmf, List.take_length, efs]
    have e3 : ps.take mp = ps := by rw [hmp, List.take_length]
    rw [e1, e2, e3]
    refine ⟨by omega, by omega, by omega, ⟨by show d.length < _; omega, ⟨by show d.length < _; omega, by show fl.length < _; omega, fun f hf => Nat.lt_of_le_of_lt (hfl f hf).2.2 (by decide)⟩, by show ds.length < _; omega, by show ps.length < _; omega, hdi, by show need < _; omega⟩, triv_intro ⟨rfl, rfl⟩⟩
  rintro ⟨gl, got⟩ hgot
  revert got
  intro (got : List Int) ⟨hgot, hgl⟩
  have hgot : got = qualF d d need ds fl ps := hgot
  refine tr_whileT noSw (fun σ => (rdS iK 177 σ, rdS iK 31 σ)) (quM fl need d m ds mp ps mg gs gl got) (fun g => ∃ k : Nat, k ≤ d.length ∧ g.1 = (k : Int) ∧ g.2 = ((qualF (d.take k) d need ds fl ps).length : Int)) (fun g => d.length - g.1.toNat)
    (fun σ => (rdS iK 177 σ, rdS iK 31 σ)) (quM fl need d m ds mp ps mg gs gl got) (fun g => g.2 = (got.length : Int)) (0, 0) (c := nthC (codeOf Try.f4) 24) (by kernel_rfl) (by kernel_rfl) (le_of_proj (by kernel_rfl) (by kernel_rfl) ?_) ?_ ?_
  · exact ⟨0, Nat.zero_le _, rfl, rfl⟩
  · rintro ⟨i, aa⟩ hj
    revert i aa
    intro (i : Int) (aa : Int) ⟨k, hk, ei, eaa⟩
    have ei : i = (k : Int) := ei
    have kaa : aa = ((qualF (d.take k) d need ds fl ps).length : Int) := eaa
    subst ei
    refine tr_cut hsp mixed 2 (quM fl need d m ds mp ps mg gs gl got ((k : Int), aa)) (k < d.length) ?_ (fun hlt => ?_)
    · refine vcx (X := ((decide ((↑k : Int) < (↑d.length : Int)) = true → (quM fl need d m ds mp ps mg gs gl got ((↑k : Int), aa)).triv (k < d.length)) ∧ (decide ((↑k : Int) < (↑d.length : Int)) = false → (quM fl need d m ds mp ps mg gs gl got ((↑k : Int), aa)).triv (aa = (↑got.length : Int))))) (by kernel_rfl) ?_
      refine ⟨fun h => triv_intro (by have := dec_lt h; omega), fun h => triv_intro ?_⟩
      have : k = d.length := by have := dec_ge h; omega
      rw [this, List.take_length, ← hgot] at kaa
      exact kaa
    refine tr_block (c := nthC (loopOf (nthC (codeOf Try.f4) 24)) 2) (by kernel_rfl) (by kernel_rfl) ?_
    refine tr_cutF hsp mixed 3 (fun σ => rdS iK 33 σ) (fun x => qu8F fl need d m ds mp ps mg gs gl got k aa x (IntKind.i64.wrap ((m : Int) - 1))) (fun x => x = d.getD k 0) ?_ ?_
    · refine vcx (X := (((0 : Int) ≤ (↑k : Int) ∧ (↑k : Int) < (↑d.length : Int)) ∧ (↑k : Int).toNat < d.length ∧ (qu8F fl need d m ds mp ps mg gs gl got (↑k : Int) aa (d.getD (↑k : Int).toNat (0 : Int)) (IntKind.i64.wrap ((↑m : Int) - (1 : Int)))).triv (d.getD (↑k : Int).toNat (0 : Int) = d.getD k (0 : Int)))) (by kernel_rfl) ?_
      rw [Int.toNat_natCast]
      exact ⟨⟨by omega, by omega⟩, hlt, triv_intro rfl⟩
    intro (x : Int) (hx : x = d.getD k 0)
    refine tr_ref 34 (.is (.one (.v (.bool false)))) ref_F ?_
    refine tr_while hsp mixed noSw (fun σ => (rdS .bool 34 σ, rdS iK 35 σ)) (qu8 fl need d m ds mp ps mg gs gl got k aa x) (fun g => ∃ j : Nat, j ≤ ds.length ∧ g.2 = (j : Int) - 1 ∧ g.1 = okR need x (ds.drop j)) (fun g => (g.2 + 1).toNat)
      (fun σ => (rdS .bool 34 σ, rdS iK 35 σ)) (qu8 fl need d m ds mp ps mg gs gl got k aa x) (fun g => g.1 = okR need x ds) (false, IntKind.i64.wrap ((m : Int) - 1)) (c := nthC (bodyOf (nthC (loopOf (nthC (codeOf Try.f4) 24)) 2)) 3) (by kernel_rfl) (by kernel_rfl) (le_of_proj (by kernel_rfl) (by kernel_rfl) ?_) ?_ ?_
    · exact ⟨ds.length, Nat.le_refl _, by rw [wrap_i64' (by omega) (by omega), hml], by rw [List.drop_length]; rfl⟩
    · rintro ⟨o, i8⟩ hj
      revert o i8
      intro (o : Bool) (i8 : Int) ⟨j, hj, ei8, eo⟩
      have ei8 : i8 = (j : Int) - 1 := ei8
      have ko : o = okR need x (ds.drop j) := eo
      refine vcx (X := ((decide (i8 ≥ (0 : Int)) = true → ((0 : Int) ≤ i8 ∧ i8 < (↑m : Int)) ∧ i8.toNat < m ∧ (((ds.getD i8.toNat ((0 : Int), [])).fst == x) = true → ((0 : Int) ≤ i8 ∧ i8 < (↑m : Int)) ∧ i8.toNat < m ∧ (qu8 fl need d m ds mp ps mg gs gl got (↑k : Int) aa x ((↑(ds.getD i8.toNat ((0 : Int), [])).snd.length : Int) == need, IntKind.i64.wrap (i8 - (1 : Int)))).triv ((∃ j, j ≤ ds.length ∧ IntKind.i64.wrap (i8 - (1 : Int)) = (↑j : Int) - (1 : Car iK) ∧ ((↑(ds.getD i8.toNat ((0 : Int), [])).snd.length : Int) == need) = okR need x (List.drop j ds)) ∧ Int.toNat (IntKind.i64.wrap (i8 - (1 : Int)) + (1 : Car iK)) < Int.toNat (i8 + (1 : Car iK)))) ∧ (((ds.getD i8.toNat ((0 : Int), [])).fst == x) = false → (qu8 fl need d m ds mp ps mg gs gl got (↑k : Int) aa x (o, IntKind.i64.wrap (i8 - (1 : Int)))).triv ((∃ j, j ≤ ds.length ∧ IntKind.i64.wrap (i8 - (1 : Int)) = (↑j : Int) - (1 : Car iK) ∧ o = okR need x (List.drop j ds)) ∧ Int.toNat (IntKind.i64.wrap (i8 - (1 : Int)) + (1 : Car iK)) < Int.toNat (i8 + (1 : Car iK))))) ∧ (decide (i8 ≥ (0 : Int)) = false → (qu8 fl need d m ds mp ps mg gs gl got (↑k : Int) aa x (o, i8)).triv (o = okR need x ds)))) (by kernel_rfl) ?_
      refine ⟨fun h => ?_, fun h => triv_intro ?_⟩
      · have h0 := of_decide_eq_true h
        obtain ⟨q, rfl⟩ : ∃ q, j = q + 1 := ⟨j - 1, by omega⟩
        have e8 : i8 = (q : Int) := by omega
        subst e8
        have hq : q < ds.length := by omega
        have hg : ds.getD q ((0 : Int), []) = ds[q] := by rw [List.getD_eq_getElem?_getD, List.getElem?_eq_getElem hq, Option.getD_some]
        have hst : okR need x (ds.drop q) = if ds[q].1 = x then decide ((ds[q].2.length : Int) = need) else okR need x (ds.drop (q + 1)) := by rw [List.drop_eq_getElem_cons hq]; rfl
        have hmu : Int.toNat ((q : Int) - 1 + (1 : Int)) < Int.toNat ((q : Int) + (1 : Int)) := by omega
        rw [Int.toNat_natCast, hg, wrap_i64' (show -9223372036854775808 ≤ (q : Int) - 1 by omega) (by omega)]
        refine ⟨⟨by omega, by omega⟩, by omega, fun h2 => ⟨⟨by omega, by omega⟩, by omega, triv_intro ⟨⟨q, by omega, rfl, ?_⟩, hmu⟩⟩, fun h2 => triv_intro ⟨⟨q, by omega, rfl, ?_⟩, hmu⟩⟩
        · rw [hst, if_pos (eq_of_beq h2)]; rfl
        · rw [hst, if_neg (fun e => by rw [e] at h2; simp at h2), ← ko]
      · have : j = 0 := by have := of_decide_eq_false h; omega
        rw [this, List.drop_zero] at ko
        exact ko
    rintro ⟨o, i8⟩ ho
    revert o i8
    intro (o : Bool) (i8 : Int) ho
    have ho : o = okR need x ds := ho
    refine tr_cut hsp mixed 2 (qu10 fl need d m ds mp ps mg gs gl got k aa x (o, 0, 0)) True ?_ (fun _ => ?_)
    · refine vcx (X := ((qu10 fl need d m ds mp ps mg gs gl got (↑k : Int) aa x (o, (0 : Int), (0 : Int))).triv True)) (by kernel_rfl) ?_
      exact triv_intro trivial
    refine tr_whileT noSw (fun σ => (rdS .bool 34 σ, rdS iK 36 σ, rdS iK 205 σ)) (qu10 fl need d m ds mp ps mg gs gl got k aa x) (fun g => ∃ j : Nat, j ≤ d.length ∧ g.2.2 = (j : Int) ∧ g.2.1 = (((d.take j).filter (acB fl x)).length : Int) ∧ g.1 = (o && ((d.take j).filter (acB fl x)).all (shB pl x))) (fun g => d.length - g.2.2.toNat)
      (fun σ => (rdS .bool 34 σ, rdS iK 36 σ, rdS iK 205 σ)) (qu10 fl need d m ds mp ps mg gs gl got k aa x) (fun g => g.2.1 = ((d.filter (acB fl x)).length : Int) ∧ g.1 = (o && (d.filter (acB fl x)).all (shB pl x))) (o, 0, 0) (c := nthC (bodyOf (nthC (loopOf (nthC (codeOf Try.f4) 24)) 2)) 6) (by kernel_rfl) (by kernel_rfl) (le_of_proj (by kernel_rfl) (by kernel_rfl) ?_) ?_ ?_
    · exact ⟨0, Nat.zero_le _, rfl, rfl, (Bool.and_true o).symm⟩
    · rintro ⟨oo, cn, jj⟩ hj
      revert oo cn jj
      intro (oo : Bool) (cn : Int) (jj : Int) ⟨j, hj, ej, ecn, eoo⟩
      have ej : jj = (j : Int) := ej
      have kcn : cn = (((d.take j).filter (acB fl x)).length : Int) := ecn
      have koo : oo = (o && ((d.take j).filter (acB fl x)).all (shB pl x)) := eoo
      subst ej
      refine tr_cut hsp mixed 2 (qu10 fl need d m ds mp ps mg gs gl got k aa x (oo, cn, (j : Int))) (j < d.length) ?_ (fun hjl => ?_)
      · refine vcx (X := ((decide ((↑j : Int) < (↑d.length : Int)) = true → (qu10 fl need d m ds mp ps mg gs gl got (↑k : Int) aa x (oo, cn, (↑j : Int))).triv (j < d.length)) ∧ (decide ((↑j : Int) < (↑d.length : Int)) = false → (qu10 fl need d m ds mp ps mg gs gl got (↑k : Int) aa x (oo, cn, (↑j : Int))).triv (cn = (↑(List.filter (acB fl x) d).length : Int) ∧ oo = (o && (List.filter (acB fl x) d).all (shB pl x)))))) (by kernel_rfl) ?_
        refine ⟨fun h => triv_intro (by have := dec_lt h; omega), fun h => triv_intro ?_⟩
        have : j = d.length := by have := dec_ge h; omega
        rw [this, List.take_length] at kcn koo
        exact ⟨kcn, koo⟩
      refine tr_block (c := nthC (loopOf (nthC (bodyOf (nthC (loopOf (nthC (codeOf Try.f4) 24)) 2)) 6)) 2) (by kernel_rfl) (by kernel_rfl) ?_
      refine tr_cutF hsp mixed 3 (fun σ => rdS iK 38 σ) (fun y => qu12F fl need d m ds mp ps mg gs gl got k aa x oo cn j y 0) (fun y => y = d.getD j 0) ?_ ?_
      · refine vcx (X := (((0 : Int) ≤ (↑j : Int) ∧ (↑j : Int) < (↑d.length : Int)) ∧ (↑j : Int).toNat < d.length ∧ (qu12F fl need d m ds mp ps mg gs gl got (↑k : Int) aa x oo cn (↑j : Int) (d.getD (↑j : Int).toNat (0 : Int)) (0 : Int)).triv (d.getD (↑j : Int).toNat (0 : Int) = d.getD j (0 : Int)))) (by kernel_rfl) ?_
        rw [Int.toNat_natCast]
        exact ⟨⟨by omega, by omega⟩, hjl, triv_intro rfl⟩
      intro (y : Int) (hy : y = d.getD j 0)
      refine tr_ref 39 (.is (.one (.v (.bool false)))) ref_F ?_
      refine tr_whileT noSw (fun σ => (rdS .bool 39 σ, rdS iK 211 σ)) (qu12 fl need d m ds mp ps mg gs gl got k aa x oo cn j y) (fun g => ∃ t : Nat, t ≤ fl.length ∧ g.2 = (t : Int) ∧ g.1 = (fl.take t).any (accB x y)) (fun g => fl.length - g.2.toNat)
        (fun σ => (rdS .bool 39 σ, rdS iK 211 σ)) (qu12 fl need d m ds mp ps mg gs gl got k aa x oo cn j y) (fun g => g.1 = acB fl x y) (false, 0) (c := nthC (bodyOf (nthC (loopOf (nthC (bodyOf (nthC (loopOf (nthC (codeOf Try.f4) 24)) 2)) 6)) 2)) 3) (by kernel_rfl) (by kernel_rfl) (le_of_proj (by kernel_rfl) (by kernel_rfl) ?_) ?_ ?_
      · exact ⟨0, Nat.zero_le _, rfl, rfl⟩
      · rintro ⟨av, i2⟩ h12
        revert av i2
        intro (av : Bool) (i2 : Int) ⟨t, ht, ei2, eav⟩
        have ei2 : i2 = (t : Int) := ei2
        have kav : av = (fl.take t).any (accB x y) := eav
        subst ei2
        refine tr_cut hsp mixed 2 (qu12 fl need d m ds mp ps mg gs gl got k aa x oo cn j y (av, (t : Int))) (t < fl.length) ?_ (fun hlt => ?_)
        · refine vcx (X := ((decide ((↑t : Int) < (↑fl.length : Int)) = true → (qu12 fl need d m ds mp ps mg gs gl got (↑k : Int) aa x oo cn (↑j : Int) y (av, (↑t : Int))).triv (t < fl.length)) ∧ (decide ((↑t : Int) < (↑fl.length : Int)) = false → (qu12 fl need d m ds mp ps mg gs gl got (↑k : Int) aa x oo cn (↑j : Int) y (av, (↑t : Int))).triv (av = acB fl x y)))) (by kernel_rfl) ?_
          refine ⟨fun h => triv_intro (by have := dec_lt h; omega), fun h => triv_intro ?_⟩
          have : t = fl.length := by have := dec_ge h; omega
          rw [this, List.take_length] at kav
          exact kav
        refine tr_block (c := nthC (loopOf (nthC (bodyOf (nthC (loopOf (nthC (bodyOf (nthC (loopOf (nthC (codeOf Try.f4) 24)) 2)) 6)) 2)) 3)) 2) (by kernel_rfl) (by kernel_rfl) ?_
        refine tr_cutB hsp mixed 2 39 (fun σ => rdS .bool 39 σ) (fun bv => qu12 fl need d m ds mp ps mg gs gl got k aa x oo cn j y (bv, (t : Int))) (fun bv => bv = (av || accB x y (fl.getD t ((0 : Int), [])))) ?_ ?_
        · refine vcx (X := (((0 : Int) ≤ (↑t : Int) ∧ (↑t : Int) < (↑fl.length : Int)) ∧ (↑t : Int).toNat < fl.length ∧ (av = true → (qu12 fl need d m ds mp ps mg gs gl got (↑k : Int) aa x oo cn (↑j : Int) y (true, (↑t : Int))).triv (true = (av || accB x y (fl.getD t ((0 : Int), []))))) ∧ (av = false → (((fl.getD (↑t : Int).toNat ((0 : Int), [])).fst == y) = true → preIn ((fl.getD (↑t : Int).toNat ((0 : Int), [])).snd, x, ()) ∧ (qu12 fl need d m ds mp ps mg gs gl got (↑k : Int) aa x oo cn (↑j : Int) y (decide (x ∈ (fl.getD (↑t : Int).toNat ((0 : Int), [])).snd), (↑t : Int))).triv (decide (x ∈ (fl.getD (↑t : Int).toNat ((0 : Int), [])).snd) = (av || accB x y (fl.getD t ((0 : Int), []))))) ∧ (((fl.getD (↑t : Int).toNat ((0 : Int), [])).fst == y) = false → (qu12 fl need d m ds mp ps mg gs gl got (↑k : Int) aa x oo cn (↑j : Int) y (false, (↑t : Int))).triv (false = (av || accB x y (fl.getD t ((0 : Int), [])))))))) (by kernel_rfl) ?_
          rw [Int.toNat_natCast]
          have hwl := (hfl _ (deal.getD_mem hlt)).2.2
          refine ⟨⟨by omega, by omega⟩, hlt, fun h1 => triv_intro ?_, fun h1 => ⟨fun h2 => ⟨?_, triv_intro ?_⟩, fun h2 => triv_intro ?_⟩⟩
          · rw [h1]; rfl
          · show List.length _ < _; exact Nat.lt_of_le_of_lt hwl (by decide)
          · rw [h1, accB, h2]; rfl
          · rw [h1, accB, h2]; rfl
        intro (bv : Bool) (hbv : bv = (av || accB x y (fl.getD t ((0 : Int), []))))
        refine tr_nil ?_
        refine tr_vc hsp mixed _ _ ?_
        refine vcx (X := ((qu12 fl need d m ds mp ps mg gs gl got (↑k : Int) aa x oo cn (↑j : Int) y (bv, IntKind.i64.wrap ((↑t : Int) + (1 : Int)))).triv ((∃ t_1, t_1 ≤ fl.length ∧ IntKind.i64.wrap ((↑t : Int) + (1 : Int)) = (↑t_1 : Int) ∧ bv = (List.take t_1 fl).any (accB x y)) ∧ fl.length - (IntKind.i64.wrap ((↑t : Int) + (1 : Int))).toNat < fl.length - (↑t : Int).toNat))) (by kernel_rfl) ?_
        have hg : fl.getD t ((0 : Int), []) = fl[t] := by rw [List.getD_eq_getElem?_getD, List.getElem?_eq_getElem hlt, Option.getD_some]
        rw [wrap_succ (by omega)]
        refine triv_intro ⟨⟨t + 1, hlt, rfl, ?_⟩, by rw [Int.toNat_natCast, Int.toNat_natCast]; omega⟩
        show bv = _
        rw [List.take_succ_eq_append_getElem hlt, List.any_append, ← kav, List.any_cons, List.any_nil, Bool.or_false, hbv, hg]
      rintro ⟨av, i2⟩ h12
      revert av i2
      intro (av : Bool) (i2 : Int) (hav : av = acB fl x y)
      refine tr_cut hsp mixed 1 (qu12C fl need d m ds mp ps mg gs gl got k aa x oo cn j y (av, i2) (!av)) True ?_ (fun _ => ?_)
      · refine vcx (X := ((qu12C fl need d m ds mp ps mg gs gl got (↑k : Int) aa x oo cn (↑j : Int) y (av, i2) !av).triv True)) (by kernel_rfl) ?_
        exact triv_intro trivial
      refine tr_cond (!av) (c := nthC (bodyOf (nthC (loopOf (nthC (bodyOf (nthC (loopOf (nthC (codeOf Try.f4) 24)) 2)) 6)) 2)) 5) (by kernel_rfl) (by kernel_rfl) (by kernel_rfl) (fun hc => ?_) (fun hc => ?_)
      · refine tr_exit 11 (by kernel_rfl) ?_
        show Tr _ _ _ _ _ _ _
        refine tr_vc hsp mixed _ _ ?_
        refine vcx (X := ((qu10 fl need d m ds mp ps mg gs gl got (↑k : Int) aa x (oo, cn, IntKind.i64.wrap ((↑j : Int) + (1 : Int)))).triv ((∃ j_1, j_1 ≤ d.length ∧ IntKind.i64.wrap ((↑j : Int) + (1 : Int)) = (↑j_1 : Int) ∧ cn = (↑(List.filter (acB fl x) (List.take j_1 d)).length : Int) ∧ oo = (o && (List.filter (acB fl x) (List.take j_1 d)).all (shB pl x))) ∧ d.length - (IntKind.i64.wrap ((↑j : Int) + (1 : Int))).toNat < d.length - (↑j : Int).toNat))) (by kernel_rfl) ?_
        have hat : ¬ acB fl x y = true := by rw [← hav]; simpa using hc
        have hgd : d.getD j 0 = d[j] := by rw [List.getD_eq_getElem?_getD, List.getElem?_eq_getElem hjl, Option.getD_some]
        have hyd : y = d[j] := hy.trans hgd
        rw [wrap_succ (by omega)]
        refine triv_intro ⟨⟨j + 1, hjl, rfl, ?_, ?_⟩, by rw [Int.toNat_natCast, Int.toNat_natCast]; omega⟩
        · show cn = _
          rw [List.take_succ_eq_append_getElem hjl, List.filter_append, ← hyd, List.filter_cons_of_neg hat, List.filter_nil, List.append_nil, kcn]
        · show oo = _
          rw [List.take_succ_eq_append_getElem hjl, List.filter_append, ← hyd, List.filter_cons_of_neg hat, List.filter_nil, List.append_nil, ← koo]
      refine tr_cut hsp mixed 3 (qu14F fl need d m ds mp ps mg gs gl got k aa x oo (IntKind.i64.wrap (cn + 1)) j y 0) True ?_ (fun _ => ?_)
      · refine vcx (X := ((qu14F fl need d m ds mp ps mg gs gl got (↑k : Int) aa x oo (IntKind.i64.wrap (cn + (1 : Int))) (↑j : Int) y (0 : Int)).triv True)) (by kernel_rfl) ?_
        exact triv_intro trivial
      refine tr_ref 42 (.is (.one (.v (.bool false)))) ref_F ?_
      refine tr_whileT noSw (fun σ => (rdS .bool 42 σ, rdS iK 235 σ)) (qu14 fl need d m ds mp ps mg gs gl got k aa x oo (IntKind.i64.wrap (cn + 1)) j y) (fun g => ∃ t : Nat, t ≤ pl.length ∧ g.2 = (t : Int) ∧ g.1 = (pl.take t).any (shwB x y)) (fun g => pl.length - g.2.toNat)
        (fun σ => (rdS .bool 42 σ, rdS iK 235 σ)) (qu14 fl need d m ds mp ps mg gs gl got k aa x oo (IntKind.i64.wrap (cn + 1)) j y) (fun g => g.1 = shB pl x y) (false, 0) (c := nthC (bodyOf (nthC (loopOf (nthC (bodyOf (nthC (loopOf (nthC (codeOf Try.f4) 24)) 2)) 6)) 2)) 9) (by kernel_rfl) (by kernel_rfl) (le_of_proj (by kernel_rfl) (by kernel_rfl) ?_) ?_ ?_
      · exact ⟨0, Nat.zero_le _, rfl, rfl⟩
      · rintro ⟨sv, i4⟩ h14
        revert sv i4
        intro (sv : Bool) (i4 : Int) ⟨t, ht, ei4, esv⟩
        have ei4 : i4 = (t : Int) := ei4
        have ksv : sv = (pl.take t).any (shwB x y) := esv
        subst ei4
        refine tr_cut hsp mixed 2 (qu14 fl need d m ds mp ps mg gs gl got k aa x oo (IntKind.i64.wrap (cn + 1)) j y (sv, (t : Int))) (t < pl.length) ?_ (fun hlt => ?_)
        · refine vcx (X := ((decide ((↑t : Int) < (↑mp : Int)) = true → (qu14 fl need d m ds mp ps mg gs gl got (↑k : Int) aa x oo (IntKind.i64.wrap (cn + (1 : Int))) (↑j : Int) y (sv, (↑t : Int))).triv (t < pl.length)) ∧ (decide ((↑t : Int) < (↑mp : Int)) = false → (qu14 fl need d m ds mp ps mg gs gl got (↑k : Int) aa x oo (IntKind.i64.wrap (cn + (1 : Int))) (↑j : Int) y (sv, (↑t : Int))).triv (sv = shB pl x y)))) (by kernel_rfl) ?_
          refine ⟨fun h => triv_intro (by have := dec_lt h; omega), fun h => triv_intro ?_⟩
          have : t = pl.length := by have := dec_ge h; omega
          rw [this, List.take_length] at ksv
          exact ksv
        refine tr_block (c := nthC (loopOf (nthC (bodyOf (nthC (loopOf (nthC (bodyOf (nthC (loopOf (nthC (codeOf Try.f4) 24)) 2)) 6)) 2)) 9)) 2) (by kernel_rfl) (by kernel_rfl) ?_
        refine tr_cutB hsp mixed 2 42 (fun σ => rdS .bool 42 σ) (fun bv => qu14 fl need d m ds mp ps mg gs gl got k aa x oo (IntKind.i64.wrap (cn + 1)) j y (bv, (t : Int))) (fun bv => bv = (sv || shwB x y (pl.getD t 0))) ?_ ?_
        · refine vcx (X := ((sv = true → (qu14 fl need d m ds mp ps mg gs gl got (↑k : Int) aa x oo (IntKind.i64.wrap (cn + (1 : Int))) (↑j : Int) y (true, (↑t : Int))).triv (true = (sv || shwB x y (pl.getD t (0 : Int))))) ∧ (sv = false → ((0 : Int) ≤ (↑t : Int) ∧ (↑t : Int) < (↑mp : Int)) ∧ (↑t : Int).toNat < mp ∧ (((ps.getD (↑t : Int).toNat ((0 : Int), (0 : Int), (0 : Fr))).fst == x) = true → ((0 : Int) ≤ (↑t : Int) ∧ (↑t : Int) < (↑mp : Int)) ∧ (↑t : Int).toNat < mp ∧ (((ps.getD (↑t : Int).toNat ((0 : Int), (0 : Int), (0 : Fr))).snd.fst == y) = true → ((0 : Int) ≤ (↑t : Int) ∧ (↑t : Int) < (↑mg : Int)) ∧ (↑t : Int).toNat < mg ∧ (qu14 fl need d m ds mp ps mg gs gl got (↑k : Int) aa x oo (IntKind.i64.wrap (cn + (1 : Int))) (↑j : Int) y (gs.getD (↑t : Int).toNat false, (↑t : Int))).triv (gs.getD (↑t : Int).toNat false = (sv || shwB x y (pl.getD t (0 : Int))))) ∧ (((ps.getD (↑t : Int).toNat ((0 : Int), (0 : Int), (0 : Fr))).snd.fst == y) = false → (qu14 fl need d m ds mp ps mg gs gl got (↑k : Int) aa x oo (IntKind.i64.wrap (cn + (1 : Int))) (↑j : Int) y (false, (↑t : Int))).triv (false = (sv || shwB x y (pl.getD t (0 : Int)))))) ∧ (((ps.getD (↑t : Int).toNat ((0 : Int), (0 : Int), (0 : Fr))).fst == x) = false → (qu14 fl need d m ds mp ps mg gs gl got (↑k : Int) aa x oo (IntKind.i64.wrap (cn + (1 : Int))) (↑j : Int) y (false, (↑t : Int))).triv (false = (sv || shwB x y (pl.getD t (0 : Int)))))))) (by kernel_rfl) ?_
          have hg : pl.getD t 0 = pl[t] := by rw [List.getD_eq_getElem?_getD, List.getElem?_eq_getElem hlt, Option.getD_some]
          have hp1 : ps.getD t ((0 : Int), (0 : Int), (0 : Fr)) = pfF b need pl[t] := by rw [eps, List.getD_eq_getElem?_getD, List.getElem?_map, List.getElem?_eq_getElem hlt]; rfl
          have hg1 : gs.getD t false = gdF pl[t] := by rw [egs, List.getD_eq_getElem?_getD, List.getElem?_map, List.getElem?_eq_getElem hlt]; rfl
          rw [Int.toNat_natCast, hp1, hg1, hg, shwB]
          show (sv = true → _) ∧ (sv = false → _ ∧ _ ∧ ((whoP pl[t] == x) = true → _ ∧ _ ∧ ((toP pl[t] == y) = true → _) ∧ ((toP pl[t] == y) = false → _)) ∧ ((whoP pl[t] == x) = false → _))
          refine ⟨fun h1 => triv_intro (by rw [h1]; rfl), fun h1 => ⟨⟨by omega, by omega⟩, by omega, fun h2 => ⟨⟨by omega, by omega⟩, by omega, fun h3 => ⟨⟨by omega, by omega⟩, by omega, triv_intro (by rw [h1, h2, h3]; rfl)⟩, fun h3 => triv_intro (by rw [h1, h2, h3]; rfl)⟩, fun h2 => triv_intro (by rw [h1, h2]; rfl)⟩⟩
        intro (bv : Bool) (hbv : bv = (sv || shwB x y (pl.getD t 0)))
        refine tr_nil ?_
        refine tr_vc hsp mixed _ _ ?_
        refine vcx (X := ((qu14 fl need d m ds mp ps mg gs gl got (↑k : Int) aa x oo (IntKind.i64.wrap (cn + (1 : Int))) (↑j : Int) y (bv, IntKind.i64.wrap ((↑t : Int) + (1 : Int)))).triv ((∃ t_1, t_1 ≤ pl.length ∧ IntKind.i64.wrap ((↑t : Int) + (1 : Int)) = (↑t_1 : Int) ∧ bv = (List.take t_1 pl).any (shwB x y)) ∧ pl.length - (IntKind.i64.wrap ((↑t : Int) + (1 : Int))).toNat < pl.length - (↑t : Int).toNat))) (by kernel_rfl) ?_
        have hg : pl.getD t 0 = pl[t] := by rw [List.getD_eq_getElem?_getD, List.getElem?_eq_getElem hlt, Option.getD_some]
        rw [wrap_succ (by omega)]
        refine triv_intro ⟨⟨t + 1, hlt, rfl, ?_⟩, by rw [Int.toNat_natCast, Int.toNat_natCast]; omega⟩
        show bv = _
        rw [List.take_succ_eq_append_getElem hlt, List.any_append, ← ksv, List.any_cons, List.any_nil, Bool.or_false, hbv, hg]
      rintro ⟨sv, i4⟩ h14
      revert sv i4
      intro (sv : Bool) (i4 : Int) (hsv : sv = shB pl x y)
      refine tr_cutB hsp mixed 1 34 (fun σ => rdS .bool 34 σ) (fun o2 => qu10 fl need d m ds mp ps mg gs gl got k aa x (o2, IntKind.i64.wrap (cn + 1), (j : Int))) (fun o2 => o2 = (oo && sv)) ?_ ?_
      · refine vcx (X := ((oo = true → (qu10 fl need d m ds mp ps mg gs gl got (↑k : Int) aa x (sv, IntKind.i64.wrap (cn + (1 : Int)), (↑j : Int))).triv (sv = (oo && sv))) ∧ (oo = false → (qu10 fl need d m ds mp ps mg gs gl got (↑k : Int) aa x (false, IntKind.i64.wrap (cn + (1 : Int)), (↑j : Int))).triv (false = (oo && sv))))) (by kernel_rfl) ?_
        exact ⟨fun h => triv_intro (by rw [h]; rfl), fun h => triv_intro (by rw [h]; rfl)⟩
      intro (o2 : Bool) (ho2 : o2 = (oo && sv))
      refine tr_nil ?_
      refine tr_vc hsp mixed _ _ ?_
      refine vcx (X := ((qu10 fl need d m ds mp ps mg gs gl got (↑k : Int) aa x (o2, IntKind.i64.wrap (cn + (1 : Int)), IntKind.i64.wrap ((↑j : Int) + (1 : Int)))).triv ((∃ j_1, j_1 ≤ d.length ∧ IntKind.i64.wrap ((↑j : Int) + (1 : Int)) = (↑j_1 : Int) ∧ IntKind.i64.wrap (cn + (1 : Int)) = (↑(List.filter (acB fl x) (List.take j_1 d)).length : Int) ∧ o2 = (o && (List.filter (acB fl x) (List.take j_1 d)).all (shB pl x))) ∧ d.length - (IntKind.i64.wrap ((↑j : Int) + (1 : Int))).toNat < d.length - (↑j : Int).toNat))) (by kernel_rfl) ?_
      have hat : acB fl x y = true := by rw [← hav]; simpa using hc
      have hgd : d.getD j 0 = d[j] := by rw [List.getD_eq_getElem?_getD, List.getElem?_eq_getElem hjl, Option.getD_some]
      have hyd : y = d[j] := hy.trans hgd
      rw [wrap_succ (by omega)]
      refine triv_intro ⟨⟨j + 1, hjl, rfl, ?_, ?_⟩, by rw [Int.toNat_natCast, Int.toNat_natCast]; omega⟩
      · show IntKind.i64.wrap (cn + 1) = _
        have hcl : ((d.take j).filter (acB fl x)).length ≤ j := Nat.le_trans (List.length_filter_le _ _) (by rw [List.length_take]; omega)
        rw [wrap_i64' (by omega) (by omega), List.take_succ_eq_append_getElem hjl, List.filter_append, ← hyd, List.filter_cons_of_pos hat, List.filter_nil, List.length_append, kcn]; rfl
      · show o2 = _
        rw [List.take_succ_eq_append_getElem hjl, List.filter_append, ← hyd, List.filter_cons_of_pos hat, List.filter_nil, List.all_append, ← Bool.and_assoc, ← koo, ho2, hsv, List.all_cons, List.all_nil, Bool.and_true]
    rintro ⟨oo, cn, jj⟩ hj
    revert oo cn jj
    intro (oo : Bool) (cn : Int) (jj : Int) ⟨ecn, eoo⟩
    have kcn : cn = ((d.filter (acB fl x)).length : Int) := ecn
    have koo : oo = (o && (d.filter (acB fl x)).all (shB pl x)) := eoo
    refine tr_cutF hsp mixed 2 (fun σ => rdS iK 31 σ) (fun a2 => quM fl need d m ds mp ps mg gs gl got ((k : Int), a2)) (fun a2 => a2 = ((qualF (d.take (k + 1)) d need ds fl ps).length : Int)) ?_ ?_
    · refine vcx (X := ((oo = true → (decide (cn < need) = true → (decide (aa ≥ (↑gl : Int)) = true → (false, ()) = (true, ())) ∧ (decide (aa ≥ (↑gl : Int)) = false → ((0 : Int) ≤ aa ∧ aa < (↑gl : Int)) ∧ aa.toNat < gl ∧ ((got.getD aa.toNat (0 : Int) != x) = true → (false, ()) = (true, ())) ∧ ((got.getD aa.toNat (0 : Int) != x) = false → (quM fl need d m ds mp ps mg gs gl got ((↑k : Int), IntKind.i64.wrap (aa + (1 : Int)))).triv (IntKind.i64.wrap (aa + (1 : Int)) = (↑(qualF (List.take (k + (1 : Nat)) d) d need ds fl ps).length : Int))))) ∧ (decide (cn < need) = false → (quM fl need d m ds mp ps mg gs gl got ((↑k : Int), aa)).triv (aa = (↑(qualF (List.take (k + (1 : Nat)) d) d need ds fl ps).length : Int)))) ∧ (oo = false → (quM fl need d m ds mp ps mg gs gl got ((↑k : Int), aa)).triv (aa = (↑(qualF (List.take (k + (1 : Nat)) d) d need ds fl ps).length : Int))))) (by kernel_rfl) ?_
      have hgd : d.getD k 0 = d[k] := by rw [List.getD_eq_getElem?_getD, List.getElem?_eq_getElem hlt, Option.getD_some]
      have hxk : x = d[k] := hx.trans hgd
      have hL : lefto d need x ds fl ps = (oo && decide (cn < need)) := by
        rw [eds, eps, left_law hdn hdi x (by omega), koo, ho, kcn, eds, Bool.and_assoc]
      have hst := qual_step (t := d) (n := need) (ds := ds) (fs := fl) (ps := ps) hlt
      rw [← hxk, hL] at hst
      have hno : (oo && decide (cn < need)) = false → aa = ((qualF (d.take (k + 1)) d need ds fl ps).length : Int) := fun h => by
        rw [kaa, hst, h, if_neg (by decide), List.append_nil]
      refine ⟨fun h1 => ⟨fun h2 => ?_, fun h2 => triv_intro (hno (by rw [h1, h2]; rfl))⟩, fun h1 => triv_intro (hno (by rw [h1]; rfl))⟩
      rw [h1, h2, if_pos (by decide)] at hst
      have hpre : got = qualF (d.take (k + 1)) d need ds fl ps ++ qualF (d.drop (k + 1)) d need ds fl ps := by
        rw [hgot]; simp only [qualF]; rw [← List.filter_append, List.take_append_drop]
      rw [hst] at hpre
      have hlen : got.length = (qualF (d.take k) d need ds fl ps).length + 1 + (qualF (d.drop (k + 1)) d need ds fl ps).length := by
        rw [hpre, List.length_append, List.length_append]; rfl
      have hgx : got.getD (qualF (d.take k) d need ds fl ps).length 0 = x := by
        rw [hpre, List.append_assoc, List.getD_eq_getElem?_getD, List.getElem?_append_right (Nat.le_refl _), Nat.sub_self]; rfl
      have hql : (qualF (d.take k) d need ds fl ps).length ≤ k := by
        rw [qualF]; exact Nat.le_trans (List.length_filter_le _ _) (by rw [List.length_take]; omega)
      have hgl' : gl = got.length := hgl
      rw [hst, List.length_append]
      generalize (qualF (d.take k) d need ds fl ps).length = q at *
      have haq : aa.toNat = q := by omega
      rw [haq, hgx, wrap_i64' (by omega) (by omega)]
      refine ⟨fun h3 => absurd (of_decide_eq_true h3) (by omega), fun _ => ⟨⟨by omega, by omega⟩, by omega, fun h4 => absurd h4 (by simp), fun _ => triv_intro (by rw [kaa]; rfl)⟩⟩
    intro (a2 : Int) (ha2 : a2 = ((qualF (d.take (k + 1)) d need ds fl ps).length : Int))
    refine tr_nil ?_
    refine tr_vc hsp mixed _ _ ?_
    refine vcx (X := ((quM fl need d m ds mp ps mg gs gl got (IntKind.i64.wrap ((↑k : Int) + (1 : Int)), a2)).triv ((∃ k_1, k_1 ≤ d.length ∧ IntKind.i64.wrap ((↑k : Int) + (1 : Int)) = (↑k_1 : Int) ∧ a2 = (↑(qualF (List.take k_1 d) d need ds fl ps).length : Int)) ∧ d.length - (IntKind.i64.wrap ((↑k : Int) + (1 : Int))).toNat < d.length - (↑k : Int).toNat))) (by kernel_rfl) ?_
    rw [wrap_succ (by omega)]
    exact triv_intro ⟨⟨k + 1, hlt, rfl, ha2⟩, by rw [Int.toNat_natCast, Int.toNat_natCast]; omega⟩
  rintro ⟨i, aa⟩ hj
  revert i aa
  intro (i : Int) (aa : Int) (haa : aa = (got.length : Int))
  refine tr_vc hsp mixed _ _ ?_
  refine vcx (X := ((aa == (↑gl : Int), ()) = (true, ()))) (by kernel_rfl) ?_
  have hgl' : gl = got.length := hgl
  rw [haa, hgl']
  simp
end Go.Proofs.Ytoflhakneklimaa.law22
/- From a reading to plain data: structs of two fields. -/
namespace Go.Eng
open Go Go.Eng Cr Go.ChangeShapes Go.WideShapes Go.ChangeAt
theorem opnC_pair {P : Program} {t : TypeId} {f0 f1 : Field} {κ0 κ1 : Kd} {wt0 : Car κ0 → Prop} {wt1 : Car κ1 → Prop} (ht : P.underlying t = some (.struct #[f0, f1])) (hc0 : P.cellsOf f0.type = width κ0) (hc1 : P.cellsOf f1.type = width κ1)
    (ho0 : f0.offset = 0) (ho1 : f1.offset = width κ0) (hct : P.cellsOf t = width κ0 + width κ1) (h0 : OpnC P f0.type κ0 wt0) (h1 : OpnC P f1.type κ1 wt1) : OpnC P t (.pair κ0 κ1) (fun x => wt0 x.1 ∧ wt1 x.2) := by
  intro H enc W fuel cs x h hw
  obtain ⟨y0, y1, n, rfl, hl, e0, e1⟩ := trod_struct2 ht h
  have hw' : ∀ n ∈ DataW.weightsEach P [f0.type, f1.type] [y0.1, y1.1], n ≤ reachBytes := by
    have : (DataW.agg [y0.1, y1.1]).weights P t = DataW.weightsEach P [f0.type, f1.type] [y0.1, y1.1] := by
      rw [DataW.weights, ht]; rfl
    rw [← this]; exact hw
  simp only [DataW.weightsEach, List.mem_append] at hw'
  rw [ho0, List.drop_zero, hc0] at e0
  rw [ho1, hc1] at e1
  obtain ⟨a, ha, wa⟩ := h0 H enc W n _ _ e0 (fun m hm => hw' m (.inl hm))
  obtain ⟨c, hc, wc⟩ := h1 H enc W n _ _ e1 (fun m hm => hw' m (.inr (.inl hm)))
  have e2 : (cs.drop (width κ0)).take (width κ1) = cs.drop (width κ0) := List.take_of_length_le (by rw [List.length_drop, hl, hct]; omega)
  rw [e2] at hc
  exact ⟨(a, c), ⟨cs.take (width κ0), cs.drop (width κ0), (List.take_append_drop _ _).symm, ha, hc⟩, wa, wc⟩
end Go.Eng
namespace Go.Proofs.Ytoflhakneklimaa
set_option maxRecDepth 100000
open Go Go.Eng Go.RowKit Cr Go.ChangeShapes Go.WideShapes Go.ChangeAt

namespace dealQuals
theorem own : ownKnob Try.prog.godebug = none := by kernel_rfl
theorem laidOut : laidOutB Try.prog = true := by kernel_rfl
abbrev wtI : Car (.int .i64) → Prop := fun x => (Lit.int .i64 x).wf = true
theorem oI : OpnV Try.prog 3 (.int .i64) wtI := opnV_int (by kernel_rfl)
theorem pI {x : Int} (h : wtI x) : preI x := by
  have : (Lit.int .i64 x).wf = true := h
  simp [Lit.wf, IntKind.min, IntKind.max, IntKind.signed, IntKind.bits] at this
  exact ⟨by omega, by omega⟩
abbrev wtB : Car bsl → Prop := fun ys => List.length ys * Try.prog.bytesOf 5 ≤ reachBytes ∧ ∀ y ∈ ys, (Lit.int .u8 y).wf = true
theorem oB : OpnV Try.prog 33 bsl wtB := opnV_slice (e := 5) (by kernel_rfl) (by kernel_rfl) (by decide) (opnC_int (by kernel_rfl))
theorem bytes5 : Try.prog.bytesOf 5 = 1 := by kernel_rfl
theorem pB {xs : List Int} (h : wtB xs) : preB xs := by
  obtain ⟨h1, h2⟩ := h
  rw [bytes5] at h1
  refine ⟨fun x hx => ?_, ?_⟩
  · have := h2 x hx
    simp [Lit.wf, IntKind.min, IntKind.max, IntKind.signed, IntKind.bits] at this
    omega
  · show List.length xs ≤ _
    simp only [reachBytes] at h1
    omega
abbrev wtIS : Car (.sl (.int .i64)) → Prop := fun ys => List.length ys * Try.prog.bytesOf 3 ≤ reachBytes ∧ ∀ y ∈ ys, (Lit.int .i64 y).wf = true
theorem oIS : OpnV Try.prog 46 (.sl (.int .i64)) wtIS := opnV_slice (e := 3) (by kernel_rfl) (by kernel_rfl) (by decide) (opnC_int (by kernel_rfl))
theorem bytes3 : Try.prog.bytesOf 3 = 8 := by kernel_rfl
theorem pIS {xs : List Int} (h : wtIS xs) : preIS xs := by
  obtain ⟨h1, h2⟩ := h
  rw [bytes3] at h1
  refine ⟨fun x hx => ?_, ?_⟩
  · have := h2 x hx
    simp [Lit.wf, IntKind.min, IntKind.max, IntKind.signed, IntKind.bits] at this
    exact ⟨by omega, by omega⟩
  · show List.length xs ≤ _
    simp only [reachBytes] at h1
    omega
theorem cIS : OpnC Try.prog 46 (.sl (.int .i64)) wtIS := opnC_slice (e := 3) (by kernel_rfl) (by kernel_rfl) (by decide) (opnC_int (by kernel_rfl))
noncomputable def fld (i : Nat) : Field := match Try.prog.underlying 65 with
  | some (.struct fs) => fs.toList.getD i default
  | _ => default
abbrev wtF : Car (.pair (.int .i64) (.sl (.int .i64))) → Prop := fun x => (Lit.int .i64 x.1).wf = true ∧ wtIS x.2
theorem cF : OpnC Try.prog 65 (.pair (.int .i64) (.sl (.int .i64))) wtF := opnC_pair (f0 := fld 0) (f1 := fld 1) (by kernel_rfl) (by kernel_rfl) (by kernel_rfl) (by kernel_rfl) (by kernel_rfl) (by kernel_rfl) (opnC_int (by kernel_rfl)) cIS
abbrev wtFS : Car (.sl (.pair (.int .i64) (.sl (.int .i64)))) → Prop := fun ys => List.length ys * Try.prog.bytesOf 65 ≤ reachBytes ∧ ∀ y ∈ ys, wtF y
theorem oFS : OpnV Try.prog 47 (.sl (.pair (.int .i64) (.sl (.int .i64)))) wtFS := opnV_slice (e := 65) (by kernel_rfl) (by kernel_rfl) (by decide) cF
theorem pFS {xs : List (Int × List Int)} (h : wtFS xs) : ∀ f ∈ xs, law22.preFlt f := fun f hf => ⟨pI (h.2 f hf).1, pIS (h.2 f hf).2⟩
theorem opened : OpnL Try.prog [3, 3, 33, 46, 47, 46] [.int .i64, .int .i64, bsl, .sl (.int .i64), .sl (.pair (.int .i64) (.sl (.int .i64))), .sl (.int .i64)] (fun x => wtI x.1 ∧ wtI x.2.1 ∧ wtB x.2.2.1 ∧ wtIS x.2.2.2.1 ∧ wtFS x.2.2.2.2.1 ∧ wtIS x.2.2.2.2.2.1 ∧ True) :=
  .cons oI (by kernel_rfl) (of_decide_eq_true (by kernel_rfl)) (.cons oI (by kernel_rfl) (of_decide_eq_true (by kernel_rfl)) (.cons oB (by kernel_rfl) (of_decide_eq_true (by kernel_rfl)) (.cons oIS (by kernel_rfl) (of_decide_eq_true (by kernel_rfl)) (.cons oFS (by kernel_rfl) (of_decide_eq_true (by kernel_rfl)) (.cons oIS (by kernel_rfl) (of_decide_eq_true (by kernel_rfl)) .nil)))))
theorem lifted (os : Os) (started : os.Started) (H : Type) (enc : TypeId × Value → H) :
    ReturnsInHanded {} Try.checked os 4 .any (Rows.dealQualsSpec.pre6 enc Try.prog Try.f4 Rows.dealQualsRow.domain false) (Rows.dealQualsSpec.post enc Try.prog Try.f4 false true false false) := by
  refine returnsInHanded_of_change_sized (C := Try.checked) own started (by kernel_rfl) Try.func4
    (ChangeSpec.witness6 (enc := enc) (C := Try.checked) false ⟨#[], #[.int .i64 0, .int .i64 0, .slice none 0 0, .slice none 0 0, .slice none 0 0, .slice none 0 0], []⟩ 8 (by kernel_rfl) (by kernel_rfl) (by kernel_rfl) (by kernel_rfl)) ?_
  intro W base args ds gs before hval hW _ hsz _
  refine law_row (C := Try.checked) (bt := 4) (ts := [3, 3, 33, 46, 47, 46]) law22.ent_quals law22.fn_quals laidOut (by kernel_rfl) (by kernel_rfl) (by kernel_rfl) opened ?_ rfl ?_ W base args ds gs before hval hW hsz
  · rintro ⟨x0, x1, x2, x3, x4, x5, ⟨⟩⟩ ⟨h0, h1, h2, h3, h4, h5, _⟩
    exact ⟨pI h0, pI h1, pB h2, pIS h3, pFS h4, pIS h5⟩
  · intro ds hl
    match ds, hl with
    | [d0, d1, d2, d3, d4, d5], _ => rfl

theorem proved : Rows.DealQualsSaid :=
  OpenClaim.holds_of_wide 4 Try.f4 rfl rfl rfl rfl rfl rfl rfl ⟨rfl, rfl, rfl, rfl, rfl⟩ rfl rfl rfl rfl rfl (by kernel_rfl) Try.func4 (by kernel_rfl)
    (of_decide_eq_true (by kernel_rfl)) (by unfold Func.isWrapper; first | (rw [if_pos (by decide +kernel)]; kernel_rfl) | (rw [if_neg (by decide +kernel)]; exact ⟨rfl, rfl⟩))
    (fun os started H enc _ => lifted os started H enc)
#print axioms proved
end dealQuals
end Go.Proofs.Ytoflhakneklimaa
