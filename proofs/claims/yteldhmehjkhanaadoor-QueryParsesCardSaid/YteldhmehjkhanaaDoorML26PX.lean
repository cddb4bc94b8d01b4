/- QueryParses, for every input: true; the input reads as it did. No condition. -/
import Derived.LaidLaws
import Derived.LaidHandle
import Derived.LaidMore
import Derived.MakeChecks
import Derived.OpenShut
import Derived.Lay
import Derived.Test.YteldhmehjkhanaaDoorCards
import Derived.Test.YteldhmehjkhanaaDoorTie
import Derived.Stop.Joined
import Derived.SevenTiedAt
import Derived.Test.YteldhmehjkhanaaDoorML26PW
/- Forms of numbers: what the words' operations come to. No program here. -/
namespace Cr
section
variable {M : Int} [Md M]

end
end Cr
/- Bytes and words, numbers. No program here. -/
namespace Cr

end Cr
/- What rows ask of their arguments. -/
namespace Go.Proofs.YteldhmehjkhanaaDoor
open Go Go.Eng Cr
end Go.Proofs.YteldhmehjkhanaaDoor
/- strings: Count, Index, genSplit, Split, Join; strconv.Itoa. -/
namespace Go.Proofs.YteldhmehjkhanaaDoor.qry
set_option maxRecDepth 100000
open Go Go.Eng Go.RowKit Cr Go.Proofs.YteldhmehjkhanaaDoor Go.Qry
abbrev iK : Kd := .int .i64
theorem mixed : Tryd.prog.follows .mixedOrders = true := by kernel_rfl
def cntO (s : ByteArray) : Int := ((List.count 32 s.data.toList : Nat) : Int)
def ixO (s : ByteArray) : Int := Lib.indexByte s.data.toList 32
def itO (n : Int) : ByteArray := bs (Lib.decDigits (Int.toNat n))
noncomputable def jnO (xs : List ByteArray) (sep : ByteArray) : ByteArray := opq (bs (Lib.join (List.map (fun x => x.data.toList) xs) sep.data.toList))
def sBlank : ByteArray := ⟨#[32]⟩
theorem str_in {M : Mem} {s : ByteArray} {u : Value} (h : valRd M .str s u) : u = .string s := by
  have h : [u] = [Value.string s] := h
  simpa using h
theorem ent_count : enters Tryd.prog 36 Tryd.f36 := enters_mk (by kernel_rfl) (by kernel_rfl) (by kernel_rfl)
theorem fn_count : FnOk Tryd.prog 36 [.str, .str] [.val iK] noG (fun (_, p, _) => p = sBlank) (fun (s, _) => (cntO s, ())) := by
  intro w M us xs _ _ hin hp
  obtain ⟨s, p, ⟨⟩⟩ := xs
  obtain ⟨u, us', rfl, h1, u2, us2, rfl, h2, h3⟩ := hin
  have h3 : us2 = [] := h3
  have h1 := str_in h1
  have h2 := str_in h2
  have hp : p = sBlank := hp
  subst h1 h2 h3 hp
  refine .inl ⟨ent_count.2 _ _, (Any.strings_Count_one Tryd.lays138 s 32 w).mono ?_⟩
  rintro e w' ⟨rfl, rfl⟩
  exact ⟨_, rfl, [.int .i64 _], none, rfl, ⟨_, [], rfl, rfl, rfl⟩, Below.refl _ _⟩
theorem ent_index : enters Tryd.prog 37 Tryd.f37 := enters_mk (by kernel_rfl) (by kernel_rfl) (by kernel_rfl)
theorem fn_index : FnOk Tryd.prog 37 [.str, .str] [.val iK] noG (fun (_, p, _) => p = sBlank) (fun (s, _) => (ixO s, ())) := by
  intro w M us xs _ _ hin hp
  obtain ⟨s, p, ⟨⟩⟩ := xs
  obtain ⟨u, us', rfl, h1, u2, us2, rfl, h2, h3⟩ := hin
  have h3 : us2 = [] := h3
  have h1 := str_in h1
  have h2 := str_in h2
  have hp : p = sBlank := hp
  subst h1 h2 h3 hp
  refine .inl ⟨ent_index.2 _ _, (Any.strings_Index_one Tryd.lays143 s 32 w).mono ?_⟩
  rintro e w' ⟨rfl, rfl⟩
  exact ⟨_, rfl, [.int .i64 _], none, rfl, ⟨_, [], rfl, rfl, rfl⟩, Below.refl _ _⟩
theorem ent_itoa : enters Tryd.prog 29 Tryd.f29 := enters_mk (by kernel_rfl) (by kernel_rfl) (by kernel_rfl)
theorem fn_itoa : FnOk Tryd.prog 29 [iK] [.val .str] noG (fun (n, _) => 0 ≤ (n : Int) ∧ (n : Int) < 100) (fun (n, _) => (itO n, ())) := by
  intro w M us xs _ _
  obtain ⟨n, ⟨⟩⟩ := xs
  revert n
  intro (n : Int) hin (hp : 0 ≤ n ∧ n < 100)
  obtain ⟨p0, p1⟩ := hp
  obtain ⟨u, us', rfl, h1, h3⟩ := hin
  have h3 : us' = [] := h3
  have h1 : [u] = [Value.int .i64 n] := h1
  simp only [List.cons.injEq, and_true] at h1
  subst h1 h3
  have hn : n = ((Int.toNat n : Nat) : Int) := by omega
  have h := Any.strconv_Itoa_small Tryd.lays171 (Int.toNat n) (by omega) w
  rw [← hn] at h
  refine .inl ⟨ent_itoa.2 _ _, h.mono ?_⟩
  rintro e w' ⟨rfl, rfl⟩
  exact ⟨_, rfl, [.string _], none, rfl, ⟨_, [], rfl, rfl, rfl⟩, Below.refl _ _⟩
noncomputable def spCount : Nat × Eng.Spec := (36, fnSpec [.str, .str] [.val iK] (fun (_, p, _) => p = sBlank) (fun (s, _) => (cntO s, ())))
noncomputable def spIndex : Nat × Eng.Spec := (37, fnSpec [.str, .str] [.val iK] (fun (_, p, _) => p = sBlank) (fun (s, _) => (ixO s, ())))
noncomputable def spItoa : Nat × Eng.Spec := (29, fnSpec [iK] [.val .str] (fun (n, _) => 0 ≤ (n : Int) ∧ (n : Int) < 100) (fun (n, _) => (itO n, ())))
theorem rdl_str {M : Mem} : ∀ {xs : List ByteArray} {vs : List Value}, RdL (Rd M .str) xs vs → vs = xs.map Value.string := by
  intro xs
  induction xs with
  | nil => intro vs h; exact h
  | cons x xs ih =>
    intro vs ⟨v1, v2, e, h1, h2⟩
    have h1 : v1 = [Value.string x] := h1
    rw [e, h1, ih h2]; rfl
def joinP (xs : List ByteArray) (sep : ByteArray) : Prop := (0 < List.length xs ∧ List.length xs ≤ 1000) ∧ List.length (Lib.join (List.map (fun x => x.data.toList) xs) sep.data.toList) ≤ 140737488355328
abbrev preJoin : HL [.sl .str, .str] → Prop := fun (xs, sep, _) => joinP xs sep
theorem ent_join : enters Tryd.prog 31 Tryd.f31 := enters_mk (by kernel_rfl) (by kernel_rfl) (by kernel_rfl)
theorem fn_join : FnOk Tryd.prog 31 [.sl .str, .str] [.val .str] noG preJoin (fun (xs, sep, _) => (jnO xs sep, ())) := by
  intro w M us xs hM _
  obtain ⟨xs, sep, ⟨⟩⟩ := xs
  revert xs sep
  intro (xs : List ByteArray) (sep : ByteArray) hin hp
  obtain ⟨⟨p0, p1⟩, p2⟩ := hp
  obtain ⟨u, us', rfl, h1, u2, us2, rfl, h2, h3⟩ := hin
  have h3 : us2 = [] := h3
  have h2 := str_in h2
  subst h2 h3
  have h1 : Rd M (.sl .str) xs [u] := h1
  rcases h1 with ⟨h, _⟩ | ⟨b, o, cap, e, hc, l, hl, hn, hr⟩
  · have h : xs = [] := h
    subst h; exact absurd p0 (by decide)
  simp only [List.cons.injEq, and_true] at e
  subst e
  have hr := rdl_str hr
  have hn : o + xs.length * 1 ≤ l.length := hn
  rw [Nat.mul_one] at hn
  have hr : (l.drop o).take (xs.length * 1) = xs.map Value.string := hr
  rw [Nat.mul_one] at hr
  have hne : l ≠ [] := by intro e; rw [e, List.length_nil] at hn; omega
  obtain ⟨el, fr, hh⟩ := memOf_inv (hM _ _ (hl hne))
  rw [objOf_cells hne] at hh
  have hb : b < w.heap.size := by
    rcases Nat.lt_or_ge b w.heap.size with h' | h'
    · exact h'
    · rw [Array.getElem?_eq_none h'] at hh; cases hh
  refine .inl ⟨ent_join.2 _ _, (Any.strings_Join Tryd.lays156 Tryd.Builder_Extra_156 b o cap xs sep w ?_ hb (by omega) hc p2).mono ?_⟩
  · intro j x hj
    have hjl : j < xs.length := by
      rcases Nat.lt_or_ge j xs.length with h' | h'
      · exact h'
      · rw [List.getElem?_eq_none h'] at hj; cases hj
    have := congrArg (fun q : List Value => q[j]?) hr
    simp only [List.getElem?_take, List.getElem?_drop, List.getElem?_map, hj, if_pos hjl, Option.map_some] at this
    simp only [World.cell?, hh]
    simpa using this
  · rintro e w' ⟨rfl, hw⟩
    refine ⟨_, rfl, [.string (jnO xs sep)], none, ?_, ⟨_, [], rfl, rfl, rfl⟩, hw⟩
    show Value.string _ = Value.string (jnO xs sep)
    rw [jnO, opq_eq]; rfl
noncomputable def spJoin : Nat × Eng.Spec := (31, fnSpec [.sl .str, .str] [.val .str] preJoin (fun (xs, sep, _) => (jnO xs sep, ())))
end Go.Proofs.YteldhmehjkhanaaDoor.qry
/- strings.genSplit, Split. -/
namespace Go.Proofs.YteldhmehjkhanaaDoor.qry
set_option maxRecDepth 100000
open Go Go.Eng Go.RowKit Cr Go.Proofs.YteldhmehjkhanaaDoor Go.Qry
theorem cnt_wds (s : ByteArray) : ((wds s).length : Int) = cntO s + 1 := by
  rw [wds, List.length_map, pcs_count, cntO]; omega
theorem cnt_le (s : ByteArray) : 0 ≤ cntO s ∧ cntO s ≤ s.size := by
  have h := List.count_le_length (a := (32 : UInt8)) (l := s.data.toList)
  have e : s.data.toList.length = s.size := Array.length_toList
  rw [cntO]; omega
theorem blank_ne : decide (sBlank = ⟨#[]⟩) = false := by kernel_rfl
theorem pcs_last {l : List UInt8} (h : (pcs l).length = 1) : pcs l = [l] := by
  refine pcs_no l fun c hc e => ?_
  subst e
  rw [pcs_count] at h
  have := List.count_pos_iff.2 hc
  omega
theorem gs_min (s : ByteArray) (hs : s.size ≤ 1048576) : (if IntKind.i64.wrap ((s.size : Int) + 1) < IntKind.i64.wrap (cntO s + 1) then IntKind.i64.wrap ((s.size : Int) + 1) else IntKind.i64.wrap (cntO s + 1)) = cntO s + 1 := by
  obtain ⟨c0, c1⟩ := cnt_le s
  rw [wrap_i64' (by omega) (by omega), wrap_i64' (by omega) (by omega)]
  split <;> omega
noncomputable def gsA (s : ByteArray) (n : Int) : St := mkSt Tryd.f22.ntmps 104 [(0, .is (.one (.v (.string s)))), (1, .is (.one (.v (.string sBlank)))), (2, sI .i64 0), (3, sI .i64 n)] []
noncomputable def gsB (m : Int) (L : Nat) (g : ByteArray × Int × List ByteArray) : St := mkSt Tryd.f22.ntmps 160 [(0, .is (.one (.v (.string g.1)))), (1, .is (.one (.v (.string sBlank)))), (2, sI .i64 0), (3, sI .i64 m), (9, .is (.one (.sl 112 0 0 L 1))), (10, sI .i64 g.2.1)] [(112, [.row .str L g.2.2])]
def gsJ (s : ByteArray) (L : Nat) (g : ByteArray × Int × List ByteArray) : Prop := (0 ≤ g.2.1 ∧ g.2.1 < L) ∧ g.2.2.length = L ∧ g.1.size ≤ s.size ∧ ((g.2.2.take g.2.1.toNat).map fun x => x.data.toList) ++ pcs g.1.data.toList = pcs s.data.toList
def gsO (s : ByteArray) (L : Nat) (g : ByteArray × Int × List ByteArray) : Prop := gsJ s L g ∧ pcs g.1.data.toList = [g.1.data.toList]
theorem take_set1 {α : Type} : ∀ (ys : List α) (i : Nat) (x : α), i < ys.length → (ys.set i x).take (i + 1) = ys.take i ++ [x]
  | [], _, _, h => absurd h (by simp)
  | y :: ys, 0, x, _ => by simp
  | y :: ys, i + 1, x, h => by
    have := take_set1 ys i x (by simpa using h)
    simp [this]
theorem gs_len {s : ByteArray} {L : Nat} {g : ByteArray × Int × List ByteArray} (hJ : gsJ s L g) (hL : (L : Int) = cntO s + 1) : g.2.1.toNat + (pcs g.1.data.toList).length = L := by
  obtain ⟨⟨i0, i1⟩, hyl, hsz, hpc⟩ := hJ
  have h := congrArg List.length hpc
  rw [List.length_append, List.length_map, List.length_take, hyl, pcs_count s.data.toList] at h
  rw [cntO] at hL
  omega
theorem gs_step {s cur : ByteArray} {i : Int} {ys : List ByteArray} {L q : Nat} (hJ : gsJ s L (cur, i, ys)) (hq : q < cur.data.toList.length) (hno : ∀ c ∈ cur.data.toList.take q, c ≠ 32) (hc : cur.data.toList.getD q 0 = 32) (hi : i + 1 < L) :
    gsJ s L (cur.extract (q + 1) cur.size, i + 1, ys.set i.toNat (cur.extract 0 q)) := by
  obtain ⟨⟨i0, i1⟩, hyl, hsz, hpc⟩ := hJ
  have i0 : 0 ≤ i := i0
  have i1 : i < L := i1
  have hyl : ys.length = L := hyl
  have hcs : cur.data.toList.length = cur.size := Array.length_toList
  have e1 : (cur.extract (q + 1) cur.size).data.toList = cur.data.toList.drop (q + 1) := by
    rw [ext_list, List.take_of_length_le]
    rw [List.length_drop]; omega
  have e2 : (cur.extract 0 q).data.toList = cur.data.toList.take q := by
    rw [ext_list, List.drop_zero, Nat.sub_zero]
  refine ⟨⟨by show 0 ≤ i + 1; omega, by show i + 1 < (L : Int); omega⟩, by show (ys.set _ _).length = L; rw [List.length_set]; exact hyl, ?_, ?_⟩
  · show (cur.extract (q + 1) cur.size).size ≤ s.size
    have h3 : (cur.extract (q + 1) cur.size).data.toList.length = (cur.extract (q + 1) cur.size).size := Array.length_toList
    rw [e1, List.length_drop] at h3
    have hsz : cur.size ≤ s.size := hsz
    omega
  · show ((ys.set i.toNat (cur.extract 0 q)).take (i + 1).toNat).map (fun x => x.data.toList) ++ pcs (cur.extract (q + 1) cur.size).data.toList = pcs s.data.toList
    have hpc : (ys.take i.toNat).map (fun x => x.data.toList) ++ pcs cur.data.toList = pcs s.data.toList := hpc
    rw [show (i + 1).toNat = i.toNat + 1 by omega, take_set1 ys i.toNat _ (by omega), List.map_append, e1, List.map_cons, List.map_nil, e2, ← hpc, pcs_step hq hno hc, List.append_assoc]
    rfl
theorem gs_out {s cur : ByteArray} {i : Int} {ys : List ByteArray} {L : Nat} (hJ : gsO s L (cur, i, ys)) : (ys.set i.toNat cur).take (i.toNat + 1) = wds s := by
  obtain ⟨⟨⟨i0, i1⟩, hyl, hsz, hpc⟩, hl⟩ := hJ
  have i0 : 0 ≤ i := i0
  have i1 : i < L := i1
  have hyl : ys.length = L := hyl
  have hpc : (ys.take i.toNat).map (fun x => x.data.toList) ++ pcs cur.data.toList = pcs s.data.toList := hpc
  have hl : pcs cur.data.toList = [cur.data.toList] := hl
  refine wds_of ?_
  rw [take_set1 ys i.toNat cur (by omega), List.map_append, List.map_cons, List.map_nil, ← hpc, hl]
theorem ent_gen : enters Tryd.prog 22 Tryd.f22 := enters_mk (by kernel_rfl) (by kernel_rfl) (by kernel_rfl)
theorem fn_gen : FnOk Tryd.prog 22 [.str, .str, iK, iK] [.own .str] noG (fun (s, p, k, n, _) => (p = sBlank ∧ (k : Int) = 0 ∧ (n : Int) = -1) ∧ ByteArray.size s ≤ 1048576) (fun (s, _) => (wds s, ())) := by
  have hsp : SpecsOk Tryd.prog (sps [spCount, spIndex]) := sps_cons (fnSpec_ok fn_count) (sps_cons (fnSpec_ok fn_index) sps_nil)
  refine fn_of_tr (sp := sps [spCount, spIndex]) ent_gen (by decide) (by decide) (by kernel_rfl) ?_
  rintro w M0 ⟨s, p, k, n, ⟨⟩⟩
  revert s p k n
  intro (s : ByteArray) (p : ByteArray) (k : Int) (n : Int) _ hp
  obtain ⟨⟨rfl, rfl, rfl⟩, hs⟩ := hp
  show Tr _ _ _ _ _ _ _
  obtain ⟨c0, c1⟩ := cnt_le s
  have hcw := cnt_wds s
  refine tr_cutF hsp mixed 8 (fun σ => rdS iK 3 σ) (gsA s) (fun n => n = cntO s + 1) ?_ ?_
  · refine vcx (X := ((((-1 : Int) == (0 : Int)) = true → ([], ()) = (wds s, ())) ∧ (((-1 : Int) == (0 : Int)) = false → (decide (sBlank = (ByteArray.mk (#[] ))) = true → False) ∧ (decide (sBlank = (ByteArray.mk (#[] ))) = false → (decide ((-1 : Int) < (0 : Int)) = true → sBlank = sBlank ∧ (gsA s (if IntKind.i64.wrap ((↑s.size : Int) + (1 : Int)) < IntKind.i64.wrap ((cntO s, ()).fst + (1 : Int)) then IntKind.i64.wrap ((↑s.size : Int) + (1 : Int)) else IntKind.i64.wrap ((cntO s, ()).fst + (1 : Int)))).triv ((if IntKind.i64.wrap ((↑s.size : Int) + (1 : Int)) < IntKind.i64.wrap (cntO s + (1 : Int)) then IntKind.i64.wrap ((↑s.size : Int) + (1 : Int)) else IntKind.i64.wrap (cntO s + (1 : Int))) = cntO s + (1 : Car iK))) ∧ (decide ((-1 : Int) < (0 : Int)) = false → (gsA s (if IntKind.i64.wrap ((↑s.size : Int) + (1 : Int)) < (-1 : Int) then IntKind.i64.wrap ((↑s.size : Int) + (1 : Int)) else (-1 : Int))).triv ((if IntKind.i64.wrap ((↑s.size : Int) + (1 : Int)) < (-1 : Int) then IntKind.i64.wrap ((↑s.size : Int) + (1 : Int)) else (-1 : Int)) = cntO s + (1 : Car iK))))))) (by kernel_rfl) ?_
    refine ⟨fun h => absurd h (by decide), fun _ => ⟨fun h => absurd (h.symm.trans blank_ne) (by decide), fun _ => ⟨fun _ => ⟨rfl, triv_intro (gs_min s hs)⟩, fun h => absurd (show (-1 : Int) < 0 by omega) (of_decide_eq_false h)⟩⟩⟩
  intro (n : Int) hn
  have hn : n = cntO s + 1 := hn
  refine tr_cutF hsp mixed 3 (fun σ => (rdS iK 3 σ, rdL 9 σ, rdR .str 112 σ)) (fun g => gsB g.1 g.2.1 (s, 0, g.2.2)) (fun g => g.1 = n - 1 ∧ (g.2.1 : Int) = n ∧ List.length g.2.2 = g.2.1) ?_ ?_
  · refine vcx (X := (((0 : Int) ≤ n ∧ n ≤ n ∧ (↑(16 : Nat) : Int) * n ≤ (281474976710656 : Int) ∧ n ≤ (9223372036854775807 : Int)) ∧ (gsB (IntKind.i64.wrap (n - (1 : Int)), n.toNat, List.replicate n.toNat ByteArray.empty).fst (IntKind.i64.wrap (n - (1 : Int)), n.toNat, List.replicate n.toNat ByteArray.empty).snd.fst (s, (0 : Int), (IntKind.i64.wrap (n - (1 : Int)), n.toNat, List.replicate n.toNat ByteArray.empty).snd.snd)).triv (IntKind.i64.wrap (n - (1 : Int)) = n - (1 : Car iK) ∧ (↑n.toNat : Int) = n ∧ (List.replicate n.toNat ByteArray.empty).length = n.toNat))) (by kernel_rfl) ?_
    refine ⟨⟨by omega, Int.le_refl _, by omega, by omega⟩, triv_intro ⟨wrap_i64' (by omega) (by omega), by omega, List.length_replicate⟩⟩
  rintro ⟨m, L, xs⟩ ⟨hm, hL, hxl⟩
  revert m xs
  intro (m : Int) (xs : List ByteArray) (hm : m = n - 1) hL (hxl : xs.length = L)
  have hL : (L : Int) = n := hL
  have hsz : s.data.toList.length = s.size := Array.length_toList
  refine tr_while hsp mixed (fun σ => []) (fun σ => (rdS .str 0 σ, rdS iK 10 σ, rdR .str 112 σ)) (gsB m L) (gsJ s L) (fun g => L - g.2.1.toNat)
    (fun σ => (rdS .str 0 σ, rdS iK 10 σ, rdR .str 112 σ)) (gsB m L) (gsO s L) (s, 0, xs) (c := nthC (codeOf Tryd.f22) 11) (by kernel_rfl) (by kernel_rfl) (le_of_proj (by kernel_rfl) (by kernel_rfl) ?_) ?_ ?_
  · exact ⟨⟨Int.le_refl _, by show (0 : Int) < L; omega⟩, hxl, Nat.le_refl _, rfl⟩
  · rintro ⟨cur, i, ys⟩ hj
    revert cur i ys
    intro (cur : ByteArray) (i : Int) (ys : List ByteArray) hj
    refine vcx (X := ((decide (i < m) = true → sBlank = sBlank ∧ (decide (ixO cur < (0 : Int)) = true → (gsB m L (cur, i, ys)).triv (gsO s L (cur, i, ys))) ∧ (decide (ixO cur < (0 : Int)) = false → ((0 : Int) ≤ IntKind.i64.wrap (ixO cur + (0 : Int)) ∧ IntKind.i64.wrap (ixO cur + (0 : Int)) ≤ (↑cur.size : Int)) ∧ ((0 : Int) ≤ i ∧ i < (↑L : Int)) ∧ i.toNat < L ∧ ((0 : Int) ≤ IntKind.i64.wrap (ixO cur + (↑sBlank.size : Int)) ∧ IntKind.i64.wrap (ixO cur + (↑sBlank.size : Int)) ≤ (↑cur.size : Int)) ∧ (gsB m L (cur.extract (IntKind.i64.wrap ((ixO cur, ()).fst + (↑sBlank.size : Int))).toNat (↑cur.size : Int).toNat, IntKind.i64.wrap (i + (1 : Int)), ys.set i.toNat (cur.extract (0 : Nat) (IntKind.i64.wrap ((ixO cur, ()).fst + (0 : Int))).toNat))).triv (gsJ s L (cur.extract (IntKind.i64.wrap (ixO cur + (↑sBlank.size : Int))).toNat (↑cur.size : Int).toNat, IntKind.i64.wrap (i + (1 : Int)), ys.set i.toNat (cur.extract (0 : Nat) (IntKind.i64.wrap (ixO cur + (0 : Int))).toNat)) ∧ L - (IntKind.i64.wrap (i + (1 : Int))).toNat < L - i.toNat))) ∧ (decide (i < m) = false → (gsB m L (cur, i, ys)).triv (gsO s L (cur, i, ys))))) (by kernel_rfl) ?_
    have hJ := hj
    obtain ⟨⟨i0, i1⟩, hyl, hcz, hpc⟩ := hj
    have i0 : 0 ≤ i := i0
    have i1 : i < L := i1
    have hcz : cur.size ≤ s.size := hcz
    have hcs : cur.data.toList.length = cur.size := Array.length_toList
    have hlen : i.toNat + (pcs cur.data.toList).length = L := gs_len hJ (by omega)
    have hb : (sBlank.size : Int) = 1 := rfl
    refine ⟨fun hlt => ⟨rfl, fun hx => triv_intro ⟨hJ, ?_⟩, fun hx => ?_⟩, fun hge => triv_intro ⟨hJ, ?_⟩⟩
    · have hx := of_decide_eq_true hx
      rcases ix_spec cur.data.toList with ⟨_, h⟩ | ⟨q, h, _⟩
      · exact pcs_no _ h
      · rw [ixO, h] at hx; omega
    · have hx := of_decide_eq_false hx
      have hlt := of_decide_eq_true hlt
      rcases ix_spec cur.data.toList with ⟨h, _⟩ | ⟨q, h, h1, h2, h3⟩
      · rw [ixO, h] at hx; exact absurd (by decide) hx
      have hq : ixO cur = (q : Int) := h
      have w0 : IntKind.i64.wrap ((q : Int) + 0) = (q : Int) := by rw [Int.add_zero]; exact wrap_i64' (by omega) (by omega)
      have w1 : IntKind.i64.wrap ((q : Int) + 1) = (q : Int) + 1 := wrap_i64' (by omega) (by omega)
      have w2 : IntKind.i64.wrap (i + 1) = i + 1 := wrap_i64' (by omega) (by omega)
      have t1 : ((q : Int) + 1).toNat = q + 1 := by omega
      have hp1 : 0 < (pcs cur.data.toList).length := List.length_pos_iff.2 (pcs_ne _)
      rw [hq, hb, w0, w1, w2]
      refine ⟨⟨by omega, by omega⟩, ⟨i0, by omega⟩, by omega, ⟨by omega, by omega⟩, triv_intro ⟨?_, by omega⟩⟩
      have := gs_step hJ h1 h2 h3 (by omega)
      rw [Int.toNat_natCast, Int.toNat_natCast, t1]
      exact this
    · have hge := of_decide_eq_false hge
      show pcs cur.data.toList = [cur.data.toList]
      exact pcs_last (by omega)
  · rintro ⟨cur, i, ys⟩ hj
    revert cur i ys
    intro (cur : ByteArray) (i : Int) (ys : List ByteArray) hj
    refine tr_vc hsp mixed _ _ ?_
    refine vcx (X := (((0 : Int) ≤ i ∧ i < (↑L : Int)) ∧ i.toNat < L ∧ ((0 : Int) ≤ IntKind.i64.wrap (i + (1 : Int)) ∧ IntKind.i64.wrap (i + (1 : Int)) ≤ (↑L : Int)) ∧ (0 : Nat) + (IntKind.i64.wrap (i + (1 : Int)) - (0 : Int)).toNat ≤ L ∧ (List.take (IntKind.i64.wrap (i + (1 : Int)) - (0 : Int)).toNat (ys.set i.toNat cur), ()) = (wds s, ()))) (by kernel_rfl) ?_
    have hO := hj
    obtain ⟨⟨⟨i0, i1⟩, hyl, hcz, hpc⟩, hlast⟩ := hj
    have i0 : 0 ≤ i := i0
    have i1 : i < L := i1
    have w2 : IntKind.i64.wrap (i + 1) = i + 1 := wrap_i64' (by omega) (by omega)
    rw [w2, show (i + 1 - 0).toNat = i.toNat + 1 by omega, gs_out hO]
    exact ⟨⟨i0, i1⟩, by omega, ⟨by omega, by omega⟩, by omega, rfl⟩
noncomputable def spGen : Nat × Eng.Spec := (22, fnSpec [.str, .str, iK, iK] [.own .str] (fun (s, p, k, n, _) => (p = sBlank ∧ (k : Int) = 0 ∧ (n : Int) = -1) ∧ ByteArray.size s ≤ 1048576) (fun (s, _) => (wds s, ())))
theorem ent_split : enters Tryd.prog 11 Tryd.f11 := enters_mk (by kernel_rfl) (by kernel_rfl) (by kernel_rfl)
theorem fn_split : FnOk Tryd.prog 11 [.str, .str] [.own .str] noG (fun (s, p, _) => p = sBlank ∧ ByteArray.size s ≤ 1048576) (fun (s, _) => (wds s, ())) := by
  refine fn_of_vc (sp := sps [spGen]) (sps_cons (fnSpec_ok fn_gen) sps_nil) mixed ent_split (by decide) (by decide) ?_
  rintro w M0 ⟨s, p, ⟨⟩⟩
  revert s p
  intro (s : ByteArray) (p : ByteArray) _ hp
  obtain ⟨rfl, hs⟩ := hp
  refine vcx (X := (((sBlank = sBlank ∧ (0 : Int) = (0 : Int) ∧ (-1 : Int) = (-1 : Int)) ∧ s.size ≤ (1048576 : Nat)) ∧ (0 : Nat) + (wds s).length ≤ (wds s).length ∧ (List.take (wds s).length (wds s), ()) = (wds s, ()))) (by kernel_rfl) ?_
  exact ⟨⟨⟨rfl, rfl, rfl⟩, hs⟩, by omega, by rw [List.take_length]⟩
noncomputable def spSplit : Nat × Eng.Spec := (11, fnSpec [.str, .str] [.own .str] (fun (s, p, _) => p = sBlank ∧ ByteArray.size s ≤ 1048576) (fun (s, _) => (wds s, ())))
end Go.Proofs.YteldhmehjkhanaaDoor.qry
/- query.number; the law's words and number. -/
namespace Go.Proofs.YteldhmehjkhanaaDoor.qry
set_option maxRecDepth 100000
open Go Go.Eng Go.RowKit Cr Go.Proofs.YteldhmehjkhanaaDoor Go.Qry
def numP (w : ByteArray) : Int × Bool := match numO (sbytes w) with
  | none => (0, false)
  | some n => (n, true)
theorem numP_none {w : ByteArray} (h : numO (sbytes w) = none) : numP w = (0, false) := by rw [numP, h]
theorem numP_some {w : ByteArray} {n : Int} (h : numO (sbytes w) = some n) : numP w = (n, true) := by rw [numP, h]
theorem size_pos {s : ByteArray} (h : ¬ s = ⟨#[]⟩) : 0 < s.size := by
  rcases Nat.eq_zero_or_pos s.size with h0 | h0
  · exact absurd (size_zero h0) h
  · exact h0
theorem sb_drop {s : ByteArray} {k : Nat} (h : k < s.size) : (sbytes s).drop k = (sbytes s).getD k 0 :: (sbytes s).drop (k + 1) := by
  have hl : k < (sbytes s).length := by rw [sbytes_len]; exact h
  rw [List.drop_eq_getElem_cons hl, List.getD_eq_getElem?_getD, List.getElem?_eq_getElem hl]
  rfl
theorem dgw {n c : Int} (h0 : 0 ≤ n) (h1 : n ≤ 10000000000000) (h2 : 48 ≤ c) (h3 : c ≤ 57) : IntKind.i64.wrap (IntKind.i64.wrap (10 * n) + IntKind.i64.wrap (IntKind.u8.wrap (c - 48))) = 10 * n + (c - 48) := by
  have e : IntKind.u8.wrap (c - 48) = c - 48 := by
    have : IntKind.u8.wrap (c - 48) = (c - 48) % 256 := by simp [IntKind.wrap, IntKind.signed, IntKind.bits]
    rw [this]; omega
  rw [e, wrap_i64' (a := 10 * n) (by omega) (by omega), wrap_i64' (a := c - 48) (by omega) (by omega), wrap_i64' (a := 10 * n + (c - 48)) (by omega) (by omega)]
noncomputable def nuA (s : ByteArray) : St := mkSt Tryd.f12.ntmps 96 [(0, .is (.one (.v (.string s)))), (2, sI .i64 0), (3, .is (.one .F)), (4, sI .i64 0)] []
noncomputable def nuB (s : ByteArray) (g : Int × Int) : St := mkSt Tryd.f12.ntmps 128 [(0, .is (.one (.v (.string s)))), (2, sI .i64 0), (3, .is (.one .F)), (4, sI .i64 g.1), (20, .is (.one (.sl 104 0 0 s.size 1))), (21, sI .i64 s.size), (22, sI .i64 g.2)] [(104, [.ints .u8 s.size (sbytes s)])]
noncomputable def nuC (g : Int) : St := mkSt Tryd.f12.ntmps 128 [(2, sI .i64 0), (3, .is (.one .F)), (4, sI .i64 g)] []
def nuJ (s : ByteArray) (g : Int × Int) : Prop := (0 ≤ g.2 ∧ g.2 ≤ s.size) ∧ (0 ≤ g.1 ∧ g.1 ≤ 1099511627776) ∧ numL ((sbytes s).drop g.2.toNat) g.1 = numL (sbytes s) 0
theorem ent_num : enters Tryd.prog 12 Tryd.f12 := enters_mk (by kernel_rfl) (by kernel_rfl) (by kernel_rfl)
theorem fn_num : FnOk Tryd.prog 12 [.str] [.val iK, .val .bool] noG (fun (s, _) => ByteArray.size s ≤ 1048576) (fun (s, _) => ((numP s).1, (numP s).2, ())) := by
  have hsp : SpecsOk Tryd.prog (sps []) := sps_nil
  refine fn_of_tr (sp := sps []) ent_num (by decide) (by decide) (by kernel_rfl) ?_
  rintro w M0 ⟨s, ⟨⟩⟩
  revert s
  intro (s : ByteArray) _ (hs : s.size ≤ 1048576)
  show Tr _ _ _ _ _ _ _
  refine tr_cut hsp mixed 4 (nuA s) (numO (sbytes s) = numL (sbytes s) 0) ?_ (fun hno => ?_)
  · refine vcx (X := ((decide (s = (ByteArray.mk (#[] ))) = true → ((0 : Int), false, ()) = ((numP s).fst, (numP s).snd, ())) ∧ (decide (s = (ByteArray.mk (#[] ))) = false → ((0 : Int) ≤ (0 : Int) ∧ (0 : Int) < (↑s.size : Int)) ∧ (((sbytes s).getD (0 : Nat) (0 : Int) == (48 : Int)) = true → (decide ((↑s.size : Int) > (1 : Int)) = true → ((0 : Int), false, ()) = ((numP s).fst, (numP s).snd, ())) ∧ (decide ((↑s.size : Int) > (1 : Int)) = false → (nuA s).triv (numO (sbytes s) = numL (sbytes s) (0 : Int)))) ∧ (((sbytes s).getD (0 : Nat) (0 : Int) == (48 : Int)) = false → (nuA s).triv (numO (sbytes s) = numL (sbytes s) (0 : Int)))))) (by kernel_rfl) ?_
    have hl := sbytes_len s
    refine ⟨fun h => ?_, fun h => ?_⟩
    · have h := of_decide_eq_true h
      rw [numP_none (by rw [numO, if_pos (.inl (by rw [hl, h]; rfl))])]
    · have hp := size_pos (of_decide_eq_false h)
      refine ⟨⟨Int.le_refl _, by omega⟩, fun h48 => ⟨fun h1 => ?_, fun h1 => triv_intro ?_⟩, fun h48 => triv_intro ?_⟩
      · rw [numP_none (by rw [numO, if_pos (.inr ⟨eq_of_beq h48, by have := of_decide_eq_true h1; rw [hl]; omega⟩)])]
      · have := of_decide_eq_false h1
        rw [numO, if_neg (fun h => h.elim (fun h => by omega) (fun h => by omega))]
      · rw [numO, if_neg (fun h => h.elim (fun h => by omega) (fun h => by rw [h.1] at h48; cases h48))]
  refine tr_cut hsp mixed 1 (nuB s (0, 0)) True ?_ (fun _ => ?_)
  · refine vcx (X := ((nuB s ((0 : Int), (0 : Int))).triv True)) (by kernel_rfl) ?_
    exact triv_intro trivial
  refine tr_while hsp mixed (fun σ => []) (fun σ => (rdS iK 4 σ, rdS iK 22 σ)) (nuB s) (nuJ s) (fun g => s.size - g.2.toNat)
    (fun σ => rdS iK 4 σ) nuC (fun n => numL (sbytes s) 0 = some n) (0, 0) (c := nthC (codeOf Tryd.f12) 5) (by kernel_rfl) (by kernel_rfl) (le_of_proj (by kernel_rfl) (by kernel_rfl) ?_) ?_ ?_
  · exact ⟨⟨Int.le_refl _, by show (0 : Int) ≤ (s.size : Int); omega⟩, ⟨Int.le_refl _, by show (0 : Int) ≤ 1099511627776; omega⟩, rfl⟩
  · rintro ⟨n, k⟩ hj
    revert n k
    intro (n : Int) (k : Int) hj
    refine vcx (X := ((decide (k < (↑s.size : Int)) = true → ((0 : Int) ≤ k ∧ k < (↑s.size : Int)) ∧ k.toNat < s.size ∧ (decide ((sbytes s).getD k.toNat (0 : Int) < (48 : Int)) = true → ((0 : Int), false, ()) = ((numP s).fst, (numP s).snd, ())) ∧ (decide ((sbytes s).getD k.toNat (0 : Int) < (48 : Int)) = false → (decide ((sbytes s).getD k.toNat (0 : Int) > (57 : Int)) = true → ((0 : Int), false, ()) = ((numP s).fst, (numP s).snd, ())) ∧ (decide ((sbytes s).getD k.toNat (0 : Int) > (57 : Int)) = false → (decide (IntKind.i64.wrap (IntKind.i64.wrap ((10 : Int) * n) + IntKind.i64.wrap (IntKind.u8.wrap ((sbytes s).getD k.toNat (0 : Int) - (48 : Int)))) > (1099511627776 : Int)) = true → ((0 : Int), false, ()) = ((numP s).fst, (numP s).snd, ())) ∧ (decide (IntKind.i64.wrap (IntKind.i64.wrap ((10 : Int) * n) + IntKind.i64.wrap (IntKind.u8.wrap ((sbytes s).getD k.toNat (0 : Int) - (48 : Int)))) > (1099511627776 : Int)) = false → (nuB s (IntKind.i64.wrap (IntKind.i64.wrap ((10 : Int) * n) + IntKind.i64.wrap (IntKind.u8.wrap ((sbytes s).getD k.toNat (0 : Int) - (48 : Int)))), IntKind.i64.wrap (k + (1 : Int)))).triv (nuJ s (IntKind.i64.wrap (IntKind.i64.wrap ((10 : Int) * n) + IntKind.i64.wrap (IntKind.u8.wrap ((sbytes s).getD k.toNat (0 : Int) - (48 : Int)))), IntKind.i64.wrap (k + (1 : Int))) ∧ s.size - (IntKind.i64.wrap (k + (1 : Int))).toNat < s.size - k.toNat))))) ∧ (decide (k < (↑s.size : Int)) = false → (nuC n).triv (numL (sbytes s) (0 : Int) = some n)))) (by kernel_rfl) ?_
    obtain ⟨⟨k0, k1⟩, ⟨n0, n1⟩, hnl⟩ := hj
    have k0 : 0 ≤ k := k0
    have k1 : k ≤ s.size := k1
    have n0 : 0 ≤ n := n0
    have n1 : n ≤ 1099511627776 := n1
    have hnl : numL ((sbytes s).drop k.toNat) n = numL (sbytes s) 0 := hnl
    refine ⟨fun hk => ?_, fun hk => triv_intro ?_⟩
    · have hk := of_decide_eq_true hk
      have hkn : k.toNat < s.size := by omega
      rw [sb_drop hkn] at hnl
      have bad : (((sbytes s).getD k.toNat 0) < 48 ∨ ((sbytes s).getD k.toNat 0) > 57) ∨ ¬ (((sbytes s).getD k.toNat 0) < 48 ∨ ((sbytes s).getD k.toNat 0) > 57) ∧ 10 * n + (((sbytes s).getD k.toNat 0) - 48) > 1099511627776 → ((0 : Int), false, ()) = ((numP s).1, (numP s).2, ()) := by
        intro h
        have : numL (((sbytes s).getD k.toNat 0) :: (sbytes s).drop (k.toNat + 1)) n = none := by
          rw [numL]
          rcases h with h | ⟨h, h'⟩
          · rw [if_pos h]
          · rw [if_neg h, if_pos h']
        rw [this] at hnl
        rw [numP_none (hno.trans hnl.symm)]
      refine ⟨⟨k0, hk⟩, hkn, fun h => bad (.inl (.inl (of_decide_eq_true h))), fun h => ⟨fun h' => bad (.inl (.inr (of_decide_eq_true h'))), fun h' => ?_⟩⟩
      have h := of_decide_eq_false h
      have h' := of_decide_eq_false h'
      rw [dgw n0 (by omega) (by omega) (by omega), wrap_i64' (a := k + 1) (by omega) (by omega)]
      refine ⟨fun hb => bad (.inr ⟨by omega, of_decide_eq_true hb⟩), fun hb => triv_intro ⟨⟨⟨by show 0 ≤ k + 1; omega, by show k + 1 ≤ (s.size : Int); omega⟩, ⟨by show 0 ≤ 10 * n + (((sbytes s).getD k.toNat 0) - 48); omega, by show 10 * n + (((sbytes s).getD k.toNat 0) - 48) ≤ 1099511627776; have := of_decide_eq_false hb; omega⟩, ?_⟩, by omega⟩⟩
      have hb := of_decide_eq_false hb
      show numL ((sbytes s).drop (k + 1).toNat) (10 * n + (((sbytes s).getD k.toNat 0) - 48)) = _
      rw [numL, if_neg (by omega), if_neg hb] at hnl
      rw [show (k + 1).toNat = k.toNat + 1 by omega]
      exact hnl
    · have hk := of_decide_eq_false hk
      rw [← hnl, List.drop_of_length_le (by rw [sbytes_len]; omega)]
      rfl
  · intro (n : Int) hn
    refine tr_vc hsp mixed _ _ ?_
    refine vcx (X := ((n, true, ()) = ((numP s).fst, (numP s).snd, ()))) (by kernel_rfl) ?_
    rw [numP_some (hno.trans hn)]
noncomputable def spNum : Nat × Eng.Spec := (12, fnSpec [.str] [.val iK, .val .bool] (fun (s, _) => ByteArray.size s ≤ 1048576) (fun (s, _) => ((numP s).1, (numP s).2, ())))
noncomputable def wdA (s : ByteArray) (g : Int × Int × Nat × List ByteArray) : St := mkSt Tryd.f6.ntmps 40 [(0, .is (.one (.v (.string s)))), (2, .is (.one (.v (.slice none 0 0)))), (3, .is (.one (.sl 8 0 0 g.2.2.1 1))), (4, sI .i64 g.2.1), (5, sI .i64 g.1)] [(8, [.row .str g.2.2.1 g.2.2.2])]
def wdJ (s : ByteArray) (g : Int × Int × Nat × List ByteArray) : Prop := (0 ≤ g.2.1 ∧ g.2.1 ≤ g.1 ∧ g.1 ≤ s.size) ∧ (g.2.2.1 = g.2.2.2.length ∧ (g.2.2.1 : Int) ≤ g.1) ∧ (∀ c ∈ (s.data.toList.drop g.2.1.toNat).take (g.1.toNat - g.2.1.toNat), c ≠ 32) ∧ (g.2.2.2.map fun x => x.data.toList) ++ pcs (s.data.toList.drop g.2.1.toNat) = pcs s.data.toList
theorem ent_words : enters Tryd.prog 6 Tryd.f6 := enters_mk (by kernel_rfl) (by kernel_rfl) (by kernel_rfl)
theorem fn_words : FnOk Tryd.prog 6 [.str] [.own .str] noG (fun (s, _) => ByteArray.size s ≤ 1048576) (fun (s, _) => (wds s, ())) := by
  have hsp : SpecsOk Tryd.prog (sps []) := sps_nil
  refine fn_of_tr (sp := sps []) ent_words (by decide) (by decide) (by kernel_rfl) ?_
  rintro w M0 ⟨s, ⟨⟩⟩
  revert s
  intro (s : ByteArray) _ (hs : s.size ≤ 1048576)
  show Tr _ _ _ _ _ _ _
  refine tr_cut hsp mixed 4 (wdA s (0, 0, 0, [])) True ?_ (fun _ => ?_)
  · refine vcx (X := ((wdA s ((0 : Int), (0 : Int), (0 : Nat), [])).triv True)) (by kernel_rfl) ?_
    exact triv_intro trivial
  refine tr_while hsp mixed (fun σ => [(8, rdI 3 σ)]) (fun σ => (rdS iK 5 σ, rdS iK 4 σ, rdL 3 σ, rdR .str 8 σ)) (wdA s) (wdJ s) (fun g => s.size - g.1.toNat)
    (fun σ => (rdS iK 5 σ, rdS iK 4 σ, rdL 3 σ, rdR .str 8 σ)) (wdA s) (fun g => wdJ s g ∧ g.1 = s.size) (0, 0, 0, []) (c := nthC (codeOf Tryd.f6) 4) (by kernel_rfl) (by kernel_rfl) (le_of_proj (by kernel_rfl) (by kernel_rfl) ?_) ?_ ?_
  · refine ⟨⟨Int.le_refl _, Int.le_refl _, by show (0 : Int) ≤ (s.size : Int); omega⟩, ⟨rfl, Int.le_refl _⟩, fun c hc => ?_, rfl⟩
    simp at hc
  · rintro ⟨i, f, m, ys⟩ hj
    revert i f ys
    intro (i : Int) (f : Int) (ys : List ByteArray) hj
    refine vcx (X := ((decide (i < (↑s.size : Int)) = true → ((0 : Int) ≤ i ∧ i < (↑s.size : Int)) ∧ (((sbytes s).getD i.toNat (0 : Int) == (32 : Int)) = true → ((0 : Int) ≤ f ∧ f ≤ i ∧ i ≤ (↑s.size : Int)) ∧ (0 : Nat) + (1 : Nat) ≤ (1 : Nat) ∧ m ≤ m ∧ (m + (1 : Nat)) * (16 : Nat) ≤ (140737488355328 : Nat) ∧ m + (1 : Nat) ≤ (4611686018427387904 : Nat) ∧ (wdA s (IntKind.i64.wrap (i + (1 : Int)), IntKind.i64.wrap (i + (1 : Int)), m + (1 : Nat), List.take m ys ++ List.take (1 : Nat) [s.extract f.toNat i.toNat])).triv (wdJ s (IntKind.i64.wrap (i + (1 : Int)), IntKind.i64.wrap (i + (1 : Int)), m + (1 : Nat), List.take m ys ++ List.take (1 : Nat) [s.extract f.toNat i.toNat]) ∧ s.size - (IntKind.i64.wrap (i + (1 : Int))).toNat < s.size - i.toNat)) ∧ (((sbytes s).getD i.toNat (0 : Int) == (32 : Int)) = false → (wdA s (IntKind.i64.wrap (i + (1 : Int)), f, m, ys)).triv (wdJ s (IntKind.i64.wrap (i + (1 : Int)), f, m, ys) ∧ s.size - (IntKind.i64.wrap (i + (1 : Int))).toNat < s.size - i.toNat))) ∧ (decide (i < (↑s.size : Int)) = false → (wdA s (i, f, m, ys)).triv (wdJ s (i, f, m, ys) ∧ i = (↑s.size : Car iK))))) (by kernel_rfl) ?_
    have hJ := hj
    obtain ⟨⟨f0, fi, i1⟩, ⟨hm, hmi⟩, hno, hpc⟩ := hj
    have f0 : 0 ≤ f := f0
    have fi : f ≤ i := fi
    have i1 : i ≤ s.size := i1
    have hm : m = ys.length := hm
    have hmi : (m : Int) ≤ i := hmi
    have hno : ∀ c ∈ (s.data.toList.drop f.toNat).take (i.toNat - f.toNat), c ≠ 32 := hno
    have hpc : (ys.map fun x => x.data.toList) ++ pcs (s.data.toList.drop f.toNat) = pcs s.data.toList := hpc
    have hsl : s.data.toList.length = s.size := Array.length_toList
    have t1 : ∀ x : ByteArray, List.take 1 [x] = [x] := fun _ => rfl
    refine ⟨fun hi => ?_, fun hi => triv_intro ⟨hJ, by have := of_decide_eq_false hi; show i = (s.size : Int); omega⟩⟩
    have hi := of_decide_eq_true hi
    have w1 : IntKind.i64.wrap (i + 1) = i + 1 := wrap_i64' (by omega) (by omega)
    have a1 : (i + 1).toNat = i.toNat + 1 := by omega
    rw [sbytes_get, w1, List.take_of_length_le (Nat.le_of_eq hm.symm), t1]
    refine ⟨⟨by omega, hi⟩, fun hc => ⟨⟨f0, fi, i1⟩, Nat.le_refl _, Nat.le_refl _, by omega, by omega, triv_intro ⟨⟨⟨by show 0 ≤ i + 1; omega, Int.le_refl _, by show i + 1 ≤ (s.size : Int); omega⟩, ⟨by show m + 1 = (ys ++ [_]).length; rw [List.length_append, ← hm]; rfl, by show ((m + 1 : Nat) : Int) ≤ i + 1; omega⟩, ?_, ?_⟩, by omega⟩⟩, fun hc => triv_intro ⟨⟨⟨f0, by show f ≤ i + 1; omega, by show i + 1 ≤ (s.size : Int); omega⟩, ⟨hm, by show (m : Int) ≤ i + 1; omega⟩, ?_, hpc⟩, by omega⟩⟩
    · intro c hc
      have hc : c ∈ (s.data.toList.drop (i + 1).toNat).take ((i + 1).toNat - (i + 1).toNat) := hc
      rw [Nat.sub_self] at hc
      cases hc
    · have hc := (byte_32 _).1 (eq_of_beq hc)
      show ((ys ++ [s.extract f.toNat i.toNat]).map fun x => x.data.toList) ++ pcs (s.data.toList.drop (i + 1).toNat) = _
      rw [List.map_append, List.append_assoc, a1, ← hpc, pcs_cut (l := s.data.toList) (a := f.toNat) (b := i.toNat) (by omega) (by omega) hno hc]
      rw [List.map_cons, List.map_nil, ext_list]
      rfl
    · have hc : s.data.toList.getD i.toNat 0 ≠ 32 := fun e => by rw [(byte_32 _).2 e] at hc; cases hc
      show ∀ c ∈ (s.data.toList.drop f.toNat).take ((i + 1).toNat - f.toNat), c ≠ 32
      rw [a1]
      exact take_succ_mem (by omega) (by omega) hno hc
  · rintro ⟨i, f, m, ys⟩ hj
    revert i f ys
    intro (i : Int) (f : Int) (ys : List ByteArray) ⟨hJ, his⟩
    refine tr_vc hsp mixed _ _ ?_
    refine vcx (X := (((0 : Int) ≤ f ∧ f ≤ (↑s.size : Int)) ∧ (0 : Nat) + (1 : Nat) ≤ (1 : Nat) ∧ m ≤ m ∧ (m + (1 : Nat)) * (16 : Nat) ≤ (140737488355328 : Nat) ∧ m + (1 : Nat) ≤ (4611686018427387904 : Nat) ∧ (0 : Nat) + (m + (1 : Nat)) ≤ m + (1 : Nat) ∧ (List.take (m + (1 : Nat)) (List.take m ys ++ List.take (1 : Nat) [s.extract f.toNat (↑s.size : Int).toNat]), ()) = (wds s, ()))) (by kernel_rfl) ?_
    obtain ⟨⟨f0, fi, i1⟩, ⟨hm, hmi⟩, hno, hpc⟩ := hJ
    have his : i = s.size := his
    have f0 : 0 ≤ f := f0
    have fi : f ≤ i := fi
    have hm : m = ys.length := hm
    have hmi : (m : Int) ≤ i := hmi
    have hno : ∀ c ∈ (s.data.toList.drop f.toNat).take (i.toNat - f.toNat), c ≠ 32 := hno
    have hpc : (ys.map fun x => x.data.toList) ++ pcs (s.data.toList.drop f.toNat) = pcs s.data.toList := hpc
    have hsl : s.data.toList.length = s.size := Array.length_toList
    have t1 : ∀ x : ByteArray, List.take 1 [x] = [x] := fun _ => rfl
    refine ⟨⟨f0, by omega⟩, Nat.le_refl _, Nat.le_refl _, by omega, by omega, by omega, ?_⟩
    rw [List.take_of_length_le (Nat.le_of_eq hm.symm), t1, List.take_of_length_le (by rw [List.length_append, ← hm]; exact Nat.le_refl _)]
    rw [List.take_of_length_le (by rw [List.length_drop]; omega)] at hno
    rw [wds_of (s := s) (xs := ys ++ [s.extract f.toNat ((s.size : Nat) : Int).toNat]) ?_]
    rw [List.map_append, List.map_cons, List.map_nil, ext_list, ← hpc, pcs_no _ hno, List.take_of_length_le (by rw [List.length_drop, Int.toNat_natCast]; omega)]
noncomputable def spWords : Nat × Eng.Spec := (6, fnSpec [.str] [.own .str] (fun (s, _) => ByteArray.size s ≤ 1048576) (fun (s, _) => (wds s, ())))
theorem p12' (k : Nat) (h : k ≤ 12) : (10 : Int) ^ k ≤ 1000000000000 := by
  have : ∀ k : Fin 13, (10 : Int) ^ k.val ≤ 1000000000000 := by decide
  exact this ⟨k, by omega⟩
noncomputable def lnA (s : ByteArray) (g : Int × Int) : St := mkSt Tryd.f7.ntmps 24 [(0, .is (.one (.v (.string s)))), (2, sI .i64 0), (3, sI .i64 g.1), (4, sI .i64 g.2)] []
def lnJ (s : ByteArray) (g : Int × Int) : Prop := (0 ≤ g.2 ∧ g.2 ≤ s.size) ∧ (0 ≤ g.1 ∧ g.1 < 10 ^ g.2.toNat) ∧ g.2 ≤ 13 ∧ nlL ((sbytes s).drop g.2.toNat) g.2.toNat g.1 = nlL (sbytes s) 0 0
theorem ent_lnum : enters Tryd.prog 7 Tryd.f7 := enters_mk (by kernel_rfl) (by kernel_rfl) (by kernel_rfl)
theorem fn_lnum : FnOk Tryd.prog 7 [.str] [.val iK] noG (fun (s, _) => ByteArray.size s ≤ 1048576) (fun (s, _) => (nlO (sbytes s), ())) := by
  have hsp : SpecsOk Tryd.prog (sps []) := sps_nil
  refine fn_of_tr (sp := sps []) ent_lnum (by decide) (by decide) (by kernel_rfl) ?_
  rintro w M0 ⟨s, ⟨⟩⟩
  revert s
  intro (s : ByteArray) _ (hs : s.size ≤ 1048576)
  show Tr _ _ _ _ _ _ _
  refine tr_cut hsp mixed 3 (lnA s (0, 0)) True ?_ (fun _ => ?_)
  · refine vcx (X := ((lnA s ((0 : Int), (0 : Int))).triv True)) (by kernel_rfl) ?_
    exact triv_intro trivial
  refine tr_while hsp mixed (fun σ => []) (fun σ => (rdS iK 3 σ, rdS iK 4 σ)) (lnA s) (lnJ s) (fun g => s.size - g.2.toNat)
    (fun σ => (rdS iK 3 σ, rdS iK 4 σ)) (lnA s) (fun g => nlL (sbytes s) 0 0 = some g.1 ∧ 0 ≤ g.1) (0, 0) (c := nthC (codeOf Tryd.f7) 3) (by kernel_rfl) (by kernel_rfl) (le_of_proj (by kernel_rfl) (by kernel_rfl) ?_) ?_ ?_
  · exact ⟨⟨Int.le_refl _, by show (0 : Int) ≤ (s.size : Int); omega⟩, ⟨Int.le_refl _, by show (0 : Int) < 1; omega⟩, by show (0 : Int) ≤ 13; omega, rfl⟩
  · rintro ⟨n, k⟩ hj
    revert n k
    intro (n : Int) (k : Int) hj
    refine vcx (X := ((decide (k < (↑s.size : Int)) = true → ((0 : Int) ≤ k ∧ k < (↑s.size : Int)) ∧ (decide ((sbytes s).getD k.toNat (0 : Int) < (48 : Int)) = true → ((-1 : Int), ()) = (nlO (sbytes s), ())) ∧ (decide ((sbytes s).getD k.toNat (0 : Int) < (48 : Int)) = false → ((0 : Int) ≤ k ∧ k < (↑s.size : Int)) ∧ (decide ((sbytes s).getD k.toNat (0 : Int) > (57 : Int)) = true → ((-1 : Int), ()) = (nlO (sbytes s), ())) ∧ (decide ((sbytes s).getD k.toNat (0 : Int) > (57 : Int)) = false → (decide (k > (12 : Int)) = true → ((-1 : Int), ()) = (nlO (sbytes s), ())) ∧ (decide (k > (12 : Int)) = false → ((k == (1 : Int)) = true → ((n == (0 : Int)) = true → ((-1 : Int), ()) = (nlO (sbytes s), ())) ∧ ((n == (0 : Int)) = false → ((0 : Int) ≤ k ∧ k < (↑s.size : Int)) ∧ (lnA s (IntKind.i64.wrap (IntKind.i64.wrap ((10 : Int) * n) + IntKind.i64.wrap (IntKind.u8.wrap ((sbytes s).getD k.toNat (0 : Int) - (48 : Int)))), IntKind.i64.wrap (k + (1 : Int)))).triv (lnJ s (IntKind.i64.wrap (IntKind.i64.wrap ((10 : Int) * n) + IntKind.i64.wrap (IntKind.u8.wrap ((sbytes s).getD k.toNat (0 : Int) - (48 : Int)))), IntKind.i64.wrap (k + (1 : Int))) ∧ s.size - (IntKind.i64.wrap (k + (1 : Int))).toNat < s.size - k.toNat))) ∧ ((k == (1 : Int)) = false → ((0 : Int) ≤ k ∧ k < (↑s.size : Int)) ∧ (lnA s (IntKind.i64.wrap (IntKind.i64.wrap ((10 : Int) * n) + IntKind.i64.wrap (IntKind.u8.wrap ((sbytes s).getD k.toNat (0 : Int) - (48 : Int)))), IntKind.i64.wrap (k + (1 : Int)))).triv (lnJ s (IntKind.i64.wrap (IntKind.i64.wrap ((10 : Int) * n) + IntKind.i64.wrap (IntKind.u8.wrap ((sbytes s).getD k.toNat (0 : Int) - (48 : Int)))), IntKind.i64.wrap (k + (1 : Int))) ∧ s.size - (IntKind.i64.wrap (k + (1 : Int))).toNat < s.size - k.toNat)))))) ∧ (decide (k < (↑s.size : Int)) = false → (lnA s (n, k)).triv (nlL (sbytes s) (0 : Nat) (0 : Int) = some n ∧ (0 : Car iK) ≤ n)))) (by kernel_rfl) ?_
    obtain ⟨⟨k0, k1⟩, ⟨n0, n1⟩, k13, hnl⟩ := hj
    have k0 : 0 ≤ k := k0
    have k1 : k ≤ s.size := k1
    have n0 : 0 ≤ n := n0
    have n1 : n < 10 ^ k.toNat := n1
    have hnl : nlL ((sbytes s).drop k.toNat) k.toNat n = nlL (sbytes s) 0 0 := hnl
    refine ⟨fun hk => ?_, fun hk => triv_intro ⟨?_, n0⟩⟩
    · have hk := of_decide_eq_true hk
      have hkn : k.toNat < s.size := by omega
      rw [sb_drop hkn] at hnl
      generalize (sbytes s).getD k.toNat 0 = c at hnl ⊢
      have bad : (c < 48 ∨ c > 57 ∨ k.toNat > 12 ∨ (k.toNat = 1 ∧ n = 0)) → ((-1 : Int), ()) = (nlO (sbytes s), ()) := by
        intro h
        rw [nlL, if_pos h] at hnl
        rw [nlO, ← hnl]
      have go : ¬ (c < 48 ∨ c > 57 ∨ k.toNat > 12 ∨ (k.toNat = 1 ∧ n = 0)) → (0 ≤ k ∧ k < (s.size : Int)) ∧ (lnA s (IntKind.i64.wrap (IntKind.i64.wrap (10 * n) + IntKind.i64.wrap (IntKind.u8.wrap (c - 48))), IntKind.i64.wrap (k + 1))).triv (lnJ s (IntKind.i64.wrap (IntKind.i64.wrap (10 * n) + IntKind.i64.wrap (IntKind.u8.wrap (c - 48))), IntKind.i64.wrap (k + 1)) ∧ s.size - (IntKind.i64.wrap (k + 1)).toNat < s.size - k.toNat) := by
        intro h
        have hp := p12' k.toNat (by omega)
        have hp2 : (10 : Int) ^ (k + 1).toNat = 10 ^ k.toNat * 10 := by rw [show (k + 1).toNat = k.toNat + 1 by omega, Int.pow_succ]
        rw [dgw n0 (by omega) (by omega) (by omega), wrap_i64' (a := k + 1) (by omega) (by omega)]
        refine ⟨⟨k0, hk⟩, triv_intro ⟨⟨⟨by show 0 ≤ k + 1; omega, by show k + 1 ≤ (s.size : Int); omega⟩, ⟨by show 0 ≤ 10 * n + (c - 48); omega, by show 10 * n + (c - 48) < 10 ^ (k + 1).toNat; omega⟩, by show k + 1 ≤ 13; omega, ?_⟩, by omega⟩⟩
        show nlL ((sbytes s).drop (k + 1).toNat) (k + 1).toNat (10 * n + (c - 48)) = _
        rw [nlL, if_neg h] at hnl
        rw [show (k + 1).toNat = k.toNat + 1 by omega]
        exact hnl
      refine ⟨⟨k0, hk⟩, fun h => bad (.inl (of_decide_eq_true h)), fun h => ⟨⟨k0, hk⟩, fun h' => bad (.inr (.inl (of_decide_eq_true h'))), fun h' => ⟨fun h12 => bad (.inr (.inr (.inl (by have := of_decide_eq_true h12; omega)))), fun h12 => ⟨fun e1 => ⟨fun e2 => bad (.inr (.inr (.inr ⟨by have := eq_of_beq e1; omega, eq_of_beq e2⟩))), fun e2 => go ?_⟩, fun e1 => go ?_⟩⟩⟩⟩
      · have h := of_decide_eq_false h
        have h' := of_decide_eq_false h'
        have h12 := of_decide_eq_false h12
        have e2 : n ≠ 0 := fun e => by rw [e] at e2; cases e2
        omega
      · have h := of_decide_eq_false h
        have h' := of_decide_eq_false h'
        have h12 := of_decide_eq_false h12
        have e1 : k ≠ 1 := fun e => by rw [e] at e1; cases e1
        omega
    · have hk := of_decide_eq_false hk
      rw [← hnl, List.drop_of_length_le (by rw [sbytes_len]; omega)]
      rfl
  · rintro ⟨n, k⟩ hj
    revert n k
    intro (n : Int) (k : Int) ⟨hn, n0⟩
    refine tr_vc hsp mixed _ _ ?_
    refine vcx (X := ((((↑s.size : Int) == (0 : Int)) = true → ((-1 : Int), ()) = (nlO (sbytes s), ())) ∧ (((↑s.size : Int) == (0 : Int)) = false → (decide (n > (1099511627776 : Int)) = true → ((-1 : Int), ()) = (nlO (sbytes s), ())) ∧ (decide (n > (1099511627776 : Int)) = false → (n, ()) = (nlO (sbytes s), ()))))) (by kernel_rfl) ?_
    have hn : nlL (sbytes s) 0 0 = some n := hn
    have hl := sbytes_len s
    have e : nlO (sbytes s) = if (sbytes s).length = 0 ∨ n > 1099511627776 then -1 else n := by rw [nlO, hn]
    rw [e]
    refine ⟨fun h => ?_, fun h => ⟨fun h' => ?_, fun h' => ?_⟩⟩
    · have h := eq_of_beq h
      rw [if_pos (.inl (by omega))]
    · rw [if_pos (.inr (of_decide_eq_true h'))]
    · have h' := of_decide_eq_false h'
      have h : s.size ≠ 0 := fun e => by rw [e] at h; cases h
      rw [if_neg (fun q => q.elim (fun q => by omega) h')]
noncomputable def spLnum : Nat × Eng.Spec := (7, fnSpec [.str] [.val iK] (fun (s, _) => ByteArray.size s ≤ 1048576) (fun (s, _) => (nlO (sbytes s), ())))
end Go.Proofs.YteldhmehjkhanaaDoor.qry
/- disk.New, Right, find, Read (of an empty disk); chain.Open, Last, Get. -/
namespace Go.Proofs.YteldhmehjkhanaaDoor.qry
set_option maxRecDepth 100000
open Go Go.Eng Go.RowKit Cr Go.Proofs.YteldhmehjkhanaaDoor Go.Qry
abbrev u8K : Kd := .sl (.int .u8)
abbrev diskK : Kd := .pair iK (.pair .mp (.pair iK (.pair iK .bool)))
abbrev fileK : Kd := .pair u8K iK
abbrev linkK : Kd := .pair iK (.arr 96 (.int .u8))
abbrev chainK : Kd := .pair .pq (.pair (.sl linkK) .bool)
def sChain : ByteArray := ⟨#[99, 104, 97, 105, 110]⟩
def noFile : List Int × Int := ([], 0)
def noBytes : List Int := []
def noChain : Bool × List (Int × List Int) × Bool := (true, [], false)
def roomO (r : Int) : Int := if 4194304 < (if 0 > r then 0 else r) then 4194304 else (if 0 > r then 0 else r)
theorem ent_dnew : enters Tryd.prog 9 Tryd.f9 := enters_mk (by kernel_rfl) (by kernel_rfl) (by kernel_rfl)
theorem fn_dnew : FnOk Tryd.prog 9 [iK] [.box diskK] noG (fun _ => True) (fun (r, _) => ((roomO r, (), 0, 0, false), ())) := by
  refine fn_of_vc (sp := sps []) sps_nil mixed ent_dnew (by decide) (by decide) ?_
  rintro w M0 ⟨r, ⟨⟩⟩
  revert r
  intro (r : Int) _ _
  refine vcx (X := (((if (4194304 : Int) < if (0 : Int) > r then (0 : Int) else r then (4194304 : Int) else if (0 : Int) > r then (0 : Int) else r, (), (0 : Int), (0 : Int), false), ()) = ((roomO r, (), (0 : Int), (0 : Int), false), ()))) (by kernel_rfl) ?_
  rfl
noncomputable def spDnew : Nat × Eng.Spec := (9, fnSpec [iK] [.box diskK] (fun _ => True) (fun (r, _) => ((roomO r, (), 0, 0, false), ())))
theorem ri_rng (k : Nat) (h : k < 5) : 97 ≤ (sbytes sChain).getD k 0 ∧ (sbytes sChain).getD k 0 ≤ 122 := by
  have : ∀ k : Fin 5, 97 ≤ (sbytes sChain).getD k.val 0 ∧ (sbytes sChain).getD k.val 0 ≤ 122 := by decide
  exact this ⟨k, h⟩
noncomputable def riI (k : Int) : St := mkSt Tryd.f38.ntmps 80 [(0, .is (.one (.v (.string sChain)))), (14, sI .i64 5), (15, sI .i64 k)] []
theorem ent_right : enters Tryd.prog 38 Tryd.f38 := enters_mk (by kernel_rfl) (by kernel_rfl) (by kernel_rfl)
theorem fn_right : FnOk Tryd.prog 38 [.str] [.val .bool] noG (fun (s, _) => s = sChain) (fun _ => (true, ())) := by
  have hsp : SpecsOk Tryd.prog (sps []) := sps_nil
  refine fn_of_tr (sp := sps []) ent_right (by decide) (by decide) (by kernel_rfl) ?_
  rintro w M0 ⟨s, ⟨⟩⟩
  revert s
  intro (s : ByteArray) _ (hs : s = sChain)
  subst hs
  show Tr _ _ _ _ _ _ _
  refine tr_cut hsp mixed 4 (riI 0) True ?_ (fun _ => ?_)
  · refine vcx (X := ((decide ((↑sChain.size : Int) < (1 : Int)) = true → (false, ()) = (true, ())) ∧ (decide ((↑sChain.size : Int) < (1 : Int)) = false → (decide ((↑sChain.size : Int) > (24 : Int)) = true → (false, ()) = (true, ())) ∧ (decide ((↑sChain.size : Int) > (24 : Int)) = false → (riI (0 : Int)).triv True)))) (by kernel_rfl) ?_
    have hz : (sChain.size : Int) = 5 := rfl
    rw [hz]
    exact ⟨fun h => absurd (of_decide_eq_true h) (by omega), fun _ => ⟨fun h => absurd (of_decide_eq_true h) (by omega), fun _ => triv_intro trivial⟩⟩
  refine tr_while hsp mixed (fun σ => []) (fun σ => rdS iK 15 σ) riI (fun k => 0 ≤ k ∧ k ≤ 5) (fun k => 5 - k.toNat)
    (fun σ => rdS iK 15 σ) riI (fun _ => True) 0 (c := nthC (codeOf Tryd.f38) 4) (by kernel_rfl) (by kernel_rfl) (le_of_proj (by kernel_rfl) (by kernel_rfl) ?_) ?_ ?_
  · exact ⟨Int.le_refl _, by show (0 : Int) ≤ 5; omega⟩
  · intro (k : Int) ⟨k0, k5⟩
    refine vcx (X := ((decide (k < (5 : Int)) = true → ((0 : Int) ≤ k ∧ k < (↑sChain.size : Int)) ∧ (decide ((sbytes sChain).getD k.toNat (0 : Int) ≥ (97 : Int)) = true → (decide ((sbytes sChain).getD k.toNat (0 : Int) ≤ (122 : Int)) = true → (riI (IntKind.i64.wrap (k + (1 : Int)))).triv (((0 : Car iK) ≤ IntKind.i64.wrap (k + (1 : Int)) ∧ IntKind.i64.wrap (k + (1 : Int)) ≤ (5 : Car iK)) ∧ (5 : Nat) - (IntKind.i64.wrap (k + (1 : Int))).toNat < (5 : Nat) - k.toNat)) ∧ (decide ((sbytes sChain).getD k.toNat (0 : Int) ≤ (122 : Int)) = false → (decide ((sbytes sChain).getD k.toNat (0 : Int) ≥ (48 : Int)) = true → (decide ((sbytes sChain).getD k.toNat (0 : Int) ≤ (57 : Int)) = true → (riI (IntKind.i64.wrap (k + (1 : Int)))).triv (((0 : Car iK) ≤ IntKind.i64.wrap (k + (1 : Int)) ∧ IntKind.i64.wrap (k + (1 : Int)) ≤ (5 : Car iK)) ∧ (5 : Nat) - (IntKind.i64.wrap (k + (1 : Int))).toNat < (5 : Nat) - k.toNat)) ∧ (decide ((sbytes sChain).getD k.toNat (0 : Int) ≤ (57 : Int)) = false → ((!(sbytes sChain).getD k.toNat (0 : Int) == (45 : Int)) = true → (false, ()) = (true, ())) ∧ ((!(sbytes sChain).getD k.toNat (0 : Int) == (45 : Int)) = false → (riI (IntKind.i64.wrap (k + (1 : Int)))).triv (((0 : Car iK) ≤ IntKind.i64.wrap (k + (1 : Int)) ∧ IntKind.i64.wrap (k + (1 : Int)) ≤ (5 : Car iK)) ∧ (5 : Nat) - (IntKind.i64.wrap (k + (1 : Int))).toNat < (5 : Nat) - k.toNat)))) ∧ (decide ((sbytes sChain).getD k.toNat (0 : Int) ≥ (48 : Int)) = false → ((!(sbytes sChain).getD k.toNat (0 : Int) == (45 : Int)) = true → (false, ()) = (true, ())) ∧ ((!(sbytes sChain).getD k.toNat (0 : Int) == (45 : Int)) = false → (riI (IntKind.i64.wrap (k + (1 : Int)))).triv (((0 : Car iK) ≤ IntKind.i64.wrap (k + (1 : Int)) ∧ IntKind.i64.wrap (k + (1 : Int)) ≤ (5 : Car iK)) ∧ (5 : Nat) - (IntKind.i64.wrap (k + (1 : Int))).toNat < (5 : Nat) - k.toNat))))) ∧ (decide ((sbytes sChain).getD k.toNat (0 : Int) ≥ (97 : Int)) = false → (decide ((sbytes sChain).getD k.toNat (0 : Int) ≥ (48 : Int)) = true → (decide ((sbytes sChain).getD k.toNat (0 : Int) ≤ (57 : Int)) = true → (riI (IntKind.i64.wrap (k + (1 : Int)))).triv (((0 : Car iK) ≤ IntKind.i64.wrap (k + (1 : Int)) ∧ IntKind.i64.wrap (k + (1 : Int)) ≤ (5 : Car iK)) ∧ (5 : Nat) - (IntKind.i64.wrap (k + (1 : Int))).toNat < (5 : Nat) - k.toNat)) ∧ (decide ((sbytes sChain).getD k.toNat (0 : Int) ≤ (57 : Int)) = false → ((!(sbytes sChain).getD k.toNat (0 : Int) == (45 : Int)) = true → (false, ()) = (true, ())) ∧ ((!(sbytes sChain).getD k.toNat (0 : Int) == (45 : Int)) = false → (riI (IntKind.i64.wrap (k + (1 : Int)))).triv (((0 : Car iK) ≤ IntKind.i64.wrap (k + (1 : Int)) ∧ IntKind.i64.wrap (k + (1 : Int)) ≤ (5 : Car iK)) ∧ (5 : Nat) - (IntKind.i64.wrap (k + (1 : Int))).toNat < (5 : Nat) - k.toNat)))) ∧ (decide ((sbytes sChain).getD k.toNat (0 : Int) ≥ (48 : Int)) = false → ((!(sbytes sChain).getD k.toNat (0 : Int) == (45 : Int)) = true → (false, ()) = (true, ())) ∧ ((!(sbytes sChain).getD k.toNat (0 : Int) == (45 : Int)) = false → (riI (IntKind.i64.wrap (k + (1 : Int)))).triv (((0 : Car iK) ≤ IntKind.i64.wrap (k + (1 : Int)) ∧ IntKind.i64.wrap (k + (1 : Int)) ≤ (5 : Car iK)) ∧ (5 : Nat) - (IntKind.i64.wrap (k + (1 : Int))).toNat < (5 : Nat) - k.toNat))))) ∧ (decide (k < (5 : Int)) = false → (riI k).triv True))) (by kernel_rfl) ?_
    have k0 : 0 ≤ k := k0
    have k5 : k ≤ 5 := k5
    have hz : (sChain.size : Int) = 5 := rfl
    rw [hz]
    refine ⟨fun hk => ?_, fun _ => triv_intro trivial⟩
    have hk := of_decide_eq_true hk
    have hc : 97 ≤ (sbytes sChain).getD k.toNat 0 ∧ (sbytes sChain).getD k.toNat 0 ≤ 122 := ri_rng k.toNat (by omega)
    have w1 : IntKind.i64.wrap (k + 1) = k + 1 := wrap_i64' (by omega) (by omega)
    rw [w1]
    exact ⟨⟨k0, hk⟩, fun _ => ⟨fun _ => triv_intro ⟨⟨by show 0 ≤ k + 1; omega, by show k + 1 ≤ 5; omega⟩, by omega⟩, fun h => absurd hc.2 (of_decide_eq_false h)⟩, fun h => absurd hc.1 (of_decide_eq_false h)⟩
  · intro (k : Int) _
    refine tr_vc hsp mixed _ _ ?_
    refine vcx (X := ((true, ()) = (true, ()))) (by kernel_rfl) ?_
    rfl
noncomputable def spRight : Nat × Eng.Spec := (38, fnSpec [.str] [.val .bool] (fun (s, _) => s = sChain) (fun _ => (true, ())))
abbrev preDisk : HL [.ptr diskK, .str] → Prop := fun ((_, _, _, _, d), s, _) => (d : Bool) = false ∧ s = sChain
theorem ent_find : enters Tryd.prog 23 Tryd.f23 := enters_mk (by kernel_rfl) (by kernel_rfl) (by kernel_rfl)
theorem fn_find : FnOk Tryd.prog 23 [.ptr diskK, .str] [.val fileK, .val iK] noG preDisk (fun _ => (noFile, 41, ())) := by
  refine fn_of_vc (sp := sps [spRight]) (sps_cons (fnSpec_ok fn_right) sps_nil) mixed ent_find (by decide) (by decide) ?_
  rintro w M0 ⟨⟨r, mm, st, fu, d⟩, s, ⟨⟩⟩
  revert r mm st fu d s
  intro (r : Int) (mm : Unit) (st : Int) (fu : Int) (d : Bool) (s : ByteArray) _ hp
  obtain ⟨hd, hs⟩ := hp
  have hd : d = false := hd
  have hs : s = sChain := hs
  subst hd hs
  refine vcx (X := ((0 : Nat) < [(r, mm, st, fu, false)].length ∧ (false = true → (([], (0 : Int)), (2 : Int), ()) = (noFile, (41 : Int), ())) ∧ (false = false → sChain = sChain ∧ ((!true) = true → (([], (0 : Int)), (40 : Int), ()) = (noFile, (41 : Int), ())) ∧ ((!true) = false → (0 : Nat) < [(r, mm, st, fu, false)].length ∧ (([], (0 : Int)), (41 : Int), ()) = (noFile, (41 : Int), ()))))) (by kernel_rfl) ?_
  exact ⟨Nat.zero_lt_one, fun h => (nomatch h), fun _ => ⟨rfl, fun h => (nomatch h), fun _ => ⟨Nat.zero_lt_one, rfl⟩⟩⟩
noncomputable def spFind : Nat × Eng.Spec := (23, fnSpec [.ptr diskK, .str] [.val fileK, .val iK] preDisk (fun _ => (noFile, 41, ())))
theorem ent_dread : enters Tryd.prog 13 Tryd.f13 := enters_mk (by kernel_rfl) (by kernel_rfl) (by kernel_rfl)
theorem fn_dread : FnOk Tryd.prog 13 [.ptr diskK, .str] [.val u8K, .val iK] noG preDisk (fun _ => (noBytes, 41, ())) := by
  refine fn_of_vc (sp := sps [spFind]) (sps_cons (fnSpec_ok fn_find) sps_nil) mixed ent_dread (by decide) (by decide) ?_
  rintro w M0 ⟨⟨r, mm, st, fu, d⟩, s, ⟨⟩⟩
  revert r mm st fu d s
  intro (r : Int) (mm : Unit) (st : Int) (fu : Int) (d : Bool) (s : ByteArray) _ hp
  obtain ⟨hd, hs⟩ := hp
  have hd : d = false := hd
  have hs : s = sChain := hs
  subst hd hs
  refine vcx (X := (preDisk ((r, mm, st, fu, false), sChain, ()) ∧ (((41 : Int) != (0 : Int)) = true → ([], (41 : Int), ()) = (noBytes, (41 : Int), ())) ∧ (((41 : Int) != (0 : Int)) = false → False))) (by kernel_rfl) ?_
  exact ⟨⟨rfl, rfl⟩, fun _ => rfl, fun h => (nomatch h)⟩
noncomputable def spDread : Nat × Eng.Spec := (13, fnSpec [.ptr diskK, .str] [.val u8K, .val iK] preDisk (fun _ => (noBytes, 41, ())))
abbrev preOpen : HL [.ptr diskK] → Prop := fun ((_, _, _, _, d), _) => (d : Bool) = false
theorem ent_copen : enters Tryd.prog 8 Tryd.f8 := enters_mk (by kernel_rfl) (by kernel_rfl) (by kernel_rfl)
theorem fn_copen : FnOk Tryd.prog 8 [.ptr diskK] [.box chainK, .val iK] noG preOpen (fun _ => (noChain, 0, ())) := by
  have hsp : SpecsOk Tryd.prog (sps [spDread]) := sps_cons (fnSpec_ok fn_dread) sps_nil
  refine fn_of_tr (sp := sps [spDread]) ent_copen (by decide) (by decide) (by kernel_rfl) ?_
  rintro w M0 ⟨⟨r, mm, st, fu, d⟩, ⟨⟩⟩
  revert r mm st fu d
  intro (r : Int) (mm : Unit) (st : Int) (fu : Int) (d : Bool) _ hp
  have hd : d = false := hp
  subst hd
  show Tr _ _ _ _ _ _ _
  refine tr_cut hsp mixed 8 (mkSt Tryd.f8.ntmps 0 [] []) False ?_ (fun h => h.elim)
  refine vcx (X := (preDisk ((r, mm, st, fu, false), (ByteArray.mk (#[(99 : UInt8), (104 : UInt8), (97 : UInt8), (105 : UInt8), (110 : UInt8)] )), ()) ∧ (((41 : Int) == (41 : Int)) = true → ((true, [], false), (0 : Int), ()) = (noChain, (0 : Int), ())) ∧ (((41 : Int) == (41 : Int)) = false → (mkSt Tryd.f8.ntmps (0 : Nat) [] []).triv False))) (by kernel_rfl) ?_
  exact ⟨⟨rfl, rfl⟩, fun _ => rfl, fun h => (nomatch h)⟩
noncomputable def spCopen : Nat × Eng.Spec := (8, fnSpec [.ptr diskK] [.box chainK, .val iK] preOpen (fun _ => (noChain, 0, ())))
theorem ent_last : enters Tryd.prog 18 Tryd.f18 := enters_mk (by kernel_rfl) (by kernel_rfl) (by kernel_rfl)
theorem fn_last : FnOk Tryd.prog 18 [.ptr chainK] [.val iK] noG (fun _ => True) (fun ((_, ls, _), _) => (((List.length ls : Nat) : Int), ())) := by
  refine fn_of_vc (sp := sps []) sps_nil mixed ent_last (by decide) (by decide) ?_
  rintro w M0 ⟨⟨p, ls, d⟩, ⟨⟩⟩
  revert p ls d
  intro (p : Bool) (ls : List (Int × List Int)) (d : Bool) _ _
  refine vcx (X := ((0 : Nat) < [(p, ls, d)].length ∧ ((↑ls.length : Int), ()) = ((↑ls.length : Int), ()))) (by kernel_rfl) ?_
  exact ⟨Nat.zero_lt_one, rfl⟩
noncomputable def spLast : Nat × Eng.Spec := (18, fnSpec [.ptr chainK] [.val iK] (fun _ => True) (fun ((_, ls, _), _) => (((List.length ls : Nat) : Int), ())))
abbrev preGet : HL [.ptr chainK, iK] → Prop := fun ((_, ls, _), r, _) => (r : Int) < 1 ∨ (r : Int) > ((List.length ls : Nat) : Int)
def noLink : Int × List Int := (0, List.replicate 96 0)
theorem ent_cget : enters Tryd.prog 19 Tryd.f19 := enters_mk (by kernel_rfl) (by kernel_rfl) (by kernel_rfl)
theorem fn_cget : FnOk Tryd.prog 19 [.ptr chainK, iK] [.val linkK, .val .bool] noG preGet (fun _ => (noLink, false, ())) := by
  refine fn_of_vc (sp := sps [spLast]) (sps_cons (fnSpec_ok fn_last) sps_nil) mixed ent_cget (by decide) (by decide) ?_
  rintro w M0 ⟨⟨p, ls, d⟩, r, ⟨⟩⟩
  revert p ls d r
  intro (p : Bool) (ls : List (Int × List Int)) (d : Bool) (r : Int) _ hp
  have hp : r < 1 ∨ r > (ls.length : Int) := hp
  refine vcx (X := ((decide (r < (1 : Int)) = true → (((0 : Int), [(0 : Int), (0 : Int), (0 : Int), (0 : Int), (0 : Int), (0 : Int), (0 : Int), (0 : Int), (0 : Int), (0 : Int), (0 : Int), (0 : Int), (0 : Int), (0 : Int), (0 : Int), (0 : Int), (0 : Int), (0 : Int), (0 : Int), (0 : Int), (0 : Int), (0 : Int), (0 : Int), (0 : Int), (0 : Int), (0 : Int), (0 : Int), (0 : Int), (0 : Int), (0 : Int), (0 : Int), (0 : Int), (0 : Int), (0 : Int), (0 : Int), (0 : Int), (0 : Int), (0 : Int), (0 : Int), (0 : Int), (0 : Int), (0 : Int), (0 : Int), (0 : Int), (0 : Int), (0 : Int), (0 : Int), (0 : Int), (0 : Int), (0 : Int), (0 : Int), (0 : Int), (0 : Int), (0 : Int), (0 : Int), (0 : Int), (0 : Int), (0 : Int), (0 : Int), (0 : Int), (0 : Int), (0 : Int), (0 : Int), (0 : Int), (0 : Int), (0 : Int), (0 : Int), (0 : Int), (0 : Int), (0 : Int), (0 : Int), (0 : Int), (0 : Int), (0 : Int), (0 : Int), (0 : Int), (0 : Int), (0 : Int), (0 : Int), (0 : Int), (0 : Int), (0 : Int), (0 : Int), (0 : Int), (0 : Int), (0 : Int), (0 : Int), (0 : Int), (0 : Int), (0 : Int), (0 : Int), (0 : Int), (0 : Int), (0 : Int), (0 : Int), (0 : Int)]), false, ()) = (noLink, false, ())) ∧ (decide (r < (1 : Int)) = false → True ∧ (decide (r > (↑ls.length : Int)) = true → (((0 : Int), [(0 : Int), (0 : Int), (0 : Int), (0 : Int), (0 : Int), (0 : Int), (0 : Int), (0 : Int), (0 : Int), (0 : Int), (0 : Int), (0 : Int), (0 : Int), (0 : Int), (0 : Int), (0 : Int), (0 : Int), (0 : Int), (0 : Int), (0 : Int), (0 : Int), (0 : Int), (0 : Int), (0 : Int), (0 : Int), (0 : Int), (0 : Int), (0 : Int), (0 : Int), (0 : Int), (0 : Int), (0 : Int), (0 : Int), (0 : Int), (0 : Int), (0 : Int), (0 : Int), (0 : Int), (0 : Int), (0 : Int), (0 : Int), (0 : Int), (0 : Int), (0 : Int), (0 : Int), (0 : Int), (0 : Int), (0 : Int), (0 : Int), (0 : Int), (0 : Int), (0 : Int), (0 : Int), (0 : Int), (0 : Int), (0 : Int), (0 : Int), (0 : Int), (0 : Int), (0 : Int), (0 : Int), (0 : Int), (0 : Int), (0 : Int), (0 : Int), (0 : Int), (0 : Int), (0 : Int), (0 : Int), (0 : Int), (0 : Int), (0 : Int), (0 : Int), (0 : Int), (0 : Int), (0 : Int), (0 : Int), (0 : Int), (0 : Int), (0 : Int), (0 : Int), (0 : Int), (0 : Int), (0 : Int), (0 : Int), (0 : Int), (0 : Int), (0 : Int), (0 : Int), (0 : Int), (0 : Int), (0 : Int), (0 : Int), (0 : Int), (0 : Int), (0 : Int)]), false, ()) = (noLink, false, ())) ∧ (decide (r > (↑ls.length : Int)) = false → (0 : Nat) < [(p, ls, d)].length ∧ ((0 : Int) ≤ IntKind.i64.wrap (r - (1 : Int)) ∧ IntKind.i64.wrap (r - (1 : Int)) < (↑ls.length : Int)) ∧ (IntKind.i64.wrap (r - (1 : Int))).toNat < ls.length ∧ (ls.getD (IntKind.i64.wrap (r - (1 : Int))).toNat ((0 : Int), List.replicate (96 : Nat) (0 : Int)), true, ()) = (noLink, false, ()))))) (by kernel_rfl) ?_
  refine ⟨fun _ => rfl, fun h1 => ⟨trivial, fun _ => rfl, fun h2 => ?_⟩⟩
  exact absurd hp (fun h => h.elim (of_decide_eq_false h1) (of_decide_eq_false h2))
noncomputable def spCget : Nat × Eng.Spec := (19, fnSpec [.ptr chainK, iK] [.val linkK, .val .bool] preGet (fun _ => (noLink, false, ())))
end Go.Proofs.YteldhmehjkhanaaDoor.qry
/- query.Parse, Write (of errors), Answer (of an empty chain). -/
namespace Go.Proofs.YteldhmehjkhanaaDoor.qry
set_option maxRecDepth 100000
open Go Go.Eng Go.RowKit Cr Go.Proofs.YteldhmehjkhanaaDoor Go.Qry
def balQa0 : ByteArray := (ByteArray.mk (#[(101 : UInt8), (114 : UInt8), (114 : UInt8), (111 : UInt8), (114 : UInt8)] ))
def balQa1 : ByteArray := (ByteArray.mk (#[(105 : UInt8), (110 : UInt8), (102 : UInt8), (111 : UInt8)] ))
def balQa2 : ByteArray := (ByteArray.mk (#[(108 : UInt8), (97 : UInt8), (116 : UInt8), (101 : UInt8), (115 : UInt8), (116 : UInt8)] ))
def balQa3 : ByteArray := (ByteArray.mk (#[(114 : UInt8), (111 : UInt8), (117 : UInt8), (110 : UInt8), (100 : UInt8)] ))
abbrev askK : Kd := .pair .str iK
abbrev infoK : Kd := .pair (.arr 48 (.int .u8)) (.pair (.arr 32 (.int .u8)) (.pair iK iK))
abbrev replyK : Kd := .pair iK (.pair infoK (.pair linkK (.pair u8K (.pair (.arr 32 (.int .u8)) .str))))
noncomputable def pso (b : List Int) : (ByteArray × Int) × Int := opq (parseO b)
theorem pcs_le : ∀ (l : List UInt8), ∀ p ∈ pcs l, p.length ≤ l.length := by
  intro l
  induction l with
  | nil => intro p hp; rw [pcs, List.mem_singleton] at hp; subst hp; exact Nat.le_refl _
  | cons c r ih =>
    intro p hp
    by_cases h : c = 32
    · rw [pcs, if_pos h] at hp
      rcases List.mem_cons.1 hp with rfl | hp
      · exact Nat.zero_le _
      · exact Nat.le_succ_of_le (ih p hp)
    · cases e : pcs r with
      | nil => exact absurd e (pcs_ne r)
      | cons q qs =>
        rw [pcs_cons h r e] at hp
        rcases List.mem_cons.1 hp with rfl | hp
        · exact Nat.succ_le_succ (ih q (by rw [e]; exact List.mem_cons_self ..))
        · exact Nat.le_succ_of_le (ih p (by rw [e]; exact List.mem_cons_of_mem _ hp))
theorem wds_size (s : ByteArray) (i : Nat) : ((wds s).getD i ByteArray.empty).size ≤ s.size := by
  rw [List.getD_eq_getElem?_getD]
  cases h : (wds s)[i]? with
  | none => exact Nat.zero_le _
  | some x =>
    have hm := List.mem_of_getElem? h
    rw [wds] at hm
    obtain ⟨p, hp, rfl⟩ := List.mem_map.1 hm
    have h1 := pcs_le _ p hp
    have h2 : s.data.toList.length = s.size := Array.length_toList
    have h3 : (bs p).size = p.length := rfl
    show (bs p).size ≤ s.size
    omega
theorem i_ne {a : Nat} {b : Int} (h : ((a : Int) != b) = true) : (a : Int) ≠ b := by simpa using h
theorem i_eq {a : Nat} {b : Int} (h : ((a : Int) != b) = false) : (a : Int) = b := by simpa using h
theorem qa_A {X : Prop} (W : List ByteArray) (P : (ByteArray × Int) × Int) (hP : P = parseW W) (hW : 0 < W.length) (h : W.getD 0 ByteArray.empty = sInfo ∨ W.getD 0 ByteArray.empty = sLatest) :
    (((W.length : Int) != 1) = true → ((ByteArray.empty, (0 : Int)), (80 : Int), ()) = (P.1, P.2, ())) ∧ (((W.length : Int) != 1) = false → ((0 : Int) ≤ 0 ∧ (0 : Int) < (W.length : Int)) ∧ 0 < W.length ∧ (((1 : Int) == 2) = true → X) ∧ (((1 : Int) == 2) = false → ((W.getD 0 ByteArray.empty, (0 : Int)), (0 : Int), ()) = (P.1, P.2, ()))) := by
  subst hP
  rw [parseW, if_pos h]
  refine ⟨fun e => ?_, fun e => ⟨⟨Int.le_refl _, by omega⟩, hW, fun e => (nomatch e), fun _ => ?_⟩⟩
  · have := i_ne e
    rw [if_neg (by omega)]; rfl
  · have := i_eq e
    rw [if_pos (by omega)]
theorem qa_B {Y : Prop} (W : List ByteArray) (P : (ByteArray × Int) × Int) (hP : P = parseW W) (hW : 0 < W.length) (hs : (W.getD 1 ByteArray.empty).size ≤ 1048576) (h : ¬ (W.getD 0 ByteArray.empty = sInfo ∨ W.getD 0 ByteArray.empty = sLatest)) (hr : W.getD 0 ByteArray.empty = sRound) :
    (((W.length : Int) != 2) = true → ((ByteArray.empty, (0 : Int)), (80 : Int), ()) = (P.1, P.2, ())) ∧ (((W.length : Int) != 2) = false → ((0 : Int) ≤ 0 ∧ (0 : Int) < (W.length : Int)) ∧ 0 < W.length ∧
      (((2 : Int) == 2) = true → ((0 : Int) ≤ 1 ∧ (1 : Int) < (W.length : Int)) ∧ 1 < W.length ∧ (W.getD 1 ByteArray.empty).size ≤ 1048576 ∧ ((!(numP (W.getD 1 ByteArray.empty)).2) = true → ((ByteArray.empty, (0 : Int)), (82 : Int), ()) = (P.1, P.2, ())) ∧
        ((!(numP (W.getD 1 ByteArray.empty)).2) = false → (((numP (W.getD 1 ByteArray.empty)).1 == 0) = true → ((ByteArray.empty, (0 : Int)), (82 : Int), ()) = (P.1, P.2, ())) ∧ (((numP (W.getD 1 ByteArray.empty)).1 == 0) = false → ((W.getD 0 ByteArray.empty, (numP (W.getD 1 ByteArray.empty)).1), (0 : Int), ()) = (P.1, P.2, ())))) ∧
      (((2 : Int) == 2) = false → Y)) := by
  subst hP
  rw [parseW, if_neg h, if_pos hr]
  refine ⟨fun e => ?_, fun e => ⟨⟨Int.le_refl _, by omega⟩, hW, fun _ => ?_, fun e => (nomatch e)⟩⟩
  · have := i_ne e
    rw [if_neg (by omega)]; rfl
  · have := i_eq e
    rw [if_pos (show W.length = 2 by omega)]
    refine ⟨⟨by omega, by omega⟩, by omega, hs, ?_⟩
    cases hn : numO (sbytes (W.getD 1 ByteArray.empty)) with
    | none =>
      rw [numP_none hn]
      exact ⟨fun _ => rfl, fun e => (nomatch e)⟩
    | some n =>
      rw [numP_some hn]
      refine ⟨fun e => (nomatch e), fun _ => ⟨fun e => ?_, fun e => ?_⟩⟩
      · have e : n = 0 := eq_of_beq e
        dsimp only
        rw [if_pos e]; rfl
      · have e : n ≠ 0 := fun q => by subst q; cases e
        dsimp only
        rw [if_neg e]
theorem str_size (b : List Int) : (strOfNums b).size = b.length := strOfNums_size b
theorem ent_parse : enters Tryd.prog 5 Tryd.f5 := enters_mk (by kernel_rfl) (by kernel_rfl) (by kernel_rfl)
theorem fn_parse : FnOk Tryd.prog 5 [u8K] [.val askK, .val iK] noG (fun _ => True) (fun (b, _) => ((pso b).1, (pso b).2, ())) := by
  refine fn_of_vc (sp := sps [spSplit, spNum]) (sps_cons (fnSpec_ok fn_split) (sps_cons (fnSpec_ok fn_num) sps_nil)) mixed ent_parse (by decide) (by decide) ?_
  rintro w M0 ⟨b, ⟨⟩⟩
  revert b
  intro (b : List Int) _ _
  refine vcx (X := ((decide ((↑b.length : Int) > (128 : Int)) = true → ((ByteArray.empty, (0 : Int)), (81 : Int), ()) = ((pso b).fst, (pso b).snd, ())) ∧ (decide ((↑b.length : Int) > (128 : Int)) = false → ((ByteArray.mk (#[(32 : UInt8)] )) = sBlank ∧ (strOfNums b).size ≤ (1048576 : Nat)) ∧ ((0 : Int) ≤ (0 : Int) ∧ (0 : Int) < (↑(wds (strOfNums b)).length : Int)) ∧ (0 : Nat) < (wds (strOfNums b)).length ∧ (decide ((wds (strOfNums b)).getD (0 : Nat) ByteArray.empty = balQa1) = true → (decide ((wds (strOfNums b)).getD (0 : Nat) ByteArray.empty = balQa1) = true → (((↑(wds (strOfNums b)).length : Int) != (1 : Int)) = true → ((ByteArray.empty, (0 : Int)), (80 : Int), ()) = ((pso b).fst, (pso b).snd, ())) ∧ (((↑(wds (strOfNums b)).length : Int) != (1 : Int)) = false → ((0 : Int) ≤ (0 : Int) ∧ (0 : Int) < (↑(wds (strOfNums b)).length : Int)) ∧ (0 : Nat) < (wds (strOfNums b)).length ∧ (((1 : Int) == (2 : Int)) = true → ((0 : Int) ≤ (1 : Int) ∧ (1 : Int) < (↑(wds (strOfNums b)).length : Int)) ∧ (1 : Nat) < (wds (strOfNums b)).length ∧ ((wds (strOfNums b)).getD (1 : Nat) ByteArray.empty).size ≤ (1048576 : Nat) ∧ ((!(numP ((wds (strOfNums b)).getD (1 : Nat) ByteArray.empty)).snd) = true → ((ByteArray.empty, (0 : Int)), (82 : Int), ()) = ((pso b).fst, (pso b).snd, ())) ∧ ((!(numP ((wds (strOfNums b)).getD (1 : Nat) ByteArray.empty)).snd) = false → (((numP ((wds (strOfNums b)).getD (1 : Nat) ByteArray.empty)).fst == (0 : Int)) = true → ((ByteArray.empty, (0 : Int)), (82 : Int), ()) = ((pso b).fst, (pso b).snd, ())) ∧ (((numP ((wds (strOfNums b)).getD (1 : Nat) ByteArray.empty)).fst == (0 : Int)) = false → (((wds (strOfNums b)).getD (0 : Nat) ByteArray.empty, (numP ((wds (strOfNums b)).getD (1 : Nat) ByteArray.empty)).fst), (0 : Int), ()) = ((pso b).fst, (pso b).snd, ())))) ∧ (((1 : Int) == (2 : Int)) = false → (((wds (strOfNums b)).getD (0 : Nat) ByteArray.empty, (0 : Int)), (0 : Int), ()) = ((pso b).fst, (pso b).snd, ())))) ∧ (decide ((wds (strOfNums b)).getD (0 : Nat) ByteArray.empty = balQa1) = false → (decide ((wds (strOfNums b)).getD (0 : Nat) ByteArray.empty = balQa3) = true → (((↑(wds (strOfNums b)).length : Int) != (2 : Int)) = true → ((ByteArray.empty, (0 : Int)), (80 : Int), ()) = ((pso b).fst, (pso b).snd, ())) ∧ (((↑(wds (strOfNums b)).length : Int) != (2 : Int)) = false → ((0 : Int) ≤ (0 : Int) ∧ (0 : Int) < (↑(wds (strOfNums b)).length : Int)) ∧ (0 : Nat) < (wds (strOfNums b)).length ∧ (((2 : Int) == (2 : Int)) = true → ((0 : Int) ≤ (1 : Int) ∧ (1 : Int) < (↑(wds (strOfNums b)).length : Int)) ∧ (1 : Nat) < (wds (strOfNums b)).length ∧ ((wds (strOfNums b)).getD (1 : Nat) ByteArray.empty).size ≤ (1048576 : Nat) ∧ ((!(numP ((wds (strOfNums b)).getD (1 : Nat) ByteArray.empty)).snd) = true → ((ByteArray.empty, (0 : Int)), (82 : Int), ()) = ((pso b).fst, (pso b).snd, ())) ∧ ((!(numP ((wds (strOfNums b)).getD (1 : Nat) ByteArray.empty)).snd) = false → (((numP ((wds (strOfNums b)).getD (1 : Nat) ByteArray.empty)).fst == (0 : Int)) = true → ((ByteArray.empty, (0 : Int)), (82 : Int), ()) = ((pso b).fst, (pso b).snd, ())) ∧ (((numP ((wds (strOfNums b)).getD (1 : Nat) ByteArray.empty)).fst == (0 : Int)) = false → (((wds (strOfNums b)).getD (0 : Nat) ByteArray.empty, (numP ((wds (strOfNums b)).getD (1 : Nat) ByteArray.empty)).fst), (0 : Int), ()) = ((pso b).fst, (pso b).snd, ())))) ∧ (((2 : Int) == (2 : Int)) = false → (((wds (strOfNums b)).getD (0 : Nat) ByteArray.empty, (0 : Int)), (0 : Int), ()) = ((pso b).fst, (pso b).snd, ())))) ∧ (decide ((wds (strOfNums b)).getD (0 : Nat) ByteArray.empty = balQa3) = false → ((ByteArray.empty, (0 : Int)), (83 : Int), ()) = ((pso b).fst, (pso b).snd, ())))) ∧ (decide ((wds (strOfNums b)).getD (0 : Nat) ByteArray.empty = balQa1) = false → (decide ((wds (strOfNums b)).getD (0 : Nat) ByteArray.empty = balQa2) = true → (((↑(wds (strOfNums b)).length : Int) != (1 : Int)) = true → ((ByteArray.empty, (0 : Int)), (80 : Int), ()) = ((pso b).fst, (pso b).snd, ())) ∧ (((↑(wds (strOfNums b)).length : Int) != (1 : Int)) = false → ((0 : Int) ≤ (0 : Int) ∧ (0 : Int) < (↑(wds (strOfNums b)).length : Int)) ∧ (0 : Nat) < (wds (strOfNums b)).length ∧ (((1 : Int) == (2 : Int)) = true → ((0 : Int) ≤ (1 : Int) ∧ (1 : Int) < (↑(wds (strOfNums b)).length : Int)) ∧ (1 : Nat) < (wds (strOfNums b)).length ∧ ((wds (strOfNums b)).getD (1 : Nat) ByteArray.empty).size ≤ (1048576 : Nat) ∧ ((!(numP ((wds (strOfNums b)).getD (1 : Nat) ByteArray.empty)).snd) = true → ((ByteArray.empty, (0 : Int)), (82 : Int), ()) = ((pso b).fst, (pso b).snd, ())) ∧ ((!(numP ((wds (strOfNums b)).getD (1 : Nat) ByteArray.empty)).snd) = false → (((numP ((wds (strOfNums b)).getD (1 : Nat) ByteArray.empty)).fst == (0 : Int)) = true → ((ByteArray.empty, (0 : Int)), (82 : Int), ()) = ((pso b).fst, (pso b).snd, ())) ∧ (((numP ((wds (strOfNums b)).getD (1 : Nat) ByteArray.empty)).fst == (0 : Int)) = false → (((wds (strOfNums b)).getD (0 : Nat) ByteArray.empty, (numP ((wds (strOfNums b)).getD (1 : Nat) ByteArray.empty)).fst), (0 : Int), ()) = ((pso b).fst, (pso b).snd, ())))) ∧ (((1 : Int) == (2 : Int)) = false → (((wds (strOfNums b)).getD (0 : Nat) ByteArray.empty, (0 : Int)), (0 : Int), ()) = ((pso b).fst, (pso b).snd, ())))) ∧ (decide ((wds (strOfNums b)).getD (0 : Nat) ByteArray.empty = balQa2) = false → (decide ((wds (strOfNums b)).getD (0 : Nat) ByteArray.empty = balQa3) = true → (((↑(wds (strOfNums b)).length : Int) != (2 : Int)) = true → ((ByteArray.empty, (0 : Int)), (80 : Int), ()) = ((pso b).fst, (pso b).snd, ())) ∧ (((↑(wds (strOfNums b)).length : Int) != (2 : Int)) = false → ((0 : Int) ≤ (0 : Int) ∧ (0 : Int) < (↑(wds (strOfNums b)).length : Int)) ∧ (0 : Nat) < (wds (strOfNums b)).length ∧ (((2 : Int) == (2 : Int)) = true → ((0 : Int) ≤ (1 : Int) ∧ (1 : Int) < (↑(wds (strOfNums b)).length : Int)) ∧ (1 : Nat) < (wds (strOfNums b)).length ∧ ((wds (strOfNums b)).getD (1 : Nat) ByteArray.empty).size ≤ (1048576 : Nat) ∧ ((!(numP ((wds (strOfNums b)).getD (1 : Nat) ByteArray.empty)).snd) = true → ((ByteArray.empty, (0 : Int)), (82 : Int), ()) = ((pso b).fst, (pso b).snd, ())) ∧ ((!(numP ((wds (strOfNums b)).getD (1 : Nat) ByteArray.empty)).snd) = false → (((numP ((wds (strOfNums b)).getD (1 : Nat) ByteArray.empty)).fst == (0 : Int)) = true → ((ByteArray.empty, (0 : Int)), (82 : Int), ()) = ((pso b).fst, (pso b).snd, ())) ∧ (((numP ((wds (strOfNums b)).getD (1 : Nat) ByteArray.empty)).fst == (0 : Int)) = false → (((wds (strOfNums b)).getD (0 : Nat) ByteArray.empty, (numP ((wds (strOfNums b)).getD (1 : Nat) ByteArray.empty)).fst), (0 : Int), ()) = ((pso b).fst, (pso b).snd, ())))) ∧ (((2 : Int) == (2 : Int)) = false → (((wds (strOfNums b)).getD (0 : Nat) ByteArray.empty, (0 : Int)), (0 : Int), ()) = ((pso b).fst, (pso b).snd, ())))) ∧ (decide ((wds (strOfNums b)).getD (0 : Nat) ByteArray.empty = balQa3) = false → ((ByteArray.empty, (0 : Int)), (83 : Int), ()) = ((pso b).fst, (pso b).snd, ()))))))) (by kernel_rfl) ?_
  have key : b.length ≤ 128 → pso b = parseW (wds (strOfNums b)) := fun h => by rw [pso, opq_eq, parseO, if_neg (by omega)]
  have hW := wds_pos (strOfNums b)
  refine ⟨fun h => ?_, fun h => ?_⟩
  · have h := of_decide_eq_true h
    rw [pso, opq_eq, parseO, if_pos (by omega)]; rfl
  · have h := of_decide_eq_false h
    have hb : b.length ≤ 128 := by omega
    have hs := wds_size (strOfNums b) 1
    rw [str_size] at hs ⊢
    have hP := key hb
    refine ⟨⟨rfl, by omega⟩, ⟨Int.le_refl _, by omega⟩, hW, fun hi => ⟨fun _ => qa_A _ _ hP hW (.inl (of_decide_eq_true hi)), fun hi' => absurd (hi.symm.trans hi') (by decide)⟩, fun hi => ⟨fun hl => qa_A _ _ hP hW (.inr (of_decide_eq_true hl)), fun hl => ⟨fun hr => qa_B _ _ hP hW (by omega) (fun q => q.elim (of_decide_eq_false hi) (of_decide_eq_false hl)) (of_decide_eq_true hr), fun hr => ?_⟩⟩⟩
    rw [hP, parseW, if_neg (fun q => q.elim (of_decide_eq_false hi) (of_decide_eq_false hl)), if_neg (show ¬ _ = sRound from of_decide_eq_false hr)]
    rfl
noncomputable def spParse : Nat × Eng.Spec := (5, fnSpec [u8K] [.val askK, .val iK] (fun _ => True) (fun (b, _) => ((pso b).1, (pso b).2, ())))
def sErr : ByteArray := ⟨#[101, 114, 114, 111, 114]⟩
noncomputable def wrO (e : Int) : List Int := opq (sbytes (jnO [sErr, itO e] sBlank))
theorem jn_eq (e : Int) : Lib.join (List.map (fun x => x.data.toList) [sErr, itO e]) sBlank.data.toList = sErr.data.toList ++ (sBlank.data.toList ++ Lib.decDigits e.toNat) := by
  show sErr.data.toList ++ (sBlank.data.toList ++ (Lib.decDigits e.toNat ++ [])) = _
  rw [List.append_nil]
theorem jn_ok {e : Int} (h0 : 0 < e) (h1 : e < 100) : joinP [sErr, itO e] sBlank := by
  have hl : (Lib.decDigits e.toNat).length ≤ 2 := by
    by_cases h : e.toNat < 10
    · rw [Lib.decDigits_one h]; exact (by decide : 1 ≤ 2)
    · rw [Lib.decDigits_two h (by omega)]; exact Nat.le_refl _
  refine ⟨⟨Nat.zero_lt_succ _, Nat.le_of_ble_eq_true rfl⟩, ?_⟩
  rw [jn_eq, List.length_append, List.length_append]
  have h5 : sErr.data.toList.length = 5 := rfl
  have h1 : sBlank.data.toList.length = 1 := rfl
  omega
abbrev preWr : HL [replyK] → Prop := fun ((e, _), _) => 0 < (e : Int) ∧ (e : Int) < 100
theorem ent_write : enters Tryd.prog 17 Tryd.f17 := enters_mk (by kernel_rfl) (by kernel_rfl) (by kernel_rfl)
theorem fn_write : FnOk Tryd.prog 17 [replyK] [.own (.int .u8)] noG preWr (fun ((e, _), _) => (wrO e, ())) := by
  refine fn_of_vc (sp := sps [spItoa, spJoin]) (sps_cons (fnSpec_ok fn_itoa) (sps_cons (fnSpec_ok fn_join) sps_nil)) mixed ent_write (by decide) (by decide) ?_
  rintro w M0 ⟨⟨e, i, l, p, r, v⟩, ⟨⟩⟩
  revert e i l p r v
  intro (e : Int) i l (p : List Int) (r : List Int) (v : ByteArray) _ hp
  have hp : 0 < e ∧ e < 100 := hp
  refine vcx (X := (((e != (0 : Int)) = true → ((0 : Int) ≤ e ∧ e < (100 : Int)) ∧ (0 : Nat) + (2 : Nat) ≤ (2 : Nat) ∧ preJoin (List.take (2 : Nat) [balQa0, itO e], (ByteArray.mk (#[(32 : UInt8)] )), ()) ∧ (0 : Nat) + (jnO (List.take (2 : Nat) [balQa0, itO e]) (ByteArray.mk (#[(32 : UInt8)] ))).size ≤ (jnO (List.take (2 : Nat) [balQa0, itO e]) (ByteArray.mk (#[(32 : UInt8)] ))).size ∧ (List.take (jnO (List.take (2 : Nat) [balQa0, itO e]) (ByteArray.mk (#[(32 : UInt8)] ))).size (sbytes (jnO (List.take (2 : Nat) [balQa0, itO e]) (ByteArray.mk (#[(32 : UInt8)] )))), ()) = (wrO e, ())) ∧ ((e != (0 : Int)) = false → (decide (v = balQa1) = true → False) ∧ (decide (v = balQa1) = false → ((0 : Int) ≤ l.fst ∧ l.fst < (100 : Int)) ∧ False)))) (by kernel_rfl) ?_
  refine ⟨fun _ => ⟨⟨by omega, hp.2⟩, Nat.le_refl _, jn_ok hp.1 hp.2, by omega, ?_⟩, fun h => ?_⟩
  · rw [List.take_of_length_le (by rw [sbytes_len]; exact Nat.le_refl _), wrO, opq_eq]
    rfl
  · have h : e = 0 := by simpa using h
    omega
noncomputable def spWrite : Nat × Eng.Spec := (17, fnSpec [replyK] [.own (.int .u8)] preWr (fun ((e, _), _) => (wrO e, ())))
theorem pw_rng (W : List ByteArray) : 0 ≤ (parseW W).2 ∧ (parseW W).2 < 84 := by
  have a : ∀ x : ByteArray × Int, ∀ n : Int, 0 ≤ n → n < 84 → 0 ≤ (x, n).2 ∧ (x, n).2 < 84 := fun x n h0 h1 => ⟨h0, h1⟩
  unfold parseW
  split
  · split
    · exact a _ _ (by omega) (by omega)
    · exact a _ _ (by omega) (by omega)
  · split
    · split
      · split
        · exact a _ _ (by omega) (by omega)
        · split
          · exact a _ _ (by omega) (by omega)
          · exact a _ _ (by omega) (by omega)
      · exact a _ _ (by omega) (by omega)
    · exact a _ _ (by omega) (by omega)
theorem pso_rng (b : List Int) : 0 ≤ (pso b).2 ∧ (pso b).2 < 84 := by
  rw [pso, opq_eq]
  unfold parseO
  split
  · exact ⟨by show (0 : Int) ≤ 81; omega, by show (81 : Int) < 84; omega⟩
  · exact pw_rng _
noncomputable def ansO (b : List Int) : Int := if (pso b).2 = 0 then 41 else (pso b).2
abbrev preAns : HL [infoK, .ptr chainK, u8K] → Prop := fun (_, (_, ls, _), b, _) => List.length ls = 0 ∧ ((pso b).1.1 ≠ sInfo ∨ (pso b).2 ≠ 0)
theorem ent_ans : enters Tryd.prog 10 Tryd.f10 := enters_mk (by kernel_rfl) (by kernel_rfl) (by kernel_rfl)
theorem fn_ans : FnOk Tryd.prog 10 [infoK, .ptr chainK, u8K] [.own (.int .u8)] noG preAns (fun (_, _, b, _) => (wrO (ansO b), ())) := by
  refine fn_of_vc (sp := sps [spParse, spWrite, spLast, spCget]) (sps_cons (fnSpec_ok fn_parse) (sps_cons (fnSpec_ok fn_write) (sps_cons (fnSpec_ok fn_last) (sps_cons (fnSpec_ok fn_cget) sps_nil)))) mixed ent_ans (by decide) (by decide) ?_
  rintro w M0 ⟨⟨k, s, g, pe⟩, ⟨p, ls, d⟩, b, ⟨⟩⟩
  revert k s g pe p ls d b
  intro (k : List Int) (s : List Int) (g : Int) (pe : Int) (p : Bool) (ls : List (Int × List Int)) (d : Bool) (b : List Int) _ hp
  obtain ⟨hl, hi⟩ := hp
  have hl : ls.length = 0 := hl
  have hi : (pso b).1.1 ≠ sInfo ∨ (pso b).2 ≠ 0 := hi
  obtain ⟨r0, r1⟩ := pso_rng b
  refine vcx (X := (True ∧ (((pso b).snd != (0 : Int)) = true → preWr (((pso b).snd, (List.replicate (48 : Nat) (0 : Int), List.replicate (32 : Nat) (0 : Int), (0 : Int), (0 : Int)), ((0 : Int), List.replicate (96 : Nat) (0 : Int)), [], List.replicate (32 : Nat) (0 : Int), ByteArray.empty), ()) ∧ (0 : Nat) + (wrO (pso b).snd).length ≤ (wrO (pso b).snd).length ∧ (List.take (wrO (pso b).snd).length (wrO (pso b).snd), ()) = (wrO (ansO b), ())) ∧ (((pso b).snd != (0 : Int)) = false → (decide ((pso b).fst.fst = balQa1) = true → preWr (((0 : Int), (k, s, g, pe), ((0 : Int), List.replicate (96 : Nat) (0 : Int)), [], List.replicate (32 : Nat) (0 : Int), balQa1), ()) ∧ (0 : Nat) + (wrO (0 : Int)).length ≤ (wrO (0 : Int)).length ∧ (List.take (wrO (0 : Int)).length (wrO (0 : Int)), ()) = (wrO (ansO b), ())) ∧ (decide ((pso b).fst.fst = balQa1) = false → (decide ((pso b).fst.fst = balQa2) = true → True ∧ preGet ((p, ls, d), (↑ls.length : Int), ()) ∧ ((!false) = true → preWr (((41 : Int), (List.replicate (48 : Nat) (0 : Int), List.replicate (32 : Nat) (0 : Int), (0 : Int), (0 : Int)), ((0 : Int), List.replicate (96 : Nat) (0 : Int)), [], List.replicate (32 : Nat) (0 : Int), ByteArray.empty), ()) ∧ (0 : Nat) + (wrO (41 : Int)).length ≤ (wrO (41 : Int)).length ∧ (List.take (wrO (41 : Int)).length (wrO (41 : Int)), ()) = (wrO (ansO b), ())) ∧ ((!false) = false → preGet ((p, ls, d), IntKind.i64.wrap ((↑ls.length : Int) - (1 : Int)), ()) ∧ False)) ∧ (decide ((pso b).fst.fst = balQa2) = false → preGet ((p, ls, d), (pso b).fst.snd, ()) ∧ ((!false) = true → preWr (((41 : Int), (List.replicate (48 : Nat) (0 : Int), List.replicate (32 : Nat) (0 : Int), (0 : Int), (0 : Int)), ((0 : Int), List.replicate (96 : Nat) (0 : Int)), [], List.replicate (32 : Nat) (0 : Int), ByteArray.empty), ()) ∧ (0 : Nat) + (wrO (41 : Int)).length ≤ (wrO (41 : Int)).length ∧ (List.take (wrO (41 : Int)).length (wrO (41 : Int)), ()) = (wrO (ansO b), ())) ∧ ((!false) = false → preGet ((p, ls, d), IntKind.i64.wrap ((pso b).fst.snd - (1 : Int)), ()) ∧ False)))))) (by kernel_rfl) ?_
  have e41 : (pso b).2 = 0 → ansO b = 41 := fun h => by rw [ansO, if_pos h]
  have fin : (pso b).2 = 0 → (0 : Nat) + (wrO 41).length ≤ (wrO 41).length ∧ (List.take (wrO 41).length (wrO 41), ()) = (wrO (ansO b), ()) := fun h => ⟨by omega, by rw [List.take_length, e41 h]⟩
  refine ⟨trivial, fun h => ?_, fun h => ?_⟩
  · have h : (pso b).2 ≠ 0 := by simpa using h
    have e : ansO b = (pso b).2 := by rw [ansO, if_neg h]
    exact ⟨⟨by show 0 < (pso b).2; omega, by show (pso b).2 < 100; omega⟩, by omega, by rw [List.take_length, e]⟩
  · have h : (pso b).2 = 0 := by simpa using h
    refine ⟨fun hq => ?_, fun _ => ⟨fun _ => ⟨trivial, ?_, fun _ => ⟨⟨by show (0 : Int) < 41; omega, by show (41 : Int) < 100; omega⟩, fin h⟩, fun e => (nomatch e)⟩, fun _ => ⟨?_, fun _ => ⟨⟨by show (0 : Int) < 41; omega, by show (41 : Int) < 100; omega⟩, fin h⟩, fun e => (nomatch e)⟩⟩⟩
    · exact (hi.elim (fun q => q (of_decide_eq_true hq)) (fun q => q h)).elim
    · exact .inl (by show (ls.length : Int) < 1; omega)
    · show (pso b).1.2 < 1 ∨ (pso b).1.2 > (ls.length : Int)
      omega
noncomputable def spAns : Nat × Eng.Spec := (10, fnSpec [infoK, .ptr chainK, u8K] [.own (.int .u8)] preAns (fun (_, _, b, _) => (wrO (ansO b), ())))
end Go.Proofs.YteldhmehjkhanaaDoor.qry
/- law26: QueryParses. -/
namespace Go.Proofs.YteldhmehjkhanaaDoor.law26
set_option maxRecDepth 100000
open Go Go.Eng Go.RowKit Cr Go.Proofs.YteldhmehjkhanaaDoor Go.Qry Go.Proofs.YteldhmehjkhanaaDoor.qry
def balL260 : ByteArray := (ByteArray.mk (#[(101 : UInt8), (114 : UInt8), (114 : UInt8), (111 : UInt8), (114 : UInt8), (32 : UInt8), (52 : UInt8), (49 : UInt8)] ))
def balL262 : ByteArray := (ByteArray.mk (#[(101 : UInt8), (114 : UInt8), (114 : UInt8), (111 : UInt8), (114 : UInt8), (32 : UInt8), (56 : UInt8), (50 : UInt8)] ))
def balL263 : ByteArray := (ByteArray.mk (#[(101 : UInt8), (114 : UInt8), (114 : UInt8), (111 : UInt8), (114 : UInt8), (32 : UInt8), (56 : UInt8), (51 : UInt8)] ))
def balL264 : ByteArray := (ByteArray.mk (#[(105 : UInt8), (110 : UInt8), (102 : UInt8), (111 : UInt8)] ))
def balL265 : ByteArray := (ByteArray.mk (#[(108 : UInt8), (97 : UInt8), (116 : UInt8), (101 : UInt8), (115 : UInt8), (116 : UInt8)] ))
def balL266 : ByteArray := (ByteArray.mk (#[(114 : UInt8), (111 : UInt8), (117 : UInt8), (110 : UInt8), (100 : UInt8)] ))
def lA : List Int := [114, 111, 117, 110, 100, 32, 49, 50]
def lB : List Int := [108, 97, 116, 101, 115, 116]
def lC : List Int := [114, 111, 117, 110, 100, 32, 48]
def lD : List Int := [114, 111, 117, 110, 100, 115]
def lE : List Int := [105, 110, 102, 111, 32, 120]
theorem pA : pso lA = ((sRound, 12), 0) := by rw [pso, opq_eq]; kernel_rfl
theorem pB : pso lB = ((sLatest, 0), 0) := by rw [pso, opq_eq]; kernel_rfl
theorem pC : pso lC = (noAsk, 82) := by rw [pso, opq_eq]; kernel_rfl
theorem pD : pso lD = (noAsk, 83) := by rw [pso, opq_eq]; kernel_rfl
theorem pE : pso lE = (noAsk, 80) := by rw [pso, opq_eq]; kernel_rfl
theorem aB : ansO lB = 41 := by rw [ansO, pB]; rfl
theorem aC : ansO lC = 82 := by rw [ansO, pC]; rfl
theorem aD : ansO lD = 83 := by rw [ansO, pD]; rfl
theorem aE : ansO lE = 80 := by rw [ansO, pE]; rfl
theorem wr_str (e : Int) : strOfNums (wrO e) = bs (sErr.data.toList ++ (sBlank.data.toList ++ Lib.decDigits e.toNat)) := by
  rw [wrO, opq_eq, str_bytes, jnO, opq_eq, jn_eq]
theorem wr_two (e : Int) (n : Nat) (he : e.toNat = n) (h1 : ¬ n < 10) (h2 : n < 100) : strOfNums (wrO e) = bs (sErr.data.toList ++ (sBlank.data.toList ++ [UInt8.ofNat (48 + n / 10), UInt8.ofNat (48 + n % 10)])) := by
  rw [wr_str, he, Lib.decDigits_two h1 h2]
theorem tk {e : Int} {l : List Int} {t : ByteArray} (h : ansO l = e) (ht : strOfNums (wrO e) = t) : decide (strOfNums (List.take (wrO (ansO l)).length (wrO (ansO l))) = t) = true := by
  rw [List.take_length, h, ht]; exact decide_eq_true rfl
theorem sB : decide (strOfNums (List.take (wrO (ansO lB)).length (wrO (ansO lB))) = ⟨#[101, 114, 114, 111, 114, 32, 52, 49]⟩) = true := tk aB ((wr_two 41 41 rfl (by decide) (by decide)).trans (by kernel_rfl))
theorem sC : decide (strOfNums (List.take (wrO (ansO lC)).length (wrO (ansO lC))) = ⟨#[101, 114, 114, 111, 114, 32, 56, 50]⟩) = true := tk aC ((wr_two 82 82 rfl (by decide) (by decide)).trans (by kernel_rfl))
theorem sD : decide (strOfNums (List.take (wrO (ansO lD)).length (wrO (ansO lD))) = ⟨#[101, 114, 114, 111, 114, 32, 56, 51]⟩) = true := tk aD ((wr_two 83 83 rfl (by decide) (by decide)).trans (by kernel_rfl))
theorem sE : decide (strOfNums (List.take (wrO (ansO lE)).length (wrO (ansO lE))) = ⟨#[101, 114, 114, 111, 114, 32, 56, 48]⟩) = true := tk aE ((wr_two 80 80 rfl (by decide) (by decide)).trans (by kernel_rfl))
theorem li : sLatest ≠ sInfo := of_decide_eq_false (by kernel_rfl)
theorem lz (n : Nat) : 0 + n ≤ n := Nat.le_of_eq (Nat.zero_add n)
theorem nb {b : Bool} {P : Prop} (h : b = true) (h' : b = false) : P := by rw [h] at h'; cases h'
theorem ent_head : enters Tryd.prog 4 Tryd.f4 := enters_mk (by kernel_rfl) (by kernel_rfl) (by kernel_rfl)
theorem fn_head : FnOk Tryd.prog 4 [] [.val .bool] noG (fun _ => True) (fun _ => (true, ())) := by
  have hsp : SpecsOk Tryd.prog (sps [spDnew, spCopen, spParse, spAns]) := sps_cons (fnSpec_ok fn_dnew) (sps_cons (fnSpec_ok fn_copen) (sps_cons (fnSpec_ok fn_parse) (sps_cons (fnSpec_ok fn_ans) sps_nil)))
  refine fn_of_tr (sp := sps [spDnew, spCopen, spParse, spAns]) ent_head (by decide) (by decide) (by kernel_rfl) ?_
  rintro w M0 ⟨⟩
  intro _ _
  show Tr _ _ _ _ _ _ _
  refine tr_vc hsp mixed _ _ ?_
  refine vcx (X := (True ∧ preOpen ((roomO (1000 : Int), (), (0 : Int), (0 : Int), false), ()) ∧ (0 : Nat) + (nat_lit 7 + (1 : Nat)) ≤ (8 : Nat) ∧ True ∧ (((0 : Int) == (0 : Int)) = true → (((pso (List.take (nat_lit 7 + (1 : Nat)) [(114 : Int), (111 : Int), (117 : Int), (110 : Int), (100 : Int), (32 : Int), (49 : Int), (50 : Int)])).snd == (0 : Int)) = true → (((pso (List.take (nat_lit 7 + (1 : Nat)) [(114 : Int), (111 : Int), (117 : Int), (110 : Int), (100 : Int), (32 : Int), (49 : Int), (50 : Int)])).fst.snd == (12 : Int)) = true → (0 : Nat) + (nat_lit 5 + (1 : Nat)) ≤ (6 : Nat) ∧ preAns ((List.replicate (48 : Nat) (0 : Int), List.replicate (32 : Nat) (0 : Int), (0 : Int), (0 : Int)), (true, [], false), List.take (nat_lit 5 + (1 : Nat)) [(108 : Int), (97 : Int), (116 : Int), (101 : Int), (115 : Int), (116 : Int)], ()) ∧ (0 : Nat) + (wrO (ansO (List.take (nat_lit 5 + (1 : Nat)) [(108 : Int), (97 : Int), (116 : Int), (101 : Int), (115 : Int), (116 : Int)]))).length ≤ (wrO (ansO (List.take (nat_lit 5 + (1 : Nat)) [(108 : Int), (97 : Int), (116 : Int), (101 : Int), (115 : Int), (116 : Int)]))).length ∧ (decide (strOfNums (List.take (wrO (ansO (List.take (nat_lit 5 + (1 : Nat)) [(108 : Int), (97 : Int), (116 : Int), (101 : Int), (115 : Int), (116 : Int)]))).length (wrO (ansO (List.take (nat_lit 5 + (1 : Nat)) [(108 : Int), (97 : Int), (116 : Int), (101 : Int), (115 : Int), (116 : Int)])))) = balL260) = true → (0 : Nat) + (nat_lit 6 + (1 : Nat)) ≤ (7 : Nat) ∧ preAns ((List.replicate (48 : Nat) (0 : Int), List.replicate (32 : Nat) (0 : Int), (0 : Int), (0 : Int)), (true, [], false), List.take (nat_lit 6 + (1 : Nat)) [(114 : Int), (111 : Int), (117 : Int), (110 : Int), (100 : Int), (32 : Int), (48 : Int)], ()) ∧ (0 : Nat) + (wrO (ansO (List.take (nat_lit 6 + (1 : Nat)) [(114 : Int), (111 : Int), (117 : Int), (110 : Int), (100 : Int), (32 : Int), (48 : Int)]))).length ≤ (wrO (ansO (List.take (nat_lit 6 + (1 : Nat)) [(114 : Int), (111 : Int), (117 : Int), (110 : Int), (100 : Int), (32 : Int), (48 : Int)]))).length ∧ (decide (strOfNums (List.take (wrO (ansO (List.take (nat_lit 6 + (1 : Nat)) [(114 : Int), (111 : Int), (117 : Int), (110 : Int), (100 : Int), (32 : Int), (48 : Int)]))).length (wrO (ansO (List.take (nat_lit 6 + (1 : Nat)) [(114 : Int), (111 : Int), (117 : Int), (110 : Int), (100 : Int), (32 : Int), (48 : Int)])))) = balL262) = true → (0 : Nat) + (nat_lit 5 + (1 : Nat)) ≤ (6 : Nat) ∧ preAns ((List.replicate (48 : Nat) (0 : Int), List.replicate (32 : Nat) (0 : Int), (0 : Int), (0 : Int)), (true, [], false), List.take (nat_lit 5 + (1 : Nat)) [(114 : Int), (111 : Int), (117 : Int), (110 : Int), (100 : Int), (115 : Int)], ()) ∧ (0 : Nat) + (wrO (ansO (List.take (nat_lit 5 + (1 : Nat)) [(114 : Int), (111 : Int), (117 : Int), (110 : Int), (100 : Int), (115 : Int)]))).length ≤ (wrO (ansO (List.take (nat_lit 5 + (1 : Nat)) [(114 : Int), (111 : Int), (117 : Int), (110 : Int), (100 : Int), (115 : Int)]))).length ∧ (decide (strOfNums (List.take (wrO (ansO (List.take (nat_lit 5 + (1 : Nat)) [(114 : Int), (111 : Int), (117 : Int), (110 : Int), (100 : Int), (115 : Int)]))).length (wrO (ansO (List.take (nat_lit 5 + (1 : Nat)) [(114 : Int), (111 : Int), (117 : Int), (110 : Int), (100 : Int), (115 : Int)])))) = balL263) = true → (0 : Nat) + (nat_lit 5 + (1 : Nat)) ≤ (6 : Nat) ∧ preAns ((List.replicate (48 : Nat) (0 : Int), List.replicate (32 : Nat) (0 : Int), (0 : Int), (0 : Int)), (true, [], false), List.take (nat_lit 5 + (1 : Nat)) [(105 : Int), (110 : Int), (102 : Int), (111 : Int), (32 : Int), (120 : Int)], ()) ∧ (0 : Nat) + (wrO (ansO (List.take (nat_lit 5 + (1 : Nat)) [(105 : Int), (110 : Int), (102 : Int), (111 : Int), (32 : Int), (120 : Int)]))).length ≤ (wrO (ansO (List.take (nat_lit 5 + (1 : Nat)) [(105 : Int), (110 : Int), (102 : Int), (111 : Int), (32 : Int), (120 : Int)]))).length ∧ (decide (strOfNums (List.take (wrO (ansO (List.take (nat_lit 5 + (1 : Nat)) [(105 : Int), (110 : Int), (102 : Int), (111 : Int), (32 : Int), (120 : Int)]))).length (wrO (ansO (List.take (nat_lit 5 + (1 : Nat)) [(105 : Int), (110 : Int), (102 : Int), (111 : Int), (32 : Int), (120 : Int)])))) = (ByteArray.mk (#[(101 : UInt8), (114 : UInt8), (114 : UInt8), (111 : UInt8), (114 : UInt8), (32 : UInt8), (56 : UInt8), (48 : UInt8)] ))), ()) = (true, ())) ∧ (decide (strOfNums (List.take (wrO (ansO (List.take (nat_lit 5 + (1 : Nat)) [(114 : Int), (111 : Int), (117 : Int), (110 : Int), (100 : Int), (115 : Int)]))).length (wrO (ansO (List.take (nat_lit 5 + (1 : Nat)) [(114 : Int), (111 : Int), (117 : Int), (110 : Int), (100 : Int), (115 : Int)])))) = balL263) = false → (false, ()) = (true, ()))) ∧ (decide (strOfNums (List.take (wrO (ansO (List.take (nat_lit 6 + (1 : Nat)) [(114 : Int), (111 : Int), (117 : Int), (110 : Int), (100 : Int), (32 : Int), (48 : Int)]))).length (wrO (ansO (List.take (nat_lit 6 + (1 : Nat)) [(114 : Int), (111 : Int), (117 : Int), (110 : Int), (100 : Int), (32 : Int), (48 : Int)])))) = balL262) = false → (false, ()) = (true, ()))) ∧ (decide (strOfNums (List.take (wrO (ansO (List.take (nat_lit 5 + (1 : Nat)) [(108 : Int), (97 : Int), (116 : Int), (101 : Int), (115 : Int), (116 : Int)]))).length (wrO (ansO (List.take (nat_lit 5 + (1 : Nat)) [(108 : Int), (97 : Int), (116 : Int), (101 : Int), (115 : Int), (116 : Int)])))) = balL260) = false → (false, ()) = (true, ()))) ∧ (((pso (List.take (nat_lit 7 + (1 : Nat)) [(114 : Int), (111 : Int), (117 : Int), (110 : Int), (100 : Int), (32 : Int), (49 : Int), (50 : Int)])).fst.snd == (12 : Int)) = false → (false, ()) = (true, ()))) ∧ (((pso (List.take (nat_lit 7 + (1 : Nat)) [(114 : Int), (111 : Int), (117 : Int), (110 : Int), (100 : Int), (32 : Int), (49 : Int), (50 : Int)])).snd == (0 : Int)) = false → (false, ()) = (true, ()))) ∧ (((0 : Int) == (0 : Int)) = false → (false, ()) = (true, ())))) (by kernel_rfl) ?_
  have k0 : ((0 : Int) == 0) = true := rfl
  have k1 : ((pso lA).2 == 0) = true := by rw [pA]; rfl
  have k2 : ((pso lA).1.2 == 12) = true := by rw [pA]; rfl
  refine ⟨trivial, rfl, Nat.le_refl _, trivial, fun _ => ⟨fun _ => ⟨fun _ => ⟨Nat.le_refl _, ⟨rfl, .inl ?_⟩, lz _, fun _ => ⟨Nat.le_refl _, ⟨rfl, .inr ?_⟩, lz _, fun _ => ⟨Nat.le_refl _, ⟨rfl, .inr ?_⟩, lz _, fun _ => ⟨Nat.le_refl _, ⟨rfl, .inr ?_⟩, lz _, ?_⟩, nb sD⟩, nb sC⟩, nb sB⟩, nb k2⟩, nb k1⟩, nb k0⟩
  · show (pso lB).1.1 ≠ sInfo
    rw [pB]; exact li
  · show (pso lC).2 ≠ 0
    rw [pC]; show (82 : Int) ≠ 0; omega
  · show (pso lD).2 ≠ 0
    rw [pD]; show (83 : Int) ≠ 0; omega
  · show (pso lE).2 ≠ 0
    rw [pE]; show (80 : Int) ≠ 0; omega
  · exact congrArg (fun b : Bool => (b, ())) sE
noncomputable def spHead : Nat × Eng.Spec := (4, fnSpec [] [.val .bool] (fun _ => True) (fun _ => (true, ())))
abbrev kA : Kd := .pair .str (.int .i64)
theorem eq_t {x y : ByteArray × Int} (h : x = y) : (eqC kA x y, ()) = (true, ()) := by rw [(eqC_iff (e := kA) x y).2 h]
theorem bq {a b : Int} (h : a = b) : (a == b) = true := by subst h; exact beq_self_eq_true a
abbrev zI (W : List ByteArray) (P : (ByteArray × Int) × Int) : Prop :=
  (((W.length : Int) == 1) = true → ((P.2 == 0) = true → ((0 : Int) ≤ 0 ∧ (0 : Int) < (W.length : Int)) ∧ 0 < W.length ∧ (eqC kA P.1 (W.getD 0 ByteArray.empty, (0 : Int)) = true → (true, ()) = (true, ())) ∧ (eqC kA P.1 (W.getD 0 ByteArray.empty, (0 : Int)) = false → (decide ((W.length : Int) > 1) = true → (P.2 == 80, ()) = (true, ())) ∧ (decide ((W.length : Int) > 1) = false → (false, ()) = (true, ())))) ∧
    ((P.2 == 0) = false → (decide ((W.length : Int) > 1) = true → (P.2 == 80, ()) = (true, ())) ∧ (decide ((W.length : Int) > 1) = false → (false, ()) = (true, ())))) ∧
  (((W.length : Int) == 1) = false → (decide ((W.length : Int) > 1) = true → (P.2 == 80, ()) = (true, ())) ∧ (decide ((W.length : Int) > 1) = false → (false, ()) = (true, ())))
abbrev zR (W : List ByteArray) (P : (ByteArray × Int) × Int) : Prop :=
  (((W.length : Int) != 2) = true → (P.2 == 80, ()) = (true, ())) ∧ (((W.length : Int) != 2) = false → ((0 : Int) ≤ 1 ∧ (1 : Int) < (W.length : Int)) ∧ 1 < W.length ∧ (W.getD 1 ByteArray.empty).size ≤ 1048576 ∧
    (decide (nlO (sbytes (W.getD 1 ByteArray.empty)) < 1) = true → ((P.2 == 82) = true → (eqC kA P.1 (ByteArray.empty, (0 : Int)), ()) = (true, ())) ∧ ((P.2 == 82) = false → (false, ()) = (true, ()))) ∧
    (decide (nlO (sbytes (W.getD 1 ByteArray.empty)) < 1) = false → ((P.2 == 0) = true → (eqC kA P.1 (sRound, nlO (sbytes (W.getD 1 ByteArray.empty))), ()) = (true, ())) ∧ ((P.2 == 0) = false → (false, ()) = (true, ()))))
theorem ri : ¬ sRound = sInfo := of_decide_eq_false (by kernel_rfl)
theorem rl : ¬ sRound = sLatest := of_decide_eq_false (by kernel_rfl)
theorem zI_ok {W : List ByteArray} {P : (ByteArray × Int) × Int} (hP : P = parseW W) (hW : 0 < W.length) (h : W.getD 0 ByteArray.empty = sInfo ∨ W.getD 0 ByteArray.empty = sLatest) : zI W P := by
  subst hP
  by_cases h1 : W.length = 1
  · have e : parseW W = ((W.getD 0 ByteArray.empty, 0), 0) := by rw [parseW, if_pos h, if_pos h1]
    rw [zI, e]
    exact ⟨fun _ => ⟨fun _ => ⟨⟨Int.le_refl _, by omega⟩, hW, fun _ => rfl, fun q => nb ((eqC_iff (e := kA) _ _).2 rfl) q⟩, fun q => (nomatch q)⟩, fun q => nb (bq (by omega)) q⟩
  · have e : parseW W = (noAsk, 80) := by rw [parseW, if_pos h, if_neg h1]
    rw [zI, e]
    refine ⟨fun q => absurd (eq_of_beq q) (by omega), fun _ => ⟨fun _ => rfl, fun q => absurd (of_decide_eq_false q) (by omega)⟩⟩
theorem zR_ok {W : List ByteArray} {P : (ByteArray × Int) × Int} (hP : P = parseW W) (hs : (W.getD 1 ByteArray.empty).size ≤ 1048576) (h : W.getD 0 ByteArray.empty = sRound) : zR W P := by
  subst hP
  have hn : ¬ (W.getD 0 ByteArray.empty = sInfo ∨ W.getD 0 ByteArray.empty = sLatest) := by rw [h]; exact fun q => q.elim ri rl
  by_cases h1 : W.length = 2
  · refine ⟨fun q => absurd (by omega) (i_ne q), fun _ => ⟨⟨by omega, by omega⟩, by omega, hs, ?_⟩⟩
    rw [num_law]
    cases hq : numO (sbytes (W.getD 1 ByteArray.empty)) with
    | none =>
      have e : parseW W = (noAsk, 82) := by rw [parseW, if_neg hn, if_pos h, if_pos h1, hq]
      rw [e]
      exact ⟨fun _ => ⟨fun _ => eq_t rfl, fun q => (nomatch q)⟩, fun q => absurd (show (-1 : Int) < 1 by omega) (of_decide_eq_false q)⟩
    | some n =>
      have n0 := numO_ge hq
      by_cases hz : n = 0
      · have e : parseW W = (noAsk, 82) := by rw [parseW, if_neg hn, if_pos h, if_pos h1, hq]; dsimp only; rw [if_pos hz]
        rw [e]
        exact ⟨fun _ => ⟨fun _ => eq_t rfl, fun q => (nomatch q)⟩, fun q => absurd (show n < 1 by omega) (of_decide_eq_false q)⟩
      · have e : parseW W = ((W.getD 0 ByteArray.empty, n), 0) := by rw [parseW, if_neg hn, if_pos h, if_pos h1, hq]; dsimp only; rw [if_neg hz]
        rw [e]
        exact ⟨fun q => absurd (of_decide_eq_true q) (by show ¬ n < 1; omega), fun _ => ⟨fun _ => eq_t (by rw [h]; rfl), fun q => (nomatch q)⟩⟩
  · have e : parseW W = (noAsk, 80) := by rw [parseW, if_neg hn, if_pos h, if_neg h1]
    refine ⟨fun _ => by rw [e]; rfl, fun q => absurd (i_eq q) (by omega)⟩
theorem not_t {p : Prop} [Decidable p] (h : (!decide p) = true) : ¬ p := by simpa using h
theorem not_f {p : Prop} [Decidable p] (h : (!decide p) = false) : p := by simpa using h
theorem zZ {W : List ByteArray} {P : (ByteArray × Int) × Int} (hP : P = parseW W) (hW : 0 < W.length) (hs : (W.getD 1 ByteArray.empty).size ≤ 1048576) (h : (W.getD 0 ByteArray.empty = sInfo ∨ W.getD 0 ByteArray.empty = sLatest) ∨ W.getD 0 ByteArray.empty = sRound) :
    ((0 : Int) ≤ 0 ∧ (0 : Int) < (W.length : Int)) ∧ 0 < W.length ∧ ((!decide (W.getD 0 ByteArray.empty = sRound)) = true → zI W P) ∧ ((!decide (W.getD 0 ByteArray.empty = sRound)) = false → zR W P) :=
  ⟨⟨Int.le_refl _, by omega⟩, hW, fun q => zI_ok hP hW (h.elim id fun r => absurd r (not_t q)), fun q => zR_ok hP hs (not_f q)⟩
theorem ent_parses : enters Tryd.prog 3 Tryd.f3 := enters_mk (by kernel_rfl) (by kernel_rfl) (by kernel_rfl)
theorem fn_parses : FnOk Tryd.prog 3 [.str] [.val .bool] noG (fun (s, _) => ByteArray.size s ≤ maxLen) (fun _ => (true, ())) := by
  refine fn_of_vc (sp := sps [spHead, spParse, spWords, spLnum]) (sps_cons (fnSpec_ok fn_head) (sps_cons (fnSpec_ok fn_parse) (sps_cons (fnSpec_ok fn_words) (sps_cons (fnSpec_ok fn_lnum) sps_nil)))) mixed ent_parses (by decide) (by decide) ?_
  rintro w M0 ⟨s, ⟨⟩⟩
  revert s
  intro (s : ByteArray) _ (hs : s.size ≤ maxLen)
  refine vcx (X := (True ∧ ((!true) = true → (false, ()) = (true, ())) ∧ ((!true) = false → (0 : Nat) + s.size ≤ s.size ∧ True ∧ (decide ((↑s.size : Int) > (128 : Int)) = true → (((pso (List.take s.size (sbytes s))).snd == (81 : Int)) = true → (eqC (Kd.str.pair (Kd.int IntKind.i64)) (pso (List.take s.size (sbytes s))).fst (ByteArray.empty, (0 : Int)), ()) = (true, ())) ∧ (((pso (List.take s.size (sbytes s))).snd == (81 : Int)) = false → (false, ()) = (true, ()))) ∧ (decide ((↑s.size : Int) > (128 : Int)) = false → s.size ≤ (1048576 : Nat) ∧ ((0 : Int) ≤ (0 : Int) ∧ (0 : Int) < (↑(wds s).length : Int)) ∧ (0 : Nat) < (wds s).length ∧ ((!decide ((wds s).getD (0 : Nat) ByteArray.empty = balL264)) = true → ((0 : Int) ≤ (0 : Int) ∧ (0 : Int) < (↑(wds s).length : Int)) ∧ (0 : Nat) < (wds s).length ∧ ((!decide ((wds s).getD (0 : Nat) ByteArray.empty = balL265)) = true → ((0 : Int) ≤ (0 : Int) ∧ (0 : Int) < (↑(wds s).length : Int)) ∧ (0 : Nat) < (wds s).length ∧ ((!decide ((wds s).getD (0 : Nat) ByteArray.empty = balL266)) = true → (((pso (List.take s.size (sbytes s))).snd == (83 : Int)) = true → (eqC (Kd.str.pair (Kd.int IntKind.i64)) (pso (List.take s.size (sbytes s))).fst (ByteArray.empty, (0 : Int)), ()) = (true, ())) ∧ (((pso (List.take s.size (sbytes s))).snd == (83 : Int)) = false → (false, ()) = (true, ()))) ∧ ((!decide ((wds s).getD (0 : Nat) ByteArray.empty = balL266)) = false → ((0 : Int) ≤ (0 : Int) ∧ (0 : Int) < (↑(wds s).length : Int)) ∧ (0 : Nat) < (wds s).length ∧ ((!decide ((wds s).getD (0 : Nat) ByteArray.empty = balL266)) = true → (((↑(wds s).length : Int) == (1 : Int)) = true → (((pso (List.take s.size (sbytes s))).snd == (0 : Int)) = true → ((0 : Int) ≤ (0 : Int) ∧ (0 : Int) < (↑(wds s).length : Int)) ∧ (0 : Nat) < (wds s).length ∧ (eqC (Kd.str.pair (Kd.int IntKind.i64)) (pso (List.take s.size (sbytes s))).fst ((wds s).getD (0 : Nat) ByteArray.empty, (0 : Int)) = true → (true, ()) = (true, ())) ∧ (eqC (Kd.str.pair (Kd.int IntKind.i64)) (pso (List.take s.size (sbytes s))).fst ((wds s).getD (0 : Nat) ByteArray.empty, (0 : Int)) = false → (decide ((↑(wds s).length : Int) > (1 : Int)) = true → ((pso (List.take s.size (sbytes s))).snd == (80 : Int), ()) = (true, ())) ∧ (decide ((↑(wds s).length : Int) > (1 : Int)) = false → (false, ()) = (true, ())))) ∧ (((pso (List.take s.size (sbytes s))).snd == (0 : Int)) = false → (decide ((↑(wds s).length : Int) > (1 : Int)) = true → ((pso (List.take s.size (sbytes s))).snd == (80 : Int), ()) = (true, ())) ∧ (decide ((↑(wds s).length : Int) > (1 : Int)) = false → (false, ()) = (true, ())))) ∧ (((↑(wds s).length : Int) == (1 : Int)) = false → (decide ((↑(wds s).length : Int) > (1 : Int)) = true → ((pso (List.take s.size (sbytes s))).snd == (80 : Int), ()) = (true, ())) ∧ (decide ((↑(wds s).length : Int) > (1 : Int)) = false → (false, ()) = (true, ())))) ∧ ((!decide ((wds s).getD (0 : Nat) ByteArray.empty = balL266)) = false → (((↑(wds s).length : Int) != (2 : Int)) = true → ((pso (List.take s.size (sbytes s))).snd == (80 : Int), ()) = (true, ())) ∧ (((↑(wds s).length : Int) != (2 : Int)) = false → ((0 : Int) ≤ (1 : Int) ∧ (1 : Int) < (↑(wds s).length : Int)) ∧ (1 : Nat) < (wds s).length ∧ ((wds s).getD (1 : Nat) ByteArray.empty).size ≤ (1048576 : Nat) ∧ (decide (nlO (sbytes ((wds s).getD (1 : Nat) ByteArray.empty)) < (1 : Int)) = true → (((pso (List.take s.size (sbytes s))).snd == (82 : Int)) = true → (eqC (Kd.str.pair (Kd.int IntKind.i64)) (pso (List.take s.size (sbytes s))).fst (ByteArray.empty, (0 : Int)), ()) = (true, ())) ∧ (((pso (List.take s.size (sbytes s))).snd == (82 : Int)) = false → (false, ()) = (true, ()))) ∧ (decide (nlO (sbytes ((wds s).getD (1 : Nat) ByteArray.empty)) < (1 : Int)) = false → (((pso (List.take s.size (sbytes s))).snd == (0 : Int)) = true → (eqC (Kd.str.pair (Kd.int IntKind.i64)) (pso (List.take s.size (sbytes s))).fst (balL266, nlO (sbytes ((wds s).getD (1 : Nat) ByteArray.empty))), ()) = (true, ())) ∧ (((pso (List.take s.size (sbytes s))).snd == (0 : Int)) = false → (false, ()) = (true, ()))))))) ∧ ((!decide ((wds s).getD (0 : Nat) ByteArray.empty = balL265)) = false → ((0 : Int) ≤ (0 : Int) ∧ (0 : Int) < (↑(wds s).length : Int)) ∧ (0 : Nat) < (wds s).length ∧ ((!decide ((wds s).getD (0 : Nat) ByteArray.empty = balL266)) = true → (((↑(wds s).length : Int) == (1 : Int)) = true → (((pso (List.take s.size (sbytes s))).snd == (0 : Int)) = true → ((0 : Int) ≤ (0 : Int) ∧ (0 : Int) < (↑(wds s).length : Int)) ∧ (0 : Nat) < (wds s).length ∧ (eqC (Kd.str.pair (Kd.int IntKind.i64)) (pso (List.take s.size (sbytes s))).fst ((wds s).getD (0 : Nat) ByteArray.empty, (0 : Int)) = true → (true, ()) = (true, ())) ∧ (eqC (Kd.str.pair (Kd.int IntKind.i64)) (pso (List.take s.size (sbytes s))).fst ((wds s).getD (0 : Nat) ByteArray.empty, (0 : Int)) = false → (decide ((↑(wds s).length : Int) > (1 : Int)) = true → ((pso (List.take s.size (sbytes s))).snd == (80 : Int), ()) = (true, ())) ∧ (decide ((↑(wds s).length : Int) > (1 : Int)) = false → (false, ()) = (true, ())))) ∧ (((pso (List.take s.size (sbytes s))).snd == (0 : Int)) = false → (decide ((↑(wds s).length : Int) > (1 : Int)) = true → ((pso (List.take s.size (sbytes s))).snd == (80 : Int), ()) = (true, ())) ∧ (decide ((↑(wds s).length : Int) > (1 : Int)) = false → (false, ()) = (true, ())))) ∧ (((↑(wds s).length : Int) == (1 : Int)) = false → (decide ((↑(wds s).length : Int) > (1 : Int)) = true → ((pso (List.take s.size (sbytes s))).snd == (80 : Int), ()) = (true, ())) ∧ (decide ((↑(wds s).length : Int) > (1 : Int)) = false → (false, ()) = (true, ())))) ∧ ((!decide ((wds s).getD (0 : Nat) ByteArray.empty = balL266)) = false → (((↑(wds s).length : Int) != (2 : Int)) = true → ((pso (List.take s.size (sbytes s))).snd == (80 : Int), ()) = (true, ())) ∧ (((↑(wds s).length : Int) != (2 : Int)) = false → ((0 : Int) ≤ (1 : Int) ∧ (1 : Int) < (↑(wds s).length : Int)) ∧ (1 : Nat) < (wds s).length ∧ ((wds s).getD (1 : Nat) ByteArray.empty).size ≤ (1048576 : Nat) ∧ (decide (nlO (sbytes ((wds s).getD (1 : Nat) ByteArray.empty)) < (1 : Int)) = true → (((pso (List.take s.size (sbytes s))).snd == (82 : Int)) = true → (eqC (Kd.str.pair (Kd.int IntKind.i64)) (pso (List.take s.size (sbytes s))).fst (ByteArray.empty, (0 : Int)), ()) = (true, ())) ∧ (((pso (List.take s.size (sbytes s))).snd == (82 : Int)) = false → (false, ()) = (true, ()))) ∧ (decide (nlO (sbytes ((wds s).getD (1 : Nat) ByteArray.empty)) < (1 : Int)) = false → (((pso (List.take s.size (sbytes s))).snd == (0 : Int)) = true → (eqC (Kd.str.pair (Kd.int IntKind.i64)) (pso (List.take s.size (sbytes s))).fst (balL266, nlO (sbytes ((wds s).getD (1 : Nat) ByteArray.empty))), ()) = (true, ())) ∧ (((pso (List.take s.size (sbytes s))).snd == (0 : Int)) = false → (false, ()) = (true, ()))))))) ∧ ((!decide ((wds s).getD (0 : Nat) ByteArray.empty = balL264)) = false → ((0 : Int) ≤ (0 : Int) ∧ (0 : Int) < (↑(wds s).length : Int)) ∧ (0 : Nat) < (wds s).length ∧ ((!decide ((wds s).getD (0 : Nat) ByteArray.empty = balL266)) = true → (((↑(wds s).length : Int) == (1 : Int)) = true → (((pso (List.take s.size (sbytes s))).snd == (0 : Int)) = true → ((0 : Int) ≤ (0 : Int) ∧ (0 : Int) < (↑(wds s).length : Int)) ∧ (0 : Nat) < (wds s).length ∧ (eqC (Kd.str.pair (Kd.int IntKind.i64)) (pso (List.take s.size (sbytes s))).fst ((wds s).getD (0 : Nat) ByteArray.empty, (0 : Int)) = true → (true, ()) = (true, ())) ∧ (eqC (Kd.str.pair (Kd.int IntKind.i64)) (pso (List.take s.size (sbytes s))).fst ((wds s).getD (0 : Nat) ByteArray.empty, (0 : Int)) = false → (decide ((↑(wds s).length : Int) > (1 : Int)) = true → ((pso (List.take s.size (sbytes s))).snd == (80 : Int), ()) = (true, ())) ∧ (decide ((↑(wds s).length : Int) > (1 : Int)) = false → (false, ()) = (true, ())))) ∧ (((pso (List.take s.size (sbytes s))).snd == (0 : Int)) = false → (decide ((↑(wds s).length : Int) > (1 : Int)) = true → ((pso (List.take s.size (sbytes s))).snd == (80 : Int), ()) = (true, ())) ∧ (decide ((↑(wds s).length : Int) > (1 : Int)) = false → (false, ()) = (true, ())))) ∧ (((↑(wds s).length : Int) == (1 : Int)) = false → (decide ((↑(wds s).length : Int) > (1 : Int)) = true → ((pso (List.take s.size (sbytes s))).snd == (80 : Int), ()) = (true, ())) ∧ (decide ((↑(wds s).length : Int) > (1 : Int)) = false → (false, ()) = (true, ())))) ∧ ((!decide ((wds s).getD (0 : Nat) ByteArray.empty = balL266)) = false → (((↑(wds s).length : Int) != (2 : Int)) = true → ((pso (List.take s.size (sbytes s))).snd == (80 : Int), ()) = (true, ())) ∧ (((↑(wds s).length : Int) != (2 : Int)) = false → ((0 : Int) ≤ (1 : Int) ∧ (1 : Int) < (↑(wds s).length : Int)) ∧ (1 : Nat) < (wds s).length ∧ ((wds s).getD (1 : Nat) ByteArray.empty).size ≤ (1048576 : Nat) ∧ (decide (nlO (sbytes ((wds s).getD (1 : Nat) ByteArray.empty)) < (1 : Int)) = true → (((pso (List.take s.size (sbytes s))).snd == (82 : Int)) = true → (eqC (Kd.str.pair (Kd.int IntKind.i64)) (pso (List.take s.size (sbytes s))).fst (ByteArray.empty, (0 : Int)), ()) = (true, ())) ∧ (((pso (List.take s.size (sbytes s))).snd == (82 : Int)) = false → (false, ()) = (true, ()))) ∧ (decide (nlO (sbytes ((wds s).getD (1 : Nat) ByteArray.empty)) < (1 : Int)) = false → (((pso (List.take s.size (sbytes s))).snd == (0 : Int)) = true → (eqC (Kd.str.pair (Kd.int IntKind.i64)) (pso (List.take s.size (sbytes s))).fst (balL266, nlO (sbytes ((wds s).getD (1 : Nat) ByteArray.empty))), ()) = (true, ())) ∧ (((pso (List.take s.size (sbytes s))).snd == (0 : Int)) = false → (false, ()) = (true, ())))))))))) (by kernel_rfl) ?_
  have eB : List.take s.size (sbytes s) = sbytes s := List.take_of_length_le (by rw [sbytes_len]; exact Nat.le_refl _)
  rw [eB]
  have hl := sbytes_len s
  have hW := wds_pos s
  refine ⟨trivial, fun q => (nomatch q), fun _ => ⟨lz _, trivial, fun h => ?_, fun h => ?_⟩⟩
  · have h := of_decide_eq_true h
    have e : pso (sbytes s) = (noAsk, 81) := by rw [pso, opq_eq, parseO, if_pos (by omega)]
    rw [e]
    exact ⟨fun _ => eq_t rfl, fun q => (nomatch q)⟩
  · have h := of_decide_eq_false h
    have hP : pso (sbytes s) = parseW (wds s) := by rw [pso, opq_eq, parseO, if_neg (by omega), str_bytes]
    have hz := wds_size s 1
    have z := fun q => zZ (W := wds s) (P := pso (sbytes s)) hP hW (by omega) q
    refine ⟨by omega, ⟨Int.le_refl _, by omega⟩, hW, fun hi => ⟨⟨Int.le_refl _, by omega⟩, hW, fun hl => ⟨⟨Int.le_refl _, by omega⟩, hW, fun hr => ?_, fun hr => z (.inr (not_f hr))⟩, fun hl => z (.inl (.inr (not_f hl)))⟩, fun hi => z (.inl (.inl (not_f hi)))⟩
    have e : parseW (wds s) = (noAsk, 83) := by rw [parseW, if_neg (fun q => q.elim (not_t hi) (not_t hl)), if_neg (show ¬ _ = sRound from not_t hr)]
    rw [hP, e]
    exact ⟨fun _ => eq_t rfl, fun q => (nomatch q)⟩
end Go.Proofs.YteldhmehjkhanaaDoor.law26
/- From a contract to a law's row where package variables read as listed. -/
namespace Go.Eng
open Go Go.RowKit Cr Go.ChangeShapes Go.WideShapes Go.ChangeAt
/-- A law: true; its arguments read as they did; package variables are what G says. -/
theorem law_rowG {C : Checked} {f : FuncId} {fn : Func} {s : ChangeSpec} {bt : TypeId} {ts : List TypeId} {ks : List Kd} {pre pre' : HL ks → Prop} {H : Type} {enc : TypeId × Value → H} {G : Glob}
    (he : enters C.prog f fn) (hf : FnOk C.prog f ks [.val .bool] G pre (fun _ => (true, ()))) (hl : laidOutB C.prog = true) (hts : fn.params.toList = ts) (hrs : fn.resultTypes = #[bt]) (hbt : C.prog.underlying bt = some .bool)
    (ho : OpnL C.prog ts ks pre') (hpre : ∀ xs, pre' xs → pre xs) (hv : s.vars = []) (hs : ∀ ds : List (DataW H), ds.length = ts.length → s.fn H ds = { results := [.lit (.bool true)], args := ds })
    (W : World) (hG : GlOk G (memOf W)) (base : Nat) (args : Array Value) (ds gs : List (DataW H)) (before : List MemPlace)
    (hok : ∀ (j : Nat) t v, fn.params[j]? = some t → args[j]? = some v → Value.okWide C.prog W .any base t v)
    (hW : DataW.Whole enc C.prog fn.params.toList s.vars false W args.toList ds gs before)
    (hsz : (DataW.weightsEach C.prog (fn.params.toList ++ s.plain.varTypes C.prog) (ds ++ gs)).all (· ≤ reachBytes) = true) :
    Calls C.prog f args W fun e W' => ∃ v, e = .returned v ∧ s.post enc C.prog fn false true false false W args v W' := by
  have hW' := hW
  have hlt : ∀ x ∈ before, x.block < W.heap.size := fun x hx => by simpa using hW'.lt x hx
  obtain ⟨p, q, hA, hV, rfl, hfz, hnd⟩ := hW
  rw [hv] at hV
  obtain ⟨rfl, rfl⟩ := trodVars_none hV
  rw [hts] at hA
  have hlen : ds.length = ts.length := by
    exact trodAll_len hA
  have hwt : ∀ n ∈ DataW.weightsEach C.prog ts ds, n ≤ reachBytes := by
    intro n hn
    have e : s.plain.varTypes C.prog = [] := by simp [DataSpec.varTypes, ChangeSpec.plain, hv]
    rw [e, hts, List.append_nil, List.append_nil, List.all_eq_true] at hsz
    simpa using hsz n hn
  obtain ⟨xs, hin, hp⟩ := opnL_open ho (enc := enc) (W := W) (base := base) (vs := args.toList) (ds := ds) (p := p) (fun j t v ht hj => hok j t v (by rw [← hts] at ht; simpa using ht) (by simpa using hj)) hA hwt
  have hc := hf W (memOf W) args.toList xs (fun b l h => h) hG hin (hpre xs hp)
  refine (callOk_calls he hc).mono ?_
  rintro e W' ⟨v, rfl, vs, ob, rfl, ⟨v, vs', rfl, hv1, rfl⟩, hb⟩
  have hv1 : v = .bool true := by have h : [v] = [Value.bool true] := hv1; simpa using h
  subst hv1
  refine ⟨_, rfl, ds, [], p ++ [], [], p, [], hW', ?_, ?_, ?_, ?_, fun h => by cases h⟩
  · rw [hrs, List.append_nil, hs ds hlen]
    exact trodAll_mk1 (shut_bool hbt true)
  · rw [hts, List.append_nil, hs ds hlen]
    exact opnL_stays hl ho hb hA (fun x hx => hlt x (by simpa using hx))
  · rw [hv, List.append_nil, hs ds hlen]
    rfl
  · exact hb.frame _
end Go.Eng
/- What QueryParses' row lists of package variables: the proof needs none of it. -/
namespace Go.Proofs.YteldhmehjkhanaaDoor.qry
set_option maxRecDepth 100000
open Go Go.Eng Go.RowKit Cr Go.Proofs.YteldhmehjkhanaaDoor
abbrev qLaid : List (String × DataW Unit) := [("math/bits.deBruijn32tab", Rows.laid_math_bits_deBruijn32tab), ("math/bits.deBruijn64tab", Rows.laid_math_bits_deBruijn64tab), ("cresset/sha.first", Rows.laid_cresset_sha_first), ("cresset/sha.roots", Rows.laid_cresset_sha_roots), ("internal/strconv.uint64pow10", Rows.laid_internal_strconv_uint64pow10), ("unicode/utf8.acceptRanges", Rows.laid_unicode_utf8_acceptRanges), ("unicode/utf8.first", Rows.laid_unicode_utf8_first)]
theorem noG_ok {M : Mem} : GlOk noG M := fun g e x h => by cases h
/-- A start that meets the condition. -/
theorem all_met (os : Os) (args : Array Value) : laidMetH Tryd.prog qLaid ((World.laidAll Tryd.prog os qLaid).forCall (fun _ _ => 0) ⟨#[], args, []⟩).memory := by
  rw [MakeChecks.laidMetH_plain _ _ _ (by kernel_rfl)]
  exact laidMet_laidAll _ (by kernel_rfl) (by kernel_rfl)
end Go.Proofs.YteldhmehjkhanaaDoor.qry
/- Rows: texts as arguments. -/
namespace Go.Eng
open Go Go.RowKit Cr
theorem opnC_str {P : Program} {t : TypeId} (ht : P.underlying t = some .string) : OpnC P t .str (fun s => ByteArray.size s ≤ maxLen) := by
  intro H enc W fuel cs x h _
  obtain ⟨s, rfl, rfl, hw⟩ := DataW.trod_string ht h
  exact ⟨s, rfl, hw⟩
theorem opnV_str {P : Program} {t : TypeId} (ht : P.underlying t = some .string) : OpnV P t .str (fun s => ByteArray.size s ≤ maxLen) := by
  intro H enc W base v d p hok ⟨fuel, h⟩ hw
  obtain ⟨n, rfl⟩ := WideShapes.okWide_string ht hok
  exact opnC_str ht H enc W fuel _ _ h hw
end Go.Eng
namespace Go.Proofs.YteldhmehjkhanaaDoor
set_option maxRecDepth 100000
open Go Go.Eng Go.RowKit Cr Go.ChangeShapes Go.WideShapes Go.ChangeAt

namespace queryParses
theorem own : ownKnob Tryd.prog.godebug = none := by kernel_rfl
theorem laidOut : laidOutB Tryd.prog = true := by kernel_rfl
abbrev wtS : Car .str → Prop := fun x => ByteArray.size x ≤ maxLen
theorem oS : OpnV Tryd.prog 9 .str wtS := opnV_str (by kernel_rfl)
theorem pS {x : ByteArray} (h : wtS x) : ByteArray.size x ≤ maxLen := h
theorem opened : OpnL Tryd.prog [9] [.str] (fun x => wtS x.1 ∧ True) :=
  .cons oS (by kernel_rfl) (of_decide_eq_true (by kernel_rfl)) .nil
theorem lifted (os : Os) (started : os.Started) (H : Type) (enc : TypeId × Value → H) :
    ReturnsInHanded {} Tryd.checked os 3 .any (fun w args => (Rows.queryParsesSpec.pre enc Tryd.prog Tryd.f3 Rows.queryParsesRow.domain false w args ∧ laidMetH Tryd.prog qry.qLaid w) ∧ sizedMet enc Tryd.prog Tryd.f3 (OpenSpec.ofChange Rows.queryParsesSpec) false w args) (Rows.queryParsesSpec.post enc Tryd.prog Tryd.f3 false true false false) := by
  refine returnsInHanded_of_change_and (C := Tryd.checked) (X := fun w _ => laidMetH Tryd.prog qry.qLaid w) (fun _ _ _ hh h => h.of_heap hh) own started (by kernel_rfl) Tryd.func3
    (ChangeSpec.witness_shaped (enc := enc) (C := Tryd.checked) (os := os) (X := fun w _ => laidMetH Tryd.prog qry.qLaid w) false (World.laidAll Tryd.prog os qry.qLaid) #[.string ByteArray.empty] 8 rfl (World.shaped_of_ZipB (by kernel_rfl) (by kernel_rfl)) (by kernel_rfl) (by kernel_rfl) (by kernel_rfl) (qry.all_met os _)) ?_
  intro W base args ds gs before hval hW _ hsz hL _
  refine law_rowG (C := Tryd.checked) (bt := 4) (ts := [9]) law26.ent_parses law26.fn_parses laidOut (by kernel_rfl) (by kernel_rfl) (by kernel_rfl) opened ?_ rfl ?_ W qry.noG_ok base args ds gs before hval hW hsz
  · rintro ⟨x0, ⟨⟩⟩ ⟨h0, _⟩
    exact pS h0
  · intro ds hl
    match ds, hl with
    | [d0], _ => rfl

theorem row : Rows.QueryParsesSaid :=
  OpenClaim.holds_of_wide 3 Tryd.f3 rfl rfl rfl rfl rfl rfl rfl ⟨rfl, rfl, rfl, rfl, rfl⟩ rfl rfl rfl rfl rfl (by kernel_rfl) Tryd.func3 (by kernel_rfl)
    (of_decide_eq_true (by kernel_rfl)) (by unfold Func.isWrapper; first | (rw [if_pos (by decide +kernel)]; kernel_rfl) | (rw [if_neg (by decide +kernel)]; exact ⟨rfl, rfl⟩))
    (fun os started H enc _ => lifted os started H enc)
theorem wants : (Tryd.f3.params.toList.all fun u => !Tryd.prog.wantsStandIn u) = true := by kernel_rfl
/-- THE TIED CARD. -/
theorem proved : Rows.QueryParsesCardSaid :=
  Claim7.holds_tied_plain_at .later [] [.data, .data, .data, .data, .data, .data, .pinned] true (true, "a383451db64bac152671a13d5c8b2c403bd1f631a492da033df68464ea5d59ca") false
    row (fun _ h => by cases h) (by kernel_rfl) (fun _ h => by cases h) queryParses_row_tie rfl ⟨rfl, rfl⟩ (by kernel_rfl) rfl
    (fun f fn hf hfn => by
      obtain rfl : f = 3 := Option.some.inj ((show Tryd.prog.funcNamed "cresset/cressetlaw26.QueryParses" = some 3 by kernel_rfl).symm.trans hf) |>.symm
      obtain rfl : fn = Tryd.f3 := (Option.some.inj (Tryd.func3.symm.trans hfn)).symm
      exact ⟨by kernel_rfl, fun j t ht => by
        have hm : t ∈ Tryd.f3.params.toList := by simpa using Array.mem_of_getElem? ht
        exact (show Tryd.prog.wantsStandIn t = false by simpa using List.all_eq_true.1 wants t hm)⟩)
    (by kernel_rfl)
#print axioms proved
end queryParses
end Go.Proofs.YteldhmehjkhanaaDoor
