/- A value that nothing unfolds. -/
import Derived.Laws.Strings2
import Derived.Lib.Bytealg
import Derived.Test.YteldhmehjkhanaaDoorML26PC
/- Questions: the plain law. No program here. -/
namespace Go.Qry
open Go Go.Eng

/-- The pieces of a text between blanks. -/
def pcs : List UInt8 → List (List UInt8)
  | [] => [[]]
  | c :: r => if c = 32 then [] :: pcs r else match pcs r with
    | [] => [[c]]
    | p :: ps => (c :: p) :: ps

theorem pcs_ne : ∀ l, pcs l ≠ [] := by
  intro l
  cases l with
  | nil => simp [pcs]
  | cons c r =>
    unfold pcs
    split
    · simp
    · split <;> simp

theorem pcs_cons {c : UInt8} (h : c ≠ 32) (r : List UInt8) {p : List UInt8} {ps : List (List UInt8)} (e : pcs r = p :: ps) : pcs (c :: r) = (c :: p) :: ps := by
  rw [pcs, if_neg h, e]

theorem pcs_no : ∀ l : List UInt8, (∀ c ∈ l, c ≠ 32) → pcs l = [l] := by
  intro l
  induction l with
  | nil => intro _; rfl
  | cons c r ih => intro h; exact pcs_cons (h c (List.mem_cons_self ..)) r (ih fun d hd => h d (List.mem_cons_of_mem _ hd))

theorem pcs_at : ∀ (a b : List UInt8), (∀ c ∈ a, c ≠ 32) → pcs (a ++ 32 :: b) = a :: pcs b := by
  intro a
  induction a with
  | nil => intro b _; rw [List.nil_append, pcs, if_pos rfl]
  | cons c r ih => intro b h; exact pcs_cons (h c (List.mem_cons_self ..)) _ (ih b fun d hd => h d (List.mem_cons_of_mem _ hd))

theorem pcs_count : ∀ l : List UInt8, (pcs l).length = l.count 32 + 1 := by
  intro l
  induction l with
  | nil => rfl
  | cons c r ih =>
    by_cases h : c = 32
    · subst h
      rw [pcs, if_pos rfl, List.length_cons, ih, List.count_cons_self]
    · cases e : pcs r with
      | nil => exact absurd e (pcs_ne r)
      | cons p ps =>
        rw [pcs_cons h r e, List.length_cons, List.count_cons_of_ne h, ← ih, e, List.length_cons]

def bs (l : List UInt8) : ByteArray := ⟨l.toArray⟩
/-- The words of a text. -/
def wds (s : ByteArray) : List ByteArray := (pcs s.data.toList).map bs

theorem ext_list (s : ByteArray) (a b : Nat) : (s.extract a b).data.toList = (s.data.toList.drop a).take (b - a) := by
  have := ByteArray.extract_mk s.data.toList a b
  have e : (ByteArray.mk s.data.toList.toArray) = s := rfl
  rw [e] at this
  rw [this]

theorem map_bs (xs : List ByteArray) : (xs.map fun x => x.data.toList).map bs = xs := by
  rw [List.map_map]
  induction xs with
  | nil => rfl
  | cons x xs ih => rw [List.map_cons, ih]; rfl

theorem wds_of {s : ByteArray} {xs : List ByteArray} (h : xs.map (fun x => x.data.toList) = pcs s.data.toList) : xs = wds s := by
  rw [wds, ← h, map_bs]

theorem take_succ_mem {l : List UInt8} {a b : Nat} (hab : a ≤ b) (hb : b < l.length) (h : ∀ c ∈ (l.drop a).take (b - a), c ≠ 32) (hc : l.getD b 0 ≠ 32) : ∀ c ∈ (l.drop a).take (b + 1 - a), c ≠ 32 := by
  intro c hm
  rw [show b + 1 - a = (b - a) + 1 by omega, List.take_add_one] at hm
  rcases List.mem_append.1 hm with g | g
  · exact h c g
  · rw [List.getElem?_drop, show a + (b - a) = b by omega, List.getElem?_eq_getElem hb] at g
    simp at g
    rw [g]
    rw [List.getD_eq_getElem?_getD, List.getElem?_eq_getElem hb] at hc
    exact hc

theorem pcs_cut {l : List UInt8} {a b : Nat} (hab : a ≤ b) (hb : b < l.length) (h : ∀ c ∈ (l.drop a).take (b - a), c ≠ 32) (hc : l.getD b 0 = 32) : pcs (l.drop a) = (l.drop a).take (b - a) :: pcs (l.drop (b + 1)) := by
  have e : l.drop a = (l.drop a).take (b - a) ++ 32 :: l.drop (b + 1) := by
    conv => lhs; rw [← List.take_append_drop (b - a) (l.drop a)]
    rw [List.drop_drop, show a + (b - a) = b by omega, List.drop_eq_getElem_cons hb]
    rw [List.getD_eq_getElem?_getD, List.getElem?_eq_getElem hb] at hc
    simp at hc
    rw [hc]
  conv => lhs; rw [e]
  exact pcs_at _ _ h

/-- The number of digits, as they are read; none: too great, or no digits. -/
def numL : List Int → Int → Option Int
  | [], n => some n
  | c :: r, n => if c < 48 ∨ c > 57 then none else if 10 * n + (c - 48) > 1099511627776 then none else numL r (10 * n + (c - 48))

def numO (w : List Int) : Option Int := if w.length = 0 ∨ (w.getD 0 0 = 48 ∧ w.length > 1) then none else numL w 0

/-- The law's number. -/
def nlL : List Int → Nat → Int → Option Int
  | [], _, n => some n
  | c :: r, i, n => if c < 48 ∨ c > 57 ∨ i > 12 ∨ (i = 1 ∧ n = 0) then none else nlL r (i + 1) (10 * n + (c - 48))

def nlO (w : List Int) : Int := match nlL w 0 0 with
  | none => -1
  | some n => if w.length = 0 ∨ n > 1099511627776 then -1 else n

theorem nl_big : ∀ (r : List Int) (i : Nat) (n m : Int), n > 1099511627776 → nlL r i n = some m → m > 1099511627776 := by
  intro r
  induction r with
  | nil => intro i n m hn h; rw [nlL] at h; have := Option.some.inj h; omega
  | cons c r ih =>
    intro i n m hn h
    rw [nlL] at h
    split at h
    · cases h
    · exact ih _ _ _ (by omega) h

theorem p12 : ∀ k : Nat, (1000000000000 : Int) ≤ 10 ^ (12 + k) := by
  intro k
  induction k with
  | zero => decide
  | succ k ih => rw [show 12 + (k + 1) = (12 + k) + 1 by omega, Int.pow_succ]; omega

theorem nl_num : ∀ (r : List Int) (i : Nat) (n : Int), 1 ≤ i → (10 : Int) ^ (i - 1) ≤ n → n ≤ 1099511627776 →
    (∀ m, numL r n = some m → nlL r i n = some m ∧ m ≤ 1099511627776 ∧ 1 ≤ m) ∧ (numL r n = none → ∀ m, nlL r i n = some m → m > 1099511627776) := by
  intro r
  induction r with
  | nil =>
    intro i n hi h0 h1
    have hp : (0 : Int) < 10 ^ (i - 1) := Int.pow_pos (by decide)
    refine ⟨fun m h => ?_, fun h => ?_⟩
    · rw [numL] at h; have := Option.some.inj h; subst this; exact ⟨rfl, h1, by omega⟩
    · rw [numL] at h; cases h
  | cons c r ih =>
    intro i n hi h0 h1
    have hp : (0 : Int) < 10 ^ (i - 1) := Int.pow_pos (by decide)
    rw [numL, nlL]
    by_cases hd : c < 48 ∨ c > 57
    · rw [if_pos hd, if_pos (by omega)]
      exact ⟨fun m h => (nomatch h), fun _ m h => (nomatch h)⟩
    · rw [if_neg hd]
      by_cases h12 : i > 12
      · have h13 := p12 (i - 1 - 12)
        rw [show 12 + (i - 1 - 12) = i - 1 by omega] at h13
        rw [if_pos (show 10 * n + (c - 48) > 1099511627776 by omega), if_pos (.inr (.inr (.inl h12)))]
        exact ⟨fun m h => (nomatch h), fun _ m h => (nomatch h)⟩
      · rw [if_neg (show ¬ (c < 48 ∨ c > 57 ∨ i > 12 ∨ (i = 1 ∧ n = 0)) by omega)]
        by_cases hb : 10 * n + (c - 48) > 1099511627776
        · rw [if_pos hb]
          exact ⟨fun m h => (nomatch h), fun _ m h => nl_big _ _ _ _ hb h⟩
        · rw [if_neg hb]
          refine ih (i + 1) _ (by omega) ?_ (by omega)
          rw [show i + 1 - 1 = (i - 1) + 1 by omega, Int.pow_succ]
          omega

/-- The two numbers agree. -/
theorem num_law (w : List Int) : nlO w = (numO w).getD (-1) := by
  cases w with
  | nil => rfl
  | cons c r =>
    unfold numO nlO
    have hl : (c :: r).length ≠ 0 := by simp
    by_cases hd : c < 48 ∨ c > 57
    · have e1 : nlL (c :: r) 0 0 = none := by rw [nlL, if_pos (by omega)]
      have e2 : numL (c :: r) 0 = none := by rw [numL, if_pos hd]
      rw [e1, e2, ite_self]
      rfl
    · by_cases hz : c = 48
      · subst hz
        cases r with
        | nil => rfl
        | cons d r =>
          have e1 : nlL (48 :: d :: r) 0 0 = none := by
            rw [nlL, if_neg (by omega), nlL, if_pos (by right; right; right; exact ⟨rfl, rfl⟩)]
          rw [e1, if_pos (.inr ⟨rfl, by simp⟩)]
          rfl
      · have e0 : ¬ ((c :: r).length = 0 ∨ ((c :: r).getD 0 0 = 48 ∧ (c :: r).length > 1)) := by
          rintro (h | ⟨h, _⟩)
          · exact hl h
          · exact hz h
        have e1 : nlL (c :: r) 0 0 = nlL r 1 (c - 48) := by
          rw [nlL, if_neg (by omega), show (10 : Int) * 0 + (c - 48) = c - 48 by omega]
        have e2 : numL (c :: r) 0 = numL r (c - 48) := by
          rw [numL, if_neg hd, show (10 : Int) * 0 + (c - 48) = c - 48 by omega, if_neg (by omega)]
        obtain ⟨k1, k2⟩ := nl_num r 1 (c - 48) (Nat.le_refl _) (by show (1 : Int) ≤ _; omega) (by omega)
        rw [if_neg e0, e1, e2]
        cases h : numL r (c - 48) with
        | none =>
          cases h' : nlL r 1 (c - 48) with
          | none => rfl
          | some m => have := k2 h m h'; dsimp only; rw [if_pos (.inr this)]; rfl
        | some m =>
          obtain ⟨g1, g2, g3⟩ := k1 m h
          rw [g1]
          dsimp only
          rw [if_neg (fun h => h.elim hl (fun h => by omega))]
          rfl

/-- A number that is read is none below 0. -/
theorem numL_ge : ∀ (r : List Int) (n m : Int), 0 ≤ n → numL r n = some m → 0 ≤ m := by
  intro r
  induction r with
  | nil => intro n m hn h; rw [numL] at h; have := Option.some.inj h; omega
  | cons c r ih =>
    intro n m hn h
    rw [numL] at h
    split at h
    · cases h
    · split at h
      · cases h
      · exact ih _ _ (by omega) h

theorem numO_ge {w : List Int} {m : Int} (h : numO w = some m) : 0 ≤ m := by
  unfold numO at h
  split at h
  · cases h
  · exact numL_ge _ _ _ (Int.le_refl _) h

/-- Bytes and back. -/
theorem str_bytes (s : ByteArray) : strOfNums (sbytes s) = s := by
  apply ByteArray.ext
  apply Array.toList_inj.1
  rw [strOfNums_data, sbytes, List.map_map]
  conv => rhs; rw [← List.map_id s.data.toList]
  refine List.map_congr_left fun b _ => ?_
  simp

theorem sbytes_len (s : ByteArray) : (sbytes s).length = s.size := by
  rw [sbytes, List.length_map]
  exact Array.length_toList

theorem sbytes_get (s : ByteArray) (i : Nat) : (sbytes s).getD i 0 = ((s.data.toList.getD i 0).toNat : Int) := by
  rw [sbytes, List.getD_eq_getElem?_getD, List.getD_eq_getElem?_getD, List.getElem?_map]
  cases s.data.toList[i]? <;> rfl

theorem byte_32 (b : UInt8) : ((b.toNat : Int) = 32) ↔ b = 32 := by
  constructor
  · intro h
    have : b.toNat = 32 := by omega
    exact UInt8.toNat_inj.1 this
  · rintro rfl; rfl

theorem ix_spec : ∀ l : List UInt8, (Lib.indexByte l 32 = -1 ∧ ∀ c ∈ l, c ≠ 32) ∨ ∃ m : Nat, Lib.indexByte l 32 = m ∧ m < l.length ∧ (∀ c ∈ l.take m, c ≠ 32) ∧ l.getD m 0 = 32 := by
  intro l
  induction l with
  | nil => exact .inl ⟨rfl, fun c h => (nomatch h)⟩
  | cons b l ih =>
    by_cases hb : b = 32
    · subst hb
      refine .inr ⟨0, ?_, by simp, fun c h => (nomatch h), rfl⟩
      rw [Lib.indexByte]; rfl
    · have hbq : (b == (32 : UInt8)) = false := beq_eq_false_iff_ne.2 hb
      rcases ih with ⟨h1, h2⟩ | ⟨m, h1, h2, h3, h4⟩
      · refine .inl ⟨?_, fun c hc => ?_⟩
        · rw [Lib.indexByte, hbq, h1]; rfl
        · rcases List.mem_cons.1 hc with rfl | hc
          · exact hb
          · exact h2 c hc
      · refine .inr ⟨m + 1, ?_, by simpa using h2, fun c hc => ?_, h4⟩
        · rw [Lib.indexByte, hbq, h1]
          have : (((m : Nat) : Int) == -1) = false := beq_eq_false_iff_ne.2 (by omega)
          rw [this]
          simp
        · rw [List.take_succ_cons] at hc
          rcases List.mem_cons.1 hc with rfl | hc
          · exact hb
          · exact h3 c hc

/-- One more piece of a text. -/
theorem pcs_step {l : List UInt8} {m : Nat} (hm : m < l.length) (h : ∀ c ∈ l.take m, c ≠ 32) (hc : l.getD m 0 = 32) : pcs l = l.take m :: pcs (l.drop (m + 1)) := by
  have := pcs_cut (l := l) (a := 0) (b := m) (Nat.zero_le _) hm (by simpa using h) hc
  simpa using this

def sInfo : ByteArray := ⟨#[105, 110, 102, 111]⟩
def sLatest : ByteArray := ⟨#[108, 97, 116, 101, 115, 116]⟩
def sRound : ByteArray := ⟨#[114, 111, 117, 110, 100]⟩

def noAsk : ByteArray × Int := (ByteArray.empty, 0)

/-- What a question's text is. -/
def parseW (ws : List ByteArray) : (ByteArray × Int) × Int :=
  if ws.getD 0 ByteArray.empty = sInfo ∨ ws.getD 0 ByteArray.empty = sLatest then (if ws.length = 1 then ((ws.getD 0 ByteArray.empty, 0), 0) else (noAsk, 80))
  else if ws.getD 0 ByteArray.empty = sRound then (if ws.length = 2 then (match numO (sbytes (ws.getD 1 ByteArray.empty)) with
      | none => (noAsk, 82)
      | some n => if n = 0 then (noAsk, 82) else ((ws.getD 0 ByteArray.empty, n), 0)) else (noAsk, 80))
  else (noAsk, 83)

def parseO (b : List Int) : (ByteArray × Int) × Int := if b.length > 128 then (noAsk, 81) else parseW (wds (strOfNums b))

theorem wds_pos (s : ByteArray) : 0 < (wds s).length := by
  rw [wds, List.length_map, pcs_count]
  omega
end Go.Qry
namespace Go.Eng
/-- The same; nothing unfolds it. -/
noncomputable def opq {α : Type} (x : α) : α := Classical.choose (⟨x, rfl⟩ : ∃ y, y = x)
theorem opq_eq {α : Type} (x : α) : opq x = x := Classical.choose_spec (⟨x, rfl⟩ : ∃ y, y = x)
end Go.Eng
