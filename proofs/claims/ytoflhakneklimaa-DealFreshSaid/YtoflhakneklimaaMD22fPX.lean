/- The engine (11): results that are only read further on; nil slices among slices that are read. -/
import Derived.Test.YtoflhakneklimaaMD22fPW
namespace Go.Eng
open Go Go.RowKit Cr
theorem outM_frz {N : Nat} {M : Mem} {ob : Option Nat} {w' : World} : Mem.le (outM N M ob w') (outM N M none w') := by
  intro b l h
  unfold outM at h ⊢
  rw [if_neg (by simp)]
  split at h
  · cases h
  · exact h
/-- A slice of its own as a slice that is read. -/
theorem FnOk.frz {P : Program} {f : FuncId} {ins : List Kd} {e : Kd} {G : Glob} {pre : HL ins → Prop} {F : HL ins → HO [.own e]} (h : FnOk P f ins [.own e] G pre F) : FnOk P f ins [.val (.sl e)] G pre F := by
  intro w M us xs hM hG hin hp
  refine (h w M us xs hM hG hin hp).mono ?_
  rintro v w' ⟨vs, ob, hv, ⟨v0, vs', e1, ho, e2⟩, hb⟩
  refine ⟨vs, none, hv, ⟨v0, vs', e1, ?_, e2⟩, hb⟩
  show Rd (outM w.heap.size M none w') (.sl e) _ [v0]
  rcases ho with ⟨hx, rfl⟩ | ⟨b, o, cap, n, l, hob, hN, rfl, hc, ho, hsz, hblk, hrd⟩
  · exact .inl ⟨hx, none, 0, rfl, fun _ => rfl⟩
  · rcases ho with rfl | rfl
    · have hl := RdL_len (fun _ _ => Rd_len) hrd
      obtain ⟨rest, el, fr, hh, _⟩ := hblk
      refine .inr ⟨b, 0, cap, rfl, hc, l ++ rest, ?_, by rw [List.length_append, hl]; omega, ?_⟩
      · unfold outM
        rw [if_neg (by simp), if_pos hN]
        exact memOf_blk hh
      · rw [List.drop_zero, ← hl, List.take_left']
        · exact RdL_mono (fun _ _ h => Rd_mono outM_frz h) hrd
        · rfl
    · exact .inl ⟨List.eq_nil_of_length_eq_zero (by omega), some ⟨b, o, none⟩, 0, by rw [show (F xs).1.length = 0 by omega], fun h => by cases h⟩
/-- A slot that stands for more. -/
theorem tr_ref {E : Env} {N : Nat} {n r : St → Prop} {x : Nat → St → Prop} {l : List Code} {σ : St} (t : Nat) (s : SV) (hs : refines (σ.S t) s) (h2 : Tr E N l ⟨σ.slots.set t s, σ.blks, σ.next⟩ n r x) : Tr E N l σ n r x := by
  intro a w Q hh hn hr hx
  refine h2 a w Q ?_ hn hr hx
  obtain ⟨hlen, ρ, hrep, hid⟩ := hh
  refine ⟨by show (σ.slots.set t s).length = N; rw [List.length_set]; exact hlen, ρ, { hrep with slots := ?_ }, hid⟩
  intro u
  have hu := hrep.slots u
  show ((σ.slots.set t s).getD u .junk).rel ρ _
  rw [List.getD_eq_getElem?_getD, List.getElem?_set]
  split
  · rename_i htu
    subst htu
    split
    · exact hs ρ _ hu
    · trivial
  · rw [← List.getD_eq_getElem?_getD]; exact hu
theorem ref_nil (e : Kd) : refines (.is (.one (.v (.slice none 0 0)))) (.is (.one (.ro e []))) := by
  rintro ρ v ⟨h1, h2⟩
  simp only [List.cons.injEq, and_true] at h1
  subst h1
  exact .inl ⟨rfl, none, 0, rfl, fun _ => rfl⟩
/-- A nil slice, further on only read. -/
theorem tr_ro {E : Env} {N : Nat} {n r : St → Prop} {x : Nat → St → Prop} {l : List Code} {σ : St} (t : Nat) (e : Kd) (hs : σ.S t = .is (.one (.v (.slice none 0 0)))) (h2 : Tr E N l ⟨σ.slots.set t (.is (.one (.ro e []))), σ.blks, σ.next⟩ n r x) : Tr E N l σ n r x :=
  tr_ref t _ (by rw [hs]; exact ref_nil e) h2
end Go.Eng
