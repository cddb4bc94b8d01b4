/- From a contract to a law's row: arguments opened, the result shut. -/
import Derived.Test.YteldhmehjkhanaaDoorRows
import Derived.ProofKit
import Derived.SizedLaws
import Derived.Test.YteldhmehjkhanaaDoorML26PV
namespace Go.Eng
open Go Go.RowKit Cr Go.ChangeShapes Go.WideShapes Go.ChangeAt

/-- What an argument reads as. -/
def OpnC (P : Program) (t : TypeId) (κ : Kd) (wt : Car κ → Prop) : Prop :=
  ∀ (H : Type) (enc : TypeId × Value → H) (W : World) (fuel : Nat) (cs : List Value) (x : DataW H × List MemPlace), DataW.trod enc P W 0 (fun _ => true) true fuel t cs = some x →
    (∀ n ∈ x.1.weights P t, n ≤ reachBytes) → ∃ y : Car κ, Rd (memOf W) κ y cs ∧ wt y

/-- Values. -/
def OpnV (P : Program) (t : TypeId) (κ : Kd) (wt : Car κ → Prop) : Prop :=
  ∀ (H : Type) (enc : TypeId × Value → H) (W : World) (base : Nat) (v : Value) (d : DataW H) (p : List MemPlace), Value.okWide P W .any base t v → DataW.Trod enc P W 0 (fun _ => true) true t v d p →
    (∀ n ∈ d.weights P t, n ≤ reachBytes) → ∃ y : Car κ, valRd (memOf W) κ y v ∧ wt y

inductive OpnL (P : Program) : List TypeId → (ks : List Kd) → (HL ks → Prop) → Prop
  | nil : OpnL P [] [] (fun _ => True)
  | cons {t : TypeId} {κ : Kd} {wt : Car κ → Prop} {ts : List TypeId} {ks : List Kd} {pre : HL ks → Prop} (h : OpnV P t κ wt) (hr : P.readableRec t = true) (hrow : t < P.types.size) (hs : OpnL P ts ks pre) : OpnL P (t :: ts) (κ :: ks) (fun x => wt x.1 ∧ pre x.2)

theorem opnL_open {P : Program} {ts : List TypeId} {ks : List Kd} {pre : HL ks → Prop} (h : OpnL P ts ks pre) {H : Type} {enc : TypeId × Value → H} {W : World} {base : Nat} :
    ∀ {vs : List Value} {ds : List (DataW H)} {p : List MemPlace}, (∀ (j : Nat) t v, ts[j]? = some t → vs[j]? = some v → Value.okWide P W .any base t v) → DataW.TrodAll enc P W 0 (fun _ => true) true ts vs ds p →
      (∀ n ∈ DataW.weightsEach P ts ds, n ≤ reachBytes) → ∃ xs : HL ks, insRel (memOf W) ks xs vs ∧ pre xs := by
  induction h with
  | nil => intro vs ds p _ hA _; obtain ⟨rfl, rfl, rfl⟩ := trodAll_nil hA; exact ⟨(), rfl, trivial⟩
  | cons h _ _ _ ih =>
    intro vs ds p hok hA hw
    obtain ⟨v, vs, d, ds, p, q, rfl, rfl, rfl, h1, h2⟩ := trodAll_cons hA
    obtain ⟨y, hy, hwt⟩ := h H enc W base v d p (hok 0 _ v rfl rfl) h1 (fun n hn => hw n (by simp only [DataW.weightsEach, List.mem_append]; exact .inl hn))
    obtain ⟨ys, hys, hp⟩ := ih (fun j t v ht hv => hok (j + 1) t v (by simpa using ht) (by simpa using hv)) h2 (fun n hn => hw n (by simp only [DataW.weightsEach, List.mem_append]; exact .inr hn))
    exact ⟨(y, ys), ⟨v, vs, rfl, hy, hys⟩, hwt, hp⟩

theorem opnL_stays {P : Program} (hl : laidOutB P = true) {ts : List TypeId} {ks : List Kd} {pre : HL ks → Prop} (h : OpnL P ts ks pre) {H : Type} {enc : TypeId × Value → H} {W W' : World} (hb : Below W.heap.size W W') :
    ∀ {vs : List Value} {ds : List (DataW H)} {p : List MemPlace}, DataW.TrodAll enc P W 0 (fun _ => true) true ts vs ds p → (∀ x ∈ p, x.block < W.heap.size) → DataW.TrodAll enc P W' 0 (fun b => decide (b < W.heap.size)) true ts vs ds p := by
  induction h with
  | nil => intro vs ds p hA _; obtain ⟨rfl, rfl, rfl⟩ := trodAll_nil hA; exact trodAll_mk0
  | cons _ hr hrow _ ih =>
    intro vs ds p hA hlt
    obtain ⟨v, vs, d, ds, p, q, rfl, rfl, rfl, h1, h2⟩ := trodAll_cons hA
    exact ⟨p, q, Below.trod hl hr hrow h1 hb (fun x hx => hlt x (List.mem_append_left _ hx)), ih h2 (fun x hx => hlt x (List.mem_append_right _ hx)), rfl⟩

theorem callOk_calls {P : Program} {f : FuncId} {fn : Func} (he : enters P f fn) {us : Array Value} {w : World} {R : Value → World → Prop} (h : CallOk P f us w R) : Calls P f us w fun e w' => ∃ v, e = .returned v ∧ R v w' := by
  rcases h with ⟨_, h⟩ | ⟨v, w', h, _⟩
  · exact h
  · rw [he.2 us w] at h; cases h

theorem trodAll_len {P : Program} {H : Type} {enc : TypeId × Value → H} {W : World} {b : Nat} {sp : Nat → Bool} {hd : Bool} : ∀ {ts : List TypeId} {vs : List Value} {ds : List (DataW H)} {p : List MemPlace}, DataW.TrodAll enc P W b sp hd ts vs ds p → ds.length = ts.length := by
  intro ts
  induction ts with
  | nil => intro vs ds p h; obtain ⟨_, h, _⟩ := trodAll_nil h; rw [h]; rfl
  | cons t ts ih =>
    intro vs ds p h
    obtain ⟨v, vs', d, ds', p', q', rfl, rfl, rfl, h1, h2⟩ := trodAll_cons h
    simp [ih h2]

end Go.Eng
