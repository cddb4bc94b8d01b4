/- The engine (10): a cut behind which blocks bear other ids. -/
import Derived.Test.YtbfimfdhmggieaaDoorML11nPO
namespace Go.Eng
open Go Go.RowKit Cr
theorem tr_cutSF {E : Env} {N : Nat} {n r : St → Prop} {x : Nat → St → Prop} (hsp : SpecsOk E.P E.sp) (hm : E.P.follows .mixedOrders = true) {l : List Code} {σ : St} {α : Type} (k : Nat) (sw : St → List (Nat × Nat)) (f : St → α) (τ : α → St) (K : α → Prop) (h1 : VC E (l.take k) σ (fun σ' => σ'.leS E.w0 (sw σ') (τ (f (σ'.sws (sw σ')))) (K (f (σ'.sws (sw σ'))))) r x) (h2 : ∀ a, K a → Tr E N (l.drop k) (τ a) n r x) : Tr E N l σ n r x := by
  intro a w Q hh hn hr hx
  rw [← List.take_append_drop k l]
  refine WpL_append _ _ a w ?_
  refine tr_vc hsp hm _ _ h1 a w _ hh (fun σ' a' w' hh' h' => ?_) hr hx
  obtain ⟨hK, hτ⟩ := leS_spec h' hh'
  exact h2 _ hK a' w' Q hτ hn hr hx
end Go.Eng
