/- A value that nothing unfolds. -/
import Derived.Test.YtbfimfdhmggieaaDoorML11nPM
namespace Go.Eng
/-- The same; nothing unfolds it. -/
noncomputable def opq {α : Type} (x : α) : α := Classical.choose (⟨x, rfl⟩ : ∃ y, y = x)
theorem opq_eq {α : Type} (x : α) : opq x = x := Classical.choose_spec (⟨x, rfl⟩ : ∃ y, y = x)
end Go.Eng
