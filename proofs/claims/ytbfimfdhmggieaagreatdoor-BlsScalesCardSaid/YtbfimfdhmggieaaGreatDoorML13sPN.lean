import Derived.Test.YtbfimfdhmggieaaGreatDoorML13sPM
set_option maxRecDepth 100000
namespace Go.Eng
noncomputable def opq {α : Type} (x : α) : α:=Classical.choose (⟨x,rfl⟩ : ∃ y,y=x)
theorem opq_eq {α : Type} (x : α) : opq x=x:=Classical.choose_spec (⟨x,rfl⟩ : ∃ y,y=x)
end Go.Eng
