import Derived.Test.YtbeeaekepmnfhaaGreatDoorML24oPAA
set_option maxRecDepth 100000
namespace Go.Eng
open Go Go.RowKit Cr
def fixF:SV->SV
 | .is (.one .F)=>.is (.one (.v (.bool false)))
 | .is (.one .T)=>.is (.one (.v (.bool true)))
 | s=>s
theorem RB (s:SV):mq s (fixF s):=by
 unfold fixF
 split
 ·exact fun ρ v h=>⟨h,rfl⟩
 ·exact fun ρ v h=>⟨h,rfl⟩
 ·exact fun ρ v h=>h
def MA (t:Nat) (σ:St):St:=⟨σ.slots.set t (fixF (σ.S t)),σ.blks,σ.next⟩
theorem OR {W:bW} {n:Nat} {σ:St} {a:Act} {w:World} (t:Nat) (s:SV) (hs:mq (σ.S t) s) (hh:ed W n σ a w):ed W n ⟨σ.slots.set t s,σ.blks,σ.next⟩ a w:=by
 obtain⟨hlen,ρ,hrep,hid⟩:=hh
 refine⟨by show (σ.slots.set t s).length=n;rw[List.length_set];exact hlen,ρ,{ hrep with slots:=?_ },hid⟩
 intro u
 have hu:=hrep.slots u
 show ((σ.slots.set t s).getD u .junk).rel ρ _
 rw[List.getD_eq_getElem?_getD,List.getElem?_set]
 split
 ·rename_i htu
  subst htu
  split
  ·exact hs ρ _ hu
  ·trivial
 ·rw[<- List.getD_eq_getElem?_getD];exact hu
theorem Lp {E:Env} {N:Nat} {n r:St->Prop} {x:Nat->St->Prop} (hsp:aN E.P E.sp) (hm:E.P.follows .mixedOrders=true) {l:List Code} {σ:St} {α:Type} (k t:Nat) (f:St->α) (τ:α->St) (K:α->Prop) (h1:VC E (l.take k) σ (fun σ'=>(MA t σ').le E.w0 (τ (f (MA t σ'))) (K (f (MA t σ')))) r x) (h2:∀ a,K a->Tr E N (l.drop k) (τ a) n r x):Tr E N l σ n r x:=by
 intro a w Q hh hn hr hx
 rw[<- List.take_append_drop k l]
 refine vM _ _ a w ?_
 refine bf hsp hm _ _ h1 a w _ hh (fun σ' a' w' hh' h'=>?_) hr hx
 obtain⟨hK,hτ⟩:=ji h' (OR t _ (RB _) hh')
 exact h2 _ hK a' w' Q hτ hn hr hx
end Go.Eng
