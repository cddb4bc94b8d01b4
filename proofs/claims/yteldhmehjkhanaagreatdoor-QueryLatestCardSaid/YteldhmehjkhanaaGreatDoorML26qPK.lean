import Derived.Test.YteldhmehjkhanaaGreatDoorML26qPJ
set_option maxRecDepth 100000
namespace Go.Eng
open Go Go.RowKit Cr
def lookS (i:Nat):List (Nat × SV)->SV
 | []=>.junk
 | (j,v)::l=>match Nat.beq i j with
  | true=>v
  | false=>lookS i l
def slotsFrom:Nat->Nat->List (Nat × SV)->List SV
 | _,0,_=>[]
 | i,n+1,l=>lookS i l::slotsFrom (i+1) n l
def mkSt (n next:Nat) (slots:List (Nat × SV)) (blks:List (Nat × List Cell)):St:=⟨slotsFrom 0 n slots,blks,next⟩
def projS:List SV->List SV->List SV
 | _::l,.junk::m=>.junk::projS l m
 | s::l,_::m=>s::projS l m
 | _,_=>[]
def projB (B:Blks):List (Nat × List Cell)->List (Nat × List Cell)
 | []=>[]
 | (id,cs)::l=>match B id with
  | some ds=>(id,ds)::projB B l
  | none=>(id,.junk::cs)::projB B l
def St.proj (σ τ:St):St:=⟨projS σ.slots τ.slots,projB σ.B τ.blks,τ.next⟩
theorem projS_le {K:Prop}:∀ (l m:List SV),m=projS l m->l.length=m.length->K->leSlots l m K:=by
 intro l
 induction l with
 | nil=>intro m h hl hk;cases m with
  | nil=>exact hk
  | cons t m=>simp at hl
 | cons s l ih =>
  intro m h hl hk
  cases m with
  | nil=>simp at hl
  | cons t m =>
   by_cases ht:t=.junk
   ·subst ht
    simp only[projS,List.cons.injEq,true_and] at h
    exact ih m h (by simpa using hl) hk
   ·have e:projS (s::l) (t::m)=s::projS l m:=by
     cases t with
     | junk=>exact absurd rfl ht
     | _=>rfl
    rw[e] at h
    simp only[List.cons.injEq] at h
    have g:leSlots (s::l) (t::m) K=(leSV s t/\leSlots l m K):=by
     cases t with
     | junk=>exact absurd rfl ht
     | _=>rfl
    rw[g]
    exact⟨h.1▸leSV_refl _,ih m h.2 (by simpa using hl) hk⟩
theorem projB_le {B:Blks} {K:Prop}:∀ (l:List (Nat × List Cell)),l=projB B l->K->leBlks B l K:=by
 intro l
 induction l with
 | nil=>intro _ hk;exact hk
 | cons p l ih =>
  intro h hk
  obtain⟨id,cs⟩:=p
  simp only[projB] at h
  simp only[leBlks]
  split at h
  ·rename_i ds hds
   simp only[List.cons.injEq,Prod.mk.injEq,true_and] at h
   rw[hds]
   exact⟨h.1.symm,ih h.2 hk⟩
  ·simp only[List.cons.injEq,Prod.mk.injEq,true_and] at h
   have:=congrArg List.length h.1
   simp at this
theorem le_of_proj {W:Base} {σ τ:St} {K:Prop} (h:τ=σ.proj τ) (hb:(Nat.ble τ.next σ.next&&τ.wf&&Nat.ble W.top τ.next&&Nat.beq σ.slots.length τ.slots.length)=true) (hK:K):σ.le W τ K:=by
 simp only[Bool.and_eq_true] at hb
 unfold St.le
 have h1:τ.slots=projS σ.slots τ.slots:=by
  have:=congrArg St.slots h;exact this
 have h2:τ.blks=projB σ.B τ.blks:=by
  have:=congrArg St.blks h;exact this
 rw[show (Nat.ble τ.next σ.next&&τ.wf&&Nat.ble W.top τ.next)=true from by simp[hb.1.1.1,hb.1.1.2,hb.1.2]]
 exact projS_le _ _ h1 (beq_true hb.2) (projB_le _ h2 hK)
theorem vcx {X G:Prop} (h:X=G) (x:X):G:=h▸x
theorem vals_cons {ρ:Rho} {v:SV} {vs:List SV} {u:Value} {us:List Value} (h:v.rel ρ u) (hs:valsRel ρ vs us):valsRel ρ (v::vs) (u::us):=⟨u,us,rfl,h,hs⟩
def sI (k:IntKind) (a:Int):SV:=.is (.one (.v (.int k a)))
def sA (k:IntKind) (n:Nat) (xs:List Int):SV:=.is (.agg [.ints k n xs])
end Go.Eng
