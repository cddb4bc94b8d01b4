import Derived.Test.YtbeeaekepmnfhaaGreatDoorML24oPH
set_option maxRecDepth 100000
namespace Go.Eng
open Go Go.RowKit Cr
def TS (i:Nat):List (Nat × SV)->SV
 | []=>.junk
 | (j,v)::l=>match Nat.beq i j with
  | true=>v
  | false=>TS i l
def E0:Nat->Nat->List (Nat × SV)->List SV
 | _,0,_=>[]
 | i,n+1,l=>TS i l::E0 (i+1) n l
def aY (n next:Nat) (slots:List (Nat × SV)) (blks:List (Nat × List Cell)):St:=⟨E0 0 n slots,blks,next⟩
def tL:List SV->List SV->List SV
 | _::l,.junk::m=>.junk::tL l m
 | s::l,_::m=>s::tL l m
 | _,_=>[]
def zQ (B:bm):List (Nat × List Cell)->List (Nat × List Cell)
 | []=>[]
 | (id,cs)::l=>match B id with
  | some ds=>(id,ds)::zQ B l
  | none=>(id,.junk::cs)::zQ B l
def St.proj (σ τ:St):St:=⟨tL σ.slots τ.slots,zQ σ.B τ.blks,τ.next⟩
theorem Sr {K:Prop}:∀ (l m:List SV),m=tL l m->l.length=m.length->K->gH l m K:=by
 intro l
 induction l with
 | nil=>intro m h hl hk;cases m with
  | nil=>exact hk
  | cons t m=>simp at hl
 | cons s l ih =>
  intro m h hl hk
  cases m with
  | nil=>simp at hl
  | cons t m =>
   by_cases ht:t=.junk
   ·subst ht
    simp only[tL,List.cons.injEq,true_and] at h
    exact ih m h (by simpa using hl) hk
   ·have e:tL (s::l) (t::m)=s::tL l m:=by
     cases t with
     | junk=>exact absurd rfl ht
     | _=>rfl
    rw[e] at h
    simp only[List.cons.injEq] at h
    have g:gH (s::l) (t::m) K=(DM s t/\gH l m K):=by
     cases t with
     | junk=>exact absurd rfl ht
     | _=>rfl
    rw[g]
    exact⟨h.1▸O8 _,ih m h.2 (by simpa using hl) hk⟩
theorem Sq {B:bm} {K:Prop}:∀ (l:List (Nat × List Cell)),l=zQ B l->K->n5 B l K:=by
 intro l
 induction l with
 | nil=>intro _ hk;exact hk
 | cons p l ih =>
  intro h hk
  obtain⟨id,cs⟩:=p
  simp only[zQ] at h
  simp only[n5]
  split at h
  ·rename_i ds hds
   simp only[List.cons.injEq,Prod.mk.injEq,true_and] at h
   rw[hds]
   exact⟨h.1.symm,ih h.2 hk⟩
  ·simp only[List.cons.injEq,Prod.mk.injEq,true_and] at h
   have:=congrArg List.length h.1
   simp at this
theorem aC {W:bW} {σ τ:St} {K:Prop} (h:τ=σ.proj τ) (hb:(Nat.ble τ.next σ.next&&τ.wf&&Fs W.ids τ.next&&Nat.beq σ.slots.length τ.slots.length)=true) (hK:K):σ.le W τ K:=by
 simp only[Bool.and_eq_true] at hb
 unfold St.le
 have h1:τ.slots=tL σ.slots τ.slots:=by
  have:=congrArg St.slots h;exact this
 have h2:τ.blks=zQ σ.B τ.blks:=by
  have:=congrArg St.blks h;exact this
 rw[show (Nat.ble τ.next σ.next&&τ.wf&&Fs W.ids τ.next)=true from by simp[hb.1.1.1,hb.1.1.2,hb.1.2]]
 exact Sr _ _ h1 (beq_true hb.2) (Sq _ h2 hK)
theorem ao {X G:Prop} (h:X=G) (x:X):G:=h▸x
theorem qN {ρ:aH} {v:SV} {vs:List SV} {u:Value} {us:List Value} (h:v.rel ρ u) (hs:aW ρ vs us):aW ρ (v::vs) (u::us):=⟨u,us,rfl,h,hs⟩
def sI (k:IntKind) (a:Int):SV:=.is (.one (.v (.int k a)))
def sA (k:IntKind) (n:Nat) (xs:List Int):SV:=.is (.agg [.ints k n xs])
end Go.Eng
