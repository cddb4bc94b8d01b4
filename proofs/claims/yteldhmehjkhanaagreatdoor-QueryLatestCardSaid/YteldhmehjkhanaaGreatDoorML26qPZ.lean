import Derived.Test.YteldhmehjkhanaaGreatDoorML26qPY
set_option maxRecDepth 100000
namespace Go.Eng
open Go Go.RowKit Cr
section
variable {E:Env} {ops:Array Oper} {n base:Nat} {Q:Exit->Act->World->Prop}
theorem seq_soundK (hsp:SpecsOk E.P E.sp) {tl:List Nat}:∀ (l:List (Oper × Rec)) (i:Nat) (S:Slots) (B:Blks) (ρ:Rho) (a:Act) (w:World),TrOk E ops n base i l S B ->
  (∀ k p,l[k]?=some p->ops[i+k]?=some p.1)->RepL E.w0 n S B ρ a w->(∀ id b,ρ id=some b->id<base+8*i) ->
  (∀ a' w' ρ',RepL E.w0 n (allS n l S) (allB l B) ρ' a' w'->(∀ id b,ρ' id=some b->id<base+8*(i+l.length))->wpOps E.P ops Q tl a' w') ->
  wpOps E.P ops Q (List.range' i l.length++tl) a w:=by
 intro l
 induction l with
 | nil=>intro i S B ρ a w _ _ hr hd hq;exact hq a w ρ hr (by simpa using hd)
 | cons p l ih =>
  intro i S B ρ a w ht hops hr hd hq
  obtain⟨o,r⟩:=p
  obtain⟨hs,ht⟩:=ht
  have ho:=hops 0 (o,r) rfl
  simp only[Nat.add_zero] at ho
  simp only[List.length_cons,List.range'_succ,List.cons_append]
  unfold wpOps
  simp only[ho]
  refine stepOk_sound hsp hr hs (fun j h1 _=>?_) (fun a' w' ρ' hr' hdom=>?_)
  ·cases hj:ρ j with
   | none=>rfl
   | some b=>have:=hd j b hj;omega
  ·refine ih (i+1) _ _ ρ' a' w' ht (fun k q hk=>?_) hr' (fun j b hj=>?_) (fun a2 w2 ρ2 h2 hd2=>?_)
   ·have:=hops (k+1) q (by simpa using hk)
    rw[show i+1+k=i+(k+1) from by omega];exact this
   ·rcases hdom j b hj with h|h
    ·have:=hd j b h;omega
    ·omega
   ·refine hq a2 w2 ρ2 ?_ (fun j b hj=>?_)
    ·unfold allS allB at *
     simp only[foldS,foldB]
     rw[foldS_shift n l (0+1) 0,foldB_shift l (0+1) 0]
     exact h2
    ·have:=hd2 j b hj;simp only[List.length_cons];omega
theorem ops_run (hsp:SpecsOk E.P E.sp) {tl:List Nat} {os:List Oper} {i N:Nat} {σ:St} {K:St->List Rec->Prop} {a:Act} {w:World} {ρ:Rho} (h:runR E ops i os σ [] K) (hops:∀ k o,os[k]?=some o->ops[i+k]?=some o)
  (hN:σ.slots.length=N) (hr:RepL E.w0 N σ.S σ.B ρ a w) (hd:∀ id b,ρ id=some b->id<σ.next+8*i)
  (hq:∀ σ' rs a' w',Holds E.w0 N { σ' with next:=σ'.next+8*(i+os.length) } a' w'->K σ' rs->wpOps E.P ops Q tl a' w'):wpOps E.P ops Q (List.range' i os.length++tl) a w:=by
 obtain⟨rs,σ',h1,h2,h3,h4,h5,h6,h7⟩:=runR_sound _ _ _ _ _ h
 have hlen:(os.zip rs).length=os.length:=by simp[h1]
 rw[hN] at h2 h3 h6
 rw[<- hlen]
 refine seq_soundK hsp (os.zip rs) i σ.S σ.B ρ a w h2 (fun k p hk=>?_) hr hd (fun a' w' ρ' hr' hd'=>?_)
 ·have:=List.getElem?_zip_eq_some.1 hk
  exact hops k p.1 this.1
 ·refine hq σ' _ a' w' ⟨h6,ρ',?_,?_⟩ h7
  ·have e1:({ σ' with next:=σ'.next+8*(i+os.length) }:St).S=allS N (os.zip rs) σ.S:=by
    show σ'.S=_
    rw[h3];unfold allS;exact foldS_shift N _ i 0 σ.S
   have e2:({ σ' with next:=σ'.next+8*(i+os.length) }:St).B=allB (os.zip rs) σ.B:=by
    show σ'.B=_
    rw[h4];unfold allB;exact foldB_shift _ i 0 σ.B
   rw[e1,e2];exact hr'
  ·intro id b hi
   show id<σ'.next+8*(i+os.length)
   have:=hd' id b hi
   rw[hlen] at this
   rw[h5];exact this
end
section
variable {E:Env}
def liveIds (ρ:Rho) (nx:Nat):List (Nat × Nat):=(List.range nx).filterMap fun i=>(ρ i).map fun b=>(i,b)
theorem liveIds_mem {ρ:Rho} {nx:Nat} {p:Nat × Nat}:p∈liveIds ρ nx↔p.1<nx/\ρ p.1=some p.2:=by
 unfold liveIds
 rw[List.mem_filterMap]
 constructor
 ·rintro⟨i,hi,h⟩
  obtain⟨b,hb,rfl⟩:=Option.map_eq_some_iff.1 h
  exact⟨List.mem_range.1 hi,hb⟩
 ·rintro⟨h1,h2⟩
  exact⟨p.1,List.mem_range.2 h1,by rw[h2];rfl⟩
end
end Go.Eng
