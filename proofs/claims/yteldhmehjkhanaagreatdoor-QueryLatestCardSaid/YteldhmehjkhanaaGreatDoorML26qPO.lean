import Derived.Test.YteldhmehjkhanaaGreatDoorML26qPN
set_option maxRecDepth 100000
namespace Go.Eng
open Go Go.RowKit Cr
def swI (a b i:Nat):Nat:=match Nat.beq i a with
 | true=>b
 | false=>match Nat.beq i b with
  | true=>a
  | false=>i
theorem swI_eq (a b i:Nat):swI a b i=if i=a then b else if i=b then a else i:=by
 unfold swI
 cases h1:Nat.beq i a with
 | true=>rw[if_pos (beq_true h1)]
 | false =>
  have h1:i≠a:=fun e=>by subst e;simp at h1
  rw[if_neg h1]
  cases h2:Nat.beq i b with
  | true=>rw[if_pos (beq_true h2)]
  | false =>
   have h2:i≠b:=fun e=>by subst e;simp at h2
   rw[if_neg h2]
theorem swI_inv (a b i:Nat):swI a b (swI a b i)=i:=by
 simp only[swI_eq]
 by_cases h1:i=a
 ·subst h1;by_cases h2:b=i<;>simp[h2]
 ·by_cases h2:i=b
  ·subst h2;simp[h1]
  ·simp[h1,h2]
def Cell.sw (a b:Nat):Cell->Cell
 | .ptr i off=>.ptr (swI a b i) off
 | .pe i base j c=>.pe (swI a b i) base j c
 | .sl i base off len c=>.sl (swI a b i) base off len c
 | .clo f l=>.clo f (l.map (swI a b))
 | c=>c
def TV.sw (a b:Nat):TV->TV
 | .one c=>.one (c.sw a b)
 | .agg cs=>.agg (cs.map (Cell.sw a b))
def SV.sw (a b:Nat):SV->SV
 | .is x=>.is (x.sw a b)
 | .tup l=>.tup (l.map (TV.sw a b))
 | s=>s
def St.sw (σ:St) (a b:Nat):St:=⟨σ.slots.map (SV.sw a b),σ.blks.map (fun p=>(swI a b p.1,p.2.map (Cell.sw a b))),σ.next⟩
def St.sws (σ:St):List (Nat × Nat)->St
 | []=>σ
 | p::l=>(σ.sw p.1 p.2).sws l
def Rho.sw (ρ:Rho) (a b:Nat):Rho:=⟨fun i=>ρ (swI a b i),fun i=>ρ.n (swI a b i),ρ.M⟩
theorem Rho.sw_at (ρ:Rho) (a b i:Nat):(ρ.sw a b) (swI a b i)=ρ i:=by simp[Rho.sw,swI_inv]
theorem Rho.sw_n (ρ:Rho) (a b i:Nat):(ρ.sw a b).n (swI a b i)=ρ.n i:=by simp[Rho.sw,swI_inv]
theorem cloCaps_sw {ρ:Rho} {a b:Nat}:∀ {l:List Nat} {vs:List Value},cloCaps ρ l vs->cloCaps (ρ.sw a b) (l.map (swI a b)) vs:=by
 intro l
 induction l with
 | nil=>intro vs h;exact h
 | cons i l ih=>intro vs ⟨x,us,h1,h2,h3⟩;exact⟨x,us,by rw[Rho.sw_at];exact h1,ih h2,h3⟩
theorem Cell.sw_rel {ρ:Rho} {a b:Nat} {c:Cell} {vs:List Value} (h:c.rel ρ vs):(c.sw a b).rel (ρ.sw a b) vs:=by
 cases c with
 | ptr i off=>obtain⟨x,h1,h2⟩:=h;exact⟨x,by rw[Rho.sw_at];exact h1,h2⟩
 | pe i base j c=>obtain⟨x,h1,h2⟩:=h;exact⟨x,by rw[Rho.sw_at];exact h1,h2⟩
 | sl i base off len c =>
  rcases h with h|⟨x,o,cap,h1,h2,h3,h4,h5⟩
  ·exact .inl h
  ·exact .inr ⟨x,o,cap,by rw[Rho.sw_at];exact h1,h2,h3,by rw[Rho.sw_n];exact h4,h5⟩
 | v x=>exact h
 | T=>exact h
 | F=>exact h
 | ints k n xs=>exact h
 | row e n xs=>exact h
 | ro e xs=>exact h
 | rp e xs i off=>exact h
 | fv e x=>exact h
 | clo f l=>obtain⟨us,h1,h2⟩:=h;exact⟨us,cloCaps_sw h1,h2⟩
 | rn e xs=>exact h
 | junk=>exact h
theorem cells_sw_rel {ρ:Rho} {a b:Nat} {cs:List Cell}:∀ {vs:List Value},cellsRel ρ cs vs->cellsRel (ρ.sw a b) (cs.map (Cell.sw a b)) vs:=by
 induction cs with
 | nil=>intro vs h;exact h
 | cons c cs ih=>intro vs ⟨v1,v2,e,h1,h2⟩;exact⟨v1,v2,e,Cell.sw_rel h1,ih h2⟩
theorem TV.sw_rel {ρ:Rho} {a b:Nat} {x:TV} {v:Value} (h:x.rel ρ v):(x.sw a b).rel (ρ.sw a b) v:=by
 cases x with
 | one c=>exact Cell.sw_rel h
 | agg cs=>obtain⟨l,e,hl⟩:=h;exact⟨l,e,cells_sw_rel hl⟩
theorem tup_sw_rel {ρ:Rho} {a b:Nat} {l:List TV}:∀ {vs:List Value},tupRel ρ l vs->tupRel (ρ.sw a b) (l.map (TV.sw a b)) vs:=by
 induction l with
 | nil=>intro vs h;exact h
 | cons t ts ih=>intro vs ⟨y,ys,e,h1,h2⟩;exact⟨y,ys,e,TV.sw_rel h1,ih h2⟩
theorem SV.sw_rel {ρ:Rho} {a b:Nat} {x:SV} {v:Value} (h:x.rel ρ v):(x.sw a b).rel (ρ.sw a b) v:=by
 cases x with
 | is x=>exact TV.sw_rel h
 | tup l=>obtain⟨vs,e,hl⟩:=h;exact⟨vs,e,tup_sw_rel hl⟩
 | undef=>exact h
 | junk=>trivial
theorem lookB_sw (a b:Nat):∀ (l:List (Nat × List Cell)) (i:Nat),lookB (l.map (fun p=>(swI a b p.1,p.2.map (Cell.sw a b)))) i=(lookB l (swI a b i)).map (List.map (Cell.sw a b)):=by
 intro l
 induction l with
 | nil=>intro i;rfl
 | cons p l ih =>
  intro i
  obtain⟨j,cs⟩:=p
  simp only[List.map_cons,lookB]
  have e:Nat.beq (swI a b j) i=Nat.beq j (swI a b i):=by
   rw[Bool.eq_iff_iff]
   constructor
   ·intro h;have:=beq_true h;rw[<- this,swI_inv];exact Nat.beq_refl _
   ·intro h;have:=beq_true h;rw[this,swI_inv];exact Nat.beq_refl _
  rw[e]
  cases Nat.beq j (swI a b i) with
  | true=>rfl
  | false=>exact ih i
def swOk (W:Base) (nx a b:Nat):Bool:=Nat.blt a nx&&Nat.blt b nx&&(Nat.ble W.top a&&Nat.ble W.top b)
theorem Holds.sw {W:Base} {n:Nat} {σ:St} {ac:Act} {w:World} {a b:Nat} (h:Holds W n σ ac w) (hok:swOk W σ.next a b=true):Holds W n (σ.sw a b) ac w:=by
 obtain⟨hn,ρ,hr,hd⟩:=h
 simp only[swOk,Bool.and_eq_true] at hok
 obtain⟨⟨ha,hb⟩,hids⟩:=hok
 have ha:=blt_true ha
 have hb:=blt_true hb
 have hB:∀ i cs,(σ.sw a b).B i=some cs->∃ ds,σ.B (swI a b i)=some ds/\cs=ds.map (Cell.sw a b):=by
  intro i cs h
  have:lookB (σ.blks.map (fun p=>(swI a b p.1,p.2.map (Cell.sw a b)))) i=some cs:=h
  rw[lookB_sw] at this
  obtain⟨ds,h1,h2⟩:=Option.map_eq_some_iff.1 this
  exact⟨ds,h1,h2.symm⟩
 refine⟨by simpa[St.sw] using hn,ρ.sw a b,⟨hr.defers,hr.size,?_,hr.below,?_,?_,?_,?_,?_,hr.old,hr.glob,hr.tops,hr.memle⟩,?_⟩
 ·intro t
  have:=SV.sw_rel (a:=a) (b:=b) (hr.slots t)
  have e:(σ.sw a b).S t=(σ.S t).sw a b:=by
   show (σ.slots.map (SV.sw a b)).getD t .junk=(σ.slots.getD t .junk).sw a b
   rw[List.getD_eq_getElem?_getD,List.getD_eq_getElem?_getD,List.getElem?_map]
   cases σ.slots[t]? <;> rfl
  rw[e];exact this
 ·intro i cs hi hne x hx
  obtain⟨ds,h1,h2⟩:=hB i cs hi
  subst h2
  obtain⟨l,g1,g2⟩:=hr.blks _ ds h1 (by intro e;subst e;exact hne rfl) x hx
  exact⟨l,g1,cells_sw_rel g2⟩
 ·intro i j cs cs' x h1 h2 h3 h4 h5 h6
  obtain⟨ds,k1,k2⟩:=hB i cs h1
  obtain⟨ds',k3,k4⟩:=hB j cs' h3
  have:=hr.inj _ _ ds ds' x k1 (by intro e;subst e;subst k2;exact h2 rfl) k3 (by intro e;subst e;subst k4;exact h4 rfl) h5 h6
  have:=congrArg (swI a b) this
  rwa [swI_inv,swI_inv] at this
 ·intro i x hx;exact hr.bound _ x hx
 ·intro p hp
  have h0:=hr.tops p hp
  have h1:p.1≠a:=fun e=>by have:=Nat.le_of_ble_eq_true hids.1;omega
  have h2:p.1≠b:=fun e=>by have:=Nat.le_of_ble_eq_true hids.2;omega
  have:swI a b p.1=p.1:=by rw[swI_eq,if_neg h1,if_neg h2]
  show ρ (swI a b p.1)=_/\ρ.n (swI a b p.1)=_
  rw[this];exact hr.init p hp
 ·intro x l hx
  obtain⟨h1,h2⟩:=hr.mem x l hx
  refine⟨fun i cs hi hne hρ=>?_,h2⟩
  obtain⟨ds,k1,k2⟩:=hB i cs hi
  exact h1 _ ds k1 (by intro e;subst e;subst k2;exact hne rfl) hρ
 ·intro i x hx
  have:=hd _ x hx
  show i<σ.next
  rw[swI_eq] at this
  split at this
  ·omega
  ·split at this<;>omega
def swsOk (W:Base) (nx:Nat):List (Nat × Nat)->Bool
 | []=>true
 | p::l=>swOk W nx p.1 p.2&&swsOk W nx l
theorem Holds.sws {W:Base} {n:Nat} {ac:Act} {w:World}:∀ {l:List (Nat × Nat)} {σ:St},Holds W n σ ac w->swsOk W σ.next l=true->Holds W n (σ.sws l) ac w:=by
 intro l
 induction l with
 | nil=>intro σ h _;exact h
 | cons p l ih =>
  intro σ h hok
  simp only[swsOk,Bool.and_eq_true] at hok
  exact ih (h.sw hok.1) hok.2
def St.leS (σ:St) (W:Base) (sw:List (Nat × Nat)) (τ:St) (K:Prop):Prop:=ifB (swsOk W σ.next sw) ((σ.sws sw).le W τ K)
theorem leS_spec {σ τ:St} {K:Prop} {W:Base} {sw:List (Nat × Nat)} {n:Nat} {a:Act} {w:World} (h:σ.leS W sw τ K) (hh:Holds W n σ a w):K/\Holds W n τ a w:=by
 unfold St.leS at h
 obtain⟨h1,h2⟩:=ifB_true h
 exact le_spec h2 (hh.sws h1)
section
variable {E:Env} {N:Nat} {n r:St->Prop} {x:Nat->St->Prop}
end
end Go.Eng
