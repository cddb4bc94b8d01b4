import Derived.Test.YteldhmehjkhanaaGreatDoorML26qPZ
set_option maxRecDepth 100000
namespace Go.Eng
open Go Go.RowKit Cr
structure Kep (S:Nat->Prop) (w w':World):Prop where
 os:w'.os=w.os
 tape:w'.tape=w.tape
 output:w'.output=w.output
 size:w.heap.size<=w'.heap.size
 block:∀ k,k<w.heap.size->¬ S k->w'.heap[k]?=w.heap[k]?
structure Gho where
 P:World->(Nat->Prop)->Prop
 stable:∀ w w' F,P w F->(∀ b,F b->w'.heap[b]?=w.heap[b]?)->P w' F
 lt:∀ w F,P w F->∀ b,F b->b<w.heap.size
def Gho.none:Gho:=⟨fun _ F=>∀ b,¬ F b,fun _ _ _ h _=>h,fun _ _ h b hb=>(h b hb).elim⟩
structure GEnv where
 P:Program
 sp:FuncId->Option Spec
 gl:Nat->Option (Sigma Car)
 w:World
 S:Nat->Prop
 M:Mem
structure GOk (E:GEnv) (W:Base) (F:Nat->Prop):Prop where
 gl:W.gl=E.gl
 kep:Kep E.S E.w W.w
 ids:∀ p∈W.ids,E.S p.2\/E.w.heap.size<=p.2
 foot:∀ b,F b->E.S b\/E.w.heap.size<=b
 own:∀ b,F b->W.own b=false
 mem:∀ b,F b->∀ l,W.M b≠some l
 old:∀ b l,W.M b=some l->b<E.w.heap.size->E.S b\/E.M b=some l
def GH (E:GEnv) (N:Nat) (σ:St) (G:Gho) (a:Act) (w:World):Prop :=
 ∃ W F,GOk E W F/\G.P W.w F/\Holds W N σ a w
abbrev reb (w:World) (gl:Nat->Option (Sigma Car)) (ρ:Rho) (nx:Nat):Base:=⟨w,liveIds ρ nx,gl,ρ.M,fun p=>ρ.n p.1,nx⟩
theorem own_live {w:World} {gl:Nat->Option (Sigma Car)} {ρ:Rho} {nx:Nat} {b:Nat}:(reb w gl ρ nx).own b=true↔∃ id,id<nx/\ρ id=some b:=by
 simp only[Base.own,List.any_eq_true]
 constructor
 ·rintro⟨p,hp,e⟩
  have e:p.2=b:=by simpa using e
  exact⟨p.1,(liveIds_mem.1 hp).1,by rw[<- e];exact (liveIds_mem.1 hp).2⟩
 ·rintro⟨id,h1,h2⟩
  exact⟨(id,b),liveIds_mem.2 ⟨h1,h2⟩,by simp⟩
theorem rep_reb {W:Base} {N:Nat} {S:Slots} {B:Blks} {ρ:Rho} {a:Act} {w:World} {nx:Nat} (hr:RepL W N S B ρ a w) (hd:∀ id b,ρ id=some b->id<nx):RepL (reb w W.gl ρ nx) N S B ρ a w :=
 ⟨hr.defers,hr.size,hr.slots,Keeps.refl (reb w W.gl ρ nx),hr.blks,hr.inj,fun id b h=>⟨.inr (own_live.2 ⟨id,hd id b h,h⟩),(hr.bound id b h).2⟩,
  fun p hp=>⟨(liveIds_mem.1 hp).2,rfl⟩,hr.mem,fun b l h _=>.inr h,hr.glob,fun p hp=>(liveIds_mem.1 hp).1,Mem.le_refl _⟩
theorem gok_reb {E:GEnv} {W:Base} {F:Nat->Prop} {N:Nat} {S:Slots} {B:Blks} {ρ:Rho} {a:Act} {w:World} {nx:Nat} (h:GOk E W F) (hF:∀ b,F b->b<W.w.heap.size) (hr:RepL W N S B ρ a w):GOk E (reb w E.gl ρ nx) F/\∀ b,F b->w.heap[b]?=W.w.heap[b]?:=by
 have hown:∀ k,E.w.heap.size>k->¬ E.S k->W.own k=false:=by
  intro k hk hs
  cases hc:W.own k with
  | false=>rfl
  | true =>
   simp only[Base.own,List.any_eq_true] at hc
   obtain⟨p,hp,e⟩:=hc
   have e:p.2=k:=by simpa using e
   rcases h.ids p hp with h'|h'
   ·exact absurd (e▸h') hs
   ·omega
 have hmine:∀ id b,ρ id=some b->W.mine b:=fun id b hb=>(hr.bound id b hb).1
 refine⟨⟨rfl,⟨hr.below.os.trans h.kep.os,hr.below.tape.trans h.kep.tape,hr.below.output.trans h.kep.output,Nat.le_trans h.kep.size hr.below.size,fun k hk hs=>?_⟩,fun p hp=>?_,h.foot,fun b hb=>?_,fun b hb l hl=>?_,fun b l hb hlt=>?_⟩,fun b hb=>hr.below.block b (hF b hb) (h.own b hb)⟩
 ·have:=h.kep.size
  exact (hr.below.block k (by omega) (hown k hk hs)).trans (h.kep.block k hk hs)
 ·have:=h.kep.size
  rcases hmine p.1 p.2 (liveIds_mem.1 hp).2 with h'|h'
  ·exact .inr (by omega)
  ·simp only[Base.own,List.any_eq_true] at h'
   obtain⟨q,hq,e⟩:=h'
   have e:q.2=p.2:=by simpa using e
   have:=h.ids q hq
   rw[e] at this;exact this
 ·cases hc:(reb w E.gl ρ nx).own b with
  | false=>rfl
  | true =>
   obtain⟨id,_,h2⟩:=own_live.1 hc
   rcases hmine id b h2 with h'|h'
   ·have:=hF b hb;omega
   ·rw[h.own b hb] at h';cases h'
 ·rcases hr.old b l hl (hF b hb) with h'|h'
  ·rw[h.own b hb] at h';cases h'
  ·exact h.mem b hb l h'
 ·have hs:=h.kep.size
  rcases hr.old b l hb (by omega) with h'|h'
  ·by_cases hS:E.S b
   ·exact .inl hS
   ·rw[hown b hlt hS] at h';cases h'
  ·exact h.old b l h' hlt
theorem GH.rebase {E:GEnv} {N:Nat} {σ:St} {G:Gho} {a:Act} {w:World} (h:GH E N σ G a w) :
  ∃ F ρ,GOk E (reb w E.gl ρ σ.next) F/\G.P w F/\σ.slots.length=N/\RepL (reb w E.gl ρ σ.next) N σ.S σ.B ρ a w/\∀ id b,ρ id=some b->id<σ.next:=by
 obtain⟨W,F,hk,hG,hN,ρ,hr,hd⟩:=h
 obtain⟨h1,h2⟩:=gok_reb (nx:=σ.next) hk (G.lt _ _ hG) hr
 refine⟨F,ρ,h1,G.stable _ _ _ hG h2,hN,?_,hd⟩
 have:=rep_reb (nx:=σ.next) hr hd
 rw[hk.gl] at this
 exact this
abbrev base0 (E:GEnv):Base:=⟨E.w,[],E.gl,fun _=>Option.none,fun _=>0,0⟩
theorem GH.le {E:GEnv} {N:Nat} {σ τ:St} {G:Gho} {a:Act} {w:World} {K:Prop} (hh:GH E N σ G a w) (h:σ.le (base0 E) τ K):K/\GH E N τ G a w:=by
 obtain⟨F,ρ,hk,hG,hN,hr,hd⟩:=hh.rebase
 unfold St.le at h
 obtain⟨hb,h⟩:=ifB_true h
 simp only[Bool.and_eq_true] at hb
 obtain⟨⟨hnext,hwf⟩,_⟩:=hb
 have hnext:τ.next<=σ.next:=by simpa[Nat.ble_eq] using hnext
 obtain⟨h,hlen,hslots⟩:=leSlots_spec h
 obtain⟨hK,hblks⟩:=leBlks_spec h
 simp only[St.wf,Bool.and_eq_true,List.all_eq_true] at hwf
 obtain⟨hw1,hw2⟩:=hwf
 have hsub:∀ i b,(ρ.cut τ.next) i=some b->ρ i=some b:=by
  intro i b h
  simp only[Rho.cut] at h
  by_cases hi:i<τ.next
  ·simpa[hi] using h
  ·simp[hi] at h
 have hdom:∀ i b,(ρ.cut τ.next) i=some b->i<τ.next:=by
  intro i b h
  simp only[Rho.cut] at h
  by_cases hi:i<τ.next
  ·exact hi
  ·simp[hi] at h
 refine⟨hK,reb w E.gl (ρ.cut τ.next) τ.next,F,⟨rfl,hk.kep,fun p hp=>?_,hk.foot,fun b hb=>?_,fun b hb l hl=>hk.mem b hb l hl,hk.old⟩,hG,by rw[<- hlen];exact hN,ρ.cut τ.next,
  ⟨hr.defers,hr.size,?_,Keeps.refl _,?_,?_,?_,fun p hp=>⟨(liveIds_mem.1 hp).2,rfl⟩,?_,fun b l h _=>.inr h,hr.glob,fun p hp=>(liveIds_mem.1 hp).1,Mem.le_refl _⟩,hdom⟩
 ·have hp:=(liveIds_mem.1 hp).2
  refine hk.ids p (liveIds_mem.2 ⟨hd _ _ (hsub _ _ hp),hsub _ _ hp⟩)
 ·cases hc:(reb w E.gl (ρ.cut τ.next) τ.next).own b with
  | false=>rfl
  | true =>
   obtain⟨id,_,h2⟩:=own_live.1 hc
   have:=hk.own b hb
   rw[own_live.2 ⟨id,hd _ _ (hsub _ _ h2),hsub _ _ h2⟩] at this
   cases this
 ·intro t
  rcases hslots t with h|h
  ·show (τ.slots.getD t .junk).rel _ _
   rw[h];trivial
  ·have:=hr.slots t
   show (τ.slots.getD t .junk).rel _ _
   have this:(τ.slots.getD t .junk).rel ρ _:=h _ _ this
   refine SV.rel_restr this ?_
   cases hq:τ.slots[t]? with
   | none=>simp[hq,SV.below,SV.ids]
   | some v=>simpa[hq] using hw1 v (List.mem_of_getElem? hq)
 ·intro id cs hid hne b hb
  have hmem:=lookB_mem hid
  obtain⟨l,h3,h4⟩:=hr.blks id cs (hblks _ hmem) hne b (hsub _ _ hb)
  have hw:=hw2 _ hmem
  refine⟨l,h3,cellsRel_restr h4 (fun c hc i hi=>?_)⟩
  have:=hw.2 c hc i hi
  simpa[Nat.blt_eq] using this
 ·intro i j cs cs' b h1 h2 h3 h4 h5 h6
  exact hr.inj i j cs cs' b (hblks _ (lookB_mem h1)) h2 (hblks _ (lookB_mem h3)) h4 (hsub _ _ h5) (hsub _ _ h6)
 ·intro i b h
  exact⟨.inr (own_live.2 ⟨i,hdom _ _ h,h⟩),(hr.bound i b (hsub _ _ h)).2⟩
 ·intro b l hb
  obtain⟨h1,h2⟩:=hr.mem b l hb
  exact⟨fun i cs hi hne hρ=>h1 i cs (hblks _ (lookB_mem hi)) hne (hsub _ _ hρ),h2⟩
theorem swI_lt {a b i m:Nat} (ha:a<m) (hb:b<m) (h:swI a b i<m):i<m:=by
 rw[swI_eq] at h
 split at h
 ·omega
 ·split at h<;>omega
theorem GH.sw {E:GEnv} {N:Nat} {σ:St} {G:Gho} {ac:Act} {w:World} {a b:Nat} (hh:GH E N σ G ac w) (hok:swOk (base0 E) σ.next a b=true):GH E N (σ.sw a b) G ac w:=by
 obtain⟨F,ρ,hk,hG,hn,hr,hd⟩:=hh.rebase
 simp only[swOk,Bool.and_eq_true] at hok
 obtain⟨⟨ha,hb⟩,_⟩:=hok
 have ha:=blt_true ha
 have hb:=blt_true hb
 have hB:∀ i cs,(σ.sw a b).B i=some cs->∃ ds,σ.B (swI a b i)=some ds/\cs=ds.map (Cell.sw a b):=by
  intro i cs h
  have:lookB (σ.blks.map (fun p=>(swI a b p.1,p.2.map (Cell.sw a b)))) i=some cs:=h
  rw[lookB_sw] at this
  obtain⟨ds,h1,h2⟩:=Option.map_eq_some_iff.1 this
  exact⟨ds,h1,h2.symm⟩
 have hdom:∀ id x,(ρ.sw a b) id=some x->id<σ.next:=fun id x hx=>swI_lt ha hb (hd _ x hx)
 refine⟨reb w E.gl (ρ.sw a b) σ.next,F,⟨rfl,hk.kep,fun p hp=>?_,hk.foot,fun c hc=>?_,hk.mem,hk.old⟩,hG,by simpa[St.sw] using hn,ρ.sw a b,⟨hr.defers,hr.size,?_,Keeps.refl _,?_,?_,?_,fun p hp=>⟨(liveIds_mem.1 hp).2,rfl⟩,?_,fun c l h _=>.inr h,hr.glob,fun p hp=>(liveIds_mem.1 hp).1,Mem.le_refl _⟩,hdom⟩
 ·have hp:ρ (swI a b p.1)=some p.2:=(liveIds_mem.1 hp).2
  exact hk.ids (swI a b p.1,p.2) (liveIds_mem.2 ⟨hd _ _ hp,hp⟩)
 ·cases hq:(reb w E.gl (ρ.sw a b) σ.next).own c with
  | false=>rfl
  | true =>
   obtain⟨id,_,h2⟩:=own_live.1 hq
   have h2:ρ (swI a b id)=some c:=h2
   have:=hk.own c hc
   rw[own_live.2 ⟨_,hd _ _ h2,h2⟩] at this
   cases this
 ·intro t
  have:=SV.sw_rel (a:=a) (b:=b) (hr.slots t)
  have e:(σ.sw a b).S t=(σ.S t).sw a b:=by
   show (σ.slots.map (SV.sw a b)).getD t .junk=(σ.slots.getD t .junk).sw a b
   rw[List.getD_eq_getElem?_getD,List.getD_eq_getElem?_getD,List.getElem?_map]
   cases σ.slots[t]? <;> rfl
  rw[e];exact this
 ·intro i cs hi hne x hx
  obtain⟨ds,h1,h2⟩:=hB i cs hi
  subst h2
  obtain⟨l,g1,g2⟩:=hr.blks _ ds h1 (by intro e;subst e;exact hne rfl) x hx
  exact⟨l,g1,cells_sw_rel g2⟩
 ·intro i j cs cs' x h1 h2 h3 h4 h5 h6
  obtain⟨ds,k1,k2⟩:=hB i cs h1
  obtain⟨ds',k3,k4⟩:=hB j cs' h3
  have:=hr.inj _ _ ds ds' x k1 (by intro e;subst e;subst k2;exact h2 rfl) k3 (by intro e;subst e;subst k4;exact h4 rfl) h5 h6
  have:=congrArg (swI a b) this
  rwa [swI_inv,swI_inv] at this
 ·intro i x hx;exact⟨.inr (own_live.2 ⟨i,hdom i x hx,hx⟩),(hr.bound _ x hx).2⟩
 ·intro x l hx
  obtain⟨h1,h2⟩:=hr.mem x l hx
  refine⟨fun i cs hi hne hρ=>?_,h2⟩
  obtain⟨ds,k1,k2⟩:=hB i cs hi
  exact h1 _ ds k1 (by intro e;subst e;subst k2;exact hne rfl) hρ
theorem GH.sws {E:GEnv} {N:Nat} {G:Gho} {ac:Act} {w:World}:∀ {l:List (Nat × Nat)} {σ:St},GH E N σ G ac w->swsOk (base0 E) σ.next l=true->GH E N (σ.sws l) G ac w:=by
 intro l
 induction l with
 | nil=>intro σ h _;exact h
 | cons p l ih =>
  intro σ h hok
  simp only[swsOk,Bool.and_eq_true] at hok
  exact ih (h.sw hok.1) hok.2
theorem GH.leS {E:GEnv} {N:Nat} {σ τ:St} {G:Gho} {a:Act} {w:World} {K:Prop} {sw:List (Nat × Nat)} (hh:GH E N σ G a w) (h:σ.leS (base0 E) sw τ K):K/\GH E N τ G a w:=by
 unfold St.leS at h
 obtain⟨h1,h2⟩:=ifB_true h
 exact (hh.sws h1).le h2
theorem GH.mono {E:GEnv} {N:Nat} {σ:St} {G G':Gho} {a:Act} {w:World} (h:GH E N σ G a w) (hg:∀ w F,G.P w F->G'.P w F):GH E N σ G' a w:=by
 obtain⟨W,F,h1,h2,h3⟩:=h
 exact⟨W,F,h1,hg _ _ h2,h3⟩
def GTr (P:Program) (l:List Code) (Pre n r:Act->World->Prop) (x:Nat->Act->World->Prop):Prop :=
 ∀ (a:Act) (w:World) (Q:Exit->Act->World->Prop),Pre a w->(∀ a w,n a w->Q .normal a w)->(∀ a w,r a w->Q .ret a w)->(∀ i a w,x i a w->Q (.exit i) a w)->WpL P l Q a w
section
variable {P:Program} {Pre n r:Act->World->Prop} {x:Nat->Act->World->Prop}
theorem gtr_nil (h:∀ a w,Pre a w->n a w):GTr P [] Pre n r x:=fun a w _ hp hn _ _=>hn a w (h a w hp)
theorem gtr_ex {α:Type} {l:List Code} {Pre':α->Act->World->Prop} (h:∀ a w,Pre a w->∃ g,Pre' g a w) (h2:∀ g,GTr P l (Pre' g) n r x):GTr P l Pre n r x:=fun a w Q hp=>by
 obtain⟨g,hg⟩:=h a w hp
 exact h2 g a w Q hg
theorem gtr_app {l1 l2:List Code} (mid:Act->World->Prop) (h1:GTr P l1 Pre mid r x) (h2:GTr P l2 mid n r x):GTr P (l1++l2) Pre n r x:=by
 intro a w Q hp hn hr hx
 refine WpL_append _ _ a w (h1 a w _ hp (fun a' w' hm=>?_) (fun a' w' h=>hr a' w' h) (fun i a' w' h=>hx i a' w' h))
 exact h2 a' w' Q hm hn hr hx
theorem gtr_loop {α β:Type} {l:List Code} {c:Code} (I:α->Act->World->Prop) (μ:α->Nat) (out:β->Act->World->Prop) (hl:l.head?=some c) (hc:isBlockLoop c=true) (h0:∀ a w,Pre a w->∃ g,I g a w)
  (hb:∀ g,GTr P (loopOf c) (I g) (fun a w=>∃ g',I g' a w/\μ g'<μ g) r (fun i a w=>match Nat.beq i (blockId c) with|true=>∃ o,out o a w|false=>x i a w))
  (ha:∀ o,GTr P l.tail (out o) n r x):GTr P l Pre n r x:=by
 intro a w Q hp hn hr hx
 cases l with
 | nil=>simp at hl
 | cons d l =>
  simp at hl;subst hl
  unfold isBlockLoop at hc
  split at hc
  ·rename_i id b
   obtain⟨g0,h0⟩:=h0 a w hp
   refine wp_block ?_
   refine wp_loop_ghost (fun m a w=>∃ g,μ g=m/\I g a w) (μ g0) ⟨g0,rfl,h0⟩ ?_
   rintro m a w ⟨g,rfl,hg⟩
   have key:=hb g a w (Exit.then (fun a' w'=>∃ n',n'<μ g/\∃ g,μ g=n'/\I g a' w') (Exit.inBlock id (Exit.then (WpL P l Q) Q))) hg ?_ ?_ ?_
   ·have:=wp_flat b [] _ a w (by simpa[loopOf] using key)
    refine wp_mono this ?_
    intro e a' w' he
    cases e<;>exact he
   ·rintro a' w' ⟨g',h1,h2⟩
    exact⟨μ g',h2,g',rfl,h1⟩
   ·intro a' w' h';exact hr a' w' h'
   ·intro i a' w' h'
    show Exit.inBlock id (Exit.then (WpL P l Q) Q) (.exit i) a' w'
    simp only[Exit.inBlock]
    by_cases hi:i=id
    ·subst hi
     rw[if_pos rfl]
     simp only[blockId,Nat.beq_refl] at h'
     obtain⟨o,h'⟩:=h'
     exact ha o a' w' Q h' hn hr hx
    ·rw[if_neg hi]
     have:Nat.beq i id=false:=by
      cases hb:Nat.beq i id with
      | false=>rfl
      | true=>exact absurd (beq_true hb) hi
     simp only[blockId,this] at h'
     exact hx i a' w' h'
  ·cases hc
end
section
variable {E:GEnv} {N:Nat} {n r:Act->World->Prop} {x:Nat->Act->World->Prop}
theorem gtr_tr {l:List Code} {σ:St} {G:Gho} (nn rr:St->Prop) (xx:Nat->St->Prop)
  (h:∀ (w:World) (ids:List (Nat × Nat)) (M:Mem) (num:Nat × Nat->Nat),Tr ⟨E.P,E.sp,⟨w,ids,E.gl,M,num,σ.next⟩⟩ N l σ nn rr xx)
  (hn:∀ σ' a w,nn σ'->GH E N σ' G a w->n a w) (hr:∀ σ' a w,rr σ'->GH E N σ' G a w->r a w) (hx:∀ i σ' a w,xx i σ'->GH E N σ' G a w->x i a w):GTr E.P l (GH E N σ G) n r x:=by
 intro a w Q hh kn kr kx
 obtain⟨F,ρ,hk,hG,hN,hrep,hd⟩:=hh.rebase
 exact h w (liveIds ρ σ.next) ρ.M (fun p=>ρ.n p.1) a w Q ⟨hN,ρ,hrep,hd⟩ (fun σ' a' w' hh' h'=>kn a' w' (hn σ' a' w' h' ⟨_,F,hk,hG,hh'⟩))
  (fun σ' a' w' hh' h'=>kr a' w' (hr σ' a' w' h' ⟨_,F,hk,hG,hh'⟩)) (fun i σ' a' w' hh' h'=>kx i a' w' (hx i σ' a' w' h' ⟨_,F,hk,hG,hh'⟩))
theorem gtr_vc (hsp:SpecsOk E.P E.sp) (hm:E.P.follows .mixedOrders=true) {l:List Code} {σ:St} {G:Gho} (nn rr:St->Prop) (xx:Nat->St->Prop)
  (h:∀ (w:World) (ids:List (Nat × Nat)) (M:Mem) (num:Nat × Nat->Nat),VC ⟨E.P,E.sp,⟨w,ids,E.gl,M,num,σ.next⟩⟩ l σ nn rr xx)
  (hn:∀ σ' a w,nn σ'->GH E N σ' G a w->n a w) (hr:∀ σ' a w,rr σ'->GH E N σ' G a w->r a w) (hx:∀ i σ' a w,xx i σ'->GH E N σ' G a w->x i a w):GTr E.P l (GH E N σ G) n r x :=
 gtr_tr nn rr xx (fun w ids M num=>tr_vc (E:=⟨E.P,E.sp,⟨w,ids,E.gl,M,num,σ.next⟩⟩) hsp hm l σ (h w ids M num)) hn hr hx
theorem gtr_cut (hsp:SpecsOk E.P E.sp) (hm:E.P.follows .mixedOrders=true) {l:List Code} {σ:St} {G:Gho} {α:Type} (k:Nat) (f:St->α) (τ:α->St) (K:α->Prop) (rr:St->Prop) (xx:Nat->St->Prop)
  (h:∀ (w:World) (ids:List (Nat × Nat)) (M:Mem) (num:Nat × Nat->Nat),VC ⟨E.P,E.sp,⟨w,ids,E.gl,M,num,σ.next⟩⟩ (l.take k) σ (fun σ'=>σ'.le (base0 E) (τ (f σ')) (K (f σ'))) rr xx)
  (h2:∀ g,K g->GTr E.P (l.drop k) (GH E N (τ g) G) n r x) (hr:∀ σ' a w,rr σ'->GH E N σ' G a w->r a w) (hx:∀ i σ' a w,xx i σ'->GH E N σ' G a w->x i a w):GTr E.P l (GH E N σ G) n r x:=by
 rw[<- List.take_append_drop k l]
 refine gtr_app (fun a w=>∃ g,K g/\GH E N (τ g) G a w) (gtr_vc hsp hm _ rr xx h (fun σ' a w h' hh=>⟨_,hh.le h'⟩) hr hx) ?_
 exact gtr_ex (Pre':=fun (g:{ g // K g })=>GH E N (τ g.1) G) (fun a w ⟨g,hg,hh⟩=>⟨⟨g,hg⟩,hh⟩) (fun g=>h2 g.1 g.2)
theorem gtr_cutS (hsp:SpecsOk E.P E.sp) (hm:E.P.follows .mixedOrders=true) {l:List Code} {σ:St} {G:Gho} {α:Type} (k:Nat) (sw:List (Nat × Nat)) (f:St->α) (τ:α->St) (K:α->Prop) (rr:St->Prop) (xx:Nat->St->Prop)
  (h:∀ (w:World) (ids:List (Nat × Nat)) (M:Mem) (num:Nat × Nat->Nat),VC ⟨E.P,E.sp,⟨w,ids,E.gl,M,num,σ.next⟩⟩ (l.take k) σ (fun σ'=>σ'.leS (base0 E) sw (τ (f (σ'.sws sw))) (K (f (σ'.sws sw)))) rr xx)
  (h2:∀ g,K g->GTr E.P (l.drop k) (GH E N (τ g) G) n r x) (hr:∀ σ' a w,rr σ'->GH E N σ' G a w->r a w) (hx:∀ i σ' a w,xx i σ'->GH E N σ' G a w->x i a w):GTr E.P l (GH E N σ G) n r x:=by
 rw[<- List.take_append_drop k l]
 refine gtr_app (fun a w=>∃ g,K g/\GH E N (τ g) G a w) (gtr_vc hsp hm _ rr xx h (fun σ' a w h' hh=>⟨_,hh.leS h'⟩) hr hx) ?_
 exact gtr_ex (Pre':=fun (g:{ g // K g })=>GH E N (τ g.1) G) (fun a w ⟨g,hg,hh⟩=>⟨⟨g,hg⟩,hh⟩) (fun g=>h2 g.1 g.2)
theorem gtr_block {l:List Code} {c:Code} {Pre:Act->World->Prop} (mid:Act->World->Prop) (hl:l.head?=some c) (hc:isBlock c=true)
  (h1:GTr E.P (bodyOf c) Pre mid r (fun i a w=>match Nat.beq i (blockId c) with|true=>mid a w|false=>x i a w)) (h2:GTr E.P l.tail mid n r x):GTr E.P l Pre n r x:=by
 intro a w Q hp hn hr hx
 cases l with
 | nil=>simp at hl
 | cons d l =>
  simp at hl;subst hl
  unfold isBlock at hc
  split at hc
  ·rename_i id b
   refine wp_block ?_
   have key:=h1 a w (Exit.inBlock id (Exit.then (WpL E.P l Q) Q)) hp (fun a' w' h'=>h2 a' w' Q h' hn hr hx) (fun a' w' h'=>hr a' w' h') ?_
   ·have:=wp_flat b [] _ a w (by simpa[bodyOf] using key)
    refine wp_mono this ?_
    intro e a' w' he
    cases e<;>exact he
   ·intro i a' w' h'
    simp only[Exit.inBlock]
    by_cases hi:i=id
    ·subst hi
     rw[if_pos rfl]
     simp only[blockId,Nat.beq_refl] at h'
     exact h2 a' w' Q h' hn hr hx
    ·rw[if_neg hi]
     have:Nat.beq i id=false:=by
      cases hb:Nat.beq i id with
      | false=>rfl
      | true=>exact absurd (beq_true hb) hi
     simp only[blockId,this] at h'
     exact hx i a' w' h'
  ·cases hc
open Classical in
noncomputable def objM (w1 w2:World) (F:Nat->Prop) (M:Mem):Mem:=fun b=>if w1.heap.size<=b then (if F b then none else memOf w2 b) else M b
def GRg (P:Program) (ops:Array Oper) (i:Nat) (l:List Code) (Pre n r:Act->World->Prop) (x:Nat->Act->World->Prop):Prop :=
 ∀ (a:Act) (w:World) (Q:Exit->Act->World->Prop),Pre a w->(∀ a w,n a w->Q .normal a w)->(∀ a w,r a w->Q .ret a w)->(∀ i a w,x i a w->Q (.exit i) a w)->wpOps P ops (Exit.then (WpL P l Q) Q) (List.range' i (ops.size-i)) a w
theorem gtr_region {l:List Code} {rid:Nat} {ops:Array Oper} {Pre:Act->World->Prop} (hl:l.head?=some (.region rid ops false)) (h:GRg E.P ops 0 l.tail Pre n r x):GTr E.P l Pre n r x:=by
 intro a w Q hp hn hr hx
 cases l with
 | nil=>simp at hl
 | cons c l =>
  simp only[List.head?_cons,Option.some.injEq] at hl
  subst hl
  show (Code.region rid ops false).wp E.P (Exit.then (WpL E.P l Q) Q) a w
  refine wp_region ?_
  have:=h a w Q hp hn hr hx
  rw[Nat.sub_zero,<- List.range_eq_range'] at this
  exact this
theorem grg_end {l:List Code} {ops:Array Oper} {i:Nat} {Pre:Act->World->Prop} (hi:ops.size<=i) (h:GTr E.P l Pre n r x):GRg E.P ops i l Pre n r x:=by
 intro a w Q hp hn hr hx
 rw[Nat.sub_eq_zero_of_le hi]
 exact h a w Q hp hn hr hx
theorem grg_run (hsp:SpecsOk E.P E.sp) {l:List Code} {ops:Array Oper} {i:Nat} {σ:St} {G:Gho} {α:Type} (j:Nat) (f:St->α) (τ:α->St) (K:α->Prop) (hij:i<=j) (hj:j<=ops.size)
  (h1:∀ (w:World) (ids:List (Nat × Nat)) (M:Mem) (num:Nat × Nat->Nat),runR ⟨E.P,E.sp,⟨w,ids,E.gl,M,num,σ.next⟩⟩ ops i ((ops.toList.drop i).take (j-i)) σ [] (fun σ' _=>({ σ' with next:=σ'.next+8*j }:St).le (base0 E) (τ (f { σ' with next:=σ'.next+8*j })) (K (f { σ' with next:=σ'.next+8*j }))))
  (h2:∀ g,K g->GRg E.P ops j l (GH E N (τ g) G) n r x):GRg E.P ops i l (GH E N σ G) n r x:=by
 intro a w Q hh hn' hr' hx
 have hlen:((ops.toList.drop i).take (j-i)).length=j-i:=by rw[List.length_take,List.length_drop,Array.length_toList];omega
 have hrange:List.range' i (ops.size-i)=List.range' i ((ops.toList.drop i).take (j-i)).length++List.range' j (ops.size-j):=by
  rw[hlen]
  conv=>rhs;arg 2;rw[show j=i+1*(j-i) from by omega]
  rw[List.range'_append]
  congr 1
  omega
 rw[hrange]
 obtain⟨F,ρ,hgk,hG,hN,hrep,hdom⟩:=hh.rebase
 refine ops_run (E:=⟨E.P,E.sp,reb w E.gl ρ σ.next⟩) hsp (h1 _ _ _ _) (fun k o hk=>?_) hN hrep (fun id b h=>?_) (fun σ' rs a1 w1 hh1 hK=>?_)
 ·rw[List.getElem?_take,List.getElem?_drop] at hk
  split at hk
  ·simpa using hk
  ·cases hk
 ·have:=hdom id b h
  omega
 ·rw[hlen,show i+(j-i)=j from by omega] at hh1
  obtain⟨hK,hgh⟩:=GH.le (E:=E) (G:=G) ⟨_,F,hgk,hG,hh1⟩ hK
  exact h2 _ hK a1 w1 Q hgh hn' hr' hx
def rawDst (ops:Array Oper) (k:Nat):Option Tmp:=match ops[k]? with
 | some o=>o.dst
 | none=>none
def rawArgs (ops:Array Oper) (k:Nat):List Operand:=match ops[k]? with
 | some ⟨_,.call c,_,_,_,_⟩=>c.args.toList
 | _=>[]
def isRaw (ops:Array Oper) (k:Nat) (f:FuncId):Bool:=match ops[k]? with
 | some ⟨_,.call ⟨.value (.func g),_,_⟩,_,_,_,none⟩=>Nat.beq g f
 | _=>false
theorem grg_raw {l:List Code} {ops:Array Oper} {k:Nat} {τ:St} {G:Gho} {f:FuncId} {fn:Func}
  {α:Type} (sv:α->SV) (G2:α->Gho) (J:α->Prop)
  (hraw:isRaw ops k f=true) (hf:enters E.P f fn)
  (h2:∀ (w1:World) (ρ:Rho) (us:List Value) (F:Nat->Prop),G.P w1 F->Mem.le ρ.M (memOf w1)->GlOk E.gl ρ.M->(∀ b,F b->∀ l,ρ.M b≠some l)->valsRel ρ ((rawArgs ops k).map (opd τ.S)) us ->
   Calls E.P f ⟨us⟩ w1 fun e w2=>∃ g v F2,J g/\e=.returned v/\(G2 g).P w2 F2/\(∀ b,F2 b->F b\/w1.heap.size<=b)/\Kep F w1 w2/\∀ ρ':Rho,Rho.le ρ ρ'->ρ'.M=objM w1 w2 F2 ρ.M->(sv g).rel ρ' v)
  (h4:∀ g,J g->GRg E.P ops (k+1) l (GH E N (τ.put (rawDst ops k) (sv g)) (G2 g)) n r x):GRg E.P ops k l (GH E N τ G) n r x:=by
 intro a1 w1 Q hgh hn' hr' hx
 obtain⟨dst,args,ts,ty,pos,af,ho⟩:∃ dst args ts ty pos af,ops[k]?=some ⟨dst,.call ⟨.value (.func f),args,ts⟩,ty,pos,af,none⟩:=by
  unfold isRaw at hraw
  split at hraw
  ·rename_i h
   have:=beq_true hraw
   subst this
   exact⟨_,_,_,_,_,_,h⟩
  ·cases hraw
 have hdst:rawDst ops k=dst:=by unfold rawDst;rw[ho]
 have hargs:rawArgs ops k=args.toList:=by unfold rawArgs;rw[ho]
 rw[hdst] at h4
 rw[hargs] at h2
 have hk:k<ops.size:=by
  rcases Nat.lt_or_ge k ops.size with h|h
  ·exact h
  ·rw[Array.getElem?_eq_none h] at ho;cases ho
 have hrange:List.range' k (ops.size-k)=k::List.range' (k+1) (ops.size-(k+1)):=by
  rw[show ops.size-k=(ops.size-(k+1))+1 from by omega,List.range'_succ]
 rw[hrange]
 obtain⟨F,ρ1,hgk1,hG1,hτN,hrep1,hdom1⟩:=hgh.rebase
 unfold wpOps
 simp only[ho]
 rw[if_pos (by simp[Region.wanted])]
 refine .inl ?_
 have ex:execOp a1.eval ⟨dst,.call ⟨.value (.func f),args,ts⟩,ty,pos,af,none⟩=(callFunc f ((#[]++args.map a1.eval) ++ #[])):=rfl
 have earr:(#[]++args.map a1.eval) ++ #[]=(⟨args.toList.map a1.eval⟩:Array Value):=by
  apply Array.ext';simp
 unfold Oper.wp
 rw[ex,earr,hf.2]
 have hMm:Mem.le ρ1.M (memOf w1):=fun b l hb=>by
  obtain⟨_,el,fr,h⟩:=hrep1.mem b l hb
  exact memOf_at h
 have hvals:valsRel ρ1 (args.toList.map (opd τ.S)) (args.toList.map a1.eval):=RepL.vals (E:=⟨E.P,E.sp,reb w1 E.gl ρ1 τ.next⟩) hrep1 args.toList
 refine (h2 w1 ρ1 _ F hG1 hMm (fun g e x hg=>hrep1.glob g e x hg) (fun b hb l hl=>hgk1.mem b hb l hl) hvals).mono ?_
 rintro e w2 ⟨g,v,F2,hJ,rfl,hG2,hF2,hkep,hsv⟩
 have hMlt:∀ b l,ρ1.M b=some l->b<w1.heap.size:=fun b l hb=>memOf_lt (hMm b l hb)
 let ρ2:Rho:=⟨ρ1.m,ρ1.n,objM w1 w2 F2 ρ1.M⟩
 have hle:Rho.le ρ1 ρ2:=⟨fun i b h=>⟨h,rfl⟩,fun b l hb=>by
  show objM w1 w2 F2 ρ1.M b=some l
  unfold objM
  rw[if_neg (by have:=hMlt b l hb;omega)];exact hb⟩
 have hnF:∀ id b,ρ1 id=some b->¬ F b:=fun id b hb hF=>by
  have h:=hgk1.own b hF
  rw[own_live.2 ⟨id,hdom1 id b hb,hb⟩] at h;cases h
 have hold:∀ b,b<w1.heap.size->¬ F b->w2.heap[b]?=w1.heap[b]?:=hkep.block
 have hM2:∀ b l,objM w1 w2 F2 ρ1.M b=some l->(w1.heap.size<=b/\¬ F2 b/\memOf w2 b=some l)\/ρ1.M b=some l:=by
  intro b l hb
  unfold objM at hb
  split at hb
  ·split at hb
   ·cases hb
   ·rename_i h1 h2;exact .inl ⟨h1,h2,hb⟩
  ·exact .inr hb
 have hrep2:RepL (reb w2 E.gl ρ2 τ.next) N (appS N dst (sv g) τ.S) τ.B ρ2 (a1.put dst v) w2:=by
  refine⟨by rw[put_defers];exact hrep1.defers,by rw[put_size];exact hrep1.size,?_,Keeps.refl _,?_,hrep1.inj,fun id b h=>⟨.inr (own_live.2 ⟨id,hdom1 id b h,h⟩),Nat.lt_of_lt_of_le (hrep1.bound id b h).2 hkep.size⟩,fun p hp=>⟨(liveIds_mem.1 hp).2,rfl⟩,?_,fun b l h _=>.inr h,?_,fun p hp=>(liveIds_mem.1 hp).1,Mem.le_refl _⟩
  ·intro t
   rw[put_get dst v t hrep1.size]
   cases dst with
   | none=>exact SV.rel_mono hle (hrep1.slots t)
   | some d =>
    simp only[appS]
    by_cases hc:t=d/\d<N
    ·simp only[hc,and_self,if_true];exact hsv ρ2 hle rfl
    ·simp only[hc,if_false];exact SV.rel_mono hle (hrep1.slots t)
  ·intro id cs hid hne b hb
   obtain⟨l,hbk,hcs⟩:=hrep1.blks id cs hid hne b hb
   refine⟨l,?_,cellsRel_mono hle hcs⟩
   obtain⟨rest,el,fr,k1,k2⟩:=hbk
   exact⟨rest,el,fr,(hold b (hrep1.bound id b hb).2 (hnF id b hb)).trans k1,k2⟩
  ·intro b l hb
   rcases hM2 b l hb with ⟨h1,h2,h3⟩|h
   ·refine⟨fun i cs _ _ hρ=>?_,memOf_inv h3⟩
    have:=(hrep1.bound i b hρ).2
    omega
   ·obtain⟨k1,el,fr,k2⟩:=hrep1.mem b l h
    exact⟨k1,el,fr,(hold b (hMlt b l h) (fun hF=>hgk1.mem b hF l h)).trans k2⟩
  ·intro gg e x hg
   exact RowAt_mono hle.mem (hrep1.glob gg e x hg)
 have hgk2:GOk E (reb w2 E.gl ρ2 τ.next) F2:=by
  refine⟨rfl,⟨hkep.os.trans hgk1.kep.os,hkep.tape.trans hgk1.kep.tape,hkep.output.trans hgk1.kep.output,Nat.le_trans hgk1.kep.size hkep.size,fun b hb hs=>?_⟩,fun p hp=>hgk1.ids p (liveIds_mem.2 (liveIds_mem.1 hp)),fun b hb=>?_,fun b hb=>?_,fun b hb l hl=>?_,fun b l hb hlt=>?_⟩
  ·have:=hgk1.kep.size
   refine (hold b (Nat.lt_of_lt_of_le hb this) (fun hF=>?_)).trans (hgk1.kep.block b hb hs)
   rcases hgk1.foot b hF with h|h
   ·exact hs h
   ·omega
  ·have:=hgk1.kep.size
   rcases hF2 b hb with h|h
   ·exact hgk1.foot b h
   ·exact .inr (Nat.le_trans this h)
  ·cases hc:(reb w2 E.gl ρ2 τ.next).own b with
   | false=>rfl
   | true =>
    obtain⟨id,_,hid⟩:=own_live.1 hc
    have hid:ρ1 id=some b:=hid
    rcases hF2 b hb with h|h
    ·exact (hnF id b hid h).elim
    ·have:=(hrep1.bound id b hid).2;omega
  ·rcases hM2 b l hl with ⟨h1,h2,h3⟩|h
   ·exact h2 hb
   ·rcases hF2 b hb with h'|h'
    ·exact hgk1.mem b h' l h
    ·have:=hMlt b l h;omega
  ·rcases hM2 b l hb with ⟨h1,h2,h3⟩|h
   ·have:=hgk1.kep.size
    have h5:w1.heap.size<=b:=h1
    have h6:E.w.heap.size<=w1.heap.size:=this
    omega
   ·exact hgk1.old b l h hlt
 have hput:((τ.put dst (sv g)).S=appS N dst (sv g) τ.S):=by rw[put_S,hτN]
 refine h4 g hJ _ w2 Q ⟨_,F2,hgk2,hG2,by rw[put_len];exact hτN,ρ2,?_,fun id b h=>by rw[put_next];exact hdom1 id b h⟩ hn' hr' hx
 rw[hput,put_B]
 exact hrep2
theorem resAll_base {P:Program} {sp:FuncId->Option Spec} {W W':Base} {σ:St}:∀ rs:List ResultVar,resAll ⟨P,sp,W⟩ σ rs=resAll ⟨P,sp,W'⟩ σ rs:=by
 intro rs
 induction rs with
 | nil=>rfl
 | cons r rs ih =>
  have h:resSV ⟨P,sp,W⟩ σ r=resSV ⟨P,sp,W'⟩ σ r:=by cases r<;>rfl
  simp only[resAll,ih,h]
theorem retK_base {P:Program} {sp:FuncId->Option Spec} {W W':Base} {σ:St} {fn:Func} {Q:SV->St->Prop} (h:retK ⟨P,sp,W⟩ fn Q σ):retK ⟨P,sp,W'⟩ fn Q σ:=by
 unfold retK resOf at h ⊢
 rw[resAll_base (W:=W) (W':=W')] at h
 exact h
def gret (E:GEnv) (fn:Func) (Q:SV->Gho->Prop) (a:Act) (w:World):Prop :=
 ∃ σ G W,GH E fn.ntmps σ G a w/\retK ⟨E.P,E.sp,W⟩ fn (fun sv _=>Q sv G) σ
theorem gfn {f:FuncId} {fn:Func} (hf:E.P.funcs[f]?=some fn) (hbody:fn.body.isSome=true) {args:List SV} {us:List Value} {M:Mem} {F0:Nat->Prop} {G0:Gho} {Q:SV->Gho->Prop}
  (hM0:E.M=M) (hM:Mem.le M (memOf E.w)) (hgl:GlOk E.gl M) (hv:valsRel (Rho.start M) args us) (hn:args.length<=fn.ntmps) (hG:G0.P E.w F0) (hF:∀ b,F0 b->E.S b/\∀ l,M b≠some l)
  (h:GTr E.P (codeOf fn) (GH E fn.ntmps (startSt fn args [] 0) G0) (gret E fn Q) (gret E fn Q) (fun _ _ _=>False)) :
  Calls E.P f ⟨us⟩ E.w fun e w'=>∃ v sv G F ρ,e=.returned v/\sv.rel ρ v/\Q sv G/\G.P w' F/\Kep E.S E.w w'/\Mem.le ρ.M (memOf w')/\(∀ b,F b->E.S b\/E.w.heap.size<=b)/\(∀ b,F b->∀ l,ρ.M b≠some l)/\(∀ b l,ρ.M b=some l->b<E.w.heap.size->E.S b\/M b=some l):=by
 subst hM0
 obtain⟨c,hc⟩:=Option.isSome_iff_exists.1 hbody
 have hst:Start ⟨E.w,[],E.gl,E.M,fun _=>0,0⟩ [] 0 (Rho.start E.M) :=
  ⟨fun id cs h=>by simp[lookB] at h,fun id id' cs cs' b h=>by simp[lookB] at h,fun _ _ h=>by simp[Rho.start] at h,fun _ h=>by simp at h,fun _ _ h=>by simp[Rho.start] at h,
   fun b l hb=>⟨fun i cs h=>by simp[lookB] at h,memOf_inv (hM b l hb)⟩,fun b l hb _=>.inr hb,hgl,fun _ h=>by simp at h,Mem.le_refl _⟩
 have hh:=start_holds (E:=⟨E.P,E.sp,⟨E.w,[],E.gl,E.M,fun _=>0,0⟩⟩) (fn:=fn) hst hv hn
 refine calls_of_wp hf hc ?_
 have hret:∀ a w,gret E fn Q a w->a.defers=[]/\∃ v,(results fn a.tmps).run E.P w=.ok v w/\∃ v' sv G F ρ,(Ending.returned v)=.returned v'/\SV.rel ρ sv v'/\Q sv G/\G.P w F/\Kep E.S E.w w/\Mem.le ρ.M (memOf w)/\(∀ b,F b->E.S b\/E.w.heap.size<=b)/\(∀ b,F b->∀ l,ρ.M b≠some l)/\(∀ b l,ρ.M b=some l->b<E.w.heap.size->E.S b\/E.M b=some l):=by
  rintro a w ⟨σ,G,W,hgh,hk⟩
  obtain⟨F,ρ,hgk,hGw,hN,hrep,hdom⟩:=hgh.rebase
  have hk':retK ⟨E.P,E.sp,reb w E.gl ρ σ.next⟩ fn (fun sv _=>Q sv G) σ:=retK_base hk
  unfold retK at hk'
  split at hk'
  ·rename_i sv hsv
   obtain⟨v,g1,g2⟩:=resOf_run (E:=⟨E.P,E.sp,reb w E.gl ρ σ.next⟩) hrep hsv
   exact⟨hrep.defers,v,g1,v,sv,G,F,ρ,rfl,g2,hk',hGw,hgk.kep,fun b l hb=>by
    obtain⟨_,el,fr,h⟩:=hrep.mem b l hb
    exact memOf_at h,hgk.foot,fun b hb l hl=>hgk.mem b hb l hl,hgk.old⟩
  ·exact hk'.elim
 have hl:flat c++[]=codeOf fn:=by simp[codeOf,hc]
 suffices hw:WpL E.P (codeOf fn) (bodyPost E.P fn fun e w'=>∃ v sv G F ρ,e=.returned v/\SV.rel ρ sv v/\Q sv G/\G.P w' F/\Kep E.S E.w w'/\Mem.le ρ.M (memOf w')/\(∀ b,F b->E.S b\/E.w.heap.size<=b)/\(∀ b,F b->∀ l,ρ.M b≠some l)/\(∀ b l,ρ.M b=some l->b<E.w.heap.size->E.S b\/E.M b=some l)) { tmps:=(⟨us⟩:Array Value)++Array.replicate (fn.ntmps-(⟨us⟩:Array Value).size) undef,defers:=[] } E.w by
  refine wp_mono (wp_flat c [] _ _ _ (hl▸hw)) ?_
  intro e a' w' he
  cases e<;>exact he
 refine h _ _ _ ⟨⟨E.w,[],E.gl,E.M,fun _=>0,0⟩,F0,⟨rfl,⟨rfl,rfl,rfl,Nat.le_refl _,fun _ _ _=>rfl⟩,fun p hp=>by simp at hp,fun b hb=>.inl (hF b hb).1,fun b _=>by simp[Base.own],fun b hb l hl=>(hF b hb).2 l hl,fun b l h _=>.inr h⟩,hG,hh⟩ (fun a w hk=>hret a w hk) (fun a w hk=>hret a w hk) (fun i a w hk=>hk.elim)
end
end Go.Eng
