import Derived.Test.YteldhmehjkhanaaGreatDoorML26qPG
set_option maxRecDepth 100000
namespace Go.Eng
open Go Go.RowKit Cr
structure Env where
 P:Program
 sp:FuncId->Option Spec
 w0:Base
def lookB:List (Nat × List Cell)->Nat->Option (List Cell)
 | [],_=>none
 | (i,cs)::r,id=>match Nat.beq i id with
  | true=>some cs
  | false=>lookB r id
structure St where
 slots:List SV
 blks:List (Nat × List Cell)
 next:Nat
def St.S (σ:St):Slots:=fun t=>σ.slots.getD t .junk
def St.B (σ:St):Blks:=lookB σ.blks
def constSV:Value->SV
 | .bool true=>.is (.one .T)
 | .bool false=>.is (.one .F)
 | .agg _ | .tuple _=>.junk
 | x=>.is (.one (.v x))
def opd (S:Slots):Operand->SV
 | .tmp t=>S t
 | .const v=>constSV v
 | .global g=>.is (.one (.v (.pointer (some ⟨g,0,none⟩))))
 | .func f=>.is (.one (.v (.func (.func f) #[] #[])))
def Cell.ids:Cell->List Nat
 | .ptr i _ | .pe i _ _ _ | .sl i _ _ _ _=>[i]
 | .clo _ l=>l
 | _=>[]
def TV.ids:TV->List Nat
 | .one c=>c.ids
 | .agg cs=>cs.flatMap Cell.ids
def SV.ids:SV->List Nat
 | .is x=>x.ids
 | .tup l=>l.flatMap TV.ids
 | _=>[]
def memN (i:Nat):List Nat->Bool
 | []=>false
 | j::l=>match Nat.beq i j with
  | true=>true
  | false=>memN i l
def restr (ids:List Nat) (B:Blks):Blks:=fun i=>match memN i ids with
 | true=>B i
 | false=>none
def idsOf (B:Blks) (vs:List SV):List Nat :=
 let d:=vs.flatMap SV.ids
 d++d.flatMap fun i=>match B i with
  | some cs=>cs.flatMap Cell.ids
  | none=>[]
def idsFor (op:Op) (B:Blks) (vs:List SV):List Nat:=match op with
 | .move _=>[]
 | _=>idsOf B vs
inductive StepR where
 | bad
 | skip
 | run (out:Out) (ids:List Nat)
def runOp (E:Env) (S:Slots) (B:Blks) (id:Nat) (o:Oper):StepR :=
 let vs:=o.op.operands.toList.map (opd S)
 let ids:=idsFor o.op B vs
 match xop E.P E.sp E.w0 id o.op vs (restr ids B) with
 | some out=>.run out ids
 | none=>.bad
def stepR (E:Env) (ops:Array Oper) (S:Slots) (B:Blks) (id:Nat) (o:Oper):StepR :=
 match o.guard with
 | none=>runOp E S B id o
 | some (j,want)=>match (ops[j]?).bind (·.dst) with
  | some d=>match S d,want with
   | .is (.one .T),true=>runOp E S B id o
   | .is (.one .T),false=>.skip
   | .is (.one .F),true=>.skip
   | .is (.one .F),false=>runOp E S B id o
   | .undef,_=>.skip
   | _,_=>.bad
  | none=>.bad
structure Rec where
 val:SV
 new:List (Nat × List Cell)
 wr:List (Nat × List Cell)
 ids:List Nat
def appS (n:Nat) (dst:Option Tmp) (v:SV) (S:Slots):Slots:=fun t =>
 match dst with
 | some d=>if t=d/\d<n then v else S t
 | none=>S t
def appB (r:Rec) (B:Blks):Blks:=fun id =>
 match lookB r.new id with
 | some cs=>some cs
 | none=>match lookB r.wr id with
  | some cs=>some cs
  | none=>B id
def refines (x y:SV):Prop:=∀ ρ v,x.rel ρ v->y.rel ρ v
def skipRec:Rec:=⟨.undef,[],[],[]⟩
def StepOk (E:Env) (ops:Array Oper) (S:Slots) (B:Blks) (id:Nat) (o:Oper) (r:Rec):Prop :=
 (stepR E ops S B id o=.skip/\r=skipRec) \/
 (∃ out ids,stepR E ops S B id o=.run out ids/\(∀ p∈out.pre,p)/\refines out.val r.val/\r.new=out.new/\r.wr=out.wr/\r.ids=ids)
theorem lookB_mem {l:List (Nat × List Cell)} {id:Nat} {cs:List Cell} (h:lookB l id=some cs):(id,cs)∈l:=by
 induction l with
 | nil=>simp[lookB] at h
 | cons p l ih =>
  obtain⟨i,c⟩:=p
  simp only[lookB] at h
  split at h
  ·rename_i hb
   have:=beq_true hb
   subst this
   simp at h;subst h;simp
  ·exact List.mem_cons_of_mem _ (ih h)
theorem lookB_none {l:List (Nat × List Cell)} {id:Nat} (h:lookB l id=none):∀ p∈l,p.1≠id:=by
 induction l with
 | nil=>intro p hp;cases hp
 | cons q l ih =>
  obtain⟨i,c⟩:=q
  simp only[lookB] at h
  split at h
  ·simp at h
  ·rename_i hb
   intro p hp
   rcases List.mem_cons.1 hp with rfl|hp
   ·intro e
    subst e
    simp at hb
   ·exact ih h p hp
theorem restr_some {ids:List Nat} {B:Blks} {i:Nat} {cs:List Cell} (h:restr ids B i=some cs):B i=some cs:=by
 unfold restr at h
 split at h
 ·exact h
 ·simp at h
section
variable {E:Env} {ops:Array Oper} {n:Nat} {S:Slots} {B:Blks} {ρ:Rho} {a:Act} {w:World}
theorem constSV_rel (v:Value):(constSV v).rel ρ v:=by
 cases v with
 | bool b=>cases b<;>exact rfl
 | agg _=>trivial
 | tuple _=>trivial
 | _=>exact⟨rfl,rfl⟩
structure RepL (w0:Base) (n:Nat) (S:Slots) (B:Blks) (ρ:Rho) (a:Act) (w:World):Prop where
 defers:a.defers=[]
 size:a.tmps.size=n
 slots:∀ t,(S t).rel ρ (a.tmps.getD t Go.undef)
 below:Keeps w0 w
 blks:∀ id cs,B id=some cs->cs≠[]->∀ b,ρ id=some b->∃ l,BlkAt w b (ρ.n id) l/\cellsRel ρ cs l
 inj:∀ id id' cs cs' b,B id=some cs->cs≠[]->B id'=some cs'->cs'≠[]->ρ id=some b->ρ id'=some b->id=id'
 bound:∀ id b,ρ id=some b->w0.mine b/\b<w.heap.size
 init:∀ p∈w0.ids,ρ p.1=some p.2/\ρ.n p.1=w0.num p
 mem:∀ b l,ρ.M b=some l->(∀ i cs,B i=some cs->cs≠[]->ρ i≠some b)/\∃ el fr,w.heap[b]?=some (objOf l el fr)
 old:∀ b l,ρ.M b=some l->b<w0.w.heap.size->w0.own b=true\/w0.M b=some l
 glob:∀ g e x,w0.gl g=some ⟨e,x⟩->RowAt (Rd ρ.M e) (width e) ρ.M g 0 [x]
 tops:∀ p∈w0.ids,p.1<w0.top
 memle:Mem.le w0.M ρ.M
theorem RepL.opd (h:RepL E.w0 n S B ρ a w) (x:Operand):(opd S x).rel ρ (a.eval x):=by
 cases x with
 | tmp t=>exact h.slots t
 | const v=>exact constSV_rel v
 | global g=>exact⟨rfl,rfl⟩
 | func f=>exact⟨rfl,rfl⟩
theorem RepL.vals (h:RepL E.w0 n S B ρ a w):∀ (l:List Operand),valsRel ρ (l.map (Eng.opd S)) (l.map a.eval):=by
 intro l
 induction l with
 | nil=>rfl
 | cons x l ih=>exact⟨_,_,rfl,h.opd x,ih⟩
theorem put_get (dst:Option Tmp) (v:Value) (t:Nat) (ha:a.tmps.size=n) :
  (a.put dst v).tmps.getD t Go.undef=(match dst with|some d=>if t=d/\d<n then v else a.tmps.getD t Go.undef|none=>a.tmps.getD t Go.undef):=by
 cases dst with
 | none=>rfl
 | some d =>
  simp only[Act.put,Array.getD_eq_getD_getElem?]
  by_cases h:t=d
  ·subst h
   by_cases h2:t<n
   ·rw[Array.getElem?_setIfInBounds_self_of_lt (by omega)]
    simp[h2]
   ·rw[Array.setIfInBounds_eq_of_size_le (by omega)]
    simp[h2]
  ·rw[Array.getElem?_setIfInBounds_ne (fun e=>h e.symm)]
   simp[h]
theorem put_size (dst:Option Tmp) (v:Value):(a.put dst v).tmps.size=a.tmps.size:=by
 cases dst<;>simp[Act.put]
theorem put_defers (dst:Option Tmp) (v:Value):(a.put dst v).defers=a.defers:=by
 cases dst<;>simp[Act.put]
theorem RepL.step (h:RepL E.w0 n S B ρ a w) {id:Nat} {B0:Blks} {out:Out} {r:Rec} {dst:Option Tmp} {ρ':Rho} {w':World} {v:Value} (hB0:∀ i cs,B0 i=some cs->B i=some cs)
  (hE:Eff id B0 out ρ ρ' w w') (hv:r.val.rel ρ' v) (hn:r.new=out.new) (hw:r.wr=out.wr) :
  RepL E.w0 n (appS n dst r.val S) (appB r B) ρ' (a.put dst v) w':=by
 have hmine:∀ i b,ρ' i=some b->E.w0.mine b:=by
  intro i b hi
  rcases hE.dom i b hi with h'|⟨_,_,_,h'|⟨q,_,h'⟩⟩
  ·exact (h.bound i b h').1
  ·exact .inl (Nat.le_trans h.below.size h')
  ·exact (h.bound _ b h').1
 -- the cells behind,of an id
 have hcase:∀ i cs,appB r B i=some cs->cs≠[]->(∃ p∈out.new,p.1=i/\p.2=cs)\/((∀ p∈out.new,p.1≠i)/\∃ p∈out.wr,p.1=i/\p.2=cs)\/((∀ p∈out.new,p.1≠i)/\(∀ p∈out.wr,p.1≠i)/\B i=some cs):=by
  intro i cs hi _
  unfold appB at hi
  split at hi
  ·rename_i c hc
   simp at hi;subst hi
   exact .inl ⟨(i,c),by rw[<- hn];exact lookB_mem hc,rfl,rfl⟩
  ·rename_i hnone
   have hnn:∀ p∈out.new,p.1≠i:=by intro p hp;rw[<- hn] at hp;exact lookB_none hnone p hp
   split at hi
   ·rename_i c hc
    simp at hi;subst hi
    exact .inr (.inl ⟨hnn,(i,c),by rw[<- hw];exact lookB_mem hc,rfl,rfl⟩)
   ·rename_i hnw
    exact .inr (.inr ⟨hnn,by intro p hp;rw[<- hw] at hp;exact lookB_none hnw p hp,hi⟩)
 -- an id that is not new stands for what it stood for
 have hold:∀ i b,ρ' i=some b->(∀ p∈out.new,p.1≠i)->ρ i=some b:=by
  intro i b hi hnn
  rcases hE.dom i b hi with h'|⟨_,_,⟨p,hp,e⟩,_⟩
  ·exact h'
  ·exact (hnn p hp e).elim
 refine⟨?_,?_,?_,?_,?_,?_,?_,?_,?_,?_,?_,?_,?_⟩
 ·rw[put_defers];exact h.defers
 ·rw[put_size];exact h.size
 ·intro t
  rw[put_get dst v t h.size]
  cases dst with
  | none=>exact SV.rel_mono hE.le (h.slots t)
  | some d =>
   simp only[appS]
   by_cases hc:t=d/\d<n
   ·simp only[hc,and_self,if_true];exact hv
   ·simp only[hc,if_false];exact SV.rel_mono hE.le (h.slots t)
 ·refine⟨hE.os.trans h.below.os,hE.tape.trans h.below.tape,hE.output.trans h.below.output,Nat.le_trans h.below.size hE.size,fun k hk ho=>?_⟩
  rw[<- h.below.block k hk ho]
  refine hE.same k (Nat.lt_of_lt_of_le hk h.below.size) (fun p _ e=>?_)
  rcases (h.bound _ _ e).1 with h'|h'
  ·omega
  ·rw[ho] at h';cases h'
 ·intro i cs hi hne b hb
  rcases hcase i cs hi hne with ⟨p,hp,rfl,rfl⟩|⟨hnn,p,hp,rfl,rfl⟩|⟨hnn,hnw,hBi⟩
  ·exact ((hE.new p hp).2.2 b hb hne).2
  ·have hρ:=hE.wr p hp
   have h':=hold _ _ hb hnn
   obtain⟨l,g1,g2⟩:=hρ.2 b h' hne
   exact⟨l,by rw[(hE.le.id _ _ h').2];exact g1,g2⟩
  ·have h':=hold _ _ hb hnn
   obtain⟨l,g1,g2⟩:=h.blks i cs hBi hne b h'
   refine⟨l,?_,cellsRel_mono hE.le g2⟩
   rw[(hE.le.id _ _ h').2]
   have hs:=hE.same b g1.lt (fun p hp e=>by
    obtain⟨⟨c,hc1,hc2⟩,_⟩:=hE.wr p hp
    exact hnw p hp (h.inj _ _ _ _ _ (hB0 _ _ hc1) hc2 hBi hne e h'))
   obtain⟨rest,el,fr,k1,k2,k3⟩:=g1
   exact⟨rest,el,fr,by rw[hs];exact k1,k2,k3⟩
 ·have mixed:∀ p∈out.new,p.2≠[]->∀ i cs b,appB r B i=some cs->cs≠[]->(∀ p∈out.new,p.1≠i)->ρ' p.1=some b->ρ' i=some b->False:=by
   intro p hp hpne i cs b hi hne hnn hb1 hb2
   have h2:=hold _ _ hb2 hnn
   rcases ((hE.new p hp).2.2 b hb1 hpne).1 with g|⟨q,hq,hq1,hq2⟩
   ·have:=(h.bound _ _ h2).2;omega
   ·obtain⟨⟨c,hc1,hc2⟩,_⟩:=hE.wr q hq
    rcases hcase i cs hi hne with ⟨p',hp',e,_⟩|⟨_,p',hp',e1,e2⟩|⟨_,hnw,hBi⟩
    ·exact hnn p' hp' e
    ·obtain⟨⟨c',hc1',hc2'⟩,_⟩:=hE.wr p' hp'
     have:=h.inj _ _ _ _ _ (hB0 _ _ hc1) hc2 (hB0 _ _ hc1') hc2' hq1 (by rw[e1];exact h2)
     have:=hE.wruniq q hq p' hp' this
     subst this
     exact hne (by rw[<- e2];exact hq2)
    ·exact hnw q hq (h.inj _ _ _ _ _ (hB0 _ _ hc1) hc2 hBi hne hq1 h2)
  have live:∀ i cs,appB r B i=some cs->cs≠[]->(∀ p∈out.new,p.1≠i)->∃ c,B i=some c/\c≠[]:=by
   intro i cs hi hne hnn
   rcases hcase i cs hi hne with ⟨p',hp',e,_⟩|⟨_,p',hp',e1,e2⟩|⟨_,hnw,hBi⟩
   ·exact (hnn p' hp' e).elim
   ·obtain⟨⟨c',hc1',hc2'⟩,_⟩:=hE.wr p' hp'
    exact⟨c',by rw[<- e1];exact hB0 _ _ hc1',hc2'⟩
   ·exact⟨cs,hBi,hne⟩
  intro i i' cs cs' b hi hne hi' hne' hb hb'
  have dec:∀ i cs,appB r B i=some cs->cs≠[]->(∃ p∈out.new,p.1=i/\p.2=cs)\/(∀ p∈out.new,p.1≠i):=by
   intro i cs hi hne
   rcases hcase i cs hi hne with h1|⟨h1,_⟩|⟨h1,_⟩
   ·exact .inl h1
   ·exact .inr h1
   ·exact .inr h1
  rcases dec i cs hi hne with ⟨p,hp,e1,e2⟩|hnn<;>rcases dec i' cs' hi' hne' with ⟨p',hp',e1',e2'⟩|hnn'
  ·rw[<- e1,<- e1']
   exact hE.newinj p hp p' hp' b (by rw[e1];exact hb) (by rw[e1'];exact hb')
  ·exact (mixed p hp (by rw[e2];exact hne) i' cs' b hi' hne' hnn' (by rw[e1];exact hb) hb').elim
  ·exact (mixed p' hp' (by rw[e2'];exact hne') i cs b hi hne hnn (by rw[e1'];exact hb') hb).elim
  ·obtain⟨c,hc1,hc2⟩:=live i cs hi hne hnn
   obtain⟨c',hc1',hc2'⟩:=live i' cs' hi' hne' hnn'
   exact h.inj _ _ _ _ _ hc1 hc2 hc1' hc2' (hold _ _ hb hnn) (hold _ _ hb' hnn')
 ·intro i b hi
  exact⟨hmine i b hi,hE.bound i b hi⟩
 ·intro p hp
  exact⟨(hE.le.id _ _ (h.init p hp).1).1,((hE.le.id _ _ (h.init p hp).1).2).trans (h.init p hp).2⟩
 ·have live:∀ i cs,appB r B i=some cs->cs≠[]->(∀ p∈out.new,p.1≠i)->(∃ c,B i=some c/\c≠[])/\∀ p∈out.wr,p.1=i->p.2≠[]:=by
   intro i cs hi hne hnn
   rcases hcase i cs hi hne with ⟨p',hp',e,_⟩|⟨_,p',hp',e1,e2⟩|⟨_,hnw,hBi⟩
   ·exact (hnn p' hp' e).elim
   ·obtain⟨⟨c',hc1',hc2'⟩,_⟩:=hE.wr p' hp'
    refine⟨⟨c',by rw[<- e1];exact hB0 _ _ hc1',hc2'⟩,fun p hp e=>?_⟩
    have:=hE.wruniq p hp p' hp' (by rw[e,e1])
    rw[this,e2];exact hne
   ·exact⟨⟨cs,hBi,hne⟩,fun p hp e=>(hnw p hp e).elim⟩
  intro b l hb
  rcases hE.mem b l hb with hold'|⟨hnn,hor,hcells⟩
  ·obtain⟨h1,el,fr,h2⟩:=h.mem b l hold'
   have hlt:b<w.heap.size:=by
    rcases Nat.lt_or_ge b w.heap.size with h'|h'
    ·exact h'
    ·rw[Array.getElem?_eq_none h'] at h2;cases h2
   refine⟨fun i cs hi hne hρ=>?_,el,fr,?_⟩
   ·rcases hE.dom i b hρ with h'|⟨_,_,_,h'|⟨q,hq,h'⟩⟩
    ·by_cases hnn:∀ p∈out.new,p.1≠i
     ·obtain⟨⟨c,hc1,hc2⟩,_⟩:=live i cs hi hne hnn
      exact h1 i c hc1 hc2 h'
     ·have hnn:∃ p∈out.new,p.1=i:=Classical.byContradiction fun hh=>hnn fun p hp e=>hh ⟨p,hp,e⟩
      obtain⟨p,hp,e⟩:=hnn
      have hpne:p.2≠[]:=by
       rcases hcase i cs hi hne with ⟨p',hp',e1,e2⟩|⟨hnn',_⟩|⟨hnn',_⟩
       ·intro h0
        have hpn:ρ' p.1=some b:=by rw[e];exact hρ
        have:=(hE.new p' hp').2.2 b (by rw[e1];exact hρ) (by rw[e2];exact hne)
        rcases this.1 with g|⟨q,hq,hq1,hq2⟩
        ·omega
        ·obtain⟨⟨c,hc1,hc2⟩,_⟩:=hE.wr q hq
         exact h1 _ c (hB0 _ _ hc1) hc2 hq1
       ·exact (hnn' p hp e).elim
       ·exact (hnn' p hp e).elim
      rcases ((hE.new p hp).2.2 b (by rw[e];exact hρ) hpne).1 with g|⟨q,hq,hq1,hq2⟩
      ·omega
      ·obtain⟨⟨c,hc1,hc2⟩,_⟩:=hE.wr q hq
       exact h1 _ c (hB0 _ _ hc1) hc2 hq1
    ·omega
    ·obtain⟨⟨c,hc1,hc2⟩,_⟩:=hE.wr q hq
     exact h1 _ c (hB0 _ _ hc1) hc2 h'
   ·rw[hE.same b hlt (fun p hp e=>by
     obtain⟨⟨c,hc1,hc2⟩,_⟩:=hE.wr p hp
     exact h1 _ c (hB0 _ _ hc1) hc2 e)]
    exact h2
  ·refine⟨fun i cs hi hne hρ=>?_,hcells⟩
   have hni:∀ p∈out.new,p.1≠i:=fun p hp e=>hnn p hp (by rw[e];exact hρ)
   have hρ0:=hold i b hρ hni
   obtain⟨⟨c,hc1,hc2⟩,hw'⟩:=live i cs hi hne hni
   rcases hor with hor|⟨q,hq,hq1,hq2⟩
   ·have:=(h.bound _ _ hρ0).2;omega
   ·obtain⟨⟨c',hc1',hc2'⟩,_⟩:=hE.wr q hq
    have:=h.inj _ _ _ _ _ (hB0 _ _ hc1') hc2' hc1 hc2 hq1 hρ0
    exact hw' q hq this hq2
 ·intro b l hb hlt
  rcases hE.mem b l hb with hold'|⟨_,hor,_⟩
  ·exact h.old b l hold' hlt
  ·rcases hor with hor|⟨q,hq,hq1,hq2⟩
   ·have:=h.below.size;omega
   ·rcases (h.bound _ _ hq1).1 with h'|h'
    ·omega
    ·exact .inl h'
 ·intro g e x hg
  exact RowAt_mono hE.le.mem (h.glob g e x hg)
 ·exact h.tops
 ·exact fun b l hb=>hE.le.mem b l (h.memle b l hb)
theorem RepL.skip (h:RepL E.w0 n S B ρ a w) (dst:Option Tmp):RepL E.w0 n (appS n dst .undef S) (appB skipRec B) ρ (a.put dst Go.undef) w:=by
 have hB:appB skipRec B=B:=by funext i;simp[appB,skipRec,lookB]
 rw[hB]
 refine⟨by rw[put_defers];exact h.defers,by rw[put_size];exact h.size,?_,h.below,h.blks,h.inj,h.bound,h.init,h.mem,h.old,h.glob,h.tops,h.memle⟩
 intro t
 rw[put_get dst Go.undef t h.size]
 cases dst with
 | none=>exact h.slots t
 | some d =>
  simp only[appS]
  by_cases hc:t=d/\d<n
  ·simp only[hc,and_self,if_true];exact rfl
  ·simp only[hc,if_false];exact h.slots t
theorem yielded_of {j d:Nat} (hd:(ops[j]?).bind (·.dst)=some d) {b:Bool} (hx:a.tmps.getD d Go.undef=.bool b):yielded ops a.tmps j=some b:=by
 unfold yielded
 rw[hd]
 simp only[Option.bind_some]
 rw[Array.getD_eq_getD_getElem?] at hx
 cases hq:a.tmps[d]? with
 | none=>rw[hq] at hx;simp[Go.undef] at hx
 | some y=>rw[hq] at hx;simp at hx;subst hx;rfl
theorem stepOk_sound (hsp:SpecsOk E.P E.sp) (h:RepL E.w0 n S B ρ a w) {id:Nat} {o:Oper} {r:Rec} (hs:StepOk E ops S B id o r) (hfree:∀ i,id<=i->i<id+8->ρ i=none)
  {next:Act->World->Prop} {Q:Exit->Act->World->Prop}
  (hn:∀ a' w' ρ',RepL E.w0 n (appS n o.dst r.val S) (appB r B) ρ' a' w'->(∀ i b,ρ' i=some b->ρ i=some b\/(id<=i/\i<id+8))->next a' w') :
  if Region.wanted o (yielded ops a.tmps) then o.wp E.P a w next Q\/(o.asks E.P a w/\LetsOut Q) else next (a.put o.dst Go.undef) w:=by
 have skip:r=skipRec->Region.wanted o (yielded ops a.tmps)=false->(if Region.wanted o (yielded ops a.tmps) then o.wp E.P a w next Q\/(o.asks E.P a w/\LetsOut Q) else next (a.put o.dst Go.undef) w):=by
  intro hr hw
  subst hr
  simp only[hw,Bool.false_eq_true,if_false]
  exact hn _ _ ρ (h.skip o.dst) (fun _ _ h=>.inl h)
 have run:∀ out ids,runOp E S B id o=.run out ids->(∀ p∈out.pre,p)->refines out.val r.val->r.new=out.new->r.wr=out.wr->Region.wanted o (yielded ops a.tmps)=true ->
   (if Region.wanted o (yielded ops a.tmps) then o.wp E.P a w next Q\/(o.asks E.P a w/\LetsOut Q) else next (a.put o.dst Go.undef) w):=by
  intro out ids hr hp href h1 h2 hw
  simp only[hw,if_true]
  refine .inl ?_
  unfold runOp at hr
  dsimp only at hr
  split at hr
  ·rename_i out' hx
   simp only[StepR.run.injEq] at hr
   obtain⟨rfl,rfl⟩:=hr
   have hc:Ctx E.w0 id ρ (restr (idsFor o.op B (o.op.operands.toList.map (opd S))) B) w:=⟨h.below,fun i cs hi=>h.blks i cs (restr_some hi),fun i b hi=>(h.bound i b hi).2,hfree,fun b l hb=>(h.mem b l hb).2,h.glob,fun i i' cs cs' b h1 h2 h3 h4=>h.inj i i' cs cs' b (restr_some h1) h2 (restr_some h3) h4,fun b l hb i cs hi=>(h.mem b l hb).1 i cs (restr_some hi)⟩
   refine xop_sound hc hsp hx hp (h.vals _) next Q (fun v w' ρ' hv hE=>?_)
   exact hn _ _ ρ' (h.step (fun i cs hi=>restr_some hi) hE (href _ _ hv) h1 h2) (fun i b hi=>by rcases hE.dom i b hi with h|⟨h1,h2,_⟩;exact .inl h;exact .inr ⟨h1,h2⟩)
  ·cases hr
 unfold StepOk stepR at hs
 cases hg:o.guard with
 | none =>
  have hw:Region.wanted o (yielded ops a.tmps)=true:=by simp[Region.wanted,hg]
  simp only[hg] at hs
  rcases hs with ⟨hs,_⟩|⟨out,ids,hs,hp,href,h1,h2,_⟩
  ·unfold runOp at hs;dsimp only at hs;split at hs<;>cases hs
  ·exact run out ids hs hp href h1 h2 hw
 | some g =>
  obtain⟨j,want⟩:=g
  simp only[hg] at hs
  have hw:Region.wanted o (yielded ops a.tmps)=(yielded ops a.tmps j==some want):=by simp[Region.wanted,hg]
  cases hd:(ops[j]?).bind (·.dst) with
  | none=>simp only[hd] at hs;rcases hs with ⟨hs,_⟩|⟨_,_,hs,_⟩<;>cases hs
  | some d =>
   simp only[hd] at hs
   have hrel:=h.slots d
   have known:∀ b:Bool,a.tmps.getD d Go.undef=.bool b->yielded ops a.tmps j=some b:=by
    intro b hb
    exact yielded_of hd hb
   have isrun:∀ hw':Region.wanted o (yielded ops a.tmps)=true,((runOp E S B id o=.skip/\r=skipRec)\/(∃ out ids,runOp E S B id o=.run out ids/\(∀ p∈out.pre,p)/\refines out.val r.val/\r.new=out.new/\r.wr=out.wr/\r.ids=ids)) ->
     (if Region.wanted o (yielded ops a.tmps) then o.wp E.P a w next Q\/(o.asks E.P a w/\LetsOut Q) else next (a.put o.dst Go.undef) w):=by
    intro hw' hs
    rcases hs with ⟨hs,_⟩|⟨out,ids,hs,hp,href,h1,h2,_⟩
    ·unfold runOp at hs;dsimp only at hs;split at hs<;>cases hs
    ·exact run out ids hs hp href h1 h2 hw'
   have isskip:((StepR.skip=.skip/\r=skipRec)\/(∃ out ids,StepR.skip=.run out ids/\(∀ p∈out.pre,p)/\refines out.val r.val/\r.new=out.new/\r.wr=out.wr/\r.ids=ids))->r=skipRec:=by
    intro hs
    rcases hs with ⟨_,hs⟩|⟨_,_,hs,_⟩
    ·exact hs
    ·cases hs
   split at hs
   ·rename_i _ hS
    rw[hS] at hrel
    have hb:=known true (boolOf_rel (c:=.T) rfl hrel)
    exact isrun (by rw[hw,hb];rfl) hs
   ·rename_i _ hS
    rw[hS] at hrel
    have hb:=known true (boolOf_rel (c:=.T) rfl hrel)
    exact skip (isskip hs) (by rw[hw,hb];rfl)
   ·rename_i _ hS
    rw[hS] at hrel
    have hb:=known false (boolOf_rel (c:=.F) rfl hrel)
    exact skip (isskip hs) (by rw[hw,hb];rfl)
   ·rename_i _ hS
    rw[hS] at hrel
    have hb:=known false (boolOf_rel (c:=.F) rfl hrel)
    exact isrun (by rw[hw,hb];rfl) hs
   ·rename_i hS
    rw[hS] at hrel
    have hu:a.tmps.getD d Go.undef=Go.undef:=hrel
    have hy:yielded ops a.tmps j=none:=by
     unfold yielded
     rw[hd]
     simp only[Option.bind_some]
     rw[Array.getD_eq_getD_getElem?] at hu
     cases hq:a.tmps[d]? with
     | none=>rfl
     | some y=>rw[hq] at hu;simp at hu;subst hu;rfl
    exact skip (isskip hs) (by rw[hw,hy];rfl)
   ·rcases hs with ⟨hs,_⟩|⟨_,_,hs,_⟩<;>cases hs
end
end Go.Eng
namespace Go.Eng
open Go Go.RowKit Cr
def foldS (n:Nat) (e:Nat->Bool):Nat->List (Oper × Rec)->Slots->Slots
 | _,[],S=>S
 | i,(o,r)::l,S=>foldS n e (i+1) l (match e i with|true=>appS n o.dst r.val S|false=>S)
def foldB (e:Nat->Bool):Nat->List (Oper × Rec)->Blks->Blks
 | _,[],B=>B
 | i,(_,r)::l,B=>foldB e (i+1) l (match e i with|true=>appB r B|false=>B)
def TrOk (E:Env) (ops:Array Oper) (n base:Nat):Nat->List (Oper × Rec)->Slots->Blks->Prop
 | _,[],_,_=>True
 | i,(o,r)::l,S,B=>StepOk E ops S B (base+8*i) o r/\TrOk E ops n base (i+1) l (appS n o.dst r.val S) (appB r B)
section
variable {E:Env} {ops:Array Oper} {n base:Nat}
theorem foldS_agree {e e':Nat->Bool} {t:Nat}:∀ (l:List (Oper × Rec)) (i:Nat) (S S':Slots),S t=S' t ->
  (∀ j p,l[j]?=some p->p.1.dst=some t->e (i+j)=e' (i+j))->foldS n e i l S t=foldS n e' i l S' t:=by
 intro l
 induction l with
 | nil=>intro i S S' h _;exact h
 | cons p l ih =>
  intro i S S' h hw
  obtain⟨o,r⟩:=p
  simp only[foldS]
  refine ih (i+1) _ _ ?_ (fun j q hq hd=>by
   have:=hw (j+1) q (by simpa using hq) hd
   rw[show i+1+j=i+(j+1) from by omega];exact this)
  by_cases hd:o.dst=some t
  ·have:=hw 0 (o,r) rfl hd
   simp only[Nat.add_zero] at this
   rw[this]
   cases e' i
   ·exact h
   ·simp[appS,hd,h]
  ·have key:∀ S:Slots,appS n o.dst r.val S t=S t:=by
    intro S
    unfold appS
    split
    ·rename_i d hd'
     rw[if_neg]
     rintro⟨rfl,_⟩
     exact hd hd'
    ·rfl
   cases e i<;>cases e' i<;>simp[key,h]
def touches (r:Rec) (id:Nat):Bool:=(lookB r.new id).isSome||(lookB r.wr id).isSome
theorem appB_touch {r:Rec} {id:Nat} (h:touches r id=true) (B B':Blks):appB r B id=appB r B' id:=by
 unfold appB
 simp only[touches,Bool.or_eq_true] at h
 split
 ·rfl
 ·rename_i h1
  split
  ·rfl
  ·rename_i h2
   rw[h1,h2] at h;simp at h
theorem appB_no {r:Rec} {id:Nat} (h:touches r id=false) (B:Blks):appB r B id=B id:=by
 unfold appB
 simp only[touches,Bool.or_eq_false_iff] at h
 split
 ·rename_i h1;rw[h1] at h;simp at h
 ·split
  ·rename_i h2;rw[h2] at h;simp at h
  ·rfl
theorem foldB_agree {e e':Nat->Bool} {t:Nat}:∀ (l:List (Oper × Rec)) (i:Nat) (B B':Blks),B t=B' t ->
  (∀ j p,l[j]?=some p->touches p.2 t=true->e (i+j)=e' (i+j))->foldB e i l B t=foldB e' i l B' t:=by
 intro l
 induction l with
 | nil=>intro i S S' h _;exact h
 | cons p l ih =>
  intro i B B' h hw
  obtain⟨o,r⟩:=p
  simp only[foldB]
  refine ih (i+1) _ _ ?_ (fun j q hq hd=>by
   have:=hw (j+1) q (by simpa using hq) hd
   rw[show i+1+j=i+(j+1) from by omega];exact this)
  by_cases hd:touches r t=true
  ·have:=hw 0 (o,r) rfl hd
   simp only[Nat.add_zero] at this
   rw[this]
   cases e' i
   ·exact h
   ·exact appB_touch hd B B'
  ·have hd:touches r t=false:=by simpa using hd
   cases e i<;>cases e' i<;>simp[appB_no hd,h]
theorem opd_congr {S S':Slots} {x:Operand} (h:∀ t,x=.tmp t->S t=S' t):opd S x=opd S' x:=by
 cases x with
 | tmp t=>exact h t rfl
 | _=>rfl
theorem vals_congr {S S':Slots}:∀ (l:List Operand),(∀ t,Operand.tmp t∈l->S t=S' t)->l.map (opd S)=l.map (opd S'):=by
 intro l
 induction l with
 | nil=>intro _;rfl
 | cons x l ih =>
  intro h
  simp only[List.map_cons]
  rw[opd_congr (fun t ht=>h t (by simp[ht])),ih (fun t ht=>h t (by simp[ht]))]
theorem memN_mem {i:Nat} {l:List Nat} (h:memN i l=true):i∈l:=by
 induction l with
 | nil=>simp[memN] at h
 | cons j l ih =>
  simp only[memN] at h
  split at h
  ·rename_i hb;have:=beq_true hb;subst this;simp
  ·exact List.mem_cons_of_mem _ (ih h)
theorem mem_memN {i:Nat} {l:List Nat} (h:i∈l):memN i l=true:=by
 induction l with
 | nil=>cases h
 | cons j l ih =>
  simp only[memN]
  split
  ·rfl
  ·rename_i hb
   rcases List.mem_cons.1 h with rfl|h
   ·simp at hb
   ·exact ih h
theorem restr_congr {ids:List Nat} {B B':Blks} (h:∀ i∈ids,B i=B' i):restr ids B=restr ids B':=by
 funext i
 unfold restr
 cases hm:memN i ids with
 | true=>exact h i (memN_mem hm)
 | false=>rfl
def idsAt (S:Slots) (B:Blks) (o:Oper):List Nat:=idsFor o.op B (o.op.operands.toList.map (opd S))
theorem idsOf_congr {B B':Blks} {vs:List SV} (h:∀ i∈idsOf B vs,B i=B' i):idsOf B vs=idsOf B' vs:=by
 unfold idsOf at h ⊢
 simp only at h ⊢
 congr 1
 have:∀ (l:List Nat),(∀ i∈l,B i=B' i)->(l.flatMap fun i=>match B i with|some cs=>cs.flatMap Cell.ids|none=>[])=l.flatMap fun i=>match B' i with|some cs=>cs.flatMap Cell.ids|none=>[]:=by
  intro l
  induction l with
  | nil=>intro _;rfl
  | cons i l ih=>intro hl;simp only[List.flatMap_cons,hl i (by simp),ih (fun j hj=>hl j (by simp[hj]))]
 exact this _ (fun i hi=>h i (List.mem_append_left _ hi))
theorem idsFor_congr {op:Op} {B B':Blks} {vs:List SV} (h:∀ i∈idsFor op B vs,B i=B' i):idsFor op B vs=idsFor op B' vs:=by
 cases op<;>first|rfl|exact idsOf_congr h
theorem looksAt_opd {o:Oper} {t:Nat} (h:Operand.tmp t∈o.op.operands.toList):t∈o.looksAt ops:=by
 unfold Oper.looksAt
 refine List.mem_append.2 (.inl ?_)
 exact List.mem_filterMap.2 ⟨.tmp t,h,rfl⟩
theorem runOp_congr {S S':Slots} {B B':Blks} {id:Nat} {o:Oper} (hS:∀ t∈o.looksAt ops,S t=S' t) (hB:∀ i∈idsAt S B o,B i=B' i):runOp E S B id o=runOp E S' B' id o:=by
 have hv:=vals_congr (S:=S) (S':=S') o.op.operands.toList (fun t ht=>hS t (looksAt_opd ht))
 unfold idsAt at hB
 unfold runOp
 rw[hv] at hB
 dsimp only
 rw[hv,restr_congr hB,idsFor_congr hB]
theorem stepR_congr {S S':Slots} {B B':Blks} {id:Nat} {o:Oper} (hS:∀ t∈o.looksAt ops,S t=S' t) (hB:∀ i∈idsAt S B o,B i=B' i):stepR E ops S B id o=stepR E ops S' B' id o:=by
 unfold stepR
 rw[runOp_congr (E:=E) (id:=id) hS hB]
 cases hg:o.guard with
 | none=>rfl
 | some g =>
  obtain⟨j,want⟩:=g
  dsimp only
  cases hd:(ops[j]?).bind (·.dst) with
  | none=>rfl
  | some d =>
   dsimp only
   have:S d=S' d:=hS d (by
    unfold Oper.looksAt
    refine List.mem_append.2 (.inr ?_)
    simp[hg,hd])
   rw[this]
theorem stepR_ids {S:Slots} {B:Blks} {id:Nat} {o:Oper} {out:Out} {ids:List Nat} (h:stepR E ops S B id o=.run out ids):ids=idsAt S B o:=by
 have key:runOp E S B id o=.run out ids->ids=idsAt S B o:=by
  intro h
  unfold runOp at h
  dsimp only at h
  split at h
  ·simp only[StepR.run.injEq] at h;exact h.2.symm
  ·cases h
 unfold stepR at h
 repeat' split at h
 all_goals first|exact key h|cases h
def disj (a b:List Nat):Bool:=a.all fun i => !memN i b
def tids (r:Rec):List Nat:=(r.new.map (·.1))++(r.wr.map (·.1))
def clash (ops:Array Oper) (p q:Oper × Rec):Bool :=
 !(p.1.apart ops q.1&&disj (tids p.2) q.2.ids&&disj (tids q.2) p.2.ids&&disj (tids p.2) (tids q.2))
def maskOf (acc:List Nat) (es:List Edge):Nat :=
 match es with
 | []=>0
 | e::es=>match Region.binds .any e with
  | true=>(2^e.on) ||| (acc.getD e.on 0) ||| maskOf acc es
  | false=>maskOf acc es
def masks:List Oper->List Nat->List Nat
 | [],acc=>acc
 | o::os,acc=>masks os (acc++[maskOf acc o.after.toList])
def pairsOk (ops:Array Oper):Nat->List (Oper × Rec)->List (Oper × Rec)->List Nat->Bool
 | _,_,[],_=>true
 | _,_,_::_,[]=>false
 | i,prev,q::l,m::ms =>
  (prev.zipIdx.all fun (p,j)=>m.testBit j || !clash ops p q)&&pairsOk ops (i+1) (prev++[q]) l ms
def edgesOk (ops:List Oper):Bool:=ops.zipIdx.all fun (o,i)=>o.after.toList.all fun e => !Region.binds .any e||Nat.blt e.on i
def indep (ops:Array Oper) (l:List (Oper × Rec)):Bool :=
 edgesOk ops.toList&&pairsOk ops 0 [] l (masks ops.toList [])
theorem disj_spec {a b:List Nat} (h:disj a b=true):∀ i∈a,i∉b:=by
 intro i hi hb
 simp only[disj,List.all_eq_true] at h
 have:=h i hi
 rw[mem_memN hb] at this
 cases this
theorem maskOf_spec {acc:List Nat} {i:Nat}:∀ (es:List Edge),(maskOf acc es).testBit i=true->∃ e∈es,Region.binds .any e=true/\(e.on=i\/(acc.getD e.on 0).testBit i=true):=by
 intro es
 induction es with
 | nil=>intro h;simp[maskOf] at h
 | cons e es ih =>
  intro h
  simp only[maskOf] at h
  split at h
  ·rename_i hb
   simp only[Nat.testBit_or,Bool.or_eq_true] at h
   rcases h with (h|h)|h
   ·refine⟨e,by simp,hb,.inl ?_⟩
    simpa[Nat.testBit_two_pow] using h
   ·exact⟨e,by simp,hb,.inr h⟩
   ·obtain⟨e',h1,h2⟩:=ih h
    exact⟨e',by simp[h1],h2⟩
  ·obtain⟨e',h1,h2⟩:=ih h
   exact⟨e',by simp[h1],h2⟩
theorem masks_spec:∀ (os:List Oper) (acc:List Nat),(masks os acc).take acc.length=acc/\(masks os acc).length=acc.length+os.length /\
  ∀ j o,os[j]?=some o->(masks os acc).getD (acc.length+j) 0=maskOf ((masks os acc).take (acc.length+j)) o.after.toList:=by
 intro os
 induction os with
 | nil=>intro acc;exact⟨by simp[masks],by simp[masks],fun j o h=>by simp at h⟩
 | cons o os ih =>
  intro acc
  obtain⟨h1,h2,h3⟩:=ih (acc++[maskOf acc o.after.toList])
  simp only[List.length_append,List.length_cons,List.length_nil,Nat.zero_add] at h1 h2 h3
  simp only[masks]
  refine⟨?_,by rw[h2];simp;omega,?_⟩
  ·have:=congrArg (List.take acc.length) h1
   simpa[List.take_take] using this
  ·intro j o' hj
   cases j with
   | zero =>
    simp at hj;subst hj
    have e1:(masks os (acc++[maskOf acc o.after.toList])).take acc.length=acc:=by
     have:=congrArg (List.take acc.length) h1
     simpa[List.take_take] using this
    rw[Nat.add_zero,e1]
    have:=congrArg (fun l:List Nat=>l.getD acc.length 0) h1
    simpa[List.getElem?_take] using this
   | succ j =>
    have:=h3 j o' (by simpa using hj)
    rw[show acc.length+1+j=acc.length+(j+1) from by omega] at this
    exact this
theorem pairsOk_spec:∀ (l:List (Oper × Rec)) (i:Nat) (prev:List (Oper × Rec)) (ms:List Nat),pairsOk ops i prev l ms=true->l.length<=ms.length ->
  ∀ j p k q,(prev++l)[j]?=some p->l[k]?=some q->j<prev.length+k->(ms.getD k 0).testBit j=true\/clash ops p q=false:=by
 intro l
 induction l with
 | nil=>intro i prev ms _ _ j p k q _ hq;simp at hq
 | cons x l ih =>
  intro i prev ms h hlen j p k q hj hk hlt
  cases ms with
  | nil=>simp at hlen
  | cons m ms =>
   simp only[pairsOk,Bool.and_eq_true] at h
   obtain⟨ha,hb⟩:=h
   cases k with
   | zero =>
    simp at hk;subst hk
    have hjp:prev[j]?=some p:=by
     rw[List.getElem?_append_left (by omega)] at hj;exact hj
    simp only[List.all_eq_true] at ha
    have:=ha (p,j) (List.mem_zipIdx_iff_getElem?.2 hjp)
    simpa using this
   | succ k =>
    have:=ih (i+1) (prev++[x]) ms hb (by simpa using hlen) j p k q (by simpa using hj) (by simpa using hk) (by simp;omega)
    simpa using this
theorem edgesOk_spec {os:List Oper} (h:edgesOk os=true) {i:Nat} {o:Oper} (ho:os[i]?=some o):∀ e∈o.after.toList,Region.binds .any e=true->e.on<i:=by
 intro e he hb
 simp only[edgesOk,List.all_eq_true] at h
 have:=h (o,i) (List.mem_zipIdx_iff_getElem?.2 ho) e he
 simp only[hb,Bool.not_true,Bool.false_or] at this
 simpa[Nat.blt_eq] using this
def Closed (ops:Array Oper) (e:Nat->Bool):Prop:=∀ j o,ops[j]?=some o->e j=true->∀ d∈o.after.toList,Region.binds .any d=true->e d.on=true
theorem closed_mask {e:Nat->Bool} (he:edgesOk ops.toList=true) (hc:Closed ops e):∀ (N j:Nat) (o:Oper),j<N->ops[j]?=some o->(∀ d∈o.after.toList,Region.binds .any d=true->e d.on=true) ->
  ∀ i,((masks ops.toList []).getD j 0).testBit i=true->e i=true:=by
 intro N
 induction N with
 | zero=>intro j o h;omega
 | succ N ih =>
  intro j o hj ho hd i hi
  obtain⟨_,h2,h3⟩:=masks_spec ops.toList []
  have:=h3 j o (by simpa using ho)
  simp only[List.length_nil,Nat.zero_add] at this
  rw[this] at hi
  obtain⟨d,hd1,hd2,hd3⟩:=maskOf_spec _ hi
  have hlt:=edgesOk_spec he (by simpa using ho:ops.toList[j]?=some o) d hd1 hd2
  rcases hd3 with rfl|hd3
  ·exact hd d hd1 hd2
  ·have hsz:d.on<ops.size:=by
    have:j<ops.size:=by
     rcases Nat.lt_or_ge j ops.size with h|h
     ·exact h
     ·simp[Array.getElem?_eq_none h] at ho
    omega
   have hod:ops[d.on]?=some ops[d.on]:=by simp[hsz]
   refine ih d.on ops[d.on] (by omega) hod (hc _ _ hod (hd d hd1 hd2)) i ?_
   have:((masks ops.toList []).take j).getD d.on 0=(masks ops.toList []).getD d.on 0:=by
    simp[hlt]
   rw[<- this];exact hd3
end
end Go.Eng
namespace Go.Eng
open Go Go.RowKit Cr
section
variable {E:Env} {ops:Array Oper} {n base:Nat} {Q:Exit->Act->World->Prop}
def allS (n:Nat) (l:List (Oper × Rec)) (S:Slots):Slots:=foldS n (fun _=>true) 0 l S
def allB (l:List (Oper × Rec)) (B:Blks):Blks:=foldB (fun _=>true) 0 l B
theorem foldS_shift (n:Nat):∀ (l:List (Oper × Rec)) (i j:Nat) (S:Slots),foldS n (fun _=>true) i l S=foldS n (fun _=>true) j l S:=by
 intro l
 induction l with
 | nil=>intro i j S;rfl
 | cons p l ih=>intro i j S;obtain⟨o,r⟩:=p;simp only[foldS];exact ih _ _ _
theorem foldB_shift:∀ (l:List (Oper × Rec)) (i j:Nat) (B:Blks),foldB (fun _=>true) i l B=foldB (fun _=>true) j l B:=by
 intro l
 induction l with
 | nil=>intro i j S;rfl
 | cons p l ih=>intro i j S;obtain⟨o,r⟩:=p;simp only[foldB];exact ih _ _ _
theorem seq_sound (hsp:SpecsOk E.P E.sp):∀ (l:List (Oper × Rec)) (i:Nat) (S:Slots) (B:Blks) (ρ:Rho) (a:Act) (w:World),TrOk E ops n base i l S B ->
  (∀ k p,l[k]?=some p->ops[i+k]?=some p.1)->RepL E.w0 n S B ρ a w->(∀ id b,ρ id=some b->id<base+8*i) ->
  (∀ a' w' ρ',RepL E.w0 n (allS n l S) (allB l B) ρ' a' w'->(∀ id b,ρ' id=some b->id<base+8*(i+l.length))->Q .normal a' w') ->
  wpOps E.P ops Q (List.range' i l.length) a w:=by
 intro l
 induction l with
 | nil=>intro i S B ρ a w _ _ hr hd hq;exact hq a w ρ hr (by simpa using hd)
 | cons p l ih =>
  intro i S B ρ a w ht hops hr hd hq
  obtain⟨o,r⟩:=p
  obtain⟨hs,ht⟩:=ht
  have ho:=hops 0 (o,r) rfl
  simp only[Nat.add_zero] at ho
  simp only[List.length_cons,List.range'_succ]
  unfold wpOps
  simp only[ho]
  refine stepOk_sound hsp hr hs (fun j h1 _=>?_) (fun a' w' ρ' hr' hdom=>?_)
  ·cases hj:ρ j with
   | none=>rfl
   | some b=>have:=hd j b hj;omega
  ·refine ih (i+1) _ _ ρ' a' w' ht (fun k q hk=>?_) hr' (fun j b hj=>?_) (fun a2 w2 ρ2 h2 hd2=>?_)
   ·have:=hops (k+1) q (by simpa using hk)
    rw[show i+1+k=i+(k+1) from by omega];exact this
   ·rcases hdom j b hj with h|h
    ·have:=hd j b h;omega
    ·omega
   ·refine hq a2 w2 ρ2 ?_ (fun j b hj=>?_)
    ·unfold allS allB at *
     simp only[foldS,foldB]
     rw[foldS_shift n l (0+1) 0,foldB_shift l (0+1) 0]
     exact h2
    ·have:=hd2 j b hj;simp only[List.length_cons];omega
theorem TrOk_get:∀ (l:List (Oper × Rec)) (i k:Nat) (S:Slots) (B:Blks) (o:Oper) (r:Rec),TrOk E ops n base i l S B->l[k]?=some (o,r) ->
  StepOk E ops (foldS n (fun j=>decide (j<i+k)) i l S) (foldB (fun j=>decide (j<i+k)) i l B) (base+8*(i+k)) o r:=by
 intro l
 induction l with
 | nil=>intro i k S B o r _ h;simp at h
 | cons p l ih =>
  intro i k S B o r ht hk
  obtain⟨o',r'⟩:=p
  obtain⟨hs,ht⟩:=ht
  have stop:∀ (m:Nat) (l:List (Oper × Rec)) (i:Nat),m<=i->∀ S B,foldS n (fun j=>decide (j<m)) i l S=S/\foldB (fun j=>decide (j<m)) i l B=B:=by
   intro m l
   induction l with
   | nil=>intro i _ S B;exact⟨rfl,rfl⟩
   | cons q l ihl =>
    intro i hi S B
    obtain⟨o2,r2⟩:=q
    have:decide (i<m)=false:=by simp;omega
    simp only[foldS,foldB,this]
    exact ihl (i+1) (by omega) S B
  cases k with
  | zero =>
   simp at hk
   obtain⟨rfl,rfl⟩:=hk
   obtain⟨e1,e2⟩:=stop (i+0) ((o',r')::l) i (by omega) S B
   rw[e1,e2]
   exact hs
  | succ k =>
   have:=ih (i+1) k _ _ o r ht (by simpa using hk)
   rw[show i+1+k=i+(k+1) from by omega] at this
   simp only[foldS,foldB]
   have hlt:decide (i<i+(k+1))=true:=by simp
   rw[hlt]
   exact this
theorem stepR_skip_congr {S S':Slots} {B B':Blks} {id:Nat} {o:Oper} (hS:∀ t∈o.looksAt ops,S t=S' t) (h:stepR E ops S B id o=.skip):stepR E ops S' B' id o=.skip:=by
 have norun:∀ S B,runOp E S B id o≠.skip:=by
  intro S B h
  unfold runOp at h
  dsimp only at h
  split at h<;>cases h
 unfold stepR at h ⊢
 cases hg:o.guard with
 | none=>simp only[hg] at h;exact absurd h (norun _ _)
 | some g =>
  obtain⟨j,want⟩:=g
  simp only[hg] at h
  dsimp only
  cases hd:(ops[j]?).bind (·.dst) with
  | none=>simp only[hd] at h;cases h
  | some d =>
   simp only[hd] at h
   dsimp only
   have:S d=S' d:=hS d (by
    unfold Oper.looksAt
    refine List.mem_append.2 (.inr ?_)
    simp[hg,hd])
   rw[<- this]
   split at h
   ·exact absurd h (norun _ _)
   ·rfl
   ·rfl
   ·exact absurd h (norun _ _)
   ·rfl
   ·cases h
theorem foldS_out (n:Nat) (e:Nat->Bool) {t:Nat} (ht:n<=t):∀ (l:List (Oper × Rec)) (i:Nat) (S:Slots),foldS n e i l S t=S t:=by
 intro l
 induction l with
 | nil=>intro i S;rfl
 | cons p l ih =>
  intro i S
  obtain⟨o,r⟩:=p
  simp only[foldS]
  rw[ih]
  cases e i
  ·rfl
  ·show appS n o.dst r.val S t=S t
   unfold appS
   split
   ·rename_i d _
    rw[if_neg (by rintro⟨rfl,h⟩;exact absurd h (Nat.not_lt.2 ht))]
   ·rfl
theorem foldS_last {e:Nat->Bool} {t:Nat} {o:Oper} {r:Rec} (hd:o.dst=some t) (ht:t<n):∀ (l:List (Oper × Rec)) (i k:Nat) (S:Slots),l[k]?=some (o,r)->e (i+k)=true ->
  (∀ j p,l[j]?=some p->k<j->p.1.dst=some t->e (i+j)=false)->foldS n e i l S t=r.val:=by
 intro l
 induction l with
 | nil=>intro i k S h;simp at h
 | cons p l ih =>
  intro i k S hk he hl
  obtain⟨o',r'⟩:=p
  cases k with
  | zero =>
   simp at hk
   obtain⟨rfl,rfl⟩:=hk
   simp only[Nat.add_zero] at he
   simp only[foldS,he]
   have:foldS n e (i+1) l (appS n o'.dst r'.val S) t=foldS n (fun _=>false) (i+1) l (appS n o'.dst r'.val S) t :=
    foldS_agree l (i+1) _ _ rfl (fun j q hq hdq=>by
     have:=hl (j+1) q (by simpa using hq) (by omega) hdq
     rw[show i+1+j=i+(j+1) from by omega];exact this)
   rw[this]
   have none:∀ (l:List (Oper × Rec)) (i:Nat) (S:Slots),foldS n (fun _=>false) i l S=S:=by
    intro l
    induction l with
    | nil=>intro i S;rfl
    | cons q l ihl=>intro i S;obtain⟨o2,r2⟩:=q;simp only[foldS];exact ihl _ _
   rw[none]
   simp[appS,hd,ht]
  | succ k =>
   simp only[foldS]
   refine ih (i+1) k _ (by simpa using hk) (by rw[show i+1+k=i+(k+1) from by omega];exact he) (fun j q hq hlt hdq=>?_)
   have:=hl (j+1) q (by simpa using hq) (by omega) hdq
   rw[show i+1+j=i+(j+1) from by omega];exact this
theorem foldB_last {e:Nat->Bool} {t:Nat} {o:Oper} {r:Rec} (hd:touches r t=true) (B0:Blks):∀ (l:List (Oper × Rec)) (i k:Nat) (B:Blks),l[k]?=some (o,r)->e (i+k)=true ->
  (∀ j p,l[j]?=some p->k<j->touches p.2 t=true->e (i+j)=false)->foldB e i l B t=appB r B0 t:=by
 intro l
 induction l with
 | nil=>intro i k S h;simp at h
 | cons p l ih =>
  intro i k S hk he hl
  obtain⟨o',r'⟩:=p
  cases k with
  | zero =>
   simp at hk
   obtain⟨rfl,rfl⟩:=hk
   simp only[Nat.add_zero] at he
   simp only[foldB,he]
   have:foldB e (i+1) l (appB r' S) t=foldB (fun _=>false) (i+1) l (appB r' S) t :=
    foldB_agree l (i+1) _ _ rfl (fun j q hq hdq=>by
     have:=hl (j+1) q (by simpa using hq) (by omega) hdq
     rw[show i+1+j=i+(j+1) from by omega];exact this)
   rw[this]
   have none:∀ (l:List (Oper × Rec)) (i:Nat) (S:Blks),foldB (fun _=>false) i l S=S:=by
    intro l
    induction l with
    | nil=>intro i S;rfl
    | cons q l ihl=>intro i S;obtain⟨o2,r2⟩:=q;simp only[foldB];exact ihl _ _
   rw[none]
   exact appB_touch hd _ _
  | succ k =>
   simp only[foldB]
   refine ih (i+1) k _ (by simpa using hk) (by rw[show i+1+k=i+(k+1) from by omega];exact he) (fun j q hq hlt hdq=>?_)
   have:=hl (j+1) q (by simpa using hq) (by omega) hdq
   rw[show i+1+j=i+(j+1) from by omega];exact this
theorem touches_mem {r:Rec} {t:Nat} (h:touches r t=true):t∈tids r:=by
 simp only[touches,Bool.or_eq_true] at h
 unfold tids
 refine List.mem_append.2 ?_
 rcases h with h|h
 ·obtain⟨cs,hcs⟩:=Option.isSome_iff_exists.1 h
  exact .inl (List.mem_map.2 ⟨_,lookB_mem hcs,rfl⟩)
 ·obtain⟨cs,hcs⟩:=Option.isSome_iff_exists.1 h
  exact .inr (List.mem_map.2 ⟨_,lookB_mem hcs,rfl⟩)
def unl (l:List Bool):Nat:=l.countP (fun b => !b)
theorem unl_set:∀ (l:List Bool) (i:Nat),l[i]?=some false->unl (l.set i true)+1=unl l:=by
 intro l
 induction l with
 | nil=>intro i h;simp at h
 | cons b l ih =>
  intro i h
  cases i with
  | zero=>simp at h;subst h;simp[unl]
  | succ i =>
   have:=ih i (by simpa using h)
   unfold unl at *
   simp only[List.set_cons_succ,List.countP_cons]
   omega
theorem unl_zero {l:List Bool} (h:unl l=0):∀ i,l.getD i true=true:=by
 intro i
 unfold unl at h
 rw[List.countP_eq_zero] at h
 cases hq:l[i]? with
 | none=>simp[hq]
 | some b =>
  have:=h b (List.mem_of_getElem? hq)
  simp[hq];simpa using this
theorem drawn_sound (hsp:SpecsOk E.P E.sp) {l:List (Oper × Rec)} {S:Slots} {B:Blks} (hl:l.map (·.1)=ops.toList) (ht:TrOk E ops n base 0 l S B) (hin:indep ops l=true)
  (hq:∀ a w ρ,RepL E.w0 n (allS n l S) (allB l B) ρ a w->(∀ id b,ρ id=some b->id<base+8*ops.size)->Q .normal a w) :
  ∀ (fuel:Nat) (listed:Array Bool) (a:Act) (w:World) (ρ:Rho),listed.size=ops.size->unl listed.toList<=fuel->Closed ops (fun j=>listed.getD j false) ->
   RepL E.w0 n (foldS n (fun j=>listed.getD j false) 0 l S) (foldB (fun j=>listed.getD j false) 0 l B) ρ a w ->
   (∀ id b,ρ id=some b->id<base\/∃ j,listed.getD j false=true/\base+8*j<=id/\id<base+8*j+8) ->
   wpAny E.P .any ops Q fuel listed a w:=by
 simp only[indep,Bool.and_eq_true] at hin
 obtain⟨hedges,hpairs⟩:=hin
 have hlen:l.length=ops.size:=by have:=congrArg List.length hl;simpa using this
 have hget:∀ (j:Nat) (p:Oper × Rec),l[j]?=some p->ops[j]?=some p.1:=by
  intro j p hp
  have:=congrArg (fun m:List Oper=>m[j]?) hl
  simp only[List.getElem?_map,hp,Option.map_some] at this
  simpa using this.symm
 have hmlen:l.length<=(masks ops.toList []).length:=by rw[(masks_spec ops.toList []).2.1];simp[hlen]
 have hpair:∀ (j:Nat) (p:Oper × Rec) (k:Nat) (q:Oper × Rec),l[j]?=some p->l[k]?=some q->j<k->((masks ops.toList []).getD k 0).testBit j=true\/clash ops p q=false:=by
  intro j p k q hj hk hlt
  exact pairsOk_spec l 0 [] _ hpairs hmlen j p k q (by simpa using hj) hk (by simpa using hlt)
 -- all listed
 have finish:∀ (listed:Array Bool) (a:Act) (w:World) (ρ:Rho),listed.size=ops.size->(∀ i,i<ops.size->listed.getD i false=true) ->
   RepL E.w0 n (foldS n (fun j=>listed.getD j false) 0 l S) (foldB (fun j=>listed.getD j false) 0 l B) ρ a w ->
   (∀ id b,ρ id=some b->id<base\/∃ j,listed.getD j false=true/\base+8*j<=id/\id<base+8*j+8)->Q .normal a w:=by
  intro listed a w ρ hsz hall hr hd
  refine hq a w ρ ?_ (fun id b hid=>?_)
  ·have e1:foldS n (fun j=>listed.getD j false) 0 l S=allS n l S:=by
    funext t
    refine foldS_agree l 0 S S rfl (fun j p hj _=>?_)
    simp only[Nat.zero_add]
    refine hall j ?_
    rcases Nat.lt_or_ge j l.length with h|h
    ·omega
    ·simp[List.getElem?_eq_none h] at hj
   have e2:foldB (fun j=>listed.getD j false) 0 l B=allB l B:=by
    funext t
    refine foldB_agree l 0 B B rfl (fun j p hj _=>?_)
    simp only[Nat.zero_add]
    refine hall j ?_
    rcases Nat.lt_or_ge j l.length with h|h
    ·omega
    ·simp[List.getElem?_eq_none h] at hj
   rw[<- e1,<- e2];exact hr
  ·rcases hd id b hid with h|⟨j,h1,h2,h3⟩
   ·omega
   ·have:j<ops.size:=by
     rcases Nat.lt_or_ge j ops.size with h|h
     ·exact h
     ·rw[Array.getD_eq_getD_getElem?,Array.getElem?_eq_none (by omega)] at h1;cases h1
    omega
 have ready_all:∀ listed:Array Bool,listed.size=ops.size->Region.ready .any ops listed=[]->∀ i,i<ops.size->listed.getD i false=true:=by
  intro listed hsz hr
  have:∀ N i,i<N->i<ops.size->listed.getD i false=true:=by
   intro N
   induction N with
   | zero=>intro i h;omega
   | succ N ihN =>
    intro i hi his
    cases hb:listed.getD i false with
    | true=>rfl
    | false =>
     exfalso
     have hmem:i∈Region.ready .any ops listed:=by
      unfold Region.ready
      refine List.mem_filter.2 ⟨List.mem_range.2 his,?_⟩
      have hoi:ops[i]?=some ops[i]:=by simp[his]
      have hgt:listed.getD i true=false:=by
       rw[Array.getD_eq_getD_getElem?] at hb ⊢
       have:listed[i]?=some listed[i]:=by simp[hsz,his]
       rw[this] at hb ⊢;simpa using hb
      rw[hgt,hoi]
      simp only[Bool.not_false,Option.map_some,Option.getD_some,Bool.true_and]
      rw[Array.all_eq_true']
      intro e he
      cases hbd:Region.binds .any e with
      | false=>rfl
      | true =>
       have hlt:=edgesOk_spec hedges (by simp[his]:ops.toList[i]?=some ops[i]) e (by simpa using he) hbd
       simp[ihN e.on (by omega) (by omega)]
     rw[hr] at hmem;cases hmem
  exact fun i hi=>this (i+1) i (by omega) hi
 intro fuel
 induction fuel with
 | zero =>
  intro listed a w ρ hsz hf hc hr hd
  have hall:∀ i,i<ops.size->listed.getD i false=true:=by
   intro i hi
   have:=unl_zero (Nat.le_zero.1 hf) i
   rw[Array.getD_eq_getD_getElem?]
   have h2:listed[i]?=some listed[i]:=by simp[hsz,hi]
   rw[h2]
   have h3:listed.toList[i]?=some listed[i]:=by simp[hsz,hi]
   rw[List.getD_eq_getElem?_getD,h3] at this
   simpa using this
  refine⟨?_,finish listed a w ρ hsz hall hr hd⟩
  unfold Region.ready
  rw[List.filter_eq_nil_iff]
  intro i hi
  have hi:=List.mem_range.1 hi
  have:=hall i hi
  rw[Array.getD_eq_getD_getElem?] at this
  have h2:listed[i]?=some listed[i]:=by simp[hsz,hi]
  rw[h2] at this
  rw[Array.getD_eq_getD_getElem?,h2]
  simp at this ⊢
  simp[this]
 | succ fuel ih =>
  intro listed a w ρ hsz hf hc hr hd
  refine⟨fun h0=>finish listed a w ρ hsz (ready_all listed hsz h0) hr hd,fun i hi=>?_⟩
  obtain⟨hi1,hi2⟩:=List.mem_filter.1 hi
  have his:=List.mem_range.1 hi1
  have hoi:ops[i]?=some ops[i]:=by simp[his]
  have hli:listed[i]?=some listed[i]:=by simp[hsz,his]
  simp only[Bool.and_eq_true,Bool.not_eq_true',hoi,Option.map_some,Option.getD_some] at hi2
  obtain⟨hi3,hi4⟩:=hi2
  have hlf:listed[i]=false:=by
   rw[Array.getD_eq_getD_getElem?,hli] at hi3;simpa using hi3
  have hei:listed.getD i false=false:=by rw[Array.getD_eq_getD_getElem?,hli];simpa using hlf
  obtain⟨⟨o,r⟩,hp⟩:∃ p,l[i]?=some p:=⟨l[i],by simp[hlen,his]⟩
  have hoo:=hget i _ hp
  have eo:ops[i]=o:=by rw[hoi] at hoo;simpa using hoo
  have hedge:∀ d∈o.after.toList,Region.binds .any d=true->listed.getD d.on false=true:=by
   intro d hd1 hd2
   rw[Array.all_eq_true'] at hi4
   have:=hi4 d (by rw[eo];simpa using hd1)
   simpa[hd2] using this
  have early:∀ k,((masks ops.toList []).getD i 0).testBit k=true->listed.getD k false=true:=closed_mask hedges hc (i+1) i o (by omega) hoo hedge
  have late:∀ j oj,ops[j]?=some oj->((masks ops.toList []).getD j 0).testBit i=true->listed.getD j false=false:=by
   intro j oj hj hb
   cases hej:listed.getD j false with
   | false=>rfl
   | true =>
    have:=closed_mask hedges hc (j+1) j oj (by omega) hj (hc j oj hj hej) i hb
    rw[hei] at this;cases this
  -- whatever is not apart from i is ordered with it
  have slotw:∀ (t j:Nat) (p:Oper × Rec),l[j]?=some p->p.1.dst=some t->(t∈o.looksAt ops\/o.dst=some t)->(decide (j<i)=listed.getD j false\/j=i):=by
   intro t j p hj hdj hto
   rcases Nat.lt_trichotomy j i with h|h|h
   ·left
    rcases hpair j p i (o,r) hj hp h with hb|hb
    ·rw[early j hb];simpa using h
    ·exfalso
     simp only[clash,Bool.not_eq_false',Bool.and_eq_true] at hb
     obtain⟨s1,s2,s3⟩:=Oper.apart_spec hb.1.1.1
     rcases hto with hto|hto
     ·exact s1 t hdj hto
     ·exact s2 t hdj hto
   ·right;exact h
   ·left
    rcases hpair i (o,r) j p hp hj h with hb|hb
    ·rw[late j p.1 (hget j p hj) hb];simp;omega
    ·exfalso
     simp only[clash,Bool.not_eq_false',Bool.and_eq_true] at hb
     obtain⟨s1,s2,s3⟩:=Oper.apart_spec hb.1.1.1
     rcases hto with hto|hto
     ·exact s3 t hdj hto
     ·exact s2 t hto hdj
  have blkw:∀ (t j:Nat) (p:Oper × Rec),l[j]?=some p->touches p.2 t=true->(t∈r.ids\/touches r t=true)->(decide (j<i)=listed.getD j false\/j=i):=by
   intro t j p hj hdj hto
   have hdj:=touches_mem hdj
   rcases Nat.lt_trichotomy j i with h|h|h
   ·left
    rcases hpair j p i (o,r) hj hp h with hb|hb
    ·rw[early j hb];simpa using h
    ·exfalso
     simp only[clash,Bool.not_eq_false',Bool.and_eq_true] at hb
     obtain⟨⟨⟨_,b1⟩,b2⟩,b3⟩:=hb
     rcases hto with hto|hto
     ·exact disj_spec b1 t hdj hto
     ·exact disj_spec b3 t hdj (touches_mem hto)
   ·right;exact h
   ·left
    rcases hpair i (o,r) j p hp hj h with hb|hb
    ·rw[late j p.1 (hget j p hj) hb];simp;omega
    ·exfalso
     simp only[clash,Bool.not_eq_false',Bool.and_eq_true] at hb
     obtain⟨⟨⟨_,b1⟩,b2⟩,b3⟩:=hb
     rcases hto with hto|hto
     ·exact disj_spec b2 t hdj hto
     ·exact disj_spec b3 t (touches_mem hto) hdj
  have hst:=TrOk_get l 0 i S B o r ht hp
  simp only[Nat.zero_add] at hst
  have hSeq:∀ t∈o.looksAt ops,foldS n (fun j=>decide (j<i)) 0 l S t=foldS n (fun j=>listed.getD j false) 0 l S t:=by
   intro t hto
   refine foldS_agree l 0 S S rfl (fun j p hj hdj=>?_)
   simp only[Nat.zero_add]
   rcases slotw t j p hj hdj (.inl hto) with h|h
   ·exact h
   ·subst h;rw[hei];simp
  have hst2:StepOk E ops (foldS n (fun j=>listed.getD j false) 0 l S) (foldB (fun j=>listed.getD j false) 0 l B) (base+8*i) o r:=by
   rcases hst with ⟨h1,h2⟩|⟨out,ids,h1,h2,h3,h4,h5,h6⟩
   ·exact .inl ⟨stepR_skip_congr hSeq h1,h2⟩
   ·refine .inr ⟨out,ids,?_,h2,h3,h4,h5,h6⟩
    rw[<- stepR_congr hSeq ?_]
    ·exact h1
    ·intro t hti
     rw[<- stepR_ids h1,<- h6] at hti
     refine foldB_agree l 0 B B rfl (fun j p hj hdj=>?_)
     simp only[Nat.zero_add]
     rcases blkw t j p hj hdj (.inl hti) with h|h
     ·exact h
     ·subst h;rw[hei];simp
  have hset:∀ j,(listed.setIfInBounds i true).getD j false=if j=i then true else listed.getD j false:=by
   intro j
   rw[Array.getD_eq_getD_getElem?,Array.getD_eq_getD_getElem?]
   by_cases h:j=i
   ·subst h
    rw[Array.getElem?_setIfInBounds_self_of_lt (by omega)];simp
   ·rw[Array.getElem?_setIfInBounds_ne (fun e=>h e.symm)];simp[h]
  unfold wpOp
  simp only[hoo]
  refine stepOk_sound hsp hr hst2 (fun k h1 h2=>?_) (fun a' w' ρ' hr' hdom=>?_)
  ·cases hk:ρ k with
   | none=>rfl
   | some b =>
    exfalso
    rcases hd k b hk with h|⟨j,h3,h4,h5⟩
    ·omega
    ·have:j=i:=by omega
     subst this
     rw[hei] at h3;cases h3
  ·have e1:foldS n (fun j=>(listed.setIfInBounds i true).getD j false) 0 l S=appS n o.dst r.val (foldS n (fun j=>listed.getD j false) 0 l S):=by
    funext t
    by_cases htn:t<n
    ·by_cases hdt:o.dst=some t
     ·rw[foldS_last (o:=o) (r:=r) hdt htn l 0 i S hp (by simp only[Nat.zero_add];rw[hset];simp) (fun j p hj hlt hdj=>by
       simp only[Nat.zero_add]
       rw[hset,if_neg (by omega)]
       rcases slotw t j p hj hdj (.inr hdt) with h|h
       ·rw[<- h];simp;omega
       ·omega)]
      simp[appS,hdt,htn]
     ·have:appS n o.dst r.val (foldS n (fun j=>listed.getD j false) 0 l S) t=foldS n (fun j=>listed.getD j false) 0 l S t:=by
       unfold appS
       split
       ·rename_i d hd'
        rw[if_neg]
        rintro⟨rfl,_⟩
        exact hdt hd'
       ·rfl
      rw[this]
      refine foldS_agree l 0 S S rfl (fun j p hj hdj=>?_)
      simp only[Nat.zero_add]
      rw[hset]
      by_cases hji:j=i
      ·subst hji
       rw[hp] at hj
       simp at hj;subst hj
       exact absurd hdj hdt
      ·simp[hji]
    ·rw[foldS_out n _ (by omega)]
     unfold appS
     split
     ·rw[if_neg (by rintro⟨rfl,h⟩;exact htn h),foldS_out n _ (by omega)]
     ·rw[foldS_out n _ (by omega)]
   have e2:foldB (fun j=>(listed.setIfInBounds i true).getD j false) 0 l B=appB r (foldB (fun j=>listed.getD j false) 0 l B):=by
    funext t
    cases hdt:touches r t with
    | true =>
     exact foldB_last (o:=o) (r:=r) hdt _ l 0 i B hp (by simp only[Nat.zero_add];rw[hset];simp) (fun j p hj hlt hdj=>by
       simp only[Nat.zero_add]
       rw[hset,if_neg (by omega)]
       rcases blkw t j p hj hdj (.inr hdt) with h|h
       ·rw[<- h];simp;omega
       ·omega)
    | false =>
     rw[appB_no hdt]
     refine foldB_agree l 0 B B rfl (fun j p hj hdj=>?_)
     simp only[Nat.zero_add]
     rw[hset]
     by_cases hji:j=i
     ·subst hji
      rw[hp] at hj
      simp at hj;subst hj
      rw[hdt] at hdj;cases hdj
     ·simp[hji]
   refine ih (listed.setIfInBounds i true) a' w' ρ' (by simpa using hsz) ?_ ?_ (by rw[e1,e2];exact hr') ?_
   ·have:=unl_set listed.toList i (by simpa[hlf] using hli)
    simp only[Array.toList_setIfInBounds]
    omega
   ·intro j oj hj hej d hd1 hd2
    have hej:(listed.setIfInBounds i true).getD j false=true:=hej
    show (listed.setIfInBounds i true).getD d.on false=true
    rw[hset] at hej ⊢
    by_cases hji:j=i
    ·subst hji
     have:oj=o:=by rw[hoo] at hj;simpa using hj.symm
     subst this
     have:=hedge d hd1 hd2
     simp[this]
    ·simp only[hji,if_false] at hej
     have:=hc j oj hj hej d hd1 hd2
     simp[this]
   ·intro k b hk
    rcases hdom k b hk with h|⟨h1,h2⟩
    ·rcases hd k b h with h|⟨j,h3,h4⟩
     ·exact .inl h
     ·exact .inr ⟨j,by rw[hset];simp[h3],h4⟩
    ·exact .inr ⟨i,by rw[hset];simp,h1,h2⟩
end
end Go.Eng
