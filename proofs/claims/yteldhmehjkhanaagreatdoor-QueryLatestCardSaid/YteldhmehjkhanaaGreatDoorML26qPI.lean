import Derived.Deep.LoopGhost
import Derived.Test.YteldhmehjkhanaaGreatDoorML26qPH
set_option maxRecDepth 100000
namespace Go.Eng
open Go Go.RowKit Cr
def conj:List Prop->Prop->Prop
 | [],K=>K
 | p::ps,K=>p/\conj ps K
def isSrc (ops:List Oper) (i:Nat):Bool:=ops.any fun o=>match o.guard with
 | some (j,_)=>Nat.beq j i
 | none=>false
def splitVal (src:Bool) (v:SV) (K:SV->Prop):Prop :=
 match src,v with
 | true,.is (.one (.v (.bool c)))=>(c=true->K (.is (.one .T)))/\(c=false->K (.is (.one .F)))
 | _,v=>K v
def St.put (σ:St) (dst:Option Tmp) (v:SV):St :=
 match dst with
 | some d=>{ σ with slots:=σ.slots.set d v }
 | none=>σ
def St.app (σ:St) (dst:Option Tmp) (v:SV) (new wr:List (Nat × List Cell)):St :=
 match dst with
 | some d=>{ σ with slots:=σ.slots.set d v,blks:=new++(wr++σ.blks) }
 | none=>{ σ with blks:=new++(wr++σ.blks) }
def runR (E:Env) (ops:Array Oper):Nat->List Oper->St->List Rec->(St->List Rec->Prop)->Prop
 | _,[],σ,tr,K=>K σ tr
 | i,o::os,σ,tr,K=>match stepR E ops σ.S σ.B (σ.next+8*i) o with
  | .bad=>False
  | .skip=>runR E ops (i+1) os (σ.put o.dst .undef) (tr++[skipRec]) K
  | .run out ids=>conj out.pre (splitVal (isSrc ops.toList i) out.val fun v=>runR E ops (i+1) os (σ.app o.dst v out.new out.wr) (tr++[⟨v,out.new,out.wr,ids⟩]) K)
def ifB (b:Bool) (K:Prop):Prop :=
 match b with
 | true=>K
 | false=>False
def leSV:SV->SV->Prop
 | .is (.one .T),.is (.one (.v (.bool b)))=>b=true
 | .is (.one .F),.is (.one (.v (.bool b)))=>b=false
 | s,t=>s=t
def leSlots:List SV->List SV->Prop->Prop
 | [],[],K=>K
 | _::l,.junk::m,K=>leSlots l m K
 | s::l,t::m,K=>leSV s t/\leSlots l m K
 | _,_,_=>False
def leBlks (B:Blks):List (Nat × List Cell)->Prop->Prop
 | [],K=>K
 | (id,cs)::l,K=>match B id with
  | some ds=>ds=cs/\leBlks B l K
  | none=>False
def SV.below (n:Nat) (v:SV):Bool:=v.ids.all fun i=>Nat.blt i n
def St.wf (σ:St):Bool:=(σ.slots.all fun v=>v.below σ.next)&&σ.blks.all fun p=>Nat.blt p.1 σ.next&&(p.2.all fun c=>c.ids.all fun i=>Nat.blt i σ.next)
def St.le (σ:St) (W:Base) (τ:St) (K:Prop):Prop:=ifB (Nat.ble τ.next σ.next&&τ.wf&&Nat.ble W.top τ.next) (leSlots σ.slots τ.slots (leBlks σ.B τ.blks K))
def condVal (S:Slots) (c:Operand):SV:=opd S c
def vc (E:Env):Code->St->(St->Prop)->(St->Prop)->(Nat->St->Prop)->Prop
 | .skip,σ,n,_,_=>n σ
 | .ret,σ,_,r,_=>r σ
 | .exit id,σ,_,_,x=>x id σ
 | .seq a b,σ,n,r,x=>vc E a σ (fun σ'=>vc E b σ' n r x) r x
 | .cond c a b,σ,n,r,x=>match condVal σ.S c with
  | .is (.one .T)=>vc E a σ n r x
  | .is (.one .F)=>vc E b σ n r x
  | .is (.one (.v (.bool t)))=>(t=true->vc E a σ n r x)/\(t=false->vc E b σ n r x)
  | _=>False
 | .block id b,σ,n,r,x=>vc E b σ n r (fun i σ'=>match Nat.beq i id with
  | true=>n σ'
  | false=>x i σ')
 | .loop b,σ,_,r,x=>∃ (α:Type) (I:α->St) (J:α->Prop) (μ:α->Nat),(∃ a,σ.le E.w0 (I a) (J a))/\∀ a,J a->vc E b (I a) (fun σ'=>∃ a',σ'.le E.w0 (I a') (J a'/\μ a'<μ a)) r x
 | .region _ ops draw,σ,n,_,_=>runR E ops 0 ops.toList σ [] fun σ' tr =>
  match draw with
  | true=>ifB (indep ops (ops.toList.zip tr)) (n { σ' with next:=σ'.next+8*ops.size })
  | false=>n { σ' with next:=σ'.next+8*ops.size }
 | _,_,_,_,_=>False
section
variable {E:Env} {ops:Array Oper}
theorem conj_iff {ps:List Prop} {K:Prop} (h:conj ps K):(∀ p∈ps,p)/\K:=by
 induction ps with
 | nil=>exact⟨(fun _ h=>nomatch h),h⟩
 | cons p ps ih =>
  obtain⟨h1,h2⟩:=h
  obtain⟨h3,h4⟩:=ih h2
  exact⟨fun q hq=>by rcases List.mem_cons.1 hq with rfl|hq;exact h1;exact h3 q hq,h4⟩
theorem splitVal_spec {src:Bool} {v:SV} {K:SV->Prop} (h:splitVal src v K):∃ v',refines v v'/\K v':=by
 unfold splitVal at h
 split at h
 ·rename_i c
  cases c with
  | true=>exact⟨_,fun ρ u hu=>by have:=rel_v hu;subst this;exact rfl,h.1 rfl⟩
  | false=>exact⟨_,fun ρ u hu=>by have:=rel_v hu;subst this;exact rfl,h.2 rfl⟩
 ·exact⟨_,fun _ _ h=>h,h⟩
theorem put_S (σ:St) (dst:Option Tmp) (v:SV):(σ.put dst v).S=appS σ.slots.length dst v σ.S:=by
 funext t
 cases dst with
 | none=>rfl
 | some d =>
  simp only[St.put,St.S,appS,List.getD_eq_getElem?_getD]
  by_cases h:t=d
  ·subst h
   by_cases h2:t<σ.slots.length
   ·simp[h2]
   ·simp[h2]
  ·rw[List.getElem?_set_ne (fun e=>h e.symm)];simp[h]
theorem app_S (σ:St) (dst:Option Tmp) (v:SV) (new wr:List (Nat × List Cell)):(σ.app dst v new wr).S=appS σ.slots.length dst v σ.S:=by
 have:(σ.app dst v new wr).S=(σ.put dst v).S:=by cases dst<;>rfl
 rw[this,put_S]
theorem lookB_append (l m:List (Nat × List Cell)) (i:Nat):lookB (l++m) i=match lookB l i with
  | some cs=>some cs
  | none=>lookB m i:=by
 induction l with
 | nil=>rfl
 | cons p l ih =>
  obtain⟨j,cs⟩:=p
  simp only[List.cons_append,lookB]
  cases Nat.beq j i
  ·exact ih
  ·rfl
theorem app_B (σ:St) (dst:Option Tmp) (v:SV) (new wr:List (Nat × List Cell)) (ids:List Nat):(σ.app dst v new wr).B=appB ⟨v,new,wr,ids⟩ σ.B:=by
 have:(σ.app dst v new wr).blks=new++(wr++σ.blks):=by cases dst<;>rfl
 funext i
 simp only[St.B,this,lookB_append,appB]
 cases lookB new i<;>rfl
theorem put_B (σ:St) (dst:Option Tmp) (v:SV):(σ.put dst v).B=σ.B:=by cases dst<;>rfl
theorem put_next (σ:St) (dst:Option Tmp) (v:SV):(σ.put dst v).next=σ.next:=by cases dst<;>rfl
theorem app_next (σ:St) (dst:Option Tmp) (v:SV) (new wr:List (Nat × List Cell)):(σ.app dst v new wr).next=σ.next:=by cases dst<;>rfl
theorem put_len (σ:St) (dst:Option Tmp) (v:SV):(σ.put dst v).slots.length=σ.slots.length:=by cases dst<;>simp[St.put]
theorem app_len (σ:St) (dst:Option Tmp) (v:SV) (new wr:List (Nat × List Cell)):(σ.app dst v new wr).slots.length=σ.slots.length:=by cases dst<;>simp[St.app]
theorem skip_B (B:Blks):appB skipRec B=B:=by funext i;simp[appB,skipRec,lookB]
theorem runR_sound:∀ (os:List Oper) (i:Nat) (σ:St) (tr:List Rec) (K:St->List Rec->Prop),runR E ops i os σ tr K ->
  ∃ (rs:List Rec) (σ':St),rs.length=os.length/\TrOk E ops σ.slots.length σ.next i (os.zip rs) σ.S σ.B /\
   σ'.S=foldS σ.slots.length (fun _=>true) i (os.zip rs) σ.S/\σ'.B=foldB (fun _=>true) i (os.zip rs) σ.B/\σ'.next=σ.next/\σ'.slots.length=σ.slots.length/\K σ' (tr++rs):=by
 intro os
 induction os with
 | nil=>intro i σ tr K h;exact⟨[],σ,rfl,trivial,rfl,rfl,rfl,rfl,by have h:K σ tr:=h;simpa using h⟩
 | cons o os ih =>
  intro i σ tr K h
  simp only[runR] at h
  split at h
  ·exact h.elim
  ·rename_i hst
   obtain⟨rs,σ',h1,h2,h3,h4,h5,h6,h7⟩:=ih _ _ _ _ h
   rw[put_S,put_B,put_next,put_len] at h2
   rw[put_S,put_len] at h3
   rw[put_B] at h4
   rw[put_next] at h5
   rw[put_len] at h6
   refine⟨skipRec::rs,σ',by simp[h1],⟨.inl ⟨hst,rfl⟩,?_⟩,?_,?_,h5,h6,by simpa using h7⟩
   ·rw[skip_B];exact h2
   ·simp only[List.zip_cons_cons,foldS];exact h3
   ·simp only[List.zip_cons_cons,foldB,skip_B];exact h4
  ·rename_i out ids hst
   obtain⟨hp,h⟩:=conj_iff h
   obtain⟨v,hv,h⟩:=splitVal_spec h
   obtain⟨rs,σ',h1,h2,h3,h4,h5,h6,h7⟩:=ih _ _ _ _ h
   rw[app_S,app_B σ o.dst v out.new out.wr ids,app_next,app_len] at h2
   rw[app_S,app_len] at h3
   rw[app_B σ o.dst v out.new out.wr ids] at h4
   rw[app_next] at h5
   rw[app_len] at h6
   refine⟨⟨v,out.new,out.wr,ids⟩::rs,σ',by simp[h1],⟨.inr ⟨out,ids,hst,hp,hv,rfl,rfl,rfl⟩,h2⟩,?_,?_,h5,h6,by simpa using h7⟩
   ·simp only[List.zip_cons_cons,foldS];exact h3
   ·simp only[List.zip_cons_cons,foldB];exact h4
def Holds (w0:Base) (n:Nat) (σ:St) (a:Act) (w:World):Prop :=
 σ.slots.length=n/\∃ ρ,RepL w0 n σ.S σ.B ρ a w/\∀ id b,ρ id=some b->id<σ.next
theorem ifB_true {b:Bool} {K:Prop} (h:ifB b K):b=true/\K:=by
 unfold ifB at h
 split at h
 ·exact⟨rfl,h⟩
 ·exact h.elim
theorem leSV_refl (s:SV):leSV s s:=by
 cases s with
 | is x =>
  cases x with
  | one c=>cases c<;>rfl
  | agg cs=>rfl
 | tup l=>rfl
 | undef=>rfl
 | junk=>rfl
theorem leSV_spec {s t:SV} (h:leSV s t):refines s t:=by
 unfold leSV at h
 split at h
 ·intro ρ v hv
  have:[v]=[Value.bool true]:=hv
  simp at this
  subst this h
  exact⟨rfl,rfl⟩
 ·intro ρ v hv
  have:[v]=[Value.bool false]:=hv
  simp at this
  subst this h
  exact⟨rfl,rfl⟩
 ·subst h;intro ρ v hv;exact hv
theorem leSlots_spec:∀ {l m:List SV} {K:Prop},leSlots l m K->K/\l.length=m.length/\∀ t,m.getD t .junk=.junk\/refines (l.getD t .junk) (m.getD t .junk):=by
 intro l
 induction l with
 | nil =>
  intro m K h
  cases m with
  | nil=>exact⟨h,rfl,fun t=>by simp⟩
  | cons t m=>simp[leSlots] at h
 | cons s l ih =>
  intro m K h
  cases m with
  | nil=>simp[leSlots] at h
  | cons t m =>
   by_cases ht:t=.junk
   ·subst ht
    simp only[leSlots] at h
    obtain⟨h1,h2,h3⟩:=ih h
    refine⟨h1,by simp[h2],fun u=>?_⟩
    cases u with
    | zero=>exact .inl (by simp)
    | succ u=>simpa using h3 u
   ·have h':leSV s t/\leSlots l m K:=by
     cases t with
     | junk=>exact absurd rfl ht
     | _=>simpa only[leSlots] using h
    obtain⟨h1,h2,h3⟩:=ih h'.2
    refine⟨h1,by simp[h2],fun u=>?_⟩
    cases u with
    | zero=>exact .inr (by simpa using leSV_spec h'.1)
    | succ u=>simpa using h3 u
theorem leBlks_spec {B:Blks}:∀ {l:List (Nat × List Cell)} {K:Prop},leBlks B l K->K/\∀ p∈l,B p.1=some p.2:=by
 intro l
 induction l with
 | nil=>intro K h;exact⟨h,(fun _ h=>nomatch h)⟩
 | cons p l ih =>
  intro K h
  obtain⟨id,cs⟩:=p
  simp only[leBlks] at h
  split at h
  ·rename_i ds hds
   obtain⟨h1,h2⟩:=ih h.2
   refine⟨h1,fun q hq=>?_⟩
   rcases List.mem_cons.1 hq with rfl|hq
   ·rw[hds,h.1]
   ·exact h2 q hq
  ·exact h.elim
def Rho.cut (ρ:Rho) (m:Nat):Rho:=⟨fun i=>if i<m then ρ i else none,ρ.n,ρ.M⟩
theorem cloCaps_restr {ρ:Rho} {m:Nat}:∀ {l:List Nat} {vs:List Value},cloCaps ρ l vs->(∀ i∈l,i<m)->cloCaps (ρ.cut m) l vs:=by
 intro l
 induction l with
 | nil=>intro vs h _;exact h
 | cons i l ih=>intro vs ⟨b,us,h1,h2,h3⟩ hb;exact⟨b,us,by simp[Rho.cut,hb i (by simp),h1],ih h2 (fun j hj=>hb j (by simp[hj])),h3⟩
theorem Cell.rel_restr {ρ:Rho} {c:Cell} {vs:List Value} {m:Nat} (h:c.rel ρ vs) (hb:∀ i∈c.ids,i<m):c.rel (ρ.cut m) vs:=by
 cases c with
 | ptr id off=>obtain⟨b,hr,e⟩:=h;exact⟨b,by simp[Rho.cut,hb id (by simp[Cell.ids]),hr],e⟩
 | pe id base j c=>obtain⟨b,hr,e⟩:=h;exact⟨b,by simp[Rho.cut,hb id (by simp[Cell.ids]),hr],e⟩
 | sl id base off len c =>
  rcases h with h|⟨b,o,cap,hr,e⟩
  ·exact .inl h
  ·exact .inr ⟨b,o,cap,by simp[Rho.cut,hb id (by simp[Cell.ids]),hr],e⟩
 | clo f l=>obtain⟨us,h1,h2⟩:=h;exact⟨us,cloCaps_restr h1 hb,h2⟩
 | _=>exact h
theorem cellsRel_restr {ρ:Rho} {m:Nat} {cs:List Cell}:∀ {vs:List Value},cellsRel ρ cs vs->(∀ c∈cs,∀ i∈c.ids,i<m)->cellsRel (ρ.cut m) cs vs:=by
 induction cs with
 | nil=>intro vs h _;exact h
 | cons c cs ih =>
  intro vs h hb
  obtain⟨v1,v2,e,h1,h2⟩:=h
  exact⟨v1,v2,e,Cell.rel_restr h1 (hb c (by simp)),ih h2 (fun d hd=>hb d (by simp[hd]))⟩
theorem TV.rel_restr {ρ:Rho} {m:Nat} {x:TV} {v:Value} (h:x.rel ρ v) (hb:∀ i∈x.ids,i<m):x.rel (ρ.cut m) v:=by
 cases x with
 | one c=>exact Cell.rel_restr h hb
 | agg cs =>
  obtain⟨l,e,hl⟩:=h
  exact⟨l,e,cellsRel_restr hl (fun c hc i hi=>hb i (List.mem_flatMap.2 ⟨c,hc,hi⟩))⟩
theorem tupRel_restr {ρ:Rho} {m:Nat} {l:List TV}:∀ {vs:List Value},tupRel ρ l vs->(∀ x∈l,∀ i∈x.ids,i<m)->tupRel (ρ.cut m) l vs:=by
 induction l with
 | nil=>intro vs h _;exact h
 | cons t ts ih =>
  intro vs h hb
  obtain⟨x,xs,e,h1,h2⟩:=h
  exact⟨x,xs,e,TV.rel_restr h1 (hb t (by simp)),ih h2 (fun y hy=>hb y (by simp[hy]))⟩
theorem SV.rel_restr {ρ:Rho} {m:Nat} {x:SV} {v:Value} (h:x.rel ρ v) (hb:x.below m=true):x.rel (ρ.cut m) v:=by
 have hb:∀ i∈x.ids,i<m:=by
  intro i hi
  simp only[SV.below,List.all_eq_true] at hb
  simpa[Nat.blt_eq] using hb i hi
 cases x with
 | is x=>exact TV.rel_restr h hb
 | tup l =>
  obtain⟨vs,e,hl⟩:=h
  exact⟨vs,e,tupRel_restr hl (fun y hy i hi=>hb i (List.mem_flatMap.2 ⟨y,hy,hi⟩))⟩
 | undef=>exact h
 | junk=>trivial
theorem le_spec {σ τ:St} {K:Prop} {w0:Base} {n:Nat} {a:Act} {w:World} (h:σ.le w0 τ K) (hh:Holds w0 n σ a w):K/\Holds w0 n τ a w:=by
 unfold St.le at h
 obtain⟨hb,h⟩:=ifB_true h
 simp only[Bool.and_eq_true] at hb
 obtain⟨⟨hnext,hwf⟩,hids⟩:=hb
 have hnext:τ.next<=σ.next:=by simpa[Nat.ble_eq] using hnext
 obtain⟨h,hlen,hslots⟩:=leSlots_spec h
 obtain⟨hK,hblks⟩:=leBlks_spec h
 obtain⟨hn,ρ,hr,hd⟩:=hh
 simp only[St.wf,Bool.and_eq_true,List.all_eq_true] at hwf
 obtain⟨hw1,hw2⟩:=hwf
 have hsub:∀ i b,(ρ.cut τ.next) i=some b->ρ i=some b:=by
  intro i b h
  simp only[Rho.cut] at h
  by_cases hi:i<τ.next
  ·simpa[hi] using h
  ·simp[hi] at h
 refine⟨hK,by rw[<- hlen];exact hn,ρ.cut τ.next,⟨hr.defers,hr.size,?_,hr.below,?_,?_,?_,?_,?_,hr.old,hr.glob,hr.tops,hr.memle⟩,?_⟩
 ·intro t
  rcases hslots t with h|h
  ·show (τ.slots.getD t .junk).rel _ _
   rw[h];trivial
  ·have:=hr.slots t
   show (τ.slots.getD t .junk).rel _ _
   have this:(τ.slots.getD t .junk).rel ρ _:=h _ _ this
   refine SV.rel_restr this ?_
   cases hq:τ.slots[t]? with
   | none=>simp[hq,SV.below,SV.ids]
   | some v=>simpa[hq] using hw1 v (List.mem_of_getElem? hq)
 ·intro id cs hid hne b hb
  have hmem:=lookB_mem hid
  obtain⟨l,h3,h4⟩:=hr.blks id cs (hblks _ hmem) hne b (hsub _ _ hb)
  have hw:=hw2 _ hmem
  refine⟨l,h3,cellsRel_restr h4 (fun c hc i hi=>?_)⟩
  have:=hw.2 c hc i hi
  simpa[Nat.blt_eq] using this
 ·intro i j cs cs' b h1 h2 h3 h4 h5 h6
  exact hr.inj i j cs cs' b (hblks _ (lookB_mem h1)) h2 (hblks _ (lookB_mem h3)) h4 (hsub _ _ h5) (hsub _ _ h6)
 ·intro i b h
  exact hr.bound i b (hsub _ _ h)
 ·intro p hp
  have hids:=Nat.le_of_ble_eq_true hids
  have:p.1<τ.next:=Nat.lt_of_lt_of_le (hr.tops p hp) hids
  exact⟨by simp[Rho.cut,this,(hr.init p hp).1],(hr.init p hp).2⟩
 ·intro b l hb
  obtain⟨h1,h2⟩:=hr.mem b l hb
  exact⟨fun i cs hi hne hρ=>h1 i cs (hblks _ (lookB_mem hi)) hne (hsub _ _ hρ),h2⟩
 ·intro i b h
  simp only[Rho.cut] at h
  by_cases hi:i<τ.next
  ·exact hi
  ·simp[hi] at h
theorem Holds.drew {w0:Base} {n:Nat} {σ:St} {a:Act} {w:World} (h:Holds w0 n σ a w):Holds w0 n σ a { w with drawn:=w.drawn+1 }:=by
 obtain⟨hn,ρ,hr,hd⟩:=h
 exact⟨hn,ρ,⟨hr.defers,hr.size,hr.slots,hr.below.drew,hr.blks,hr.inj,hr.bound,hr.init,hr.mem,hr.old,hr.glob,hr.tops,hr.memle⟩,hd⟩
theorem vc_sound (hsp:SpecsOk E.P E.sp) (hm:E.P.follows .mixedOrders=true) {N:Nat}:∀ (c:Code) (σ:St) (n r:St->Prop) (x:Nat->St->Prop) (a:Act) (w:World) (Q:Exit->Act->World->Prop),
  vc E c σ n r x->Holds E.w0 N σ a w->(∀ σ' a w,Holds E.w0 N σ' a w->n σ'->Q .normal a w)->(∀ σ' a w,Holds E.w0 N σ' a w->r σ'->Q .ret a w) ->
  (∀ i σ' a w,Holds E.w0 N σ' a w->x i σ'->Q (.exit i) a w)->c.wp E.P Q a w:=by
 intro c
 induction c with
 | skip=>intro σ n r x a w Q h hh hn _ _;exact wp_skip (hn σ a w hh h)
 | ret=>intro σ n r x a w Q h hh _ hr _;exact wp_ret (hr σ a w hh h)
 | exit id=>intro σ n r x a w Q h hh _ _ hx;exact wp_exit (hx id σ a w hh h)
 | seq p q ihp ihq =>
  intro σ n r x a w Q h hh hn hr hx
  exact wp_seq (ihp σ _ r x a w _ h hh (fun σ' a w hh' h'=>ihq σ' n r x a w Q h' hh' hn hr hx) hr hx)
 | cond c p q ihp ihq =>
  intro σ n r x a w Q h hh hn hr hx
  have hv:(condVal σ.S c).rel hh.2.choose (a.eval c):=(hh.2.choose_spec.1).opd (E:=E) c
  simp only[vc] at h
  split at h
  ·rename_i he
   rw[he] at hv
   exact wp_cond_true (boolOf_rel (c:=.T) rfl hv) (ihp σ n r x a w Q h hh hn hr hx)
  ·rename_i he
   rw[he] at hv
   exact wp_cond_false (boolOf_rel (c:=.F) rfl hv) (ihq σ n r x a w Q h hh hn hr hx)
  ·rename_i t he
   rw[he] at hv
   exact wp_cond_split (rel_v hv) (fun ht=>ihp σ n r x a w Q (h.1 ht) hh hn hr hx) (fun ht=>ihq σ n r x a w Q (h.2 ht) hh hn hr hx)
  ·exact h.elim
 | block id p ihp =>
  intro σ n r x a w Q h hh hn hr hx
  refine wp_block (ihp σ n r _ a w _ h hh hn hr (fun i σ' a w hh' h'=>?_))
  simp only[Exit.inBlock]
  by_cases hi:i=id
  ·subst hi
   rw[if_pos rfl]
   simp at h'
   exact hn σ' a w hh' h'
  ·rw[if_neg hi]
   have:Nat.beq i id=false:=by
    cases hb:Nat.beq i id with
    | false=>rfl
    | true=>exact absurd (beq_true hb) hi
   rw[this] at h'
   exact hx i σ' a w hh' h'
 | loop p ihp =>
  intro σ n r x a w Q h hh hn hr hx
  obtain⟨α,I,J,μ,⟨g0,h0⟩,hround⟩:=h
  obtain⟨hj0,hh0⟩:=le_spec h0 hh
  refine wp_loop_ghost (fun m a w=>∃ g,μ g=m/\J g/\Holds E.w0 N (I g) a w) (μ g0) ⟨g0,rfl,hj0,hh0⟩ ?_
  rintro m a w ⟨g,rfl,hj,hg⟩
  refine ihp (I g) _ r x a w _ (hround g hj) hg (fun σ' a' w' hh' h'=>?_) hr hx
  obtain⟨g',h'⟩:=h'
  obtain⟨⟨h1,h2⟩,h3⟩:=le_spec h' hh'
  exact⟨μ g',h2,g',rfl,h1,h3⟩
 | region id ops draw =>
  intro σ n r x a w Q h hh hn hr hx
  simp only[vc] at h
  obtain⟨rs,σ',h1,h2,h3,h4,h5,h6,h7⟩:=runR_sound _ _ _ _ _ h
  have hlen:(ops.toList.zip rs).length=ops.size:=by simp[h1]
  have fin:n { σ' with next:=σ'.next+8*ops.size }->∀ a w ρ,RepL E.w0 N (allS N (ops.toList.zip rs) σ.S) (allB (ops.toList.zip rs) σ.B) ρ a w->(∀ id b,ρ id=some b->id<σ.next+8*ops.size)->Q .normal a w:=by
   intro hk a w ρ hrep hdom
   refine hn _ a w ⟨by rw[<- hh.1];exact h6,ρ,?_,?_⟩ hk
   ·have e1:({ σ' with next:=σ'.next+8*ops.size }:St).S=allS N (ops.toList.zip rs) σ.S:=by
     show σ'.S=_
     rw[h3,hh.1];rfl
    have e2:({ σ' with next:=σ'.next+8*ops.size }:St).B=allB (ops.toList.zip rs) σ.B:=by
     show σ'.B=_
     rw[h4];rfl
    rw[e1,e2];exact hrep
   ·intro i b hi
    show i<σ'.next+8*ops.size
    rw[h5];exact hdom i b hi
  rw[hh.1] at h2
  cases draw with
  | false =>
   obtain⟨_,ρ,hrep,hdom⟩:=hh
   refine wp_region ?_
   have:=seq_sound (E:=E) (ops:=ops) (n:=N) (base:=σ.next) (Q:=Q) hsp (ops.toList.zip rs) 0 σ.S σ.B ρ a w h2 (fun k p hk=>by
    have:=List.getElem?_zip_eq_some.1 hk
    simpa using this.1) hrep (by simpa using hdom) (fun a' w' ρ' hr' hd'=>fin h7 a' w' ρ' hr' (by rw[hlen] at hd';simpa using hd'))
   rw[hlen] at this
   rw[List.range_eq_range']
   exact this
  | true =>
   obtain⟨hind,h7⟩:=ifB_true h7
   obtain⟨_,ρ,hrep,hdom⟩:=hh.drew
   refine wp_region_any hm ?_
   have hf:∀ j,(Array.replicate ops.size false).getD j false=false:=by
    intro j
    simp only[Array.getD_eq_getD_getElem?,Array.getElem?_replicate]
    split<;>rfl
   have hff:(fun j=>(Array.replicate ops.size false).getD j false)=fun _=>false:=funext hf
   have z1:∀ (l:List (Oper × Rec)) (i:Nat) (S:Slots),foldS N (fun _=>false) i l S=S:=by
    intro l
    induction l with
    | nil=>intro i S;rfl
    | cons q l ihl=>intro i S;obtain⟨o2,r2⟩:=q;simp only[foldS];exact ihl _ _
   have z2:∀ (l:List (Oper × Rec)) (i:Nat) (B:Blks),foldB (fun _=>false) i l B=B:=by
    intro l
    induction l with
    | nil=>intro i S;rfl
    | cons q l ihl=>intro i S;obtain⟨o2,r2⟩:=q;simp only[foldB];exact ihl _ _
   refine drawn_sound (n:=N) (base:=σ.next) hsp (by simp[List.map_fst_zip,h1]) h2 hind (fun a w ρ hr' hd'=>fin h7 a w ρ hr' hd') ops.size _ a _ ρ (by simp) ?_ ?_ ?_ ?_
   ·unfold unl;refine Nat.le_trans (List.countP_le_length) (by simp)
   ·intro j o _ hj;have hj':(Array.replicate ops.size false).getD j false=true:=hj;rw[hf] at hj';cases hj'
   ·rw[hff,z1,z2];exact hrep
   ·intro i b hi;exact .inl (hdom i b hi)
 | _=>intro σ n r x a w Q h;simp[vc] at h
end
end Go.Eng
