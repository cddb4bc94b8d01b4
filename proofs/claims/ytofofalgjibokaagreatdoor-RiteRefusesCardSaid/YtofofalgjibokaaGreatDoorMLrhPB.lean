import Derived.Deep.LoopGhost
import Derived.Maps.RangeRun
import Derived.Maps.Keyed
import Derived.DeepKeys4
import Derived.Test.YtofofalgjibokaaGreatDoorProg
import Derived.Test.YtofofalgjibokaaGreatDoorMLrhPA
set_option maxRecDepth 100000
noncomputable section
open Go Go.RowKit Cr
open List(drop length mem_cons mem_map range replicate take)
open Nat(beq ble blt)
open Int(toNat)
namespace Go.Eng
def El:List Prop->Prop->Prop
 | [],K=>K
 | p::a,K=>p/\El a K
def afH (ops:List Oper) (i:Nat):Bool:=ops.any fun o=>match o.guard with
 | some (j,_)=>beq j i
 | none=>false
def E7 (a:Bool) (v:SV) (K:SV->Prop):Prop :=
 match a,v with
 | true,.is (.one (.v (.bool c)))=>(c=true->K (.is (.one .T)))/\(c=false->K (.is (.one .F)))
 | _,v=>K v
def St.put (e:St) (dst:Option Tmp) (v:SV):St :=
 match dst with
 | some d=>{ e with slots:=e.slots.set d v }
 | none=>e
def St.app (b:St) (c:Option Tmp) (v:SV) (a wr:List (Nat × List Cell)):St :=
 match c with
 | some d=>{ b with slots:=b.slots.set d v,blks:=a++(wr++b.blks) }
 | none=>{ b with blks:=a++(wr++b.blks) }
def uD (E:Env) (ops:Array Oper):Nat->List Oper->St->List Rec->(St->List Rec->Prop)->Prop
 | _,[],a,tr,K=>K a tr
 | i,o::b,a,tr,K=>match qb E ops a.S a.B (a.next+8*i) o with
  | .bad=>False
  | .skip=>uD E ops (i+1) b (a.put o.dst .undef) (tr++[ll]) K
  | .run out ids=>El out.pre (E7 (afH ops.toList i) out.val fun v=>uD E ops (i+1) b (a.app o.dst v out.new out.wr) (tr++[⟨v,out.new,out.wr,ids⟩]) K)
def F4 (b:Bool) (K:Prop):Prop :=
 match b with
 | true=>K
 | false=>False
def HU:SV->SV->Prop
 | .is (.one .T),.is (.one (.v (.bool b)))=>b=true
 | .is (.one .F),.is (.one (.v (.bool b)))=>b=false
 | s,t=>s=t
def iE:List SV->List SV->Prop->Prop
 | [],[],K=>K
 | _::l,.junk::m,K=>iE l m K
 | s::l,t::m,K=>HU s t/\iE l m K
 | _,_,_=>False
def rG (B:bA):List (Nat × List Cell)->Prop->Prop
 | [],K=>K
 | (id,a)::l,K=>match B id with
  | some b=>b=a/\rG B l K
  | none=>False
def SV.below (n:Nat) (v:SV):Bool:=v.ids.all fun i=>blt i n
def St.wf (a:St):Bool:=(a.slots.all fun v=>v.below a.next)&&a.blks.all fun p=>blt p.1 a.next&&(p.2.all fun c=>c.ids.all fun i=>blt i a.next)
def St.le (a:St) (W:cw) (τ:St) (K:Prop):Prop:=F4 (ble τ.next a.next&&τ.wf&&ble W.top τ.next) (iE a.slots τ.slots (rG a.B τ.blks K))
def jH (S:cD) (c:Operand):SV:=fG S c
def vc (E:Env):Code->St->(St->Prop)->(St->Prop)->(Nat->St->Prop)->Prop
 | .skip,e,n,_,_=>n e
 | .ret,e,_,r,_=>r e
 | .exit id,e,_,_,x=>x id e
 | .seq a b,e,n,r,x=>vc E a e (fun d=>vc E b d n r x) r x
 | .cond c a b,e,n,r,x=>match jH e.S c with
  | .is (.one .T)=>vc E a e n r x
  | .is (.one .F)=>vc E b e n r x
  | .is (.one (.v (.bool t)))=>(t=true->vc E a e n r x)/\(t=false->vc E b e n r x)
  | _=>False
 | .block id b,e,n,r,x=>vc E b e n r (fun i d=>match beq i id with
  | true=>n d
  | false=>x i d)
 | .loop b,e,_,r,x=>∃ (h:Type) (I:h->St) (J:h->Prop) (j:h->Nat),(∃ a,e.le E.w0 (I a) (J a))/\∀ a,J a->vc E b (I a) (fun d=>∃ g,d.le E.w0 (I g) (J g/\j g<j a)) r x
 | .region _ ops f,e,n,_,_=>uD E ops 0 ops.toList e [] fun d tr =>
  match f with
  | true=>F4 (indep ops (ops.toList.zip tr)) (n { d with next:=d.next+8*ops.size })
  | false=>n { d with next:=d.next+8*ops.size }
 | _,_,_,_,_=>False
section
variable {E:Env} {ops:Array Oper}
theorem vu {a:List Prop} {K:Prop} (h:El a K):(∀ p∈a,p)/\K:=by
 induction a with
 | nil=>exact⟨(fun _ h=>nomatch h),h⟩
 | cons p a f =>obtain⟨b,c⟩:=h;obtain⟨d,e⟩:=f c;exact⟨fun q hq=>by rcases mem_cons.1 hq with rfl|hq;exact b;exact d q hq,e⟩
theorem JT {b:Bool} {v:SV} {K:SV->Prop} (h:E7 b v K):∃ d,cG v d/\K d:=by
 unfold E7 at h;split at h
 ·rename_i c;cases c with
  | true=>exact⟨_,fun e u a=>by have:=b9 a;subst this;exact rfl,h.1 rfl⟩
  | false=>exact⟨_,fun e u a=>by have:=b9 a;subst this;exact rfl,h.2 rfl⟩
 exact⟨_,fun _ _ h=>h,h⟩
theorem GA (b:St) (a:Option Tmp) (v:SV):(b.put a v).S=fy b.slots.length a v b.S:=by
 funext t;cases a with
 | none=>rfl
 | some d =>simp only[St.put,St.S,fy,aX];by_cases h:t=d;subst h;by_cases c:t<b.slots.length;simp[c];simp[c];rw[List.getElem?_set_ne (fun e=>h e.symm)];simp[h]
theorem XQ (c:St) (a:Option Tmp) (v:SV) (b wr:List (Nat × List Cell)):(c.app a v b wr).S=fy c.slots.length a v c.S:=by
 have:(c.app a v b wr).S=(c.put a v).S:=by cases a<;>rfl
 rw[this,GA]
theorem B9 (l m:List (Nat × List Cell)) (i:Nat):cR (l++m) i=match cR l i with
  | some a=>some a
  | none=>cR m i:=by
 induction l with
 | nil=>rfl
 | cons p l b =>obtain⟨j,a⟩:=p;simp only[iX,cR];cases beq j i;exact b;rfl
theorem XP (c:St) (b:Option Tmp) (v:SV) (a wr:List (Nat × List Cell)) (ids:List Nat):(c.app b v a wr).B=ir ⟨v,a,wr,ids⟩ c.B:=by
 have:(c.app b v a wr).blks=a++(wr++c.blks):=by cases b<;>rfl
 funext i;simp only[St.B,this,B9,ir];cases cR a i<;>rfl
theorem J6 (b:St) (a:Option Tmp) (v:SV):(b.put a v).B=b.B:=by cases a<;>rfl
theorem zY (b:St) (a:Option Tmp) (v:SV):(b.put a v).next=b.next:=by cases a<;>rfl
theorem Kt (c:St) (a:Option Tmp) (v:SV) (b wr:List (Nat × List Cell)):(c.app a v b wr).next=c.next:=by cases a<;>rfl
theorem yL (b:St) (a:Option Tmp) (v:SV):(b.put a v).slots.length=b.slots.length:=by cases a<;>simp[St.put]
theorem Hp (c:St) (a:Option Tmp) (v:SV) (b wr:List (Nat × List Cell)):(c.app a v b wr).slots.length=c.slots.length:=by cases a<;>simp[St.app]
theorem Ud (B:bA):ir ll B=B:=by funext i;simp[ir,ll,cR]
theorem Af:∀ (d:List Oper) (i:Nat) (b:St) (tr:List Rec) (K:St->List Rec->Prop),uD E ops i d b tr K ->
  ∃ (rs:List Rec) (a:St),rs.length=d.length/\Hj E ops b.slots.length b.next i (d.zip rs) b.S b.B /\
   a.S=cg b.slots.length (fun _=>true) i (d.zip rs) b.S/\a.B=cM (fun _=>true) i (d.zip rs) b.B/\a.next=b.next/\a.slots.length=b.slots.length/\K a (tr++rs):=by
 intro d;induction d with
 | nil=>intro i b tr K h;exact⟨[],b,rfl,trivial,rfl,rfl,rfl,rfl,by have h:K b tr:=h;simpa using h⟩
 | cons o d r =>intro i b tr K h;simp only[uD] at h;split at h;exact h.elim;rename_i e;obtain⟨rs,a,p,f,g,j,k,m,q⟩:=r _ _ _ _ h;rw[GA,J6,zY,yL] at f;rw[GA,yL] at g;rw[J6] at j;rw[zY] at k;rw[yL] at m;refine⟨ll::rs,a,by simp[p],⟨.inl ⟨e,rfl⟩,?_⟩,?_,?_,k,m,by simpa using q⟩;rw[Ud];exact f;simp only[wJ,cg];exact g;simp only[wJ,cM,Ud];exact j;rename_i out ids e;obtain⟨s,h⟩:=vu h;obtain⟨v,t,h⟩:=JT h;obtain⟨rs,a,p,f,g,j,k,m,q⟩:=r _ _ _ _ h;rw[XQ,XP b o.dst v out.new out.wr ids,Kt,Hp] at f;rw[XQ,Hp] at g;rw[XP b o.dst v out.new out.wr ids] at j;rw[Kt] at k;rw[Hp] at m;refine⟨⟨v,out.new,out.wr,ids⟩::rs,a,by simp[p],⟨.inr ⟨out,ids,e,s,t,rfl,rfl,rfl⟩,f⟩,?_,?_,k,m,by simpa using q⟩;simp only[wJ,cg];exact g;simp only[wJ,cM];exact j
def Holds (f:cw) (n:Nat) (d:St) (a:Act) (w:World):Prop :=
 d.slots.length=n/\∃ e,cN f n d.S d.B e a w/\∀ id b,e id=some b->id<d.next
theorem qm {b:Bool} {K:Prop} (h:F4 b K):b=true/\K:=by unfold F4 at h;split at h;exact⟨rfl,h⟩;exact h.elim
theorem Ti (s:SV):HU s s:=by
 cases s with
 | is x =>
  cases x with
  | one c=>cases c<;>rfl
  | agg a=>rfl
 | tup l=>rfl
 | undef=>rfl
 | junk=>rfl
theorem Tj {s t:SV} (h:HU s t):cG s t:=by unfold HU at h;split at h;intro b v a;have:[v]=[Value.bool true]:=a;simp at this;subst this h;exact⟨rfl,rfl⟩;intro b v a;have:[v]=[Value.bool false]:=a;simp at this;subst this h;exact⟨rfl,rfl⟩;subst h;intro b v a;exact a
theorem vI:∀ {l m:List SV} {K:Prop},iE l m K->K/\l.length=m.length/\∀ t,m.getD t .junk=.junk\/cG (l.getD t .junk) (m.getD t .junk):=by
 intro l;induction l with
 | nil =>
  intro m K h;cases m with
  | nil=>exact⟨h,rfl,fun t=>au⟩
  | cons t m=>simp[iE] at h
 | cons s l f =>
  intro m K h;cases m with
  | nil=>simp[iE] at h
  | cons t m =>
   by_cases e:t=.junk
   ·subst e;simp only[iE] at h;obtain⟨a,b,c⟩:=f h;refine⟨a,by simp[b],fun u=>?_⟩;cases u with
    | zero=>exact .inl au
    | succ u=>simpa using c u
   ·have d:HU s t/\iE l m K:=by
     cases t with
     | junk=>exact absurd rfl e
     | _=>simpa only[iE] using h
    obtain⟨a,b,c⟩:=f d.2;refine⟨a,by simp[b],fun u=>?_⟩;cases u with
    | zero=>exact .inr (by simpa using Tj d.1)
    | succ u=>simpa using c u
theorem xQ {B:bA}:∀ {l:List (Nat × List Cell)} {K:Prop},rG B l K->K/\∀ p∈l,B p.1=some p.2:=by
 intro l;induction l with
 | nil=>intro K h;exact⟨h,(fun _ h=>nomatch h)⟩
 | cons p l d =>intro K h;obtain⟨id,e⟩:=p;simp only[rG] at h;split at h;rename_i f a;obtain⟨b,c⟩:=d h.2;refine⟨b,fun q hq=>?_⟩;rcases mem_cons.1 hq with rfl|hq;rw[a,h.1];exact c q hq;exact h.elim
def ay.cut (a:ay) (m:Nat):ay:=⟨fun i=>if i<m then a i else none,a.n,a.M⟩
theorem JN {d:ay} {m:Nat}:∀ {l:List Nat} {a:List Value},iB d l a->(∀ i∈l,i<m)->iB (d.cut m) l a:=by
 intro l;induction l with
 | nil=>intro a h _;exact h
 | cons i l n=>intro a ⟨b,o,e,f,g⟩ c;exact⟨b,o,by simp[ay.cut,c i au,e],n f (fun j k=>c j (by simp[k])),g⟩
theorem Cell.m6 {q:ay} {c:Cell} {p:List Value} {m:Nat} (h:c.rel q p) (g:∀ i∈c.ids,i<m):c.rel (q.cut m) p:=by
 cases c with
 | ptr id n=>obtain⟨b,d,e⟩:=h;exact⟨b,by simp[ay.cut,g id (by simp[Cell.ids]),d],e⟩
 | pe id a j c=>obtain⟨b,d,e⟩:=h;exact⟨b,by simp[ay.cut,g id (by simp[Cell.ids]),d],e⟩
 | sl id a n len c =>rcases h with h|⟨b,o,k,d,e⟩;exact .inl h;exact .inr ⟨b,o,k,by simp[ay.cut,g id (by simp[Cell.ids]),d],e⟩
 | clo f l=>obtain⟨t,r,s⟩:=h;exact⟨t,JN r g,s⟩
 | _=>exact h
theorem sB {g:ay} {m:Nat} {a:List Cell}:∀ {b:List Value},ax g a b->(∀ c∈a,∀ i∈c.ids,i<m)->ax (g.cut m) a b:=by
 induction a with
 | nil=>intro b h _;exact h
 | cons c a n =>intro b h f;obtain⟨o,p,e,j,k⟩:=h;exact⟨o,p,e,Cell.m6 j (f c au),n k (fun d l=>f d (by simp[l]))⟩
theorem TV.m6 {b:ay} {m:Nat} {x:TV} {v:Value} (h:x.rel b v) (a:∀ i∈x.ids,i<m):x.rel (b.cut m) v:=by
 cases x with
 | one c=>exact Cell.m6 h a
 | agg j =>obtain⟨l,e,g⟩:=h;exact⟨l,e,sB g (fun c d i f=>a i (List.mem_flatMap.2 ⟨c,d,f⟩))⟩
theorem MT {c:ay} {m:Nat} {l:List TV}:∀ {a:List Value},eM c l a->(∀ x∈l,∀ i∈x.ids,i<m)->eM (c.cut m) l a:=by
 induction l with
 | nil=>intro a h _;exact h
 | cons t n j =>intro a h b;obtain⟨x,k,e,d,f⟩:=h;exact⟨x,k,e,TV.m6 d (b t au),j f (fun y g=>b y (by simp[g]))⟩
theorem SV.m6 {c:ay} {m:Nat} {x:SV} {v:Value} (h:x.rel c v) (a:x.below m=true):x.rel (c.cut m) v:=by
 have a:∀ i∈x.ids,i<m:=by intro i b;simp only[SV.below,mR] at a;simpa[lB] using a i b
 cases x with
 | is x=>exact TV.m6 h a
 | tup l =>obtain⟨g,e,d⟩:=h;exact⟨g,e,MT d (fun y f i b=>a i (List.mem_flatMap.2 ⟨y,f,b⟩))⟩
 | undef=>exact h
 | junk=>trivial
theorem lj {U g:St} {K:Prop} {T:cw} {n:Nat} {a:Act} {w:World} (h:U.le T g K) (Z:Holds T n U a w):K/\Holds T n g a w:=by
 unfold St.le at h;obtain⟨u,h⟩:=qm h;simp only[aQ] at u;obtain⟨⟨m,z⟩,k⟩:=u;have m:g.next<=U.next:=by simpa[tR] using m
 obtain⟨h,y,q⟩:=vI h;obtain⟨X,d⟩:=xQ h;obtain⟨hn,A,f,hd⟩:=Z;simp only[St.wf,aQ,mR] at z;obtain⟨O,P⟩:=z;have e:∀ i b,(A.cut g.next) i=some b->A i=some b:=by intro i b h;simp only[ay.cut] at h;by_cases o:i<g.next;simpa[o] using h;simp[o] at h
 refine⟨X,by rw[<- y];exact hn,A.cut g.next,⟨f.defers,f.size,?_,f.below,?_,?_,?_,?_,?_,f.old,f.glob,f.tops,f.memle⟩,?_⟩
 ·intro t;rcases q t with h|h;show (g.slots.getD t .junk).rel _ _;rw[h];trivial
  ·have:=f.slots t;show (g.slots.getD t .junk).rel _ _;have this:(g.slots.getD t .junk).rel A _:=h _ _ this;refine SV.m6 this ?_;cases N:g.slots[t]? with
   | none=>simp[N,SV.below,SV.ids]
   | some v=>simpa[N] using O v (dS N)
 intro id x I s b u;have r:=hO I;obtain⟨l,G,H⟩:=f.blks id x (d _ r) s b (e _ _ u);have hw:=P _ r;refine⟨l,G,sB H (fun c Y i o=>?_)⟩;have:=hw.2 c Y i o;simpa[lB] using this;intro i j x C b D F G H V W;exact f.inj i j x C b (d _ (hO D)) F (d _ (hO G)) H (e _ _ V) (e _ _ W);intro i b h;exact f.bound i b (e _ _ h);intro p L;have k:=gR k;have:p.1<g.next:=fe (f.tops p L) k;exact⟨by simp[ay.cut,this,(f.init p L).1],(f.init p L).2⟩;intro b l u;obtain⟨D,F⟩:=f.mem b l u;exact⟨fun i x o s R=>D i x (d _ (hO o)) s (e _ _ R),F⟩;intro i b h;simp only[ay.cut] at h;by_cases o:i<g.next;exact o;simp[o] at h
theorem Holds.drew {e:cw} {n:Nat} {f:St} {a:Act} {w:World} (h:Holds e n f a w):Holds e n f a { w with drawn:=w.drawn+1 }:=by obtain⟨i,j,d,g⟩:=h;exact⟨i,j,⟨d.defers,d.size,d.slots,d.below.drew,d.blks,d.inj,d.bound,d.init,d.mem,d.old,d.glob,d.tops,d.memle⟩,g⟩
theorem MV (x2:aD E.P E.sp) (hm:E.P.follows .mixedOrders=true) {N:Nat}:∀ (c:Code) (e:St) (n r:St->Prop) (x:Nat->St->Prop) (a:Act) (w:World) (Q:Exit->Act->World->Prop),
  vc E c e n r x->Holds E.w0 N e a w->(∀ d a w,Holds E.w0 N d a w->n d->Q .normal a w)->(∀ d a w,Holds E.w0 N d a w->r d->Q .ret a w) ->
  (∀ i d a w,Holds E.w0 N d a w->x i d->Q (.exit i) a w)->c.wp E.P Q a w:=by
 intro c;induction c with
 | skip=>intro e n r x a w Q h f z _ _;exact wp_skip (z e a w f h)
 | ret=>intro e n r x a w Q h f _ A _;exact wp_ret (A e a w f h)
 | exit id=>intro e n r x a w Q h f _ _ C;exact wp_exit (C id e a w f h)
 | seq p q y O =>intro e n r x a w Q h f z A C;exact wp_seq (y e _ r x a w _ h f (fun d a w D G=>O d n r x a w Q G D z A C) A C)
 | cond c p q y O =>intro e n r x a w Q h f z A C;have X:(jH e.S c).rel f.2.choose (a.eval c):=(f.2.choose_spec.1).fG (E:=E) c;simp only[vc] at h;split at h;rename_i he;rw[he] at X;exact wp_cond_true (gN (c:=.T) rfl X) (y e n r x a w Q h f z A C);rename_i he;rw[he] at X;exact wp_cond_false (gN (c:=.F) rfl X) (O e n r x a w Q h f z A C);rename_i t he;rw[he] at X;exact wp_cond_split (b9 X) (fun ht=>y e n r x a w Q (h.1 ht) f z A C) (fun ht=>O e n r x a w Q (h.2 ht) f z A C);exact h.elim
 | block id p y =>
  intro e n r x a w Q h f z A C;refine wp_block (y e n r _ a w _ h f z A (fun i d a w D G=>?_));simp only[Exit.inBlock];by_cases U:i=id;subst U;rw[aj rfl];simp at G;exact z d a w D G
  ·rw[ah U];have:beq i id=false:=by
    cases hb:beq i id with
    | false=>rfl
    | true=>exact absurd (beq_true hb) U
   rw[this] at G;exact C i d a w D G
 | loop p y =>intro e n r x a w Q h f z A C;obtain⟨α,I,J,μ,⟨g0,h0⟩,L⟩:=h;obtain⟨x5,x4⟩:=lj h0 f;refine wp_loop_ghost (fun m a w=>∃ g,μ g=m/\J g/\Holds E.w0 N (I g) a w) (μ g0) ⟨g0,rfl,x5,x4⟩ ?_;rintro m a w ⟨g,rfl,hj,hg⟩;refine y (I g) _ r x a w _ (L g hj) hg (fun d a' w' D G=>?_) A C;obtain⟨g',G⟩:=G;obtain⟨⟨h1,h2⟩,h3⟩:=lj G D;exact⟨μ g',h2,g',rfl,h1,h3⟩
 | region id ops Y =>
  intro e n r x a w Q h f z A C;simp only[vc] at h;obtain⟨rs,d,h1,h2,h3,h4,h5,h6,h7⟩:=Af _ _ _ _ _ h;have R:(ops.toList.zip rs).length=ops.size:=by simp[h1]
  have Z:n { d with next:=d.next+8*ops.size }->∀ a w H,cN E.w0 N (rv N (ops.toList.zip rs) e.S) (ru (ops.toList.zip rs) e.B) H a w->(∀ id b,H id=some b->id<e.next+8*ops.size)->Q .normal a w:=by
   intro hk a w H u s;refine z _ a w ⟨by rw[<- f.1];exact h6,H,?_,?_⟩ hk
   ·have e1:({ d with next:=d.next+8*ops.size }:St).S=rv N (ops.toList.zip rs) e.S:=by
     show d.S=_;rw[h3,f.1];rfl
    have e2:({ d with next:=d.next+8*ops.size }:St).B=ru (ops.toList.zip rs) e.B:=by show d.B=_;rw[h4];rfl
    rw[e1,e2];exact u
   intro i b U;show i<d.next+8*ops.size;rw[h5];exact s i b U
  rw[f.1] at h2;cases Y with
  | false =>
   obtain⟨_,H,u,s⟩:=f;refine wp_region ?_
   have:=T9 (E:=E) (ops:=ops) (n:=N) (base:=e.next) (Q:=Q) x2 (ops.toList.zip rs) 0 e.S e.B H a w h2 (fun k p hk=>by
    have:=List.getElem?_zip_eq_some.1 hk
    simpa using this.1) u (by simpa using s) (fun a' w' x6 V K=>Z h7 a' w' x6 V (by rw[R] at K;simpa using K))
   rw[R] at this;rw[List.range_eq_range'];exact this
  | true =>
   obtain⟨x0,h7⟩:=qm h7;obtain⟨_,H,u,s⟩:=f.drew;refine wp_region_any hm ?_;have hf:∀ j,(Array.replicate ops.size false).getD j false=false:=by intro j;simp only[cx,Array.getElem?_replicate];split<;>rfl
   have x3:(fun j=>(Array.replicate ops.size false).getD j false)=fun _=>false:=funext hf;have z1:∀ (l:List (Oper × Rec)) (i:Nat) (S:cD),cg N (fun _=>false) i l S=S:=by
    intro l;induction l with
    | nil=>intro i S;rfl
    | cons q l W=>intro i S;obtain⟨o2,r2⟩:=q;simp only[cg];exact W _ _
   have z2:∀ (l:List (Oper × Rec)) (i:Nat) (B:bA),cM (fun _=>false) i l B=B:=by
    intro l;induction l with
    | nil=>intro i S;rfl
    | cons q l W=>intro i S;obtain⟨o2,r2⟩:=q;simp only[cM];exact W _ _
   refine Ng (n:=N) (base:=e.next) x2 (by simp[List.map_fst_zip,h1]) h2 x0 (fun a w H V K=>Z h7 a w H V K) ops.size _ a _ H au ?_ ?_ ?_ ?_;unfold AO;refine ja (List.countP_le_length) au;intro j o _ hj;have x1:(Array.replicate ops.size false).getD j false=true:=hj;rw[hf] at x1;cases x1;rw[x3,z1,z2];exact u;intro i b U;exact .inl (s i b U)
 | _=>intro e n r x a w Q h;simp[vc] at h
end
def Dq (E:Env) (e:St):ResultVar->Option TV
 | .tmp t=>match e.S t with
  | .is x=>some x
  | _=>none
 | .cell a t=>match uu E.P t,e.S a with
  | true,.is (.one (.ptr b d))=>match e.B b with
   | some (c::f)=>match mb (c::f) d (E.P.cellsOf t) with
    | some m=>py (bZ E.P t) m
    | none=>none
   | _=>none
  | _,_=>none
def r3 (E:Env) (a:St):List ResultVar->Option (List TV)
 | []=>some []
 | r::rs=>match Dq E a r,r3 E a rs with
  | some x,some b=>some (x::b)
  | _,_=>none
def GD (E:Env) (b:St) (rs:List ResultVar):Option SV :=
 match r3 E b rs with
 | some [x]=>some (.is x)
 | some a=>some (.tup a)
 | none=>none
def lb (E:Env) (fn:Func) (Q:SV->St->Prop) (a:St):Prop :=
 match GD E a fn.results.toList with
 | some v=>Q v a
 | none=>False
def RP (E:Env) (fn:Func) (args:List SV) (a:List (Nat × List Cell)) (b:Nat) (Q:SV->St->Prop):Prop :=
 match fn.body with
 | some c=>vc E c ⟨args++replicate (fn.ntmps-args.length) .undef,a,b⟩ (lb E fn Q) (lb E fn Q) (fun _ _=>False)
 | none=>False
def Cx (b:Array Value):ResultVar->Sem Value
 | .tmp t=>pure (b.getD t Go.undef)
 | .cell a t=>do loadVar t (<- asAddr (b.getD a Go.undef))
section
variable {E:Env}
theorem TU {p:St} {r:ResultVar} {x:TV} {n:Nat} {F:ay} {a:Act} {w:World} (h:Dq E p r=some x) (s:cN E.w0 n p.S p.B F a w) :
  ∃ v,(Cx a.tmps r).run E.P w=.ok v w/\x.rel F v:=by
 cases r with
 | tmp t =>
  simp only[Dq] at h;have:=s.slots t;cases o:p.S t with
  | is y =>rw[o] at h this;simp at h;subst h;exact⟨_,rfl,this⟩
  | _=>rw[o] at h;simp at h
 | cell b t =>
  simp only[Dq] at h;split at h
  ·rename_i id C z o;have j:=s.slots b;rw[o] at j;obtain⟨G,H,ev⟩:=n5 j;obtain⟨R,O,D⟩:=mg z;obtain⟨d,I⟩:=Option.isSome_iff_exists.1 O;split at h
   ·rename_i c Q q;obtain⟨l,f,i⟩:=s.blks _ _ q au G H;split at h
    ·rename_i m K;obtain⟨u,g⟩:=wg K i;obtain⟨g1,g2⟩:=xX (P:=E.P) I f g;obtain⟨L,N⟩:=n3 h u (fun h=>by rw[D h];simp;rw[D h] at g;omega);cases e:bZ E.P t with
     | true=>exact⟨.agg ⟨(l.drop C).take (E.P.cellsOf t)⟩,by simp only[Cx];rw[ev];simp[asAddr,g1 e],L e⟩
     | false =>obtain⟨v,k,A⟩:=N e;rw[D e] at k;exact⟨v,by simp only[Cx];rw[ev];simp[asAddr,g2 e v k],A⟩
    simp at h
   simp at h
  simp at h
theorem Rk {e:St} {n:Nat} {f:ay} {a:Act} {w:World} (l:cN E.w0 n e.S e.B f a w):∀ (rs:List ResultVar) (c:List TV),r3 E e rs=some c ->
  ∃ b,(rs.mapM (Cx a.tmps)).run E.P w=.ok b w/\eM f c b:=by
 intro rs;induction rs with
 | nil=>intro c h;simp[r3] at h;subst h;exact⟨[],au,rfl⟩
 | cons r rs m =>intro c h;simp only[r3] at h;split at h;rename_i x d j k;simp at h;subst h;obtain⟨v,g1,g2⟩:=TU j l;obtain⟨b,g,i⟩:=m d k;refine⟨v::b,?_,v,b,rfl,g2,i⟩;simp only[List.mapM_cons,Sem.run_bind,g1,Result.andThen_ok,g];simp;simp at h
theorem Cv {g:St} {n:Nat} {p:ay} {a:Act} {w:World} {fn:Func} {m:SV} (r:cN E.w0 n g.S g.B p a w) (h:GD E g fn.results.toList=some m) :
  ∃ v,(results fn a.tmps).run E.P w=.ok v w/\m.rel p v:=by
 unfold GD at h;cases k:r3 E g fn.results.toList with
 | none=>rw[k] at h;simp at h
 | some o =>
  rw[k] at h;obtain⟨b,g1,g2⟩:=Rk r _ _ k;have d:(results fn a.tmps).run E.P w=.ok (if h:b.toArray.size=1 then b.toArray[0] else .tuple b.toArray) w:=by
   have e:results fn a.tmps=(do let b <- fn.results.mapM (Cx a.tmps);pure (if h:b.size=1 then b[0] else .tuple b)):=by rfl
   rw[e,Array.mapM_eq_mapM_toList];simp only[Sem.run_bind,Sem.run_map,g1,Result.andThen_ok,Sem.run_pure]
  rw[d];match o,b,g2,h with
  | [],b,g2,h =>have:b=[]:=g2;subst this;simp at h;subst h;exact⟨_,rfl,[],au,rfl⟩
  | [x],b,g2,h =>obtain⟨v,f,rfl,i,j⟩:=g2;have:f=[]:=j;subst this;simp at h;subst h;exact⟨v,au,i⟩
  | x::y::o,b,g2,h =>obtain⟨v,f,rfl,i,l,c,rfl,j,q⟩:=g2;simp at h;subst h;refine⟨.tuple ⟨v::l::c⟩,au,v::l::c,rfl,v,_,rfl,i,l,c,rfl,j,q⟩
theorem XB {d:ay}:∀ {l:List SV} {a:List Value},bn d l a->l.length=a.length:=by
 intro l;induction l with
 | nil=>intro a h;have:a=[]:=h;subst this;rfl
 | cons x l c=>intro a h;obtain⟨y,e,rfl,_,b⟩:=h;simp[c b]
structure Start (W:cw) (bl:List (Nat × List Cell)) (nx:Nat) (ρ:ay):Prop where
 blks:∀ id cs,cR bl id=some cs->cs≠[]->∀ b,ρ id=some b->∃ l,b6 W.w b (ρ.n id) l/\ax ρ cs l
 inj:∀ id id' cs cs' b,cR bl id=some cs->cs≠[]->cR bl id'=some cs'->cs'≠[]->ρ id=some b->ρ id'=some b->id=id'
 bound:∀ id b,ρ id=some b->W.aY b/\b<W.w.heap.size
 init:∀ p∈W.ids,ρ p.1=some p.2/\ρ.n p.1=W.num p
 next:∀ id b,ρ id=some b->id<nx
 mem:∀ b l,ρ.M b=some l->(∀ i cs,cR bl i=some cs->cs≠[]->ρ i≠some b)/\∃ el fr,W.w.heap[b]?=some (nA l el fr)
 old:∀ b l,ρ.M b=some l->b<W.w.heap.size->W.own b=true\/W.M b=some l
 glob:∀ g e x,W.gl g=some ⟨e,x⟩->mo (Rd ρ.M e) (width e) ρ.M g 0 [x]
 tops:∀ p∈W.ids,p.1<W.top
 memle:Mem.le W.M ρ.M
def ay.start (M:Mem):ay:=⟨fun _=>none,fun _=>0,M⟩
theorem xY {fn:Func} {args:List SV} {d:List Value} {g:List (Nat × List Cell)} {j:Nat} {c:ay} (a:Start E.w0 g j c) (i:bn c args d) (q:args.length<=fn.ntmps) :
  Holds E.w0 fn.ntmps ⟨args++replicate (fn.ntmps-args.length) .undef,g,j⟩ { tmps:=(⟨d⟩:Array Value)++Array.replicate (fn.ntmps-(⟨d⟩:Array Value).size) undef,defers:=[] } E.w0.w:=by
 have b:d.length=args.length:=(XB i).symm;refine⟨by simp;omega,c,⟨rfl,by simp;omega,?_,kW.refl _,a.blks,a.inj,a.bound,a.init,a.mem,a.old,a.glob,a.tops,a.memle⟩,a.next⟩
 ·intro t;simp only[St.S,aX,cx];by_cases e:t<args.length
  ·rw[oJ e,Array.getElem?_append_left (by simpa[b] using e)];have f:∀ (l:List SV) (d:List Value) (t:Nat),bn c l d->t<l.length->(l[t]?.getD .junk).rel c (d[t]?.getD Go.undef):=by
    intro l;induction l with
    | nil=>intro d t _ h;simp at h
    | cons x l o =>
     intro d t h e;obtain⟨y,p,rfl,k,m⟩:=h;cases t with
     | zero=>simpa using k
     | succ t=>simpa using o p t m (by simpa using e)
   simpa using f args d t i e
  by_cases n:t<fn.ntmps;rw[qf aa,su,aj aa];rw[Array.getElem?_append_right (by simp[b];omega),Array.getElem?_replicate,aj (by simp[b];omega)];rfl;rw[qf aa,su,ah aa];trivial
theorem VQ (p:aD E.P E.sp) (C:E.P.follows .mixedOrders=true) {f:FuncId} {fn:Func} (z:E.P.funcs[f]?=some fn) {args:List SV} {u:List Value} {s:List (Nat × List Cell)} {t:Nat} {o:ay} (q:Start E.w0 s t o) {Q:SV->St->Prop}
  (F:bn o args u) (D:args.length<=fn.ntmps) (h:RP E fn args s t Q) :
  Calls E.P f ⟨u⟩ E.w0.w fun e G=>∃ v l m ρ n a,e=.returned v/\l.rel ρ v/\Q l m/\cN E.w0 n m.S m.B ρ a G:=by
 unfold RP at h;split at h
 ·rename_i c y;refine calls_of_wp z y ?_;have A:=xY (E:=E) (fn:=fn) q F D;have k:∀ b a w,Holds E.w0 fn.ntmps b a w->lb E fn Q b->a.defers=[]/\∃ v,(results fn a.tmps).run E.P w=.ok v w/\∃ x l m ρ n a,(Ending.returned v)=.returned x/\l.rel ρ x/\Q l m/\cN E.w0 n m.S m.B ρ a w:=by
   intro b a w d j;obtain⟨_,ρ,g,_⟩:=d;unfold lb at j;split at j;rename_i l r;obtain⟨v,g1,g2⟩:=Cv g r;exact⟨g.defers,v,g1,v,l,b,ρ,_,a,rfl,g2,j,g⟩;exact j.elim
  exact MV p C c _ _ _ _ _ _ _ h A (fun b a w d j=>k b a w d j) (fun b a w d j=>k b a w d j) (fun i b a w _ j=>j.elim)
 exact h.elim
end
attribute [irreducible] RP
def Yu (i:Nat):List (Nat × SV)->SV
 | []=>.junk
 | (j,v)::l=>match beq i j with
  | true=>v
  | false=>Yu i l
def JC:Nat->Nat->List (Nat × SV)->List SV
 | _,0,_=>[]
 | i,n+1,l=>Yu i l::JC (i+1) n l
def ar (n next:Nat) (a:List (Nat × SV)) (d:List (Nat × List Cell)):St:=⟨JC 0 n a,d,next⟩
def xm:List SV->List SV->List SV
 | _::l,.junk::m=>.junk::xm l m
 | s::l,_::m=>s::xm l m
 | _,_=>[]
def Dj (B:bA):List (Nat × List Cell)->List (Nat × List Cell)
 | []=>[]
 | (id,a)::l=>match B id with
  | some b=>(id,b)::Dj B l
  | none=>(id,.junk::a)::Dj B l
def St.proj (b a:St):St:=⟨xm b.slots a.slots,Dj b.B a.blks,a.next⟩
theorem WI {K:Prop}:∀ (l m:List SV),m=xm l m->l.length=m.length->K->iE l m K:=by
 intro l;induction l with
 | nil=>intro m h a b;cases m with
  | nil=>exact b
  | cons t m=>simp at a
 | cons s l d =>
  intro m h a b;cases m with
  | nil=>simp at a
  | cons t m =>
   by_cases c:t=.junk;subst c;simp only[xm,br,true_and] at h;exact d m h (by simpa using a) b
   ·have e:xm (s::l) (t::m)=s::xm l m:=by
     cases t with
     | junk=>exact absurd rfl c
     | _=>rfl
    rw[e] at h;simp only[br] at h;have g:iE (s::l) (t::m) K=(HU s t/\iE l m K):=by
     cases t with
     | junk=>exact absurd rfl c
     | _=>rfl
    rw[g];exact⟨h.1▸Ti _,d m h.2 (by simpa using a) b⟩
theorem WH {B:bA} {K:Prop}:∀ (l:List (Nat × List Cell)),l=Dj B l->K->rG B l K:=by
 intro l;induction l with
 | nil=>intro _ b;exact b
 | cons p l c =>
  intro h b;obtain⟨id,d⟩:=p;simp only[Dj] at h;simp only[rG];split at h
  ·rename_i e a;simp only[br,aI,true_and] at h;try rw[a]
   exact⟨h.1.symm,c h.2 b⟩
  simp only[br,aI,true_and] at h;have:=congrArg length h.1;simp at this
theorem aw {W:cw} {d τ:St} {K:Prop} (h:τ=d.proj τ) (e:(ble τ.next d.next&&τ.wf&&ble W.top τ.next&&beq d.slots.length τ.slots.length)=true) (i:K):d.le W τ K:=by
 simp only[aQ] at e;unfold St.le;have f:τ.slots=xm d.slots τ.slots:=by have:=congrArg St.slots h;exact this
 have g:τ.blks=Dj d.B τ.blks:=by have:=congrArg St.blks h;exact this
 rw[show (ble τ.next d.next&&τ.wf&&ble W.top τ.next)=true from by simp[e.1.1.1,e.1.1.2,e.1.2]];exact WI _ _ f (beq_true e.2) (WH _ g i)
theorem al {X G:Prop} (h:X=G) (x:X):G:=h▸x
theorem JJ {ρ:ay} {v:SV} {b:List SV} {u:Value} {a:List Value} (h:v.rel ρ u) (c:bn ρ b a):bn ρ (v::b) (u::a):=⟨u,a,rfl,h,c⟩
def sI (k:IntKind) (a:Int):SV:=.is (.one (.v (.int k a)))
def sA (k:IntKind) (n:Nat) (a:List Int):SV:=.is (.agg [.ints k n a])
def Ke:List SV->Prop->Prop
 | [],K=>K
 | .junk::m,K=>Ke m K
 | t::m,K=>t=t/\Ke m K
def RJ:List (Nat × List Cell)->Prop->Prop
 | [],K=>K
 | (_,a)::l,K=>a=a/\RJ l K
def St.ag (τ:St) (K:Prop):Prop:=Ke τ.slots (RJ τ.blks K)
theorem NB {K:Prop} (h:K):∀ l:List (Nat × List Cell),RJ l K:=by
 intro l;induction l with
 | nil=>exact h
 | cons p l a=>exact⟨rfl,a⟩
theorem NC {K:Prop} (h:K):∀ l:List SV,Ke l K:=by
 intro l;induction l with
 | nil=>exact h
 | cons t l a =>
  cases t with
  | junk=>exact a
  | _=>exact⟨rfl,a⟩
theorem ao {τ:St} {K:Prop} (h:K):τ.ag K:=NC (NB h _) _
def T8:List Code->Code
 | []=>.skip
 | c::l=>.seq c (T8 l)
def flat:Code->List Code
 | .seq a b=>flat a++flat b
 | .skip=>[]
 | c=>[c]
def ku (P:Program):List Code->(Exit->Act->World->Prop)->Act->World->Prop
 | [],Q,a,w=>Q .normal a w
 | c::l,Q,a,w=>c.wp P (Exit.then (ku P l Q) Q) a w
theorem jP {P:Program}:∀ (c:Code) (l:List Code) (Q:Exit->Act->World->Prop) (a:Act) (w:World),ku P (flat c++l) Q a w->c.wp P (Exit.then (ku P l Q) Q) a w:=by
 intro c;induction c with
 | skip=>intro l Q a w h;exact wp_skip h
 | seq p q b d =>
  intro l Q a w h;simp only[flat,cB] at h;refine wp_seq (wp_mono (b _ Q a w h) ?_);intro e g i f;cases e with
  | normal=>exact d l Q g i f
  | _=>exact f
 | _=>intro l Q a w h;exact h
def VC (E:Env) (l:List Code) (a:St) (n r:St->Prop) (x:Nat->St->Prop):Prop:=vc E (T8 l) a n r x
def Tr (E:Env) (N:Nat) (l:List Code) (d:St) (n r:St->Prop) (x:Nat->St->Prop):Prop :=
 ∀ (a:Act) (w:World) (Q:Exit->Act->World->Prop),Holds E.w0 N d a w->(∀ b a w,Holds E.w0 N b a w->n b->Q .normal a w)->(∀ b a w,Holds E.w0 N b a w->r b->Q .ret a w) ->
  (∀ i b a w,Holds E.w0 N b a w->x i b->Q (.exit i) a w)->ku E.P l Q a w
section
variable {E:Env} {N:Nat} {n r:St->Prop} {x:Nat->St->Prop}
theorem bE (g:aD E.P E.sp) (o:E.P.follows .mixedOrders=true):∀ (l:List Code) (b:St),VC E l b n r x->Tr E N l b n r x:=by
 intro l;induction l with
 | nil=>intro b h a w Q d f _ _;exact f b a w d h
 | cons c l p =>intro b h a w Q d f j k;exact MV g o c b _ r x a w _ h d (fun i a w e m=>p i m a w Q e f j k) j k
theorem zf {P:Program} {Q:Exit->Act->World->Prop}:∀ (l m:List Code) (a:Act) (w:World),ku P l (Exit.then (ku P m Q) Q) a w->ku P (l++m) Q a w:=by
 intro l;induction l with
 | nil=>intro m a w h;exact h
 | cons c l f =>
  intro m a w h;refine wp_mono h ?_;intro e d g b;cases e with
  | normal=>exact f m d g b
  | _=>exact b
theorem bd (e:aD E.P E.sp) (y:E.P.follows .mixedOrders=true) {l:List Code} {i:St} (k:Nat) (j:St) (K:Prop) (p:VC E (l.take k) i (fun b=>b.le E.w0 j K) r x) (q:K->Tr E N (l.drop k) j n r x):Tr E N l i n r x:=by intro a w Q u z g h;rw[<- dR k l];refine zf _ _ a w ?_;refine bE e y _ _ p a w _ u (fun b m A d o=>?_) g h;obtain⟨s,f⟩:=lj o d;exact q s m A Q f z g h
def b7:Code->Nat
 | .block id _=>id
 | _=>0
def aZ:Code->List Code
 | .block _ (.loop b)=>flat b
 | _=>[]
def dn:Code->Bool
 | .block _ (.loop _)=>true
 | _=>false
theorem Iw {α:Type} {l:List Code} {c:Code} {R:St} (I:α->St) (J:α->Prop) (q:α->Nat) (out:α->St) (H:α->Prop) (s:α)
  (D:l.head?=some c) (y:dn c=true) (T:R.le E.w0 (I s) (J s))
  (u:∀ g,J g->Tr E N (aZ c) (I g) (fun f=>∃ j,f.le E.w0 (I j) (J j/\q j<q g)) r (fun i f=>match beq i (b7 c) with|true=>∃ j,f.le E.w0 (out j) (H j)|false=>x i f))
  (X:∀ g,H g->Tr E N l.tail (out g) n r x):Tr E N l R n r x:=by
 intro a w Q hh hn K L;cases l with
 | nil=>simp at D
 | cons d l =>
  simp at D;subst D;unfold dn at y;split at y
  ·rename_i id b;obtain⟨C,z⟩:=lj T hh;refine wp_block ?_;refine wp_loop_ghost (fun m a w=>∃ g,q g=m/\J g/\Holds E.w0 N (I g) a w) (q s) ⟨s,rfl,C,z⟩ ?_;rintro m a w ⟨g,rfl,hj,Z⟩;have G:=u g hj a w (Exit.then (fun o p=>∃ O,O<q g/\∃ g,q g=O/\J g/\Holds E.w0 N (I g) o p) (Exit.inBlock id (Exit.then (ku E.P l Q) Q))) Z ?_ ?_ ?_;have:=jP b [] _ a w (by simpa[aZ] using G);refine wp_mono this ?_;intro e o p Y;cases e<;>exact Y;rintro f o p h ⟨j,k⟩;obtain⟨⟨U,V⟩,W⟩:=lj k h;exact⟨q j,V,j,rfl,U,W⟩;intro f o p h k;exact K f o p h k
   ·intro i f o p h k;show Exit.inBlock id (Exit.then (ku E.P l Q) Q) (.exit i) o p;simp only[Exit.inBlock];by_cases A:i=id;subst A;rw[aj rfl];simp only[b7,iq] at k;obtain⟨j,k⟩:=k;obtain⟨t,F⟩:=lj k h;exact X j t o p Q F hn K L
    ·rw[ah A];have:beq i id=false:=by
      cases u:beq i id with
      | false=>rfl
      | true=>exact absurd (beq_true u) A
     simp only[b7,this] at k;exact L i f o p h k
  cases y
theorem za {l:List Code} {k:St} {g:St->Prop} {j:Nat->St->Prop} (h:Tr E N l k g r j) (e:∀ b,g b->n b) (f:∀ i b,j i b->x i b):Tr E N l k n r x:=by intro a w Q m o p q;exact h a w Q m (fun b a w c d=>o b a w c (e b d)) p (fun i b a w c d=>q i b a w c (f i b d))
theorem MQ (j:aD E.P E.sp) (y:E.P.follows .mixedOrders=true) {d:Type} {l:List Code} {c:Code} {o:St} (I:d->St) (J:d->Prop) (k:d->Nat) (b:d->d) (out:d->St) (f:d->Prop) (h:d)
  (w:l.head?=some c) (t:dn c=true) (p:o.le E.w0 (I h) (J h))
  (s:∀ g,J g->VC E (aZ c) (I g) (fun a=>a.le E.w0 (I (b g)) (J (b g)/\k (b g)<k g)) r (fun i a=>match beq i (b7 c) with|true=>a.le E.w0 (out g) (f g)|false=>x i a))
  (q:∀ g,f g->Tr E N l.tail (out g) n r x):Tr E N l o n r x:=by
 refine Iw I J k out f h w t p (fun g u=>?_) q;refine za (bE j y _ _ (s g u)) (fun a e=>⟨b g,e⟩) (fun i a e=>?_);cases m:beq i (b7 c) with
 | true=>rw[m] at e;exact⟨g,e⟩
 | false=>rw[m] at e;exact e
def aq (l:List Code) (k:Nat):Code:=l.getD k .skip
def nJ:Code->Operand
 | .cond c _ _=>c
 | _=>.const (.bool true)
def fV:Code->List Code
 | .cond _ a _=>flat a
 | _=>[]
def rA:Code->List Code
 | .cond _ _ b=>flat b
 | _=>[]
def nO:Code->Bool
 | .cond _ _ _=>true
 | _=>false
def da:Code->List Code
 | .block _ b=>flat b
 | _=>[]
def C0:Code->Bool
 | .block _ _=>true
 | _=>false
theorem PF {l:List Code} {c:Code} {e:St} (t:Bool) (h:l.head?=some c) (g:nO c=true) (m:jH e.S (nJ c)=.is (.one (.v (.bool t))))
  (s:t=true->Tr E N (fV c++l.tail) e n r x) (u:t=false->Tr E N (rA c++l.tail) e n r x):Tr E N l e n r x:=by
 intro a w Q f j k o;cases l with
 | nil=>simp at h
 | cons d l =>simp at h;subst h;unfold nO at g;split at g;rename_i c p q;have b:(jH e.S c).rel f.2.choose (a.eval c):=(f.2.choose_spec.1).fG (E:=E) c;simp only[nJ] at m;rw[m] at b;refine wp_cond_split (b9 b) (fun i=>?_) (fun i=>?_);exact jP p l Q a w (s i a w Q f j k o);exact jP q l Q a w (u i a w Q f j k o);cases g
theorem mf {l:List Code} {c:Code} {y:St} (p:l.head?=some c) (m:C0 c=true)
  (z:Tr E N (da c) y (fun f=>Tr E N l.tail f n r x) r (fun i f=>match beq i (b7 c) with|true=>Tr E N l.tail f n r x|false=>x i f)):Tr E N l y n r x:=by
 intro a w Q D u q s;cases l with
 | nil=>simp at p
 | cons d l =>
  simp at p;subst p;unfold C0 at m;split at m
  ·rename_i id b;refine wp_block ?_;have t:=z a w (Exit.inBlock id (Exit.then (ku E.P l Q) Q)) D (fun f j k g h=>h j k Q g u q s) (fun f j k g h=>q f j k g h) ?_;have:=jP b [] _ a w (by simpa[da] using t);refine wp_mono this ?_;intro e j k C;cases e<;>exact C
   ·intro i f j k g h;simp only[Exit.inBlock];by_cases o:i=id;subst o;rw[aj rfl];simp only[b7,iq] at h;exact h j k Q g u q s
    ·rw[ah o];have:beq i id=false:=by
      cases A:beq i id with
      | false=>rfl
      | true=>exact absurd (beq_true A) o
     simp only[b7,this] at h;exact s i f j k g h
  cases m
def ak (fn:Func):List Code :=
 match fn.body with
 | some c=>flat c
 | none=>[]
def ln (fn:Func) (args:List SV) (bl:List (Nat × List Cell)) (b:Nat):St:=⟨args++replicate (fn.ntmps-args.length) .undef,bl,b⟩
def AU (E:Env) (fn:Func) (args:List SV) (a:List (Nat × List Cell)) (b:Nat) (Q:SV->St->Prop):Prop :=
 Tr E fn.ntmps (ak fn) (ln fn args a b) (lb E fn Q) (lb E fn Q) (fun _ _=>False)
theorem BS {f:FuncId} {fn:Func} (F:E.P.funcs[f]?=some fn) (o:fn.body.isSome=true) {args:List SV} {q:List Value} {y:List (Nat × List Cell)} {A:Nat} {p:ay} (t:Start E.w0 y A p) {Q:SV->St->Prop}
  (K:bn p args q) (I:args.length<=fn.ntmps) (h:AU E fn args y A Q) :
  Calls E.P f ⟨q⟩ E.w0.w fun e s=>∃ v l j ρ n a,e=.returned v/\l.rel ρ v/\Q l j/\cN E.w0 n j.S j.B ρ a s:=by
 obtain⟨c,z⟩:=Option.isSome_iff_exists.1 o;have G:=xY (E:=E) (fn:=fn) t K I;refine calls_of_wp F z ?_;have m:∀ b a w,Holds E.w0 fn.ntmps b a w->lb E fn Q b->a.defers=[]/\∃ v,(results fn a.tmps).run E.P w=.ok v w/\∃ C l j ρ n a,(Ending.returned v)=.returned C/\l.rel ρ C/\Q l j/\cN E.w0 n j.S j.B ρ a w:=by intro b a w d k;obtain⟨_,ρ,g,_⟩:=d;unfold lb at k;split at k;rename_i l u;obtain⟨v,g1,g2⟩:=Cv g u;exact⟨g.defers,v,g1,v,l,b,ρ,_,a,rfl,g2,k,g⟩;exact k.elim
 have H:flat c++[]=ak fn:=by simp[ak,z]
 suffices L:ku E.P (ak fn) (bodyPost E.P fn fun e s=>∃ v l j ρ n a,e=.returned v/\SV.rel ρ l v/\Q l j/\cN E.w0 n j.S j.B ρ a s) { tmps:=(⟨q⟩:Array Value)++Array.replicate (fn.ntmps-(⟨q⟩:Array Value).size) undef,defers:=[] } E.w0.w by refine wp_mono (jP c [] _ _ _ (H▸L)) ?_;intro e O s D;cases e<;>exact D
 exact h _ _ _ G (fun b a w d k=>m b a w d k) (fun b a w d k=>m b a w d k) (fun i b a w _ k=>k.elim)
end
attribute [irreducible] VC
abbrev HL:List Kd->Type
 | []=>Unit
 | κ::b=>aA κ × HL b
def Ef:Kd->Bool
 | .fp | .fr | .pair _ _ | .arr _ _=>true
 | _=>false
def fo:Kd->Bool
 | .pair a b=>fo a&&fo b
 | .arr _ e=>fo e
 | .sl _ | .ptr _ | .cap _ _ | .mp=>false
 | _=>true
def b8 (w:World):Mem:=fun b=>match w.heap[b]? with
 | some (.cells c _ _)=>match c.toList with
  | []=>none
  | v::l=>some (v::l)
 | some (.map f _)=>match f.toList with
  | []=>some []
  | _=>none
 | _=>none
def qc (M:Mem) (b:Kd) (x:aA b) (v:Value):Prop :=
 match Ef b with
 | true=>∃ l,v=.agg ⟨l⟩/\Rd M b x l
 | false=>Rd M b x [v]
def uc (M:Mem):(c:List Kd)->HL c->List Value->Prop
 | [],_,d=>d=[]
 | κ::c,x,d=>∃ u b,d=u::b/\qc M κ x.1 u/\uc M c x.2 b
def wo:(κ:Kd)->aA κ->Prop
 | .pair a b,x=>wo a x.1/\wo b x.2
 | .arr n e,d=>d.length=n/\∀ x∈d,wo e x
 | .sl e,d=>∀ x∈d,wo e x
 | .ptr e,x=>wo e x
 | .cap c e,x=>wo c x.1/\wo e x.2
 | _,_=>True
def G9:(b:List Kd)->HL b->Prop
 | [],_=>True
 | κ::b,x=>wo κ x.1/\G9 b x.2
inductive cQ where
 | own (e:Kd)
 | val (κ:Kd)
 | box (κ:Kd)
abbrev cQ.kd:cQ->Kd
 | .own e=>.sl e
 | .val b=>b
 | .box b=>b
abbrev HO:List cQ->Type
 | []=>Unit
 | o::b=>aA o.kd × HO b
def dq (N:Nat) (M:Mem) (c:Option Nat) (w':World):Mem:=fun b =>
 if c=some b then none else if N<=b then b8 w' b else M b
def aej (N:Nat) (M:Mem) (d:Option Nat) (w':World):(o:cQ)->aA o.kd->Value->Prop
 | .val g,x,v=>qc (dq N M d w') g x v
 | .own e,f,v=>(f=[]/\v=.slice none 0 0)\/∃ b o c n l,d=some b/\N<=b/\v=.slice (some ⟨b,o,none⟩) f.length c/\f.length<=c/\(o=0\/c=0)/\o+c*width e<=n/\b6 w' b n l/\dY (Rd (dq N M d w') e) f l
 | .box g,x,v=>∃ b n l,d=some b/\N<=b/\v=.pointer (some ⟨b,0,none⟩)/\b6 w' b n l/\Rd (dq N M d w') g x l
def e8 (N:Nat) (M:Mem) (e:Option Nat) (w':World):(c:List cQ)->HO c->List Value->Prop
 | [],_,d=>d=[]
 | o::c,x,d=>∃ v b,d=v::b/\aej N M e w' o x.1 v/\e8 N M e w' c x.2 b
def mM:List Value->Value
 | [v]=>v
 | vs=>.tuple ⟨vs⟩
abbrev gi:=Nat->Option (Sigma aA)
def bx:gi:=fun _=>none
def rk (G:gi) (M:Mem):Prop:=∀ g e x,G g=some ⟨e,x⟩->mo (Rd M e) (width e) M g 0 [x]
def aL (P:Program) (f:FuncId) (b:List Kd) (d:List cQ) (G:gi) (pre:HL b->Prop) (F:HL b->HO d):Prop :=
 ∀ (w:World) (M:Mem) (us:List Value) (xs:HL b),Mem.le M (b8 w)->rk G M->uc M b xs us->pre xs ->
  nG P f ⟨us⟩ w fun v w'=>∃ vs e,v=mM vs/\e8 w.heap.size M e w' d (F xs) vs/\Below w.heap.size w w'
def XL (P:Program) (f:FuncId) (b:List Kd) (i:List Value) (c:List cQ) (G:gi) (pre:HL b->Prop) (F:HL b->HO c):Prop :=
 ∀ (w:World) (M:Mem) (e:List Value) (d:HL b),Mem.le M (b8 w)->rk G M->uc M b d e->pre d ->
  nG P f ⟨e++i⟩ w fun v w'=>∃ g h,v=mM g/\e8 w.heap.size M h w' c (F d) g/\Below w.heap.size w w'
theorem aL.toT {P:Program} {f:FuncId} {c:List Kd} {b:List cQ} {G:gi} {pre:HL c->Prop} {F:HL c->HO b} (h:aL P f c b G pre F):XL P f c [] b G pre F:=by intro w M d e;rw[bq];exact h w M d e
def MU (B:bA) (b:Kd):SV->Option (aA b × List Prop)
 | .is (.agg e)=>match Ef b,fz B b e with
  | true,some (x,d,[])=>some (x,d)
  | _,_=>none
 | .is (.one c)=>match Ef b,fz B b [c] with
  | false,some (x,d,[])=>some (x,d)
  | _,_=>none
 | _=>none
def uO (B:bA):(b:List Kd)->List SV->Option (HL b × List Prop)
 | [],[]=>some ((),[])
 | κ::b,v::e=>match MU B κ v with
  | some (x,c)=>match uO B b e with
   | some (f,d)=>some ((x,f),c++d)
   | none=>none
  | none=>none
 | _,_=>none
def Gq (id:Nat):(o:cQ)->aA o.kd->TV
 | .val b,x=>match Ef b with
  | true=>.agg (cellsOf b x)
  | false=>match cellsOf b x with
   | c::_=>.one c
   | []=>.agg []
 | .own e,d=>.one (.sl id 0 0 d.length (width e))
 | .box _,_=>.one (.ptr id 0)
def iV (id:Nat):(b:List cQ)->HO b->List TV
 | [],_=>[]
 | o::b,x=>Gq id o x.1::iV id b x.2
def uh (id:Nat):(b:List cQ)->HO b->List (Nat × List Cell)
 | [],_=>[]
 | .own e::_,x=>[(id,[jn e (x.1:List (aA e)).length x.1])]
 | .val _::b,x=>uh id b x.2
 | .box c::_,x=>[(id,cellsOf c x.1)]
def xZ:List TV->SV
 | [x]=>.is x
 | l=>.tup l
def dz:List cQ->Nat
 | []=>0
 | .own _::b=>dz b+1
 | .val _::b=>dz b
 | .box _::b=>dz b+1
def eT:List cQ->Bool
 | []=>true
 | .own e::b=>fo e&&eT b
 | .val c::b=>fo c&&eT b
 | .box c::b=>fo c&&eT b
def isLive (B:bA) (i:Nat):Bool:=match B i with
 | some (_::_)=>true
 | _=>false
def pv (B:bA) (b:List cQ) (ids:List Nat):List (Nat × List Cell) :=
 match eT b with
 | true=>[]
 | false=>(ids.filter (isLive B)).map fun i=>(i,[])
def aH (c:List Kd) (b:List cQ) (pre:HL c->Prop) (F:HL c->HO b):Spec:=fun _ id args B =>
 match uO (lL (gB B args) B) c args with
 | some (d,e)=>some { val:=xZ (iV id b (F d)),new:=uh id b (F d),wr:=pv B b (gB B args),pre:=e++[pre d] }
 | none=>none
def CX (G:gi) (c:List Kd) (b:List cQ) (pre:HL c->Prop) (F:HL c->HO b):Spec:=fun W id args B =>
 match aH c b pre F W id args B with
 | some o=>some { o with pre:=(∀ g s,G g=some s->W.gl g=some s)::o.pre }
 | none=>none
section
variable {P:Program}
theorem nG.mono {f:FuncId} {i:Array Value} {w:World} {R d:Value->World->Prop} (h:nG P f i w R) (g:∀ v w',R v w'->d v w'):nG P f i w d:=by rcases h with ⟨b,c⟩|⟨v,w',b,c⟩;exact .inl ⟨b,c.mono fun e w' ⟨v,j,k⟩=>⟨v,j,g v w' k⟩⟩;exact .inr ⟨v,w',b,g v w' c⟩
theorem Kk {M p:Mem}:∀ {e:Kd} {x:aA e} {d:List Value},fo e=true->Rd M e x d->Rd p e x d:=by
 intro e;induction e with
 | int k=>intro x d _ h;exact h
 | bool=>intro x d _ h;exact h
 | str=>intro x d _ h;exact h
 | fp=>intro x d _ h;exact h
 | fr=>intro x d _ h;exact h
 | pair a b m o=>intro x d g ⟨s,t,e,i,j⟩;simp[fo] at g;exact⟨s,t,e,m g.1 i,o g.2 j⟩
 | arr n e l=>intro x d g ⟨i,j⟩;exact⟨i,eg (fun _ _=>l g) j⟩
 | sl e l=>intro x d g;simp[fo] at g
 | ptr e l=>intro x d g;simp[fo] at g
 | fn f=>intro x d _ h;exact h
 | cap c e q r=>intro x d g;simp[fo] at g
 | pq=>intro x d _ h;exact h
 | mp=>intro x d g;simp[fo] at g
theorem Au {M d:Mem} {b:Kd} {x:aA b} {v:Value} (h:∀ l,Rd M b x l->Rd d b x l) (c:qc M b x v):qc d b x v:=by
 unfold qc at c ⊢;cases f:Ef b with
 | true=>rw[f] at c;obtain⟨l,e,g⟩:=c;exact⟨l,e,h l g⟩
 | false=>rw[f] at c;exact h _ c
theorem wm {B:bA} {ρ:ay} {M:Mem} (m:Sees B ρ M) {k:Kd} {s:SV} {x:aA k} {t:List Prop} {v:Value} (h:MU B k s=some (x,t)) (o:∀ p∈t,p) (r:s.rel ρ v):qc M k x v:=by unfold MU at h;split at h;rename_i A;split at h;rename_i y z g i;simp only[az,aI] at h;obtain⟨rfl,rfl⟩:=h;obtain⟨l,e,u⟩:=r;obtain⟨w,j,d,f,b⟩:=iy m _ _ _ _ _ _ i o u;have b:j=[]:=b;subst b;rw[bq] at d;subst d;unfold qc;rw[g];exact⟨_,e,f⟩;simp at h;rename_i c;split at h;rename_i y z g i;simp only[az,aI] at h;obtain⟨rfl,rfl⟩:=h;obtain⟨w,j,d,f,b⟩:=iy m _ _ _ _ _ _ i o (bJ r);have b:j=[]:=b;subst b;rw[bq] at d;unfold qc;rw[g,d];exact f;simp at h;simp at h
theorem IK {B:bA} {ρ:ay} {M:Mem} (q:Sees B ρ M):∀ {d:List Kd} {c:List SV} {i:HL d} {f:List Prop} {g:List Value},uO B d c=some (i,f)->(∀ p∈f,p)->bn ρ c g->uc M d i g:=by
 intro d;induction d with
 | nil=>intro c i f g h j k;cases c with
  | nil=>exact k
  | cons _ _=>simp[uO] at h
 | cons C d r=>intro c i f g h j k;cases c with
  | nil=>simp[uO] at h
  | cons s c =>simp only[uO] at h;split at h;rename_i x y m;split at h;rename_i A z o;simp only[az,aI] at h;obtain⟨rfl,rfl⟩:=h;obtain⟨u,l,e,t,w⟩:=k;exact⟨u,l,e,wm q m (fun p b=>j p (gS _ b)) t,r o (fun p b=>j p (ij _ b)) w⟩;simp at h;simp at h
theorem kB {w:World} {b:Nat} {l:List Value} {c:TypeId} {fr:Nat × Nat} (h:w.heap[b]?=some (.cells ⟨l⟩ c fr)) (d:l≠[]):b8 w b=some l:=by
 cases l with
 | nil=>exact absurd rfl d
 | cons v l=>simp only[b8,h]
theorem jX {w:World} {b:Nat} {l:List Value} {c:TypeId} {fr:Nat × Nat} (h:w.heap[b]?=some (nA l c fr)):b8 w b=some l:=by
 cases l with
 | nil=>simp only[b8,h,nA]
 | cons v l=>simp only[b8,h,nA]
theorem iJ {w:World} {b:Nat} {l:List Value} (h:b8 w b=some l):∃ d fr,w.heap[b]?=some (nA l d fr):=by unfold b8 at h;split at h;rename_i c d fr f;split at h;cases h;rename_i v i e;simp only[az] at h;subst h;exact⟨d,fr,by rw[f,nA,<- e]⟩;rename_i g ck f;split at h;rename_i e;simp only[az] at h;subst h;exact⟨ck,(0,0),by rw[f,nA,<- Array.toList_inj.1 (show g.toList=(#[]:Array MapEntry).toList from e)]⟩;cases h;cases h
theorem sR {w:World} {b:Nat} {l:List Value} (h:b8 w b=some l):b<w.heap.size:=by obtain⟨c,fr,h⟩:=iJ h;rcases bN b w.heap.size with h'|h';exact h';rw[eh h'] at h;cases h
theorem CL {b:Kd} {ρ:ay} {id:Nat} {x:aA b} {v:Value} (h:qc ρ.M b x v):(Gq id (.val b) x).rel ρ v:=by
 unfold qc at h;cases d:Ef b with
 | true =>
  rw[d] at h;obtain⟨l,e,g⟩:=h;have:Gq id (.val b) x=.agg (cellsOf b x):=by simp only[Gq,d]
  rw[this];exact⟨l,e,jk g⟩
 | false =>
  rw[d] at h;have:=jk h;cases b with
  | int k=>exact cT this
  | bool=>exact cT this
  | str=>exact cT this
  | sl e=>exact cT this
  | ptr e=>exact cT this
  | fn f=>exact cT this
  | cap c e=>exact cT this
  | pq=>exact cT this
  | mp=>exact cT this
  | _=>simp[Ef] at d
theorem DA {ρ:ay} {l:List TV} {d:List Value} (h:eM ρ l d):(xZ l).rel ρ (mM d):=by
 match l,d,h with
 | [],_,h=>have e:_=[]:=h;subst e;exact⟨[],rfl,rfl⟩
 | [x],_,⟨y,g,e,b,c⟩=>have j:g=[]:=c;subst j;subst e;exact b
 | x::m::l,_,⟨y,g,e,b,k,f,i,c⟩=>subst i e;exact⟨_,rfl,y,_,rfl,b,k,f,rfl,c⟩
theorem P9:∀ (c:Kd) (x:aA c),cellsOf c x≠[]:=by
 intro c;induction c with
 | pair a b d e =>intro x h;have h:cellsOf a x.1++cellsOf b x.2=[]:=h;exact d x.1 (List.append_eq_nil_iff.1 h).1
 | _=>intro x h;simp[cellsOf] at h
theorem L0 {b:ay} {N:Nat} {M:Mem} {d:Option Nat} {w':World} {id:Nat} (r:∀ (e:Kd) (x:aA e) l,Rd (dq N M d w') e x l->(fo e=true\/Mem.le (dq N M d w') b.M)->Rd b.M e x l)
  : ∀ {c:List cQ} {ys:HO c} {f:List Value},dz c=0->(eT c=true\/Mem.le (dq N M d w') b.M)->e8 N M d w' c ys f->uh id c ys=[]/\eM b (iV id c ys) f:=by
 intro c;induction c with
 | nil=>intro ys f _ _ h;exact⟨rfl,h⟩
 | cons o c t =>
  intro ys f g hp h;cases o with
  | own e=>simp[dz] at g
  | box e=>simp[dz] at g
  | val m =>
   obtain⟨v,k,e,p,q⟩:=h;have j:eT c=true\/Mem.le (dq N M d w') b.M:=by rcases hp with hp|hp;simp[eT] at hp;exact .inl hp.2;exact .inr hp
   have i:fo m=true\/Mem.le (dq N M d w') b.M:=by rcases hp with hp|hp;simp[eT] at hp;exact .inl hp.1;exact .inr hp
   obtain⟨u,w⟩:=t (ys:=ys.2) g j q;exact⟨u,v,k,e,CL (Au (fun l s=>r m _ l s i) p),w⟩
theorem zS {ρ':ay} {N:Nat} {M:Mem} {j:Option Nat} {w':World} {id:Nat} (t:∀ (e:Kd) (x:aA e) l,Rd (dq N M j w') e x l->(fo e=true\/Mem.le (dq N M j w') ρ'.M)->Rd ρ'.M e x l)
  : ∀ {c:List cQ} {ys:HO c} {r:List Value},dz c<=1->(eT c=true\/Mem.le (dq N M j w') ρ'.M)->e8 N M j w' c ys r ->
   (uh id c ys=[]/\eM ρ' (iV id c ys) r) \/
   (∃ q,q≠[]/\uh id c ys=[(id,q)]/\(eM ρ' (iV id c ys) r\/∃ b n l,j=some b/\N<=b/\b6 w' b n l/\ax ρ' q l/\(ρ' id=some b->ρ'.n id=n->eM ρ' (iV id c ys) r))):=by
 intro c;induction c with
 | nil=>intro ys r _ _ h;exact .inl ⟨rfl,h⟩
 | cons o c T =>
  intro ys r A hp h;obtain⟨v,d,e,C,D⟩:=h;cases o with
  | val s =>
   have i:eT c=true\/Mem.le (dq N M j w') ρ'.M:=by rcases hp with hp|hp;simp[eT] at hp;exact .inl hp.2;exact .inr hp
   have g:fo s=true\/Mem.le (dq N M j w') ρ'.M:=by rcases hp with hp|hp;simp[eT] at hp;exact .inl hp.1;exact .inr hp
   have k:=CL (id:=id) (Au (fun l F=>t s _ l F g) C);rcases T (ys:=ys.2) A i D with ⟨w,m⟩|⟨q,O,w,m|⟨b,n,l,U,V,W,X,Y⟩⟩;exact .inl ⟨w,v,d,e,k,m⟩;exact .inr ⟨q,O,w,.inl ⟨v,d,e,k,m⟩⟩;exact .inr ⟨q,O,w,.inr ⟨b,n,l,U,V,W,X,fun u G=>⟨v,d,e,k,Y u G⟩⟩⟩
  | own z =>
   have i:eT c=true\/Mem.le (dq N M j w') ρ'.M:=by rcases hp with hp|hp;simp[eT] at hp;exact .inl hp.2;exact .inr hp
   have g:fo z=true\/Mem.le (dq N M j w') ρ'.M:=by rcases hp with hp|hp;simp[eT] at hp;exact .inl hp.1;exact .inr hp
   have L:dz c=0:=by simp[dz] at A;omega
   obtain⟨_,m⟩:=L0 (id:=id) t (ys:=ys.2) L i D;refine .inr ⟨_,au,rfl,?_⟩;rcases C with ⟨K,k⟩|⟨b,o,y,n,l,p,E,k,Q,R,G,f,I⟩;refine .inl ⟨v,d,e,.inl ⟨?_,by rw[k]⟩,m⟩;have K:(ys.1:List (aA z))=[]:=K;rw[K];rfl;refine .inr ⟨b,n,l,p,E,f,bJ (fR rfl (eg (fun x l F=>t z x l F g) I)),fun u H=>⟨v,d,e,.inr ⟨b,o,y,u,Q,by simpa using R,by rw[H];exact G,by rw[k]⟩,m⟩⟩
  | box s =>
   have i:eT c=true\/Mem.le (dq N M j w') ρ'.M:=by rcases hp with hp|hp;simp[eT] at hp;exact .inl hp.2;exact .inr hp
   have g:fo s=true\/Mem.le (dq N M j w') ρ'.M:=by rcases hp with hp|hp;simp[eT] at hp;exact .inl hp.1;exact .inr hp
   have L:dz c=0:=by simp[dz] at A;omega
   obtain⟨_,m⟩:=L0 (id:=id) t (ys:=ys.2) L i D;obtain⟨b,n,l,p,E,k,f,I⟩:=C;exact .inr ⟨_,P9 s ys.1,rfl,.inr ⟨b,n,l,p,E,f,jk (t s ys.1 l I g),fun u _=>⟨v,d,e,⟨b,u,by rw[k]⟩,m⟩⟩⟩
theorem xe {B:bA} {b:List cQ} {ids:List Nat} {p:Nat × List Cell} (h:p∈pv B b ids):p.2=[]/\p.1∈ids/\∃ d,B p.1=some d/\d≠[]:=by unfold pv at h;split at h;cases h;obtain⟨i,g,rfl⟩:=mem_map.1 h;obtain⟨f,e⟩:=List.mem_filter.1 g;refine⟨rfl,f,?_⟩;unfold isLive at e;split at e;rename_i c d j;exact⟨_,j,au⟩;cases e
theorem Qs {f:FuncId} {O:List Kd} {tl:List Value} {j:List cQ} {G:gi} {pre:HL O->Prop} {F:HL O->HO j} (h:XL P f O tl j G pre F) (h1:dz j<=1) {w0:cw} {id:Nat} {args:List SV} {B:bA} {out:Out}
  (hF:aH O j pre F w0 id args B=some out) (hp:∀ p∈out.pre,p) (hG:∀ g s,G g=some s->w0.gl g=some s) {ρ:ay} {us:List Value} {w:World} (hv:bn ρ args us) (Q:Ctx w0 id ρ B w) :
  nG P f ⟨us++tl⟩ w fun v w'=>∃ ρ',out.val.rel ρ' v/\Eff id B out ρ ρ' w w':=by
 classical
 unfold aH at hF;split at hF
 ·rename_i xs ps z4;simp only[az] at hF;subst hF
  -- y4 z6 y6 u0 u1
  let own:Nat->Prop:=fun b=>∃ i A,i∈gB B args/\B i=some A/\A≠[]/\ρ i=some b;let C:Mem:=fun b=>if own b then b8 w b else ρ.M b;have x3:∀ b l,C b=some l->b8 w b=some l:=by intro b l k;simp only[C] at k;split at k;exact k;obtain⟨W,fr,Y⟩:=Q.mem b l k;exact jX Y
  have K:Mem.le ρ.M C:=by intro b l k;simp only[C];split;obtain⟨W,fr,Y⟩:=Q.mem b l k;exact jX Y;exact k
  have x1:Sees (lL (gB B args) B) ρ C:=by
   refine⟨K,fun i A b u x7 k=>?_⟩;have x6:i∈gB B args:=by unfold lL at u;split at u;rename_i hm;exact vK hm;cases u
   have x2:=nB u;obtain⟨l,⟨y3,W,fr,V,k2,_⟩,k3⟩:=Q.blks i A x2 x7 b k;refine⟨l,y3,k3,fun hn=>?_,k2⟩;simp only[C];rw[aj ⟨i,A,x6,x2,x7,k⟩];exact kB V hn
  have x4:=IK x1 z4 (fun p d=>hp p (by simp[d])) hv;have y7:rk G C:=fun g e x hg=>kg K (Q.glob g e x (hG g _ hg));refine (h w C us xs x3 y7 x4 (hp _ au)).mono ?_;rintro v w' ⟨vs,ob,rfl,U,o⟩
  -- y4 is z5 y5 z6 z7
  let Mx:Mem:=if eT j=true then ρ.M else C;let t:ay:=⟨ρ.m,ρ.n,fun b=>if ob=some b/\w.heap.size<=b then none else if w.heap.size<=b then b8 w' b else Mx b⟩;have z2:∀ b l,ρ.M b=some l->b<w.heap.size:=by intro b l k;obtain⟨W,fr,Y⟩:=Q.mem b l k;exact sR (jX Y)
  have z3:Mem.le ρ.M Mx:=by intro b l k;simp only[Mx];split;exact k;exact K b l k
  have R:Mem.le ρ.M t.M:=by intro b l k;have:=z2 b l k;simp only[t];rw[ah (fun h=>aa),ah aa];exact z3 b l k
  have T:eT j=true\/Mem.le (dq w.heap.size C ob w') t.M:=by by_cases N:eT j=true;exact .inl N;refine .inr fun b l k=>?_;simp only[dq] at k;simp only[t];split at k;cases k;rename_i x0;rw[ah (fun h=>x0 h.1)];split at k;rename_i X;rw[aj X];exact k;rename_i X;rw[ah X];simp only[Mx,N];exact k
  have conv:∀ (ρ':ay),ρ'.M=t.M->∀ (e:Kd) (x:aA e) l,Rd (dq w.heap.size C ob w') e x l->(fo e=true\/Mem.le (dq w.heap.size C ob w') ρ'.M)->Rd ρ'.M e x l:=by intro ρ' _ e x l hr hor;rcases hor with hor|hor;exact Kk hor hr;exact c9 hor hr
  have H:∀ (ρ':ay) (new:List (Nat × List Cell)),ρ'.M=t.M->(∀ p∈new,∀ b,ρ' p.1=some b->ob=some b/\w.heap.size<=b)->∀ b l,ρ'.M b=some l->ρ.M b=some l\/((∀ p∈new,ρ' p.1≠some b)/\(w.heap.size<=b\/∃ q∈pv B j (gB B args),ρ q.1=some b/\q.2=[])/\∃ W fr,w'.heap[b]?=some (nA l W fr)):=by
   intro ρ' new y1 y b l k;rw[y1] at k;simp only[t] at k;split at k;cases k
   ·rename_i x0;split at k;rename_i X;exact .inr ⟨fun p d e=>x0 (y p d b e),.inl X,iJ k⟩
    ·rename_i X;simp only[Mx] at k;split at k;exact .inl k
     ·rename_i N;have hm:=x3 b l k;obtain⟨W,fr,Y⟩:=iJ hm;simp only[C] at k;split at k
      ·rename_i x8;obtain⟨i,A,y8,y9,z0,z1⟩:=x8;refine .inr ⟨fun p d e=>X (y p d b e).2,.inr ⟨(i,[]),?_,z1,rfl⟩,W,fr,by rw[o.block b aa];exact Y⟩;unfold pv;have:eT j=false:=by simpa using N
       rw[this];refine mem_map.2 ⟨i,List.mem_filter.2 ⟨y8,?_⟩,rfl⟩;unfold isLive;rw[y9];cases A with
       | nil=>exact absurd rfl z0
       | cons c A=>rfl
      exact .inl k
  have x9:∀ (ρ':ay) (p:Nat × List Cell),p∈pv B j (gB B args)->(∃ A,B p.1=some A/\A≠[])/\∀ b,ρ p.1=some b->p.2≠[]->∃ l,b6 w' b (ρ.n p.1) l/\ax ρ' p.2 l:=by intro ρ' p d;obtain⟨V,k2,k3⟩:=xe d;exact⟨k3,fun _ _ h=>absurd V h⟩
  have y0:∀ p∈pv B j (gB B args),∀ q∈pv B j (gB B args),p.1=q.1->p=q:=by intro p d q I e;exact gu e ((xe d).1.trans (xe I).1.symm)
  have E:=Q.free id (aE _) aa
  -- y2 in a block of z9 own
  have L:∀ (new:List (Nat × List Cell)),(∀ p∈new,p.1=id)->eM t (iV id j (F xs)) vs->∃ ρ',(xZ (iV id j (F xs))).rel ρ' (mM vs)/\Eff id B { val:=xZ (iV id j (F xs)),new:=new,wr:=pv B j (gB B args),pre:=ps++[pre xs] } ρ ρ' w w':=by
   intro new y ht;have z:∀ p∈new,t p.1=none:=fun p d=>by rw[y p d];exact E
   refine⟨t,DA ht,⟨⟨fun _ _ h=>⟨h,rfl⟩,R⟩,fun _ _ h=>.inl h,fun i b u=>fe (Q.bound i b u) o.size,o.os,o.tape,o.output,o.size,fun b k _=>o.block b k,?_,?_,y0,x9 t,H t new rfl (fun p d b k=>by rw[z p d] at k;cases k)⟩⟩;intro p d;have:=y p d;exact⟨aa,aa,fun b k=>by rw[z p d] at k;cases k⟩;intro p d q I b k;rw[z p d] at k;cases k
  rcases zS (ρ':=t) (id:=id) (conv t rfl) h1 T U with ⟨V,k2⟩|⟨A,k0,V,k2|⟨b,n,l,k3,k4,k5,k6,k7⟩⟩;rw[V];exact L [] (fun _ h=>nomatch h) k2;rw[V];exact L [(id,A)] (fun p d=>by simp at d;rw[d]) k2
  ·rw[V];let r:ay:=⟨fun i=>if i=id then some b else ρ i,fun i=>if i=id then n else ρ.n i,t.M⟩;have x5:ay.le ρ r:=by
    refine⟨fun i c u=>?_,R⟩;by_cases e:i=id;subst e;rw[E] at u;cases u;simp[r,e,u]
   have Z:ay.le t r:=⟨fun i c u=>x5.id i c u,Mem.le_refl _⟩;have ht:eM r (iV id j (F xs)) vs:=by
    rcases zS (ρ':=r) (id:=id) (conv r rfl) h1 T U with ⟨_,j2⟩|⟨z8,_,_,j2|⟨b',n',l',j3,j4,j5,j6,j7⟩⟩;exact j2;exact j2
    ·have e:b'=b:=by rw[k3] at j3;simpa using j3.symm
     subst e;have en:=k5.size_eq j5;subst en;exact j7 (by simp[r]) (by simp[r])
   refine⟨r,DA ht,⟨x5,?_,?_,o.os,o.tape,o.output,o.size,fun b k _=>o.block b k,?_,?_,y0,x9 r,H r _ rfl ?_⟩⟩;intro i b' u;by_cases e:i=id;simp[r,e] at u;subst u;exact .inr ⟨aa,aa,⟨(id,A),au,by simp[e]⟩,.inl k4⟩;simp[r,e] at u;exact .inl u;intro i b' u;by_cases e:i=id;simp[r,e] at u;subst u;exact k5.lt;simp[r,e] at u;exact fe (Q.bound i b' u) o.size;intro p d;simp at d;subst d;refine⟨aE _,by show id<id+8;omega,fun b' D _=>?_⟩;simp[r] at D;subst D;exact⟨.inl k4,l,by simp[r];exact k5,dW Z k6⟩;intro p d q I _ _ _;simp at d I;rw[d,I];intro p d b' D;simp at d;subst d;simp[r] at D;subst D;exact⟨k3,k4⟩
 simp at hF
theorem FP {f:FuncId} {c:List Kd} {b:List cQ} {G:gi} {pre:HL c->Prop} {F:HL c->HO b} (h:aL P f c b G pre F) (i:dz b<=1) {w0:cw} {id:Nat} {args:List SV} {B:bA} {out:Out}
  (j:aH c b pre F w0 id args B=some out) (m:∀ p∈out.pre,p) (k:∀ g s,G g=some s->w0.gl g=some s) {ρ:ay} {e:List Value} {w:World} (o:bn ρ args e) (l:Ctx w0 id ρ B w) :
  nG P f ⟨e⟩ w fun v w'=>∃ d,out.val.rel d v/\Eff id B out ρ d w w':=by
 have:=Qs h.toT i j m k o l
 rwa [bq] at this
def qO (g:FuncId):Value:=.func (.func g) #[] #[]
theorem aM {f:FuncId} {d:List Kd} {b:List cQ} {pre:HL d->Prop} {F:HL d->HO b} (h:aL P f d b bx pre F) (e:dz b<=1:=by decide):nI P f (aH d b pre F):=by intro w0 id args B out i l ρ us w o j;exact FP h e i l (fun g s k=>by simp[bx] at k) o j
theorem fgk {f:FuncId} {e:List Kd} {b:List cQ} {G:gi} {pre:HL e->Prop} {F:HL e->HO b} (h:aL P f e b G pre F) (m:dz b<=1:=by decide):nI P f (CX G e b pre F):=by intro w0 id args B out g l ρ t w s q;unfold CX at g;split at g;rename_i o r;simp at g;subst g;have:=FP h m r (fun p i=>l p (by simp[i])) (l _ au) s q;refine this.mono fun v w' ⟨k,j,d⟩=>⟨k,j,?_⟩;exact⟨d.le,d.dom,d.bound,d.os,d.tape,d.output,d.size,d.same,d.new,d.newinj,d.wruniq,d.wr,d.mem⟩;simp at g
def enters (P:Program) (f:FuncId) (fn:Func):Prop:=P.funcs[f]?=some fn/\∀ b w,(callFunc f b).run P w=.ok (.enter f b) w
theorem Sw {f : FuncId} {fn : Func} (h : P.funcs[f]? = some fn) (c : (fn.name == "runtime.NumGoroutine") = false) (b : fn.body.isNone = false) : enters P f fn := by refine⟨h,fun d w=>?_⟩;unfold callFunc;simp only[Sem.run_bind,run_program,Result.andThen_ok,h,c,b];rfl
theorem ek {f : FuncId} {fn : Func} (h : P.funcs[f]? = some fn := by kernel_rfl) (c : (fn.name == "runtime.NumGoroutine") = false := by kernel_rfl) (b : fn.body.isNone = false := by kernel_rfl) : enters P f fn := Sw h c b
def afn:(b:Kd)->aA b->TV:=fun b x=>Gq 0 (.val b) x
def mA:(b:List Kd)->HL b->List SV
 | [],_=>[]
 | κ::b,x=>.is (afn κ x.1)::mA b x.2
theorem ry {ρ:ay}:∀ {b:List Kd} {d:HL b} {c:List Value},uc ρ.M b d c->bn ρ (mA b d) c:=by
 intro b;induction b with
 | nil=>intro d c h;exact h
 | cons k b j=>intro d c ⟨u,f,e,g,i⟩;exact⟨u,f,e,CL g,j i⟩
theorem uN:∀ {b:List Kd} {c:HL b},(mA b c).length=b.length:=by
 intro b;induction b with
 | nil=>intro c;rfl
 | cons e b d=>intro c;simp[mA,d]
theorem PZ {M:Mem}:∀ {e:Kd} {x:aA e} {d:List Value},Rd M e x d->wo e x:=by
 intro e;have z:∀ (e:Kd),(∀ {x:aA e} {d:List Value},Rd M e x d->wo e x)->∀ (p:List (aA e)) (d:List Value),dY (Rd M e) p d->∀ x∈p,wo e x:=by
  intro e j p;induction p with
  | nil=>intro d _ x hx;cases hx
  | cons y G u =>intro d ⟨F,C,_,m,i⟩ x hx;rcases mem_cons.1 hx with rfl|hx;exact j m;exact u C i x hx
 induction e with
 | pair a b q r=>intro x d ⟨F,C,e,m,i⟩;exact⟨q m,r i⟩
 | arr n e j=>intro x d ⟨m,i⟩;exact⟨m,z e j x d i⟩
 | sl e j =>intro x d h;rcases h with ⟨h,_⟩|⟨b,o,cap,_,_,l,_,_,D⟩;intro y A;have h:(x:List (aA e))=[]:=h;rw[h] at A;cases A;exact z e j x _ D
 | int k=>intro x d _;trivial
 | bool=>intro x d _;trivial
 | str=>intro x d _;trivial
 | fp=>intro x d _;trivial
 | fr=>intro x d _;trivial
 | ptr e j=>intro x d ⟨b,o,_,l,_,_,h⟩;exact j (nU (R:=Rd M e) h)
 | fn f=>intro x d _;trivial
 | cap c e s t=>intro x d ⟨g,w,b,o,_,i,l,_,_,h⟩;exact⟨s i,t (nU (R:=Rd M e) h)⟩
 | pq=>intro x d _;trivial
 | mp=>intro x d _;trivial
theorem xb {M:Mem}:∀ {b:List Kd} {d:HL b} {f:List Value},uc M b d f->G9 b d:=by
 intro b;induction b with
 | nil=>intro d f _;trivial
 | cons k b i =>intro d f ⟨u,j,e,c,g⟩;refine⟨?_,i g⟩;unfold qc at c;split at c;obtain⟨l,_,h⟩:=c;exact PZ h;exact PZ c
def Ac (lG:Bool) (B:bA):(o:cQ)->TV->Option (aA o.kd × List Prop)
 | .val f,x=>MU (match lG with|true=>oY|false=>B) f (.is x)
 | .own e,x=>match x with
  | .one (.sl id 0 0 len c)=>match B id with
   | some (d::b)=>match uV e (d::b) 0 0 len c with
    | some (g,p)=>some (g,p)
    | none=>uU (fz oY e) (width e) (d::b) 0 0 len c
   | _=>none
  | .one (.v (.slice none 0 0))=>some ([],[])
  | _=>none
 | .box f,x=>match x with
  | .one (.ptr id 0)=>match B id with
   | some (d::b)=>match fz oY f (d::b) with
    | some (y,p,[])=>some (y,p)
    | _=>none
   | _=>none
  | _=>none
def iS (lG:Bool) (B:bA):(b:List cQ)->List TV->Option (HO b × List Prop)
 | [],[]=>some ((),[])
 | o::b,x::d=>match Ac lG B o x with
  | some (y,p)=>match iS lG B b d with
   | some (ys,c)=>some ((y,ys),p++c)
   | none=>none
  | none=>none
 | _,_=>none
def GY:SV->List TV
 | .is x=>[x]
 | .tup l=>l
 | _=>[]
def CE:SV->Bool
 | .is _=>true
 | .tup []=>true
 | .tup (_::_::_)=>true
 | _=>false
def lG (b:List cQ):Bool:=match dz b with
 | 0=>false
 | _=>true
def post (b:List cQ) (e:HO b) (c:SV) (σ:St):Prop :=
 match CE c,iS (lG b) σ.B b (GY c) with
 | true,some (f,d)=>El d (f=e)
 | _,_=>False
theorem Uw {ρ:ay} {d:SV} {v:Value} (f:d.rel ρ v) (j:CE d=true):∃ c,eM ρ (GY d) c/\v=mM c:=by
 match d,j with
 | .is x,_=>exact⟨[v],⟨v,[],rfl,f,rfl⟩,rfl⟩
 | .tup [],_ =>obtain⟨c,e,h⟩:=f;have i:c=[]:=h;subst i;exact⟨[],rfl,e⟩
 | .tup (x::y::l),_ =>obtain⟨c,e,h⟩:=f;refine⟨c,h,?_⟩;obtain⟨a,g,rfl,_,b,k,rfl,_⟩:=h;exact e
variable {w0:cw} {n:Nat} {σ:St} {ρ:ay} {a:Act} {w':World}
theorem Ab {M:Mem} (e:cN w0 n σ.S σ.B ρ a w') (j:w0.ids=[]) (g:w0.M=M) {f:Option Nat} (d:∀ b,f=some b->∀ l,ρ.M b≠some l):Mem.le ρ.M (dq w0.w.heap.size M f w'):=by intro b l c;unfold dq;rw[ah (fun h=>d b h l c)];obtain⟨_,m,fr,i⟩:=e.mem b l c;split;exact jX i;rename_i k;rcases e.old b l c aa with h|h;simp[cw.own,j] at h;rw[<- g];exact h
theorem WR {M:Mem} (e:cN w0 n σ.S σ.B ρ a w') (g:w0.ids=[]) (m:w0.M=M):Sees σ.B ρ (dq w0.w.heap.size M none w'):=by refine⟨Ab e g m (fun b h=>(nomatch h)),fun i j b k d f=>?_⟩;obtain⟨l,⟨c,t,fr,p,r,_⟩,s⟩:=e.blks i j k d b f;refine⟨l,c,s,fun o=>?_,r⟩;unfold dq;rw[ah (fun h=>nomatch h)];rcases (e.bound i b f).1 with h|h;rw[aj h];exact kB p o;simp[cw.own,g] at h
theorem Cw {M:Mem} {s:Option Nat} {B:bA} (A:Sees B ρ (dq w0.w.heap.size M s w')) {l:Bool} (z:(match l with|true=>oY|false=>σ.B)=B) :
  ∀ {c:List cQ} {d:List TV} {ys:HO c} {f:List Prop} {g:List Value},dz c=0->iS l σ.B c d=some (ys,f)->(∀ p∈f,p)->eM ρ d g->e8 w0.w.heap.size M s w' c ys g:=by
 intro c;induction c with
 | nil=>intro d ys f g _ h _ j;cases d with
  | nil=>exact j
  | cons _ _=>simp[iS] at h
 | cons o c D=>intro d ys f g i h m j;cases d with
  | nil=>simp[iS] at h
  | cons x d =>
   cases o with
   | own e=>simp[dz] at i
   | box e=>simp[dz] at i
   | val G =>simp only[iS] at h;split at h;rename_i y p r;split at h;rename_i F E C;simp only[az,aI] at h;obtain⟨rfl,rfl⟩:=h;obtain⟨v,k,e,t,u⟩:=j;simp only[Ac,z] at r;exact⟨v,k,e,wm A r (fun p b=>m p (gS _ b)) t,D i C (fun p b=>m p (ij _ b)) u⟩;simp at h;simp at h
theorem WT {e:Kd} {A:Bool} {x:TV} {y:List (aA e)} {u:List Prop} {v:Value} (C:cN w0 n σ.S σ.B ρ a w') (h:Ac A σ.B (.own e) x=some (y,u)) (E:∀ p∈u,p) (F:x.rel ρ v) :
  (y=[]/\v=.slice none 0 0)\/∃ b o f n l,(∀ l,ρ.M b≠some l)/\w0.aY b/\v=.slice (some ⟨b,o,none⟩) y.length f/\y.length<=f/\(o=0\/f=0)/\o+f*width e<=n/\b6 w' b n l/\dY (Rd ρ.M e) y l:=by
 simp only[Ac] at h;split at h
 ·rename_i id len c;split at h
  ·rename_i d H D;have t:∀ {y:List (aA e)},(∀ l,ax ρ (d::H) l->y.length=len/\c=width e/\0+0*c+len*c<=l.length/\dY (Rd ρ.M e) y ((l.drop (0+0*c)).take (len*c)))->(len=0->y=[]) ->
     (y=[]/\v=.slice none 0 0)\/∃ b o f n l,(∀ l,ρ.M b≠some l)/\w0.aY b/\v=.slice (some ⟨b,o,none⟩) y.length f/\y.length<=f/\(o=0\/f=0)/\o+f*width e<=n/\b6 w' b n l/\dY (Rd ρ.M e) y l:=by
    intro y L I;rcases nR F with ⟨i,ev⟩|⟨b,o,f,w,i,A,K,ev⟩;exact .inl ⟨I i,ev⟩;obtain⟨l,k,z⟩:=C.blks _ _ D au b w;obtain⟨N,O,Q,T⟩:=L l z;subst N O;refine .inr ⟨b,o,f,_,_,fun l m=>(C.mem b l m).1 _ _ D au w,(C.bound _ _ w).1,ev,i,by simpa using A,K,?_,T⟩;simp only[jq,bH,gT] at Q ⊢;have j:=k;rw[<- dR (y.length*width e) l] at j;exact j.pre
   split at h;rename_i U p g;simp only[az,aI] at h;obtain⟨rfl,rfl⟩:=h;refine t (fun l i=>xu g E i) (fun m=>?_);subst m;unfold uV at g;split at g;split at g;simp only[az,aI] at g;rw[<- g.1];simp;simp at g;simp at g;refine t (fun l i=>xt (R:=Rd ρ.M e) (fun _ _=>bV) (fun G x u r l=>iy (l9 ρ) e G x u r l) h E i) (fun m=>?_);subst m;unfold uU at h;split at h;split at h;rename_i s;simp only[pN,az,aI] at h s;rw[<- h.1,<- s.1];simp at h;simp at h
  simp at h
 simp only[az,aI] at h;obtain⟨rfl,rfl⟩:=h;exact .inl ⟨rfl,b9 (ρ:=ρ) F⟩;simp at h
theorem Mk {S:cD} {B:bA} {j:Kd} {w:Bool} {x:TV} {y:aA j} {s:List Prop} {v:Value} (r:cN w0 n S B ρ a w') (h:Ac w B (.box j) x=some (y,s)) (A:∀ p∈s,p) (D:x.rel ρ v) :
  ∃ i k b m l,B i=some k/\k≠[]/\ρ i=some b/\(∀ l,ρ.M b≠some l)/\v=.pointer (some ⟨b,0,none⟩)/\b6 w' b m l/\Rd ρ.M j y l:=by
 simp only[Ac] at h;split at h;rename_i id;split at h;rename_i d G e;split at h;rename_i z q C;simp only[az,aI] at h;obtain⟨rfl,rfl⟩:=h;obtain⟨b,f,ev⟩:=D;obtain⟨l,c,t⟩:=r.blks _ _ e au b f;obtain⟨H,F,o,E,g⟩:=iy (l9 ρ) _ _ _ _ _ _ C A t;have g:F=[]:=g;subst g;rw[bq] at o;subst o;exact⟨id,_,b,_,l,e,au,f,fun l u=>(r.mem b l u).1 _ _ e au f,by simpa using ev,c,E⟩;simp at h;simp at h;simp at h
theorem TT {M:Mem} (C:cN w0 n σ.S σ.B ρ a w') (F:w0.ids=[]) (K:w0.M=M) {U:Bool} :
  ∀ {f:List cQ} {s:List TV} {ys:HO f} {t:List Prop} {u:List Value},dz f<=1->(U=false->dz f=0)->iS U σ.B f s=some (ys,t)->(∀ p∈t,p)->eM ρ s u->∃ r,(∀ b,r=some b->∀ l,ρ.M b≠some l)/\e8 w0.w.heap.size M r w' f ys u:=by
 intro f s ys t u H T h I G;cases U with
 | false=>exact⟨none,(fun b h=>(nomatch h)),Cw (WR C F K) rfl (T rfl) h I G⟩
 | true =>
  -- x0 x2 block
  have main:∀ {f:List cQ} {s:List TV} {ys:HO f} {t:List Prop} {u:List Value},dz f<=1->iS true σ.B f s=some (ys,t)->(∀ p∈t,p)->eM ρ s u ->
    ∃ r,(∀ b,r=some b->∀ l,ρ.M b≠some l)/\(∀ c,(∀ b,c=some b->∀ l,ρ.M b≠some l)->(r=none\/c=r)->e8 w0.w.heap.size M c w' f ys u):=by
   intro f;induction f with
   | nil=>intro s ys t u _ h _ G;cases s with
    | nil=>exact⟨none,(fun b h=>(nomatch h)),fun _ _ _=>G⟩
    | cons _ _=>simp[iS] at h
   | cons o f ih=>intro s ys t u H h I G;cases s with
    | nil=>simp[iS] at h
    | cons x s =>
     simp only[iS] at h;split at h
     ·rename_i y p W;split at h
      ·rename_i zs qs X;simp only[az,aI] at h;obtain⟨rfl,rfl⟩:=h;obtain⟨v,j,e,Y,Z⟩:=G;have z:∀ q∈p,q:=fun q V=>I q (gS _ V);have A:∀ q∈qs,q:=fun q V=>I q (ij _ V);have D:∀ c,(∀ b,c=some b->∀ l,ρ.M b≠some l)->Sees oY ρ (dq w0.w.heap.size M c w'):=fun c d=>⟨Ab C F K d,fun _ _ _ h=>by simp[oY] at h⟩;cases o with
       | val κ =>obtain⟨r,g1,g2⟩:=ih (ys:=zs) H X A Z;refine⟨r,g1,fun c d hor=>⟨v,j,e,?_,g2 c d hor⟩⟩;exact wm (D c d) W z Y
       | own e0 =>
        have E:dz f=0:=by simp[dz] at H;omega
        have g:∀ c,(∀ b,c=some b->∀ l,ρ.M b≠some l)->e8 w0.w.heap.size M c w' f zs j:=fun c d=>Cw (D c d) rfl E X A Z;rcases WT C W z Y with ⟨g1,g2⟩|⟨b,o,L,nn,l,g1,g2,N,g4,g5,g6,O,Q⟩;exact⟨none,(fun b h=>(nomatch h)),fun c d _=>⟨v,j,e,.inl ⟨g1,g2⟩,g c d⟩⟩
        ·have R:w0.w.heap.size<=b:=by
          rcases g2 with h|h;exact h;simp[cw.own,F] at h
         refine⟨some b,fun b' k=>by simp at k;subst k;exact g1,fun c d hor=>⟨v,j,e,?_,g c d⟩⟩;rcases hor with hor|hor;cases hor;refine .inr ⟨b,o,L,nn,l,hor,R,N,g4,g5,g6,O,eg (fun _ _=>c9 (Ab C F K d)) Q⟩
       | box κ =>
        have E:dz f=0:=by simp[dz] at H;omega
        have g:∀ c,(∀ b,c=some b->∀ l,ρ.M b≠some l)->e8 w0.w.heap.size M c w' f zs j:=fun c d=>Cw (D c d) rfl E X A Z;obtain⟨i,cs,b,m,l,hB,x1,hb,g1,N,O,Q⟩:=Mk C W z Y;have R:w0.w.heap.size<=b:=by rcases (C.bound _ _ hb).1 with h|h;exact h;simp[cw.own,F] at h
        refine⟨some b,fun b' k=>by simp at k;subst k;exact g1,fun c d hor=>⟨v,j,e,?_,g c d⟩⟩;rcases hor with hor|hor;cases hor;exact⟨b,m,l,hor,R,N,O,c9 (Ab C F K d) Q⟩
      simp at h
     simp at h
  obtain⟨r,g1,g2⟩:=main H h I G;exact⟨r,g1,g2 r g1 (.inr rfl)⟩
theorem ER {M:Mem} {b:List cQ} {i:HO b} {g:SV} {v:Value} (p:cN w0 n σ.S σ.B ρ a w') (m:w0.ids=[]) (k:w0.M=M) (j:dz b<=1) (h:post b i g σ) (r:g.rel ρ v) :
  ∃ c f,v=mM c/\e8 w0.w.heap.size M f w' b i c:=by
 unfold post at h;split at h;·rename_i u t l s;obtain⟨d,rfl⟩:=vu h;obtain⟨c,q,e⟩:=Uw r l;obtain⟨f,_,o⟩:=TT p m k j (fun h=>by unfold lG at h;split at h<;>simp_all) s d q;exact⟨c,f,e,o⟩
 exact h.elim
end
section
variable {P:Program}
theorem E9 {G:gi} {w:World} {M:Mem} (g:Mem.le M (b8 w)) (f:rk G M):Start ⟨w,[],G,M,fun p=>cW w p.2,0⟩ [] 0 (ay.start M) :=
 ⟨fun id d h=>by simp[cR] at h,fun id j d e b h=>by simp[cR] at h,fun _ _ h=>by simp[ay.start] at h,fun _ h=>by simp at h,fun _ _ h=>by simp[ay.start] at h,
  fun b l c=>⟨fun i d h=>by simp[cR] at h,iJ (g b l c)⟩,fun b l c _=>.inr c,f,fun _ h=>by simp at h,Mem.le_refl _⟩
theorem a8 {sp:FuncId->Option Spec} (i:aD P sp) (r:P.follows .mixedOrders=true) {f:FuncId} {fn:Func} (j:enters P f fn) {b:List Kd} {c:List cQ} {G:gi} {pre:HL b->Prop} {F:HL b->HO c}
  (s:b.length<=fn.ntmps) (l:dz c<=1)
  (h:∀ (w:World) (M:Mem) (d:HL b),G9 b d->pre d->RP ⟨P,sp,⟨w,[],G,M,fun p=>cW w p.2,0⟩⟩ fn (mA b d) [] 0 (post c (F d))):aL P f b c G pre F:=by
 intro w M us d q o g u;refine .inl ⟨j.2 _ _,?_⟩;refine (VQ (E:=⟨P,sp,⟨w,[],G,M,fun p=>cW w p.2,0⟩⟩) i r j.1 (E9 q o) (ry (ρ:=ay.start M) g) (by rw[uN];exact s) (h w M d (xb g) u)).mono ?_;rintro e w' ⟨v,A,σ,ρ,n,a,rfl,y,x,k⟩;obtain⟨vs,z,e,t⟩:=ER k rfl rfl l x y;exact⟨v,rfl,vs,z,e,t,k.below.below rfl⟩
theorem bI {sp:FuncId->Option Spec} {f:FuncId} {fn:Func} (j:enters P f fn) {b:List Kd} {d:List cQ} {G:gi} {pre:HL b->Prop} {F:HL b->HO d}
  (q:b.length<=fn.ntmps) (l:dz d<=1) (g:fn.body.isSome=true)
  (h:∀ (w:World) (M:Mem) (xs:HL b),G9 b xs->pre xs->AU ⟨P,sp,⟨w,[],G,M,fun p=>cW w p.2,0⟩⟩ fn (mA b xs) [] 0 (post d (F xs))):aL P f b d G pre F:=by
 intro w M C xs o m i s;refine .inl ⟨j.2 _ _,?_⟩;refine (BS (E:=⟨P,sp,⟨w,[],G,M,fun p=>cW w p.2,0⟩⟩) j.1 g (E9 o m) (ry (ρ:=ay.start M) i) (by rw[uN];exact q) (h w M xs (xb i) s)).mono ?_;rintro e w' ⟨v,A,σ,ρ,n,a,rfl,x,u,k⟩;obtain⟨z,y,e,r⟩:=ER k rfl rfl l u x;exact⟨v,rfl,z,y,e,r,k.below.below rfl⟩
end
def aP:List (Nat × Spec)->FuncId->Option Spec
 | [],_=>none
 | (g,F)::l,f=>match beq g f with
  | true=>some F
  | false=>aP l f
theorem bp {P:Program}:aD P (aP []):=by intro f F h;simp[aP] at h
theorem aJ {P:Program} {g:Nat} {F:Spec} {l:List (Nat × Spec)} (h:nI P g F) (e:aD P (aP l)):aD P (aP ((g,F)::l)):=by intro f G b;simp only[aP] at b;split at b;rename_i d;have:=beq_true d;subst this;simp at b;subst b;exact h;exact e f G b
theorem Tk {K g:Prop}:∀ {l m:List SV},iE l m K->(K->g)->K/\iE l m g:=by
 intro l;induction l with
 | nil=>intro m h a;cases m with
  | nil=>exact⟨h,a h⟩
  | cons y m=>simp[iE] at h
 | cons x l f=>intro m h a;cases m with
  | nil=>simp[iE] at h
  | cons y m =>
   cases y with
   | junk=>exact f (m:=m) h a
   | is t=>obtain⟨b,c⟩:=h;obtain⟨d,e⟩:=f c a;exact⟨d,b,e⟩
   | tup t=>obtain⟨b,c⟩:=h;obtain⟨d,e⟩:=f c a;exact⟨d,b,e⟩
   | undef=>obtain⟨b,c⟩:=h;obtain⟨d,e⟩:=f c a;exact⟨d,b,e⟩
theorem Wj {B:bA} {K b:Prop}:∀ {l:List (Nat × List Cell)},rG B l K->(K->b)->rG B l b:=by
 intro l;induction l with
 | nil=>intro h a;exact a h
 | cons p l c =>intro h a;obtain⟨i,d⟩:=p;simp only[rG] at h ⊢;split at h;exact⟨h.1,c h.2 a⟩;exact h.elim
theorem B6 {W:cw} {a b:St} {K K':Prop} (h:a.le W b K) (e:K->K'):K/\a.le W b K':=by unfold St.le at h ⊢;unfold F4 at h ⊢;split at h;have c:=(vI h).1;have d:=(xQ c).1;exact⟨d,(Tk h (fun g=>Wj g e)).2⟩;exact h.elim
section
variable {E:Env} {N:Nat} {n r:St->Prop} {x:Nat->St->Prop}
theorem fW (f:aD E.P E.sp) (y:E.P.follows .mixedOrders=true) {α:Type} {l:List Code} {c:Code} {o:St} (I:α->St) (G:Nat->α) (m:Nat) (d:α->α) (out:α->St)
  (w:l.head?=some c) (u:dn c=true) (p:o.le E.w0 (I (G 0)) True) (z:∀ k,k<m->d (G k)=G (k+1))
  (t:∀ k,k<=m->VC E (aZ c) (I (G k)) (fun a=>a.le E.w0 (I (d (G k))) (k<m)) r (fun i a=>match beq i (b7 c) with|true=>a.le E.w0 (out (G k)) (k=m)|false=>x i a))
  (s:Tr E N l.tail (out (G m)) n r x):Tr E N l o n r x:=by
 refine Iw (α:=Nat) (fun k=>I (G k)) (fun k=>k<=m) (fun k=>m-k) (fun k=>out (G k)) (fun k=>k=m) 0 w u (B6 p (fun _=>a2 _)).2 (fun k e=>?_) (fun k e=>by subst e;exact s);refine za (bE f y _ _ (t k e)) (fun a b=>?_) (fun i a b=>?_);obtain⟨q,g⟩:=B6 b (K':=k+1<=m/\m-(k+1)<m-k) (fun h=>⟨h,aa⟩);rw[z k q] at g;exact⟨k+1,g⟩
 ·cases j:beq i (b7 c) with
  | true=>rw[j] at b;exact⟨k,b⟩
  | false=>rw[j] at b;exact b
theorem ke {b:St} (h:n b):Tr E N [] b n r x:=fun a w _ d e _ _=>e b a w d h
theorem xA {α:Type} {l:List Code} {c:Code} {j:St} (I:α->St) (G:Nat->α) (m:Nat) (d:α->α) (out:α->St)
  (u:l.head?=some c) (t:dn c=true) (o:j.le E.w0 (I (G 0)) True) (w:∀ k,k<m->d (G k)=G (k+1))
  (s:∀ k,k<=m->Tr E N (aZ c) (I (G k)) (fun a=>a.le E.w0 (I (d (G k))) (k<m)) r (fun i a=>match beq i (b7 c) with|true=>a.le E.w0 (out (G k)) (k=m)|false=>x i a))
  (q:Tr E N l.tail (out (G m)) n r x):Tr E N l j n r x:=by
 refine Iw (α:=Nat) (fun k=>I (G k)) (fun k=>k<=m) (fun k=>m-k) (fun k=>out (G k)) (fun k=>k=m) 0 u t (B6 o (fun _=>a2 _)).2 (fun k e=>?_) (fun k e=>by subst e;exact q);refine za (s k e) (fun a b=>?_) (fun i a b=>?_);obtain⟨p,f⟩:=B6 b (K':=k+1<=m/\m-(k+1)<m-k) (fun h=>⟨h,aa⟩);rw[w k p] at f;exact⟨k+1,f⟩
 ·cases g:beq i (b7 c) with
  | true=>rw[g] at b;exact⟨k,b⟩
  | false=>rw[g] at b;exact b
end
theorem dec_lt {a b:Int} (h:decide (a<b)=true):a<b:=Odt h
theorem bW {a b:Int} (h:decide (a<b)=false):b<=a:=by have:=Odf h;omega
theorem ba {a:Int} (d : -9223372036854775808<=a) (f:a<9223372036854775808):IntKind.i64.wrap a=a:=by
 have e:IntKind.i64.wrap a=if (9223372036854775808:Int)<=a%18446744073709551616 then a%18446744073709551616-18446744073709551616 else a%18446744073709551616:=by simp[IntKind.wrap,IntKind.signed,IntKind.bits]
 rw[e];split<;>omega
theorem aS {k:Nat} (h:k<9223372036854775807):IntKind.i64.wrap ((k:Int)+1)=((k+1:Nat):Int):=by rw[ba aa aa];omega
def jN (a b i:Nat):Nat:=match beq i a with
 | true=>b
 | false=>match beq i b with
  | true=>a
  | false=>i
theorem CF (a b i:Nat):jN a b i=if i=a then b else if i=b then a else i:=by
 unfold jN;cases c:beq i a with
 | true=>rw[aj (beq_true c)]
 | false =>
  have c:i≠a:=fun e=>by subst e;simp at c
  rw[ah c];cases d:beq i b with
  | true=>rw[aj (beq_true d)]
  | false =>
   have d:i≠b:=fun e=>by subst e;simp at d
   rw[ah d]
theorem rf (a b i:Nat):jN a b (jN a b i)=i:=by simp only[CF];by_cases d:i=a;subst d;by_cases c:b=i<;>simp[c];by_cases c:i=b;subst c;simp[d];simp[d,c]
def Cell.sw (a b:Nat):Cell->Cell
 | .ptr i e=>.ptr (jN a b i) e
 | .pe i d j c=>.pe (jN a b i) d j c
 | .sl i d e len c=>.sl (jN a b i) d e len c
 | .clo f l=>.clo f (l.map (jN a b))
 | c=>c
def TV.sw (a b:Nat):TV->TV
 | .one c=>.one (c.sw a b)
 | .agg d=>.agg (d.map (Cell.sw a b))
def SV.sw (a b:Nat):SV->SV
 | .is x=>.is (x.sw a b)
 | .tup l=>.tup (l.map (TV.sw a b))
 | s=>s
def St.sw (c:St) (a b:Nat):St:=⟨c.slots.map (SV.sw a b),c.blks.map (fun p=>(jN a b p.1,p.2.map (Cell.sw a b))),c.next⟩
def St.uL (a:St):List (Nat × Nat)->St
 | []=>a
 | p::l=>(a.sw p.1 p.2).uL l
def ay.sw (c:ay) (a b:Nat):ay:=⟨fun i=>c (jN a b i),fun i=>c.n (jN a b i),c.M⟩
theorem ay.Kc (c:ay) (a b i:Nat):(c.sw a b) (jN a b i)=c i:=by simp[ay.sw,rf]
theorem ay.ajl (c:ay) (a b i:Nat):(c.sw a b).n (jN a b i)=c.n i:=by simp[ay.sw,rf]
theorem Qa {d:ay} {a b:Nat}:∀ {l:List Nat} {c:List Value},iB d l c->iB (d.sw a b) (l.map (jN a b)) c:=by
 intro l;induction l with
 | nil=>intro c h;exact h
 | cons i l j=>intro c ⟨x,k,e,f,g⟩;exact⟨x,k,by rw[ay.Kc];exact e,j f,g⟩
theorem Cell.uq {u:ay} {a b:Nat} {c:Cell} {t:List Value} (h:c.rel u t):(c.sw a b).rel (u.sw a b) t:=by
 cases c with
 | ptr i p=>obtain⟨x,d,g⟩:=h;exact⟨x,by rw[ay.Kc];exact d,g⟩
 | pe i m j c=>obtain⟨x,d,g⟩:=h;exact⟨x,by rw[ay.Kc];exact d,g⟩
 | sl i m p len c =>rcases h with h|⟨x,o,s,d,g,w,y,z⟩;exact .inl h;exact .inr ⟨x,o,s,by rw[ay.Kc];exact d,g,w,by rw[ay.ajl];exact y,z⟩
 | v x=>exact h
 | T=>exact h
 | F=>exact h
 | ints k n q=>exact h
 | row e n q=>exact h
 | ro e q=>exact h
 | rp e q i p=>exact h
 | fv e x=>exact h
 | clo f l=>obtain⟨A,d,g⟩:=h;exact⟨A,Qa d,g⟩
 | rn e q=>exact h
 | junk=>exact h
theorem vr {g:ay} {a b:Nat} {d:List Cell}:∀ {f:List Value},ax g d f->ax (g.sw a b) (d.map (Cell.sw a b)) f:=by
 induction d with
 | nil=>intro f h;exact h
 | cons c d k=>intro f ⟨l,m,e,i,j⟩;exact⟨l,m,e,Cell.uq i,k j⟩
theorem TV.uq {d:ay} {a b:Nat} {x:TV} {v:Value} (h:x.rel d v):(x.sw a b).rel (d.sw a b) v:=by
 cases x with
 | one c=>exact Cell.uq h
 | agg g=>obtain⟨l,e,f⟩:=h;exact⟨l,e,vr f⟩
theorem RM {d:ay} {a b:Nat} {l:List TV}:∀ {c:List Value},eM d l c->eM (d.sw a b) (l.map (TV.sw a b)) c:=by
 induction l with
 | nil=>intro c h;exact h
 | cons t k i=>intro c ⟨y,j,e,f,g⟩;exact⟨y,j,e,TV.uq f,i g⟩
theorem SV.uq {c:ay} {a b:Nat} {x:SV} {v:Value} (h:x.rel c v):(x.sw a b).rel (c.sw a b) v:=by
 cases x with
 | is x=>exact TV.uq h
 | tup l=>obtain⟨f,e,d⟩:=h;exact⟨f,e,RM d⟩
 | undef=>exact h
 | junk=>trivial
theorem LC (a b:Nat):∀ (l:List (Nat × List Cell)) (i:Nat),cR (l.map (fun p=>(jN a b p.1,p.2.map (Cell.sw a b)))) i=(cR l (jN a b i)).map (List.map (Cell.sw a b)):=by
 intro l;induction l with
 | nil=>intro i;rfl
 | cons p l c =>
  intro i;obtain⟨j,d⟩:=p;simp only[eI,cR];have e:beq (jN a b j) i=beq j (jN a b i):=by rw[lp];constructor;intro h;have:=beq_true h;rw[<- this,rf];exact iq _;intro h;have:=beq_true h;rw[this,rf];exact iq _
  rw[e];cases beq j (jN a b i) with
  | true=>rfl
  | false=>exact c i
def ME (W:cw) (c a b:Nat):Bool:=blt a c&&blt b c&&(ble W.top a&&ble W.top b)
theorem Holds.sw {W:cw} {n:Nat} {d:St} {I:Act} {w:World} {a b:Nat} (h:Holds W n d I w) (u:ME W d.next a b=true):Holds W n (d.sw a b) I w:=by
 obtain⟨V,H,c,U⟩:=h;simp only[ME,aQ] at u;obtain⟨⟨K,L⟩,o⟩:=u;have K:=fL K;have L:=fL L;have y:∀ i f,(d.sw a b).B i=some f->∃ g,d.B (jN a b i)=some g/\f=g.map (Cell.sw a b):=by intro i f h;have:cR (d.blks.map (fun p=>(jN a b p.1,p.2.map (Cell.sw a b)))) i=some f:=h;rw[LC] at this;obtain⟨g,k,m⟩:=Option.map_eq_some_iff.1 this;exact⟨g,k,m.symm⟩
 refine⟨by simpa[St.sw] using V,H.sw a b,⟨c.defers,c.size,?_,c.below,?_,?_,?_,?_,?_,c.old,c.glob,c.tops,c.memle⟩,?_⟩
 ·intro t;have:=SV.uq (a:=a) (b:=b) (c.slots t);have e:(d.sw a b).S t=(d.S t).sw a b:=by
   show (d.slots.map (SV.sw a b)).getD t .junk=(d.slots.getD t .junk).sw a b;rw[aX,aX,dw];cases d.slots[t]? <;> rfl
  rw[e];exact this
 intro i f C q x s;obtain⟨g,k,m⟩:=y i f C;subst m;obtain⟨l,g1,g2⟩:=c.blks _ g k (by intro e;subst e;exact q rfl) x s;exact⟨l,g1,vr g2⟩
 ·intro i j f z x k m P Q R T;obtain⟨g,F,G⟩:=y i f k;obtain⟨A,X,Y⟩:=y j z P;have:=c.inj _ _ g A x F (by intro e;subst e;subst G;exact m rfl) X (by intro e;subst e;subst Y;exact Q rfl) R T;have:=congrArg (jN a b) this
  rwa [rf,rf] at this
 intro i x s;exact c.bound _ x s
 ·intro p O;have Z:=c.tops p O;have k:p.1≠a:=fun e=>by have:=gR o.1;omega
  have m:p.1≠b:=fun e=>by have:=gR o.2;omega
  have:jN a b p.1=p.1:=by rw[CF,ah k,ah m]
  show H (jN a b p.1)=_/\H.n (jN a b p.1)=_;rw[this];exact c.init p O
 intro x l s;obtain⟨k,m⟩:=c.mem x l s;refine⟨fun i f C q D=>?_,m⟩;obtain⟨g,F,G⟩:=y i f C;exact k _ g F (by intro e;subst e;subst G;exact q rfl) D;intro i x s;have:=U _ x s;show i<d.next;rw[CF] at this;split at this;omega;split at this<;>omega
def Dy (W:cw) (a:Nat):List (Nat × Nat)->Bool
 | []=>true
 | p::l=>ME W a p.1 p.2&&Dy W a l
theorem Holds.uL {W:cw} {n:Nat} {c:Act} {w:World}:∀ {l:List (Nat × Nat)} {b:St},Holds W n b c w->Dy W b.next l=true->Holds W n (b.uL l) c w:=by
 intro l;induction l with
 | nil=>intro b h _;exact h
 | cons p l d =>intro b h a;simp only[Dy,aQ] at a;exact d (h.sw a.1) a.2
def St.sk (a:St) (W:cw) (sw:List (Nat × Nat)) (b:St) (K:Prop):Prop:=F4 (Dy W a.next sw) ((a.uL sw).le W b K)
theorem Lw {b c:St} {K:Prop} {W:cw} {sw:List (Nat × Nat)} {n:Nat} {a:Act} {w:World} (h:b.sk W sw c K) (f:Holds W n b a w):K/\Holds W n c a w:=by unfold St.sk at h;obtain⟨d,e⟩:=qm h;exact lj e (f.uL d)
theorem Yr {W:cw} {a b:St} {sw:List (Nat × Nat)} {K K':Prop} (h:a.sk W sw b K) (g:K->K'):K/\a.sk W sw b K':=by unfold St.sk at h ⊢;obtain⟨c,d⟩:=qm h;obtain⟨e,f⟩:=B6 d g;rw[c];exact⟨e,f⟩
section
variable {E:Env} {N:Nat} {n r:St->Prop} {x:Nat->St->Prop}
theorem MR {α:Type} {l:List Code} {c:Code} {R:St} (sw:List (Nat × Nat)) (I:α->St) (J:α->Prop) (q:α->Nat) (out:α->St) (H:α->Prop) (s:α)
  (D:l.head?=some c) (y:dn c=true) (T:R.le E.w0 (I s) (J s))
  (u:∀ g,J g->Tr E N (aZ c) (I g) (fun f=>∃ j,f.sk E.w0 sw (I j) (J j/\q j<q g)) r (fun i f=>match beq i (b7 c) with|true=>∃ j,f.le E.w0 (out j) (H j)|false=>x i f))
  (X:∀ g,H g->Tr E N l.tail (out g) n r x):Tr E N l R n r x:=by
 intro a w Q hh hn K L;cases l with
 | nil=>simp at D
 | cons d l =>
  simp at D;subst D;unfold dn at y;split at y
  ·rename_i id b;obtain⟨C,z⟩:=lj T hh;refine wp_block ?_;refine wp_loop_ghost (fun m a w=>∃ g,q g=m/\J g/\Holds E.w0 N (I g) a w) (q s) ⟨s,rfl,C,z⟩ ?_;rintro m a w ⟨g,rfl,hj,Z⟩;have G:=u g hj a w (Exit.then (fun o p=>∃ O,O<q g/\∃ g,q g=O/\J g/\Holds E.w0 N (I g) o p) (Exit.inBlock id (Exit.then (ku E.P l Q) Q))) Z ?_ ?_ ?_;have:=jP b [] _ a w (by simpa[aZ] using G);refine wp_mono this ?_;intro e o p Y;cases e<;>exact Y;rintro f o p h ⟨j,k⟩;obtain⟨⟨U,V⟩,W⟩:=Lw k h;exact⟨q j,V,j,rfl,U,W⟩;intro f o p h k;exact K f o p h k
   ·intro i f o p h k;show Exit.inBlock id (Exit.then (ku E.P l Q) Q) (.exit i) o p;simp only[Exit.inBlock];by_cases A:i=id;subst A;rw[aj rfl];simp only[b7,iq] at k;obtain⟨j,k⟩:=k;obtain⟨t,F⟩:=lj k h;exact X j t o p Q F hn K L
    ·rw[ah A];have:beq i id=false:=by
      cases u:beq i id with
      | false=>rfl
      | true=>exact absurd (beq_true u) A
     simp only[b7,this] at k;exact L i f o p h k
  cases y
theorem RI {α:Type} {l:List Code} {c:Code} {j:St} (sw:List (Nat × Nat)) (I:α->St) (G:Nat->α) (m:Nat) (d:α->α) (out:α->St)
  (u:l.head?=some c) (t:dn c=true) (o:j.le E.w0 (I (G 0)) True) (w:∀ k,k<m->d (G k)=G (k+1))
  (s:∀ k,k<=m->Tr E N (aZ c) (I (G k)) (fun a=>a.sk E.w0 sw (I (d (G k))) (k<m)) r (fun i a=>match beq i (b7 c) with|true=>a.le E.w0 (out (G k)) (k=m)|false=>x i a))
  (q:Tr E N l.tail (out (G m)) n r x):Tr E N l j n r x:=by
 refine MR (α:=Nat) sw (fun k=>I (G k)) (fun k=>k<=m) (fun k=>m-k) (fun k=>out (G k)) (fun k=>k=m) 0 u t (B6 o (fun _=>a2 _)).2 (fun k e=>?_) (fun k e=>by subst e;exact q);refine za (s k e) (fun a b=>?_) (fun i a b=>?_);obtain⟨p,f⟩:=Yr b (K':=k+1<=m/\m-(k+1)<m-k) (fun h=>⟨h,aa⟩);rw[w k p] at f;exact⟨k+1,f⟩
 ·cases g:beq i (b7 c) with
  | true=>rw[g] at b;exact⟨k,b⟩
  | false=>rw[g] at b;exact b
theorem UB (e:aD E.P E.sp) (s:E.P.follows .mixedOrders=true) {d:Type} {l:List Code} {c:Code} {f:St} (sw:List (Nat × Nat)) (I:d->St) (G:Nat->d) (m:Nat) (b:d->d) (out:d->St)
  (q:l.head?=some c) (o:dn c=true) (g:f.le E.w0 (I (G 0)) True) (t:∀ k,k<m->b (G k)=G (k+1))
  (j:∀ k,k<=m->VC E (aZ c) (I (G k)) (fun a=>a.sk E.w0 sw (I (b (G k))) (k<m)) r (fun i a=>match beq i (b7 c) with|true=>a.le E.w0 (out (G k)) (k=m)|false=>x i a))
  (h:Tr E N l.tail (out (G m)) n r x):Tr E N l f n r x :=
 RI sw I G m b out q o g t (fun k p=>bE e s _ _ (j k p)) h
theorem RH {α:Type} {l:List Code} {c:Code} {p:St} (sw:List (Nat × Nat)) (I:α->St) (G:Nat->α) (J:Nat->Prop) (m:Nat) (f:α->α) (out:α->St)
  (z:l.head?=some c) (w:dn c=true) (q:p.le E.w0 (I (G 0)) True) (s:J 0) (A:∀ k,k<m->J k->J (k+1)->f (G k)=G (k+1))
  (u:∀ k,k<=m->J k->Tr E N (aZ c) (I (G k)) (fun a=>a.sk E.w0 sw (I (f (G k))) (k<m/\J (k+1))) r (fun i a=>match beq i (b7 c) with|true=>a.le E.w0 (out (G k)) (k=m)|false=>x i a))
  (t:J m->Tr E N l.tail (out (G m)) n r x):Tr E N l p n r x:=by
 refine MR (α:=Nat) sw (fun k=>I (G k)) (fun k=>k<=m/\J k) (fun k=>m-k) (fun k=>out (G k)) (fun k=>k=m/\J k) 0 z w (B6 q (fun _=>⟨a2 _,s⟩)).2 (fun k d=>?_) (fun k d=>by obtain⟨rfl,y⟩:=d;exact t y);refine za (u k d.1 d.2) (fun a b=>?_) (fun i a b=>?_);obtain⟨g,j⟩:=Yr b (K':=(k+1<=m/\J (k+1))/\m-(k+1)<m-k) (fun h=>⟨h,aa⟩);rw[A k g.1 d.2 g.2] at j;exact⟨k+1,j⟩
 ·cases o:beq i (b7 c) with
  | true=>rw[o] at b;exact⟨k,(B6 b (fun e=>⟨e,d.2⟩)).2⟩
  | false=>rw[o] at b;exact b
theorem JH (e:aD E.P E.sp) (u:E.P.follows .mixedOrders=true) {d:Type} {l:List Code} {c:Code} {f:St} (sw:List (Nat × Nat)) (I:d->St) (G:Nat->d) (J:Nat->Prop) (m:Nat) (b:d->d) (out:d->St)
  (t:l.head?=some c) (p:dn c=true) (g:f.le E.w0 (I (G 0)) True) (h:J 0) (w:∀ k,k<m->J k->J (k+1)->b (G k)=G (k+1))
  (o:∀ k,k<=m->J k->VC E (aZ c) (I (G k)) (fun a=>a.sk E.w0 sw (I (b (G k))) (k<m/\J (k+1))) r (fun i a=>match beq i (b7 c) with|true=>a.le E.w0 (out (G k)) (k=m)|false=>x i a))
  (j:J m->Tr E N l.tail (out (G m)) n r x):Tr E N l f n r x :=
 RH sw I G J m b out t p g h w (fun k s q=>bE e u _ _ (o k s q)) j
end
def eS {a:Type} (x:a):a:=Classical.choose (⟨x,rfl⟩:∃ y,y=x)
theorem bf {b:Type} (x:b):eS x=x:=Classical.choose_spec (⟨x,rfl⟩:∃ y,y=x)
theorem aL.out {P:Program} {f:FuncId} {d:List Kd} {a:List cQ} {G:gi} {pre:HL d->Prop} {A B:HL d->HO a} (h:aL P f d a G pre A) (e:∀ x,B x=A x):aL P f d a G pre B:=by have:B=A:=funext e;rw[this];exact h
def ai4 (a:Kd) (id:Nat) (c:St):Option (aA a):=match c.B id with
 | some b=>match fz oY a b with
  | some (x,_,_)=>some x
  | none=>none
 | none=>none
def aja (a:Kd) (t:Nat) (b:St):Option (aA a):=match b.S t with
 | .is x=>match fz oY a x.cells with
  | some (x,_,_)=>some x
  | none=>none
 | _=>none
def ai9 (a:Kd) (id:Nat) (d:St):Option (List (aA a)):=match d.B id with
 | some [c]=>match kX c with
  | some ⟨e,_,b⟩=>match e.eq? a with
   | some ⟨h⟩=>some (oc h b)
   | none=>none
  | none=>none
 | none=>some []
 | _=>none
def ai7 (id:Nat) (a:St):Option Nat:=match a.B id with
 | some [c]=>match kX c with
  | some ⟨_,n,_⟩=>some n
  | none=>none
 | _=>none
def ai6 (t:Nat) (a:St):Option Nat:=match a.S t with
 | .is (.one (.sl _ _ _ n _))=>some n
 | .is (.one (.v (.slice none 0 0)))=>some 0
 | _=>none
def ai8 (a:Kd) (t:Nat) (c:St):Option (List (aA a)):=match c.S t with
 | .is (.one (.ro e b))=>match e.eq? a with
  | some ⟨h⟩=>some (oc h b)
  | none=>none
 | _=>none
def ai5 (t:Nat) (a:St):Option Bool:=match a.S t with
 | .is (.one (.v (.slice none 0 0)))=>some true
 | .is (.one (.sl _ _ _ _ _))=>some false
 | _=>none
def Mg (t:Nat) (a:St):Nat:=match a.S t with
 | .is (.one (.sl i _ _ _ _))=>i
 | .is (.one (.ptr i _))=>i
 | _=>0
def h9:St->List (Nat × Nat):=fun _=>[]
def Jm {a:Type} (d:a):Option a->a
 | some x=>x
 | none=>d
def pP (b:Kd) (id:Nat) (d:St):aA b:=Jm (zeroOf b) (ai4 b id d)
def bg (d:Kd) (t:Nat) (e:St):aA d:=Jm (zeroOf d) (aja d t e)
def cU (d:Kd) (id:Nat) (e:St):List (aA d):=Jm [] (ai9 d id e)
def rdN (id:Nat) (a:St):Nat:=Jm 0 (ai7 id a)
def O9 (t:Nat) (a:St):Bool:=Jm false (ai5 t a)
def ou (t:Nat) (a:St):Nat:=Jm 0 (ai6 t a)
def GB (a:Kd) (t:Nat) (b:St):List (aA a):=Jm [] (ai8 a t b)
section
variable {E:Env} {N:Nat} {n r:St->Prop} {x:Nat->St->Prop}
theorem jO (e:aD E.P E.sp) (z:E.P.follows .mixedOrders=true) {l:List Code} {m:St} {h:Type} (k:Nat) (f:St->h) (o:h->St) (K:h->Prop) (s:VC E (l.take k) m (fun b=>b.le E.w0 (o (f b)) (K (f b))) r x) (t:∀ a,K a->Tr E N (l.drop k) (o a) n r x):Tr E N l m n r x:=by intro a w Q y A i j;rw[<- dR k l];refine zf _ _ a w ?_;refine bE e z _ _ s a w _ y (fun b p C d q=>?_) i j;obtain⟨u,g⟩:=lj q d;exact t _ u p C Q g A i j
theorem pg {s K:Type} {l:List Code} {c:Code} {V:St} (sw:St->List (Nat × Nat)) (f:St->s) (I:s->St) (J:s->Prop) (q:s->Nat) (O:St->K) (out:K->St) (L:K->Prop) (t:s)
  (F:l.head?=some c) (z:dn c=true) (W:V.le E.w0 (I t) (J t))
  (y:∀ g,J g->Tr E N (aZ c) (I g) (fun h=>h.sk E.w0 (sw h) (I (f (h.uL (sw h)))) (J (f (h.uL (sw h)))/\q (f (h.uL (sw h)))<q g)) r (fun i h=>match beq i (b7 c) with|true=>h.le E.w0 (out (O h)) (L (O h))|false=>x i h))
  (ha:∀ g,L g->Tr E N l.tail (out g) n r x):Tr E N l V n r x:=by
 intro a w Q hh hn R T;cases l with
 | nil=>simp at F
 | cons d l =>
  simp at F;subst F;unfold dn at z;split at z
  ·rename_i id b;obtain⟨D,A⟩:=lj W hh;refine wp_block ?_;refine wp_loop_ghost (fun m a w=>∃ g,q g=m/\J g/\Holds E.w0 N (I g) a w) (q t) ⟨t,rfl,D,A⟩ ?_;rintro m a w ⟨g,rfl,hj,hg⟩;have H:=y g hj a w (Exit.then (fun k o=>∃ U,U<q g/\∃ g,q g=U/\J g/\Holds E.w0 N (I g) k o) (Exit.inBlock id (Exit.then (ku E.P l Q) Q))) hg ?_ ?_ ?_;have:=jP b [] _ a w (by simpa[aZ] using H);refine wp_mono this ?_;intro e k o he;cases e<;>exact he;rintro h k o j p;obtain⟨⟨Y,Z⟩,h3⟩:=Lw p j;exact⟨_,Z,_,rfl,Y,h3⟩;intro h k o j p;exact R h k o j p
   ·intro i h k o j p;show Exit.inBlock id (Exit.then (ku E.P l Q) Q) (.exit i) k o;simp only[Exit.inBlock];by_cases C:i=id;subst C;rw[aj rfl];simp only[b7,iq] at p;obtain⟨u,G⟩:=lj p j;exact ha _ u k o Q G hn R T
    ·rw[ah C];have:beq i id=false:=by
      cases y:beq i id with
      | false=>rfl
      | true=>exact absurd (beq_true y) C
     simp only[b7,this] at p;exact T i h k o j p
  cases z
theorem cd (k:aD E.P E.sp) (A:E.P.follows .mixedOrders=true) {d m:Type} {l:List Code} {c:Code} {p:St} (sw:St->List (Nat × Nat)) (f:St->d) (I:d->St) (J:d->Prop) (o:d->Nat) (h:St->m) (out:m->St) (e:m->Prop) (j:d)
  (z:l.head?=some c) (w:dn c=true) (q:p.le E.w0 (I j) (J j))
  (u:∀ g,J g->VC E (aZ c) (I g) (fun b=>b.sk E.w0 (sw b) (I (f (b.uL (sw b)))) (J (f (b.uL (sw b)))/\o (f (b.uL (sw b)))<o g)) r (fun i b=>match beq i (b7 c) with|true=>b.le E.w0 (out (h b)) (e (h b))|false=>x i b))
  (s:∀ g,e g->Tr E N l.tail (out g) n r x):Tr E N l p n r x :=
 pg sw f I J o h out e j z w q (fun g y=>bE k A _ _ (u g y)) s
end
inductive Hd where
 | ptr
 | sl (n c:Nat)
def Hd.cell (i:Nat):Hd->Cell
 | .ptr=>.ptr i 0
 | .sl n c=>.sl i 0 0 n c
def Hd.val (b N:Nat):Hd->Value->Prop
 | .ptr,u=>u=.pointer (some ⟨b,0,none⟩)
 | .sl n c,u=>∃ d,n<=d/\d*c<=N/\u=.slice (some ⟨b,0,none⟩) n d
def JV (P:Program) (f:FuncId) (m:Hd) (e:Kd) (c:List Kd) (d:List cQ) (G:gi) (pre:aA e × HL c->Prop) (F:aA e × HL c->aA e × HO d):Prop :=
 ∀ (w:World) (M:Mem) (j:List Value) (g:HL c) (b n:Nat) (l:List Value) (x:aA e) (u:Value),Mem.le M (b8 w)->M b=none->rk G M->uc M c g j->b6 w b n l->Rd M e x l->pre (x,g)->m.val b n u ->
  nG P f ⟨u::j⟩ w fun v w'=>∃ k i h,v=mM k/\e8 w.heap.size M i w' d (F (x,g)).2 k/\b6 w' b n h/\Rd (dq w.heap.size M i w') e (F (x,g)).1 h/\kW ⟨w,[(0,b)],G,M,fun p=>cW w p.2,1⟩ w'
abbrev CR (P:Program) (f:FuncId) (e:Kd) (d:List Kd) (b:List cQ) (G:gi) (pre:aA e × HL d->Prop) (F:aA e × HL d->aA e × HO b):Prop:=JV P f .ptr e d b G pre F
def Fi (P:Program) (f:FuncId) (e:Kd) (d:List Kd) (b:List cQ) (G:gi) (pre:List (aA e) × HL d->Prop) (F:List (aA e) × HL d->List (aA e) × HO b):Prop :=
 ∀ n,0<n->JV P f (.sl n (width e)) (.arr n e) d b G pre F
def D1 (i:Nat) (l:List Nat):List Nat:=l.filter fun j => !beq j i
def mH (B:bA) (c:Kd) (b:List cQ) (ids:List Nat):List (Nat × List Cell) :=
 match fo c with
 | true=>pv B b ids
 | false=>(ids.filter (isLive B)).map fun i=>(i,[])
def HI (g:Kd) (e:List Kd) (b:List cQ) (pre:aA g × HL e->Prop) (F:aA g × HL e->aA g × HO b):Spec:=fun _ id args B =>
 match args with
 | .is (.one (.ptr f 0))::c=>match B f,ez f (gB B c) with
  | some (d::i),false=>match fz (lL (D1 f (gB B args)) B) g (d::i),uO (lL (D1 f (gB B args)) B) e c with
   | some (x,j,[]),some (h,k)=>some { val:=xZ (iV id b (F (x,h)).2),new:=uh id b (F (x,h)).2,wr:=(f,cellsOf g (F (x,h)).1)::mH B g b (D1 f (gB B args)),pre:=j++(k++[pre (x,h)]) }
   | _,_=>none
  | _,_=>none
 | _=>none
def yv (e:Kd) (f:List Kd) (b:List cQ) (pre:List (aA e) × HL f->Prop) (F:List (aA e) × HL f->List (aA e) × HO b):Spec:=fun _ id args B =>
 match args with
 | .is (.one (.sl g 0 0 n c))::d=>match B g,ez g (gB B d),beq c (width e) with
  | some [k],false,true=>match kX k with
   | some ⟨l,m,i⟩=>match l.eq? e,uO (lL (D1 g (gB B args)) B) f d with
    | some ⟨h⟩,some (j,o)=>some { val:=xZ (iV id b (F (oc h i,j)).2),new:=uh id b (F (oc h i,j)).2,wr:=(g,[jn e n (F (oc h i,j)).1])::mH B (.arr n e) b (D1 g (gB B args)),pre:=[m=n,0<n]++(o++[pre (oc h i,j)]) }
    | _,_=>none
   | none=>none
  | _,_,_=>none
 | _=>none
def vA (G:gi) (d:Kd) (c:List Kd) (b:List cQ) (pre:aA d × HL c->Prop) (F:aA d × HL c->aA d × HO b):Spec:=fun W id args B =>
 match HI d c b pre F W id args B with
 | some o=>some { o with pre:=(∀ g s,G g=some s->W.gl g=some s)::o.pre }
 | none=>none
theorem Il {i j:Nat} {l:List Nat} (h:j∈D1 i l):j∈l/\j≠i:=by obtain⟨b,c⟩:=List.mem_filter.1 h;refine⟨b,fun e=>?_⟩;subst e;simp at c
theorem rF {B:bA} {k:Kd} {b:List cQ} {ids:List Nat} {p:Nat × List Cell} (h:p∈mH B k b ids):p.2=[]/\p.1∈ids/\∃ d,B p.1=some d/\d≠[]:=by unfold mH at h;split at h;exact xe h;obtain⟨i,g,rfl⟩:=mem_map.1 h;obtain⟨f,e⟩:=List.mem_filter.1 g;refine⟨rfl,f,?_⟩;unfold isLive at e;split at e;rename_i c d j;exact⟨_,j,au⟩;cases e
theorem QO {B:bA} {j:Kd} {b:List cQ} {ids:List Nat} (d:(fo j&&eT b)=false) {i:Nat} (g:i∈ids) {e:List Cell} (k:B i=some e) (f:e≠[]):(i,[])∈mH B j b ids:=by
 have h:isLive B i=true:=by
  unfold isLive;rw[k];cases e with
  | nil=>exact absurd rfl f
  | cons c e=>rfl
 unfold mH;split;rename_i l;rw[l] at d;simp at d;unfold pv;rw[d];exact mem_map.2 ⟨i,List.mem_filter.2 ⟨g,h⟩,rfl⟩;exact mem_map.2 ⟨i,List.mem_filter.2 ⟨g,h⟩,rfl⟩
section
variable {P:Program}
theorem XT {f:FuncId} {hd:Hd} {κ:Kd} {X:List Kd} {k:List cQ} {G:gi} {pre:aA κ × HL X->Prop} {F:aA κ × HL X->aA κ × HO k} (h:JV P f hd κ X k G pre F) (h1:dz k<=1) {w0:cw} {id A Z:Nat} {s0:SV} {u:List SV} {B:bA} {ρ:ay} {u0:Value} {y2:List Value} {w:World} {d:Cell} {ds:List Cell} {x:aA κ} {C:HL X} {qs pp:List Prop}
  (x0:B A=some (d::ds)) (v3:∀ z l0,Sees (lL (D1 A (gB B (s0::u))) B) ρ z->ax ρ (d::ds) l0->Rd z κ x l0) (v6:uO (lL (D1 A (gB B (s0::u))) B) X u=some (C,qs)) (v2:∀ p∈qs,p) (z0:pre (x,C)) (hG:∀ g s,G g=some s->w0.gl g=some s) (N:ρ A=some Z) (v4:hd.val Z (ρ.n A) u0) (z4:bn ρ u y2) (Q:Ctx w0 id ρ B w) :
  nG P f ⟨u0::y2⟩ w fun v w'=>∃ ρ',(xZ (iV id k (F (x,C)).2)).rel ρ' v/\Eff id B { val:=xZ (iV id k (F (x,C)).2),new:=uh id k (F (x,C)).2,wr:=(A,cellsOf κ (F (x,C)).1)::mH B κ k (D1 A (gB B (s0::u))),pre:=pp } ρ ρ' w w':=by
 classical
 -- z9 v8 u2 w3 w4
 let ids:=D1 A (gB B (s0::u));let own:Nat->Prop:=fun b=>∃ i H,i∈ids/\B i=some H/\H≠[]/\ρ i=some b;let z:Mem:=fun b=>if own b then b8 w b else ρ.M b;have x6:∀ b,own b->b≠Z:=by rintro b ⟨i,H,y,x1,K,j⟩ rfl;exact (Il y).2 (Q.inj i A H (d::ds) b x1 K x0 au j N)
 have y4:z Z=none:=by
  simp only[z];rw[ah (fun ho=>x6 _ ho rfl)];cases hq:ρ.M Z with
  | none=>rfl
  | some l=>exact absurd N (Q.apart Z l hq A (d::ds) x0 au)
 have y3:∀ b l,z b=some l->b8 w b=some l:=by intro b l j;simp only[z] at j;split at j;exact j;obtain⟨el,fr,hh⟩:=Q.mem b l j;exact jX hh
 have W:Mem.le ρ.M z:=by intro b l j;simp only[z];split;obtain⟨el,fr,hh⟩:=Q.mem b l j;exact jX hh;exact j
 have V:Sees (lL ids B) ρ z:=by
  refine⟨W,fun i H b y K j=>?_⟩;have y9:i∈ids:=by unfold lL at y;split at y;rename_i hm;exact vK hm;cases y
  have x1:=nB y;obtain⟨l,⟨z8,el,fr,k1,k2,_⟩,k3⟩:=Q.blks i H x1 K b j;refine⟨l,z8,k3,fun hn=>?_,k2⟩;simp only[z];rw[aj ⟨i,H,y9,x1,K,j⟩];exact kB k1 hn
 have y6:=IK V v6 v2 z4;obtain⟨l0,O,y5⟩:=Q.blks A (d::ds) x0 au Z N;have z2:Rd z κ x l0:=v3 z l0 V y5;have u5:rk G z:=fun g e x hg=>kg W (Q.glob g e x (hG g _ hg));refine (h w z y2 C Z _ l0 x u0 y3 y4 u5 y6 O z2 z0 v4).mono ?_;rintro v w' ⟨vs,ob,l',rfl,x7,x9,z1,t⟩;have u3:Z<w.heap.size:=O.lt;have U:∀ b,b<w.heap.size->b≠Z->w'.heap[b]?=w.heap[b]?:=by intro b j K;refine t.block b j ?_;simp only[cw.own,List.any_cons,List.any_nil,Bool.or_false];simpa using fun e=>K e.symm
 -- z9 is v7 u1 v8 v9
 let pl:Bool:=fo κ&&eT k;let Mx:Mem:=if pl=true then ρ.M else z;let o:ay:=⟨ρ.m,ρ.n,fun b=>if ob=some b/\w.heap.size<=b then none else if w.heap.size<=b then b8 w' b else Mx b⟩;have v0:∀ b l,ρ.M b=some l->b<w.heap.size:=by intro b l j;obtain⟨el,fr,hh⟩:=Q.mem b l j;exact sR (jX hh)
 have v5:Mem.le ρ.M Mx:=by intro b l j;simp only[Mx];split;exact j;exact W b l j
 have x3:Mem.le ρ.M o.M:=by intro b l j;have:=v0 b l j;simp only[o];rw[ah (fun h=>aa),ah aa];exact v5 b l j
 have x4:pl=true\/Mem.le (dq w.heap.size z ob w') o.M:=by by_cases x2:pl=true;exact .inl x2;refine .inr fun b l j=>?_;simp only[dq] at j;simp only[o];split at j;cases j;rename_i y1;rw[ah (fun h=>y1 h.1)];split at j;rename_i hN;rw[aj hN];exact j;rename_i hN;rw[ah hN];simp only[Mx];rw[ah x2];exact j
 have x5:eT k=true\/Mem.le (dq w.heap.size z ob w') o.M:=by rcases x4 with h|h;simp only[pl,aQ] at h;exact .inl h.2;exact .inr h
 have y8:fo κ=true\/Mem.le (dq w.heap.size z ob w') o.M:=by rcases x4 with h|h;simp only[pl,aQ] at h;exact .inl h.1;exact .inr h
 have conv:∀ (ρ':ay),ρ'.M=o.M->∀ (e:Kd) (x:aA e) l,Rd (dq w.heap.size z ob w') e x l->(fo e=true\/Mem.le (dq w.heap.size z ob w') ρ'.M)->Rd ρ'.M e x l:=by intro ρ' _ e x l hr hor;rcases hor with hor|hor;exact Kk hor hr;exact c9 hor hr
 have T:∀ (ρ':ay) (new:List (Nat × List Cell)),ρ'.M=o.M->(∀ p∈new,∀ b,ρ' p.1=some b->ob=some b/\w.heap.size<=b)->∀ b l,ρ'.M b=some l->ρ.M b=some l\/((∀ p∈new,ρ' p.1≠some b)/\(w.heap.size<=b\/∃ q∈(A,cellsOf κ (F (x,C)).1)::mH B κ k ids,ρ q.1=some b/\q.2=[])/\∃ el fr,w'.heap[b]?=some (nA l el fr)):=by intro ρ' new I D b l j;rw[I] at j;simp only[o] at j;split at j;cases j;rename_i y1;split at j;rename_i hN;exact .inr ⟨fun p hp' e=>y1 (D p hp' b e),.inl hN,iJ j⟩;rename_i hN;simp only[Mx] at j;split at j;exact .inl j;rename_i x2;have hm:=y3 b l j;obtain⟨el,fr,hh⟩:=iJ hm;simp only[z] at j;split at j;rename_i x8;have u4:=x6 b x8;obtain⟨i,H,u6,u7,u8,u9⟩:=x8;refine .inr ⟨fun p hp' e=>hN (D p hp' b e).2,.inr ⟨(i,[]),qh _ (QO (by simpa[pl] using x2) u6 u7 u8),u9,rfl⟩,el,fr,by rw[U b aa u4];exact hh⟩;exact .inl j
 have z5:∀ (ρ':ay),ρ'.M=o.M->∀ (p:Nat × List Cell),p∈(A,cellsOf κ (F (x,C)).1)::mH B κ k ids->(∃ H,B p.1=some H/\H≠[])/\∀ b,ρ p.1=some b->p.2≠[]->∃ l,b6 w' b (ρ.n p.1) l/\ax ρ' p.2 l:=by intro ρ' I p hp';rcases mem_cons.1 hp' with rfl|hp';refine⟨⟨_,x0,au⟩,fun b j _=>?_⟩;have j:ρ A=some b:=j;rw[N] at j;simp only[az] at j;subst j;exact⟨l',x9,jk (conv ρ' I κ _ l' z1 (by rcases y8 with h|h;exact .inl h;exact .inr (by rw[I];exact h)))⟩;obtain⟨k1,k2,k3⟩:=rF hp';exact⟨k3,fun _ _ h=>absurd k1 h⟩
 have z6:∀ p∈(A,cellsOf κ (F (x,C)).1)::mH B κ k ids,∀ q∈(A,cellsOf κ (F (x,C)).1)::mH B κ k ids,p.1=q.1->p=q:=by intro p hp' q hq' e;rcases mem_cons.1 hp' with rfl|hp'<;>rcases mem_cons.1 hq' with rfl|hq';rfl;exact absurd e.symm (Il (rF hq').2.1).2;exact absurd e (Il (rF hp').2.1).2;exact gu e ((rF hp').1.trans (rF hq').1.symm)
 have z3:∀ b,b<w.heap.size->(∀ p∈(A,cellsOf κ (F (x,C)).1)::mH B κ k ids,ρ p.1≠some b)->w'.heap[b]?=w.heap[b]?:=by intro b j v1;refine U b j (fun e=>?_);subst e;exact v1 (A,cellsOf κ (F (x,C)).1) (Bd ..) N
 have R:=Q.free id (aE _) aa
 -- z7 in a block of w2 own
 have Y:∀ (new:List (Nat × List Cell)),(∀ p∈new,p.1=id)->eM o (iV id k (F (x,C)).2) vs->∃ ρ',(xZ (iV id k (F (x,C)).2)).rel ρ' (mM vs)/\Eff id B { val:=xZ (iV id k (F (x,C)).2),new:=new,wr:=(A,cellsOf κ (F (x,C)).1)::mH B κ k ids,pre:=pp } ρ ρ' w w':=by
  intro new D ht;have E:∀ p∈new,o p.1=none:=fun p hp'=>by rw[D p hp'];exact R
  refine⟨o,DA ht,⟨⟨fun _ _ h=>⟨h,rfl⟩,x3⟩,fun _ _ h=>.inl h,fun i b y=>fe (Q.bound i b y) t.size,t.os,t.tape,t.output,t.size,z3,?_,?_,z6,z5 o rfl,T o new rfl (fun p hp' b j=>by rw[E p hp'] at j;cases j)⟩⟩;intro p hp';have:=D p hp';exact⟨aa,aa,fun b j=>by rw[E p hp'] at j;cases j⟩;intro p hp' q hq' b j;rw[E p hp'] at j;cases j
 rcases zS (ρ':=o) (id:=id) (conv o rfl) h1 x5 x7 with ⟨k1,k2⟩|⟨H,k0,k1,k2|⟨b,n,l,k3,k4,k5,k6,k7⟩⟩;rw[k1];exact Y [] (fun _ h=>nomatch h) k2;rw[k1];exact Y [(id,H)] (fun p hp'=>by simp at hp';rw[hp']) k2
 ·rw[k1];let r:ay:=⟨fun i=>if i=id then some b else ρ i,fun i=>if i=id then n else ρ.n i,o.M⟩;have y7:ay.le ρ r:=by
   refine⟨fun i c y=>?_,x3⟩;by_cases e:i=id;subst e;rw[R] at y;cases y;simp[r,e,y]
  have y0:ay.le o r:=⟨fun i c y=>y7.id i c y,Mem.le_refl _⟩;have ht:eM r (iV id k (F (x,C)).2) vs:=by
   rcases zS (ρ':=r) (id:=id) (conv r rfl) h1 x5 x7 with ⟨_,j2⟩|⟨w1,_,_,j2|⟨b',n',l',j3,j4,j5,j6,j7⟩⟩;exact j2;exact j2
   ·have e:b'=b:=by rw[k3] at j3;simpa using j3.symm
    subst e;have en:=k5.size_eq j5;subst en;exact j7 (by simp[r]) (by simp[r])
  refine⟨r,DA ht,⟨y7,?_,?_,t.os,t.tape,t.output,t.size,z3,?_,?_,z6,z5 r rfl,T r _ rfl ?_⟩⟩;intro i b' y;by_cases e:i=id;simp[r,e] at y;subst y;exact .inr ⟨aa,aa,⟨(id,H),au,by simp[e]⟩,.inl k4⟩;simp[r,e] at y;exact .inl y;intro i b' y;by_cases e:i=id;simp[r,e] at y;subst y;exact k5.lt;simp[r,e] at y;exact fe (Q.bound i b' y) t.size;intro p hp';simp at hp';subst hp';refine⟨aE _,by show id<id+8;omega,fun b' L _=>?_⟩;simp[r] at L;subst L;exact⟨.inl k4,l,by simp[r];exact k5,dW y0 k6⟩;intro p hp' q hq' _ _ _;simp at hp' hq';rw[hp',hq'];intro p hp' b' L;simp at hp';subst hp';simp[r] at L;subst L;exact⟨k3,k4⟩
theorem Ni {f:FuncId} {m:Kd} {e:List Kd} {b:List cQ} {G:gi} {pre:aA m × HL e->Prop} {F:aA m × HL e->aA m × HO b} (h:CR P f m e b G pre F) (H:dz b<=1) {w0:cw} {id:Nat} {args:List SV} {B:bA} {out:Out}
  (c:HI m e b pre F w0 id args B=some out) (u:∀ p∈out.pre,p) (I:∀ g s,G g=some s->w0.gl g=some s) {ρ:ay} {D:List Value} {w:World} (N:bn ρ args D) (K:Ctx w0 id ρ B w) :
  nG P f ⟨D⟩ w fun v w'=>∃ o,out.val.rel o v/\Eff id B out ρ o w w':=by
 unfold HI at c;split at c;split at c;rename_i d W r L;split at c;rename_i x Z xs qs O z;simp only[az] at c;subst c;obtain⟨u0,T,E,y,l⟩:=N;obtain⟨V,t,q⟩:=n5 y;subst q E;refine XT h H r (fun U X j k=>?_) z (fun p i=>u p (by simp[i])) (u _ au) I t rfl l K;obtain⟨Y,R,C,Q,A⟩:=iy j _ _ _ _ _ _ O (fun p i=>u p (by simp[i])) k;have A:R=[]:=A;subst A;rw[bq] at C;rw[C];exact Q;simp at c;simp at c;simp at c
theorem zp {f:FuncId} {e:Kd} {i:List Kd} {b:List cQ} {pre:List (aA e) × HL i->Prop} {F:List (aA e) × HL i->List (aA e) × HO b} (h:Fi P f e i b bx pre F) (R:dz b<=1:=by decide):nI P f (yv e i b pre F):=by
 intro w0 id args B out d t ρ us w hv U;unfold yv at d;split at d
 ·rename_i i0 n c u;split at d
  ·rename_i c0 A Y j;split at d
   ·rename_i L m O q;split at d
    ·rename_i D ys qs V I;subst D;simp only[az] at d;subst d;have E:m=n:=t _ au;have Z:0<n:=t _ au;subst E;have j:c=width L:=fa j;subst j;obtain⟨u0,x0,Q,H,r⟩:=hv;subst Q;rcases nR H with ⟨N,_⟩|⟨b0,o,y,C,N,ho,T,z⟩;omega;have ho:o=0:=by
      rcases ho with ho|ho;simpa using ho;omega
     subst ho z;refine XT (κ:=.arr m L) (x:=O) (h m Z) R A (fun M0 l0 k l=>?_) I (fun p G=>t p (by simp[G])) (t (pre (O,ys)) (ij _ (ij _ (List.mem_singleton.2 rfl)))) (fun g s W=>by simp[bx] at W) C ⟨y,N,by simpa using T,rfl⟩ r U;obtain⟨v1,v2,ev,k1,K⟩:=l;have K:v2=[]:=K;subst K ev;rw[bq];obtain⟨g1,g2,_⟩:=kz q k1;exact⟨g1,eg (fun _ _=>c9 k.mem) g2⟩
    simp at d
   simp at d
  simp at d
 simp at d
theorem th {f:FuncId} {i:Kd} {e:List Kd} {b:List cQ} {G:gi} {pre:aA i × HL e->Prop} {F:aA i × HL e->aA i × HO b} (h:CR P f i e b G pre F) (q:dz b<=1:=by decide):nI P f (vA G i e b pre F):=by intro w0 id args B out g m ρ u w t r;unfold vA at g;split at g;rename_i o s;simp at g;subst g;have:=Ni h q s (fun p j=>m p (by simp[j])) (m _ au) t r;refine this.mono fun v w' ⟨l,k,d⟩=>⟨l,k,?_⟩;exact⟨d.le,d.dom,d.bound,d.os,d.tape,d.output,d.size,d.same,d.new,d.newinj,d.wruniq,d.wr,d.mem⟩;simp at g
def xI (B:bA):bA:=fun i=>match beq i 0 with
 | true=>none
 | false=>B i
def Q6 (f:Kd) (b:List cQ) (y:aA f × HO b) (e:SV) (c:St):Prop :=
 match CE e,iS (lG b) (xI c.B) b (GY e),c.B 0 with
 | true,some (j,h),some (d::g)=>match fz (match lG b with|true=>oY|false=>xI c.B) f (d::g) with
  | some (z,i,[])=>El h (El i ((z,j)=y))
  | _=>False
 | _,_,_=>False
def J2 (e:Kd) (n:Nat) (b:List cQ) (y:List (aA e) × HO b) (c:SV) (d:St):Prop :=
 match CE c,iS (lG b) (xI d.B) b (GY c),d.B 0 with
 | true,some (k,i),some [f]=>match kX f with
  | some ⟨g,m,j⟩=>match g.eq? e with
   | some ⟨h⟩=>El i (m=n/\(oc h j,k)=y)
   | none=>False
  | none=>False
 | _,_,_=>False
variable {w0:cw} {n:Nat} {S:cD} {B:bA} {ρ:ay} {a:Act} {w':World}
theorem uk {M:Mem} (e:cN w0 n S B ρ a w') (j:∀ b l,w0.own b=true->ρ.M b≠some l) (g:w0.M=M) {f:Option Nat} (d:∀ b,f=some b->∀ l,ρ.M b≠some l):Mem.le ρ.M (dq w0.w.heap.size M f w'):=by intro b l c;unfold dq;rw[ah (fun h=>d b h l c)];obtain⟨_,m,fr,i⟩:=e.mem b l c;split;exact jX i;rename_i k;rcases e.old b l c aa with h|h;exact absurd c (j b l h);rw[<- g];exact h
theorem Ad {M:Mem} {u:Option Nat} {r i:bA} (D:Sees i ρ (dq w0.w.heap.size M u w')) {s:Bool} (C:(match s with|true=>oY|false=>r)=i) :
  ∀ {c:List cQ} {d:List TV} {ys:HO c} {f:List Prop} {g:List Value},dz c=0->iS s r c d=some (ys,f)->(∀ p∈f,p)->eM ρ d g->e8 w0.w.heap.size M u w' c ys g:=by
 intro c;induction c with
 | nil=>intro d ys f g _ h _ k;cases d with
  | nil=>exact k
  | cons _ _=>simp[iS] at h
 | cons o c F=>intro d ys f g j h t k;cases d with
  | nil=>simp[iS] at h
  | cons x d =>
   cases o with
   | own e=>simp[dz] at j
   | box e=>simp[dz] at j
   | val G =>
    simp only[iS] at h;split at h
    ·rename_i y p l;split at h
     ·rename_i I H E;simp only[az,aI] at h;obtain⟨rfl,rfl⟩:=h;obtain⟨v,m,e,z,A⟩:=k;have l:MU i G (.is x)=some (y,p):=by rw[<- C];exact l
      exact⟨v,m,e,wm D l (fun p b=>t p (gS _ b)) z,F j E (fun p b=>t p (ij _ b)) A⟩
     simp at h
    simp at h
theorem TS {e:Kd} {F:Bool} {x:TV} {y:List (aA e)} {A:List Prop} {v:Value} (H:cN w0 n S B ρ a w') (N:∀ i z b,B i=some z->z≠[]->ρ i=some b->w0.w.heap.size<=b) (h:Ac F B (.own e) x=some (y,A)) (G:∀ p∈A,p) (I:x.rel ρ v) :
  (y=[]/\v=.slice none 0 0)\/∃ b o f n l,(∀ l,ρ.M b≠some l)/\w0.w.heap.size<=b/\v=.slice (some ⟨b,o,none⟩) y.length f/\y.length<=f/\(o=0\/f=0)/\o+f*width e<=n/\b6 w' b n l/\dY (Rd ρ.M e) y l:=by
 simp only[Ac] at h;split at h
 ·rename_i id len c;split at h
  ·rename_i d K C;have u:∀ {y:List (aA e)},(∀ l,ax ρ (d::K) l->y.length=len/\c=width e/\0+0*c+len*c<=l.length/\dY (Rd ρ.M e) y ((l.drop (0+0*c)).take (len*c)))->(len=0->y=[]) ->
     (y=[]/\v=.slice none 0 0)\/∃ b o f n l,(∀ l,ρ.M b≠some l)/\w0.w.heap.size<=b/\v=.slice (some ⟨b,o,none⟩) y.length f/\y.length<=f/\(o=0\/f=0)/\o+f*width e<=n/\b6 w' b n l/\dY (Rd ρ.M e) y l:=by
    intro y Q L;rcases nR I with ⟨j,ev⟩|⟨b,o,f,D,j,F,O,ev⟩;exact .inl ⟨L j,ev⟩;obtain⟨l,m,E⟩:=H.blks _ _ C au b D;obtain⟨T,U,V,W⟩:=Q l E;subst T U;refine .inr ⟨b,o,f,_,_,fun l s=>(H.mem b l s).1 _ _ C au D,N _ _ _ C au D,ev,j,by simpa using F,O,?_,W⟩;simp only[jq,bH,gT] at V ⊢;have k:=m;rw[<- dR (y.length*width e) l] at k;exact k.pre
   split at h;rename_i X p g;simp only[az,aI] at h;obtain⟨rfl,rfl⟩:=h;refine u (fun l j=>xu g G j) (fun s=>?_);subst s;unfold uV at g;split at g;split at g;simp only[az,aI] at g;rw[<- g.1];simp;simp at g;simp at g;refine u (fun l j=>xt (R:=Rd ρ.M e) (fun _ _=>bV) (fun z x A r l=>iy (l9 ρ) e z x A r l) h G j) (fun s=>?_);subst s;unfold uU at h;split at h;split at h;rename_i t;simp only[pN,az,aI] at h t;rw[<- h.1,<- t.1];simp at h;simp at h
  simp at h
 simp only[az,aI] at h;obtain⟨rfl,rfl⟩:=h;exact .inl ⟨rfl,b9 (ρ:=ρ) I⟩;simp at h
theorem Rl {M:Mem} (C:cN w0 n S B ρ a w') (T:∀ b l,w0.own b=true->ρ.M b≠some l) (A:∀ i E b,B i=some E->E≠[]->ρ i=some b->w0.w.heap.size<=b) (Q:w0.M=M) :
  ∀ {k:List cQ} {z:List TV} {ys:HO k} {G:List Prop} {H:List Value},dz k<=1->iS true B k z=some (ys,G)->(∀ p∈G,p)->eM ρ z H ->
   ∃ D,(∀ b,D=some b->∀ l,ρ.M b≠some l)/\(∀ c,(∀ b,c=some b->∀ l,ρ.M b≠some l)->(D=none\/c=D)->e8 w0.w.heap.size M c w' k ys H):=by
 intro k;induction k with
 | nil=>intro z ys G H _ h _ W;cases z with
  | nil=>exact⟨none,(fun b h=>(nomatch h)),fun _ _ _=>W⟩
  | cons _ _=>simp[iS] at h
 | cons o k ih=>intro z ys G H O h hp W;cases z with
  | nil=>simp[iS] at h
  | cons x z =>
   simp only[iS] at h;split at h
   ·rename_i y p F;split at h
    ·rename_i zs qs X;simp only[az,aI] at h;obtain⟨rfl,rfl⟩:=h;obtain⟨v,g,e,Y,Z⟩:=W;have r:∀ q∈p,q:=fun q V=>hp q (gS _ V);have s:∀ q∈qs,q:=fun q V=>hp q (ij _ V);have t:∀ c,(∀ b,c=some b->∀ l,ρ.M b≠some l)->Sees oY ρ (dq w0.w.heap.size M c w'):=fun c d=>⟨uk C T Q d,fun _ _ _ h=>by simp[oY] at h⟩;cases o with
     | val κ =>obtain⟨D,g1,g2⟩:=ih (ys:=zs) O X s Z;refine⟨D,g1,fun c d hor=>⟨v,g,e,?_,g2 c d hor⟩⟩;simp only[Ac] at F;exact wm (t c d) F r Y
     | own e0 =>
      have u:dz k=0:=by simp[dz] at O;omega
      have f:∀ c,(∀ b,c=some b->∀ l,ρ.M b≠some l)->e8 w0.w.heap.size M c w' k zs g:=fun c d=>Ad (t c d) rfl u X s Z;rcases TS C A F r Y with ⟨g1,g2⟩|⟨b,o,I,nn,l,g1,R,K,g4,g5,g6,L,N⟩;exact⟨none,(fun b h=>(nomatch h)),fun c d _=>⟨v,g,e,.inl ⟨g1,g2⟩,f c d⟩⟩;refine⟨some b,fun b' j=>by simp at j;subst j;exact g1,fun c d hor=>⟨v,g,e,?_,f c d⟩⟩;rcases hor with hor|hor;cases hor;refine .inr ⟨b,o,I,nn,l,hor,R,K,g4,g5,g6,L,eg (fun _ _=>c9 (uk C T Q d)) N⟩
     | box κ =>
      have u:dz k=0:=by simp[dz] at O;omega
      have f:∀ c,(∀ b,c=some b->∀ l,ρ.M b≠some l)->e8 w0.w.heap.size M c w' k zs g:=fun c d=>Ad (t c d) rfl u X s Z;obtain⟨i,E,b,m,l,hB,U,hb,g1,K,L,N⟩:=Mk C F r Y;have R:w0.w.heap.size<=b:=A i E b hB U hb;refine⟨some b,fun b' j=>by simp at j;subst j;exact g1,fun c d hor=>⟨v,g,e,?_,f c d⟩⟩;rcases hor with hor|hor;cases hor;exact⟨b,m,l,hor,R,K,L,c9 (uk C T Q d) N⟩
    simp at h
   simp at h
end
section
variable {P:Program}
theorem Jr {w:World} {G:gi} {M:Mem} {o n0 n:Nat} {s:St} {ρ:ay} {a:Act} {w':World} {κ:Kd} {c:List cQ} {z:aA κ} {zs:HO c} {ps:List Prop} {d:Cell} {W:List Cell} {U:SV} {v:Value} (x1:o<w.heap.size) (x0:M o=none) (T:ρ.n 0=n0)
  (g:cN ⟨w,[(0,o)],G,M,fun p=>cW w p.2,1⟩ n s.S s.B ρ a w') (Q:dz c<=1) (hf:CE U=true) (N:iS (lG c) (xI s.B) c (GY U)=some (zs,ps)) (E:∀ p∈ps,p) (y:s.B 0=some (d::W)) (x:∀ V l,Sees (match lG c with|true=>oY|false=>xI s.B) ρ V->ax ρ (d::W) l->Rd V κ z l) (hv:U.rel ρ v) :
  ∃ K H F,v=mM K/\e8 w.heap.size M H w' c zs K/\b6 w' o n0 F/\Rd (dq w.heap.size M H w') κ z F:=by
 obtain⟨K,Z,e⟩:=Uw hv hf;have r:ρ 0=some o:=(g.init (0,o) au).1;obtain⟨F,q,C⟩:=g.blks 0 _ y au o r;rw[T] at q;have u:∀ b,(⟨w,[(0,o)],G,M,fun p=>cW w p.2,1⟩:cw).own b=true->b=o:=by intro b m;simp[cw.own] at m;exact m.symm
 have k:∀ b l,(⟨w,[(0,o)],G,M,fun p=>cW w p.2,1⟩:cw).own b=true->ρ.M b≠some l:=by intro b l m hm;have:=u b m;subst this;exact (g.mem b l hm).1 0 _ y au r
 have j:∀ i f,xI s.B i=some f->s.B i=some f/\i≠0:=by intro i f k;unfold xI at k;split at k;cases k;rename_i x;exact⟨k,fun e=>by subst e;simp at x⟩
 have D:∀ i f b,xI s.B i=some f->f≠[]->ρ i=some b->w.heap.size<=b:=by intro i f b k t m;obtain⟨R,O⟩:=j i f k;rcases (g.bound i b m).1 with h|h;exact h;have:=u b h;subst this;exact absurd (g.inj i 0 f _ b R t y au m r) O
 have Yi:cN ⟨w,[(0,o)],G,M,fun p=>cW w p.2,1⟩ n s.S (xI s.B) ρ a w' :=
  ⟨g.defers,g.size,g.slots,g.below,fun i f k=>g.blks i f (j i f k).1,fun i i' f A b Q h2 h3 h4=>g.inj i i' f A b (j i f Q).1 h2 (j i' A h3).1 h4,g.bound,g.init,fun b l m=>⟨fun i f k=>(g.mem b l m).1 i f (j i f k).1,(g.mem b l m).2⟩,g.old,g.glob,g.tops,g.memle⟩
 cases L:lG c with
 | false =>
  rw[L] at N x;simp only at x;have O:dz c=0:=by unfold lG at L;split at L<;>simp_all
  have Y:Sees (xI s.B) ρ (dq w.heap.size M none w'):=by refine⟨uk g k rfl (fun b h=>(nomatch h)),fun i f b X t m=>?_⟩;obtain⟨l,⟨I,el,fr,k1,k2,_⟩,k3⟩:=Yi.blks i f X t b m;refine⟨l,I,k3,fun hn=>?_,k2⟩;unfold dq;rw[ah (fun h=>nomatch h),aj (D i f b X t m)];exact kB k1 hn
  exact⟨K,none,F,e,Ad (w0:=⟨w,[(0,o)],G,M,fun p=>cW w p.2,1⟩) Y rfl O N E Z,q,x _ _ Y C⟩
 | true =>rw[L] at N x;simp only at x;obtain⟨H,g1,g2⟩:=Rl Yi k D rfl Q N E Z;exact⟨K,H,F,e,g2 H g1 (.inr rfl),q,x _ _ ⟨uk g k rfl g1,fun _ _ _ h=>by simp[oY] at h⟩ C⟩
theorem TI {w:World} {G:gi} {M:Mem} {c u n:Nat} {r:St} {ρ:ay} {a:Act} {w':World} {q:Kd} {b:List cQ} {y:aA q × HO b} {A:SV} {v:Value} (i:c<w.heap.size) (f:M c=none) (j:ρ.n 0=u)
  (I:cN ⟨w,[(0,c)],G,M,fun p=>cW w p.2,1⟩ n r.S r.B ρ a w') (D:dz b<=1) (h:Q6 q b y A r) (K:A.rel ρ v) :
  ∃ C x t,v=mM C/\e8 w.heap.size M x w' b y.2 C/\b6 w' c u t/\Rd (dq w.heap.size M x w') q y.1 t:=by
 unfold Q6 at h;split at h;rename_i W U d R F L e;split at h;rename_i z V H;obtain⟨k,h⟩:=vu h;obtain⟨m,rfl⟩:=vu h;refine Jr i f j I D F L k e (fun Q l E g=>?_) K;obtain⟨T,O,s,N,o⟩:=iy E _ _ _ _ _ _ H m g;have o:O=[]:=o;subst o;rw[bq] at s;rw[s];exact N;exact h.elim;exact h.elim
theorem TJ {w:World} {G:gi} {M:Mem} {d x n k:Nat} {t:St} {ρ:ay} {a:Act} {w':World} {e:Kd} {b:List cQ} {y:List (aA e) × HO b} {C:SV} {v:Value} (o:d<w.heap.size) (g:M d=none) (q:ρ.n 0=x)
  (L:cN ⟨w,[(0,d)],G,M,fun p=>cW w p.2,1⟩ n t.S t.B ρ a w') (F:dz b<=1) (h:J2 e k b y C t) (N:C.rel ρ v) :
  ∃ D A u,v=mM D/\e8 w.heap.size M A w' b y.2 D/\b6 w' d x u/\Rd (dq w.heap.size M A w') (.arr k e) y.1 u:=by
 unfold J2 at h;split at h;rename_i Y W V K O f;split at h;rename_i E m T c;split at h;rename_i j I;subst j;obtain⟨r,rfl,rfl⟩:=vu h;refine Jr (κ:=.arr m E) (z:=T) o g q L F K O r f (fun U l H i=>?_) N;obtain⟨X,R,ev,Q,s⟩:=i;have s:R=[]:=s;subst s ev;rw[bq];obtain⟨g1,g2,_⟩:=kz c Q;exact⟨g1,eg (fun _ _=>c9 H.mem) g2⟩;exact h.elim;exact h.elim;exact h.elim
theorem GO {w:World} {b n:Nat} {l:List Value} (h:b6 w b n l):cW w b=n:=by obtain⟨c,f,fr,d,e,_⟩:=h;simp only[cW,d];exact e
theorem Ut {G:gi} {w:World} {M:Mem} {b n:Nat} {l:List Value} {j:Kd} {x:aA j} (A:Mem.le M (b8 w)) (q:M b=none) (z:rk G M) (r:b6 w b n l) (D:Rd M j x l):Start ⟨w,[(0,b)],G,M,fun p=>cW w p.2,1⟩ [(0,cellsOf j x)] 1 ⟨fun i=>if i=0 then some b else none,fun _=>n,M⟩:=by
 have k:∀ id d,(if id=0 then some b else none)=some d->id=0/\d=b:=by intro id d h;by_cases e:id=0;rw[aj e] at h;simp at h;exact⟨e,h.symm⟩;rw[ah e] at h;cases h
 have s:∀ id f,cR [(0,cellsOf j x)] id=some f->id=0/\f=cellsOf j x:=by intro id f h;have:=hO h;simp at this;exact this
 refine⟨?_,?_,?_,?_,?_,?_,?_,z,fun p g=>by simp at g;subst g;exact jU,Mem.le_refl _⟩;intro id f h _ d c;obtain⟨rfl,rfl⟩:=s id f h;obtain⟨_,rfl⟩:=k 0 d c;exact⟨l,r,jk (ρ:=⟨_,_,M⟩) D⟩;intro id t f o d h _ y _ _ _;rw[(s id f h).1,(s t o y).1];intro id d h;obtain⟨_,rfl⟩:=k _ d h;exact⟨.inr (by simp[cw.own]),r.lt⟩;intro p g;simp at g;subst g;exact⟨rfl,(GO r).symm⟩;intro id d h;obtain⟨rfl,_⟩:=k _ d h;omega;intro d m c;have c:M d=some m:=c;refine⟨fun i f h C e=>?_,iJ (A d m c)⟩;obtain⟨_,u⟩:=k i d e;rw[u] at c;have c:M b=some m:=c;rw[q] at c;cases c;intro d m c _;exact .inr c
theorem I0 {sp:FuncId->Option Spec} {f:FuncId} {fn:Func} (T:enters P f fn) {hd:Hd} {κ:Kd} {g:List Kd} {d:List cQ} {G:gi} {pre:aA κ × HL g->Prop} {F:aA κ × HL g->aA κ × HO d}
  (Y:g.length+1<=fn.ntmps) (k:fn.body.isSome=true) {po:aA κ × HO d->SV->St->Prop}
  (O:∀ {w:World} {M:Mem} {A V n:Nat} {I:St} {ρ:ay} {a:Act} {w':World} {y:aA κ × HO d} {R:SV} {v:Value},A<w.heap.size->M A=none->ρ.n 0=V->cN ⟨w,[(0,A)],G,M,fun p=>cW w p.2,1⟩ n I.S I.B ρ a w'->po y R I->R.rel ρ v->∃ H D C,v=mM H/\e8 w.heap.size M D w' d y.2 H/\b6 w' A V C/\Rd (dq w.heap.size M D w') κ y.1 C)
  (h:∀ (w:World) (M:Mem) (b:Nat) (x:aA κ) (q:HL g),wo κ x->G9 g q->pre (x,q)->AU ⟨P,sp,⟨w,[(0,b)],G,M,fun p=>cW w p.2,1⟩⟩ fn (.is (.one (hd.cell 0))::mA g q) [(0,cellsOf κ x)] 1 (po (F (x,q)))):JV P f hd κ g d G pre F:=by
 intro w M us q b n l x u X r W s j t hp U;refine .inl ⟨T.2 _ _,?_⟩;have o:(hd.cell 0).rel ⟨fun i=>if i=0 then some b else none,fun _=>n,M⟩ [u]:=by
  cases hd with
  | ptr=>exact⟨b,rfl,by rw[show u=_ from U]⟩
  | sl m c =>obtain⟨K,g1,g2,e⟩:=U;exact .inr ⟨b,0,K,rfl,g1,.inl au,by simpa using g2,by rw[e]⟩
 refine (BS (E:=⟨P,sp,⟨w,[(0,b)],G,M,fun p=>cW w p.2,1⟩⟩) T.1 k (Ut X r W j t) (JJ (v:=.is (.one (hd.cell 0))) o (ry (ρ:=⟨_,_,M⟩) s)) (by simp only[bG,uN];exact Y) (h w M b x q (PZ t) (xb s) hp)).mono ?_;rintro e w' ⟨v,R,I,ρ,m,a,rfl,hv,hq,Q⟩;have N:ρ.n 0=n:=((Q.init (0,b) au).2).trans (GO j);obtain⟨H,D,C,e,Z,L,z⟩:=O j.lt r N Q hq hv;exact⟨v,rfl,H,D,C,e,Z,L,z,Q.below⟩
theorem BP {sp:FuncId->Option Spec} {f:FuncId} {fn:Func} (l:enters P f fn) {g:Kd} {d:List Kd} {e:List cQ} {G:gi} {pre:aA g × HL d->Prop} {F:aA g × HL d->aA g × HO e}
  (m:d.length+1<=fn.ntmps) (k:dz e<=1) (i:fn.body.isSome=true)
  (h:∀ (w:World) (M:Mem) (b:Nat) (x:aA g) (j:HL d),wo g x->G9 d j->pre (x,j)->AU ⟨P,sp,⟨w,[(0,b)],G,M,fun p=>cW w p.2,1⟩⟩ fn (.is (.one (.ptr 0 0))::mA d j) [(0,cellsOf g x)] 1 (Q6 g e (F (x,j)))):CR P f g d e G pre F:=I0 l m i (fun o q r s t u=>TI o q r s k t u) h
theorem BQ {sp:FuncId->Option Spec} {f:FuncId} {fn:Func} (t:enters P f fn) {e:Kd} {g:List Kd} {d:List cQ} {G:gi} {pre:List (aA e) × HL g->Prop} {F:List (aA e) × HL g->List (aA e) × HO d}
  (u:g.length+1<=fn.ntmps) (s:dz d<=1) (j:fn.body.isSome=true)
  (h:∀ (w:World) (M:Mem) (b:Nat) (i:List (aA e)) (m:HL g),0<i.length->(∀ x∈i,wo e x)->G9 g m->pre (i,m)->AU ⟨P,sp,⟨w,[(0,b)],G,M,fun p=>cW w p.2,1⟩⟩ fn (.is (.one (.sl 0 0 0 i.length (width e)))::mA g m) [(0,[jn e i.length i])] 1 (J2 e i.length d (F (i,m)))):Fi P f e g d G pre F:=by
 intro n o;refine I0 (sp:=sp) (hd:=.sl n (width e)) (κ:=.arr n e) t u j (po:=J2 e n d) (fun k r A C D E=>TJ k r A C s D E) fun w M b x i z q y=>?_;obtain⟨k,r⟩:=z;have k:length (α:=aA e) x=n:=k;have l:=h w M b x i (by rw[k];exact o) r q y;rw[k] at l;exact l
theorem w8 {sp:FuncId->Option Spec} {f:FuncId} {fn:Func} (K:enters P f fn) {e:Kd} {c:List Kd} {d:List cQ} {G:gi} {pre:HL (.sl e::c)->Prop} {F:HL (.sl e::c)->HO d}
  (W:c.length+1<=fn.ntmps) (T:dz d<=1) (m:fn.body.isSome=true)
  (R:∀ (w:World) (M:Mem) (g:HL c),G9 c g->pre (([]:List (aA e)),g)->AU ⟨P,sp,⟨w,[],G,M,fun p=>cW w p.2,0⟩⟩ fn (.is (.one (.v (.slice none 0 0)))::mA c g) [] 0 (post d (F (([]:List (aA e)),g))))
  (h:∀ (w:World) (M:Mem) (i:List (aA e)) (g:HL c),(∀ x∈i,wo e x)->G9 c g->pre (i,g)->AU ⟨P,sp,⟨w,[],G,M,fun p=>cW w p.2,0⟩⟩ fn (.is (.one (.rn e i))::mA c g) [] 0 (post d (F (i,g)))):aL P f (.sl e::c) d G pre F:=by
 intro w M us i V U r A;obtain⟨i,g⟩:=i;have j:=xb r;obtain⟨u,I,Q,y,C⟩:=r;subst Q;have y:Rd M (.sl e) i [u]:=y;refine .inl ⟨K.2 _ _,?_⟩;have l:∀ (s:SV),s.rel (ay.start M) u->AU ⟨P,sp,⟨w,[],G,M,fun p=>cW w p.2,0⟩⟩ fn (s::mA c g) [] 0 (post d (F (i,g))) ->
   Calls P f ⟨u::I⟩ w fun e w'=>∃ v,e=.returned v/\∃ z H,v=mM z/\e8 w.heap.size M H w' d (F (i,g)) z/\Below w.heap.size w w':=by
  intro s hs ht;refine (BS (E:=⟨P,sp,⟨w,[],G,M,fun p=>cW w p.2,0⟩⟩) K.1 m (E9 V U) (JJ hs (ry (ρ:=ay.start M) C)) (by simp only[bG,uN];exact W) ht).mono ?_;rintro e w' ⟨v,sv,σ,ρ,n,a,rfl,hv,Z,L⟩;obtain⟨z,H,e,Y⟩:=ER L rfl rfl T Z hv;exact⟨v,rfl,z,H,e,Y,L.below.below rfl⟩
 have t:=y;rcases y with ⟨D,a,k,ev,q⟩|⟨b,o,k,ev,hc,N⟩
 ·simp only[br,bM] at ev;cases a with
  | none =>have:=q rfl;subst this ev;have D:i=([]:List (aA e)):=D;subst D;exact l (.is (.one (.v (.slice none 0 0)))) ⟨rfl,rfl⟩ (R w M g j.2 A)
  | some O=>exact l (.is (.one (.rn e i))) ⟨t,O,0,k,by rw[ev]⟩ (h w M i g j.1 j.2 A)
 simp only[br,bM] at ev;exact l (.is (.one (.rn e i))) ⟨t,⟨b,o,none⟩,_,k,by rw[ev]⟩ (h w M i g j.1 j.2 A)
end
def mark:Spec:=fun _ _ _ _=>none
theorem EL {N:Nat} {M:Mem} {c:Option Nat} {a:World}:Mem.le (dq N M c a) (dq N M none a):=by intro b l h;unfold dq at h ⊢;rw[ah au];split at h;cases h;exact h
def rdJ (d t:Nat) (a:St):Nat:=match a.S t with
 | .is (.one (.sl i _ _ _ _))=>i
 | _=>d
theorem aL.AE {P:Program} {f:FuncId} {a:List Kd} {e:Kd} {G:gi} {pre:HL a->Prop} {F:HL a->HO [.own e]} (h:aL P f a [.own e] G pre F):aL P f a [.val (.sl e)] G pre F:=by intro w M O s y x k I;refine (h w M O s y x k I).mono ?_;rintro v R ⟨Q,U,L,⟨r,p,t,m,u⟩,A⟩;refine⟨Q,none,L,⟨r,p,t,?_,u⟩,A⟩;show Rd (dq w.heap.size M none R) (.sl e) _ [r];rcases m with ⟨N,rfl⟩|⟨b,o,j,n,l,H,z,rfl,C,m,K,d,g⟩;exact .inl ⟨N,none,0,rfl,fun _=>rfl⟩;rcases m with rfl|rfl;have q:=fY (fun _ _=>bV) g;obtain⟨i,T,fr,D,_⟩:=d;refine .inr ⟨b,0,j,rfl,C,l++i,fun E=>?_,by rw[bb,q];omega,?_⟩;unfold dq;rw[ah au,aj z];exact kB D E;rw[gT,<- q,lr];exact eg (fun _ _ h=>c9 EL h) g;rfl;exact .inl ⟨dP aa,some ⟨b,o,none⟩,0,by rw[show (F s).1.length=0 by omega],fun h=>by cases h⟩
theorem yN (e:Kd):cG (.is (.one (.v (.slice none 0 0)))) (.is (.one (.ro e []))):=by rintro f v ⟨a,d⟩;simp only[br,bM] at a;subst a;exact .inl ⟨rfl,none,0,rfl,fun _=>rfl⟩
theorem PG {E:Env} {N:Nat} {n r:St->Prop} {x:Nat->St->Prop} {l:List Code} {D:St} (t id k c:Nat) (e:Kd) (U:List (aA e)) (cell:Cell) (P:∀ (C:ay) (vs:List Value),cell.rel C vs->U.length=k/\dY (Rd C.M e) U vs) (hS:D.S t=.is (.one (.sl id 0 0 k c))) (hB:D.B id=some [cell]) (hx:U.length=k)
  (h2:Tr E N l ⟨D.slots.set t (.is (.one (.ro e U))),(id,[])::D.blks,D.next⟩ n r x):Tr E N l D n r x:=by
 classical
 intro a w Q hh hn hr hx;refine h2 a w Q ?_ hn hr hx;obtain⟨x1,C,d,Z⟩:=hh;refine⟨by show (D.slots.set t _).length=N;rw[im];exact x1,?_⟩;have z:∀ i j,St.B ⟨D.slots.set t (.is (.one (.ro e U))),(id,[])::D.blks,D.next⟩ i=some j->j≠[]->i≠id/\D.B i=some j:=by
  intro i j h f;simp only[St.B,cR] at h;cases K:beq id i with
  | true=>rw[K] at h;simp only[az] at h;exact absurd h.symm f
  | false =>rw[K] at h;refine⟨fun e=>?_,h⟩;subst e;rw[iq] at K;cases K
 have L:∀ (q:ay) (s:SV),(∀ u,(D.S u).rel q (a.tmps.getD u Go.undef))->s.rel q (a.tmps.getD t Go.undef)->∀ u,(St.S ⟨D.slots.set t s,(id,[])::D.blks,D.next⟩ u).rel q (a.tmps.getD u Go.undef):=by intro q s h hs u;show ((D.slots.set t s).getD u .junk).rel q _;rw[aX,wL];split;rename_i x9;subst x9;split;exact hs;trivial;rw[<- aX];exact h u
 have ht:=d.slots t;rw[hS] at ht;rcases ht with ⟨hz,hv⟩|⟨b,o,x4,K,y2,ho,y3,hv⟩;simp only[br,bM] at hv;refine⟨C,{ d with slots:=L C _ d.slots ?_,blks:=?_,inj:=?_,mem:=?_ },Z⟩;rw[hv];have y0:U=[]:=dP aa;subst y0;exact .inl ⟨rfl,none,0,rfl,fun _=>rfl⟩;intro i j h f;exact d.blks i j (z i j h f).2 f;intro i i' j H b h f h' A;exact d.inj i i' j H b (z i j h f).2 f (z i' H h' A).2 A;intro b l F;obtain⟨W,X⟩:=d.mem b l F;exact⟨fun i j h f=>W i j (z i j h f).2 f,X⟩
 ·simp only[br,bM] at hv;obtain⟨l0,Y,v1,v2,e1,x6,e2⟩:=d.blks id _ hB au b K;obtain⟨y1,x3⟩:=P C v1 x6;have e2:v2=[]:=e2;subst e2;rw[bq] at e1;subst e1;have T:C.M b=none:=by
   cases F:C.M b with
   | none=>rfl
   | some l=>exact absurd K ((d.mem b l F).1 id _ hB au)
  obtain⟨I,el,fr,R,x8,_⟩:=Y;have x2:=fun hn=>kB R hn;let q:ay:=⟨C.m,C.n,fun p=>if p=b then b8 w b else C.M p⟩;have G:Mem.le C.M q.M:=by intro p l V;show (if p=b then b8 w b else C.M p)=some l;by_cases e:p=b;subst e;rw[T] at V;cases V;rw[ah e];exact V
  have x0:ay.le C q:=⟨fun _ _ h=>⟨h,rfl⟩,G⟩;have x5:l0++I≠[]->q.M b=some (l0++I):=fun hn=>by show (if b=b then b8 w b else _)=_;rw[aj rfl,x2 hn]
  refine⟨q,{ d with slots:=L q _ (fun u=>SV.fi x0 (d.slots u)) ?_,blks:=?_,inj:=?_,mem:=?_,old:=?_,glob:=?_,bound:=d.bound,init:=d.init,memle:=fun p l' O=>G p l' (d.memle p l' O) },Z⟩;rw[hv];show Rd q.M (.sl e) U _;rcases ho with rfl|rfl;have V:=fY (fun _ _=>bV) x3;refine .inr ⟨b,0+0*c,x4,by rw[y1],aa,l0++I,x5,by rw[bb,V];omega,?_⟩;rw[show 0+0*c=0 by omega,gT,<- V,lr rfl];exact eg (fun _ _ h=>c9 G h) x3;exact .inl ⟨dP aa,some ⟨b,o,none⟩,0,by rw[show k=0 by omega],fun h=>by cases h⟩;intro i j h f p O;obtain⟨l,W,X⟩:=d.blks i j (z i j h f).2 f p O;exact⟨l,W,dW x0 X⟩;intro i i' j H p h f h' A;exact d.inj i i' j H p (z i j h f).2 f (z i' H h' A).2 A;intro p l F;have F:(if p=b then b8 w b else C.M p)=some l:=F;by_cases e:p=b;subst e;rw[aj rfl] at F;refine⟨fun i j h f hi=>(z i j h f).1 (d.inj i id j _ p (z i j h f).2 f hB au hi K),?_⟩;obtain⟨el,fr,hh⟩:=iJ F;exact⟨el,fr,hh⟩;rw[ah e] at F;obtain⟨W,X⟩:=d.mem p l F;exact⟨fun i j h f=>W i j (z i j h f).2 f,X⟩;intro p l F x7;have F:(if p=b then b8 w b else C.M p)=some l:=F;by_cases e:p=b;subst e;rcases (d.bound id p K).1 with h|h;omega;exact .inl h;rw[ah e] at F;exact d.old p l F x7;intro g κ y hg;exact kg G (d.glob g κ y hg)
theorem UC {E:Env} {N:Nat} {n r:St->Prop} {x:Nat->St->Prop} {l:List Code} {a:St} (t id k c:Nat) (e:Kd) (b:List (aA e)) (g:a.S t=.is (.one (.sl id 0 0 k c))) (f:a.B id=some [.row e k b]) (i:b.length=k)
  (d:Tr E N l ⟨a.slots.set t (.is (.one (.ro e b))),(id,[])::a.blks,a.next⟩ n r x):Tr E N l a n r x :=
 PG t id k c e b (.row e k b) (fun _ _ h=>h) g f i d
theorem PH {E:Env} {N:Nat} {n r:St->Prop} {x:Nat->St->Prop} {l:List Code} {a:St} (t id k c:Nat) (d:IntKind) (b:List Int) (g:a.S t=.is (.one (.sl id 0 0 k c))) (f:a.B id=some [.ints d k b]) (i:b.length=k)
  (e:Tr E N l ⟨a.slots.set t (.is (.one (.ro (.int d) b))),(id,[])::a.blks,a.next⟩ n r x):Tr E N l a n r x :=
 PG t id k c (.int d) b (.ints d k b) (fun _ _ h=>⟨h.1,uZ.2 h.2⟩) g f i e
section
variable {E:Env} {ops:Array Oper} {n base:Nat} {Q:Exit->Act->World->Prop}
theorem Rx (A:aD E.P E.sp) {G:List Nat}:∀ (l:List (Oper × Rec)) (i:Nat) (S:cD) (B:bA) (e:ay) (a:Act) (w:World),Hj E ops n base i l S B ->
  (∀ k p,l[k]?=some p->ops[i+k]?=some p.1)->cN E.w0 n S B e a w->(∀ id b,e id=some b->id<base+8*i) ->
  (∀ m t c,cN E.w0 n (rv n l S) (ru l B) c m t->(∀ id b,c id=some b->id<base+8*(i+l.length))->wpOps E.P ops Q G m t) ->
  wpOps E.P ops Q (List.range' i l.length++G) a w:=by
 intro l;induction l with
 | nil=>intro i S B e a w _ _ y s x;exact x a w e y (by simpa using s)
 | cons p l N =>
  intro i S B e a w C d y s x;obtain⟨o,r⟩:=p;obtain⟨L,C⟩:=C;have F:=d 0 (o,r) rfl;simp only[gn] at F;simp only[bG,tF,iX];unfold wpOps;simp only[F];refine r9 A y L (fun j R _=>?_) (fun m t c z f=>?_)
  ·cases g:e j with
   | none=>rfl
   | some b=>have:=s j b g;omega
  refine N (i+1) _ _ c m t C (fun k q K=>?_) z (fun j b g=>?_) (fun H O D I u=>?_);have:=d (k+1) q (by simpa using K);rw[show i+1+k=i+(k+1) from by omega];exact this;rcases f j b g with h|h;have:=s j b h;omega;omega;refine x H O D ?_ (fun j b g=>?_);unfold rv ru at *;simp only[cg,cM];rw[xO n l (0+1) 0,xN l (0+1) 0];exact I;have:=u j b g;simp only[bG];omega
theorem aaQ (r:aD E.P E.sp) {z:List Nat} {d:List Oper} {i N:Nat} {e:St} {K:St->List Rec->Prop} {a:Act} {w:World} {s:ay} (h:uD E ops i d e [] K) (g:∀ k o,d[k]?=some o->ops[i+k]?=some o)
  (L:e.slots.length=N) (V:cN E.w0 N e.S e.B s a w) (O:∀ id b,s id=some b->id<e.next+8*i)
  (U:∀ c rs j l,Holds E.w0 N { c with next:=c.next+8*(i+d.length) } j l->K c rs->wpOps E.P ops Q z j l):wpOps E.P ops Q (List.range' i d.length++z) a w:=by
 obtain⟨rs,c,D,u,x,F,H,y,I⟩:=Af _ _ _ _ _ h;have f:(d.zip rs).length=d.length:=by simp[D]
 rw[L] at u x y;rw[<- f];refine Rx r (d.zip rs) i e.S e.B s a w u (fun k p T=>?_) V O (fun j l t q m=>?_);have:=List.getElem?_zip_eq_some.1 T;exact g k p.1 this.1
 ·refine U c _ j l ⟨y,t,?_,?_⟩ I
  ·have A:({ c with next:=c.next+8*(i+d.length) }:St).S=rv N (d.zip rs) e.S:=by
    show c.S=_;rw[x];unfold rv;exact xO N _ i 0 e.S
   have C:({ c with next:=c.next+8*(i+d.length) }:St).B=ru (d.zip rs) e.B:=by show c.B=_;rw[F];unfold ru;exact xN _ i 0 e.B
   rw[A,C];exact q
  intro id b R;show id<c.next+8*(i+d.length);have:=m id b R;rw[f] at this;rw[H];exact this
end
section
variable {E:Env}
def yE (c:ay) (a:Nat):List (Nat × Nat):=(range a).filterMap fun i=>(c i).map fun b=>(i,b)
theorem a6 {ρ:ay} {c:Nat} {p:Nat × Nat}:p∈yE ρ c↔p.1<c/\ρ p.1=some p.2:=by unfold yE;rw[List.mem_filterMap];constructor;rintro⟨i,g,h⟩;obtain⟨b,f,rfl⟩:=Option.map_eq_some_iff.1 h;exact⟨List.mem_range.1 g,f⟩;rintro⟨d,e⟩;exact⟨p.1,List.mem_range.2 d,by rw[e];rfl⟩
end
namespace Ob
structure rl (S:Nat->Prop) (w w':World):Prop where
 os:w'.os=w.os
 tape:w'.tape=w.tape
 output:w'.output=w.output
 size:w.heap.size<=w'.heap.size
 block:∀ k,k<w.heap.size->¬ S k->w'.heap[k]?=w.heap[k]?
structure ai where
 P:World->Mem->(Nat->Prop)->Prop
 mono:∀ w M M' F,Mem.le M M'->P w M F->P w M' F
 stable:∀ w w' M F,P w M F->(∀ b,F b->w'.heap[b]?=w.heap[b]?)->P w' M F
 lt:∀ w M F,P w M F->∀ b,F b->b<w.heap.size
def ai.none:ai:=⟨fun _ _ F=>∀ b,¬ F b,fun _ _ _ _ _ h=>h,fun _ _ _ _ h _=>h,fun _ _ _ h b f=>(h b f).elim⟩
structure b5 where
 P:Program
 sp:FuncId->Option Spec
 gl:Nat->Option (Sigma aA)
 w:World
 S:Nat->Prop
 M:Mem
 pins:List (Nat × Nat):=[]
 ptop:Nat:=0
structure GOk (E:b5) (W:cw) (F:Nat->Prop):Prop where
 gl:W.gl=E.gl
 kep:rl E.S E.w W.w
 ids:∀ p∈W.ids,E.S p.2\/E.w.heap.size<=p.2
 foot:∀ b,F b->E.S b\/E.w.heap.size<=b
 own:∀ b,F b->W.own b=false
 mem:∀ b,F b->∀ l,W.M b≠some l
 old:∀ b l,W.M b=some l->b<E.w.heap.size->E.S b\/E.M b=some l
 xl:∀ p∈E.pins,p∈W.ids
 plt:∀ p∈E.pins,p.1<E.ptop
 mle:Mem.le E.M W.M
def GH (E:b5) (N:Nat) (d:St) (G:ai) (a:Act) (w:World):Prop :=
 ∃ W F,GOk E W F/\G.P W.w W.M F/\Holds W N d a w
abbrev ji (w:World) (c:Nat->Option (Sigma aA)) (ρ:ay) (nx:Nat):cw:=⟨w,yE ρ nx,c,ρ.M,fun p=>ρ.n p.1,nx⟩
theorem eK {w:World} {f:Nat->Option (Sigma aA)} {ρ:ay} {d:Nat} {b:Nat}:(ji w f ρ d).own b=true↔∃ id,id<d/\ρ id=some b:=by
 simp only[cw.own,qB];constructor
 ·rintro⟨p,c,e⟩;have e:p.2=b:=by simpa using e
  exact⟨p.1,(a6.1 c).1,by rw[<- e];exact (a6.1 c).2⟩
 rintro⟨id,g,h⟩;exact⟨(id,b),a6.2 ⟨g,h⟩,au⟩
theorem aa7 {W:cw} {N:Nat} {S:cD} {B:bA} {d:ay} {a:Act} {w:World} {nx:Nat} (c:cN W N S B d a w) (f:∀ id b,d id=some b->id<nx):cN (ji w W.gl d nx) N S B d a w :=
 ⟨c.defers,c.size,c.slots,kW.refl (ji w W.gl d nx),c.blks,c.inj,fun id b h=>⟨.inr (eK.2 ⟨id,f id b h,h⟩),(c.bound id b h).2⟩,
  fun p e=>⟨(a6.1 e).2,rfl⟩,c.mem,fun b l h _=>.inr h,c.glob,fun p e=>(a6.1 e).1,Mem.le_refl _⟩
theorem aal {E:b5} {W:cw} {F:Nat->Prop} {N:Nat} {S:cD} {B:bA} {o:ay} {a:Act} {w:World} {nx:Nat} (h:GOk E W F) (t:∀ b,F b->b<W.w.heap.size) (f:cN W N S B o a w) (A:∀ id b,o id=some b->id<nx):GOk E (ji w E.gl o nx) F/\∀ b,F b->w.heap[b]?=W.w.heap[b]?:=by
 have g:∀ k,E.w.heap.size>k->¬ E.S k->W.own k=false:=by
  intro k u m;cases s:W.own k with
  | false=>rfl
  | true =>
   simp only[cw.own,qB] at s;obtain⟨p,j,e⟩:=s;have e:p.2=k:=by simpa using e
   rcases h.ids p j with h'|h';exact absurd (e▸h') m;omega
 have d:∀ id b,o id=some b->W.aY b:=fun id b c=>(f.bound id b c).1;refine⟨⟨rfl,⟨f.below.os.trans h.kep.os,f.below.tape.trans h.kep.tape,f.below.output.trans h.kep.output,ja h.kep.size f.below.size,fun k u m=>?_⟩,fun p j=>?_,h.foot,fun b c=>?_,fun b c l C=>?_,fun b l c i=>?_,fun p j=>?_,h.plt,fun b l c=>f.memle b l (h.mle b l c)⟩,fun b c=>f.below.block b (t b c) (h.own b c)⟩;have:=h.kep.size;exact (f.below.block k aa (g k u m)).trans (h.kep.block k u m)
 ·have:=h.kep.size;rcases d p.1 p.2 (a6.1 j).2 with h'|h';exact .inr aa
  ·simp only[cw.own,qB] at h';obtain⟨q,D,e⟩:=h';have e:q.2=p.2:=by simpa using e
   have:=h.ids q D;rw[e] at this;exact this
 ·cases s:(ji w E.gl o nx).own b with
  | false=>rfl
  | true =>obtain⟨id,_,z⟩:=eK.1 s;rcases d id b z with h'|h';have:=t b c;omega;rw[h.own b c] at h';cases h'
 rcases f.old b l C (t b c) with h'|h';rw[h.own b c] at h';cases h';exact h.mem b c l h';have m:=h.kep.size;rcases f.old b l c aa with h'|h';by_cases y:E.S b;exact .inl y;rw[g b i y] at h';cases h';exact h.old b l h' i;have:=(f.init p (h.xl p j)).1;exact a6.2 ⟨A _ _ this,this⟩
theorem GH.kR {E:b5} {N:Nat} {c:St} {G:ai} {a:Act} {w:World} (h:GH E N c G a w) :
  ∃ F ρ,GOk E (ji w E.gl ρ c.next) F/\G.P w ρ.M F/\c.slots.length=N/\cN (ji w E.gl ρ c.next) N c.S c.B ρ a w/\∀ id b,ρ id=some b->id<c.next:=by
 obtain⟨W,F,g,f,k,ρ,e,d⟩:=h;obtain⟨i,j⟩:=aal (nx:=c.next) g (G.lt _ _ _ f) e d;refine⟨F,ρ,i,G.mono _ _ _ _ e.memle (G.stable _ _ _ _ f j),k,?_,d⟩;have:=aa7 (nx:=c.next) e d;rw[g.gl] at this;exact this
abbrev cj (E:b5):cw:=⟨E.w,[],E.gl,fun _=>Option.none,fun _=>0,E.ptop⟩
theorem GH.le {E:b5} {N:Nat} {σ τ:St} {G:ai} {a:Act} {w:World} {K:Prop} (hh:GH E N σ G a w) (h:σ.le (cj E) τ K):K/\GH E N τ G a w:=by
 obtain⟨F,ρ,u,hG,hN,H,hd⟩:=hh.kR;unfold St.le at h;obtain⟨q,h⟩:=qm h;simp only[aQ] at q;obtain⟨⟨g,T⟩,o⟩:=q;have o:E.ptop<=τ.next:=by simpa[tR] using o
 have g:τ.next<=σ.next:=by simpa[tR] using g
 obtain⟨h,R,z⟩:=vI h;obtain⟨hK,f⟩:=xQ h;simp only[St.wf,aQ,mR] at T;obtain⟨x0,x1⟩:=T;have d:∀ i b,(ρ.cut τ.next) i=some b->ρ i=some b:=by intro i b h;simp only[ay.cut] at h;by_cases y:i<τ.next;simpa[y] using h;simp[y] at h
 have C:∀ i b,(ρ.cut τ.next) i=some b->i<τ.next:=by intro i b h;simp only[ay.cut] at h;by_cases y:i<τ.next;exact y;simp[y] at h
 refine⟨hK,ji w E.gl (ρ.cut τ.next) τ.next,F,⟨rfl,u.kep,fun p m=>?_,u.foot,fun b q=>?_,fun b q l hl=>u.mem b q l hl,u.old,fun p m=>?_,u.plt,u.mle⟩,hG,by rw[<- R];exact hN,ρ.cut τ.next,
  ⟨H.defers,H.size,?_,kW.refl _,?_,?_,?_,fun p m=>⟨(a6.1 m).2,rfl⟩,?_,fun b l h _=>.inr h,H.glob,fun p m=>(a6.1 m).1,Mem.le_refl _⟩,C⟩
 have m:=(a6.1 m).2;refine u.ids p (a6.2 ⟨hd _ _ (d _ _ m),d _ _ m⟩)
 ·cases W:(ji w E.gl (ρ.cut τ.next) τ.next).own b with
  | false=>rfl
  | true =>obtain⟨id,_,A⟩:=eK.1 W;have:=u.own b q;rw[eK.2 ⟨id,hd _ _ (d _ _ A),d _ _ A⟩] at this;cases this
 have Q:=u.plt p m;have A:=(a6.1 (u.xl p m)).2;have L:p.1<τ.next:=fe Q o;exact a6.2 ⟨L,by simp only[ay.cut,L,eA];exact A⟩
 ·intro t;rcases z t with h|h;show (τ.slots.getD t .junk).rel _ _;rw[h];trivial
  ·have:=H.slots t;show (τ.slots.getD t .junk).rel _ _;have this:(τ.slots.getD t .junk).rel ρ _:=h _ _ this;refine SV.m6 this ?_;cases Z:τ.slots[t]? with
   | none=>simp[Z,SV.below,SV.ids]
   | some v=>simpa[Z] using x0 v (dS Z)
 intro id O Y I b q;have D:=hO Y;obtain⟨l,L,V⟩:=H.blks id O (f _ D) I b (d _ _ q);have hw:=x1 _ D;refine⟨l,L,sB V (fun c W i y=>?_)⟩;have:=hw.2 c W i y;simpa[lB] using this;intro i j O U b Q A L V h5 h6;exact H.inj i j O U b (f _ (hO Q)) A (f _ (hO L)) V (d _ _ h5) (d _ _ h6);intro i b h;exact⟨.inr (eK.2 ⟨i,C _ _ h,h⟩),(H.bound i b (d _ _ h)).2⟩;intro b l q;obtain⟨Q,A⟩:=H.mem b l q;exact⟨fun i O y I x2=>Q i O (f _ (hO y)) I (d _ _ x2),A⟩
theorem ae1 {a b i m:Nat} (c:a<m) (d:b<m) (h:jN a b i<m):i<m:=by rw[CF] at h;split at h;omega;split at h<;>omega
theorem GH.sw {E:b5} {N:Nat} {f:St} {G:ai} {X:Act} {w:World} {a b:Nat} (hh:GH E N f G X w) (C:ME (cj E) f.next a b=true):GH E N (f.sw a b) G X w:=by
 obtain⟨F,A,o,hG,hn,y,K⟩:=hh.kR;simp only[ME,aQ] at C;obtain⟨⟨Q,R⟩,D,H⟩:=C;have D:E.ptop<=a:=by simpa[tR] using D
 have H:E.ptop<=b:=by simpa[tR] using H
 have Q:=fL Q;have R:=fL R;have I:∀ i k,(f.sw a b).B i=some k->∃ m,f.B (jN a b i)=some m/\k=m.map (Cell.sw a b):=by intro i k h;have:cR (f.blks.map (fun p=>(jN a b p.1,p.2.map (Cell.sw a b)))) i=some k:=h;rw[LC] at this;obtain⟨m,s,d⟩:=Option.map_eq_some_iff.1 this;exact⟨m,s,d.symm⟩
 have u:∀ id x,(A.sw a b) id=some x->id<f.next:=fun id x q=>ae1 Q R (K _ x q);refine⟨ji w E.gl (A.sw a b) f.next,F,⟨rfl,o.kep,fun p g=>?_,o.foot,fun c hc=>?_,o.mem,o.old,fun p g=>?_,o.plt,o.mle⟩,hG,by simpa[St.sw] using hn,A.sw a b,⟨y.defers,y.size,?_,kW.refl _,?_,?_,?_,fun p g=>⟨(a6.1 g).2,rfl⟩,?_,fun c l h _=>.inr h,y.glob,fun p g=>(a6.1 g).1,Mem.le_refl _⟩,u⟩;have g:A (jN a b p.1)=some p.2:=(a6.1 g).2;exact o.ids (jN a b p.1,p.2) (a6.2 ⟨K _ _ g,g⟩)
 ·cases hq:(ji w E.gl (A.sw a b) f.next).own c with
  | false=>rfl
  | true =>obtain⟨id,_,d⟩:=eK.1 hq;have d:A (jN a b id)=some c:=d;have:=o.own c hc;rw[eK.2 ⟨_,K _ _ d,d⟩] at this;cases this
 ·have s:=o.plt p g;have d:=(a6.1 (o.xl p g)).2;have e:jN a b p.1=p.1:=by rw[CF,ah aa,ah aa]
  exact a6.2 ⟨K _ _ d,by show A (jN a b p.1)=_;rw[e];exact d⟩
 ·intro t;have:=SV.uq (a:=a) (b:=b) (y.slots t);have e:(f.sw a b).S t=(f.S t).sw a b:=by
   show (f.slots.map (SV.sw a b)).getD t .junk=(f.slots.getD t .junk).sw a b;rw[aX,aX,dw];cases f.slots[t]? <;> rfl
  rw[e];exact this
 intro i k T z x q;obtain⟨m,s,d⟩:=I i k T;subst d;obtain⟨l,g1,g2⟩:=y.blks _ m s (by intro e;subst e;exact z rfl) x q;exact⟨l,g1,vr g2⟩
 ·intro i j k L x s d Y Z h5 h6;obtain⟨m,V,W⟩:=I i k s;obtain⟨O,k3,k4⟩:=I j L Y;have:=y.inj _ _ m O x V (by intro e;subst e;subst W;exact d rfl) k3 (by intro e;subst e;subst k4;exact Z rfl) h5 h6;have:=congrArg (jN a b) this
  rwa [rf,rf] at this
 intro i x q;exact⟨.inr (eK.2 ⟨i,u i x q,q⟩),(y.bound _ x q).2⟩;intro x l q;obtain⟨s,d⟩:=y.mem x l q;refine⟨fun i k T z U=>?_,d⟩;obtain⟨m,V,W⟩:=I i k T;exact s _ m V (by intro e;subst e;subst W;exact z rfl) U
theorem GH.uL {E:b5} {N:Nat} {G:ai} {c:Act} {w:World}:∀ {l:List (Nat × Nat)} {b:St},GH E N b G c w->Dy (cj E) b.next l=true->GH E N (b.uL l) G c w:=by
 intro l;induction l with
 | nil=>intro b h _;exact h
 | cons p l d =>intro b h a;simp only[Dy,aQ] at a;exact d (h.sw a.1) a.2
theorem GH.sk {E:b5} {N:Nat} {b c:St} {G:ai} {a:Act} {w:World} {K:Prop} {sw:List (Nat × Nat)} (f:GH E N b G a w) (h:b.sk (cj E) sw c K):K/\GH E N c G a w:=by unfold St.sk at h;obtain⟨d,e⟩:=qm h;exact (f.uL d).le e
theorem GH.mono {E:b5} {N:Nat} {c:St} {G b:ai} {a:Act} {w:World} (h:GH E N c G a w) (g:∀ w M F,G.P w M F->b.P w M F):GH E N c b a w:=by obtain⟨W,F,d,e,f⟩:=h;exact⟨W,F,d,g _ _ _ e,f⟩
def aK (P:Program) (l:List Code) (Pre n r:Act->World->Prop) (x:Nat->Act->World->Prop):Prop :=
 ∀ (a:Act) (w:World) (Q:Exit->Act->World->Prop),Pre a w->(∀ a w,n a w->Q .normal a w)->(∀ a w,r a w->Q .ret a w)->(∀ i a w,x i a w->Q (.exit i) a w)->ku P l Q a w
section
variable {P:Program} {Pre n r:Act->World->Prop} {x:Nat->Act->World->Prop}
theorem cF (h:∀ a w,Pre a w->n a w):aK P [] Pre n r x:=fun a w _ e d _ _=>d a w (h a w e)
theorem nZ {l:List Code} {b:Act->World->Prop} (h:∀ a w,Pre a w->b a w) (c:aK P l b n r x):aK P l Pre n r x:=fun a w Q d=>c a w Q (h a w d)
theorem FV {e:Type} {l:List Code} {Pre':e->Act->World->Prop} (h:∀ a w,Pre a w->∃ g,Pre' g a w) (b:∀ g,aK P l (Pre' g) n r x):aK P l Pre n r x:=fun a w Q d=>by obtain⟨g,c⟩:=h a w d;exact b g a w Q c
theorem mE {l1 l2:List Code} (c:Act->World->Prop) (g:aK P l1 Pre c r x) (j:aK P l2 c n r x):aK P (l1++l2) Pre n r x:=by intro a w Q m l e f;refine zf _ _ a w (g a w _ m (fun b d k=>?_) (fun b d h=>e b d h) (fun i b d h=>f i b d h));exact j b d Q k l e f
theorem zB {α β:Type} {l:List Code} {c:Code} (I:α->Act->World->Prop) (k:α->Nat) (out:β->Act->World->Prop) (z:l.head?=some c) (u:dn c=true) (s:∀ a w,Pre a w->∃ g,I g a w)
  (t:∀ g,aK P (aZ c) (I g) (fun a w=>∃ q,I q a w/\k q<k g) r (fun i a w=>match beq i (b7 c) with|true=>∃ o,out o a w|false=>x i a w))
  (O:∀ o,aK P l.tail (out o) n r x):aK P l Pre n r x:=by
 intro a w Q V U D F;cases l with
 | nil=>simp at z
 | cons d l =>
  simp at z;subst z;unfold dn at u;split at u
  ·rename_i id b;obtain⟨C,s⟩:=s a w V;refine wp_block ?_;refine wp_loop_ghost (fun m a w=>∃ g,k g=m/\I g a w) (k C) ⟨C,rfl,s⟩ ?_;rintro m a w ⟨g,rfl,T⟩;have A:=t g a w (Exit.then (fun f h=>∃ H,H<k g/\∃ g,k g=H/\I g f h) (Exit.inBlock id (Exit.then (ku P l Q) Q))) T ?_ ?_ ?_;have:=jP b [] _ a w (by simpa[aZ] using A);refine wp_mono this ?_;intro e f h R;cases e<;>exact R;rintro f h ⟨q,K,L⟩;exact⟨k q,L,q,rfl,K⟩;intro f h j;exact D f h j
   ·intro i f h j;show Exit.inBlock id (Exit.then (ku P l Q) Q) (.exit i) f h;simp only[Exit.inBlock];by_cases y:i=id;subst y;rw[aj rfl];simp only[b7,iq] at j;obtain⟨o,j⟩:=j;exact O o f h Q j U D F
    ·rw[ah y];have:beq i id=false:=by
      cases t:beq i id with
      | false=>rfl
      | true=>exact absurd (beq_true t) y
     simp only[b7,this] at j;exact F i f h j
  cases u
end
section
variable {E:b5} {N:Nat} {n r:Act->World->Prop} {x:Nat->Act->World->Prop}
theorem vE {l:List Code} {k:St} {G:ai} (nn q:St->Prop) (s:Nat->St->Prop)
  (h:∀ (w:World) (ids:List (Nat × Nat)) (M:Mem) (num:Nat × Nat->Nat),Tr ⟨E.P,E.sp,⟨w,ids,E.gl,M,num,k.next⟩⟩ N l k nn q s)
  (z:∀ b a w,nn b->GH E N b G a w->n a w) (A:∀ b a w,q b->GH E N b G a w->r a w) (C:∀ i b a w,s i b->GH E N b G a w->x i a w):aK E.P l (GH E N k G) n r x:=by
 intro a w Q y D H I;obtain⟨F,j,o,m,t,g,u⟩:=y.kR;exact h w (yE j k.next) j.M (fun p=>j.n p.1) a w Q ⟨t,j,g,u⟩ (fun b d e c f=>D d e (z b d e f ⟨_,F,o,m,c⟩))
  (fun b d e c f=>H d e (A b d e f ⟨_,F,o,m,c⟩)) (fun i b d e c f=>I i d e (C i b d e f ⟨_,F,o,m,c⟩))
theorem kK (f:aD E.P E.sp) (k:E.P.follows .mixedOrders=true) {l:List Code} {e:St} {G:ai} (nn g:St->Prop) (j:Nat->St->Prop)
  (h:∀ (w:World) (ids:List (Nat × Nat)) (M:Mem) (num:Nat × Nat->Nat),VC ⟨E.P,E.sp,⟨w,ids,E.gl,M,num,e.next⟩⟩ l e nn g j)
  (m:∀ d a w,nn d->GH E N d G a w->n a w) (o:∀ d a w,g d->GH E N d G a w->r a w) (q:∀ i d a w,j i d->GH E N d G a w->x i a w):aK E.P l (GH E N e G) n r x :=
 vE nn g j (fun w ids M num=>bE (E:=⟨E.P,E.sp,⟨w,ids,E.gl,M,num,e.next⟩⟩) f k l e (h w ids M num)) m o q
theorem vd (j:aD E.P E.sp) (z:E.P.follows .mixedOrders=true) {l:List Code} {s:St} {G:ai} {p:Type} (k:Nat) (f:St->p) (d:p->St) (K:p->Prop) (m:St->Prop) (o:Nat->St->Prop)
  (h:∀ (w:World) (ids:List (Nat × Nat)) (M:Mem) (num:Nat × Nat->Nat),VC ⟨E.P,E.sp,⟨w,ids,E.gl,M,num,s.next⟩⟩ (l.take k) s (fun b=>b.le (cj E) (d (f b)) (K (f b))) m o)
  (u:∀ g,K g->aK E.P (l.drop k) (GH E N (d g) G) n r x) (A:∀ b a w,m b->GH E N b G a w->r a w) (C:∀ i b a w,o i b->GH E N b G a w->x i a w):aK E.P l (GH E N s G) n r x:=by
 rw[<- dR k l];refine mE (fun a w=>∃ g,K g/\GH E N (d g) G a w) (kK j z _ m o h (fun b a w t e=>⟨_,e.le t⟩) A C) ?_;exact FV (Pre':=fun (g:{ g // K g })=>GH E N (d g.1) G) (fun a w ⟨g,y,e⟩=>⟨⟨g,y⟩,e⟩) (fun g=>u g.1 g.2)
theorem kJ (j:aD E.P E.sp) (y:E.P.follows .mixedOrders=true) {l:List Code} {q:St} {G:ai} {p:Type} (k:Nat) (sw:List (Nat × Nat)) (f:St->p) (d:p->St) (K:p->Prop) (m:St->Prop) (o:Nat->St->Prop)
  (h:∀ (w:World) (ids:List (Nat × Nat)) (M:Mem) (num:Nat × Nat->Nat),VC ⟨E.P,E.sp,⟨w,ids,E.gl,M,num,q.next⟩⟩ (l.take k) q (fun b=>b.sk (cj E) sw (d (f (b.uL sw))) (K (f (b.uL sw)))) m o)
  (t:∀ g,K g->aK E.P (l.drop k) (GH E N (d g) G) n r x) (z:∀ b a w,m b->GH E N b G a w->r a w) (A:∀ i b a w,o i b->GH E N b G a w->x i a w):aK E.P l (GH E N q G) n r x:=by
 rw[<- dR k l];refine mE (fun a w=>∃ g,K g/\GH E N (d g) G a w) (kK j y _ m o h (fun b a w s e=>⟨_,e.sk s⟩) z A) ?_;exact FV (Pre':=fun (g:{ g // K g })=>GH E N (d g.1) G) (fun a w ⟨g,u,e⟩=>⟨⟨g,u⟩,e⟩) (fun g=>t g.1 g.2)
theorem K8 {l:List Code} {c:Code} {e:St} {G:ai} (t:Bool) (i:l.head?=some c) (g:nO c=true) (o:jH e.S (nJ c)=.is (.one (.v (.bool t))))
  (y:t=true->aK E.P (fV c++l.tail) (GH E N e G) n r x) (z:t=false->aK E.P (rA c++l.tail) (GH E N e G) n r x):aK E.P l (GH E N e G) n r x:=by
 intro a w Q h k m s;cases l with
 | nil=>simp at i
 | cons d l =>simp at i;subst i;unfold nO at g;split at g;rename_i c p q;obtain⟨F,u,H,A,C,f,D⟩:=h.kR;have b:(jH e.S c).rel u (a.eval c):=cN.fG (E:=⟨E.P,E.sp,ji w E.gl u e.next⟩) f c;simp only[nJ] at o;rw[o] at b;refine wp_cond_split (b9 b) (fun j=>?_) (fun j=>?_);exact jP p l Q a w (y j a w Q h k m s);exact jP q l Q a w (z j a w Q h k m s);cases g
theorem eR {l:List Code} {c:Code} {Pre:Act->World->Prop} (h:Act->World->Prop) (u:l.head?=some c) (o:C0 c=true)
  (F:aK E.P (da c) Pre h r (fun i a w=>match beq i (b7 c) with|true=>h a w|false=>x i a w)) (C:aK E.P l.tail h n r x):aK E.P l Pre n r x:=by
 intro a w Q K D y z;cases l with
 | nil=>simp at u
 | cons d l =>
  simp at u;subst u;unfold C0 at o;split at o
  ·rename_i id b;refine wp_block ?_;have A:=F a w (Exit.inBlock id (Exit.then (ku E.P l Q) Q)) K (fun g j f=>C g j Q f D y z) (fun g j f=>y g j f) ?_;have:=jP b [] _ a w (by simpa[da] using A);refine wp_mono this ?_;intro e g j I;cases e<;>exact I
   ·intro i g j f;simp only[Exit.inBlock];by_cases s:i=id;subst s;rw[aj rfl];simp only[b7,iq] at f;exact C g j Q f D y z
    ·rw[ah s];have:beq i id=false:=by
      cases G:beq i id with
      | false=>rfl
      | true=>exact absurd (beq_true G) s
     simp only[b7,this] at f;exact z i g j f
  cases o
def kt (P:Program) (b:Array Oper) (i:Nat) (l:List Code) (Pre n r:Act->World->Prop) (x:Nat->Act->World->Prop):Prop :=
 ∀ (a:Act) (w:World) (Q:Exit->Act->World->Prop),Pre a w->(∀ a w,n a w->Q .normal a w)->(∀ a w,r a w->Q .ret a w)->(∀ i a w,x i a w->Q (.exit i) a w)->wpOps P b (Exit.then (ku P l Q) Q) (List.range' i (b.size-i)) a w
theorem QA {l:List Code} {rid:Nat} {b:Array Oper} {Pre:Act->World->Prop} (d:l.head?=some (.region rid b false)) (h:kt E.P b 0 l.tail Pre n r x):aK E.P l Pre n r x:=by
 intro a w Q f e g i;cases l with
 | nil=>simp at d
 | cons c l =>simp only[List.head?_cons,az] at d;subst d;show (Code.region rid b false).wp E.P (Exit.then (ku E.P l Q) Q) a w;refine wp_region ?_;have:=h a w Q f e g i;rw[Nat.sub_zero,<- List.range_eq_range'] at this;exact this
theorem HK {l:List Code} {b:Array Oper} {i:Nat} {Pre:Act->World->Prop} (c:b.size<=i) (h:aK E.P l Pre n r x):kt E.P b i l Pre n r x:=by intro a w Q e d f g;rw[Nat.sub_eq_zero_of_le c];exact h a w Q e d f g
theorem iD {l:List Code} {ops:Array Oper} {i:Nat} {Pre b:Act->World->Prop} (h:∀ a w,Pre a w->b a w) (c:kt E.P ops i l b n r x):kt E.P ops i l Pre n r x:=fun a w Q d=>c a w Q (h a w d)
theorem Ov (H:aD E.P E.sp) {l:List Code} {c:Array Oper} {i:Nat} {u:St} {G:ai} {I:Type} (j:Nat) (f:St->I) (L:I->St) (K:I->Prop) (X:i<=j) (hj:j<=c.size)
  (R:∀ (w:World) (ids:List (Nat × Nat)) (M:Mem) (num:Nat × Nat->Nat),uD ⟨E.P,E.sp,⟨w,ids,E.gl,M,num,u.next⟩⟩ c i ((c.toList.drop i).take (j-i)) u [] (fun d _=>({ d with next:=d.next+8*j }:St).le (cj E) (L (f { d with next:=d.next+8*j })) (K (f { d with next:=d.next+8*j }))))
  (T:∀ g,K g->kt E.P c j l (GH E N (L g) G) n r x):kt E.P c i l (GH E N u G) n r x:=by
 intro a w Q W C D Y;have m:((c.toList.drop i).take (j-i)).length=j-i:=by rw[cX,gm,nh];omega
 have e:List.range' i (c.size-i)=List.range' i ((c.toList.drop i).take (j-i)).length++List.range' j (c.size-j):=by
  rw[m];conv=>rhs;arg 2;rw[show j=i+1*(j-i) from by omega]
  rw[List.range'_append];congr 1;omega
 rw[e];obtain⟨F,ρ,A,U,V,s,p⟩:=W.kR;refine aaQ (E:=⟨E.P,E.sp,ji w E.gl ρ u.next⟩) H (R _ _ _ _) (fun k o t=>?_) V s (fun id b h=>?_) (fun d rs O Z q y=>?_);rw[fI,List.getElem?_drop] at t;split at t;simpa using t;cases t;have:=p id b h;omega;rw[m,show i+(j-i)=j from by omega] at q;obtain⟨y,z⟩:=GH.le (E:=E) (G:=G) ⟨_,F,A,U,q⟩ y;exact T _ y O Z Q z C D Y
def nQ (a:Array Oper) (k:Nat):Option Tmp:=match a[k]? with
 | some o=>o.dst
 | none=>none
def yM (a:Array Oper) (k:Nat):List Operand:=match a[k]? with
 | some ⟨_,.call c,_,_,_,_⟩=>c.args.toList
 | _=>[]
def lF (S:cD) (b:Array Oper):Option (Nat × Bool)->Bool
 | none=>true
 | some (j,a)=>match (b[j]?).bind (·.dst) with
  | some d=>match S d,a with
   | .is (.one .T),true=>true
   | .is (.one .F),false=>true
   | _,_=>false
  | none=>false
def JY (S:cD) (a:Array Oper) (k:Nat) (f:FuncId):Bool:=match a[k]? with
 | some ⟨_,.call ⟨.value o,_,_⟩,_,_,_,g⟩=>lF S a g&&match fG S o with
  | .is (.one (.v (.func (.func g) ⟨[]⟩ ⟨[]⟩)))=>beq g f
  | _=>false
 | _=>false
theorem aet {D:Array Oper} {k:Nat} {I:St} {G:ai} {f:FuncId} {fn:Func}
  {α:Type} (sv:α->SV) (G2:α->ai) (J:α->Prop)
  (s:JY I.S D k f=true) (hf:enters E.P f fn)
  (h2:∀ (H:World) (ρ:ay) (us:List Value) (F:Nat->Prop),G.P H ρ.M F->Mem.le ρ.M (b8 H)->rk E.gl ρ.M->(∀ b,F b->∀ l,ρ.M b≠some l)->bn ρ ((yM D k).map (fG I.S)) us ->
   Calls E.P f ⟨us⟩ H fun e W=>∃ g v F2 M2,J g/\e=.returned v/\(G2 g).P W M2 F2/\(∀ b,F2 b->F b\/H.heap.size<=b)/\rl F H W/\Mem.le ρ.M M2/\(∀ b l,M2 b=some l->b8 W b=some l/\¬ F2 b/\(H.heap.size<=b\/F b\/ρ.M b=some l))/\∀ ρ':ay,ay.le ρ ρ'->ρ'.M=M2->(sv g).rel ρ' v)
  {C:Act->World->Prop} {Q:Exit->Act->World->Prop} (h4:∀ g,J g->∀ a w,GH E N (I.put (nQ D k) (sv g)) (G2 g) a w->C a w) {U:Act} {H:World} (y9:GH E N I G U H):∃ o,D[k]?=some o/\Region.wanted o (yielded D U.tmps)=true/\o.wp E.P U H C Q:=by
 obtain⟨z,o,args,ts,ty,pos,af,gd,ho,z1,R⟩:∃ z o args ts ty pos af gd,D[k]?=some ⟨z,.call ⟨.value o,args,ts⟩,ty,pos,af,gd⟩/\fG I.S o=.is (.one (.v (.func (.func f) ⟨[]⟩ ⟨[]⟩)))/\lF I.S D gd=true:=by unfold JY at s;split at s;rename_i h;simp only[aQ] at s;obtain⟨y8,s⟩:=s;split at s;rename_i z2;have:=beq_true s;subst this;exact⟨_,_,_,_,_,_,_,_,h,z2,y8⟩;cases s;cases s
 have x9:nQ D k=z:=by unfold nQ;rw[ho]
 have x1:yM D k=args.toList:=by unfold yM;rw[ho]
 rw[x9] at h4;rw[x1] at h2;obtain⟨F,y,q,y3,Z,c,K⟩:=y9.kR;refine⟨_,ho,?_,?_⟩
 ·unfold Region.wanted;cases gd with
  | none=>rfl
  | some p =>obtain⟨j,z5⟩:=p;unfold lF at R;simp only at R;split at R;rename_i d hd;have L:=c.slots d;split at R;rename_i hT;rw[hT] at L;have L:[_]=[Value.bool true]:=L;have L:=(mU L).1;simp only[nF hd L];rfl;rename_i hF;rw[hF] at L;have L:[_]=[Value.bool false]:=L;have L:=(mU L).1;simp only[nF hd L];rfl;cases R;cases R
 have y7:U.eval o=.func (.func f) ⟨[]⟩ ⟨[]⟩:=by have h:=cN.fG (E:=⟨E.P,E.sp,ji H E.gl y I.next⟩) c o;rw[z1] at h;exact b9 h
 have ex:execOp U.eval ⟨z,.call ⟨.value o,args,ts⟩,ty,pos,af,gd⟩=(callFunc f ((#[]++args.map U.eval) ++ #[])):=by show (do let d <- Deferred.ofValue (U.eval o) (args.map U.eval);invoke d.target d.args)=_;rw[y7];rfl
 have x6:(#[]++args.map U.eval) ++ #[]=(⟨args.toList.map U.eval⟩:Array Value):=by apply jr;simp
 unfold Oper.wp;rw[ex,x6,hf.2];have x8:Mem.le y.M (b8 H):=fun b l u=>by obtain⟨_,el,fr,h⟩:=c.mem b l u;exact jX h
 have x4:bn y (args.toList.map (fG I.S)) (args.toList.map U.eval):=cN.ae9 (E:=⟨E.P,E.sp,ji H E.gl y I.next⟩) c args.toList;refine (h2 H y _ F y3 x8 (fun g e x hg=>c.glob g e x hg) (fun b u l hl=>q.mem b u l hl) x4).mono ?_;rintro e W ⟨g,v,F2,M2,hJ,rfl,y4,x7,A,X,x0,z3⟩;have z4:∀ b l,y.M b=some l->b<H.heap.size:=fun b l u=>sR (x8 b l u);let O:ay:=⟨y.m,y.n,M2⟩;have V:ay.le y O:=⟨fun i b h=>⟨h,rfl⟩,X⟩;have mG:∀ id b,y id=some b->¬ F b:=fun id b u hF=>by have h:=q.own b hF;rw[eK.2 ⟨id,K id b u,u⟩] at h;cases h
 have Y:∀ b,b<H.heap.size->¬ F b->W.heap[b]?=H.heap[b]?:=A.block;have x3:cN (ji W E.gl O I.next) N (fy N z (sv g) I.S) I.B O (U.put z v) W:=by
  refine⟨by rw[put_defers];exact c.defers,by rw[zZ];exact c.size,?_,kW.refl _,?_,c.inj,fun id b h=>⟨.inr (eK.2 ⟨id,K id b h,h⟩),fe (c.bound id b h).2 A.size⟩,fun p hp=>⟨(a6.1 hp).2,rfl⟩,?_,fun b l h _=>.inr h,?_,fun p hp=>(a6.1 hp).1,Mem.le_refl _⟩
  ·intro t;rw[Dm z v t c.size];cases z with
   | none=>exact SV.fi V (c.slots t)
   | some d =>simp only[fy];by_cases hc:t=d/\d<N;simp only[hc,and_self,eA];exact z3 O V rfl;simp only[hc,dT];exact SV.fi V (c.slots t)
  intro id cs T x2 b u;obtain⟨l,y5,y6⟩:=c.blks id cs T x2 b u;refine⟨l,?_,dW V y6⟩;obtain⟨y2,el,fr,k1,k2⟩:=y5;exact⟨y2,el,fr,(Y b (c.bound id b u).2 (mG id b u)).trans k1,k2⟩;intro b l u;obtain⟨h1,h2,h3⟩:=x0 b l u;refine⟨fun i cs hi x2 x5=>?_,iJ h1⟩;rcases h3 with h3|h3|h3;have:=(c.bound i b x5).2;omega;exact mG i b x5 h3;exact (c.mem b l h3).1 i cs hi x2 x5;intro gg e x hg;exact kg V.mem (c.glob gg e x hg)
 have y0:GOk E (ji W E.gl O I.next) F2:=by
  refine⟨rfl,⟨A.os.trans q.kep.os,A.tape.trans q.kep.tape,A.output.trans q.kep.output,ja q.kep.size A.size,fun b u L=>?_⟩,fun p hp=>q.ids p (a6.2 (a6.1 hp)),fun b u=>?_,fun b u=>?_,fun b u l hl=>?_,fun b l u z0=>?_,fun p hp=>a6.2 (a6.1 (q.xl p hp)),q.plt,fun b l u=>X b l (q.mle b l u)⟩;have:=q.kep.size;refine (Y b (fe u this) (fun hF=>?_)).trans (q.kep.block b u L);rcases q.foot b hF with h|h;exact L h;omega;have:=q.kep.size;rcases x7 b u with h|h;exact q.foot b h;exact .inr (ja this h)
  ·cases hc:(ji W E.gl O I.next).own b with
   | false=>rfl
   | true =>obtain⟨id,_,T⟩:=eK.1 hc;have T:y id=some b:=T;rcases x7 b u with h|h;exact (mG id b T h).elim;have:=(c.bound id b T).2;omega
  exact (x0 b l hl).2.1 u;rcases (x0 b l u).2.2 with h|h|h;have:=q.kep.size;have h6:E.w.heap.size<=H.heap.size:=this;omega;rcases q.foot b h with h|h;exact .inl h;omega;exact q.old b l h z0
 have y1:((I.put z (sv g)).S=fy N z (sv g) I.S):=by rw[GA,Z]
 refine h4 g hJ _ W ⟨_,F2,y0,y4,by rw[yL];exact Z,O,?_,fun id b h=>by rw[zY];exact K id b h⟩;rw[y1,J6];exact x3
theorem Nv {P:Program} {a:FuncId->Option Spec} {W W':cw} {b:St}:∀ rs:List ResultVar,r3 ⟨P,a,W⟩ b rs=r3 ⟨P,a,W'⟩ b rs:=by
 intro rs;induction rs with
 | nil=>rfl
 | cons r rs c =>
  have h:Dq ⟨P,a,W⟩ b r=Dq ⟨P,a,W'⟩ b r:=by cases r<;>rfl
  simp only[r3,c,h]
theorem TW {P:Program} {a:FuncId->Option Spec} {W W':cw} {b:St} {fn:Func} {Q:SV->St->Prop} (h:lb ⟨P,a,W⟩ fn Q b):lb ⟨P,a,W'⟩ fn Q b:=by unfold lb GD at h ⊢;rw[Nv (W:=W) (W':=W')] at h;exact h
def cP (E:b5) (fn:Func) (Q:SV->ai->Prop) (a:Act) (w:World):Prop :=
 ∃ b G W,GH E fn.ntmps b G a w/\lb ⟨E.P,E.sp,W⟩ fn (fun sv _=>Q sv G) b
theorem gfn {f:FuncId} {fn:Func} (hf:E.P.funcs[f]?=some fn) (t:fn.body.isSome=true) {args:List SV} {A:List Value} {M:Mem} {F0:Nat->Prop} {G0:ai} {Q:SV->ai->Prop}
  (D:E.M=M) (hM:Mem.le M (b8 E.w)) (I:rk E.gl M) (hv:bn (ay.start M) args A) (hn:args.length<=fn.ntmps) (Z:G0.P E.w M F0) (o:E.pins=[]) (T:∀ b,F0 b->E.S b/\∀ l,M b≠some l)
  (h:aK E.P (ak fn) (GH E fn.ntmps (ln fn args [] 0) G0) (cP E fn Q) (cP E fn Q) (fun _ _ _=>False)) :
  Calls E.P f ⟨A⟩ E.w fun e s=>∃ v d G F ρ,e=.returned v/\d.rel ρ v/\Q d G/\G.P s ρ.M F/\rl E.S E.w s/\Mem.le ρ.M (b8 s)/\(∀ b,F b->E.S b\/E.w.heap.size<=b)/\(∀ b,F b->∀ l,ρ.M b≠some l)/\(∀ b l,ρ.M b=some l->b<E.w.heap.size->E.S b\/M b=some l)/\Mem.le M ρ.M:=by
 subst D;obtain⟨c,U⟩:=Option.isSome_iff_exists.1 t;have K:Start ⟨E.w,[],E.gl,E.M,fun _=>0,0⟩ [] 0 (ay.start E.M) :=
  ⟨fun id R h=>by simp[cR] at h,fun id x0 R Y b h=>by simp[cR] at h,fun _ _ h=>by simp[ay.start] at h,fun _ h=>by simp at h,fun _ _ h=>by simp[ay.start] at h,
   fun b l g=>⟨fun i R h=>by simp[cR] at h,iJ (hM b l g)⟩,fun b l g _=>.inr g,I,fun _ h=>by simp at h,Mem.le_refl _⟩
 have hh:=xY (E:=⟨E.P,E.sp,⟨E.w,[],E.gl,E.M,fun _=>0,0⟩⟩) (fn:=fn) K hv hn;refine calls_of_wp hf U ?_;have q:∀ a w,cP E fn Q a w->a.defers=[]/\∃ v,(results fn a.tmps).run E.P w=.ok v w/\∃ X d G F ρ,(Ending.returned v)=.returned X/\SV.rel ρ d X/\Q d G/\G.P w ρ.M F/\rl E.S E.w w/\Mem.le ρ.M (b8 w)/\(∀ b,F b->E.S b\/E.w.heap.size<=b)/\(∀ b,F b->∀ l,ρ.M b≠some l)/\(∀ b l,ρ.M b=some l->b<E.w.heap.size->E.S b\/E.M b=some l)/\Mem.le E.M ρ.M:=by
  rintro a w ⟨O,G,W,H,u⟩;obtain⟨F,ρ,j,C,hN,k,V⟩:=H.kR;have m:lb ⟨E.P,E.sp,ji w E.gl ρ O.next⟩ fn (fun d _=>Q d G) O:=TW u;unfold lb at m;split at m
  ·rename_i d L;obtain⟨v,g1,g2⟩:=Cv (E:=⟨E.P,E.sp,ji w E.gl ρ O.next⟩) k L
   exact⟨k.defers,v,g1,v,d,G,F,ρ,rfl,g2,m,C,j.kep,fun b l g=>by
    obtain⟨_,el,fr,h⟩:=k.mem b l g
    exact jX h,j.foot,fun b g l z=>j.mem b g l z,j.old,j.mle⟩
  exact m.elim
 have z:flat c++[]=ak fn:=by simp[ak,U]
 suffices hw:ku E.P (ak fn) (bodyPost E.P fn fun e s=>∃ v d G F ρ,e=.returned v/\SV.rel ρ d v/\Q d G/\G.P s ρ.M F/\rl E.S E.w s/\Mem.le ρ.M (b8 s)/\(∀ b,F b->E.S b\/E.w.heap.size<=b)/\(∀ b,F b->∀ l,ρ.M b≠some l)/\(∀ b l,ρ.M b=some l->b<E.w.heap.size->E.S b\/E.M b=some l)/\Mem.le E.M ρ.M) { tmps:=(⟨A⟩:Array Value)++Array.replicate (fn.ntmps-(⟨A⟩:Array Value).size) undef,defers:=[] } E.w by refine wp_mono (jP c [] _ _ _ (z▸hw)) ?_;intro e a' s he;cases e<;>exact he
 refine h _ _ _ ⟨⟨E.w,[],E.gl,E.M,fun _=>0,0⟩,F0,⟨rfl,⟨rfl,rfl,rfl,aE _,fun _ _ _=>rfl⟩,fun p y=>by simp at y,fun b g=>.inl (T b g).1,fun b _=>by simp[cw.own],fun b g l z=>(T b g).2 l z,fun b l h _=>.inr h,fun p y=>(by rw[o] at y;cases y),fun p y=>(by rw[o] at y;cases y),Mem.le_refl _⟩,Z,hh⟩ (fun a w u=>q a w u) (fun a w u=>q a w u) (fun i a w u=>u.elim)
end
theorem Nc {e a:ay}:∀ {l:List Nat} {c:List Value},iB e l c->(∀ i∈l,a i=e i)->iB a l c:=by
 intro l;induction l with
 | nil=>intro c h _;exact h
 | cons i l o=>intro c ⟨b,p,f,g,k⟩ d;exact⟨b,p,by rw[d i au];exact f,o g (fun j m=>d j (by simp[m])),k⟩
theorem Cell.ra {ρ ρ':ay} (d:ρ'.M=ρ.M) {c:Cell} {w:List Value} (h:c.rel ρ w) (g:∀ i∈c.ids,ρ' i=ρ i/\ρ'.n i=ρ.n i):c.rel ρ' w:=by
 cases c with
 | ptr id p=>obtain⟨b,m,e⟩:=h;exact⟨b,by rw[(g id (by simp[Cell.ids])).1];exact m,e⟩
 | pe id a j c=>obtain⟨b,m,e⟩:=h;exact⟨b,by rw[(g id (by simp[Cell.ids])).1];exact m,e⟩
 | sl id a p len c =>rcases h with h|⟨b,o,s,m,t,u,y,e⟩;exact .inl h;exact .inr ⟨b,o,s,by rw[(g id (by simp[Cell.ids])).1];exact m,t,u,by rw[(g id (by simp[Cell.ids])).2];exact y,e⟩
 | clo f l=>obtain⟨A,t,u⟩:=h;exact⟨A,Nc t (fun i z=>(g i z).1),u⟩
 | row e n q=>simp only[Cell.rel,d];exact h
 | ro e q=>simp only[Cell.rel,d];exact h
 | rp e q i p=>simp only[Cell.rel,d];exact h
 | fv e x=>simp only[Cell.rel,d];exact h
 | rn e q=>simp only[Cell.rel,d];exact h
 | v x=>exact h
 | T=>exact h
 | F=>exact h
 | ints k n q=>exact h
 | junk=>exact h
theorem Bv {ρ ρ':ay} (k:ρ'.M=ρ.M) {a:List Cell}:∀ {b:List Value},ax ρ a b->(∀ c∈a,∀ i∈c.ids,ρ' i=ρ i/\ρ'.n i=ρ.n i)->ax ρ' a b:=by
 induction a with
 | nil=>intro b h _;exact h
 | cons c a m =>intro b h f;obtain⟨o,p,e,g,j⟩:=h;exact⟨o,p,e,Cell.ra k g (f c au),m j (fun d l=>f d (by simp[l]))⟩
theorem TV.ra {ρ ρ':ay} (a:ρ'.M=ρ.M) {x:TV} {v:Value} (h:x.rel ρ v) (b:∀ i∈x.ids,ρ' i=ρ i/\ρ'.n i=ρ.n i):x.rel ρ' v:=by
 cases x with
 | one c=>exact Cell.ra a h b
 | agg j =>obtain⟨l,e,g⟩:=h;exact⟨l,e,Bv a g (fun c d i f=>b i (List.mem_flatMap.2 ⟨c,d,f⟩))⟩
theorem RL {c a:ay} (j:a.M=c.M) {l:List TV}:∀ {b:List Value},eM c l b->(∀ x∈l,∀ i∈x.ids,a i=c i/\a.n i=c.n i)->eM a l b:=by
 induction l with
 | nil=>intro b h _;exact h
 | cons x l m =>intro b h d;obtain⟨v,o,e,f,g⟩:=h;exact⟨v,o,e,TV.ra j f (d x au),m g (fun y k=>d y (by simp[k]))⟩
theorem SV.ra {ρ ρ':ay} (a:ρ'.M=ρ.M) {x:SV} {v:Value} (h:x.rel ρ v) (b:∀ i∈x.ids,ρ' i=ρ i/\ρ'.n i=ρ.n i):x.rel ρ' v:=by
 cases x with
 | is x=>exact TV.ra a h b
 | tup l =>obtain⟨g,e,d⟩:=h;exact⟨g,e,RL a d (fun y f i c=>b i (List.mem_flatMap.2 ⟨y,f,c⟩))⟩
 | undef=>exact h
 | junk=>trivial
abbrev pt (p:Nat):Value:=.pointer (some ⟨p,0,none⟩)
def r7 (s:SV):List Nat->List SV->List SV
 | [],l=>l
 | t::a,l=>r7 s a (l.set t s)
theorem GJ (s:SV):∀ (a:List Nat) (l:List SV),(r7 s a l).length=l.length
 | [],_=>rfl
 | t::a,l=>by rw[r7,GJ s a,im]
theorem GI (s:SV):∀ (a:List Nat) (l:List SV) (u:Nat),(r7 s a l).getD u .junk=l.getD u .junk\/(u∈a/\(r7 s a l).getD u .junk=s)
 | [],_,_=>.inl rfl
 | t::a,l,u=>by rw[r7];rcases GI s a (l.set t s) u with h|⟨b,c⟩;rw[h];by_cases e:t=u;subst e;by_cases d:t<l.length;right;refine⟨au,?_⟩;rw[aX,List.getElem?_set_self d];rfl;left;rw[aX,aX,dQ (by rw[im];omega),dQ aa];left;rw[aX,aX,List.getElem?_set_ne e];exact .inr ⟨qh _ b,c⟩
def CZ:Nat->List (List Cell)->List (Nat × List Cell)
 | _,[]=>[]
 | i,c::l=>(i,c)::CZ (i+1) l
theorem DW:∀ (l:List (List Cell)) (i id:Nat),cR (CZ i l) id=if i<=id then l[id-i]? else none
 | [],i,id=>by simp[CZ,cR]
 | c::l,i,id=>by
  rw[CZ,cR,DW l (i+1) id];by_cases h:i=id;subst h;simp
  ·have:beq i id=false:=by
    cases b:beq i id with
    | false=>rfl
    | true=>exact absurd (beq_true b) h
   rw[this];by_cases a:i<=id;rw[aj aa,aj a,show id-i=(id-(i+1))+1 from by omega,lT];rw[ah aa,ah a]
def rM (a:St) (c:List Nat) (b:List (List Cell)):St:=⟨r7 (.is (.one (.ptr a.next 0))) c a.slots,CZ a.next b++a.blks,a.next+b.length⟩
abbrev b5.pinned (E:b5) (id p:Nat):b5:={ E with pins:=(id,p)::E.pins,ptop:=id+1 }
theorem GH.opened {E:b5} {N:Nat} {d:St} {G:ai} {a:Act} {w:World} (hh:GH E N d G a w) {α:Type} (G2:α->ai) (K:α->List (List Cell)) (J:α->Prop) (ts:List Nat) (p:Nat)
  (x6:∀ t∈ts,d.S t=.is (.one (.v (pt p))))
  (ho:∀ M F,G.P w M F->∃ (g:α) (F2:Nat->Prop) (k:List (Option Nat)),J g/\(G2 g).P w M F2/\(∀ b,F2 b->F b)/\k.length=(K g).length/\k[0]?=some (some p)/\(∀ (i b:Nat),k[i]?=some (some b)->F b/\¬ F2 b)/\(∀ (i j b:Nat),k[i]?=some (some b)->k[j]?=some (some b)->i=j) /\
   ∀ T:ay,T.M=M->(∀ (i:Nat) (c:Option Nat),k[i]?=some c->T (d.next+i)=c)->(∀ (i b:Nat),k[i]?=some (some b)->T.n (d.next+i)=cW w b)->∀ (i:Nat) (o:List Cell) (b:Nat),(K g)[i]?=some o->k[i]?=some (some b)->∃ l,b6 w b (cW w b) l/\ax T o l) :
  ∃ g,J g/\GH (E.pinned d.next p) N (rM d ts (K g)) (G2 g) a w:=by
 obtain⟨F,ρ,A,hG,hN,R,hd⟩:=hh.kR;obtain⟨g,F2,k,hJ,x1,V,x8,h0,u,x2,x3⟩:=ho ρ.M F hG;refine⟨g,hJ,?_⟩;let m:ay:=⟨fun id=>if d.next<=id/\id<d.next+k.length then (k[id-d.next]?).join else ρ id,fun id=>if d.next<=id/\id<d.next+k.length then (match (k[id-d.next]?).join with|some b=>cW w b|none=>0) else ρ.n id,ρ.M⟩;have D:∀ i c,k[i]?=some c->m (d.next+i)=c:=fun i c h=>by
  have z:i<k.length:=by rcases bN i k.length with h'|h';exact h';rw[dQ h'] at h;cases h
  show (if _ then _ else _)=c;rw[aj ⟨aa,aa⟩,show d.next+i-d.next=i from by omega,h];rfl
 have H:∀ i b,k[i]?=some (some b)->m.n (d.next+i)=cW w b:=fun i b h=>by
  have z:i<k.length:=by rcases bN i k.length with h'|h';exact h';rw[dQ h'] at h;cases h
  show (if _ then _ else _)=_;rw[aj ⟨aa,aa⟩,show d.next+i-d.next=i from by omega,h];rfl
 have I:∀ id,¬ (d.next<=id/\id<d.next+k.length)->m id=ρ id/\m.n id=ρ.n id:=fun id h=>⟨by show (if _ then _ else _)=_;rw[ah h],by show (if _ then _ else _)=_;rw[ah h]⟩;have f:∀ id b,m id=some b->(∃ i,id=d.next+i/\i<k.length/\k[i]?=some (some b))\/(id<d.next/\ρ id=some b):=by
  intro id b h;by_cases Q:d.next<=id/\id<d.next+k.length
  ·left;refine⟨id-d.next,aa,aa,?_⟩;have h:(k[id-d.next]?).join=some b:=by
    have:(if d.next<=id/\id<d.next+k.length then (k[id-d.next]?).join else ρ id)=some b:=h
    rwa [aj Q] at this
   cases hq:k[id-d.next]? with
   | none=>rw[hq] at h;cases h
   | some c=>rw[hq] at h;exact congrArg some h
  rw[(I id Q).1] at h;exact .inr ⟨hd id b h,h⟩
 have W:ay.le ρ m:=⟨fun id b h=>by
  have x5:=hd id b h;obtain⟨L,O⟩:=I id aa
  exact⟨L.trans h,O⟩,fun b l h=>h⟩
 have mG:∀ id b,ρ id=some b->¬ F b:=fun id b s hF=>by have h:=A.own b hF;rw[eK.2 ⟨id,hd id b s,s⟩] at h;cases h
 have U:∀ id b,m id=some b->id<d.next+(K g).length:=fun id b h=>by rcases f id b h with ⟨i,rfl,z,_⟩|⟨z,_⟩<;>omega
 have hB:∀ id o,(rM d ts (K g)).B id=some o->(∃ i,id=d.next+i/\(K g)[i]?=some o)\/(¬ (d.next<=id/\id<d.next+k.length)/\d.B id=some o):=by
  intro id o h;have h:cR (CZ d.next (K g)++d.blks) id=some o:=h;rw[B9,DW] at h;by_cases Q:d.next<=id
  ·rw[aj Q] at h;cases hq:(K g)[id-d.next]? with
   | some c=>rw[hq] at h;exact .inl ⟨id-d.next,aa,hq.trans h⟩
   | none =>rw[hq] at h;have:=List.getElem?_eq_none_iff.1 hq;exact .inr ⟨aa,h⟩
  rw[ah Q] at h;exact .inr ⟨aa,h⟩
 refine⟨ji w E.gl m (d.next+(K g).length),F2,⟨rfl,A.kep,fun q hq=>?_,fun b s=>A.foot b (V b s),fun b s=>?_,fun b s l hl=>A.mem b (V b s) l hl,A.old,fun q hq=>?_,fun q hq=>?_,A.mle⟩,x1,?_,m,
  ⟨R.defers,R.size,?_,kW.refl _,?_,?_,fun id b h=>⟨.inr (eK.2 ⟨id,U id b h,h⟩),?_⟩,fun q hq=>⟨(a6.1 hq).2,rfl⟩,?_,fun b l h _=>.inr h,R.glob,fun q hq=>(a6.1 hq).1,Mem.le_refl _⟩,U⟩
 rcases f q.1 q.2 (a6.1 hq).2 with ⟨i,_,_,h⟩|⟨L,O⟩;exact A.foot q.2 (u i q.2 h).1;exact A.ids q (a6.2 ⟨L,O⟩)
 ·cases Q:(ji w E.gl m (d.next+(K g).length)).own b with
  | false=>rfl
  | true =>obtain⟨id,_,h⟩:=eK.1 Q;rcases f id b h with ⟨i,_,_,h⟩|⟨_,h⟩;exact ((u i b h).2 s).elim;exact (mG id b h (V b s)).elim
 ·have x9:0<k.length:=by
   rcases bN 0 k.length with h'|h';exact h';rw[dQ h'] at h0;cases h0
  rcases mem_cons.1 hq with rfl|hq
  ·refine a6.2 ⟨by show d.next<_;omega,?_⟩;have:=D 0 _ h0
   rwa [gn] at this
  have h:=a6.1 (A.xl q hq);exact a6.2 ⟨fe h.1 (Nat.le_add_right _ _),(W.id _ _ h.2).1⟩
 rcases mem_cons.1 hq with rfl|hq;exact Nat.lt_succ_self _;have h:=a6.1 (A.xl q hq);exact Bg h.1;show (r7 _ ts d.slots).length=N;rw[GJ];exact hN;intro t;show ((r7 (.is (.one (.ptr d.next 0))) ts d.slots).getD t .junk).rel m _;rcases GI (.is (.one (.ptr d.next 0))) ts d.slots t with h|⟨L,O⟩;rw[h];exact SV.fi W (R.slots t);rw[O];have hv:=R.slots t;rw[x6 t L] at hv;have hv:=b9 hv;rw[hv];have:=D 0 _ h0;rw[gn] at this;exact⟨p,this,rfl⟩
 ·intro id o x4 Y b s;rcases hB id o x4 with ⟨i,rfl,z⟩|⟨Q,z⟩
  ·rcases f _ b s with ⟨j,e,_,h⟩|⟨L,_⟩
   ·have:i=j:=by omega
    subst this;obtain⟨l,Z,k2⟩:=x3 m rfl D H i o b z h;exact⟨l,by rw[H i b h];exact Z,k2⟩
   omega
  obtain⟨L,O⟩:=I id Q;rw[L] at s;obtain⟨l,Z,k2⟩:=R.blks id o z Y b s;exact⟨l,by rw[O];exact Z,dW W k2⟩
 intro i j o x0 b L O h3 h4 h5 h6;rcases f i b h5 with ⟨x,e1,_,g1⟩|⟨e1,g1⟩<;>rcases f j b h6 with ⟨y,e2,_,g2⟩|⟨e2,g2⟩;rw[e1,e2,x2 x y b g1 g2];exact (mG j b g2 (u x b g1).1).elim;exact (mG i b g1 (u y b g2).1).elim;rcases hB i o L with ⟨x,rfl,_⟩|⟨_,Z⟩;omega;rcases hB j x0 h3 with ⟨y,rfl,_⟩|⟨_,k2⟩;omega;exact R.inj i j o x0 b Z O k2 h4 g1 g2;rcases f id b h with ⟨i,_,_,h⟩|⟨_,h⟩;exact G.lt _ _ _ hG b (u i b h).1;exact (R.bound id b h).2;intro b l s;obtain⟨Z,k2⟩:=R.mem b l s;refine⟨fun i o z Y x7=>?_,k2⟩;rcases f i b x7 with ⟨x,_,_,h⟩|⟨x5,h⟩;exact A.mem b (u x b h).1 l s;rcases hB i o z with ⟨x,rfl,_⟩|⟨_,z⟩;omega;exact Z i o z Y h
def F7 (K:List Nat) (v:SV):SV:=match v.ids.all (fun i=>ez i K) with
 | true=>v
 | false=>.junk
def ym (K:List Nat) (id p:Nat):SV->SV
 | .is (.one (.ptr i 0))=>match beq i id with
  | true=>.is (.one (.v (pt p)))
  | false=>F7 K (.is (.one (.ptr i 0)))
 | v=>F7 K v
def abV (K:List Nat) (B:bA) (i:Nat):List Cell:=match B i with
 | some a=>match a.all fun c=>c.ids.all fun j=>ez j K with
  | true=>a
  | false=>[]
 | none=>[]
def kD (a:St) (K:List Nat) (id p:Nat):St:=⟨a.slots.map (ym K id p),K.map (fun i=>(i,abV K a.B i)),a.next⟩
def ga (B:bA) (K:List Nat):Bool:=K.all fun i=>match B i with
 | some (_::_)=>true
 | _=>false
theorem Jg (f:Nat->List Cell):∀ (K:List Nat) (i:Nat) (a:List Cell),cR (K.map fun i=>(i,f i)) i=some a->i∈K/\a=f i
 | [],_,_,h=>by simp[cR] at h
 | k::K,i,a,h=>by
  rw[eI,cR] at h;cases b:beq k i with
  | true =>rw[b] at h;have:=beq_true b;subst this;exact⟨au,(jT h).symm⟩
  | false =>rw[b] at h;obtain⟨c,d⟩:=Jg f K i a h;exact⟨qh _ c,d⟩
theorem GH.closed {E2:b5} {N:Nat} {k:St} {G2:ai} {a:Act} {w:World} (hh:GH E2 N k G2 a w) {α:Type} (G:α->ai) (J:α->Prop) (K L:List Nat) (id p:Nat) (pins:List (Nat × Nat)) (ptop:Nat)
  (x3:(id,p)∈E2.pins) (T:∀ q∈pins,q∈E2.pins/\ez q.1 K=true/\q.1<ptop) (x5:∀ i∈L,ez i K=false) (Z:ga k.B K=true) (f:ga k.B L=true)
  (hc:∀ (ρ:ay) (F:Nat->Prop),G2.P w ρ.M F->ρ id=some p->(∀ i∈L,∀ d b,k.B i=some d->ρ i=some b->∃ l,b6 w b (ρ.n i) l/\ax ρ d l)->(∀ i∈L,∀ j∈L,∀ b,ρ i=some b->ρ j=some b->i=j)->(∀ i∈L,∀ b,ρ i=some b->¬ F b/\b<w.heap.size/\∀ l,ρ.M b≠some l) ->
   ∃ g F',J g/\(G g).P w ρ.M F'/\∀ b,F' b->F b\/∃ i∈L,ρ i=some b) :
  ∃ g,J g/\GH { E2 with pins:=pins,ptop:=ptop } N (kD k K id p) (G g) a w:=by
 obtain⟨F,ρ,U,hG,hN,D,hd⟩:=hh.kR;have C:∀ (Q:List Nat),ga k.B Q=true->∀ i∈Q,∃ d,k.B i=some d/\d≠[]:=by
  intro Q hQ i s;have:=List.all_eq_true.1 hQ i s;revert this;cases m:k.B i with
  | none=>intro h;cases h
  | some d =>
   cases d with
   | nil=>intro h;cases h
   | cons c d=>intro _;exact⟨_,rfl,au⟩
 have mG:∀ i b,ρ i=some b->¬ F b:=fun i b m hF=>by have h:=U.own b hF;rw[eK.2 ⟨i,hd i b m,m⟩] at h;cases h
 have x2:ρ id=some p:=(a6.1 (U.xl _ x3)).2;obtain⟨g,F',hJ,x4,X⟩:=hc ρ F hG x2
  (fun i s d b x1 m=>by
   obtain⟨A,O,z⟩:=C L f i s;rw[x1] at O;cases O
   exact D.blks i d x1 z b m)
  (fun i s j Y b O z=>by
   obtain⟨d,I,H⟩:=C L f i s;obtain⟨A,k3,k4⟩:=C L f j Y
   exact D.inj i j d A b I H k3 k4 O z)
  (fun i s b m=>⟨mG i b m,(D.bound i b m).2,fun l hl=>by
   obtain⟨d,I,H⟩:=C L f i s
   exact (D.mem b l hl).1 i d I H m⟩)
 refine⟨g,hJ,?_⟩;let o:ay:=⟨fun i=>match ez i K with|true=>ρ i|false=>none,ρ.n,ρ.M⟩;have V:∀ i b,o i=some b->ez i K=true/\ρ i=some b:=fun i b h=>by
  have h:(match ez i K with|true=>ρ i|false=>none)=some b:=h;cases u:ez i K with
  | true=>rw[u] at h;exact⟨rfl,h⟩
  | false=>rw[u] at h;cases h
 have W:∀ i,ez i K=true->o i=ρ i/\o.n i=ρ.n i:=fun i h=>⟨by show (match ez i K with|true=>ρ i|false=>none)=_;rw[h],rfl⟩;have R:∀ (v:SV) (x:Value),v.rel ρ x->(F7 K v).rel o x:=fun v x h=>by
  unfold F7;cases u:v.ids.all (fun i=>ez i K) with
  | true=>exact SV.ra (ρ:=ρ) (ρ':=o) rfl h (fun i s=>W i (List.all_eq_true.1 u i s))
  | false=>trivial
 have hB:∀ i d,(kD k K id p).B i=some d->d≠[]->ez i K=true/\k.B i=some d/\∀ c∈d,∀ j∈c.ids,ez j K=true:=by intro i d h y;obtain⟨O,z⟩:=Jg _ K i d h;refine⟨EF O,?_⟩;unfold abV at z;split at z;rename_i ds x6;split at z;rename_i x0;subst z;refine⟨x6,fun c hc j Y=>?_⟩;exact List.all_eq_true.1 (List.all_eq_true.1 x0 c hc) j Y;exact (y z).elim;exact (y z).elim
 refine⟨ji w E2.gl o k.next,F',⟨rfl,U.kep,fun q u=>?_,fun b m=>?_,fun b m=>?_,fun b m l hl=>?_,U.old,fun q u=>?_,fun q u=>(T q u).2.2,U.mle⟩,x4,?_,o,
  ⟨D.defers,D.size,?_,kW.refl _,?_,?_,fun i b h=>⟨.inr (eK.2 ⟨i,hd i b (V i b h).2,h⟩),(D.bound i b (V i b h).2).2⟩,fun q u=>⟨(a6.1 u).2,rfl⟩,?_,fun b l h _=>.inr h,D.glob,fun q u=>(a6.1 u).1,Mem.le_refl _⟩,fun i b h=>hd i b (V i b h).2⟩
 have h:=(V _ _ (a6.1 u).2).2;exact U.ids q (a6.2 ⟨hd _ _ h,h⟩);rcases X b m with h|⟨i,_,h⟩;exact U.foot b h;exact U.ids (i,b) (a6.2 ⟨hd _ _ h,h⟩)
 ·cases u:(ji w E2.gl o k.next).own b with
  | false=>rfl
  | true =>obtain⟨j,_,Y⟩:=eK.1 u;obtain⟨j1,j2⟩:=V j b Y;rcases X b m with h|⟨i,s,h⟩;exact (mG j b j2 h).elim;obtain⟨d,I,H⟩:=C L f i s;obtain⟨A,k3,k4⟩:=C K Z j (vK j1);have:=D.inj i j d A b I H k3 k4 h j2;subst this;rw[x5 i s] at j1;cases j1
 rcases X b m with h|⟨i,s,h⟩;exact U.mem b h l hl;obtain⟨d,I,H⟩:=C L f i s;exact (D.mem b l hl).1 i d I H h;obtain⟨O,z,_⟩:=T q u;have h:=a6.1 (U.xl q O);exact a6.2 ⟨h.1,by rw[(W _ z).1];exact h.2⟩;show (k.slots.map _).length=N;rw[bU];exact hN
 ·intro t;have hv:=D.slots t;have e:(kD k K id p).S t=match k.slots[t]? with|some v=>ym K id p v|none=>.junk:=by
   show (k.slots.map (ym K id p)).getD t .junk=_;rw[aX,dw];cases k.slots[t]? <;> rfl
  have e2:k.S t=match k.slots[t]? with|some v=>v|none=>.junk:=by show k.slots.getD t .junk=_;rw[aX];cases k.slots[t]? <;> rfl
  rw[e];rw[e2] at hv;cases u:k.slots[t]? with
  | none=>trivial
  | some v =>
   rw[u] at hv;show (ym K id p v).rel o _;unfold ym;split
   ·rename_i i;cases m:beq i id with
    | true =>have:=beq_true m;subst this;obtain⟨b,O,z⟩:=hv;rw[x2] at O;cases O;exact⟨z,rfl⟩
    | false=>exact R _ _ hv
   exact R _ _ hv
 intro i d s y b m;obtain⟨O,z,h4⟩:=hB i d s y;obtain⟨l,I,H⟩:=D.blks i d z y b (V i b m).2;exact⟨l,I,Bv (ρ:=ρ) (ρ':=o) rfl H (fun c hc j Y=>W j (h4 c hc j Y))⟩;intro i j d A b I H k3 k4 k5 k6;exact D.inj i j d A b (hB i d I H).2.1 H (hB j A k3 k4).2.1 k4 (V i b k5).2 (V j b k6).2;intro b l m;obtain⟨I,H⟩:=D.mem b l m;exact⟨fun i d s y x7=>I i d (hB i d s y).2.1 y (V i b x7).2,H⟩
def Cell.rZ (f:Nat->Nat):Cell->Cell
 | .ptr i o=>.ptr (f i) o
 | .pe i b j c=>.pe (f i) b j c
 | .sl i b o l c=>.sl (f i) b o l c
 | .clo g l=>.clo g (l.map f)
 | c=>c
theorem Nd {g a:ay} {f:Nat->Nat}:∀ {l:List Nat} {c:List Value},iB g l c->(∀ i∈l,∀ b,g i=some b->a (f i)=some b)->iB a (l.map f) c:=by
 intro l;induction l with
 | nil=>intro c h _;exact h
 | cons i l q=>intro c ⟨b,s,k,m,o⟩ d;exact⟨b,s,d i au b k,q m (fun j p=>d j (by simp[p])),o⟩
theorem aa2 {y a:ay} {f:Nat->Nat} (q:Mem.le y.M a.M) {c:Cell} {A:List Value} (h:c.rel y A) (u:∀ i∈c.ids,∀ b,y i=some b->a (f i)=some b/\a.n (f i)=y.n i):(Cell.rZ f c).rel a A:=by
 cases c with
 | ptr id t=>obtain⟨b,s,e⟩:=h;exact⟨b,(u id (by simp[Cell.ids]) b s).1,e⟩
 | pe id d j c=>obtain⟨b,s,e⟩:=h;exact⟨b,(u id (by simp[Cell.ids]) b s).1,e⟩
 | sl id d t len c =>rcases h with h|⟨b,o,z,s,m,p,C,e⟩;exact .inl h;obtain⟨H,I⟩:=u id (by simp[Cell.ids]) b s;exact .inr ⟨b,o,z,H,m,p,by rw[I];exact C,e⟩
 | clo g l=>obtain⟨K,m,p⟩:=h;exact⟨K,Nd m (fun i G b D=>(u i G b D).1),p⟩
 | row e n w=>exact⟨h.1,eg (fun _ _=>c9 q) h.2⟩
 | ro e w=>exact c9 (e:=.sl e) q h
 | rp e w i t=>obtain⟨b,o,m,p⟩:=h;exact⟨b,o,kg q m,p⟩
 | fv e x=>exact⟨c9 q h.1,h.2⟩
 | rn e w=>exact⟨c9 (e:=.sl e) q h.1,h.2⟩
 | v x=>exact h
 | T=>exact h
 | F=>exact h
 | ints k n w=>exact h
 | junk=>exact h
theorem Mj {ρ ρ':ay} {f:Nat->Nat} (m:Mem.le ρ.M ρ'.M):∀ {a:List Cell} {g:List Value},ax ρ a g->(∀ c∈a,∀ i∈c.ids,∀ b,ρ i=some b->ρ' (f i)=some b/\ρ'.n (f i)=ρ.n i)->ax ρ' (a.map (Cell.rZ f)) g:=by
 intro a;induction a with
 | nil=>intro g h _;exact h
 | cons c a p =>intro g ⟨q,s,e,k,l⟩ j;exact⟨q,s,e,aa2 m k (j c au),p l (fun d o=>j d (by simp[o]))⟩
def Cd (a:List (Option Nat)) (w:World) (M:Mem):ay:=⟨fun i=>(a[i]?).join,fun i=>match (a[i]?).join with|some b=>cW w b|none=>0,M⟩
theorem join_some {a:List (Option Nat)} {i b:Nat}:(a[i]?).join=some b↔a[i]?=some (some b):=by
 cases h:a[i]? with
 | none=>simp
 | some c=>simp
def ai.obj (bl:List (List Cell)) (p:Nat) (sub:ai):ai where
 P w M F:=∃ (bs:List (Option Nat)) (F2:Nat->Prop),sub.P w M F2/\bs.length=bl.length/\bs[0]?=some (some p)/\(∀ b,F b↔(F2 b\/∃ i:Nat,bs[i]?=some (some b)))/\(∀ (i:Nat) (b:Nat),bs[i]?=some (some b)->¬ F2 b/\b<w.heap.size) /\
  (∀ (i j b:Nat),bs[i]?=some (some b)->bs[j]?=some (some b)->i=j)/\∀ (i:Nat) (cs:List Cell) (b:Nat),bl[i]?=some cs->bs[i]?=some (some b)->∃ l,b6 w b (cW w b) l/\ax (Cd bs w M) cs l
 mono w M M' F hM h:=by obtain⟨bs,F2,h1,h2,h3,h4,h5,h6,h7⟩:=h;refine⟨bs,F2,sub.mono _ _ _ _ hM h1,h2,h3,h4,h5,h6,fun i cs b hi hb=>?_⟩;obtain⟨l,k1,k2⟩:=h7 i cs b hi hb;exact⟨l,k1,dW (ρ:=Cd bs w M) (ρ':=Cd bs w M') ⟨fun _ _ h=>⟨h,rfl⟩,hM⟩ k2⟩
 stable w w' M F h hs:=by
  obtain⟨bs,F2,h1,h2,h3,h4,h5,h6,h7⟩:=h;have hheap:∀ (i b:Nat),bs[i]?=some (some b)->w'.heap[b]?=w.heap[b]?:=fun i b hb=>hs b ((h4 b).2 (.inr ⟨i,hb⟩));have hsz:∀ (i b:Nat),bs[i]?=some (some b)->cW w' b=cW w b:=fun i b hb=>by unfold cW;rw[hheap i b hb]
  have hobr:Cd bs w' M=Cd bs w M:=by
   unfold Cd;congr 1;funext i;cases hq:(bs[i]?).join with
   | none=>rfl
   | some b=>exact hsz i b (join_some.1 hq)
  refine⟨bs,F2,sub.stable _ _ _ _ h1 (fun b hb=>hs b ((h4 b).2 (.inl hb))),h2,h3,h4,fun i b hb=>⟨(h5 i b hb).1,?_⟩,h6,fun i cs b hi hb=>?_⟩;have hlt:=(h5 i b hb).2;rcases bN b w'.heap.size with h'|h';exact h';have:=hheap i b hb;rw[eh h',A0 hlt] at this;cases this;obtain⟨l,⟨rest,el,fr,k1,k2⟩,k3⟩:=h7 i cs b hi hb;exact⟨l,⟨rest,el,fr,(hheap i b hb).trans k1,by rw[hsz i b hb];exact k2⟩,by rw[hobr];exact k3⟩
 lt w M F h b hb:=by obtain⟨bs,F2,h1,h2,h3,h4,h5,h6,h7⟩:=h;rcases (h4 b).1 hb with h|⟨i,h⟩;exact sub.lt _ _ _ h1 b h;exact (h5 i b h).2
theorem GH.QW {E:b5} {N:Nat} {g:St} {o:List (List Cell)} {p:Nat} {e:ai} {a:Act} {w:World} (U:GH E N g (ai.obj o p e) a w) (y:List Nat) (u:∀ t∈y,g.S t=.is (.one (.v (pt p)))) :
  GH (E.pinned g.next p) N (rM g y (o.map fun m=>m.map (Cell.rZ (g.next + ·)))) e a w:=by
 obtain⟨_,_,h⟩:=U.opened (α:=Unit) (fun _=>e) (fun _=>o.map fun m=>m.map (Cell.rZ (g.next + ·))) (fun _=>True) y p u (fun M F T=>by
  obtain⟨k,F2,H,I,K,A,L,O,Q⟩:=T;refine⟨(),F2,k,trivial,H,fun b f=>(A b).2 (.inl f),by rw[bU];exact I,K,fun i b f=>⟨(A b).2 (.inr ⟨i,f⟩),(L i b f).1⟩,O,?_⟩;intro Y R s V i m b C f;rw[dw] at C;obtain⟨q,D,G⟩:=Option.map_eq_some_iff.1 C;subst G;obtain⟨l,W,X⟩:=Q i q b D f;refine⟨l,W,Mj (ρ:=Cd k w M) (by rw[R];exact Mem.le_refl _) X (fun c _ j _ z d=>?_)⟩;have d:k[j]?=some (some z):=join_some.1 d;refine⟨s j _ d,?_⟩;rw[V j z d];show _=(match (k[j]?).join with|some b=>cW w b|none=>0)
  rw[d];rfl)
 exact h
def pos (L:List Nat) (i:Nat):Nat:=match L with
 | []=>0
 | j::L=>match beq j i with
  | true=>0
  | false=>pos L i+1
theorem H6:∀ (L:List Nat) (i:Nat),ez i L=true->L[pos L i]?=some i
 | [],_,h=>by cases h
 | j::L,i,h=>by
  unfold pos;cases a:beq j i with
  | true=>have:=beq_true a;subst this;rfl
  | false =>
   have:ez i L=true:=by
    unfold ez at h;have b:beq i j=false:=by
     cases c:beq i j with
     | false=>rfl
     | true=>have:=beq_true c;subst this;rw[iq] at a;cases a
    rw[b] at h;exact h
   show (j::L)[pos L i+1]?=some i;rw[lT];exact H6 L i this
def rY (B:bA) (i:Nat):List Cell:=match B i with
 | some a=>a
 | none=>[]
def xa (B:bA) (L:List Nat):Bool:=L.all fun i=>(rY B i).all fun c=>c.ids.all fun j=>ez j L
def kN:List Nat->Bool
 | []=>true
 | i::L => !ez i L&&kN L
theorem xh:∀ (L:List Nat),kN L=true->∀ (i j x:Nat),L[i]?=some x->L[j]?=some x->i=j
 | [],_,i,j,x,h,_=>by simp at h
 | y::L,d,i,j,x,a,b=>by
  simp only[kN,aQ,oz] at d;have c:∀ (k:Nat),L[k]?=some y->False:=fun k e=>by have:=EF (dS e);rw[d.1] at this;cases this
  cases i with
  | zero =>
   cases j with
   | zero=>rfl
   | succ j =>rw[tw] at a;rw[lT] at b;cases a;exact (c j b).elim
  | succ i =>
   cases j with
   | zero =>rw[tw] at b;rw[lT] at a;cases b;exact (c i a).elim
   | succ j =>rw[lT] at a b;rw[xh L d.2 i j x a b]
theorem GH.ab2 {U:b5} {N:Nat} {f:St} {D:ai} {a:Act} {w:World} (hh:GH U N f D a w) (bl:List (List Cell)) (K L:List Nat) (id p:Nat) (pins:List (Nat × Nat)) (ptop:Nat)
  (R:(id,p)∈U.pins) (C:∀ q∈pins,q∈U.pins/\ez q.1 K=true/\q.1<ptop) (W:∀ i∈L,ez i K=false) (A:ga f.B K=true) (d:ga f.B L=true)
  (h0:L[0]?=some id) (x0:kN L=true) (I:xa f.B L=true) (X:(L.map fun i=>(rY f.B i).map (Cell.rZ (pos L)))=bl) :
  GH { U with pins:=pins,ptop:=ptop } N (kD f K id p) (ai.obj bl p D) a w:=by
 subst X
 obtain⟨_,_,h⟩:=hh.closed (α:=Unit) (fun _=>ai.obj (L.map fun i=>(rY f.B i).map (Cell.rZ (pos L))) p D) (fun _=>True) K L id p pins ptop R C W A d (fun ρ F hG hp u O z=>by
  have k:∀ (i b:Nat),(L.map ρ.m)[i]?=some (some b)->∃ j,L[i]?=some j/\ρ j=some b:=fun i b h=>by rw[dw] at h;obtain⟨j,g,s⟩:=Option.map_eq_some_iff.1 h;exact⟨j,g,s⟩
  refine⟨(),fun b=>F b\/∃ i:Nat,(L.map ρ.m)[i]?=some (some b),trivial,⟨L.map ρ.m,F,hG,by rw[bU,bU],by rw[dw,h0];exact congrArg some hp,fun b=>ky,fun i b G=>?_,fun i j b V Z=>?_,fun i cs b V G=>?_⟩,fun b G=>G.imp (fun q=>q) fun ⟨i,h⟩=>?_⟩;obtain⟨j,g,s⟩:=k i b G;obtain⟨k1,k2,_⟩:=z j (dS g) b s;exact⟨k1,k2⟩;obtain⟨x,g,s⟩:=k i b V;obtain⟨y,h3,h4⟩:=k j b Z;have:=O x (dS g) y (dS h3) b s h4;subst this;exact xh L x0 i j x g h3
  ·obtain⟨x,g,s⟩:=k i b G;rw[dw,g] at V;cases V;have t:=dS g;have o:f.B x=some (rY f.B x):=by
    have:=List.all_eq_true.1 d x t;unfold rY;revert this;cases f.B x with
    | none=>intro h;cases h
    | some cs=>intro _;rfl
   obtain⟨l,k1,k2⟩:=u x t _ b o s;have T:∀ (y c:Nat),y∈L->ρ y=some c->ρ.n y=cW w c:=fun y c hy Y=>by
    have o:f.B y=some (rY f.B y):=by
     have:=List.all_eq_true.1 d y hy;unfold rY;revert this;cases f.B y with
     | none=>intro h;cases h
     | some cs=>intro _;rfl
    obtain⟨l,⟨x1,el,fr,g1,g2,_⟩,_⟩:=u y hy _ c o Y;unfold cW;rw[g1];exact g2.symm
   refine⟨l,by rw[<- T x b t s];exact k1,Mj (ρ:=ρ) (ρ':=Cd (L.map ρ.m) w ρ.M) (Mem.le_refl _) k2 (fun c Y j Z b' H=>?_)⟩;have Q:ez j L=true:=List.all_eq_true.1 (List.all_eq_true.1 (List.all_eq_true.1 I x t) c Y) j Z;have hg:=H6 L j Q;have e:(L.map ρ.m)[pos L j]?=some (some b'):=by rw[dw,hg];exact congrArg some H
   refine⟨join_some.2 e,?_⟩;show (match ((L.map ρ.m)[pos L j]?).join with|some b=>cW w b|none=>0)=_;rw[e,T j b' (vK Q) H];rfl
  ·obtain⟨j,g,s⟩:=k i b h
   exact⟨j,dS g,s⟩)
 exact h
theorem GH.xl {E:b5} {N:Nat} {e:St} {G:ai} {a:Act} {w:World} (s:GH E N e G a w) (t id:Nat) (o:e.S t=.is (.one (.ptr id 0))) (d:Nat) (j:id<d) (k:E.ptop<=d) :
  ∃ p,GH { E with pins:=(id,p)::E.pins,ptop:=d } N e G a w:=by
 obtain⟨F,ρ,c,l,m,h,f⟩:=s.kR;have i:=h.slots t;rw[o] at i;obtain⟨p,g,_⟩:=i;refine⟨p,ji w E.gl ρ e.next,F,⟨rfl,c.kep,c.ids,c.foot,c.own,c.mem,c.old,fun q hq=>?_,fun q hq=>?_,c.mle⟩,l,m,ρ,h,f⟩;rcases mem_cons.1 hq with rfl|hq;exact a6.2 ⟨f _ _ g,g⟩;exact c.xl q hq;rcases mem_cons.1 hq with rfl|hq;exact j;exact fe (c.plt q hq) k
theorem o9 {ρ ρ':ay} (b:ρ'.M=ρ.M) {x:SV} {v:Value} (h:x.rel ρ v) (c:x.ids=[]):x.rel ρ' v:=SV.ra b h (fun i a=>by rw[c] at a;cases a)
def Gh (l:List SV):Bool:=l.all fun v=>v.ids.isEmpty
theorem UE {ρ ρ':ay} (g:ρ'.M=ρ.M):∀ {l:List SV} {a:List Value},bn ρ l a->Gh l=true->bn ρ' l a:=by
 intro l;induction l with
 | nil=>intro a h _;exact h
 | cons x l i =>intro a ⟨v,c,e,d,f⟩ b;simp only[Gh,List.all_cons,aQ,List.isEmpty_iff] at b;exact⟨v,c,e,o9 g d b.1,i f (by simpa[Gh] using b.2)⟩
def dG (P:Program) (j:Nat->Option (Sigma aA)) (f:FuncId) {α β:Type} (args:α->List SV) (pre:α->Prop) (i:α->ai) (sv:α->β->SV) (G2:α->β->ai) (J:α->β->Prop):Prop :=
 ∀ x,pre x->∀ (w:World) (M:Mem) (h:List Value) (F:Nat->Prop),(i x).P w M F->Mem.le M (b8 w)->rk j M->(∀ b,F b->∀ l,M b≠some l)->bn (ay.start M) (args x) h ->
  Calls P f ⟨h⟩ w fun e g=>∃ y v F2 d,J x y/\e=.returned v/\(G2 x y).P g d F2/\(∀ b,F2 b->F b\/w.heap.size<=b)/\rl F w g/\Mem.le M d/\(∀ b l,d b=some l->b8 g b=some l/\¬ F2 b/\(w.heap.size<=b\/F b\/M b=some l))/\(sv x y).rel (ay.start d) v
abbrev kO (P:Program) (b:FuncId->Option Spec) (a:Nat->Option (Sigma aA)) (w:World) (M:Mem) (F:Nat->Prop):b5:=⟨P,b,a,w,F,M,[],0⟩
theorem aeb {P:Program} {sp:FuncId->Option Spec} {i:Nat->Option (Sigma aA)} {f:FuncId} {fn:Func} {g H:Type} {args:g->List SV} {pre:g->Prop} {p:g->ai} {o:g->H->SV} {q:g->H->ai} {J:g->H->Prop}
  (R:enters P f fn) (a:fn.body.isSome=true) (T:∀ x,(args x).length<=fn.ntmps) (D:∀ x y,(o x y).ids=[])
  (h:∀ x,pre x->∀ (w:World) (M:Mem) (F:Nat->Prop),aK P (ak fn) (GH (kO P sp i w M F) fn.ntmps (ln fn (args x) [] 0) (p x)) (cP (kO P sp i w M F) fn fun s G=>∃ y,J x y/\s=o x y/\G=q x y) (cP (kO P sp i w M F) fn fun s G=>∃ y,J x y/\s=o x y/\G=q x y) (fun _ _ _=>False)) :
  dG P i f args pre p o q J:=by
 intro x W w M Y F K Q A t V;refine (gfn (E:=kO P sp i w M F) (M:=M) (F0:=F) (G0:=p x) R.1 a rfl Q A V (T x) K rfl (fun b d=>⟨d,t b d⟩) (h x W w M F)).mono ?_;rintro e Z ⟨v,s,G,F2,ρ,rfl,U,⟨y,L,rfl,rfl⟩,u,O,z,c,j,m,k⟩;refine⟨y,v,F2,ρ.M,L,rfl,u,c,O,k,fun b l d=>⟨z b l d,fun I=>j b I l d,?_⟩,o9 (ρ:=ρ) (ρ':=ay.start ρ.M) rfl U (D x y)⟩;by_cases C:b<w.heap.size;rcases m b l d C with h|h;exact .inr (.inl h);exact .inr (.inr h);exact .inl aa
section
variable {E:b5} {N:Nat} {n r:Act->World->Prop} {x:Nat->Act->World->Prop}
theorem adb {l:List Code} {c d:St} {G:ai} {K:Prop} (h:c.le (cj E) d K) (e:K->aK E.P l (GH E N d G) n r x):aK E.P l (GH E N c G) n r x:=by intro a w Q g;obtain⟨f,b⟩:=g.le h;exact e f a w Q b
theorem Lh {b:St} {p:Nat} {a:List Nat} (h:a.map b.S=a.map fun _=>SV.is (.one (.v (pt p)))):∀ t∈a,b.S t=.is (.one (.v (pt p))):=by
 induction a with
 | nil=>intro t ht;cases ht
 | cons u a c =>simp only[eI,br] at h;intro t ht;rcases mem_cons.1 ht with rfl|ht;exact h.1;exact c h.2 t ht
theorem V0 {l:List Code} {a:St} {f:List (List Cell)} {p:Nat} {b:ai} (c:List Nat) (d:c.map a.S=c.map fun _=>SV.is (.one (.v (pt p)))) (g:St) (e:(rM a c (f.map fun i=>i.map (Cell.rZ (a.next + ·)))).le (cj (E.pinned a.next p)) g True)
  (h:aK E.P l (GH (E.pinned a.next p) N g b) n r x):aK E.P l (GH E N a (ai.obj f p b)) n r x :=
 nZ (fun _ _ j=>((j.QW c (Lh d)).le e).2) h
theorem sK {l:List Code} {d:Array Oper} {i:Nat} {a:St} {bl:List (List Cell)} {p:Nat} {e:ai} (f:List Nat) (g:f.map a.S=f.map fun _=>SV.is (.one (.v (pt p)))) (k:St) (j:(rM a f (bl.map fun o=>o.map (Cell.rZ (a.next + ·)))).le (cj (E.pinned a.next p)) k True)
  (h:kt E.P d i l (GH (E.pinned a.next p) N k e) n r x):kt E.P d i l (GH E N a (ai.obj bl p e)) n r x :=
 iD (fun _ _ q=>((q.QW f (Lh g)).le j).2) h
theorem VY {a:Act} {w:World} {c:St} {g:List (List Cell)} {id p:Nat} {f:ai} (K L:List Nat) (l:E.pins=[]) (j:(L.all fun i => !ez i K)=true) (b:(ga c.B K&&ga c.B L&&kN L&&xa c.B L)=true) (m:L[0]?=some id) (k:(L.map fun i=>(rY c.B i).map (Cell.rZ (pos L)))=g) (d:Nat)
  (y:GH { E with pins:=[(id,p)],ptop:=d } N c f a w):GH E N (kD c K id p) (ai.obj g p f) a w:=by
 simp only[aQ] at b;obtain⟨⟨⟨o,s⟩,t⟩,u⟩:=b;have h:=y.ab2 g K L id p [] E.ptop au (fun q A=>by cases A) (fun i z=>by simpa using List.all_eq_true.1 j i z) o s m t u k;have e:({ { E with pins:=[(id,p)],ptop:=d } with pins:=[],ptop:=E.ptop }:b5)=E:=by cases E;simp only at l;subst l;rfl
 rw[e] at h;exact h
end
def gr (k n:Nat):Array Bool:=⟨replicate k true++replicate (n-k) false⟩
theorem iN {k n:Nat} (h:k<=n):(gr k n).size=n:=by simp[gr];omega
theorem fj {k n:Nat} (j:Nat):(gr k n).getD j false=decide (j<k):=by
 have e:(gr k n)[j]?=(replicate k true++replicate (n-k) false)[j]?:=by simp[gr]
 rw[cx,e];by_cases h:j<k;rw[oJ (by simpa using h),su,aj h];simp[h];rw[qf (by simp;omega),su];split<;>simp[h]
theorem zy {a b:Array Bool} (e:a.size=b.size) (h:∀ j,a.getD j false=b.getD j false):a=b:=by refine Array.ext e (fun i c d=>?_);have:=h i;rw[cx,cx,A0 c,A0 d] at this;simpa using this
theorem As (k n:Nat):AO (gr k n).toList=n-k:=by unfold AO gr;simp[List.countP_append,List.countP_replicate]
theorem kE {a:Array Bool} {i:Nat} (b:i<a.size) (j:Nat):(a.setIfInBounds i true).getD j false=if j=i then true else a.getD j false:=by rw[cx,cx];by_cases h:j=i;subst h;rw[so b];simp;rw[vo (fun e=>h e.symm)];simp[h]
theorem q8 {ops:Array Oper} (b:nW ops.toList=true) {a:Array Bool} (l:a.size=ops.size) (t:Region.ready .any ops a=[]):∀ i,i<ops.size->a.getD i false=true:=by
 have:∀ N i,i<N->i<ops.size->a.getD i false=true:=by
  intro N;induction N with
  | zero=>intro i h;omega
  | succ N m =>
   intro i p c;cases f:a.getD i false with
   | true=>rfl
   | false =>
    exfalso;have d:i∈Region.ready .any ops a:=by
     unfold Region.ready;refine List.mem_filter.2 ⟨List.mem_range.2 c,?_⟩;have k:ops[i]?=some ops[i]:=by simp[c]
     have j:a.getD i true=false:=by
      rw[cx] at f ⊢;have:a[i]?=some a[i]:=by simp[l,c]
      rw[this] at f ⊢;simpa using f
     rw[j,k];simp only[oE,cY,ct,dp];rw[ni];intro e q;cases g:Region.binds .any e with
     | false=>rfl
     | true =>have s:=jv b (by simp[c]:ops.toList[i]?=some ops[i]) e (by simpa using q) g;simp[m e.on aa aa]
    rw[t] at d;cases d
 exact fun i p=>this (i+1) i aa p
theorem jC {ops:Array Oper} {a:Array Bool} (g:a.size=ops.size) {i:Nat}:i∈Region.ready .any ops a↔∃ o,ops[i]?=some o/\a.getD i false=false/\∀ d∈o.after.toList,Region.binds .any d=true->a.getD d.on false=true:=by
 unfold Region.ready;rw[List.mem_filter,List.mem_range];constructor
 ·rintro⟨b,h⟩;have f:ops[i]?=some ops[i]:=by simp[b]
  have c:a[i]?=some a[i]:=by simp[g,b]
  simp only[aQ,oz,f,cY,ct] at h;obtain⟨s,t⟩:=h;refine⟨_,f,?_,fun d l m=>?_⟩;rw[cx,c] at s ⊢;simpa using s;rw[ni] at t;have:=t d (by simpa using l);simpa[m] using this
 ·rintro⟨o,q,j,u⟩;have b:i<ops.size:=by
   rcases bN i ops.size with h|h;exact h;rw[eh h] at q;cases q
  have c:a[i]?=some a[i]:=by simp[g,b]
  refine⟨b,?_⟩;have p:a.getD i true=false:=by rw[cx] at j ⊢;rw[c] at j ⊢;simpa using j
  rw[p,q];simp only[oE,cY,ct,dp];rw[ni];intro e w;cases k:Region.binds .any e with
  | false=>rfl
  | true=>simp[u e (by simpa using w) k]
def XM (Q1 Q:Exit->Act->World->Prop):Prop:=∀ e a w,e≠.normal->Q1 e a w->Q e a w
theorem UF {P:Program} {o:Oper} {a:Act} {w:World} {K i:Act->World->Prop} {f Q:Exit->Act->World->Prop} (g:XM f Q) (h:∀ a w,K a w->i a w) (b:o.wp P a w K f):o.wp P a w i Q:=by
 have d:LetsOut f->LetsOut Q:=fun ⟨a,w,h⟩=>⟨a,w,g _ _ _ (fun e=>by cases e) h⟩;unfold Oper.wp at *;generalize (execOp a.eval o).run P w=r at *;cases r with
 | ok n j =>
  cases n<;>simp only[Oper.upon] at b ⊢ <;>
   first
    | exact h _ _ b
    | exact Calls.mono b (fun e k c=>by
      cases e;exact h _ _ c;exact g _ _ _ (fun e=>by cases e) c
      ·exact d c)
    | exact Rows.mono b (fun _ _ c=>h _ _ c)
 | halt x j=>cases x<;>simp only[Oper.upon] at b ⊢ <;> first|exact b|exact g _ _ _ (fun e=>by cases e) b
theorem MX {P:Program} {c ops:Array Oper} {i:Nat} {o:Oper} {a:Act} {w:World} {K g:Act->World->Prop} {k Q:Exit->Act->World->Prop} (m:c[i]?=some o) (q:ops[i]?=some o) (s:∀ j b,o.guard=some (j,b)->(c[j]?).bind (·.dst)=(ops[j]?).bind (·.dst))
  (l:XM k Q) (h:∀ a w,K a w->g a w) (d:wpOp P c k i K a w):wpOp P ops Q i g a w:=by
 have t:Region.wanted o (yielded c a.tmps)=Region.wanted o (yielded ops a.tmps):=by
  unfold Region.wanted;cases f:o.guard with
  | none=>rfl
  | some p =>
   obtain⟨j,b⟩:=p;have:yielded c a.tmps j=yielded ops a.tmps j:=by unfold yielded;rw[s j b f]
   simp only[this]
 unfold wpOp at *;simp only[m] at d;simp only[q];rw[t] at d;split;rename_i f;rw[aj f] at d;exact d.imp (UF l h) fun ⟨g1,a,w,g2⟩=>⟨g1,a,w,l _ _ _ (fun e=>by cases e) g2⟩;rename_i f;rw[ah f] at d;exact h _ _ d
theorem RQ {P:Program} {ops1 ops:Array Oper} {Q1 Q:Exit->Act->World->Prop} {k:Nat} (lo:Nat) (nN:ops1.size=k) (hk:k<=ops.size) (K:∀ i,i<k->ops1[i]?=ops[i]?) (hg:∀ i o,i<k->ops[i]?=some o->∀ j b,o.guard=some (j,b)->j<k)
  (W:nW ops.toList=true) (V:∀ j,k<=j->j<ops.size->∀ i,lo<=i->i<k->((hY ops.toList []).getD j 0).testBit i=true) (hQ:XM Q1 Q)
  (hC:∀ a w,Q1 .normal a w->∀ g,ops.size-k<=g->wpAny P .any ops Q g (gr k ops.size) a w) :
  ∀ (s:Nat) (f c:Array Bool) (g:Nat) (a:Act) (w:World),f.size=k->c.size=ops.size->(∀ j,j<lo->c.getD j false=true)->(∀ j,j<k->c.getD j false=f.getD j false)->(∀ j,k<=j->c.getD j false=false) ->
   AR ops (fun j=>c.getD j false)->AO c.toList<=g->wpAny P .any ops1 Q1 s f a w->wpAny P .any ops Q g c a w:=by
 have x7:∀ (f c:Array Bool),f.size=k->c.size=ops.size->(∀ j,j<k->c.getD j false=f.getD j false)->∀ i,i<k->(i∈Region.ready .any ops c↔i∈Region.ready .any ops1 f):=by intro f c R I H i O;rw[jC I,jC (by rw[R,nN]),K i O,H i O];constructor;rintro⟨o,y,g1,g2⟩;refine⟨o,y,g1,fun d p q=>?_⟩;have F:=jv W (by simpa using y:ops.toList[i]?=some o) d p q;rw[<- H d.on aa];exact g2 d p q;rintro⟨o,y,g1,g2⟩;refine⟨o,y,g1,fun d p q=>?_⟩;have F:=jv W (by simpa using y:ops.toList[i]?=some o) d p q;rw[H d.on aa];exact g2 d p q
 intro s;induction s with
 | zero =>
  intro f c g a w R I T H h4 hc L hh;obtain⟨u,hn⟩:=hh;have t:∀ j,j<k->f.getD j false=true:=by
   intro j m;cases U:f.getD j false with
   | true=>rfl
   | false =>
    exfalso;have:∀ N i,i<N->i<k->f.getD i false=true:=by
     intro N;induction N with
     | zero=>intro i h;omega
     | succ N x9 =>
      intro i O D;cases U:f.getD i false with
      | true=>rfl
      | false =>
       exfalso;have x3:i<ops.size:=aa;have x6:ops[i]?=some ops[i]:=by simp[x3]
       have:i∈Region.ready .any ops1 f:=(jC (by rw[R,nN])).2 ⟨ops[i],by rw[K i D];exact x6,U,fun d p q=>by
        have F:=jv W (by simp:ops.toList[i]?=some ops[i]) d p q
        exact x9 d.on aa aa⟩
       rw[u] at this;cases this
    rw[this (j+1) j aa m] at U;cases U
  have e:c=gr k ops.size:=zy (by rw[I,iN hk]) (fun j=>by
   rw[fj];by_cases m:j<k;rw[H j m,t j m];simp[m]
   ·rw[h4 j aa];simp[m])
  rw[e] at L ⊢;rw[As] at L;exact hC a w hn g L
 | succ s ih =>
  intro f c g a w R I T H h4 hc L hh;by_cases t:∀ j,j<k->f.getD j false=true
  ·have u:Region.ready .any ops1 f=[]:=by
    rw[AW];intro i O;obtain⟨o,y,g1,_⟩:=(jC (by rw[R,nN])).1 O;have:i<k:=by rcases bN i k with h|h;exact h;rw[eh aa] at y;cases y
    rw[t i this] at g1;cases g1
   have hn:=hh.1 u
   have e:c=gr k ops.size:=zy (by rw[I,iN hk]) (fun j=>by
    rw[fj];by_cases m:j<k;rw[H j m,t j m];simp[m]
    ·rw[h4 j aa];simp[m])
   rw[e] at L ⊢;rw[As] at L;exact hC a w hn g L
  ·have x8:∃ j,j<k/\f.getD j false=false:=gj fun x5=>t fun j m=>by
    cases U:f.getD j false with
    | true=>rfl
    | false=>exact (x5 ⟨j,m,U⟩).elim
   obtain⟨A,X,x0⟩:=x8;have l:c.getD A false=false:=(H A X).trans x0;cases g with
   | zero =>
    exfalso;have:=Fc (Nat.le_zero.1 L) A;rw[cx] at l;have F:A<c.size:=aa;have e2:c[A]?=some c[A]:=by simp[F]
    rw[e2] at l;rw[aX] at this;have e3:c.toList[A]?=some c[A]:=by simp[F]
    rw[e3] at this;simp at l this;rw[l] at this;cases this
   | succ g =>
    refine⟨fun u=>?_,fun i O=>?_⟩;have:=q8 W I u A aa;rw[l] at this;cases this
    ·obtain⟨o,y,g1,g2⟩:=(jC I).1 O;have x4:i<ops.size:=by
      rcases bN i ops.size with h|h;exact h;rw[eh h] at y;cases y
     have D:i<k:=by
      rcases bN i k with h|h;exact h
      ·exfalso
       have:=nV W hc (i+1) i o aa y g2 A (V i h x4 A (by
        rcases bN A lo with h'|h';rw[T A h'] at l;cases l
        ·exact h') X)
       rw[l] at this;cases this
     have x2:=(x7 f c R I H i D).1 O;have z:i<c.size:=aa;have Z:i<f.size:=aa;refine MX (by rw[K i D];exact y) y (fun j b x1=>by rw[K j (hg i o D y j b x1)]) hQ (fun a w hK=>?_) (hh.2 i x2);refine ih (f.setIfInBounds i true) (c.setIfInBounds i true) g a w (by simpa using R) (by simpa using I) (fun j m=>?_) (fun j m=>?_) (fun j m=>?_) ?_ ?_ hK;rw[kE z];split;rfl;exact T j m;rw[kE z,kE Z,H j m];rw[kE z,ah aa];exact h4 j m
     ·intro j oj m C d p q;have C:(c.setIfInBounds i true).getD j false=true:=C;show (c.setIfInBounds i true).getD d.on false=true;rw[kE z] at C ⊢;by_cases Y:j=i
      ·subst Y;have:oj=o:=by rw[y] at m;simpa using m.symm
       subst this;have:=g2 d p q;simp[this]
      simp only[Y,dT] at C;have:=hc j oj m C d p q;have this:c.getD d.on false=true:=this;simp[this]
     ·have e2:c.toList[i]?=some false:=by
       rw[cx] at g1;have e1:c[i]?=some c[i]:=by simp[z]
       rw[e1] at g1;have e3:c.toList[i]?=some c[i]:=by simp[z]
       rw[e3];simpa using g1
      have:=Ix c.toList i e2;simp only[AZ];omega
section
variable {E:Env} {ops:Array Oper} {n base:Nat} {Q:Exit->Act->World->Prop}
theorem Qd (u2:aD E.P E.sp) (lo:Nat) {l:List (Oper × Rec)} {S:cD} {B:bA} (hl:l.map (·.1)=ops.toList) (ht:∀ i o r,lo<=i->l[i]?=some (o,r)->vn E ops (cg n (fun j=>decide (j<i)) 0 l S) (cM (fun j=>decide (j<i)) 0 l B) (base+8*i) o r) (y9:indep ops l=true)
  (hq:∀ a w I,cN E.w0 n (rv n l S) (ru l B) I a w->(∀ id b,I id=some b->id<base+8*ops.size)->Q .normal a w) :
  ∀ (C:Nat) (c:Array Bool) (a:Act) (w:World) (I:ay),c.size=ops.size->AO c.toList<=C->AR ops (fun j=>c.getD j false)->(∀ j,j<lo->c.getD j false=true) ->
   cN E.w0 n (cg n (fun j=>c.getD j false) 0 l S) (cM (fun j=>c.getD j false) 0 l B) I a w ->
   (∀ id b,I id=some b->id<base\/∃ j,c.getD j false=true/\base+8*j<=id/\id<base+8*j+8) ->
   wpAny E.P .any ops Q C c a w:=by
 simp only[indep,aQ] at y9;obtain⟨z,x4⟩:=y9;have x7:l.length=ops.size:=by have:=congrArg length hl;simpa using this
 have V:∀ (j:Nat) (p:Oper × Rec),l[j]?=some p->ops[j]?=some p.1:=by intro j p T;have:=congrArg (fun m:List Oper=>m[j]?) hl;simp only[dw,T,cY] at this;simpa using this.symm
 have y2:l.length<=(hY ops.toList []).length:=by rw[(zI ops.toList []).2.1];simp[x7]
 have A:∀ (j:Nat) (p:Oper × Rec) (k:Nat) (q:Oper × Rec),l[j]?=some p->l[k]?=some q->j<k->((hY ops.toList []).getD k 0).testBit j=true\/p7 ops p q=false:=by intro j p k q g hk x2;exact Ch l 0 [] _ x4 y2 j p k q (by simpa using g) hk (by simpa using x2)
 -- u6 c
 have K:∀ (c:Array Bool) (a:Act) (w:World) (I:ay),c.size=ops.size->(∀ i,i<ops.size->c.getD i false=true) ->
   cN E.w0 n (cg n (fun j=>c.getD j false) 0 l S) (cM (fun j=>c.getD j false) 0 l B) I a w ->
   (∀ id b,I id=some b->id<base\/∃ j,c.getD j false=true/\base+8*j<=id/\id<base+8*j+8)->Q .normal a w:=by
  intro c a w I u D hr hd;refine hq a w I ?_ (fun id b u0=>?_)
  ·have e1:cg n (fun j=>c.getD j false) 0 l S=rv n l S:=by
    funext t;refine lY l 0 S S rfl (fun j p g _=>?_);simp only[bH];refine D j ?_;rcases bN j l.length with h|h;omega;simp[dQ h] at g
   have e2:cM (fun j=>c.getD j false) 0 l B=ru l B:=by funext t;refine lX l 0 B B rfl (fun j p g _=>?_);simp only[bH];refine D j ?_;rcases bN j l.length with h|h;omega;simp[dQ h] at g
   rw[<- e1,<- e2];exact hr
  ·rcases hd id b u0 with h|⟨j,Y,O,Z⟩;omega
   ·have:j<ops.size:=by
     rcases bN j ops.size with h|h;exact h;rw[cx,eh aa] at Y;cases Y
    omega
 have q8:∀ c:Array Bool,c.size=ops.size->Region.ready .any ops c=[]->∀ i,i<ops.size->c.getD i false=true:=by
  intro c u hr;have:∀ N i,i<N->i<ops.size->c.getD i false=true:=by
   intro N;induction N with
   | zero=>intro i h;omega
   | succ N u4 =>
    intro i R F;cases hb:c.getD i false with
    | true=>rfl
    | false =>
     exfalso;have x8:i∈Region.ready .any ops c:=by
      unfold Region.ready;refine List.mem_filter.2 ⟨List.mem_range.2 F,?_⟩;have x3:ops[i]?=some ops[i]:=by simp[F]
      have z8:c.getD i true=false:=by
       rw[cx] at hb ⊢;have:c[i]?=some c[i]:=by simp[u,F]
       rw[this] at hb ⊢;simpa using hb
      rw[z8,x3];simp only[oE,cY,ct,dp];rw[ni];intro e he;cases z6:Region.binds .any e with
      | false=>rfl
      | true =>have x2:=jv z (by simp[F]:ops.toList[i]?=some ops[i]) e (by simpa using he) z6;simp[u4 e.on aa aa]
     rw[hr] at x8;cases x8
  exact fun i R=>this (i+1) i aa R
 intro C;induction C with
 | zero =>
  intro c a w I u hf hc y1 hr hd;have D:∀ i,i<ops.size->c.getD i false=true:=by
   intro i R;have:=Fc (Nat.le_zero.1 hf) i;rw[cx];have O:c[i]?=some c[i]:=by simp[u,R]
   rw[O];have Z:c.toList[i]?=some c[i]:=by simp[u,R]
   rw[aX,Z] at this;simpa using this
  refine⟨?_,K c a w I u D hr hd⟩;unfold Region.ready;rw[List.filter_eq_nil_iff];intro i R;have R:=List.mem_range.1 R;have:=D i R;rw[cx] at this;have O:c[i]?=some c[i]:=by simp[u,R]
  rw[O] at this;rw[cx,O];simp at this ⊢;simp[this]
 | succ C ih =>
  intro c a w I u hf hc y1 hr hd;refine⟨fun h0=>K c a w I u (q8 c u h0) hr hd,fun i R=>?_⟩;obtain⟨z9,y6⟩:=List.mem_filter.1 R;have F:=List.mem_range.1 z9;have x3:ops[i]?=some ops[i]:=by simp[F]
  have y0:c[i]?=some c[i]:=by simp[u,F]
  simp only[aQ,oz,x3,cY,ct] at y6;obtain⟨y7,y8⟩:=y6;have z0:c[i]=false:=by rw[cx,y0] at y7;simpa using y7
  have L:c.getD i false=false:=by rw[cx,y0];simpa using z0
  obtain⟨⟨o,r⟩,T⟩:∃ p,l[i]?=some p:=⟨l[i],by simp[x7,F]⟩;have W:=V i _ T;have eo:ops[i]=o:=by rw[x3] at W;simpa using W
  have U:∀ d∈o.after.toList,Region.binds .any d=true->c.getD d.on false=true:=by intro d x0 x1;rw[ni] at y8;have:=y8 d (by rw[eo];simpa using x0);simpa[x1] using this
  have early:∀ k,((hY ops.toList []).getD i 0).testBit k=true->c.getD k false=true:=nV z hc (i+1) i o aa W U;have x9:∀ j oj,ops[j]?=some oj->((hY ops.toList []).getD j 0).testBit i=true->c.getD j false=false:=by
   intro j oj g hb;cases H:c.getD j false with
   | false=>rfl
   | true =>have:=nV z hc (j+1) j oj aa g (hc j oj g H) i hb;rw[L] at this;cases this
  -- y4 is not z5 from i is z4 with it
  have X:∀ (t j:Nat) (p:Oper × Rec),l[j]?=some p->p.1.dst=some t->(t∈o.looksAt ops\/o.dst=some t)->(decide (j<i)=c.getD j false\/j=i):=by intro t j p g f hto;rcases wK j i with h|h|h;left;rcases A j p i (o,r) g T h with hb|hb;rw[early j hb];simpa using h;exfalso;simp only[p7,oO,aQ] at hb;obtain⟨s1,s2,s3⟩:=Oper.apart_spec hb.1.1.1;rcases hto with hto|hto;exact s1 t f hto;exact s2 t f hto;right;exact h;left;rcases A i (o,r) j p T g h with hb|hb;rw[x9 j p.1 (V j p g) hb];simp;omega;exfalso;simp only[p7,oO,aQ] at hb;obtain⟨s1,s2,s3⟩:=Oper.apart_spec hb.1.1.1;rcases hto with hto|hto;exact s3 t f hto;exact s2 t hto f
  have x5:∀ (t j:Nat) (p:Oper × Rec),l[j]?=some p->hX p.2 t=true->(t∈r.ids\/hX r t=true)->(decide (j<i)=c.getD j false\/j=i):=by intro t j p g f hto;have f:=n6 f;rcases wK j i with h|h|h;left;rcases A j p i (o,r) g T h with hb|hb;rw[early j hb];simpa using h;exfalso;simp only[p7,oO,aQ] at hb;obtain⟨⟨⟨_,b1⟩,b2⟩,b3⟩:=hb;rcases hto with hto|hto;exact mX b1 t f hto;exact mX b3 t f (n6 hto);right;exact h;left;rcases A i (o,r) j p T g h with hb|hb;rw[x9 j p.1 (V j p g) hb];simp;omega;exfalso;simp only[p7,oO,aQ] at hb;obtain⟨⟨⟨_,b1⟩,b2⟩,b3⟩:=hb;rcases hto with hto|hto;exact mX b2 t f hto;exact mX b3 t (n6 hto) f
  have z1:lo<=i:=by rcases bN i lo with h|h;rw[y1 i h] at L;cases L;exact h
  have u3:=ht i o r z1 T;have x6:∀ t∈o.looksAt ops,cg n (fun j=>decide (j<i)) 0 l S t=cg n (fun j=>c.getD j false) 0 l S t:=by intro t hto;refine lY l 0 S S rfl (fun j p g f=>?_);simp only[bH];rcases X t j p g f (.inl hto) with h|h;exact h;subst h;rw[L];simp
  have z2:vn E ops (cg n (fun j=>c.getD j false) 0 l S) (cM (fun j=>c.getD j false) 0 l B) (base+8*i) o r:=by rcases u3 with ⟨Y,O⟩|⟨out,ids,Y,O,Z,h4,h5,h6⟩;exact .inl ⟨we x6 Y,O⟩;refine .inr ⟨out,ids,?_,O,Z,h4,h5,h6⟩;rw[<- D4 x6 ?_];exact Y;intro t z3;rw[<- JD Y,<- h6] at z3;refine lX l 0 B B rfl (fun j p g f=>?_);simp only[bH];rcases x5 t j p g f (.inl z3) with h|h;exact h;subst h;rw[L];simp
  have s:∀ j,(c.setIfInBounds i true).getD j false=if j=i then true else c.getD j false:=by intro j;rw[cx,cx];by_cases h:j=i;subst h;rw[so aa];simp;rw[vo (fun e=>h e.symm)];simp[h]
  unfold wpOp;simp only[W];refine r9 u2 hr z2 (fun k Y O=>?_) (fun a' w' u5 u1 y5=>?_)
  ·cases hk:I k with
   | none=>rfl
   | some b =>
    exfalso;rcases hd k b hk with h|⟨j,Z,h4,h5⟩;omega
    ·have:j=i:=by omega
     subst this;rw[L] at Z;cases Z
  ·have e1:cg n (fun j=>(c.setIfInBounds i true).getD j false) 0 l S=fy n o.dst r.val (cg n (fun j=>c.getD j false) 0 l S):=by
    funext t;by_cases y3:t<n
    ·by_cases y:o.dst=some t
     ·rw[FT (o:=o) (r:=r) y y3 l 0 i S T (by simp only[bH];rw[s];simp) (fun j p g x2 f=>by
       simp only[bH];rw[s,ah aa];rcases X t j p g f (.inr y) with h|h;rw[<- h];simp;omega
       ·omega)]
      simp[fy,y,y3]
     ·have:fy n o.dst r.val (cg n (fun j=>c.getD j false) 0 l S) t=cg n (fun j=>c.getD j false) 0 l S t:=by
       unfold fy;split;rename_i d z7;rw[ah];rintro⟨rfl,_⟩;exact y z7;rfl
      rw[this];refine lY l 0 S S rfl (fun j p g f=>?_);simp only[bH];rw[s];by_cases G:j=i;subst G;rw[T] at g;simp at g;subst g;exact absurd f y;simp[G]
    rw[qP n _ aa];unfold fy;split;rw[ah (by rintro⟨rfl,h⟩;exact y3 h),qP n _ aa];rw[qP n _ aa]
   have e2:cM (fun j=>(c.setIfInBounds i true).getD j false) 0 l B=ir r (cM (fun j=>c.getD j false) 0 l B):=by
    funext t;cases y:hX r t with
    | true =>
     exact FR (o:=o) (r:=r) y _ l 0 i B T (by simp only[bH];rw[s];simp) (fun j p g x2 f=>by
       simp only[bH];rw[s,ah aa];rcases x5 t j p g f (.inr y) with h|h;rw[<- h];simp;omega
       ·omega)
    | false =>rw[Ho y];refine lX l 0 B B rfl (fun j p g f=>?_);simp only[bH];rw[s];by_cases G:j=i;subst G;rw[T] at g;simp at g;subst g;rw[y] at f;cases f;simp[G]
   refine ih (c.setIfInBounds i true) a' w' u5 (by simpa using u) ?_ ?_ (fun j g=>by rw[s];split<;>first|rfl|exact y1 j g) (by rw[e1,e2];exact u1) ?_;have:=Ix c.toList i (by simpa[z0] using y0);simp only[AZ];omega
   ·intro j oj g H d x0 x1;have H:(c.setIfInBounds i true).getD j false=true:=H;show (c.setIfInBounds i true).getD d.on false=true;rw[s] at H ⊢;by_cases G:j=i
    ·subst G;have:oj=o:=by rw[W] at g;simpa using g.symm
     subst this;have:=U d x0 x1;simp[this]
    simp only[G,dT] at H;have:=hc j oj g H d x0 x1;simp[this]
   intro k b hk;rcases y5 k b hk with h|⟨Y,O⟩;rcases hd k b h with h|⟨j,Z,h4⟩;exact .inl h;exact .inr ⟨j,by rw[s];simp[Z],h4⟩;exact .inr ⟨i,by rw[s];simp,Y,O⟩
end
def pJ (P:Program) (ops:Array Oper) (i:Nat) (l:List Code) (Pre n r:Act->World->Prop) (x:Nat->Act->World->Prop):Prop :=
 ∀ (a:Act) (w:World) (Q:Exit->Act->World->Prop),Pre a w->(∀ a w,n a w->Q .normal a w)->(∀ a w,r a w->Q .ret a w)->(∀ i a w,x i a w->Q (.exit i) a w)->∀ fuel,ops.size-i<=fuel->wpAny P .any ops (Exit.then (ku P l Q) Q) fuel (gr i ops.size) a w
def vp (ops:Array Oper) (lo k:Nat):Bool :=
 nW ops.toList&&(ble k ops.size&&((range ops.size).all fun j=>blt j k||(range k).all fun i=>blt i lo||((hY ops.toList []).getD j 0).testBit i)) &&
 (ops.toList.zipIdx.all fun (o,i)=>match o.guard with
  | none=>true
  | some (j,_)=>blt j i)
theorem zi {ops:Array Oper} {lo k:Nat} (h:vp ops lo k=true):nW ops.toList=true:=by simp only[vp,aQ] at h;exact h.1.1
theorem NQ {ops:Array Oper} {lo k:Nat} (h:vp ops lo k=true):k<=ops.size:=by simp only[vp,aQ] at h;exact gR h.1.2.1
theorem IM {ops:Array Oper} {lo k:Nat} (h:vp ops lo k=true):∀ j,k<=j->j<ops.size->∀ i,lo<=i->i<k->((hY ops.toList []).getD j 0).testBit i=true:=by simp only[vp,aQ] at h;intro j d a i c b;have:=List.all_eq_true.1 h.1.2.2 j (List.mem_range.2 a);simp only[oD] at this;rcases this with h|h;have:=fL h;omega;have:=List.all_eq_true.1 h i (List.mem_range.2 b);simp only[oD] at this;rcases this with h|h;have:=fL h;omega;exact h
theorem P6 {ops:Array Oper} {lo k:Nat} (h:vp ops lo k=true) {i:Nat} {o:Oper} (c:ops[i]?=some o) {j:Nat} {b:Bool} (a:o.guard=some (j,b)):j<i:=by simp only[vp,aQ] at h;have:=List.all_eq_true.1 h.2 (o,i) (List.mem_zipIdx_iff_getElem?.2 (by simpa using c));simp only[a] at this;exact fL this
theorem xK {ops:Array Oper} (h:nW ops.toList=true) (k n:Nat):AR ops (fun j=>(gr k n).getD j false):=by intro j g e a d b c;have a:(gr k n).getD j false=true:=a;show (gr k n).getD d.on false=true;rw[fj] at a ⊢;have f:=jv h (by simpa using e:ops.toList[j]?=some g) d b c;simp at a ⊢;omega
theorem GH.drew {E:b5} {N:Nat} {d:St} {G:ai} {a:Act} {w:World} (h:GH E N d G a w):GH E N d G a { w with drawn:=w.drawn+1 }:=by obtain⟨W,F,e,f,g⟩:=h;exact⟨W,F,e,f,g.drew⟩
def nP (ops:Array Oper) (k:Nat):Array Oper:=⟨ops.toList.take k⟩
def uI (a:St) (ops:Array Oper) (i:Nat):List (Oper × Rec):=(ops.toList.take i).map fun o=>(o,⟨match o.dst with|some d=>a.S d|none=>.junk,[],[],[]⟩)
theorem Et {N:Nat} {e:Nat->Bool} {S:cD}:∀ (l:List (Oper × Rec)) (i:Nat),(∀ p∈l,∀ d,p.1.dst=some d->p.2.val=S d)->cg N e i l S=S
 | [],_,_=>rfl
 | (o,r)::l,i,h=>by
  have c:fy N o.dst r.val S=S:=by
   funext t;unfold fy;cases f:o.dst with
   | none=>rfl
   | some d =>have:=h (o,r) au d f;have this:r.val=S d:=this;by_cases b:t=d/\d<N;simp only[b,and_self,eA];exact this;simp only[b,dT]
  simp only[cg];cases e i with
  | true=>simp only[c];exact Et l (i+1) (fun p a=>h p (by simp[a]))
  | false=>exact Et l (i+1) (fun p a=>h p (by simp[a]))
theorem Es {e:Nat->Bool} {B:bA}:∀ (l:List (Oper × Rec)) (i:Nat),(∀ p∈l,p.2.new=[]/\p.2.wr=[])->cM e i l B=B
 | [],_,_=>rfl
 | (o,r)::l,i,h=>by
  obtain⟨a,b⟩:=h (o,r) au;have a:r.new=[]:=a;have b:r.wr=[]:=b;have d:ir r B=B:=by funext t;simp[ir,a,b,cR]
  simp only[cM];cases e i with
  | true=>simp only[d];exact Es l (i+1) (fun p c=>h p (by simp[c]))
  | false=>exact Es l (i+1) (fun p c=>h p (by simp[c]))
theorem I6 {N:Nat} {e:Nat->Bool}:∀ (l m:List (Oper × Rec)) (i:Nat) (S:cD),cg N e i (l++m) S=cg N e (i+l.length) m (cg N e i l S)
 | [],_,_,_=>rfl
 | (o,r)::l,m,i,S=>by simp only[iX,cg];rw[I6 l m (i+1) _,show i+1+l.length=i+((o,r)::l).length from by simp only[bG];omega]
theorem I4 {e:Nat->Bool}:∀ (l m:List (Oper × Rec)) (i:Nat) (B:bA),cM e i (l++m) B=cM e (i+l.length) m (cM e i l B)
 | [],_,_,_=>rfl
 | (o,r)::l,m,i,B=>by simp only[iX,cM];rw[I4 l m (i+1) _,show i+1+l.length=i+((o,r)::l).length from by simp only[bG];omega]
theorem I7 {N:Nat} {e:Nat->Bool} {S:cD}:∀ (l:List (Oper × Rec)) (i:Nat),(∀ j,i<=j->e j=false)->cg N e i l S=S
 | [],_,_=>rfl
 | (o,r)::l,i,h=>by simp only[cg,h i (aE _)];exact I7 l (i+1) (fun j a=>h j aa)
theorem I5 {e:Nat->Bool} {B:bA}:∀ (l:List (Oper × Rec)) (i:Nat),(∀ j,i<=j->e j=false)->cM e i l B=B
 | [],_,_=>rfl
 | (o,r)::l,i,h=>by simp only[cM,h i (aE _)];exact I5 l (i+1) (fun j a=>h j aa)
theorem O0 (a:St) (ops:Array Oper) (i:Nat) (b:i<=ops.size):(uI a ops i).length=i:=by simp[uI];omega
theorem Q4 {N:Nat} {e:Nat->Bool} (a:St) (ops:Array Oper) (i:Nat) (c:i<=ops.size) (l:List (Oper × Rec)):cg N e 0 (uI a ops i++l) a.S=cg N e i l a.S:=by rw[I6,O0 a ops i c,bH];congr 1;refine Et _ 0 (fun p f d b=>?_);obtain⟨o,_,rfl⟩:=mem_map.1 f;have b:o.dst=some d:=b;simp only[b]
theorem Q3 {e:Nat->Bool} (a:St) (ops:Array Oper) (i:Nat) (b:i<=ops.size) (l:List (Oper × Rec)):cM e 0 (uI a ops i++l) a.B=cM e i l a.B:=by rw[I4,O0 a ops i b,bH];congr 1;refine Es _ 0 (fun p c=>?_);obtain⟨o,_,rfl⟩:=mem_map.1 c;exact⟨rfl,rfl⟩
theorem L4 {E:b5} {N:Nat} (O:aD E.P E.sp) {ops:Array Oper} {d:St} {G:ai} {i:Nat} {Kf:St->Prop} {Q1:Exit->Act->World->Prop} (s:i<=ops.size)
  (h1:∀ (w:World) (ids:List (Nat × Nat)) (M:Mem) (num:Nat × Nat->Nat),uD ⟨E.P,E.sp,⟨w,ids,E.gl,M,num,d.next⟩⟩ ops i (ops.toList.drop i) d [] (fun c tr=>F4 (indep ops (uI d ops i++(ops.toList.drop i).zip tr)) (Kf { c with next:=c.next+8*ops.size })))
  {a:Act} {w:World} (hh:GH E N d G a w) (hq:∀ c a w,Kf c->GH E N c G a w->Q1 .normal a w) (f:Nat) (q:ops.size-i<=f):wpAny E.P .any ops Q1 f (gr i ops.size) a w:=by
 obtain⟨F,u,H,hG,hN,A,y⟩:=hh.kR;obtain⟨rs,c,q1,W,X,q4,q5,Y,C⟩:=Af _ _ _ _ _ (h1 w (yE u d.next) u.M (fun p=>u.n p.1));obtain⟨e,C⟩:=qm C;simp only[dH] at e C;rw[hN] at W X Y;have g:nW ops.toList=true:=by simp only[indep,aQ] at e;exact e.1
 have t:(uI d ops i).length=i:=by simp[uI];omega
 have K:(uI d ops i).map (·.1)=ops.toList.take i:=by unfold uI;rw[lx];exact List.map_id' _
 have m:((uI d ops i)++(ops.toList.drop i).zip rs).map (·.1)=ops.toList:=by rw[de,K,List.map_fst_zip (by simp[q1])];exact dR i ops.toList
 have V:((uI d ops i)++(ops.toList.drop i).zip rs).length=ops.size:=by have:=congrArg length m;simpa using this
 have R:(fun j=>(gr i ops.size).getD j false)=fun j=>decide (j<i):=funext fun j=>fj j;refine Qd (E:=⟨E.P,E.sp,ji w E.gl u d.next⟩) (ops:=ops) (n:=N) (base:=d.next) (Q:=Q1) O i (l:=(uI d ops i)++(ops.toList.drop i).zip rs) (S:=d.S) (B:=d.B) m (fun k o r hk z=>?_) e (fun U Z T L D=>?_) f (gr i ops.size) a w u (iN s) (by rw[As];exact q) (xK g i ops.size) (fun j I=>by rw[fj];simpa using I) ?_ (fun id b h=>.inl (y id b h));rw[qf aa,t] at z;have:=Kl _ i (k-i) d.S d.B o r W z;rw[show i+(k-i)=k from by omega] at this;rw[Q4 d ops i s,Q3 d ops i s];exact this
 ·have hK:Holds (ji w E.gl u d.next) N { c with next:=c.next+8*ops.size } U Z:=by
   refine⟨Y,T,?_,fun id b h=>?_⟩
   ·have e1:({ c with next:=c.next+8*ops.size }:St).S=rv N ((uI d ops i)++(ops.toList.drop i).zip rs) d.S:=by
     show c.S=_;rw[X,rv,Q4 d ops i s]
    have e2:({ c with next:=c.next+8*ops.size }:St).B=ru ((uI d ops i)++(ops.toList.drop i).zip rs) d.B:=by show c.B=_;rw[q4,ru,Q3 d ops i s]
    rw[e1,e2];exact L
   show id<c.next+8*ops.size;rw[q5];exact D id b h
  exact hq _ U Z C ⟨_,F,H,hG,hK⟩
 rw[R,Q4 d ops i s,Q3 d ops i s,I7 _ i (fun j I=>by simp;omega),I5 _ i (fun j I=>by simp;omega)];exact A
section
variable {E:b5} {N:Nat} {n r:Act->World->Prop} {x:Nat->Act->World->Prop}
theorem jy (g:E.P.follows .mixedOrders=true) {l:List Code} {rid:Nat} {ops:Array Oper} {f:St} {G:ai} (d:l.head?=some (.region rid ops true)) (h:pJ E.P ops 0 l.tail (GH E N f G) n r x):aK E.P l (GH E N f G) n r x:=by
 intro a w Q j i k m;cases l with
 | nil=>simp at d
 | cons c l =>
  simp only[List.head?_cons,az] at d;subst d;show (Code.region rid ops true).wp E.P (Exit.then (ku E.P l Q) Q) a w;refine wp_region_any g ?_;have e:Array.replicate ops.size false=gr 0 ops.size:=by apply jr;simp[gr]
  rw[e];exact h a _ Q j.drew i k m ops.size aa
theorem eV (V:aD E.P E.sp) {l:List Code} {ops:Array Oper} {D:St} {G:ai} {W:Type} {i:Nat} (k:Nat) (f:St->W) (τ:W->St) (K:W->Prop) (L:i<=k) (p:vp ops i k=true)
  (Y:∀ (w:World) (ids:List (Nat × Nat)) (M:Mem) (num:Nat × Nat->Nat),uD ⟨E.P,E.sp,⟨w,ids,E.gl,M,num,D.next⟩⟩ (nP ops k) i ((nP ops k).toList.drop i) D [] (fun m tr=>F4 (indep (nP ops k) (uI D (nP ops k) i++((nP ops k).toList.drop i).zip tr)) (({ m with next:=m.next+8*(nP ops k).size }:St).le (cj E) (τ (f { m with next:=m.next+8*(nP ops k).size })) (K (f { m with next:=m.next+8*(nP ops k).size })))))
  (Z:∀ g,K g->pJ E.P ops k l (GH E N (τ g) G) n r x):pJ E.P ops i l (GH E N D G) n r x:=by
 intro a w Q hh R U hx d s;have O:=NQ p;have A:(nP ops k).size=k:=by simp[nP];omega
 let C:Exit->Act->World->Prop:=Exit.then (ku E.P l Q) Q;let Q1:Exit->Act->World->Prop:=fun e a w=>match e with
  | .normal=>∀ d,ops.size-k<=d->wpAny E.P .any ops C d (gr k ops.size) a w
  | e=>C e a w
 have hQ:XM Q1 C:=fun e a w T h=>by
  cases e with
  | normal=>exact absurd rfl T
  | _=>exact h
 have q:=L4 (E:=E) (N:=N) (G:=G) (Q1:=Q1) (Kf:=fun m=>m.le (cj E) (τ (f m)) (K (f m))) V aa Y hh (fun m a w hk H=>by
  show ∀ d,ops.size-k<=d->wpAny E.P .any ops C d (gr k ops.size) a w;intro d hf;obtain⟨F,I⟩:=H.le hk
  exact Z _ F a w Q I R U hx d hf) (k-i) aa
 rw[A] at q;refine RQ (lo:=i) (ops1:=nP ops k) (Q1:=Q1) (k:=k) A O (fun j u=>by simp[nP,fI,u]) (fun j o u ho g b H=>Nat.lt_trans (P6 p ho H) u) (zi p) (IM p) hQ (fun a w h=>h) (k-i) (gr i k) (gr i ops.size) d a w (iN L) (iN aa) (fun j u=>by rw[fj];simpa using u) (fun j _=>by rw[fj,fj]) (fun j u=>by rw[fj];simp;omega) (xK (zi p) i ops.size) (by rw[As];exact s) q
theorem g8 (q:aD E.P E.sp) {l:List Code} {ops:Array Oper} {j:St} {G:ai} {s:Type} {i:Nat} (f:St->s) (τ:s->St) (K:s->Prop) (F:i<=ops.size)
  (u:∀ (w:World) (ids:List (Nat × Nat)) (M:Mem) (num:Nat × Nat->Nat),uD ⟨E.P,E.sp,⟨w,ids,E.gl,M,num,j.next⟩⟩ ops i (ops.toList.drop i) j [] (fun d tr=>F4 (indep ops (uI j ops i++(ops.toList.drop i).zip tr)) (({ d with next:=d.next+8*ops.size }:St).le (cj E) (τ (f { d with next:=d.next+8*ops.size })) (K (f { d with next:=d.next+8*ops.size })))))
  (A:∀ g,K g->aK E.P l (GH E N (τ g) G) n r x):pJ E.P ops i l (GH E N j G) n r x:=by
 intro a w Q D o p I h e
 exact L4 (E:=E) (N:=N) (G:=G) (Q1:=Exit.then (ku E.P l Q) Q) (Kf:=fun d=>d.le (cj E) (τ (f d)) (K (f d))) q F u D (fun d a w H C=>by
  obtain⟨k,m⟩:=C.le H
  exact A _ k a w Q m o p I) h e
theorem ua {l:List Code} {ops:Array Oper} {i:Nat} {d τ:St} {G:ai} {K:Prop} (h:d.le (cj E) τ K) (e:K->pJ E.P ops i l (GH E N τ G) n r x):pJ E.P ops i l (GH E N d G) n r x:=by intro a w Q g;obtain⟨f,c⟩:=g.le h;exact e f a w Q c
theorem ql {l:List Code} {ops:Array Oper} {i:Nat} {c:St} {bl:List (List Cell)} {p:Nat} {d:ai} (e:List Nat) (f:e.map c.S=e.map fun _=>SV.is (.one (.v (pt p)))) (τ:St) (g:(rM c e (bl.map fun j=>j.map (Cell.rZ (c.next + ·)))).le (cj (E.pinned c.next p)) τ True)
  (h:pJ E.P ops i l (GH (E.pinned c.next p) N τ d) n r x):pJ E.P ops i l (GH E N c (ai.obj bl p d)) n r x:=by
 intro a w Q k;exact h a w Q ((k.QW e (Lh f)).le g).2
end
theorem ai.ext {G H:ai} (h:∀ w M F,G.P w M F↔H.P w M F):G=H:=by obtain⟨P,a,b,c⟩:=G;obtain⟨d,e,f,g⟩:=H;have:P=d:=funext fun w=>funext fun M=>funext fun F=>propext (h w M F);subst this;rfl
def ai.sep (G H:ai):ai where
 P w M F:=∃ F1 F2,G.P w M F1/\H.P w M F2/\(∀ b,F1 b->¬ F2 b)/\∀ b,F b↔(F1 b\/F2 b)
 mono w M M' F hM h:=by obtain⟨F1,F2,h1,h2,h3⟩:=h;exact⟨F1,F2,G.mono _ _ _ _ hM h1,H.mono _ _ _ _ hM h2,h3⟩
 stable w w' M F h hs:=by obtain⟨F1,F2,h1,h2,h3,h4⟩:=h;exact⟨F1,F2,G.stable _ _ _ _ h1 (fun b hb=>hs b ((h4 b).2 (.inl hb))),H.stable _ _ _ _ h2 (fun b hb=>hs b ((h4 b).2 (.inr hb))),h3,h4⟩
 lt w M F h b hb:=by obtain⟨F1,F2,h1,h2,h3,h4⟩:=h;rcases (h4 b).1 hb with h|h;exact G.lt _ _ _ h1 b h;exact H.lt _ _ _ h2 b h
theorem wb (G H:ai):ai.sep G H=ai.sep H G:=by
 have a:∀ (G H:ai) w M F,(ai.sep G H).P w M F->(ai.sep H G).P w M F:=by rintro G H w M F ⟨d,F2,e,f,g,h⟩;exact⟨F2,d,f,e,fun b i c=>g b c i,fun b=>(h b).trans or_comm⟩
 exact ai.ext fun w M F=>⟨a G H w M F,a H G w M F⟩
theorem T7 (G H K:ai):ai.sep (ai.sep G H) K=ai.sep G (ai.sep H K):=by refine ai.ext fun w M F=>⟨?_,?_⟩;rintro⟨k,f,⟨e,F2,g,h,i,a⟩,c,d,j⟩;refine⟨e,fun b=>F2 b\/f b,g,⟨F2,f,h,c,fun b hb=>d b ((a b).2 (.inr hb)),fun _=>ky⟩,fun b hb hc=>?_,fun b=>?_⟩;rcases hc with hc|hc;exact i b hb hc;exact d b ((a b).2 (.inl hb)) hc;rw[j b,a b,or_assoc];rintro⟨e,l,g,⟨F2,f,h,i,a,c⟩,d,j⟩;refine⟨fun b=>e b\/F2 b,f,⟨e,F2,g,h,fun b hb hc=>d b hb ((c b).2 (.inl hc)),fun _=>ky⟩,i,fun b hb hc=>?_,fun b=>?_⟩;rcases hb with hb|hb;exact d b hb ((c b).2 (.inr hc));exact a b hb hc;rw[j b,c b,or_assoc]
theorem qu (G:ai):ai.sep G ai.none=G:=by refine ai.ext fun w M F=>⟨?_,fun h=>⟨F,fun _=>False,h,fun _ h=>h,fun _ _ h=>h,fun _=>⟨.inl,fun h=>h.elim id False.elim⟩⟩⟩;rintro⟨d,F2,e,f,i,g⟩;have:F=d:=funext fun b=>propext ((g b).trans ⟨fun h=>h.elim id fun q=>(f b q).elim,.inl⟩);rw[this];exact e
theorem bB (bl:List (List Cell)) (p:Nat) (d:ai):ai.obj bl p d=ai.sep (ai.obj bl p ai.none) d:=by refine ai.ext fun w M F=>⟨?_,?_⟩;rintro⟨e,F2,k,o,s,f,g,u,y⟩;refine⟨fun b=>∃ i:Nat,e[i]?=some (some b),F2,⟨e,fun _=>False,fun _ h=>h,o,s,fun b=>⟨.inr,fun h=>h.elim False.elim id⟩,fun i b j=>⟨fun h=>h,(g i b j).2⟩,u,y⟩,k,fun b ⟨i,D⟩=>(g i b D).1,fun b=>(f b).trans or_comm⟩;rintro⟨I,F2,⟨e,K,k,o,s,f,g,u,y⟩,G,C,A⟩;refine⟨e,F2,G,o,s,fun b=>?_,fun i b j=>⟨C b ((f b).2 (.inr ⟨i,j⟩)),(g i b j).2⟩,u,y⟩;rw[A b,f b];exact⟨fun h=>h.elim (fun q=>q.elim (fun q=>(k b q).elim) .inr) .inl,fun h=>h.elim .inr fun q=>.inl (.inr q)⟩
instance : Std.Associative ai.sep := ⟨T7⟩
instance : Std.Commutative ai.sep := ⟨wb⟩
theorem cJ {P:Program} {T:Nat->Option (Sigma aA)} {f:FuncId} {i I:Type} {args:i->List SV} {pre:i->Prop} {O:i->ai} {Y:i->I->SV} {Q:i->I->ai} {J:i->I->Prop} (R:i->ai)
  (h:dG P T f args pre O Y Q J):dG P T f args pre (fun x=>ai.sep (O x) (R x)) Y (fun x y=>ai.sep (Q x y) (R x)) J:=by
 rintro x hx w M us F ⟨Z,L,hG,U,C,j⟩ hM D s hv;refine (h x hx w M us Z hG hM D (fun b hb=>s b ((j b).2 (.inl hb))) hv).mono ?_;rintro e w2 ⟨y,v,F2,M2,hJ,rfl,u,p,o,g,A,G⟩;have d:=(R x).lt _ _ _ U;refine⟨y,v,fun b=>F2 b\/L b,M2,hJ,rfl,⟨F2,L,u,(R x).mono _ _ _ _ g ((R x).stable _ _ _ _ U (fun b hb=>o.block b (d b hb) (fun q=>C b q hb))),fun b hb V=>?_,fun _=>ky⟩,fun b hb=>?_,⟨o.os,o.tape,o.output,o.size,fun k hk G=>o.block k hk (fun q=>G ((j k).2 (.inl q)))⟩,g,fun b l hb=>?_,G⟩;rcases p b hb with q|q;exact C b q V;have:=d b V;omega;rcases hb with hb|hb;exact (p b hb).imp (fun q=>(j b).2 (.inl q)) id;exact .inl ((j b).2 (.inr hb));obtain⟨k1,k2,W⟩:=A b l hb;refine⟨k1,fun q=>q.elim k2 fun q=>?_,W.imp id (fun q=>q.imp (fun q=>(j b).2 (.inl q)) id)⟩;rcases W with k|k|k;have:=d b q;omega;exact C b k q;exact s b ((j b).2 (.inr q)) l k
theorem K3 {E:b5} {N:Nat} {q:St} {G2:ai} {W:Act} {y w2:World} {F F2:Nat->Prop} {f:ay} {M2:Mem} {v:Value} {U:SV} {dst:Option Tmp}
  (c:GOk E (ji y E.gl f q.next) F) (C:q.slots.length=N) (a:cN (ji y E.gl f q.next) N q.S q.B f W y) (k:∀ id b,f id=some b->id<q.next) (x0:Mem.le f.M (b8 y))
  (Z:G2.P w2 M2 F2) (O:∀ b,F2 b->F b\/y.heap.size<=b) (j:rl F y w2) (z:Mem.le f.M M2) (D:∀ b l,M2 b=some l->b8 w2 b=some l/\¬ F2 b/\(y.heap.size<=b\/F b\/f.M b=some l)) (x4:∀ L:ay,ay.le f L->L.M=M2->U.rel L v):GH E N (q.put dst U) G2 (W.put dst v) w2:=by
 have x5:∀ b l,f.M b=some l->b<y.heap.size:=fun b l g=>sR (x0 b l g);let o:ay:=⟨f.m,f.n,M2⟩;have u:ay.le f o:=⟨fun i b h=>⟨h,rfl⟩,z⟩;have mG:∀ id b,f id=some b->¬ F b:=fun id b g Y=>by have h:=c.own b Y;rw[eK.2 ⟨id,k id b g,g⟩] at h;cases h
 have A:∀ b,b<y.heap.size->¬ F b->w2.heap[b]?=y.heap[b]?:=j.block;have I:cN (ji w2 E.gl o q.next) N (fy N dst U q.S) q.B o (W.put dst v) w2:=by
  refine⟨by rw[put_defers];exact a.defers,by rw[zZ];exact a.size,?_,kW.refl _,?_,a.inj,fun id b h=>⟨.inr (eK.2 ⟨id,k id b h,h⟩),fe (a.bound id b h).2 j.size⟩,fun p H=>⟨(a6.1 H).2,rfl⟩,?_,fun b l h _=>.inr h,?_,fun p H=>(a6.1 H).1,Mem.le_refl _⟩
  ·intro t;rw[Dm dst v t a.size];cases dst with
   | none=>exact SV.fi u (a.slots t)
   | some d =>simp only[fy];by_cases V:t=d/\d<N;simp only[V,and_self,eA];exact x4 o u rfl;simp only[V,dT];exact SV.fi u (a.slots t)
  intro id X s G b g;obtain⟨l,x1,x2⟩:=a.blks id X s G b g;refine⟨l,?_,dW u x2⟩;obtain⟨T,el,fr,k1,k2⟩:=x1;exact⟨T,el,fr,(A b (a.bound id b g).2 (mG id b g)).trans k1,k2⟩;intro b l g;obtain⟨h1,h2,h3⟩:=D b l g;refine⟨fun i X hi G K=>?_,iJ h1⟩;rcases h3 with h3|h3|h3;have:=(a.bound i b K).2;omega;exact mG i b K h3;exact (a.mem b l h3).1 i X hi G K;intro gg e x hg;exact kg u.mem (a.glob gg e x hg)
 have Q:GOk E (ji w2 E.gl o q.next) F2:=by
  refine⟨rfl,⟨j.os.trans c.kep.os,j.tape.trans c.kep.tape,j.output.trans c.kep.output,ja c.kep.size j.size,fun b g hs=>?_⟩,fun p H=>c.ids p (a6.2 (a6.1 H)),fun b g=>?_,fun b g=>?_,fun b g l hl=>?_,fun b l g x3=>?_,fun p H=>a6.2 (a6.1 (c.xl p H)),c.plt,fun b l g=>z b l (c.mle b l g)⟩;have:=c.kep.size;refine (A b (fe g this) (fun Y=>?_)).trans (c.kep.block b g hs);rcases c.foot b Y with h|h;exact hs h;omega;have:=c.kep.size;rcases O b g with h|h;exact c.foot b h;exact .inr (ja this h)
  ·cases V:(ji w2 E.gl o q.next).own b with
   | false=>rfl
   | true =>obtain⟨id,_,s⟩:=eK.1 V;have s:f id=some b:=s;rcases O b g with h|h;exact (mG id b s h).elim;have:=(a.bound id b s).2;omega
  exact (D b l hl).2.1 g;rcases (D b l g).2.2 with h|h|h;have:=c.kep.size;have h6:E.w.heap.size<=y.heap.size:=this;omega;rcases c.foot b h with h|h;exact .inl h;omega;exact c.old b l h x3
 have R:((q.put dst U).S=fy N dst U q.S):=by rw[GA,C]
 refine⟨_,F2,Q,Z,by rw[yL];exact C,o,?_,fun id b h=>by rw[zY];exact k id b h⟩;rw[R,J6];exact I
def Fm (E:b5) (c:Array Oper) (k:Nat) (Pre:Act->World->Prop) {f:Type} (J:f->Prop) (b:f->Act->World->Prop):Prop :=
 ∀ (C:Act->World->Prop) (Q:Exit->Act->World->Prop),(∀ g,J g->∀ a w,b g a w->C a w)->∀ d e,Pre d e->∃ o,c[k]?=some o/\Region.wanted o (yielded c d.tmps)=true/\o.wp E.P d e C Q
theorem fS {E:b5} {N:Nat} {ops:Array Oper} {k:Nat} {τ:St} {f:FuncId} {fn:Func} {d w:Type} {args:d->List SV} {pre:d->Prop} {A:d->ai} {sv:d->w->SV} {G2:d->w->ai} {J:d->w->Prop}
  (s:dG E.P E.gl f args pre A sv G2 J) (z:d) (X:pre z) (h:JY τ.S ops k f=true) (U:enters E.P f fn) (c:(yM ops k).map (fG τ.S)=args z) (q:Gh (args z)=true) (u:∀ y,(sv z y).ids=[]) :
  Fm E ops k (GH E N τ (A z)) (J z) (fun y=>GH E N (τ.put (nQ ops k) (sv z y)) (G2 z y)):=fun C Q I Z G V =>
 aet (C:=C) (Q:=Q) (sv z) (G2 z) (J z) h U (fun G ρ Y F L T o j D=>by
  rw[c] at D;refine (s z X G ρ.M Y F L T o j (UE (ρ:=ρ) (ρ':=ay.start ρ.M) rfl D q)).mono ?_;rintro e w2 ⟨y,v,F2,H,O,rfl,l,i,R,g,m,W⟩
  exact⟨y,v,F2,H,O,rfl,l,i,R,g,m,fun ρ' _ e=>o9 e W (u y)⟩) I V
def jo (ops:Array Oper) (k:Nat):Op:=match ops[k]? with
 | some o=>o.op
 | _=>.move (.const undef)
def pD (ops:Array Oper) (k:Nat):TypeId:=match ops[k]? with
 | some o=>o.type
 | _=>0
def isStep (S:cD) (a:Array Oper) (k:Nat):Bool:=match a[k]? with
 | some o=>lF S a o.guard
 | _=>false
def Fj (P:Program) (ev:Operand->Value) (b:Op) (c:TypeId) (w:World) (v:Value) (a:World):Prop :=
 ∀ o:Oper,o.op=b->o.type=c->(execOp ev o).run P w=.ok (.value v) a\/(v=undef/\(execOp ev o).run P w=.ok .skip a)
theorem WO {E:b5} {N:Nat} {c:Array Oper} {k:Nat} {H:St} {G:ai} {α:Type} (sv:α->SV) (G2:α->ai) (J:α->Prop) (m:isStep H.S c k=true)
  (h2:∀ (s:World) (w:ay) (ev:Operand->Value) (F:Nat->Prop),G.P s w.M F->Mem.le w.M (b8 s)->rk E.gl w.M->(∀ b,F b->∀ l,w.M b≠some l)->(∀ o,(fG H.S o).rel w (ev o)) ->
   ∃ g v U F2 I,J g/\Fj E.P ev (jo c k) (pD c k) s v U/\(G2 g).P U I F2/\(∀ b,F2 b->F b\/s.heap.size<=b)/\rl F s U/\Mem.le w.M I/\(∀ b l,I b=some l->b8 U b=some l/\¬ F2 b/\(s.heap.size<=b\/F b\/w.M b=some l))/\∀ z:ay,ay.le w z->z.M=I->(sv g).rel z v) :
  Fm E c k (GH E N H G) J (fun g=>GH E N (H.put (nQ c k) (sv g)) (G2 g)):=by
 intro C Q V a1 s x0;obtain⟨o,D,f⟩:∃ o,c[k]?=some o/\lF H.S c o.guard=true:=by unfold isStep at m;split at m;rename_i o D;exact⟨o,D,m⟩;cases m
 have O:nQ c k=o.dst:=by unfold nQ;rw[D]
 have x1:o.op=jo c k:=by unfold jo;rw[D]
 have x3:o.type=pD c k:=by unfold pD;rw[D]
 rw[O] at V;obtain⟨F,A,u,X,T,a,y⟩:=x0.kR;refine⟨o,D,?_,?_⟩
 ·unfold Region.wanted;cases hq:o.guard with
  | none=>rfl
  | some p =>obtain⟨j,x4⟩:=p;rw[hq] at f;unfold lF at f;simp only at f;split at f;rename_i d hd;have q:=a.slots d;split at f;rename_i hT;rw[hT] at q;have q:[_]=[Value.bool true]:=q;have q:=(mU q).1;simp only[nF hd q];rfl;rename_i hF;rw[hF] at q;have q:[_]=[Value.bool false]:=q;have q:=(mU q).1;simp only[nF hd q];rfl;cases f;cases f
 have L:Mem.le A.M (b8 s):=fun b l hb=>by obtain⟨_,el,fr,h⟩:=a.mem b l hb;exact jX h
 obtain⟨g,v,U,F2,I,hJ,t,Y,W,R,K,Z,x2⟩:=h2 s A a1.eval F X L (fun g e x hg=>a.glob g e x hg) (fun b hb l hl=>u.mem b hb l hl) (fun o=>cN.fG (E:=⟨E.P,E.sp,ji s E.gl A H.next⟩) a o);have i:=K3 (dst:=o.dst) u T a y L Y W R K Z x2;unfold Oper.wp;rcases t o x1 x3 with h|⟨rfl,h⟩;rw[h];exact V g hJ _ _ i;rw[h];exact V g hJ _ _ i
section
variable {E:b5} {N:Nat} {n r:Act->World->Prop} {x:Nat->Act->World->Prop}
theorem gK {l:List Code} {ops:Array Oper} {k:Nat} {Pre:Act->World->Prop} {y:Type} {J:y->Prop} {e:y->Act->World->Prop} (F:Fm E ops k Pre J e)
  (h:∀ g,J g->kt E.P ops (k+1) l (e g) n r x):kt E.P ops k l Pre n r x:=by
 intro A H Q j m t G;obtain⟨o,s,f,u⟩:=F (wpOps E.P ops (Exit.then (ku E.P l Q) Q) (List.range' (k+1) (ops.size-(k+1)))) (Exit.then (ku E.P l Q) Q) (fun g C a w D=>h g C a w Q D m t G) A H j;have I:k<ops.size:=by rcases bN k ops.size with h|h;exact h;rw[eh h] at s;cases s
 have d:List.range' k (ops.size-k)=k::List.range' (k+1) (ops.size-(k+1)):=by rw[show ops.size-k=(ops.size-(k+1))+1 from by omega,tF]
 rw[d];unfold wpOps;simp only[s];rw[aj f];exact .inl u
theorem pZ {l:List Code} {ops:Array Oper} {k:Nat} {Pre:Act->World->Prop} {W:Type} {J:W->Prop} {q:W->Act->World->Prop} (hr:Fm E ops k Pre J q) (D:vp ops k k=true) (m:vp ops k (k+1)=true)
  (h:∀ g,J g->pJ E.P ops (k+1) l (q g) n r x):pJ E.P ops k l Pre n r x:=by
 intro a w Q hh R T hx f G;have d:=zi D;have s:k<ops.size:=NQ m;obtain⟨o,ho,H,U⟩:=hr (wpAny E.P .any ops (Exit.then (ku E.P l Q) Q) (f-1) (gr (k+1) ops.size)) (Exit.then (ku E.P l Q) Q) (fun g Y a w Z=>h g Y a w Q Z R T hx (f-1) aa) a w hh;cases f with
 | zero=>omega
 | succ f =>
  have C:=iN (tO s);have p:=xK d k ops.size;have A:∀ i,i∈Region.ready .any ops (gr k ops.size)->i=k:=by
   intro i I;obtain⟨oi,u,g1,g2⟩:=(jC C).1 I;rw[fj] at g1;have O:k<=i:=by simpa using g1
   rcases Nat.eq_or_lt_of_le O with h|hlt;exact h.symm
   ·exfalso;have L:i<ops.size:=by
     rcases bN i ops.size with h|h;exact h;rw[eh h] at u;cases u
    have:=nV d p (i+1) i oi aa u g2 k (IM m i hlt L k (aE _) aa);rw[fj] at this;simp at this
  refine⟨fun F=>?_,fun i I=>?_⟩;have:=q8 d C F k s;rw[fj] at this;simp at this
  ·have:=A i I;subst this;unfold wpOp;simp only[ho];rw[aj H]
   have e:(gr i ops.size).setIfInBounds i true=gr (i+1) ops.size:=zy (by simp[C,iN (show i+1<=ops.size from s)]) (fun j=>by
    rw[kE aa,fj,fj];by_cases V:j=i;subst V;simp
    ·simp only[V,dT];congr 1
     exact propext ⟨fun _=>aa,fun _=>aa⟩)
   rw[e];exact .inl U
theorem vB {l:List Code} {a:Array Oper} {i:Nat} {d:St} {G G':ai} (e:G=G') (h:kt E.P a i l (GH E N d G') n r x):kt E.P a i l (GH E N d G) n r x:=by rw[e];exact h
theorem sJ {l:List Code} {ops:Array Oper} {i:Nat} {a:St} {G G':ai} (e:G=G') (h:pJ E.P ops i l (GH E N a G') n r x):pJ E.P ops i l (GH E N a G) n r x:=by rw[e];exact h
theorem aO {l:List Code} {d:St} {G G':ai} (e:G=G') (h:aK E.P l (GH E N d G') n r x):aK E.P l (GH E N d G) n r x:=by rw[e];exact h
end
open Go.ChangeMaps
def mv (P:Program) (gl:Nat->Option (Sigma aA)) (S:cD) (h:Op) (j:TypeId) (G:ai) {e:Type} (i:e->SV) (f:e->ai) (J:e->Prop):Prop :=
 ∀ (a:World) (ρ:ay) (ev:Operand->Value) (F:Nat->Prop),G.P a ρ.M F->Mem.le ρ.M (b8 a)->rk gl ρ.M->(∀ b,F b->∀ l,ρ.M b≠some l)->(∀ o,(fG S o).rel ρ (ev o)) ->
  ∃ g v d F2 c,J g/\Fj P ev h j a v d/\(f g).P d c F2/\(∀ b,F2 b->F b\/a.heap.size<=b)/\rl F a d/\Mem.le ρ.M c/\(∀ b l,c b=some l->b8 d b=some l/\¬ F2 b/\(a.heap.size<=b\/F b\/ρ.M b=some l))/\∀ ρ':ay,ay.le ρ ρ'->ρ'.M=c->(i g).rel ρ' v
theorem ft {E:b5} {N:Nat} {ops:Array Oper} {k:Nat} {d:St} {G:ai} {e:Type} {sv:e->SV} {G2:e->ai} {J:e->Prop} (a:isStep d.S ops k=true) (h:mv E.P E.gl d.S (jo ops k) (pD ops k) G sv G2 J) :
  Fm E ops k (GH E N d G) J (fun g=>GH E N (d.put (nQ ops k) (sv g)) (G2 g)):=WO sv G2 J a h
theorem EJ {P:Program} {gl:Nat->Option (Sigma aA)} {S:cD} {I:Op} {K:TypeId} {G:ai} {z:Type} {sv:z->SV} {G2:z->ai} {J:z->Prop} (R:ai) (h:mv P gl S I K G sv G2 J) :
  mv P gl S I K (ai.sep G R) sv (fun g=>ai.sep (G2 g) R) J:=by
 rintro w ρ ev F ⟨L,A,Q,C,o,d⟩ U s i p;obtain⟨g,v,Z,F2,O,T,u,j,f,e,c,m,y⟩:=h w ρ ev L Q U s (fun b hb=>i b ((d b).2 (.inl hb))) p;have a:=R.lt _ _ _ C;refine⟨g,v,Z,fun b=>F2 b\/A b,O,T,u,⟨F2,A,j,R.mono _ _ _ _ c (R.stable _ _ _ _ C (fun b hb=>e.block b (a b hb) (fun q=>o b q hb))),fun b hb D=>?_,fun _=>ky⟩,fun b hb=>?_,⟨e.os,e.tape,e.output,e.size,fun k V y=>e.block k V (fun q=>y ((d k).2 (.inl q)))⟩,c,fun b l hb=>?_,y⟩;rcases f b hb with q|q;exact o b q D;have:=a b D;omega;rcases hb with hb|hb;exact (f b hb).imp (fun q=>(d b).2 (.inl q)) id;exact .inl ((d b).2 (.inr hb));obtain⟨W,Y,H⟩:=m b l hb;refine⟨W,fun q=>q.elim Y fun q=>?_,H.imp id (fun q=>q.imp (fun q=>(d b).2 (.inl q)) id)⟩;rcases H with k|k|k;have:=a b q;omega;exact o b k q;exact i b ((d b).2 (.inr q)) l k
def pY (M:Mem):Nat->List (Value × Cell)->List MapEntry->Prop
 | _,[],[]=>True
 | i,p::l,e::a=>e.key=p.1/\e.born=i/\p.2.rel (ay.start M) [e.val]/\pY M (i+1) l a
 | _,_,_=>False
theorem uP {M:Mem}:∀ {i:Nat} {l:List (Value × Cell)} {a:List MapEntry},pY M i l a->a.length=l.length
 | _,[],[],_=>rfl
 | _,_::_,_::_,h=>by simp only[bG];rw[uP h.2.2.2]
 | _,[],_::_,h=>h.elim
 | _,_::_,[],h=>h.elim
theorem nq {M:Mem}:∀ {i:Nat} {l:List (Value × Cell)} {b:List MapEntry},pY M i l b->∀ (j:Nat) (e:MapEntry),b[j]?=some e->∃ p,l[j]?=some p/\e.key=p.1/\e.born=i+j/\p.2.rel (ay.start M) [e.val]
 | _,[],[],_,_,_,h=>by simp at h
 | i,p::l,e::b,h,0,c,a=>by
  have a:e=c:=by simpa using a
  subst a;exact⟨p,rfl,h.1,h.2.1,h.2.2.1⟩
 | i,p::l,e::b,h,j+1,c,a=>by rw[lT] at a;obtain⟨k,d,f,m,g⟩:=nq h.2.2.2 j c a;exact⟨k,by rw[lT];exact d,f,aa,g⟩
 | _,[],_::_,h,_,_,_=>h.elim
 | _,_::_,[],h,_,_,_=>h.elim
theorem DR {M a:Mem} (c:Mem.le M a):∀ {i:Nat} {l:List (Value × Cell)} {b:List MapEntry},pY M i l b->pY a i l b
 | _,[],[],_=>trivial
 | _,p::_,e::_,h=>⟨h.1,h.2.1,by
   have:=SV.fi (ρ:=ay.start M) (ρ':=ay.start a) ⟨fun _ _ h=>⟨h,rfl⟩,c⟩ (x:=.is (.one p.2)) (v:=e.val) h.2.2.1
   exact this,DR c h.2.2.2⟩
 | _,[],_::_,h=>h.elim
 | _,_::_,[],h=>h.elim
theorem DS {M:Mem} {p:Value × Cell} {e:MapEntry}:∀ {i:Nat} {l:List (Value × Cell)} {d:List MapEntry},pY M i l d->e.key=p.1->e.born=i+l.length->p.2.rel (ay.start M) [e.val]->pY M i (l++[p]) (d++[e])
 | _,[],[],_,a,b,c=>⟨a,by simpa using b,c,trivial⟩
 | i,_::l,_::_,h,a,b,c=>⟨h.1,h.2.1,h.2.2.1,DS h.2.2.2 a (by simp only[bG] at b;omega) c⟩
 | _,[],_::_,h,_,_,_=>h.elim
 | _,_::_,[],h,_,_,_=>h.elim
def fP (b:Nat) (l:List (Value × Cell)):ai where
 P w M F:=(∀ x,F x↔x=b)/\∃ es:List MapEntry,w.heap[b]?=some (.map es.toArray l.length)/\pY M 0 l es
 mono w M M' F hM h:=by obtain⟨h1,es,h2,h3⟩:=h;exact⟨h1,es,h2,DR hM h3⟩
 stable w w' M F h hs:=by obtain⟨h1,es,h2,h3⟩:=h;exact⟨h1,es,(hs b ((h1 b).2 rfl)).trans h2,h3⟩
 lt w M F h b' hb:=by obtain⟨h1,es,h2,h3⟩:=h;rw[(h1 b').1 hb];rcases bN b w.heap.size with h|h;exact h;rw[eh h] at h2;cases h2
def oh (r b n:Nat) (seen:List Nat):ai where
 P w _ F:=(∀ x,F x↔x=r)/\w.heap[r]?=some (.mapIter (some b) n seen.toArray n)
 mono w M M' F hM h:=h
 stable w w' M F h hs:=by obtain⟨h1,h2⟩:=h;exact⟨h1,(hs r ((h1 r).2 rfl)).trans h2⟩
 lt w M F h b' hb:=by obtain⟨h1,h2⟩:=h;rw[(h1 b').1 hb];rcases bN r w.heap.size with h|h;exact h;rw[eh h] at h2;cases h2
section
variable {P:Program} {gl:Nat->Option (Sigma aA)} {S:cD}
theorem C6 {f:Op} {j:TypeId} {G:ai} {k:Type} {i:k->SV} {J:k->Prop}
  (h:∀ (w:World) (ρ:ay) (ev:Operand->Value) (F:Nat->Prop),G.P w ρ.M F->(∀ o,(fG S o).rel ρ (ev o))->∃ g v,J g/\Fj P ev f j w v w/\∀ ρ':ay,ay.le ρ ρ'->ρ'.M=ρ.M->(i g).rel ρ' v):mv P gl S f j G i (fun _=>G) J:=by
 intro w ρ ev F e t u c d;obtain⟨g,v,m,p,s⟩:=h w ρ ev F e d;exact⟨g,v,w,F,ρ.M,m,p,e,fun b a=>.inl a,⟨rfl,rfl,rfl,aE _,fun _ _ _=>rfl⟩,Mem.le_refl _,fun b l a=>⟨t b l a,fun q=>c b q l a,.inr (.inr a)⟩,s⟩
theorem nX {ev:Operand->Value} {a:Op} {b:TypeId} {w c:World} {v:Value} (h:∀ o:Oper,o.op=a->o.type=b->(execOp ev o).run P w=.ok (.value v) c):Fj P ev a b w v c:=fun o d e=>.inl (h o d e)
theorem tm {o:Operand} {x:Value} (h:fG S o=.is (.one (.v x))) {ρ:ay} {ev:Operand->Value} (a:∀ o,(fG S o).rel ρ (ev o)):ev o=x:=by have:=a o;rw[h] at this;exact b9 this
theorem EE {g:TypeId} (K:Maps.Keyed P g) {M:Mem} {l:List (Value × Cell)} {b:List MapEntry} (i:pY M 0 l b) (y:∀ p∈l,∃ k,keyOf P g p.1=some k) {a:Value} {C:Lit} (u:keyOf P g a=some C) (w:World) :
  ((Instr.findKey g a b).run P w=.ok none w/\∀ p∈l,p.1≠a)\/∃ j e p,(Instr.findKey g a b).run P w=.ok (some (j,e.val)) w/\b[j]?=some e/\l[j]?=some p/\p.1=a/\p.2.rel (ay.start M) [e.val]:=by
 have f:=uP i
 rcases K.find w u b (fun e d=>by
  obtain⟨j,c⟩:=List.mem_iff_getElem?.1 d;obtain⟨p,t,o,_⟩:=nq i j e c
  rw[o];exact y p (dS t)) with ⟨h,o⟩|⟨j,e,h,c,d⟩
 ·refine .inl ⟨h,fun p z e=>?_⟩;obtain⟨j,c⟩:=List.mem_iff_getElem?.1 z;have q:j<l.length:=by
   rcases bN j l.length with h|h;exact h;rw[dQ h] at c;cases c
  have d:b[j]?=some b[j]:=by simp[f,q]
  obtain⟨D,m,s,_⟩:=nq i j _ d;rw[c] at m;cases m;exact o b[j] (dx _) (s.trans e)
 obtain⟨p,m,s,_,A⟩:=nq i j e c;exact .inr ⟨j,e,p,h,c,m,s▸d,A⟩
theorem aaT {t f I Z:TypeId} {x A:Operand} {b:Nat} {l:List (Value × Cell)} {a:Value} {Y:Lit} (O:P.underlying t=some (.map f I)) (K:Maps.Keyed P f) {z:Value} (W:∀ w,(zeroValue I).run P w=.ok z w) (y:z.oneCell'=true)
  (R:∀ p∈l,∃ k,keyOf P f p.1=some k) (m:keyOf P f a=some Y) (V:fG S x=.is (.one (.v (.map (some b))))) (i:∀ (C:ay) v,(fG S A).rel C v->v=a) :
  mv P gl S (.lookup t x A true) Z (fP b l) (fun r:Bool=>.tup [.one .junk,.one (.v (.bool r))]) (fun _=>fP b l) (fun r=>(r=true↔∃ p∈l,p.1=a)):=by
 refine C6 fun w C ev F Q c=>?_;obtain⟨_,es,L,U⟩:=Q;have G:=tm V c;have H:=i C _ (c A);rcases EE K U R m w with ⟨g,T⟩|⟨j,e,p,g,_,s,u,d⟩;refine⟨false,.tuple #[z,.bool false],⟨fun h=>(by cases h),fun ⟨p,s,e⟩=>absurd e (T p s)⟩,nX fun o q _=>?_,fun D _ _=>⟨[z,.bool false],rfl,z,[.bool false],rfl,⟨z,rfl,y⟩,.bool false,[],rfl,⟨rfl,rfl⟩,rfl⟩⟩;simp only[execOp,q,G,H];simp[Instr.lookup,run_underlying O,MapKept.run_getObj_map L,K.check w _ m,g,W,Result.andThen];refine⟨true,.tuple #[e.val,.bool true],⟨fun _=>⟨p,dS s,u⟩,fun _=>rfl⟩,nX fun o q _=>?_,fun D _ _=>⟨[e.val,.bool true],rfl,e.val,[.bool true],rfl,⟨e.val,rfl,Cell.Ig d _ au⟩,.bool true,[],rfl,⟨rfl,rfl⟩,rfl⟩⟩;simp only[execOp,q,G,H];simp[Instr.lookup,run_underlying O,MapKept.run_getObj_map L,K.check w _ m,g,Result.andThen]
theorem aei {t h G Z:TypeId} {x A:Operand} {b:Nat} {l:List (Value × Cell)} {a:Value} {Y:Lit} (I:P.underlying t=some (.map h G)) (K:Maps.Keyed P h) {z:Value} (W:∀ w,(zeroValue G).run P w=.ok z w) (y:z.oneCell'=true)
  (Q:∀ p∈l,∃ k,keyOf P h p.1=some k) (c:∀ p∈l,p.2.ids=[]) (q:keyOf P h a=some Y) (V:fG S x=.is (.one (.v (.map (some b))))) (m:∀ (ρ:ay) v,(fG S A).rel ρ v->v=a) :
  mv P gl S (.lookup t x A false) Z (fP b l) (fun r:Option (Value × Cell)=>.is (.one (match r with|some p=>p.2|none=>.v z))) (fun _=>fP b l) (fun r=>match r with|some p=>p∈l/\p.1=a|none=>∀ p∈l,p.1≠a):=by
 refine C6 fun w ρ ev F L d=>?_;obtain⟨_,es,H,U⟩:=L;have C:=tm V d;have D:=m ρ _ (d A);rcases EE K U Q q w with ⟨i,R⟩|⟨j,e,p,i,_,T,u,g⟩;refine⟨none,z,R,nX fun o s _=>?_,fun ρ' _ _=>⟨rfl,y⟩⟩;simp only[execOp,s,C,D];simp[Instr.lookup,run_underlying I,MapKept.run_getObj_map H,K.check w _ q,i,W,Result.andThen];have f:=dS T;refine⟨some p,e.val,⟨f,u⟩,nX fun o s _=>?_,fun ρ' _ O=>?_⟩;simp only[execOp,s,C,D];simp[Instr.lookup,run_underlying I,MapKept.run_getObj_map H,K.check w _ q,i,Result.andThen];exact o9 (ρ:=ay.start ρ.M) (ρ':=ρ') O (x:=.is (.one p.2)) g (by show p.2.ids=[];exact c p f)
theorem OH {w:World} {b:Nat} {o:Obj} {S:Nat->Prop} (c:S b):rl S w (setBlock w b o) :=
 ⟨rfl,rfl,rfl,by simp[setBlock],fun k _ d=>by
  have a:k≠b:=fun e=>d (by rw[e];exact c)
  simp[setBlock,Ne.symm a]⟩
theorem We {w:World} {S:Nat->Prop}:rl S w w.drew:=⟨rfl,rfl,rfl,aE _,fun _ _ _=>rfl⟩
theorem rl.tr {w c d:World} {S:Nat->Prop} (h:rl S w c) (g:rl S c d):rl S w d :=
 ⟨g.os.trans h.os,g.tape.trans h.tape,g.output.trans h.output,ja h.size g.size,fun k a b=>(g.block k (fe a h.size) b).trans (h.block k a b)⟩
theorem Jb {w:World} {o:Obj} {S:Nat->Prop}:rl S w (w.alloc o):=⟨rfl,rfl,rfl,au,fun k a _=>Below.heap_alloc _ _ _ a⟩
theorem Tn {w c:World} {S:Nat->Prop} (h:rl S w c) {b:Nat} {l:List Value} (a:b8 w b=some l) (d:¬ S b):b8 c b=some l:=by have:=h.block b (sR a) d;unfold b8 at a ⊢;rw[this];exact a
theorem Gn {p:Op} {t:TypeId} {G:ai} {f:Type} {s:f->SV} {i:f->ai} {J:f->Prop}
  (h:∀ (w:World) (ρ:ay) (ev:Operand->Value) (F:Nat->Prop),G.P w ρ.M F->(∀ o,(fG S o).rel ρ (ev o))->∃ g v d F2,J g/\Fj P ev p t w v d/\(i g).P d ρ.M F2/\(∀ b,F2 b->F b\/w.heap.size<=b)/\rl F w d/\∀ ρ':ay,ay.le ρ ρ'->ρ'.M=ρ.M->(s g).rel ρ' v):mv P gl S p t G s i J:=by
 intro w ρ ev F C m D a e;obtain⟨g,v,d,F2,u,y,z,j,k,A⟩:=h w ρ ev F C e;refine⟨g,v,d,F2,ρ.M,u,y,z,j,k,Mem.le_refl _,fun b l c=>⟨Tn k (m b l c) (fun q=>a b q l c),fun q=>?_,.inr (.inr c)⟩,A⟩;rcases j b q with q|q;exact a b q l c;have:=sR (m b l c);omega
theorem TA {t g G ty:TypeId} {x ix vx:Operand} {b:Nat} {l:List (Value × Cell)} {key:Value} {W:Lit} {c:Cell} (T:P.underlying t=some (.map g G)) (K:Maps.Keyed P g)
  (O:∀ p∈l,∃ k,keyOf P g p.1=some k) (z:keyOf P g key=some W) (d:∀ p∈l,p.1≠key) (V:fG S x=.is (.one (.v (.map (some b))))) (m:∀ (ρ:ay) v,(fG S ix).rel ρ v->v=key) (U:fG S vx=.is (.one c)) (I:c.ids=[]) :
  mv P gl S (.mapUpdate t x ix vx) ty (fP b l) (fun _:Unit=>.undef) (fun _=>fP b (l++[(key,c)])) (fun _=>True):=by
 refine Gn fun w ρ ev F H a=>?_;obtain⟨y,u,f,A⟩:=H;have C:=tm V a;have D:=m ρ _ (a ix);have i:c.rel (ay.start ρ.M) [ev vx]:=by have:=a vx;rw[U] at this;exact o9 (ρ:=ρ) (ρ':=ay.start ρ.M) rfl (x:=.is (.one c)) this I
 rcases EE K A O z w with ⟨L,_⟩|⟨j,e,p,_,_,R,s,_⟩
 ·refine⟨(),undef,setBlock w b (.map (u++[(MapEntry.mk key (ev vx) l.length)]).toArray (l++[(key,c)]).length),F,trivial,fun o Q _=>.inr ⟨rfl,?_⟩,⟨y,u++[(MapEntry.mk key (ev vx) l.length)],?_,DS A rfl au i⟩,fun b h=>.inl h,OH ((y b).2 rfl),fun _ _ _=>rfl⟩;simp only[execOp,Q,C,D];simp[Instr.mapUpdate,run_underlying T,MapKept.run_getObj_map f,K.check w _ z,L,MapKept.run_setObj_map _ f,setBlock,Result.andThen]
  ·have q:b<w.heap.size:=by
    rcases bN b w.heap.size with h|h;exact h;rw[eh h] at f;cases f
   show (w.heap.setIfInBounds b _)[b]?=_;rw[so q]
 exact absurd s (d p (dS R))
theorem HY {t e:TypeId}:mv P gl S (.makeMap t none) e ai.none (fun b:Nat=>.is (.one (.v (.map (some b))))) (fun b=>fP b []) (fun _=>True):=by refine Gn fun w h ev F f a=>?_;refine⟨w.heap.size,.map (some w.heap.size),w.alloc (.map #[] 0),fun b=>b=w.heap.size,trivial,nX fun o d _=>?_,⟨fun _=>ky,[],heap_alloc_new w _,trivial⟩,fun b g=>.inr aa,Jb,fun _ _ _=>⟨rfl,rfl⟩⟩;simp only[execOp,d];simp[Instr.makeMap,newObj,Sem.run,Result.andThen]
theorem WC {t i g A:TypeId} {x:Operand} {b:Nat} {l:List (Value × Cell)} (y:P.underlying t=some (.map i g)) (z:fG S x=.is (.one (.v (.map (some b))))) :
  mv P gl S (.range t x) A (fP b l) (fun r:Nat=>.is (.one (.v (pt r)))) (fun r=>ai.sep (oh r b l.length []) (fP b l)) (fun _=>True):=by
 refine Gn fun w G ev F p d=>?_;obtain⟨m,f,c,u⟩:=p;have j:=tm z d;have e:b<w.heap.size:=by rcases bN b w.heap.size with h|h;exact h;rw[eh h] at c;cases c
 refine⟨w.heap.size,pt w.heap.size,w.alloc (.mapIter (some b) l.length #[] l.length),fun k=>k=w.heap.size\/k=b,trivial,nX fun o s _=>?_,
  ⟨fun k=>k=w.heap.size,fun k=>k=b,⟨fun _=>ky,heap_alloc_new w _⟩,⟨fun _=>ky,f,(Below.heap_alloc _ _ _ e).trans c,u⟩,fun k C D=>aa,fun _=>ky⟩,fun k q=>q.elim (fun h=>.inr aa) (fun h=>.inl ((m k).2 h)),Jb,fun _ _ _=>⟨rfl,rfl⟩⟩
 simp only[execOp,s,j];rw[show (do let a <- Instr.range t (.map (some b));pure (Next.value a):Sem Next).run P w=_ from rfl];simp[run_range_map w t i g b f.toArray l.length y c,Result.andThen]
theorem DQ {M:Mem}:∀ {i:Nat} {l:List (Value × Cell)} {a:List MapEntry},pY M i l a->a.map (·.born)=List.range' i l.length
 | _,[],[],_=>rfl
 | i,_::l,e::a,h=>by rw[eI,bG,tF,h.2.1,DQ h.2.2.2]
 | _,[],_::_,h=>h.elim
 | _,_::_,[],h=>h.elim
theorem aaU {ty:TypeId} {it:Operand} {r b:Nat} {l:List (Value × Cell)} {seen:List Nat} (x0:fG S it=.is (.one (.v (pt r)))) (D:∀ p∈l,p.1.oneCell'=true) (y:∀ p∈l,p.2.ids=[]) :
  mv P gl S (.next it false) ty (ai.sep (oh r b l.length seen) (fP b l)) (fun o:Option (Nat × Value × Cell)=>match o with|none=>.tup [.one (.v (.bool false))]|some p=>.tup [.one (.v (.bool true)),.one (.v p.2.1),.one p.2.2])
   (fun o=>match o with|none=>ai.sep (oh r b l.length seen) (fP b l)|some p=>ai.sep (oh r b l.length (seen++[p.1])) (fP b l))
   (fun o=>match o with|none=>∀ i,i<l.length->i∈seen|some p=>l[p.1]?=some p.2/\p.1∉seen):=by
 refine Gn fun w ρ ev F hG Y=>?_;obtain⟨F1,F2,⟨m,hr⟩,⟨t,f,T,d⟩,W,Q⟩:=hG;have e1:=tm x0 Y;have G:=uP d;have g:∀ e∈f,∃ j p,l[j]?=some p/\f[j]?=some e/\e.key=p.1/\e.born=j/\p.2.rel (ay.start ρ.M) [e.val]:=fun e u=>by obtain⟨j,hj⟩:=List.mem_iff_getElem?.1 u;obtain⟨p,A,h2,O,L⟩:=nq d j e hj;exact⟨j,p,A,hj,h2,aa,L⟩
 have x1:∀ (j:Nat) (p:Value × Cell),l[j]?=some p->j<l.length:=fun j p h=>by rcases bN j l.length with h'|h';exact h';rw[dQ h'] at h;cases h
 rcases run_next_at (P:=P) w ty r b l.length l.length seen.toArray f.toArray l.length hr T (fun e u=>by
  obtain⟨j,p,A,_,_,O,_⟩:=g e (by simpa using u)
  have:=x1 j p A;omega) (aE _) with ⟨C,k⟩|⟨e,u,s,hw,k⟩
 ·refine⟨none,.tuple #[.bool false],w,F,fun i hi=>?_,nX fun o ho z=>?_,⟨F1,F2,⟨m,hr⟩,⟨t,f,T,d⟩,W,Q⟩,fun b h=>.inl h,⟨rfl,rfl,rfl,aE _,fun _ _ _=>rfl⟩,fun ρ' _ _=>⟨[.bool false],rfl,.bool false,[],rfl,⟨rfl,rfl⟩,rfl⟩⟩
  ·have Z:f[i]?=some f[i]:=by simp[G,hi]
   obtain⟨p,_,_,V,_⟩:=nq d i _ Z;have C:leftOf f.toArray seen.toArray=#[]:=AV C;unfold leftOf at C;rw[Array.filter_eq_empty_iff] at C;have:=C f[i] au;simp at this;rw[V,bH] at this;exact this
  simp only[execOp,ho,e1,z];rw[show ((do let a <- Instr.next (pt r) false ty;pure (Next.value a)):Sem Next).run P w=(((Instr.next (pt r) false ty).run P w).andThen fun a w'=>(pure (Next.value a):Sem Next).run P w') from Sem.run_bind ..,k];rfl
 ·have q:e∈f/\e.born∉seen:=by
   unfold leftOf at u;simp at u;exact u
  obtain⟨j,p,A,h2,O,L,h5⟩:=g e q.1;have I:s.heap[r]?=some (.mapIter (some b) l.length seen.toArray l.length):=by rcases hw with rfl|rfl<;>exact hr
  have U:s.heap[b]?=some (.map f.toArray l.length):=by rcases hw with rfl|rfl<;>exact T
  have R:rl F w s:=by rcases hw with rfl|rfl;exact⟨rfl,rfl,rfl,aE _,fun _ _ _=>rfl⟩;exact We
  have x2:b≠r:=fun e=>W b ((m b).2 e) ((t b).2 rfl);have dk:F r:=(Q r).2 (.inl ((m r).2 rfl));have H:=dS A;refine⟨some (j,p),.tuple #[.bool true,e.key,e.val],setBlock s r (.mapIter (some b) l.length (seen.toArray.push e.born) l.length),F,⟨A,by rw[<- L];exact q.2⟩,nX fun o ho z=>?_,⟨F1,F2,⟨m,?_⟩,⟨t,f,?_,d⟩,W,Q⟩,fun b h=>.inl h,R.tr (OH dk),fun ρ' _ hM=>?_⟩;simp only[execOp,ho,e1,z];rw[show ((do let a <- Instr.next (pt r) false ty;pure (Next.value a)):Sem Next).run P w=(((Instr.next (pt r) false ty).run P w).andThen fun a w'=>(pure (Next.value a):Sem Next).run P w') from Sem.run_bind ..,k];rfl
  ·have K:r<s.heap.size:=by
    rcases bN r s.heap.size with h|h;exact h;rw[eh h] at I;cases I
   show (s.heap.setIfInBounds r _)[r]?=_;rw[so K,L];simp
  show (s.heap.setIfInBounds r _)[b]?=_;rw[vo (fun e=>x2 e.symm)];exact U;refine⟨[.bool true,e.key,e.val],rfl,.bool true,[e.key,e.val],rfl,⟨rfl,rfl⟩,e.key,[e.val],rfl,⟨by show [e.key]=[p.1];rw[O],D p H⟩,e.val,[],rfl,?_,rfl⟩;exact o9 (ρ:=ay.start ρ.M) (ρ':=ρ') hM (x:=.is (.one p.2)) h5 (y p H)
theorem WB {ty:TypeId} {it:Operand} {r b i:Nat} {l:List (Value × Cell)} {seen:List Nat} {p:Value × Cell} (q:l[i]?=some p) (u:fG S it=.is (.one (.v (pt r)))) (g:p.1.oneCell'=true) (f:p.2.ids=[]) :
  mv P gl S (.entry it) ty (ai.sep (oh r b l.length (seen++[i])) (fP b l)) (fun _:Unit=>.tup [.one (.v p.1),.one p.2]) (fun _=>ai.sep (oh r b l.length (seen++[i])) (fP b l)) (fun _=>True):=by
 refine C6 fun w ρ ev F D m=>?_;obtain⟨R,F2,⟨A,K⟩,⟨C,d,H,e⟩,U,T⟩:=D;have z:=tm u m;have h:=uP e;have t:i<l.length:=by rcases bN i l.length with h'|h';exact h';rw[dQ h'] at q;cases q
 have s:d[i]?=some d[i]:=by simp[h,t]
 obtain⟨W,y,L,V,O⟩:=nq e i _ s;rw[q] at y;cases y;have k:d[i].born=i:=aa;refine⟨(),.tuple #[d[i].key,d[i].val],trivial,nX fun o I _=>?_,fun ρ' _ G=>⟨[d[i].key,d[i].val],rfl,d[i].key,[d[i].val],rfl,⟨by rw[L],g⟩,d[i].val,[],rfl,?_,rfl⟩⟩;simp only[execOp,I,z];have j:=run_entry_at (P:=P) w r b l.length seen.toArray d.toArray l.length d[i] (by rw[K];simp[k]) H au (by rw[show d.toArray.toList.map (·.born)=List.range' 0 l.length from DQ e];exact List.nodup_range');rw[show ((do let a <- Instr.entry (pt r);pure (Next.value a)):Sem Next).run P w=(((Instr.entry (pt r)).run P w).andThen fun a Q=>(pure (Next.value a):Sem Next).run P Q) from Sem.run_bind ..,j];rfl;exact o9 (ρ:=ay.start ρ.M) (ρ':=ρ') G (x:=.is (.one p.2)) O f
end
theorem GH.drop {E:b5} {N:Nat} {j:St} {G R:ai} {a:Act} {w:World} (h:GH E N j (ai.sep R G) a w):GH E N j G a w:=by obtain⟨W,F,e,⟨A,F2,_,s,_,g⟩,u⟩:=h;exact⟨W,F2,⟨e.gl,e.kep,e.ids,fun b f=>e.foot b ((g b).2 (.inr f)),fun b f=>e.own b ((g b).2 (.inr f)),fun b f=>e.mem b ((g b).2 (.inr f)),e.old,e.xl,e.plt,e.mle⟩,s,u⟩
theorem Ew {E:b5} {N:Nat} {n r:Act->World->Prop} {x:Nat->Act->World->Prop} {l:List Code} {b:St} {G R:ai} (h:aK E.P l (GH E N b G) n r x):aK E.P l (GH E N b (ai.sep R G)) n r x :=
 nZ (fun _ _ h=>h.drop) h
theorem EY {E:Env} {fn:Func} {Q c:SV->St->Prop} {a:St} (h:lb E fn Q a) (d:∀ b a,Q b a->c b a):lb E fn c a:=by
 unfold lb at h ⊢;cases e:GD E a fn.results.toList with
 | some b=>rw[e] at h;exact d _ _ h
 | none=>rw[e] at h;exact h.elim
theorem g9 {E:b5} {x:Nat->Act->World->Prop} (i:aD E.P E.sp) (m:E.P.follows .mixedOrders=true) {fn:Func} {l:List Code} {j:St} {G:ai} {Q:SV->ai->Prop} (q:SV)
  (h:∀ (w:World) (ids:List (Nat × Nat)) (M:Mem) (num:Nat × Nat->Nat),VC ⟨E.P,E.sp,⟨w,ids,E.gl,M,num,j.next⟩⟩ l j (lb ⟨E.P,E.sp,cj E⟩ fn fun sv _=>sv=q) (lb ⟨E.P,E.sp,cj E⟩ fn fun sv _=>sv=q) (fun _ _=>False)) (k:Q q G) :
  aK E.P l (GH E fn.ntmps j G) (cP E fn Q) (cP E fn Q) x :=
 kK i m _ _ _ h (fun d _ _ g f=>⟨d,G,cj E,f,EY g fun _ _ e=>e▸k⟩) (fun d _ _ g f=>⟨d,G,cj E,f,EY g fun _ _ e=>e▸k⟩) (fun _ _ _ _ h _=>h.elim)
theorem cA {P:Program} {sp:FuncId->Option Spec} {gl:Nat->Option (Sigma aA)} {f:FuncId} {fn:Func} {α β:Type} {args:α->List SV} {pre:α->Prop} {A:α->ai} {sv:α->β->SV} {G2:α->β->ai} {J:α->β->Prop}
  (Y:enters P f fn) (d:fn.body.isSome=true) (Z:∀ x,(args x).length<=fn.ntmps) (O:∀ x y,(sv x y).ids=[])
  (h:∀ x,pre x->∀ (w:World) (M:Mem) (F:Nat->Prop),aK P (ak fn) (GH (kO P sp gl w M F) fn.ntmps (ln fn (args x) [] 0) (A x)) (cP (kO P sp gl w M F) fn fun s G=>∃ y,J x y/\cG s (sv x y)/\G=G2 x y) (cP (kO P sp gl w M F) fn fun s G=>∃ y,J x y/\cG s (sv x y)/\G=G2 x y) (fun _ _ _=>False)) :
  dG P gl f args pre A sv G2 J:=by
 intro x hx w M us F T W K C hv;refine (gfn (E:=kO P sp gl w M F) (M:=M) (F0:=F) (G0:=A x) Y.1 d rfl W K hv (Z x) T rfl (fun b i=>⟨i,C b i⟩) (h x hx w M F)).mono ?_;rintro e w2 ⟨v,s,G,F2,ρ,rfl,hs,⟨y,U,hr,rfl⟩,D,V,I,g,j,u,o⟩;refine⟨y,v,F2,ρ.M,U,rfl,D,g,V,o,fun b l i=>⟨I b l i,fun Q=>j b Q l i,?_⟩,o9 (ρ:=ρ) (ρ':=ay.start ρ.M) rfl (hr ρ v hs) (O x y)⟩;by_cases L:b<w.heap.size;rcases u b l i L with h|h;exact .inr (.inl h);exact .inr (.inr h);exact .inl aa
theorem a7 (s:SV):cG s s:=fun _ _ h=>h
theorem Cs:cG (.is (.one .T)) (.is (.one (.v (.bool true)))):=fun _ _ h=>⟨h,rfl⟩
theorem q9:cG (.is (.one .F)) (.is (.one (.v (.bool false)))):=fun _ _ h=>⟨h,rfl⟩
def Gg:Cell->Cell
 | .T=>.v (.bool true)
 | .F=>.v (.bool false)
 | c=>c
theorem aaH {b:ay} {c:Cell} {a:List Value} (h:c.rel b a):(Gg c).rel b a:=by
 cases c<;>first
  | exact h
  | exact⟨h,rfl⟩
theorem LI {c:ay}:∀ {a:List Cell} {b:List Value},ax c a b->ax c (a.map Gg) b
 | [],_,h=>h
 | _::_,_,⟨g,i,e,d,f⟩=>⟨g,i,e,aaH d,LI f⟩
theorem aea {d:List (List Cell)} {p:Nat} {a:ai} (w:World) (M:Mem) (F:Nat->Prop) (h:(ai.obj d p a).P w M F):(ai.obj (d.map fun e=>e.map Gg) p a).P w M F:=by obtain⟨g,F2,m,o,q,s,t,u,y⟩:=h;refine⟨g,F2,m,by rw[bU];exact o,q,s,t,u,fun i e b f z=>?_⟩;rw[dw] at f;obtain⟨c,j,k⟩:=Option.map_eq_some_iff.1 f;subst k;obtain⟨l,A,C⟩:=y i c b j z;exact⟨l,A,LI C⟩
section
variable {P:Program} {gl:Nat->Option (Sigma aA)} {S:cD}
theorem xi {t c j k:TypeId} {x y:Operand} {p:Nat} {G:ai} (g:P.underlying t=some (.pointer c)) (h:fG S x=.is (.one (.v (pt p)))) (i:fG S y=.is (.one (.v (.pointer none)))) :
  mv P gl S (.binOp .eql t x y j) k G (fun _:Unit=>.is (.one .F)) (fun _=>G) (fun _=>True):=by
 refine C6 fun w m ev F l a=>?_;have d:=tm h a;have e:=tm i a;refine⟨(),.bool false,trivial,nX fun o f _=>?_,fun _ _ _=>rfl⟩;simp only[execOp,f,d,e];simp only[Sem.run_bind,je,Result.andThen_ok]
 rw[show (binOp .eql t (pt p) (.pointer none)).run P w=.ok (.bool false) w from by
  show (do let b <- Op.equal t (pt p) (.pointer none);pure (Value.bool b):Sem Value).run P w=_;simp only[Sem.run_bind,kS g,Result.andThen_ok,Sem.run_pure]
  rfl]
 rfl
end
section
variable {E:b5} {N:Nat} {n r:Act->World->Prop} {x:Nat->Act->World->Prop}
theorem oU {a:Act} {w:World} {c:St} {bl:List (List Cell)} {id p:Nat} {e:ai} (K L:List Nat) (m:E.pins=[]) (f:(L.all fun i => !ez i K)=true) (b:(ga c.B K&&ga c.B L&&kN L&&xa c.B L)=true) (k:L[0]?=some id) (g:((L.map fun i=>(rY c.B i).map (Cell.rZ (pos L))).map fun j=>j.map Gg)=bl) (d:Nat)
  (l:GH { E with pins:=[(id,p)],ptop:=d } N c e a w):GH E N (kD c K id p) (ai.obj bl p e) a w:=by
 subst g;exact (VY K L m f b k rfl d l).mono fun w M F h=>aea w M F h
theorem kj {l:List Code} {d:St} {bl:List (List Cell)} {id p:Nat} {f:ai} (K L:List Nat) (s:E.pins=[]) (g:(L.all fun i => !ez i K)=true) (c:(ga d.B K&&ga d.B L&&kN L&&xa d.B L)=true) (o:L[0]?=some id) (j:((L.map fun i=>(rY d.B i).map (Cell.rZ (pos L))).map fun m=>m.map Gg)=bl) (e:Nat)
  (τ:St) (k:(kD d K id p).le (cj E) τ True) (h:aK E.P l (GH E N τ (ai.obj bl p f)) n r x):aK E.P l (GH { E with pins:=[(id,p)],ptop:=e } N d f) n r x :=
 nZ (fun _ _ q=>((oU K L s g c o j e q).le k).2) h
theorem Qy {l:List Code} {ops:Array Oper} {i:Nat} {c:St} {bl:List (List Cell)} {id p:Nat} {e:ai} (K L:List Nat) (s:E.pins=[]) (f:(L.all fun i => !ez i K)=true) (b:(ga c.B K&&ga c.B L&&kN L&&xa c.B L)=true) (o:L[0]?=some id) (g:((L.map fun i=>(rY c.B i).map (Cell.rZ (pos L))).map fun m=>m.map Gg)=bl) (d:Nat)
  (k:St) (j:(kD c K id p).le (cj E) k True) (h:pJ E.P ops i l (GH E N k (ai.obj bl p e)) n r x):pJ E.P ops i l (GH { E with pins:=[(id,p)],ptop:=d } N c e) n r x:=by
 intro a w Q q;exact h a w Q ((oU K L s f b o g d q).le j).2
theorem CY {l:List Code} {b:St} {bl:List (List Cell)} {id:Nat} {G:ai} (t:Nat) (K L:List Nat) (o:E.pins=[]) (y:b.S t=.is (.one (.ptr id 0))) (d:(blt id b.next&&ble E.ptop b.next)=true) (g:(L.all fun i => !ez i K)=true) (e:(ga b.B K&&ga b.B L&&kN L&&xa b.B L)=true) (u:L[0]?=some id) (j:((L.map fun i=>(rY b.B i).map (Cell.rZ (pos L))).map fun s=>s.map Gg)=bl)
  (m:Nat->St) (k:∀ p,(kD b K id p).le (cj E) (m p) True) (h:∀ p,aK E.P l (GH E N (m p) (ai.obj bl p G)) n r x):aK E.P l (GH E N b G) n r x:=by
 simp only[aQ] at d;refine FV (Pre':=fun p=>GH E N (m p) (ai.obj bl p G)) (fun a w f=>?_) h;obtain⟨p,f⟩:=f.xl t id y b.next (fL d.1) (gR d.2);rw[o] at f;exact⟨p,((oU K L o g e u j b.next f).le (k p)).2⟩
theorem SW {l:List Code} {c:Code} {f:St} {G:ai} (h:l.head?=some c) (g:nO c=true) (j:jH f.S (nJ c)=.is (.one .T)) (m:aK E.P (fV c++l.tail) (GH E N f G) n r x):aK E.P l (GH E N f G) n r x:=by
 intro a w Q i o s u;cases l with
 | nil=>simp at h
 | cons d l =>simp at h;subst h;unfold nO at g;split at g;rename_i c p q;obtain⟨F,k,C,y,z,e,A⟩:=i.kR;have b:(jH f.S c).rel k (a.eval c):=cN.fG (E:=⟨E.P,E.sp,ji w E.gl k f.next⟩) e c;simp only[nJ] at j;rw[j] at b;have b:[a.eval c]=[Value.bool true]:=b;refine wp_cond_split (mU b).1 (fun _=>?_) (fun t=>by cases t);exact jP p l Q a w (m a w Q i o s u);cases g
theorem SU {l:List Code} {c:Code} {f:St} {G:ai} (h:l.head?=some c) (g:nO c=true) (j:jH f.S (nJ c)=.is (.one .F)) (m:aK E.P (rA c++l.tail) (GH E N f G) n r x):aK E.P l (GH E N f G) n r x:=by
 intro a w Q i o s u;cases l with
 | nil=>simp at h
 | cons d l =>simp at h;subst h;unfold nO at g;split at g;rename_i c p q;obtain⟨F,k,C,y,z,e,A⟩:=i.kR;have b:(jH f.S c).rel k (a.eval c):=cN.fG (E:=⟨E.P,E.sp,ji w E.gl k f.next⟩) e c;simp only[nJ] at j;rw[j] at b;have b:[a.eval c]=[Value.bool false]:=b;refine wp_cond_split (mU b).1 (fun t=>by cases t) (fun _=>?_);exact jP q l Q a w (m a w Q i o s u);cases g
theorem GH.ref {c:St} {G:ai} {a:Act} {w:World} (t:Nat) (s:SV) (l:cG (c.S t) s) (j:GH E N c G a w):GH E N ⟨c.slots.set t s,c.blks,c.next⟩ G a w:=by obtain⟨W,F,k,i,d,g,b,e⟩:=j;refine⟨W,F,k,i,by show (c.slots.set t s).length=N;rw[im];exact d,g,{ b with slots:=?_ },e⟩;intro u;have h:=b.slots u;show ((c.slots.set t s).getD u .junk).rel g _;rw[aX,wL];split;rename_i f;subst f;split;exact l g _ h;trivial;rw[<- aX];exact h
theorem fE {l:List Code} {c:St} {G:ai} (t:Nat) (s:SV) (e:cG (c.S t) s) (h:aK E.P l (GH E N ⟨c.slots.set t s,c.blks,c.next⟩ G) n r x):aK E.P l (GH E N c G) n r x:=nZ (fun _ _ d=>d.ref t s e) h
theorem qR {l:List Code} {ops:Array Oper} {i:Nat} {c:St} {G:ai} (t:Nat) (s:SV) (e:cG (c.S t) s) (h:pJ E.P ops i l (GH E N ⟨c.slots.set t s,c.blks,c.next⟩ G) n r x):pJ E.P ops i l (GH E N c G) n r x:=by intro a w Q d;exact h a w Q (d.ref t s e)
theorem gf:cG (.is (.one (.v (.bool true)))) (.is (.one .T)):=fun _ _ h=>h.1
theorem lK:cG (.is (.one (.v (.bool false)))) (.is (.one .F)):=fun _ _ h=>h.1
end
section
variable {E:b5} {N:Nat} {n r:Act->World->Prop} {x:Nat->Act->World->Prop} {l:List Code} {σ:St} {G:ai}
theorem ee (e:aD E.P E.sp) (k:Nat) (d:St) (g:aK E.P (l.drop k) (GH E N d G) n r x) (i:E.P.follows .mixedOrders=true:=by kernel_rfl)
  (h:∀ (w:World) (ids:List (Nat × Nat)) (M:Mem) (num:Nat × Nat->Nat),d.ag True=VC ⟨E.P,E.sp,⟨w,ids,E.gl,M,num,σ.next⟩⟩ (l.take k) σ (fun f=>f.le (cj E) d True) (fun _=>False) (fun _ _=>False):=by intros;kernel_rfl):aK E.P l (GH E N σ G) n r x :=
 vd e i k (fun _=>()) (fun _=>d) (fun _=>True) (fun _=>False) (fun _ _=>False) (fun w ids M num=>al (h w ids M num) (ao trivial)) (fun _ _=>g) (fun _ _ _ h _=>h.elim) (fun _ _ _ _ h _=>h.elim)
theorem gcd (e:aD E.P E.sp) {j:Type} (k:Nat) (f:St->j) (m:j->St) (K:j->Prop)
  (h:∀ (w:World) (ids:List (Nat × Nat)) (M:Mem) (num:Nat × Nat->Nat),VC ⟨E.P,E.sp,⟨w,ids,E.gl,M,num,σ.next⟩⟩ (l.take k) σ (fun d=>d.le (cj E) (m (f d)) (K (f d))) (fun _=>False) (fun _ _=>False))
  (o:∀ g,K g->aK E.P (l.drop k) (GH E N (m g) G) n r x) (s:E.P.follows .mixedOrders=true:=by kernel_rfl):aK E.P l (GH E N σ G) n r x :=
 vd e s k f m K (fun _=>False) (fun _ _=>False) h o (fun _ _ _ h _=>h.elim) (fun _ _ _ _ h _=>h.elim)
theorem BV (d:aD E.P E.sp) (k:Nat) (sw:List (Nat × Nat)) (a:St) (f:aK E.P (l.drop k) (GH E N a G) n r x) (g:E.P.follows .mixedOrders=true:=by kernel_rfl)
  (h:∀ (w:World) (ids:List (Nat × Nat)) (M:Mem) (num:Nat × Nat->Nat),a.ag True=VC ⟨E.P,E.sp,⟨w,ids,E.gl,M,num,σ.next⟩⟩ (l.take k) σ (fun e=>e.sk (cj E) sw a True) (fun _=>False) (fun _ _=>False):=by intros;kernel_rfl):aK E.P l (GH E N σ G) n r x :=
 kJ d g k sw (fun _=>()) (fun _=>a) (fun _=>True) (fun _=>False) (fun _ _=>False) (fun w ids M num=>al (h w ids M num) (ao trivial)) (fun _ _=>f) (fun _ _ _ h _=>h.elim) (fun _ _ _ _ h _=>h.elim)
theorem c7 (g:aD E.P E.sp) {ops:Array Oper} {i:Nat} (j:Nat) (e:St) (k:kt E.P ops j l (GH E N e G) n r x) (f:ble i j=true:=by kernel_rfl) (o:ble j ops.size=true:=by kernel_rfl)
  (h:∀ (w:World) (ids:List (Nat × Nat)) (M:Mem) (num:Nat × Nat->Nat),e.ag True=uD ⟨E.P,E.sp,⟨w,ids,E.gl,M,num,σ.next⟩⟩ ops i ((ops.toList.drop i).take (j-i)) σ [] (fun d _=>({ d with next:=d.next+8*j }:St).le (cj E) e True):=by intros;kernel_rfl):kt E.P ops i l (GH E N σ G) n r x :=
 Ov g j (fun _=>()) (fun _=>e) (fun _=>True) (gR f) (gR o) (fun w ids M num=>al (h w ids M num) (ao trivial)) (fun _ _=>k)
theorem fD (h:aD E.P E.sp) {ops:Array Oper} {i:Nat} {k:Type} (j:Nat) (f:St->k) (o:k->St) (K:k->Prop)
  (s:∀ (w:World) (ids:List (Nat × Nat)) (M:Mem) (num:Nat × Nat->Nat),uD ⟨E.P,E.sp,⟨w,ids,E.gl,M,num,σ.next⟩⟩ ops i ((ops.toList.drop i).take (j-i)) σ [] (fun d _=>({ d with next:=d.next+8*j }:St).le (cj E) (o (f { d with next:=d.next+8*j })) (K (f { d with next:=d.next+8*j }))))
  (t:∀ g,K g->kt E.P ops j l (GH E N (o g) G) n r x) (e:ble i j=true:=by kernel_rfl) (u:ble j ops.size=true:=by kernel_rfl):kt E.P ops i l (GH E N σ G) n r x :=
 Ov h j f o K (gR e) (gR u) s t
theorem dv {ops:Array Oper} {i:Nat} (h:aK E.P l (GH E N σ G) n r x) (d:ble ops.size i=true:=by kernel_rfl):kt E.P ops i l (GH E N σ G) n r x:=HK (gR d) h
theorem dB (rid:Nat) (ops:Array Oper) (h:kt E.P ops 0 l.tail (GH E N σ G) n r x) (d:l.head?=some (.region rid ops false):=by kernel_rfl):aK E.P l (GH E N σ G) n r x:=QA d h
theorem gz {ops:Array Oper} {k:Nat} {g:St} {f:FuncId} {fn:Func} {α β:Type} {args:α->List SV} {pre:α->Prop} {q:α->ai} {p:α->β->SV} {s:α->β->ai} {J:α->β->Prop}
  (j:dG E.P E.gl f args pre q p s J) (z:α) (w:pre z) (u:enters E.P f fn) (h:∀ y,J z y->kt E.P ops (k+1) l (GH E N (g.put (nQ ops k) (p z y)) (s z y)) n r x)
  (e:JY g.S ops k f=true:=by kernel_rfl) (d:(yM ops k).map (fG g.S)=args z:=by kernel_rfl) (i:Gh (args z)=true:=by kernel_rfl) (o:∀ y,(p z y).ids=[]:=by intros;rfl):kt E.P ops k l (GH E N g (q z)) n r x :=
 gK (fS j z w e u d i o) h
theorem gA (d:St) (e:aK E.P l (GH E N d G) n r x) (h:d=σ.proj d:=by kernel_rfl) (f:(ble d.next σ.next&&d.wf&&ble (cj E).top d.next&&beq σ.slots.length d.slots.length)=true:=by kernel_rfl):aK E.P l (GH E N σ G) n r x:=adb (K:=True) (aw h f trivial) (fun _=>e)
theorem jx (c:Code) (d:aK E.P (fV c++l.tail) (GH E N σ G) n r x) (f:l.head?=some c:=by kernel_rfl) (e:nO c=true:=by kernel_rfl) (g:jH σ.S (nJ c)=.is (.one (.v (.bool true))):=by kernel_rfl):aK E.P l (GH E N σ G) n r x:=K8 true f e g (fun _=>d) (fun h=>by cases h)
theorem eQ (c:Code) (d:aK E.P (rA c++l.tail) (GH E N σ G) n r x) (f:l.head?=some c:=by kernel_rfl) (e:nO c=true:=by kernel_rfl) (g:jH σ.S (nJ c)=.is (.one (.v (.bool false))):=by kernel_rfl):aK E.P l (GH E N σ G) n r x:=K8 false f e g (fun h=>by cases h) (fun _=>d)
theorem gqT (c:Code) (a:aK E.P (fV c++l.tail) (GH E N σ G) n r x) (d:l.head?=some c:=by kernel_rfl) (b:nO c=true:=by kernel_rfl) (e:jH σ.S (nJ c)=.is (.one .T):=by kernel_rfl):aK E.P l (GH E N σ G) n r x:=SW d b e a
theorem SS (c:Code) (b:aK E.P (rA c++l.tail) (GH E N σ G) n r x) (e:l.head?=some c:=by kernel_rfl) (d:nO c=true:=by kernel_rfl) (f:jH σ.S (nJ c)=.is (.one .F):=by kernel_rfl):aK E.P l (GH E N σ G) n r x:=SU e d f b
theorem gZ {bl:List (List Cell)} {p:Nat} {g:ai} (e:List Nat) (d:St) (j:aK E.P l (GH (E.pinned σ.next p) N d g) n r x) (i:e.map σ.S=e.map fun _=>SV.is (.one (.v (pt p))):=by kernel_rfl)
  (h:d=(rM σ e (bl.map fun f=>f.map (Cell.rZ (σ.next + ·)))).proj d:=by kernel_rfl) (k:(ble d.next (rM σ e (bl.map fun f=>f.map (Cell.rZ (σ.next + ·)))).next&&d.wf&&ble (cj (E.pinned σ.next p)).top d.next&&beq (rM σ e (bl.map fun f=>f.map (Cell.rZ (σ.next + ·)))).slots.length d.slots.length)=true:=by kernel_rfl):aK E.P l (GH E N σ (ai.obj bl p g)) n r x :=
 V0 e i d (aw h k trivial) j
theorem fk {bl:List (List Cell)} {id p:Nat} {g:ai} (K L:List Nat) (f:Nat) (d:St) (h:aK E.P l (GH E N d (ai.obj bl p g)) n r x) (u:E.pins=[]:=by rfl) (j:(L.all fun i => !ez i K)=true:=by kernel_rfl) (e:(ga σ.B K&&ga σ.B L&&kN L&&xa σ.B L)=true:=by kernel_rfl) (q:L[0]?=some id:=by rfl) (k:((L.map fun i=>(rY σ.B i).map (Cell.rZ (pos L))).map fun o=>o.map Gg)=bl:=by kernel_rfl)
  (s:d=(kD σ K id p).proj d:=by kernel_rfl) (t:(ble d.next (kD σ K id p).next&&d.wf&&ble (cj E).top d.next&&beq (kD σ K id p).slots.length d.slots.length)=true:=by kernel_rfl):aK E.P l (GH { E with pins:=[(id,p)],ptop:=f } N σ g) n r x :=
 kj K L u j e q k f d (aw s t trivial) h
theorem Yd (t id k c:Nat) (e:Kd) (b:List (aA e)) (f:aK E.P l (GH E N ⟨σ.slots.set t (.is (.one (.ro e b))),(id,[])::σ.blks,σ.next⟩ G) n r x) (m:b.length=k:=by rfl) (i:σ.S t=.is (.one (.sl id 0 0 k c)):=by kernel_rfl) (g:σ.B id=some [.row e k b]:=by kernel_rfl):aK E.P l (GH E N σ G) n r x:=by refine mE (P:=E.P) (l1:=[]) (l2:=l) (GH E N ⟨σ.slots.set t (.is (.one (.ro e b))),(id,[])::σ.blks,σ.next⟩ G) ?_ f;refine vE (fun d=>d=⟨σ.slots.set t (.is (.one (.ro e b))),(id,[])::σ.blks,σ.next⟩) (fun _=>False) (fun _ _=>False) (fun w ids M num=>?_) (fun d a w e j=>e▸j) (fun _ _ _ h _=>h.elim) (fun _ _ _ _ h _=>h.elim);exact UC t id k c e b i g m (ke rfl)
end
theorem pM {E:b5} {x:Nat->Act->World->Prop} (b:aD E.P E.sp) {fn:Func} {l:List Code} {σ:St} {G:ai} {Q:SV->ai->Prop} (q:SV) (e:Q q G) (d:E.P.follows .mixedOrders=true:=by kernel_rfl)
  (h:∀ (w:World) (ids:List (Nat × Nat)) (M:Mem) (num:Nat × Nat->Nat),(q=q)=VC ⟨E.P,E.sp,⟨w,ids,E.gl,M,num,σ.next⟩⟩ l σ (lb ⟨E.P,E.sp,cj E⟩ fn fun sv _=>sv=q) (lb ⟨E.P,E.sp,cj E⟩ fn fun sv _=>sv=q) (fun _ _=>False):=by intros;kernel_rfl) :
  aK E.P l (GH E fn.ntmps σ G) (cP E fn Q) (cP E fn Q) x:=g9 b d q (fun w ids M num=>al (h w ids M num) rfl) e
end Ob
end Go.Eng
section
universe u
theorem ab {α:Sort u}{a b:α}(h:a=b:=by kernel_rfl):a=b:=h
end
open Go.Eng
namespace Go.Proofs.YtofofalgjibokaaGreatDoor
open Go.IntKind(i64 u64)
section
universe u
theorem mixed:Tryz.prog.follows .mixedOrders=true:=ab
theorem wrap_u64 {a:Int} (b:0<=a) (c:a<18446744073709551616):u64.wrap a=a:=by simp only[IntKind.wrap,IntKind.signed,IntKind.bits];simp only[eH];exact dd b (by simpa using c)
theorem wq (a:Int):u64.wrap a=a%18446744073709551616:=by simp[IntKind.wrap,IntKind.signed,IntKind.bits]
theorem wrap_i64 {a:Int} (b : -9223372036854775808<=a) (d:a<9223372036854775808):i64.wrap a=a:=by
 have e:i64.wrap a=if (9223372036854775808:Int)<=a%18446744073709551616 then a%18446744073709551616-18446744073709551616 else a%18446744073709551616:=by simp[IntKind.wrap,IntKind.signed,IntKind.bits]
 rw[e];split<;>omega
theorem AN (n:Nat) (h:n<18446744073709551616):(BitVec.ofInt 64 (n:Int)).toNat=n:=by rw[show BitVec.ofInt 64 (n:Int)=BitVec.ofNat 64 n from by simp,qy,il aa]
theorem Zh (n m:Nat) (b:n<18446744073709551616) (a:m<18446744073709551616):aF .and .u64 n m=((n &&& m:Nat):Int):=by show u64.wrap ((BitVec.ofInt 64 n &&& BitVec.ofInt 64 m:BitVec 64).toNat:Int)=_;rw[tG,AN n b,AN m a,wrap_u64 aa];have:=Nat.and_le_left (n:=n) (m:=m);omega
theorem Eg {a:Int} (b:0<=a) (c:a<18446744073709551616):aF .and .u64 a 4294967295=a%4294967296:=by obtain⟨n,rfl⟩:=jQ b;have:=Zh n 4294967295 aa aa;rw[show ((4294967295:Nat):Int)=4294967295 from rfl] at this;rw[this];have h:=AX n 32;rw[show 2^32-1=4294967295 from rfl] at h;rw[h];omega
theorem To (c b e d:Int):(c*4294967296+b)*(e*4294967296+d)=c*e*18446744073709551616+(c*d)*4294967296+(b*e)*4294967296+b*d:=by grind
theorem lI {x y m n:Int} (c:0<=x) (d:x<=m) (b:0<=y) (e:y<=n):0<=x*y/\x*y<=m*n:=by refine⟨mT c b,Int.mul_le_mul d e b aa⟩
def V4 (a b:Int):Int :=
 let s:=fun x:Int=>Int.fdiv x (2^min (toNat 32) u64.bits);let m:=fun x:Int=>aF .and .u64 x 4294967295;let W:=u64.wrap;let t:=W (W (s a*m b)+s (W (m a*m b)))
 W (W (W (s a*s b)+s t)+s (W (m t+W (m a*s b))))
theorem aas {a b:Int} (g:0<=a) (l:a<18446744073709551616) (h:0<=b) (o:b<18446744073709551616):V4 a b=a*b/18446744073709551616:=by
 have p:∀ x:Int,Int.fdiv x (2^min (toNat 32) u64.bits)=x/4294967296:=by intro x;rw[show (2:Int)^min (toNat 32) u64.bits=4294967296 from by decide];exact sr x ae
 unfold V4;simp only[p,Eg g l,Eg h o];have j:a=(a/4294967296)*4294967296+a%4294967296:=aa;have k:b=(b/4294967296)*4294967296+b%4294967296:=aa;have i:=To (a/4294967296) (a%4294967296) (b/4294967296) (b%4294967296);rw[<- j,<- k] at i;have r:=lI (x:=a/4294967296) (y:=b/4294967296) (m:=4294967295) (n:=4294967295) aa aa aa aa;have s:=lI (x:=a/4294967296) (y:=b%4294967296) (m:=4294967295) (n:=4294967295) aa aa aa aa;have t:=lI (x:=a%4294967296) (y:=b/4294967296) (m:=4294967295) (n:=4294967295) aa aa aa aa;have w:=lI (x:=a%4294967296) (y:=b%4294967296) (m:=4294967295) (n:=4294967295) aa aa aa aa;generalize a*b=q at *;generalize (a/4294967296)*(b/4294967296)=f at *;generalize (a/4294967296)*(b%4294967296)=d at *;generalize (a%4294967296)*(b/4294967296)=e at *;generalize (a%4294967296)*(b%4294967296)=c at *;rw[wrap_u64 (a:=c) aa aa,wrap_u64 (a:=d) aa aa,wrap_u64 (a:=e) aa aa,wrap_u64 (a:=f) aa aa];rw[wrap_u64 (a:=d+c/4294967296) aa aa];rw[Eg (a:=d+c/4294967296) aa aa];rw[wrap_u64 (a:=(d+c/4294967296)%4294967296+e) aa aa];rw[wrap_u64 (a:=f+(d+c/4294967296)/4294967296) aa aa];rw[wrap_u64 aa aa];omega
theorem Sr:enters Tryz.prog 141 Tryz.f141:=ek
abbrev zV:HL [.int .u64,.int .u64]->Prop:=fun (a,b,_)=>gQ a/\gQ b
abbrev EM:HL [.int .u64,.int .u64]->HO [.val (.int .u64),.val (.int .u64)]:=fun (a,b,_)=>((a:Int)*b/18446744073709551616,(a:Int)*b%18446744073709551616,())
theorem KU:aL Tryz.prog 141 [.int .u64,.int .u64] [.val (.int .u64),.val (.int .u64)] bx zV EM:=by refine a8 bp mixed Sr ae ae ?_;rintro w M ⟨a,b,⟨⟩⟩ _ ⟨⟨c,e⟩,d,f⟩;refine al (X:=((0:Int)<=32/\(0:Int)<=32/\(0:Int)<=32/\(0:Int)<=32/\(0:Int)<=32/\(((V4 a b,u64.wrap (a*b),()):Int × Int × Unit)=EM (a,b,())))) ab ?_;refine⟨ae,ae,ae,ae,ae,?_⟩;rw[aas c e d f,wq]
abbrev l7:HL [.int .u64,.int .u64,.int .u64]->Prop:=fun (a,b,c,_)=>gQ a/\gQ b/\((c:Int)=0\/(c:Int)=1)
abbrev LW:HL [.int .u64,.int .u64,.int .u64]->HO [.val (.int .u64),.val (.int .u64)]:=fun (a,b,c,_)=>(((a:Int)+b+c)%18446744073709551616,((a:Int)+b+c)/18446744073709551616,())
abbrev LY:HL [.int .u64,.int .u64,.int .u64]->HO [.val (.int .u64),.val (.int .u64)]:=fun (a,b,c,_)=>(((a:Int)-b-c)%18446744073709551616,(if (a:Int)<b+c then (1:Int) else 0),())
theorem run_add64 (a b:Int) (w:World):(callFunc 119 #[.int .u64 a,.int .u64 b,.int .u64 0]).run Tryz.prog w=.ok (.value (.tuple #[.int .u64 (Int.ofNat ((a.toNat+b.toNat+0)%18446744073709551616)),.int .u64 (Int.ofNat ((a.toNat+b.toNat+0)/18446744073709551616))])) w /\
  (callFunc 119 #[.int .u64 a,.int .u64 b,.int .u64 1]).run Tryz.prog w=.ok (.value (.tuple #[.int .u64 (Int.ofNat ((a.toNat+b.toNat+1)%18446744073709551616)),.int .u64 (Int.ofNat ((a.toNat+b.toNat+1)/18446744073709551616))])) w:=by
 constructor<;>kernel_rfl
theorem Jz (a b:Int) (w:World):(callFunc 120 #[.int .u64 a,.int .u64 b,.int .u64 0]).run Tryz.prog w=.ok (.value (.tuple #[.int .u64 (Int.ofNat ((a.toNat+18446744073709551616-b.toNat-0)%18446744073709551616)),.int .u64 (Int.ofNat (if a.toNat<b.toNat+0 then 1 else 0))])) w /\
  (callFunc 120 #[.int .u64 a,.int .u64 b,.int .u64 1]).run Tryz.prog w=.ok (.value (.tuple #[.int .u64 (Int.ofNat ((a.toNat+18446744073709551616-b.toNat-1)%18446744073709551616)),.int .u64 (Int.ofNat (if a.toNat<b.toNat+1 then 1 else 0))])) w:=by
 constructor<;>kernel_rfl
theorem zq:aL Tryz.prog 119 [.int .u64,.int .u64,.int .u64] [.val (.int .u64),.val (.int .u64)] bx l7 LW:=by
 rintro w M us ⟨a,b,c,⟨⟩⟩ _ _ ⟨g,_,rfl,o,h,_,rfl,p,i,_,rfl,q,rfl⟩ ⟨⟨d,s⟩,⟨f,t⟩,r⟩;have j:g=.int .u64 a:=by have:[g]=[Value.int .u64 a]:=o;simpa using this
 have k:h=.int .u64 b:=by have:[h]=[Value.int .u64 b]:=p;simpa using this
 have l:i=.int .u64 c:=by have:[i]=[Value.int .u64 c]:=q;simpa using this
 subst j k l;refine .inr ?_
 ·obtain⟨n,rfl⟩:=jQ d;obtain⟨m,rfl⟩:=jQ f;have e:∀ c:Nat,(Value.tuple #[.int .u64 (Int.ofNat (((n:Int).toNat+(m:Int).toNat+c)%18446744073709551616)),.int .u64 (Int.ofNat (((n:Int).toNat+(m:Int).toNat+c)/18446744073709551616))])=.tuple #[.int .u64 (((n:Int)+m+c)%18446744073709551616),.int .u64 (((n:Int)+m+c)/18446744073709551616)]:=by
   intro c;congr 3
  rcases r with rfl|rfl;exact⟨_,w,(run_add64 n m w).1,[_,_],none,e 0,⟨_,_,rfl,rfl,_,_,rfl,rfl,rfl⟩,Below.refl _ _⟩;exact⟨_,w,(run_add64 n m w).2,[_,_],none,e 1,⟨_,_,rfl,rfl,_,_,rfl,rfl,rfl⟩,Below.refl _ _⟩
theorem KX:aL Tryz.prog 120 [.int .u64,.int .u64,.int .u64] [.val (.int .u64),.val (.int .u64)] bx l7 LY:=by
 rintro w M us ⟨a,b,c,⟨⟩⟩ _ _ ⟨j,_,rfl,p,k,_,rfl,q,l,_,rfl,r,rfl⟩ ⟨⟨g,s⟩,⟨h,t⟩,i⟩;have d:j=.int .u64 a:=by have:[j]=[Value.int .u64 a]:=p;simpa using this
 have f:k=.int .u64 b:=by have:[k]=[Value.int .u64 b]:=q;simpa using this
 have o:l=.int .u64 c:=by have:[l]=[Value.int .u64 c]:=r;simpa using this
 subst d f o;refine .inr ?_
 ·obtain⟨n,rfl⟩:=jQ g;obtain⟨m,rfl⟩:=jQ h;have e:∀ c:Nat,c<=1->(Value.tuple #[.int .u64 (Int.ofNat (((n:Int).toNat+18446744073709551616-(m:Int).toNat-c)%18446744073709551616)),.int .u64 (Int.ofNat (if (n:Int).toNat<(m:Int).toNat+c then 1 else 0))])=.tuple #[.int .u64 (((n:Int)-m-c)%18446744073709551616),.int .u64 (if (n:Int)<m+c then 1 else 0)]:=by
   intro c i;have d:(Int.ofNat (((n:Int).toNat+18446744073709551616-(m:Int).toNat-c)%18446744073709551616))=((n:Int)-m-c)%18446744073709551616:=by simp only[aB,Int.ofNat_eq_natCast];omega
   have f:(Int.ofNat (if (n:Int).toNat<(m:Int).toNat+c then 1 else 0))=(if (n:Int)<m+c then 1 else 0):=by simp only[aB,Int.ofNat_eq_natCast];split<;>split<;>omega
   rw[d,f]
  rcases i with rfl|rfl;exact⟨_,w,(Jz n m w).1,[_,_],none,e 0 aa,⟨_,_,rfl,rfl,_,_,rfl,rfl,rfl⟩,Below.refl _ _⟩;exact⟨_,w,(Jz n m w).2,[_,_],none,e 1 aa,⟨_,_,rfl,rfl,_,_,rfl,rfl,rfl⟩,Below.refl _ _⟩
def Pp:Nat × Eng.Spec:=(141,aH [.int .u64,.int .u64] [.val (.int .u64),.val (.int .u64)] zV EM)
def Dt:Nat × Eng.Spec:=(119,aH [.int .u64,.int .u64,.int .u64] [.val (.int .u64),.val (.int .u64)] l7 LW)
def Pq:Nat × Eng.Spec:=(120,aH [.int .u64,.int .u64,.int .u64] [.val (.int .u64),.val (.int .u64)] l7 LY)
def GS:List Int->List Int->Int->Prop->Prop
 | a::us,b::vs,k,K=>l7 (a,b,k,())/\GS us vs (if a<b+k then 1 else 0) K
 | _,_,_,K=>K
theorem JE {K:Prop}:∀ (us vs:List Int) (k:Int),us.length=vs.length->Ws us->Ws vs->(k=0\/k=1)->K->GS us vs k K:=by
 intro us;induction us with
 | nil=>intro vs k h _ _ _ c;exact c
 | cons a us i =>
  intro vs k h e f g c;cases vs with
  | nil=>simp at h
  | cons b vs=>exact⟨⟨e a au,f b au,g⟩,i vs _ (by simpa using h) (fun y d=>e y (by simp[d])) (fun y d=>f y (by simp[d])) (by split<;>simp) c⟩
def Fq:List Int->List Int->Int->Prop->Prop
 | a::us,b::vs,k,K=>l7 (a,b,k,())/\Fq us vs ((a+b+k)/18446744073709551616) K
 | _,_,_,K=>K
theorem IJ {K:Prop}:∀ (us vs:List Int) (k:Int),us.length=vs.length->Ws us->Ws vs->(k=0\/k=1)->K->Fq us vs k K:=by
 intro us;induction us with
 | nil=>intro vs k h _ _ _ c;exact c
 | cons a us n =>
  intro vs k h e f m c;cases vs with
  | nil=>simp at h
  | cons b vs =>obtain⟨g,i⟩:=e a au;obtain⟨j,l⟩:=f b au;exact⟨⟨⟨g,i⟩,⟨j,l⟩,m⟩,n vs _ (by simpa using h) (fun y d=>e y (by simp[d])) (fun y d=>f y (by simp[d])) aa c⟩
end
end Go.Proofs.YtofofalgjibokaaGreatDoor
namespace Cr
open Go.IntKind(i64 u64)
section
universe u
def Cy:List Int->List Int->List Int->Int->Int->Int->Int->List Int
 | x::e,p::b,t::d,v,m,a,c =>
  (m*p+(x*v+t+a)%18446744073709551616+c)%18446744073709551616 ::
   Cy e b d v m ((x*v+t+a)/18446744073709551616) ((m*p+(x*v+t+a)%18446744073709551616+c)/18446744073709551616)
 | _,_,_,_,_,a,c=>[(a+c)%18446744073709551616]
theorem TY {v m:Int} (E:0<=v) (s:0<=m):∀ (d b e:List Int) (a c:Int),d.length=b.length->b.length=e.length->Ws d->Ws b->Ws e->0<=a->0<=c ->
  (Cy d b e v m a c).length=d.length+1/\Ws (Cy d b e v m a c) /\
  ∃ q,0<=q/\val (Cy d b e v m a c)+pw (d.length+1)*q=val d*v+val e+m*val b+a+c:=by
 intro d;induction d with
 | nil =>
  intro b e a c g h _ _ _ o r;have k:b=[]:=by cases b with|nil=>rfl|cons _ _=>simp at g
  subst k;have l:e=[]:=by cases e with|nil=>rfl|cons _ _=>simp at h
  subst l;refine⟨rfl,?_,(a+c)/18446744073709551616,aa,?_⟩;intro x f;simp only[Cy,gk] at f;subst f;exact⟨aa,aa⟩;simp only[Cy,val,pw,eG,Int.mul_zero];omega
 | cons x d I =>
  intro b e a c g h f i j o r;cases b with
  | nil=>simp at g
  | cons p b =>
   cases e with
   | nil=>simp at h
   | cons t e =>obtain⟨L,U⟩:=f x au;obtain⟨K,Q⟩:=i p au;obtain⟨R,T⟩:=j t au;have F:0<=x*v:=mT L E;have w:0<=m*p:=mT s K;simp only[Cy];generalize O:x*v+t+a=u;generalize P:m*p+u%18446744073709551616+c=z;obtain⟨g1,g2,q,n,N⟩:=I b e (u/18446744073709551616) (z/18446744073709551616) (by simpa using g) (by simpa using h) (fun y hy=>f y (by simp[hy])) (fun y hy=>i y (by simp[hy])) (fun y hy=>j y (by simp[hy])) aa aa;refine⟨by simp[g1],?_,q,n,?_⟩;intro y hy;simp only[tL] at hy;rcases hy with rfl|hy;exact⟨aa,aa⟩;exact g2 y hy;simp only[val,bG];rw[show pw (d.length+1+1)=18446744073709551616*pw (d.length+1) from rfl,dy];rw[show (x+18446744073709551616*val d)*v=x*v+18446744073709551616*(val d*v) from by rw[qH,dy]];rw[show m*(p+18446744073709551616*val b)=m*p+18446744073709551616*(m*val b) from by rw[qG,wM]];generalize pw (d.length+1)*q=A at *;generalize val d*v=C at *;generalize m*val b=D at *;generalize x*v=G at *;generalize m*p=H at *;omega
def nC (cancel:Int):List Int->List Int->List Int->Int->List Int
 | x::xs,p::ps,t::a,v =>
  Cy xs ps a v (((x*v+t+0)%18446744073709551616)*cancel%18446744073709551616) ((x*v+t+0)/18446744073709551616)
   (((((x*v+t+0)%18446744073709551616)*cancel%18446744073709551616)*p+(x*v+t+0)%18446744073709551616+0)/18446744073709551616)
 | _,_,_,_=>[]
theorem RD {cancel v:Int} {c b d:List Int} (n:c.length=b.length) (w:b.length=d.length) (I:Ws c) (F:Ws b) (N:Ws d) (E:b≠[]) (X:gQ v)
  (K:(b.headD 0*cancel+1)%18446744073709551616=0) (hb:val d<val c+val b) (Z:val c<val b) (R:2*val b<=pw b.length) :
  (nC cancel c b d v).length=d.length/\Ws (nC cancel c b d v)/\val (nC cancel c b d v)<val c+val b /\
  ∃ m,18446744073709551616*val (nC cancel c b d v)=val c*v+val d+m*val b:=by
 obtain⟨j,Y⟩:=X;cases b with
 | nil=>exact absurd rfl E
 | cons p b =>
 cases c with
 | nil=>simp at n
 | cons x c =>
 cases d with
 | nil=>simp at w
 | cons t d =>
  obtain⟨x0,x1⟩:=I x au;obtain⟨p0,p1⟩:=F p au;obtain⟨t0,t1⟩:=N t au;have x2:0<=x*v:=mT x0 j;simp only[nC];generalize hu:x*v+t+0=u;generalize hs:u%18446744073709551616=s;generalize U:s*cancel%18446744073709551616=m;have i:0<=m/\m<18446744073709551616:=aa;have V:0<=m*p:=mT i.1 p0
  -- m p+s is a f of 2^64
  have L:(m*p+s+0)%18446744073709551616=0:=by
   simp only[List.headD_cons] at K;have Q:(m*p+s)%18446744073709551616=(s*(p*cancel+1))%18446744073709551616:=by have T:=wy (s*cancel) 18446744073709551616;rw[U] at T;rw[show m*p+s=s*(p*cancel+1)+18446744073709551616*(-(s*cancel/18446744073709551616*p)) from by grind];exact wx _ _ _
   rw[Int.add_zero,Q,dJ,K];simp
  generalize hz:m*p+s+0=z at *;obtain⟨g1,g2,q,g3,l⟩:=TY j i.1 c b d (u/18446744073709551616) (z/18446744073709551616) (by simpa using n) (by simpa using w) (fun y k=>I y (by simp[k])) (fun y k=>F y (by simp[k])) (fun y k=>N y (by simp[k])) aa aa;have g:c.length+1=(p::b).length:=by simpa using n
  have n0:=eD g2;have P:=eD I;have O:=eD F
  -- x4 e
  have e:18446744073709551616*(val c*v+val d+m*val b+u/18446744073709551616+z/18446744073709551616)=val (x::c)*v+val (t::d)+m*val (p::b):=by simp only[val];rw[show (x+18446744073709551616*val c)*v=x*v+18446744073709551616*(val c*v) from by rw[qH,dy]];rw[show m*(p+18446744073709551616*val b)=m*p+18446744073709551616*(m*val b) from by rw[qG,wM]];generalize val c*v=C at *;generalize m*val b=D at *;generalize x*v=G at *;generalize m*p=H at *;omega
  -- x3 r
  have b1:val (x::c)*v<=val (x::c)*18446744073709551615:=AY aa P;have b2:m*val (p::b)<=18446744073709551615*val (p::b):=wv aa O;generalize val (x::c)*v=XV at *;generalize A:m*val (p::b)=MP at *;have o:val c*v+val d+m*val b+u/18446744073709551616+z/18446744073709551616<val (x::c)+val (p::b):=aa;rw[g] at l;have W:q=0:=by rcases Int.lt_or_le 0 q with h|h;exfalso;have:pw (p::b).length*1<=pw (p::b).length*q:=AY aa (eJ (vX _));omega;omega
  subst W;simp only[Int.mul_zero,Int.add_zero] at l;refine⟨by rw[g1];simp at n w ⊢;omega,g2,by rw[l];exact o,m,?_⟩;rw[l,e,A]
def foldM (cancel:Int) (xs ps:List Int):List Int->List Int->List Int
 | ts,[]=>ts
 | ts,v::a=>foldM cancel xs ps (nC cancel xs ps ts v) a
theorem zx {cancel:Int} {xs ps:List Int} (n:xs.length=ps.length) (q:Ws xs) (p:Ws ps) (h:ps≠[])
  (o:(ps.headD 0*cancel+1)%18446744073709551616=0) (j:val xs<val ps) (f:2*val ps<=pw ps.length):∀ (b a:List Int),Ws b->ps.length=a.length->Ws a->val a<val xs+val ps ->
  (foldM cancel xs ps a b).length=ps.length/\Ws (foldM cancel xs ps a b)/\val (foldM cancel xs ps a b)<val xs+val ps /\
  ∃ m,pw b.length*val (foldM cancel xs ps a b)=val xs*val b+val a+m*val ps:=by
 intro b;induction b with
 | nil=>intro a _ e i g;exact⟨e.symm,i,g,0,by simp[foldM,pw,val]⟩
 | cons v b s =>intro a d e i g;obtain⟨g1,g2,k,m,l⟩:=RD n e q p i h (d v au) o g j f;obtain⟨t,u,w,z,x⟩:=s (nC cancel xs ps a v) (fun y r=>d y (by simp[r])) (by rw[g1];exact e) g2 k;refine⟨t,u,w,m+18446744073709551616*z,?_⟩;simp only[foldM,pw,val,bG];rw[dy,x,qG,qG,l];grind
theorem Jh {cancel:Int} {xs ps ys:List Int} (h:xs.length=ps.length) (i:ys.length=ps.length) (a:Ws xs) (k:Ws ps) (o:Ws ys) (d:ps≠[])
  (j:(ps.headD 0*cancel+1)%18446744073709551616=0) (e:val xs<val ps) (b:2*val ps<=pw ps.length) {rinv:Int} (l:(pw ps.length*rinv)%val ps=1%val ps) :
  (foldM cancel xs ps (replicate ps.length 0) ys).length=ps.length/\Ws (foldM cancel xs ps (replicate ps.length 0) ys)/\val (foldM cancel xs ps (replicate ps.length 0) ys)<2*val ps /\
  val (foldM cancel xs ps (replicate ps.length 0) ys)%val ps=(val xs*val ys*rinv)%val ps:=by
 have z:∀ n,val (replicate n 0)=0:=by
  intro n;induction n with
  | zero=>rfl
  | succ n p=>simp[oN,val,p]
 have s:Ws (replicate ps.length 0):=by intro x a;rw[(List.mem_replicate.1 a).2];exact⟨aa,aa⟩
 have t:=eD a;obtain⟨q,r,u,m,f⟩:=zx h a k d j e b ys (replicate ps.length 0) o au s (by rw[z];omega);refine⟨q,r,aa,?_⟩;rw[z,i] at f;generalize val (foldM cancel xs ps (replicate ps.length 0) ys)=T at *;have g:(T*(pw ps.length*rinv))%val ps=T%val ps:=by rw[dJ,l,<- dJ,lA]
 rw[<- g,show T*(pw ps.length*rinv)=(pw ps.length*T)*rinv from by rw[gU (pw ps.length) T,dy],f];rw[show (val xs*val ys+0+m*val ps)*rinv=val xs*val ys*rinv+(m*rinv)*val ps from by grind];exact Int.add_mul_emod_self_right _ _ _
