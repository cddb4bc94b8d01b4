import Derived.Deep.LoopGhost
import Derived.Maps.RangeRun
import Derived.Maps.Keyed
import Derived.DeepKeys4
import Derived.Test.YtofofalgjibokaaGreatDoorProg
import Derived.Test.YtofofalgjibokaaGreatDoorMLrkPA
set_option maxRecDepth 100000
noncomputable section
open Go Go.RowKit Cr
open List(drop length mem_cons mem_map range replicate take)
open Nat(beq ble blt)
open Int(toNat)
namespace Go.Eng
def Ew:List Prop->Prop->Prop
 | [],K=>K
 | p::a,K=>p/\Ew a K
def afQ (ops:List Oper) (i:Nat):Bool:=ops.any fun o=>match o.guard with
 | some (j,_)=>beq j i
 | none=>false
def Fg (a:Bool) (v:SV) (K:SV->Prop):Prop :=
 match a,v with
 | true,.is (.one (.v (.bool c)))=>(c=true->K (.is (.one .T)))/\(c=false->K (.is (.one .F)))
 | _,v=>K v
def St.put (e:St) (dst:Option Tmp) (v:SV):St :=
 match dst with
 | some d=>{ e with slots:=e.slots.set d v }
 | none=>e
def St.app (b:St) (c:Option Tmp) (v:SV) (a wr:List (Nat × List Cell)):St :=
 match c with
 | some d=>{ b with slots:=b.slots.set d v,blks:=a++(wr++b.blks) }
 | none=>{ b with blks:=a++(wr++b.blks) }
def uH (E:Env) (ops:Array Oper):Nat->List Oper->St->List Rec->(St->List Rec->Prop)->Prop
 | _,[],a,tr,K=>K a tr
 | i,o::b,a,tr,K=>match qk E ops a.S a.B (a.next+8*i) o with
  | .bad=>False
  | .skip=>uH E ops (i+1) b (a.put o.dst .undef) (tr++[lv]) K
  | .run out ids=>Ew out.pre (Fg (afQ ops.toList i) out.val fun v=>uH E ops (i+1) b (a.app o.dst v out.new out.wr) (tr++[⟨v,out.new,out.wr,ids⟩]) K)
def Ga (b:Bool) (K:Prop):Prop :=
 match b with
 | true=>K
 | false=>False
def H4:SV->SV->Prop
 | .is (.one .T),.is (.one (.v (.bool b)))=>b=true
 | .is (.one .F),.is (.one (.v (.bool b)))=>b=false
 | s,t=>s=t
def iy:List SV->List SV->Prop->Prop
 | [],[],K=>K
 | _::l,.junk::m,K=>iy l m K
 | s::l,t::m,K=>H4 s t/\iy l m K
 | _,_,_=>False
def rK (B:bE):List (Nat × List Cell)->Prop->Prop
 | [],K=>K
 | (id,a)::l,K=>match B id with
  | some b=>b=a/\rK B l K
  | none=>False
def SV.below (n:Nat) (v:SV):Bool:=v.ids.all fun i=>blt i n
def St.wf (a:St):Bool:=(a.slots.all fun v=>v.below a.next)&&a.blks.all fun p=>blt p.1 a.next&&(p.2.all fun c=>c.ids.all fun i=>blt i a.next)
def St.le (a:St) (W:cD) (τ:St) (K:Prop):Prop:=Ga (ble τ.next a.next&&τ.wf&&ble W.top τ.next) (iy a.slots τ.slots (rK a.B τ.blks K))
def jH (S:cJ) (c:Operand):SV:=fC S c
def vc (E:Env):Code->St->(St->Prop)->(St->Prop)->(Nat->St->Prop)->Prop
 | .skip,e,n,_,_=>n e
 | .ret,e,_,r,_=>r e
 | .exit id,e,_,_,x=>x id e
 | .seq a b,e,n,r,x=>vc E a e (fun d=>vc E b d n r x) r x
 | .cond c a b,e,n,r,x=>match jH e.S c with
  | .is (.one .T)=>vc E a e n r x
  | .is (.one .F)=>vc E b e n r x
  | .is (.one (.v (.bool t)))=>(t=true->vc E a e n r x)/\(t=false->vc E b e n r x)
  | _=>False
 | .block id b,e,n,r,x=>vc E b e n r (fun i d=>match beq i id with
  | true=>n d
  | false=>x i d)
 | .loop b,e,_,r,x=>∃ (h:Type) (I:h->St) (J:h->Prop) (j:h->Nat),(∃ a,e.le E.w0 (I a) (J a))/\∀ a,J a->vc E b (I a) (fun d=>∃ g,d.le E.w0 (I g) (J g/\j g<j a)) r x
 | .region _ ops f,e,n,_,_=>uH E ops 0 ops.toList e [] fun d tr =>
  match f with
  | true=>Ga (indep ops (ops.toList.zip tr)) (n { d with next:=d.next+8*ops.size })
  | false=>n { d with next:=d.next+8*ops.size }
 | _,_,_,_,_=>False
section
variable {E:Env} {ops:Array Oper}
theorem vA {a:List Prop} {K:Prop} (h:Ew a K):(∀ p∈a,p)/\K:=by
 induction a with
 | nil=>exact⟨(fun _ h=>nomatch h),h⟩
 | cons p a f =>obtain⟨b,c⟩:=h;obtain⟨d,e⟩:=f c;exact⟨fun q hq=>by rcases mem_cons.1 hq with rfl|hq;exact b;exact d q hq,e⟩
theorem J3 {b:Bool} {v:SV} {K:SV->Prop} (h:Fg b v K):∃ d,cL v d/\K d:=by
 unfold Fg at h;split at h
 ·rename_i c;cases c with
  | true=>exact⟨_,fun e u a=>by have:=cc a;subst this;exact rfl,h.1 rfl⟩
  | false=>exact⟨_,fun e u a=>by have:=cc a;subst this;exact rfl,h.2 rfl⟩
 exact⟨_,fun _ _ h=>h,h⟩
theorem GK (b:St) (a:Option Tmp) (v:SV):(b.put a v).S=fw b.slots.length a v b.S:=by
 funext t;cases a with
 | none=>rfl
 | some d =>simp only[St.put,St.S,fw,a2];by_cases h:t=d;subst h;by_cases c:t<b.slots.length;simp[c];simp[c];rw[List.getElem?_set_ne (fun e=>h e.symm)];simp[h]
theorem XZ (c:St) (a:Option Tmp) (v:SV) (b wr:List (Nat × List Cell)):(c.app a v b wr).S=fw c.slots.length a v c.S:=by
 have:(c.app a v b wr).S=(c.put a v).S:=by cases a<;>rfl
 rw[this,GK]
theorem Co (l m:List (Nat × List Cell)) (i:Nat):cW (l++m) i=match cW l i with
  | some a=>some a
  | none=>cW m i:=by
 induction l with
 | nil=>rfl
 | cons p l b =>obtain⟨j,a⟩:=p;simp only[iT,cW];cases beq j i;exact b;rfl
theorem XY (c:St) (b:Option Tmp) (v:SV) (a wr:List (Nat × List Cell)) (ids:List Nat):(c.app b v a wr).B=ia ⟨v,a,wr,ids⟩ c.B:=by
 have:(c.app b v a wr).blks=a++(wr++c.blks):=by cases b<;>rfl
 funext i;simp only[St.B,this,Co,ia];cases cW a i<;>rfl
theorem Kg (b:St) (a:Option Tmp) (v:SV):(b.put a v).B=b.B:=by cases a<;>rfl
theorem Al (b:St) (a:Option Tmp) (v:SV):(b.put a v).next=b.next:=by cases a<;>rfl
theorem KB (c:St) (a:Option Tmp) (v:SV) (b wr:List (Nat × List Cell)):(c.app a v b wr).next=c.next:=by cases a<;>rfl
theorem za (b:St) (a:Option Tmp) (v:SV):(b.put a v).slots.length=b.slots.length:=by cases a<;>simp[St.put]
theorem Hy (c:St) (a:Option Tmp) (v:SV) (b wr:List (Nat × List Cell)):(c.app a v b wr).slots.length=c.slots.length:=by cases a<;>simp[St.app]
theorem Ul (B:bE):ia lv B=B:=by funext i;simp[ia,lv,cW]
theorem As:∀ (d:List Oper) (i:Nat) (b:St) (tr:List Rec) (K:St->List Rec->Prop),uH E ops i d b tr K ->
  ∃ (rs:List Rec) (a:St),rs.length=d.length/\Hr E ops b.slots.length b.next i (d.zip rs) b.S b.B /\
   a.S=cu b.slots.length (fun _=>true) i (d.zip rs) b.S/\a.B=cQ (fun _=>true) i (d.zip rs) b.B/\a.next=b.next/\a.slots.length=b.slots.length/\K a (tr++rs):=by
 intro d;induction d with
 | nil=>intro i b tr K h;exact⟨[],b,rfl,trivial,rfl,rfl,rfl,rfl,by have h:K b tr:=h;simpa using h⟩
 | cons o d s =>intro i b tr K h;simp only[uH] at h;split at h;exact h.elim;rename_i e;obtain⟨rs,a,q,f,g,j,k,m,r⟩:=s _ _ _ _ h;rw[GK,Kg,Al,za] at f;rw[GK,za] at g;rw[Kg] at j;rw[Al] at k;rw[za] at m;refine⟨lv::rs,a,by simp[q],⟨.inl ⟨e,rfl⟩,?_⟩,?_,?_,k,m,by simpa using r⟩;rw[Ul];exact f;simp only[wN,cu];exact g;simp only[wN,cQ,Ul];exact j;rename_i out ids e;obtain⟨t,h⟩:=vA h;obtain⟨v,u,h⟩:=J3 h;obtain⟨rs,a,q,f,g,j,k,m,r⟩:=s _ _ _ _ h;rw[XZ,XY b o.dst v out.new out.wr ids,KB,Hy] at f;rw[XZ,Hy] at g;rw[XY b o.dst v out.new out.wr ids] at j;rw[KB] at k;rw[Hy] at m;refine⟨⟨v,out.new,out.wr,ids⟩::rs,a,by simp[q],⟨.inr ⟨out,ids,e,t,u,rfl,rfl,rfl⟩,f⟩,?_,?_,k,m,by simpa using r⟩;simp only[wN,cu];exact g;simp only[wN,cQ];exact j
def Holds (f:cD) (n:Nat) (d:St) (a:Act) (w:World):Prop :=
 d.slots.length=n/\∃ e,cR f n d.S d.B e a w/\∀ id b,e id=some b->id<d.next
theorem qx {b:Bool} {K:Prop} (h:Ga b K):b=true/\K:=by unfold Ga at h;split at h;exact⟨rfl,h⟩;exact h.elim
theorem Tt (s:SV):H4 s s:=by
 cases s with
 | is x =>
  cases x with
  | one c=>cases c<;>rfl
  | agg a=>rfl
 | tup l=>rfl
 | undef=>rfl
 | junk=>rfl
theorem Tu {s t:SV} (h:H4 s t):cL s t:=by unfold H4 at h;split at h;intro b v a;have:[v]=[Value.bool true]:=a;simp at this;subst this h;exact⟨rfl,rfl⟩;intro b v a;have:[v]=[Value.bool false]:=a;simp at this;subst this h;exact⟨rfl,rfl⟩;subst h;intro b v a;exact a
theorem vN:∀ {l m:List SV} {K:Prop},iy l m K->K/\l.length=m.length/\∀ t,m.getD t .junk=.junk\/cL (l.getD t .junk) (m.getD t .junk):=by
 intro l;induction l with
 | nil =>
  intro m K h;cases m with
  | nil=>exact⟨h,rfl,fun t=>aw⟩
  | cons t m=>simp[iy] at h
 | cons s l f =>
  intro m K h;cases m with
  | nil=>simp[iy] at h
  | cons t m =>
   by_cases e:t=.junk
   ·subst e;simp only[iy] at h;obtain⟨a,b,c⟩:=f h;refine⟨a,by simp[b],fun u=>?_⟩;cases u with
    | zero=>exact .inl aw
    | succ u=>simpa using c u
   ·have d:H4 s t/\iy l m K:=by
     cases t with
     | junk=>exact absurd rfl e
     | _=>simpa only[iy] using h
    obtain⟨a,b,c⟩:=f d.2;refine⟨a,by simp[b],fun u=>?_⟩;cases u with
    | zero=>exact .inr (by simpa using Tu d.1)
    | succ u=>simpa using c u
theorem yc {B:bE}:∀ {l:List (Nat × List Cell)} {K:Prop},rK B l K->K/\∀ p∈l,B p.1=some p.2:=by
 intro l;induction l with
 | nil=>intro K h;exact⟨h,(fun _ h=>nomatch h)⟩
 | cons p l d =>intro K h;obtain⟨id,e⟩:=p;simp only[rK] at h;split at h;rename_i f a;obtain⟨b,c⟩:=d h.2;refine⟨b,fun q hq=>?_⟩;rcases mem_cons.1 hq with rfl|hq;rw[a,h.1];exact c q hq;exact h.elim
def aC.cut (a:aC) (m:Nat):aC:=⟨fun i=>if i<m then a i else none,a.n,a.M⟩
theorem JW {d:aC} {m:Nat}:∀ {l:List Nat} {a:List Value},iq d l a->(∀ i∈l,i<m)->iq (d.cut m) l a:=by
 intro l;induction l with
 | nil=>intro a h _;exact h
 | cons i l n=>intro a ⟨b,o,e,f,g⟩ c;exact⟨b,o,by simp[aC.cut,c i aw,e],n f (fun j k=>c j (by simp[k])),g⟩
theorem Cell.ng {r:aC} {c:Cell} {q:List Value} {m:Nat} (h:c.rel r q) (g:∀ i∈c.ids,i<m):c.rel (r.cut m) q:=by
 cases c with
 | ptr id n=>obtain⟨b,d,e⟩:=h;exact⟨b,by simp[aC.cut,g id (by simp[Cell.ids]),d],e⟩
 | pe id a j c=>obtain⟨b,d,e⟩:=h;exact⟨b,by simp[aC.cut,g id (by simp[Cell.ids]),d],e⟩
 | sl id a n len c =>rcases h with h|⟨b,o,k,d,e⟩;exact .inl h;exact .inr ⟨b,o,k,by simp[aC.cut,g id (by simp[Cell.ids]),d],e⟩
 | clo f l=>obtain⟨u,s,t⟩:=h;exact⟨u,JW s g,t⟩
 | _=>exact h
theorem sH {g:aC} {m:Nat} {a:List Cell}:∀ {b:List Value},az g a b->(∀ c∈a,∀ i∈c.ids,i<m)->az (g.cut m) a b:=by
 induction a with
 | nil=>intro b h _;exact h
 | cons c a n =>intro b h f;obtain⟨o,q,e,j,k⟩:=h;exact⟨o,q,e,Cell.ng j (f c aw),n k (fun d l=>f d (by simp[l]))⟩
theorem TV.ng {b:aC} {m:Nat} {x:TV} {v:Value} (h:x.rel b v) (a:∀ i∈x.ids,i<m):x.rel (b.cut m) v:=by
 cases x with
 | one c=>exact Cell.ng h a
 | agg j =>obtain⟨l,e,g⟩:=h;exact⟨l,e,sH g (fun c d i f=>a i (List.mem_flatMap.2 ⟨c,d,f⟩))⟩
theorem MZ {c:aC} {m:Nat} {l:List TV}:∀ {a:List Value},eP c l a->(∀ x∈l,∀ i∈x.ids,i<m)->eP (c.cut m) l a:=by
 induction l with
 | nil=>intro a h _;exact h
 | cons t n j =>intro a h b;obtain⟨x,k,e,d,f⟩:=h;exact⟨x,k,e,TV.ng d (b t aw),j f (fun y g=>b y (by simp[g]))⟩
theorem SV.ng {c:aC} {m:Nat} {x:SV} {v:Value} (h:x.rel c v) (a:x.below m=true):x.rel (c.cut m) v:=by
 have a:∀ i∈x.ids,i<m:=by intro i b;simp only[SV.below,mX] at a;simpa[lG] using a i b
 cases x with
 | is x=>exact TV.ng h a
 | tup l =>obtain⟨g,e,d⟩:=h;exact⟨g,e,MZ d (fun y f i b=>a i (List.mem_flatMap.2 ⟨y,f,b⟩))⟩
 | undef=>exact h
 | junk=>trivial
theorem lr {U g:St} {K:Prop} {T:cD} {n:Nat} {a:Act} {w:World} (h:U.le T g K) (Z:Holds T n U a w):K/\Holds T n g a w:=by
 unfold St.le at h;obtain⟨u,h⟩:=qx h;simp only[aX] at u;obtain⟨⟨m,z⟩,k⟩:=u;have m:g.next<=U.next:=by simpa[ua] using m
 obtain⟨h,y,q⟩:=vN h;obtain⟨X,d⟩:=yc h;obtain⟨hn,A,f,hd⟩:=Z;simp only[St.wf,aX,mX] at z;obtain⟨O,P⟩:=z;have e:∀ i b,(A.cut g.next) i=some b->A i=some b:=by intro i b h;simp only[aC.cut] at h;by_cases o:i<g.next;simpa[o] using h;simp[o] at h
 refine⟨X,by rw[<- y];exact hn,A.cut g.next,⟨f.defers,f.size,?_,f.below,?_,?_,?_,?_,?_,f.old,f.glob,f.tops,f.memle⟩,?_⟩
 ·intro t;rcases q t with h|h;show (g.slots.getD t .junk).rel _ _;rw[h];trivial
  ·have:=f.slots t;show (g.slots.getD t .junk).rel _ _;have this:(g.slots.getD t .junk).rel A _:=h _ _ this;refine SV.ng this ?_;cases N:g.slots[t]? with
   | none=>simp[N,SV.below,SV.ids]
   | some v=>simpa[N] using O v (dP N)
 intro id x I s b u;have r:=gV I;obtain⟨l,G,H⟩:=f.blks id x (d _ r) s b (e _ _ u);have hw:=P _ r;refine⟨l,G,sH H (fun c Y i o=>?_)⟩;have:=hw.2 c Y i o;simpa[lG] using this;intro i j x C b D F G H V W;exact f.inj i j x C b (d _ (gV D)) F (d _ (gV G)) H (e _ _ V) (e _ _ W);intro i b h;exact f.bound i b (e _ _ h);intro p L;have k:=gJ k;have:p.1<g.next:=fe (f.tops p L) k;exact⟨by simp[aC.cut,this,(f.init p L).1],(f.init p L).2⟩;intro b l u;obtain⟨D,F⟩:=f.mem b l u;exact⟨fun i x o s R=>D i x (d _ (gV o)) s (e _ _ R),F⟩;intro i b h;simp only[aC.cut] at h;by_cases o:i<g.next;exact o;simp[o] at h
theorem Holds.drew {e:cD} {n:Nat} {f:St} {a:Act} {w:World} (h:Holds e n f a w):Holds e n f a { w with drawn:=w.drawn+1 }:=by obtain⟨i,j,d,g⟩:=h;exact⟨i,j,⟨d.defers,d.size,d.slots,d.below.drew,d.blks,d.inj,d.bound,d.init,d.mem,d.old,d.glob,d.tops,d.memle⟩,g⟩
theorem M4 (x2:aJ E.P E.sp) (hm:E.P.follows .mixedOrders=true) {N:Nat}:∀ (c:Code) (e:St) (n r:St->Prop) (x:Nat->St->Prop) (a:Act) (w:World) (Q:Exit->ax),
  vc E c e n r x->Holds E.w0 N e a w->(∀ d a w,Holds E.w0 N d a w->n d->Q .normal a w)->(∀ d a w,Holds E.w0 N d a w->r d->Q .ret a w) ->
  (∀ i d a w,Holds E.w0 N d a w->x i d->Q (.exit i) a w)->c.wp E.P Q a w:=by
 intro c;induction c with
 | skip=>intro e n r x a w Q h f z _ _;exact wp_skip (z e a w f h)
 | ret=>intro e n r x a w Q h f _ A _;exact wp_ret (A e a w f h)
 | exit id=>intro e n r x a w Q h f _ _ C;exact wp_exit (C id e a w f h)
 | seq p q y O =>intro e n r x a w Q h f z A C;exact wp_seq (y e _ r x a w _ h f (fun d a w D G=>O d n r x a w Q G D z A C) A C)
 | cond c p q y O =>intro e n r x a w Q h f z A C;have X:(jH e.S c).rel f.2.choose (a.eval c):=(f.2.choose_spec.1).fC (E:=E) c;simp only[vc] at h;split at h;rename_i he;rw[he] at X;exact wp_cond_true (gD (c:=.T) rfl X) (y e n r x a w Q h f z A C);rename_i he;rw[he] at X;exact wp_cond_false (gD (c:=.F) rfl X) (O e n r x a w Q h f z A C);rename_i t he;rw[he] at X;exact wp_cond_split (cc X) (fun ht=>y e n r x a w Q (h.1 ht) f z A C) (fun ht=>O e n r x a w Q (h.2 ht) f z A C);exact h.elim
 | block id p y =>
  intro e n r x a w Q h f z A C;refine wp_block (y e n r _ a w _ h f z A (fun i d a w D G=>?_));simp only[Exit.inBlock];by_cases U:i=id;subst U;rw[ak rfl];simp at G;exact z d a w D G
  ·rw[ai U];have:beq i id=false:=by
    cases hb:beq i id with
    | false=>rfl
    | true=>exact absurd (beq_true hb) U
   rw[this] at G;exact C i d a w D G
 | loop p y =>intro e n r x a w Q h f z A C;obtain⟨α,I,J,μ,⟨g0,h0⟩,L⟩:=h;obtain⟨x5,x4⟩:=lr h0 f;refine wp_loop_ghost (fun m a w=>∃ g,μ g=m/\J g/\Holds E.w0 N (I g) a w) (μ g0) ⟨g0,rfl,x5,x4⟩ ?_;rintro m a w ⟨g,rfl,hj,hg⟩;refine y (I g) _ r x a w _ (L g hj) hg (fun d a' w' D G=>?_) A C;obtain⟨g',G⟩:=G;obtain⟨⟨h1,h2⟩,h3⟩:=lr G D;exact⟨μ g',h2,g',rfl,h1,h3⟩
 | region id ops Y =>
  intro e n r x a w Q h f z A C;simp only[vc] at h;obtain⟨rs,d,h1,h2,h3,h4,h5,h6,h7⟩:=As _ _ _ _ _ h;have R:(ops.toList.zip rs).length=ops.size:=by simp[h1]
  have Z:n { d with next:=d.next+8*ops.size }->∀ a w H,cR E.w0 N (rA N (ops.toList.zip rs) e.S) (rz (ops.toList.zip rs) e.B) H a w->(∀ id b,H id=some b->id<e.next+8*ops.size)->Q .normal a w:=by
   intro hk a w H u s;refine z _ a w ⟨by rw[<- f.1];exact h6,H,?_,?_⟩ hk
   ·have e1:({ d with next:=d.next+8*ops.size }:St).S=rA N (ops.toList.zip rs) e.S:=by
     show d.S=_;rw[h3,f.1];rfl
    have e2:({ d with next:=d.next+8*ops.size }:St).B=rz (ops.toList.zip rs) e.B:=by show d.B=_;rw[h4];rfl
    rw[e1,e2];exact u
   intro i b U;show i<d.next+8*ops.size;rw[h5];exact s i b U
  rw[f.1] at h2;cases Y with
  | false =>
   obtain⟨_,H,u,s⟩:=f;refine wp_region ?_
   have:=Uh (E:=E) (ops:=ops) (n:=N) (base:=e.next) (Q:=Q) x2 (ops.toList.zip rs) 0 e.S e.B H a w h2 (fun k p hk=>by
    have:=List.getElem?_zip_eq_some.1 hk
    simpa using this.1) u (by simpa using s) (fun a' w' x6 V K=>Z h7 a' w' x6 V (by rw[R] at K;simpa using K))
   rw[R] at this;rw[List.range_eq_range'];exact this
  | true =>
   obtain⟨x0,h7⟩:=qx h7;obtain⟨_,H,u,s⟩:=f.drew;refine wp_region_any hm ?_;have hf:∀ j,(Array.replicate ops.size false).getD j false=false:=by intro j;simp only[cE,Array.getElem?_replicate];split<;>rfl
   have x3:(fun j=>(Array.replicate ops.size false).getD j false)=fun _=>false:=funext hf;have z1:∀ (l:List (Oper × Rec)) (i:Nat) (S:cJ),cu N (fun _=>false) i l S=S:=by
    intro l;induction l with
    | nil=>intro i S;rfl
    | cons q l W=>intro i S;obtain⟨o2,r2⟩:=q;simp only[cu];exact W _ _
   have z2:∀ (l:List (Oper × Rec)) (i:Nat) (B:bE),cQ (fun _=>false) i l B=B:=by
    intro l;induction l with
    | nil=>intro i S;rfl
    | cons q l W=>intro i S;obtain⟨o2,r2⟩:=q;simp only[cQ];exact W _ _
   refine Nn (n:=N) (base:=e.next) x2 (by simp[List.map_fst_zip,h1]) h2 x0 (fun a w H V K=>Z h7 a w H V K) ops.size _ a _ H aw ?_ ?_ ?_ ?_;unfold A1;refine h9 (List.countP_le_length) aw;intro j o _ hj;have x1:(Array.replicate ops.size false).getD j false=true:=hj;rw[hf] at x1;cases x1;rw[x3,z1,z2];exact u;intro i b U;exact .inl (s i b U)
 | _=>intro e n r x a w Q h;simp[vc] at h
end
def DA (E:Env) (e:St):ResultVar->Option TV
 | .tmp t=>match e.S t with
  | .is x=>some x
  | _=>none
 | .cell a t=>match uz E.P t,e.S a with
  | true,.is (.one (.ptr b d))=>match e.B b with
   | some (c::f)=>match mj (c::f) d (E.P.cellsOf t) with
    | some m=>pK (b9 E.P t) m
    | none=>none
   | _=>none
  | _,_=>none
def r8 (E:Env) (a:St):List ResultVar->Option (List TV)
 | []=>some []
 | r::rs=>match DA E a r,r8 E a rs with
  | some x,some b=>some (x::b)
  | _,_=>none
def GN (E:Env) (b:St) (rs:List ResultVar):Option SV :=
 match r8 E b rs with
 | some [x]=>some (.is x)
 | some a=>some (.tup a)
 | none=>none
def ll (E:Env) (fn:Func) (Q:SV->St->Prop) (a:St):Prop :=
 match GN E a fn.results.toList with
 | some v=>Q v a
 | none=>False
def RX (E:Env) (fn:Func) (args:List SV) (a:List (Nat × List Cell)) (b:Nat) (Q:SV->St->Prop):Prop :=
 match fn.body with
 | some c=>vc E c ⟨args++replicate (fn.ntmps-args.length) .undef,a,b⟩ (ll E fn Q) (ll E fn Q) (fun _ _=>False)
 | none=>False
def CL (b:Array Value):ResultVar->Sem Value
 | .tmp t=>pure (b.getD t Go.undef)
 | .cell a t=>do loadVar t (<- asAddr (b.getD a Go.undef))
section
variable {E:Env}
theorem T3 {q:St} {r:ResultVar} {x:TV} {n:Nat} {G:aC} {a:Act} {w:World} (h:DA E q r=some x) (u:cR E.w0 n q.S q.B G a w) :
  ∃ v,(CL a.tmps r).run E.P w=.ok v w/\x.rel G v:=by
 cases r with
 | tmp t =>
  simp only[DA] at h;have:=u.slots t;cases o:q.S t with
  | is y =>rw[o] at h this;simp at h;subst h;exact⟨_,rfl,this⟩
  | _=>rw[o] at h;simp at h
 | cell b t =>
  simp only[DA] at h;split at h
  ·rename_i id D A o;have j:=u.slots b;rw[o] at j;obtain⟨H,I,ev⟩:=oa j;obtain⟨T,Q,F⟩:=mo A;obtain⟨d,K⟩:=Option.isSome_iff_exists.1 Q;split at h
   ·rename_i c R s;obtain⟨l,f,i⟩:=u.blks _ _ s aw H I;split at h
    ·rename_i m L;obtain⟨z,g⟩:=wq L i;obtain⟨g1,g2⟩:=yk (P:=E.P) K f g;obtain⟨N,O⟩:=n9 h z (fun h=>by rw[F h];simp;rw[F h] at g;omega);cases e:b9 E.P t with
     | true=>exact⟨.agg ⟨(l.drop D).take (E.P.cellsOf t)⟩,by simp only[CL];rw[ev];simp[asAddr,g1 e],N e⟩
     | false =>obtain⟨v,k,C⟩:=O e;rw[F e] at k;exact⟨v,by simp only[CL];rw[ev];simp[asAddr,g2 e v k],C⟩
    simp at h
   simp at h
  simp at h
theorem Rs {e:St} {n:Nat} {f:aC} {a:Act} {w:World} (l:cR E.w0 n e.S e.B f a w):∀ (rs:List ResultVar) (c:List TV),r8 E e rs=some c ->
  ∃ b,(rs.mapM (CL a.tmps)).run E.P w=.ok b w/\eP f c b:=by
 intro rs;induction rs with
 | nil=>intro c h;simp[r8] at h;subst h;exact⟨[],aw,rfl⟩
 | cons r rs m =>intro c h;simp only[r8] at h;split at h;rename_i x d j k;simp at h;subst h;obtain⟨v,g1,g2⟩:=T3 j l;obtain⟨b,g,i⟩:=m d k;refine⟨v::b,?_,v,b,rfl,g2,i⟩;simp only[List.mapM_cons,Sem.run_bind,g1,Result.andThen_ok,g];simp;simp at h
theorem CJ {g:St} {n:Nat} {q:aC} {a:Act} {w:World} {fn:Func} {m:SV} (s:cR E.w0 n g.S g.B q a w) (h:GN E g fn.results.toList=some m) :
  ∃ v,(results fn a.tmps).run E.P w=.ok v w/\m.rel q v:=by
 unfold GN at h;cases k:r8 E g fn.results.toList with
 | none=>rw[k] at h;simp at h
 | some o =>
  rw[k] at h;obtain⟨b,g1,g2⟩:=Rs s _ _ k;have d:(results fn a.tmps).run E.P w=.ok (if h:b.toArray.size=1 then b.toArray[0] else .tuple b.toArray) w:=by
   have e:results fn a.tmps=(do let b <- fn.results.mapM (CL a.tmps);pure (if h:b.size=1 then b[0] else .tuple b)):=by rfl
   rw[e,Array.mapM_eq_mapM_toList];simp only[Sem.run_bind,Sem.run_map,g1,Result.andThen_ok,Sem.run_pure]
  rw[d];match o,b,g2,h with
  | [],b,g2,h =>have:b=[]:=g2;subst this;simp at h;subst h;exact⟨_,rfl,[],aw,rfl⟩
  | [x],b,g2,h =>obtain⟨v,f,rfl,i,j⟩:=g2;have:f=[]:=j;subst this;simp at h;subst h;exact⟨v,aw,i⟩
  | x::y::o,b,g2,h =>obtain⟨v,f,rfl,i,l,c,rfl,j,r⟩:=g2;simp at h;subst h;refine⟨.tuple ⟨v::l::c⟩,aw,v::l::c,rfl,v,_,rfl,i,l,c,rfl,j,r⟩
theorem XJ {d:aC}:∀ {l:List SV} {a:List Value},bq d l a->l.length=a.length:=by
 intro l;induction l with
 | nil=>intro a h;have:a=[]:=h;subst this;rfl
 | cons x l c=>intro a h;obtain⟨y,e,rfl,_,b⟩:=h;simp[c b]
structure Start (W:cD) (bl:List (Nat × List Cell)) (nx:Nat) (ρ:aC):Prop where
 blks:∀ id cs,cW bl id=some cs->cs≠[]->∀ b,ρ id=some b->∃ l,ca W.w b (ρ.n id) l/\az ρ cs l
 inj:∀ id id' cs cs' b,cW bl id=some cs->cs≠[]->cW bl id'=some cs'->cs'≠[]->ρ id=some b->ρ id'=some b->id=id'
 bound:∀ id b,ρ id=some b->W.a6 b/\b<W.w.heap.size
 init:∀ p∈W.ids,ρ p.1=some p.2/\ρ.n p.1=W.num p
 next:∀ id b,ρ id=some b->id<nx
 mem:∀ b l,ρ.M b=some l->(∀ i cs,cW bl i=some cs->cs≠[]->ρ i≠some b)/\∃ el fr,W.w.heap[b]?=some (nF l el fr)
 old:∀ b l,ρ.M b=some l->b<W.w.heap.size->W.own b=true\/W.M b=some l
 glob:∀ g e x,W.gl g=some ⟨e,x⟩->mw (Rd ρ.M e) (width e) ρ.M g 0 [x]
 tops:∀ p∈W.ids,p.1<W.top
 memle:Mem.le W.M ρ.M
def aC.start (M:Mem):aC:=⟨fun _=>none,fun _=>0,M⟩
theorem yl {fn:Func} {args:List SV} {d:List Value} {g:List (Nat × List Cell)} {j:Nat} {c:aC} (a:Start E.w0 g j c) (i:bq c args d) (r:args.length<=fn.ntmps) :
  Holds E.w0 fn.ntmps ⟨args++replicate (fn.ntmps-args.length) .undef,g,j⟩ { tmps:=(⟨d⟩:Array Value)++Array.replicate (fn.ntmps-(⟨d⟩:Array Value).size) undef,defers:=[] } E.w0.w:=by
 have b:d.length=args.length:=(XJ i).symm;refine⟨by simp;omega,c,⟨rfl,by simp;omega,?_,kZ.refl _,a.blks,a.inj,a.bound,a.init,a.mem,a.old,a.glob,a.tops,a.memle⟩,a.next⟩
 ·intro t;simp only[St.S,a2,cE];by_cases e:t<args.length
  ·rw[oS e,Array.getElem?_append_left (by simpa[b] using e)];have f:∀ (l:List SV) (d:List Value) (t:Nat),bq c l d->t<l.length->(l[t]?.getD .junk).rel c (d[t]?.getD Go.undef):=by
    intro l;induction l with
    | nil=>intro d t _ h;simp at h
    | cons x l o =>
     intro d t h e;obtain⟨y,q,rfl,k,m⟩:=h;cases t with
     | zero=>simpa using k
     | succ t=>simpa using o q t m (by simpa using e)
   simpa using f args d t i e
  by_cases n:t<fn.ntmps;rw[qo aa,sF,ak aa];rw[Array.getElem?_append_right (by simp[b];omega),Array.getElem?_replicate,ak (by simp[b];omega)];rfl;rw[qo aa,sF,ai aa];trivial
theorem VZ (q:aJ E.P E.sp) (D:E.P.follows .mixedOrders=true) {f:FuncId} {fn:Func} (A:E.P.funcs[f]?=some fn) {args:List SV} {x:List Value} {t:List (Nat × List Cell)} {u:Nat} {o:aC} (r:Start E.w0 t u o) {Q:SV->St->Prop}
  (G:bq o args x) (F:args.length<=fn.ntmps) (h:RX E fn args t u Q) :
  Calls E.P f ⟨x⟩ E.w0.w fun e H=>∃ v l m ρ n a,e=.returned v/\l.rel ρ v/\Q l m/\cR E.w0 n m.S m.B ρ a H:=by
 unfold RX at h;split at h
 ·rename_i c z;refine calls_of_wp A z ?_;have C:=yl (E:=E) (fn:=fn) r G F;have k:∀ b a w,Holds E.w0 fn.ntmps b a w->ll E fn Q b->a.defers=[]/\∃ v,(results fn a.tmps).run E.P w=.ok v w/\∃ y l m ρ n a,(Ending.returned v)=.returned y/\l.rel ρ y/\Q l m/\cR E.w0 n m.S m.B ρ a w:=by
   intro b a w d j;obtain⟨_,ρ,g,_⟩:=d;unfold ll at j;split at j;rename_i l s;obtain⟨v,g1,g2⟩:=CJ g s;exact⟨g.defers,v,g1,v,l,b,ρ,_,a,rfl,g2,j,g⟩;exact j.elim
  exact M4 q D c _ _ _ _ _ _ _ h C (fun b a w d j=>k b a w d j) (fun b a w d j=>k b a w d j) (fun i b a w _ j=>j.elim)
 exact h.elim
end
attribute [irreducible] RX
def YB (i:Nat):List (Nat × SV)->SV
 | []=>.junk
 | (j,v)::l=>match beq i j with
  | true=>v
  | false=>YB i l
def JL:Nat->Nat->List (Nat × SV)->List SV
 | _,0,_=>[]
 | i,n+1,l=>YB i l::JL (i+1) n l
def av (n next:Nat) (a:List (Nat × SV)) (d:List (Nat × List Cell)):St:=⟨JL 0 n a,d,next⟩
def xy:List SV->List SV->List SV
 | _::l,.junk::m=>.junk::xy l m
 | s::l,_::m=>s::xy l m
 | _,_=>[]
def Dv (B:bE):List (Nat × List Cell)->List (Nat × List Cell)
 | []=>[]
 | (id,a)::l=>match B id with
  | some b=>(id,b)::Dv B l
  | none=>(id,.junk::a)::Dv B l
def St.proj (b a:St):St:=⟨xy b.slots a.slots,Dv b.B a.blks,a.next⟩
theorem WS {K:Prop}:∀ (l m:List SV),m=xy l m->l.length=m.length->K->iy l m K:=by
 intro l;induction l with
 | nil=>intro m h a b;cases m with
  | nil=>exact b
  | cons t m=>simp at a
 | cons s l d =>
  intro m h a b;cases m with
  | nil=>simp at a
  | cons t m =>
   by_cases c:t=.junk;subst c;simp only[xy,bx,true_and] at h;exact d m h (by simpa using a) b
   ·have e:xy (s::l) (t::m)=s::xy l m:=by
     cases t with
     | junk=>exact absurd rfl c
     | _=>rfl
    rw[e] at h;simp only[bx] at h;have g:iy (s::l) (t::m) K=(H4 s t/\iy l m K):=by
     cases t with
     | junk=>exact absurd rfl c
     | _=>rfl
    rw[g];exact⟨h.1▸Tt _,d m h.2 (by simpa using a) b⟩
theorem WR {B:bE} {K:Prop}:∀ (l:List (Nat × List Cell)),l=Dv B l->K->rK B l K:=by
 intro l;induction l with
 | nil=>intro _ b;exact b
 | cons p l c =>
  intro h b;obtain⟨id,d⟩:=p;simp only[Dv] at h;simp only[rK];split at h
  ·rename_i e a;simp only[bx,aL,true_and] at h;try rw[a]
   exact⟨h.1.symm,c h.2 b⟩
  simp only[bx,aL,true_and] at h;have:=congrArg length h.1;simp at this
theorem ay {W:cD} {d τ:St} {K:Prop} (h:τ=d.proj τ) (e:(ble τ.next d.next&&τ.wf&&ble W.top τ.next&&beq d.slots.length τ.slots.length)=true) (i:K):d.le W τ K:=by
 simp only[aX] at e;unfold St.le;have f:τ.slots=xy d.slots τ.slots:=by have:=congrArg St.slots h;exact this
 have g:τ.blks=Dv d.B τ.blks:=by have:=congrArg St.blks h;exact this
 rw[show (ble τ.next d.next&&τ.wf&&ble W.top τ.next)=true from by simp[e.1.1.1,e.1.1.2,e.1.2]];exact WS _ _ f (beq_true e.2) (WR _ g i)
theorem aq {X G:Prop} (h:X=G) (x:X):G:=h▸x
theorem JT {ρ:aC} {v:SV} {b:List SV} {u:Value} {a:List Value} (h:v.rel ρ u) (c:bq ρ b a):bq ρ (v::b) (u::a):=⟨u,a,rfl,h,c⟩
abbrev ag(c:Cell):SV:=.is (.one c)
abbrev ao(a b:Nat):SV:=.is (.one (.ptr a b))
def sI (k:IntKind) (a:Int):SV:=.is (.one (.v (.int k a)))
def sA (k:IntKind) (n:Nat) (a:List Int):SV:=.is (.agg [.ints k n a])
def Kn:List SV->Prop->Prop
 | [],K=>K
 | .junk::m,K=>Kn m K
 | t::m,K=>t=t/\Kn m K
def RR:List (Nat × List Cell)->Prop->Prop
 | [],K=>K
 | (_,a)::l,K=>a=a/\RR l K
def St.ah (τ:St) (K:Prop):Prop:=Kn τ.slots (RR τ.blks K)
theorem NJ {K:Prop} (h:K):∀ l:List (Nat × List Cell),RR l K:=by
 intro l;induction l with
 | nil=>exact h
 | cons p l a=>exact⟨rfl,a⟩
theorem NK {K:Prop} (h:K):∀ l:List SV,Kn l K:=by
 intro l;induction l with
 | nil=>exact h
 | cons t l a =>
  cases t with
  | junk=>exact a
  | _=>exact⟨rfl,a⟩
theorem au {τ:St} {K:Prop} (h:K):τ.ah K:=NK (NJ h _) _
def Ug:List Code->Code
 | []=>.skip
 | c::l=>.seq c (Ug l)
def flat:Code->List Code
 | .seq a b=>flat a++flat b
 | .skip=>[]
 | c=>[c]
def kA (P:Program):List Code->(Exit->ax)->ax
 | [],Q,a,w=>Q .normal a w
 | c::l,Q,a,w=>c.wp P (Exit.then (kA P l Q) Q) a w
theorem jR {P:Program}:∀ (c:Code) (l:List Code) (Q:Exit->ax) (a:Act) (w:World),kA P (flat c++l) Q a w->c.wp P (Exit.then (kA P l Q) Q) a w:=by
 intro c;induction c with
 | skip=>intro l Q a w h;exact wp_skip h
 | seq p q b d =>
  intro l Q a w h;simp only[flat,cH] at h;refine wp_seq (wp_mono (b _ Q a w h) ?_);intro e g i f;cases e with
  | normal=>exact d l Q g i f
  | _=>exact f
 | _=>intro l Q a w h;exact h
def VC (E:Env) (l:List Code) (a:St) (n r:St->Prop) (x:Nat->St->Prop):Prop:=vc E (Ug l) a n r x
def Tr (E:Env) (N:Nat) (l:List Code) (d:St) (n r:St->Prop) (x:Nat->St->Prop):Prop :=
 ∀ (a:Act) (w:World) (Q:Exit->ax),Holds E.w0 N d a w->(∀ b a w,Holds E.w0 N b a w->n b->Q .normal a w)->(∀ b a w,Holds E.w0 N b a w->r b->Q .ret a w) ->
  (∀ i b a w,Holds E.w0 N b a w->x i b->Q (.exit i) a w)->kA E.P l Q a w
section
variable {E:Env} {N:Nat} {n r:St->Prop} {x:Nat->St->Prop}
theorem bJ (g:aJ E.P E.sp) (o:E.P.follows .mixedOrders=true):∀ (l:List Code) (b:St),VC E l b n r x->Tr E N l b n r x:=by
 intro l;induction l with
 | nil=>intro b h a w Q d f _ _;exact f b a w d h
 | cons c l q =>intro b h a w Q d f j k;exact M4 g o c b _ r x a w _ h d (fun i a w e m=>q i m a w Q e f j k) j k
theorem zw {P:Program} {Q:Exit->ax}:∀ (l m:List Code) (a:Act) (w:World),kA P l (Exit.then (kA P m Q) Q) a w->kA P (l++m) Q a w:=by
 intro l;induction l with
 | nil=>intro m a w h;exact h
 | cons c l f =>
  intro m a w h;refine wp_mono h ?_;intro e d g b;cases e with
  | normal=>exact f m d g b
  | _=>exact b
theorem bh (e:aJ E.P E.sp) (z:E.P.follows .mixedOrders=true) {l:List Code} {i:St} (k:Nat) (j:St) (K:Prop) (q:VC E (l.take k) i (fun b=>b.le E.w0 j K) r x) (s:K->Tr E N (l.drop k) j n r x):Tr E N l i n r x:=by intro a w Q y A g h;rw[<- dO k l];refine zw _ _ a w ?_;refine bJ e z _ _ q a w _ y (fun b m C d o=>?_) g h;obtain⟨u,f⟩:=lr o d;exact s u m C Q f A g h
def b7:Code->Nat
 | .block id _=>id
 | _=>0
def aV:Code->List Code
 | .block _ (.loop b)=>flat b
 | _=>[]
def dq:Code->Bool
 | .block _ (.loop _)=>true
 | _=>false
theorem IH {α:Type} {l:List Code} {c:Code} {T:St} (I:α->St) (J:α->Prop) (s:α->Nat) (out:α->St) (K:α->Prop) (t:α)
  (F:l.head?=some c) (z:dq c=true) (U:T.le E.w0 (I t) (J t))
  (y:∀ g,J g->Tr E N (aV c) (I g) (fun f=>∃ j,f.le E.w0 (I j) (J j/\s j<s g)) r (fun i f=>match beq i (b7 c) with|true=>∃ j,f.le E.w0 (out j) (K j)|false=>x i f))
  (Y:∀ g,K g->Tr E N l.tail (out g) n r x):Tr E N l T n r x:=by
 intro a w Q hh hn L O;cases l with
 | nil=>simp at F
 | cons d l =>
  simp at F;subst F;unfold dq at z;split at z
  ·rename_i id b;obtain⟨D,A⟩:=lr U hh;refine wp_block ?_;refine wp_loop_ghost (fun m a w=>∃ g,s g=m/\J g/\Holds E.w0 N (I g) a w) (s t) ⟨t,rfl,D,A⟩ ?_;rintro m a w ⟨g,rfl,hj,hg⟩;have H:=y g hj a w (Exit.then (fun o q=>∃ R,R<s g/\∃ g,s g=R/\J g/\Holds E.w0 N (I g) o q) (Exit.inBlock id (Exit.then (kA E.P l Q) Q))) hg ?_ ?_ ?_;have:=jR b [] _ a w (by simpa[aV] using H);refine wp_mono this ?_;intro e o q Z;cases e<;>exact Z;rintro f o q h ⟨j,k⟩;obtain⟨⟨V,W⟩,X⟩:=lr k h;exact⟨s j,W,j,rfl,V,X⟩;intro f o q h k;exact L f o q h k
   ·intro i f o q h k;show Exit.inBlock id (Exit.then (kA E.P l Q) Q) (.exit i) o q;simp only[Exit.inBlock];by_cases C:i=id;subst C;rw[ak rfl];simp only[b7,gi] at k;obtain⟨j,k⟩:=k;obtain⟨u,G⟩:=lr k h;exact Y j u o q Q G hn L O
    ·rw[ai C];have:beq i id=false:=by
      cases y:beq i id with
      | false=>rfl
      | true=>exact absurd (beq_true y) C
     simp only[b7,this] at k;exact O i f o q h k
  cases z
theorem zq {l:List Code} {k:St} {g:St->Prop} {j:Nat->St->Prop} (h:Tr E N l k g r j) (e:∀ b,g b->n b) (f:∀ i b,j i b->x i b):Tr E N l k n r x:=by intro a w Q m o q s;exact h a w Q m (fun b a w c d=>o b a w c (e b d)) q (fun i b a w c d=>s i b a w c (f i b d))
theorem MW (j:aJ E.P E.sp) (z:E.P.follows .mixedOrders=true) {d:Type} {l:List Code} {c:Code} {o:St} (I:d->St) (J:d->Prop) (k:d->Nat) (b:d->d) (out:d->St) (f:d->Prop) (h:d)
  (y:l.head?=some c) (u:dq c=true) (q:o.le E.w0 (I h) (J h))
  (t:∀ g,J g->VC E (aV c) (I g) (fun a=>a.le E.w0 (I (b g)) (J (b g)/\k (b g)<k g)) r (fun i a=>match beq i (b7 c) with|true=>a.le E.w0 (out g) (f g)|false=>x i a))
  (s:∀ g,f g->Tr E N l.tail (out g) n r x):Tr E N l o n r x:=by
 refine IH I J k out f h y u q (fun g w=>?_) s;refine zq (bJ j z _ _ (t g w)) (fun a e=>⟨b g,e⟩) (fun i a e=>?_);cases m:beq i (b7 c) with
 | true=>rw[m] at e;exact⟨g,e⟩
 | false=>rw[m] at e;exact e
def ar (l:List Code) (k:Nat):Code:=l.getD k .skip
def nO:Code->Operand
 | .cond c _ _=>c
 | _=>.const (.bool true)
def fX:Code->List Code
 | .cond _ a _=>flat a
 | _=>[]
def rD:Code->List Code
 | .cond _ _ b=>flat b
 | _=>[]
def nT:Code->Bool
 | .cond _ _ _=>true
 | _=>false
def cV:Code->List Code
 | .block _ b=>flat b
 | _=>[]
def Db:Code->Bool
 | .block _ _=>true
 | _=>false
theorem PM {l:List Code} {c:Code} {e:St} (t:Bool) (h:l.head?=some c) (g:nT c=true) (m:jH e.S (nO c)=ag (.v (.bool t)))
  (s:t=true->Tr E N (fX c++l.tail) e n r x) (u:t=false->Tr E N (rD c++l.tail) e n r x):Tr E N l e n r x:=by
 intro a w Q f j k o;cases l with
 | nil=>simp at h
 | cons d l =>simp at h;subst h;unfold nT at g;split at g;rename_i c p q;have b:(jH e.S c).rel f.2.choose (a.eval c):=(f.2.choose_spec.1).fC (E:=E) c;simp only[nO] at m;rw[m] at b;refine wp_cond_split (cc b) (fun i=>?_) (fun i=>?_);exact jR p l Q a w (s i a w Q f j k o);exact jR q l Q a w (u i a w Q f j k o);cases g
theorem mn {l:List Code} {c:Code} {z:St} (q:l.head?=some c) (m:Db c=true)
  (A:Tr E N (cV c) z (fun f=>Tr E N l.tail f n r x) r (fun i f=>match beq i (b7 c) with|true=>Tr E N l.tail f n r x|false=>x i f)):Tr E N l z n r x:=by
 intro a w Q G y s t;cases l with
 | nil=>simp at q
 | cons d l =>
  simp at q;subst q;unfold Db at m;split at m
  ·rename_i id b;refine wp_block ?_;have u:=A a w (Exit.inBlock id (Exit.then (kA E.P l Q) Q)) G (fun f j k g h=>h j k Q g y s t) (fun f j k g h=>s f j k g h) ?_;have:=jR b [] _ a w (by simpa[cV] using u);refine wp_mono this ?_;intro e j k D;cases e<;>exact D
   ·intro i f j k g h;simp only[Exit.inBlock];by_cases o:i=id;subst o;rw[ak rfl];simp only[b7,gi] at h;exact h j k Q g y s t
    ·rw[ai o];have:beq i id=false:=by
      cases C:beq i id with
      | false=>rfl
      | true=>exact absurd (beq_true C) o
     simp only[b7,this] at h;exact t i f j k g h
  cases m
def al (fn:Func):List Code :=
 match fn.body with
 | some c=>flat c
 | none=>[]
def lx (fn:Func) (args:List SV) (bl:List (Nat × List Cell)) (b:Nat):St:=⟨args++replicate (fn.ntmps-args.length) .undef,bl,b⟩
def A7 (E:Env) (fn:Func) (args:List SV) (a:List (Nat × List Cell)) (b:Nat) (Q:SV->St->Prop):Prop :=
 Tr E fn.ntmps (al fn) (lx fn args a b) (ll E fn Q) (ll E fn Q) (fun _ _=>False)
theorem B8 {f:FuncId} {fn:Func} (G:E.P.funcs[f]?=some fn) (o:fn.body.isSome=true) {args:List SV} {s:List Value} {z:List (Nat × List Cell)} {C:Nat} {q:aC} (u:Start E.w0 z C q) {Q:SV->St->Prop}
  (L:bq q args s) (K:args.length<=fn.ntmps) (h:A7 E fn args z C Q) :
  Calls E.P f ⟨s⟩ E.w0.w fun e t=>∃ v l j ρ n a,e=.returned v/\l.rel ρ v/\Q l j/\cR E.w0 n j.S j.B ρ a t:=by
 obtain⟨c,A⟩:=Option.isSome_iff_exists.1 o;have H:=yl (E:=E) (fn:=fn) u L K;refine calls_of_wp G A ?_;have m:∀ b a w,Holds E.w0 fn.ntmps b a w->ll E fn Q b->a.defers=[]/\∃ v,(results fn a.tmps).run E.P w=.ok v w/\∃ D l j ρ n a,(Ending.returned v)=.returned D/\l.rel ρ D/\Q l j/\cR E.w0 n j.S j.B ρ a w:=by intro b a w d k;obtain⟨_,ρ,g,_⟩:=d;unfold ll at k;split at k;rename_i l y;obtain⟨v,g1,g2⟩:=CJ g y;exact⟨g.defers,v,g1,v,l,b,ρ,_,a,rfl,g2,k,g⟩;exact k.elim
 have I:flat c++[]=al fn:=by simp[al,A]
 suffices O:kA E.P (al fn) (bodyPost E.P fn fun e t=>∃ v l j ρ n a,e=.returned v/\SV.rel ρ l v/\Q l j/\cR E.w0 n j.S j.B ρ a t) { tmps:=(⟨s⟩:Array Value)++Array.replicate (fn.ntmps-(⟨s⟩:Array Value).size) undef,defers:=[] } E.w0.w by refine wp_mono (jR c [] _ _ _ (I▸O)) ?_;intro e R t F;cases e<;>exact F
 exact h _ _ _ H (fun b a w d k=>m b a w d k) (fun b a w d k=>m b a w d k) (fun i b a w _ k=>k.elim)
end
attribute [irreducible] VC
abbrev HL:List Kd->Type
 | []=>Unit
 | κ::b=>aH κ × HL b
def Ep:Kd->Bool
 | .fp | .fr | .pair _ _ | .arr _ _=>true
 | _=>false
def fm:Kd->Bool
 | .pair a b=>fm a&&fm b
 | .arr _ e=>fm e
 | .sl _ | .ptr _ | .cap _ _ | .mp=>false
 | _=>true
def cb (w:World):Mem:=fun b=>match w.heap[b]? with
 | some (.cells c _ _)=>match c.toList with
  | []=>none
  | v::l=>some (v::l)
 | some (.map f _)=>match f.toList with
  | []=>some []
  | _=>none
 | _=>none
def ql (M:Mem) (b:Kd) (x:aH b) (v:Value):Prop :=
 match Ep b with
 | true=>∃ l,v=.agg ⟨l⟩/\Rd M b x l
 | false=>Rd M b x [v]
def ui (M:Mem):(c:List Kd)->HL c->List Value->Prop
 | [],_,d=>d=[]
 | κ::c,x,d=>∃ u b,d=u::b/\ql M κ x.1 u/\ui M c x.2 b
def wy:(κ:Kd)->aH κ->Prop
 | .pair a b,x=>wy a x.1/\wy b x.2
 | .arr n e,d=>d.length=n/\∀ x∈d,wy e x
 | .sl e,d=>∀ x∈d,wy e x
 | .ptr e,x=>wy e x
 | .cap c e,x=>wy c x.1/\wy e x.2
 | _,_=>True
def Hi:(b:List Kd)->HL b->Prop
 | [],_=>True
 | κ::b,x=>wy κ x.1/\Hi b x.2
inductive cU where
 | own (e:Kd)
 | val (κ:Kd)
 | box (κ:Kd)
abbrev cU.kd:cU->Kd
 | .own e=>.sl e
 | .val b=>b
 | .box b=>b
abbrev HO:List cU->Type
 | []=>Unit
 | o::b=>aH o.kd × HO b
def dt (N:Nat) (M:Mem) (c:Option Nat) (w':World):Mem:=fun b =>
 if c=some b then none else if N<=b then cb w' b else M b
def aes (N:Nat) (M:Mem) (d:Option Nat) (w':World):(o:cU)->aH o.kd->Value->Prop
 | .val g,x,v=>ql (dt N M d w') g x v
 | .own e,f,v=>(f=[]/\v=.slice none 0 0)\/∃ b o c n l,d=some b/\N<=b/\v=.slice (some ⟨b,o,none⟩) f.length c/\f.length<=c/\(o=0\/c=0)/\o+c*width e<=n/\ca w' b n l/\dX (Rd (dt N M d w') e) f l
 | .box g,x,v=>∃ b n l,d=some b/\N<=b/\v=.pointer (some ⟨b,0,none⟩)/\ca w' b n l/\Rd (dt N M d w') g x l
def e8 (N:Nat) (M:Mem) (e:Option Nat) (w':World):(c:List cU)->HO c->List Value->Prop
 | [],_,d=>d=[]
 | o::c,x,d=>∃ v b,d=v::b/\aes N M e w' o x.1 v/\e8 N M e w' c x.2 b
def mS:List Value->Value
 | [v]=>v
 | vs=>.tuple ⟨vs⟩
abbrev fZ:=Nat->Option (Sigma aH)
def bB:fZ:=fun _=>none
def rq (G:fZ) (M:Mem):Prop:=∀ g e x,G g=some ⟨e,x⟩->mw (Rd M e) (width e) M g 0 [x]
def aO (P:Program) (f:FuncId) (b:List Kd) (d:List cU) (G:fZ) (pre:HL b->Prop) (F:HL b->HO d):Prop :=
 ∀ (w:World) (M:Mem) (us:List Value) (xs:HL b),Mem.le M (cb w)->rq G M->ui M b xs us->pre xs ->
  nL P f ⟨us⟩ w fun v w'=>∃ vs e,v=mS vs/\e8 w.heap.size M e w' d (F xs) vs/\Below w.heap.size w w'
def XT (P:Program) (f:FuncId) (b:List Kd) (i:List Value) (c:List cU) (G:fZ) (pre:HL b->Prop) (F:HL b->HO c):Prop :=
 ∀ (w:World) (M:Mem) (e:List Value) (d:HL b),Mem.le M (cb w)->rq G M->ui M b d e->pre d ->
  nL P f ⟨e++i⟩ w fun v w'=>∃ g h,v=mS g/\e8 w.heap.size M h w' c (F d) g/\Below w.heap.size w w'
theorem aO.toT {P:Program} {f:FuncId} {c:List Kd} {b:List cU} {G:fZ} {pre:HL c->Prop} {F:HL c->HO b} (h:aO P f c b G pre F):XT P f c [] b G pre F:=by intro w M d e;rw[bw];exact h w M d e
def M3 (B:bE) (b:Kd):SV->Option (aH b × List Prop)
 | .is (.agg e)=>match Ep b,fx B b e with
  | true,some (x,d,[])=>some (x,d)
  | _,_=>none
 | .is (.one c)=>match Ep b,fx B b [c] with
  | false,some (x,d,[])=>some (x,d)
  | _,_=>none
 | _=>none
def uQ (B:bE):(b:List Kd)->List SV->Option (HL b × List Prop)
 | [],[]=>some ((),[])
 | κ::b,v::e=>match M3 B κ v with
  | some (x,c)=>match uQ B b e with
   | some (f,d)=>some ((x,f),c++d)
   | none=>none
  | none=>none
 | _,_=>none
def Gy (id:Nat):(o:cU)->aH o.kd->TV
 | .val b,x=>match Ep b with
  | true=>.agg (cellsOf b x)
  | false=>match cellsOf b x with
   | c::_=>.one c
   | []=>.agg []
 | .own e,d=>.one (.sl id 0 0 d.length (width e))
 | .box _,_=>.one (.ptr id 0)
def iR (id:Nat):(b:List cU)->HO b->List TV
 | [],_=>[]
 | o::b,x=>Gy id o x.1::iR id b x.2
def uq (id:Nat):(b:List cU)->HO b->List (Nat × List Cell)
 | [],_=>[]
 | .own e::_,x=>[(id,[jk e (x.1:List (aH e)).length x.1])]
 | .val _::b,x=>uq id b x.2
 | .box c::_,x=>[(id,cellsOf c x.1)]
def ym:List TV->SV
 | [x]=>.is x
 | l=>.tup l
def dA:List cU->Nat
 | []=>0
 | .own _::b=>dA b+1
 | .val _::b=>dA b
 | .box _::b=>dA b+1
def eT:List cU->Bool
 | []=>true
 | .own e::b=>fm e&&eT b
 | .val c::b=>fm c&&eT b
 | .box c::b=>fm c&&eT b
def isLive (B:bE) (i:Nat):Bool:=match B i with
 | some (_::_)=>true
 | _=>false
def pG (B:bE) (b:List cU) (ids:List Nat):List (Nat × List Cell) :=
 match eT b with
 | true=>[]
 | false=>(ids.filter (isLive B)).map fun i=>(i,[])
def aK (c:List Kd) (b:List cU) (pre:HL c->Prop) (F:HL c->HO b):Spec:=fun _ id args B =>
 match uQ (lO (gq B args) B) c args with
 | some (d,e)=>some { val:=ym (iR id b (F d)),new:=uq id b (F d),wr:=pG B b (gq B args),pre:=e++[pre d] }
 | none=>none
def C8 (G:fZ) (c:List Kd) (b:List cU) (pre:HL c->Prop) (F:HL c->HO b):Spec:=fun W id args B =>
 match aK c b pre F W id args B with
 | some o=>some { o with pre:=(∀ g s,G g=some s->W.gl g=some s)::o.pre }
 | none=>none
section
variable {P:Program}
theorem nL.mono {f:FuncId} {i:Array Value} {w:World} {R d:Value->World->Prop} (h:nL P f i w R) (g:∀ v w',R v w'->d v w'):nL P f i w d:=by rcases h with ⟨b,c⟩|⟨v,w',b,c⟩;exact .inl ⟨b,c.mono fun e w' ⟨v,j,k⟩=>⟨v,j,g v w' k⟩⟩;exact .inr ⟨v,w',b,g v w' c⟩
theorem Ks {M q:Mem}:∀ {e:Kd} {x:aH e} {d:List Value},fm e=true->Rd M e x d->Rd q e x d:=by
 intro e;induction e with
 | int k=>intro x d _ h;exact h
 | bool=>intro x d _ h;exact h
 | str=>intro x d _ h;exact h
 | fp=>intro x d _ h;exact h
 | fr=>intro x d _ h;exact h
 | pair a b m o=>intro x d g ⟨t,u,e,i,j⟩;simp[fm] at g;exact⟨t,u,e,m g.1 i,o g.2 j⟩
 | arr n e l=>intro x d g ⟨i,j⟩;exact⟨i,ee (fun _ _=>l g) j⟩
 | sl e l=>intro x d g;simp[fm] at g
 | ptr e l=>intro x d g;simp[fm] at g
 | fn f=>intro x d _ h;exact h
 | cap c e r s=>intro x d g;simp[fm] at g
 | pq=>intro x d _ h;exact h
 | mp=>intro x d g;simp[fm] at g
theorem AI {M d:Mem} {b:Kd} {x:aH b} {v:Value} (h:∀ l,Rd M b x l->Rd d b x l) (c:ql M b x v):ql d b x v:=by
 unfold ql at c ⊢;cases f:Ep b with
 | true=>rw[f] at c;obtain⟨l,e,g⟩:=c;exact⟨l,e,h l g⟩
 | false=>rw[f] at c;exact h _ c
theorem wx {B:bE} {ρ:aC} {M:Mem} (m:Sees B ρ M) {k:Kd} {s:SV} {x:aH k} {t:List Prop} {v:Value} (h:M3 B k s=some (x,t)) (o:∀ p∈t,p) (r:s.rel ρ v):ql M k x v:=by unfold M3 at h;split at h;rename_i A;split at h;rename_i y z g i;simp only[aE,aL] at h;obtain⟨rfl,rfl⟩:=h;obtain⟨l,e,u⟩:=r;obtain⟨w,j,d,f,b⟩:=ij m _ _ _ _ _ _ i o u;have b:j=[]:=b;subst b;rw[bw] at d;subst d;unfold ql;rw[g];exact⟨_,e,f⟩;simp at h;rename_i c;split at h;rename_i y z g i;simp only[aE,aL] at h;obtain⟨rfl,rfl⟩:=h;obtain⟨w,j,d,f,b⟩:=ij m _ _ _ _ _ _ i o (bP r);have b:j=[]:=b;subst b;rw[bw] at d;unfold ql;rw[g,d];exact f;simp at h;simp at h
theorem IX {B:bE} {ρ:aC} {M:Mem} (q:Sees B ρ M):∀ {d:List Kd} {c:List SV} {i:HL d} {f:List Prop} {g:List Value},uQ B d c=some (i,f)->(∀ p∈f,p)->bq ρ c g->ui M d i g:=by
 intro d;induction d with
 | nil=>intro c i f g h j k;cases c with
  | nil=>exact k
  | cons _ _=>simp[uQ] at h
 | cons C d r=>intro c i f g h j k;cases c with
  | nil=>simp[uQ] at h
  | cons s c =>simp only[uQ] at h;split at h;rename_i x y m;split at h;rename_i A z o;simp only[aE,aL] at h;obtain⟨rfl,rfl⟩:=h;obtain⟨u,l,e,t,w⟩:=k;exact⟨u,l,e,wx q m (fun p b=>j p (gK _ b)) t,r o (fun p b=>j p (hV _ b)) w⟩;simp at h;simp at h
theorem kF {w:World} {b:Nat} {l:List Value} {c:TypeId} {fr:Nat × Nat} (h:w.heap[b]?=some (.cells ⟨l⟩ c fr)) (d:l≠[]):cb w b=some l:=by
 cases l with
 | nil=>exact absurd rfl d
 | cons v l=>simp only[cb,h]
theorem j8 {w:World} {b:Nat} {l:List Value} {c:TypeId} {fr:Nat × Nat} (h:w.heap[b]?=some (nF l c fr)):cb w b=some l:=by
 cases l with
 | nil=>simp only[cb,h,nF]
 | cons v l=>simp only[cb,h,nF]
theorem iE {w:World} {b:Nat} {l:List Value} (h:cb w b=some l):∃ d fr,w.heap[b]?=some (nF l d fr):=by unfold cb at h;split at h;rename_i c d fr f;split at h;cases h;rename_i v i e;simp only[aE] at h;subst h;exact⟨d,fr,by rw[f,nF,<- e]⟩;rename_i g ck f;split at h;rename_i e;simp only[aE] at h;subst h;exact⟨ck,(0,0),by rw[f,nF,<- Array.toList_inj.1 (show g.toList=(#[]:Array MapEntry).toList from e)]⟩;cases h;cases h
theorem sZ {w:World} {b:Nat} {l:List Value} (h:cb w b=some l):b<w.heap.size:=by obtain⟨c,fr,h⟩:=iE h;rcases bS b w.heap.size with h'|h';exact h';rw[ef h'] at h;cases h
theorem CX {b:Kd} {ρ:aC} {id:Nat} {x:aH b} {v:Value} (h:ql ρ.M b x v):(Gy id (.val b) x).rel ρ v:=by
 unfold ql at h;cases d:Ep b with
 | true =>
  rw[d] at h;obtain⟨l,e,g⟩:=h;have:Gy id (.val b) x=.agg (cellsOf b x):=by simp only[Gy,d]
  rw[this];exact⟨l,e,jh g⟩
 | false =>
  rw[d] at h;have:=jh h;cases b with
  | int k=>exact cY this
  | bool=>exact cY this
  | str=>exact cY this
  | sl e=>exact cY this
  | ptr e=>exact cY this
  | fn f=>exact cY this
  | cap c e=>exact cY this
  | pq=>exact cY this
  | mp=>exact cY this
  | _=>simp[Ep] at d
theorem DK {ρ:aC} {l:List TV} {d:List Value} (h:eP ρ l d):(ym l).rel ρ (mS d):=by
 match l,d,h with
 | [],_,h=>have e:_=[]:=h;subst e;exact⟨[],rfl,rfl⟩
 | [x],_,⟨y,g,e,b,c⟩=>have j:g=[]:=c;subst j;subst e;exact b
 | x::m::l,_,⟨y,g,e,b,k,f,i,c⟩=>subst i e;exact⟨_,rfl,y,_,rfl,b,k,f,rfl,c⟩
theorem Qi:∀ (c:Kd) (x:aH c),cellsOf c x≠[]:=by
 intro c;induction c with
 | pair a b d e =>intro x h;have h:cellsOf a x.1++cellsOf b x.2=[]:=h;exact d x.1 (List.append_eq_nil_iff.1 h).1
 | _=>intro x h;simp[cellsOf] at h
theorem L7 {b:aC} {N:Nat} {M:Mem} {d:Option Nat} {w':World} {id:Nat} (s:∀ (e:Kd) (x:aH e) l,Rd (dt N M d w') e x l->(fm e=true\/Mem.le (dt N M d w') b.M)->Rd b.M e x l)
  : ∀ {c:List cU} {ys:HO c} {f:List Value},dA c=0->(eT c=true\/Mem.le (dt N M d w') b.M)->e8 N M d w' c ys f->uq id c ys=[]/\eP b (iR id c ys) f:=by
 intro c;induction c with
 | nil=>intro ys f _ _ h;exact⟨rfl,h⟩
 | cons o c u =>
  intro ys f g hp h;cases o with
  | own e=>simp[dA] at g
  | box e=>simp[dA] at g
  | val m =>
   obtain⟨v,k,e,q,r⟩:=h;have j:eT c=true\/Mem.le (dt N M d w') b.M:=by rcases hp with hp|hp;simp[eT] at hp;exact .inl hp.2;exact .inr hp
   have i:fm m=true\/Mem.le (dt N M d w') b.M:=by rcases hp with hp|hp;simp[eT] at hp;exact .inl hp.1;exact .inr hp
   obtain⟨w,y⟩:=u (ys:=ys.2) g j r;exact⟨w,v,k,e,CX (AI (fun l t=>s m _ l t i) q),y⟩
theorem Ag {ρ':aC} {N:Nat} {M:Mem} {j:Option Nat} {w':World} {id:Nat} (u:∀ (e:Kd) (x:aH e) l,Rd (dt N M j w') e x l->(fm e=true\/Mem.le (dt N M j w') ρ'.M)->Rd ρ'.M e x l)
  : ∀ {c:List cU} {ys:HO c} {s:List Value},dA c<=1->(eT c=true\/Mem.le (dt N M j w') ρ'.M)->e8 N M j w' c ys s ->
   (uq id c ys=[]/\eP ρ' (iR id c ys) s) \/
   (∃ r,r≠[]/\uq id c ys=[(id,r)]/\(eP ρ' (iR id c ys) s\/∃ b n l,j=some b/\N<=b/\ca w' b n l/\az ρ' r l/\(ρ' id=some b->ρ'.n id=n->eP ρ' (iR id c ys) s))):=by
 intro c;induction c with
 | nil=>intro ys s _ _ h;exact .inl ⟨rfl,h⟩
 | cons o c U =>
  intro ys s C hp h;obtain⟨v,d,e,D,E⟩:=h;cases o with
  | val t =>
   have i:eT c=true\/Mem.le (dt N M j w') ρ'.M:=by rcases hp with hp|hp;simp[eT] at hp;exact .inl hp.2;exact .inr hp
   have g:fm t=true\/Mem.le (dt N M j w') ρ'.M:=by rcases hp with hp|hp;simp[eT] at hp;exact .inl hp.1;exact .inr hp
   have k:=CX (id:=id) (AI (fun l G=>u t _ l G g) D);rcases U (ys:=ys.2) C i E with ⟨y,m⟩|⟨r,Q,y,m|⟨b,n,l,V,W,X,Y,Z⟩⟩;exact .inl ⟨y,v,d,e,k,m⟩;exact .inr ⟨r,Q,y,.inl ⟨v,d,e,k,m⟩⟩;exact .inr ⟨r,Q,y,.inr ⟨b,n,l,V,W,X,Y,fun w H=>⟨v,d,e,k,Z w H⟩⟩⟩
  | own A =>
   have i:eT c=true\/Mem.le (dt N M j w') ρ'.M:=by rcases hp with hp|hp;simp[eT] at hp;exact .inl hp.2;exact .inr hp
   have g:fm A=true\/Mem.le (dt N M j w') ρ'.M:=by rcases hp with hp|hp;simp[eT] at hp;exact .inl hp.1;exact .inr hp
   have O:dA c=0:=by simp[dA] at C;omega
   obtain⟨_,m⟩:=L7 (id:=id) u (ys:=ys.2) O i E;refine .inr ⟨_,aw,rfl,?_⟩;rcases D with ⟨L,k⟩|⟨b,o,z,n,l,q,F,k,R,T,H,f,K⟩;refine .inl ⟨v,d,e,.inl ⟨?_,by rw[k]⟩,m⟩;have L:(ys.1:List (aH A))=[]:=L;rw[L];rfl;refine .inr ⟨b,n,l,q,F,f,bP (fL rfl (ee (fun x l G=>u A x l G g) K)),fun w I=>⟨v,d,e,.inr ⟨b,o,z,w,R,by simpa using T,by rw[I];exact H,by rw[k]⟩,m⟩⟩
  | box t =>
   have i:eT c=true\/Mem.le (dt N M j w') ρ'.M:=by rcases hp with hp|hp;simp[eT] at hp;exact .inl hp.2;exact .inr hp
   have g:fm t=true\/Mem.le (dt N M j w') ρ'.M:=by rcases hp with hp|hp;simp[eT] at hp;exact .inl hp.1;exact .inr hp
   have O:dA c=0:=by simp[dA] at C;omega
   obtain⟨_,m⟩:=L7 (id:=id) u (ys:=ys.2) O i E;obtain⟨b,n,l,q,F,k,f,K⟩:=D;exact .inr ⟨_,Qi t ys.1,rfl,.inr ⟨b,n,l,q,F,f,jh (u t ys.1 l K g),fun w _=>⟨v,d,e,⟨b,w,by rw[k]⟩,m⟩⟩⟩
theorem xo {B:bE} {b:List cU} {ids:List Nat} {p:Nat × List Cell} (h:p∈pG B b ids):p.2=[]/\p.1∈ids/\∃ d,B p.1=some d/\d≠[]:=by unfold pG at h;split at h;cases h;obtain⟨i,g,rfl⟩:=mem_map.1 h;obtain⟨f,e⟩:=List.mem_filter.1 g;refine⟨rfl,f,?_⟩;unfold isLive at e;split at e;rename_i c d j;exact⟨_,j,aw⟩;cases e
theorem QC {f:FuncId} {O:List Kd} {tl:List Value} {j:List cU} {G:fZ} {pre:HL O->Prop} {F:HL O->HO j} (h:XT P f O tl j G pre F) (h1:dA j<=1) {w0:cD} {id:Nat} {args:List SV} {B:bE} {out:Out}
  (hF:aK O j pre F w0 id args B=some out) (hp:∀ p∈out.pre,p) (hG:∀ g s,G g=some s->w0.gl g=some s) {ρ:aC} {us:List Value} {w:World} (hv:bq ρ args us) (Q:Ctx w0 id ρ B w) :
  nL P f ⟨us++tl⟩ w fun v w'=>∃ ρ',out.val.rel ρ' v/\Eff id B out ρ ρ' w w':=by
 classical
 unfold aK at hF;split at hF
 ·rename_i xs ps z4;simp only[aE] at hF;subst hF
  -- y4 z6 y6 u0 u1
  let own:Nat->Prop:=fun b=>∃ i A,i∈gq B args/\B i=some A/\A≠[]/\ρ i=some b;let C:Mem:=fun b=>if own b then cb w b else ρ.M b;have x3:∀ b l,C b=some l->cb w b=some l:=by intro b l k;simp only[C] at k;split at k;exact k;obtain⟨W,fr,Y⟩:=Q.mem b l k;exact j8 Y
  have K:Mem.le ρ.M C:=by intro b l k;simp only[C];split;obtain⟨W,fr,Y⟩:=Q.mem b l k;exact j8 Y;exact k
  have x1:Sees (lO (gq B args) B) ρ C:=by
   refine⟨K,fun i A b u x7 k=>?_⟩;have x6:i∈gq B args:=by unfold lO at u;split at u;rename_i hm;exact vP hm;cases u
   have x2:=nG u;obtain⟨l,⟨y3,W,fr,V,k2,_⟩,k3⟩:=Q.blks i A x2 x7 b k;refine⟨l,y3,k3,fun hn=>?_,k2⟩;simp only[C];rw[ak ⟨i,A,x6,x2,x7,k⟩];exact kF V hn
  have x4:=IX x1 z4 (fun p d=>hp p (by simp[d])) hv;have y7:rq G C:=fun g e x hg=>ko K (Q.glob g e x (hG g _ hg));refine (h w C us xs x3 y7 x4 (hp _ aw)).mono ?_;rintro v w' ⟨vs,ob,rfl,U,o⟩
  -- y4 is z5 y5 z6 z7
  let Mx:Mem:=if eT j=true then ρ.M else C;let t:aC:=⟨ρ.m,ρ.n,fun b=>if ob=some b/\w.heap.size<=b then none else if w.heap.size<=b then cb w' b else Mx b⟩;have z2:∀ b l,ρ.M b=some l->b<w.heap.size:=by intro b l k;obtain⟨W,fr,Y⟩:=Q.mem b l k;exact sZ (j8 Y)
  have z3:Mem.le ρ.M Mx:=by intro b l k;simp only[Mx];split;exact k;exact K b l k
  have R:Mem.le ρ.M t.M:=by intro b l k;have:=z2 b l k;simp only[t];rw[ai (fun h=>aa),ai aa];exact z3 b l k
  have T:eT j=true\/Mem.le (dt w.heap.size C ob w') t.M:=by by_cases N:eT j=true;exact .inl N;refine .inr fun b l k=>?_;simp only[dt] at k;simp only[t];split at k;cases k;rename_i x0;rw[ai (fun h=>x0 h.1)];split at k;rename_i X;rw[ak X];exact k;rename_i X;rw[ai X];simp only[Mx,N];exact k
  have conv:∀ (ρ':aC),ρ'.M=t.M->∀ (e:Kd) (x:aH e) l,Rd (dt w.heap.size C ob w') e x l->(fm e=true\/Mem.le (dt w.heap.size C ob w') ρ'.M)->Rd ρ'.M e x l:=by intro ρ' _ e x l hr hor;rcases hor with hor|hor;exact Ks hor hr;exact dd hor hr
  have H:∀ (ρ':aC) (new:List (Nat × List Cell)),ρ'.M=t.M->(∀ p∈new,∀ b,ρ' p.1=some b->ob=some b/\w.heap.size<=b)->∀ b l,ρ'.M b=some l->ρ.M b=some l\/((∀ p∈new,ρ' p.1≠some b)/\(w.heap.size<=b\/∃ q∈pG B j (gq B args),ρ q.1=some b/\q.2=[])/\∃ W fr,w'.heap[b]?=some (nF l W fr)):=by
   intro ρ' new y1 y b l k;rw[y1] at k;simp only[t] at k;split at k;cases k
   ·rename_i x0;split at k;rename_i X;exact .inr ⟨fun p d e=>x0 (y p d b e),.inl X,iE k⟩
    ·rename_i X;simp only[Mx] at k;split at k;exact .inl k
     ·rename_i N;have hm:=x3 b l k;obtain⟨W,fr,Y⟩:=iE hm;simp only[C] at k;split at k
      ·rename_i x8;obtain⟨i,A,y8,y9,z0,z1⟩:=x8;refine .inr ⟨fun p d e=>X (y p d b e).2,.inr ⟨(i,[]),?_,z1,rfl⟩,W,fr,by rw[o.block b aa];exact Y⟩;unfold pG;have:eT j=false:=by simpa using N
       rw[this];refine mem_map.2 ⟨i,List.mem_filter.2 ⟨y8,?_⟩,rfl⟩;unfold isLive;rw[y9];cases A with
       | nil=>exact absurd rfl z0
       | cons c A=>rfl
      exact .inl k
  have x9:∀ (ρ':aC) (p:Nat × List Cell),p∈pG B j (gq B args)->(∃ A,B p.1=some A/\A≠[])/\∀ b,ρ p.1=some b->p.2≠[]->∃ l,ca w' b (ρ.n p.1) l/\az ρ' p.2 l:=by intro ρ' p d;obtain⟨V,k2,k3⟩:=xo d;exact⟨k3,fun _ _ h=>absurd V h⟩
  have y0:∀ p∈pG B j (gq B args),∀ q∈pG B j (gq B args),p.1=q.1->p=q:=by intro p d q I e;exact gm e ((xo d).1.trans (xo I).1.symm)
  have E:=Q.free id (aI _) aa
  -- y2 in a block of z9 own
  have L:∀ (new:List (Nat × List Cell)),(∀ p∈new,p.1=id)->eP t (iR id j (F xs)) vs->∃ ρ',(ym (iR id j (F xs))).rel ρ' (mS vs)/\Eff id B { val:=ym (iR id j (F xs)),new:=new,wr:=pG B j (gq B args),pre:=ps++[pre xs] } ρ ρ' w w':=by
   intro new y ht;have z:∀ p∈new,t p.1=none:=fun p d=>by rw[y p d];exact E
   refine⟨t,DK ht,⟨⟨fun _ _ h=>⟨h,rfl⟩,R⟩,fun _ _ h=>.inl h,fun i b u=>fe (Q.bound i b u) o.size,o.os,o.tape,o.output,o.size,fun b k _=>o.block b k,?_,?_,y0,x9 t,H t new rfl (fun p d b k=>by rw[z p d] at k;cases k)⟩⟩;intro p d;have:=y p d;exact⟨aa,aa,fun b k=>by rw[z p d] at k;cases k⟩;intro p d q I b k;rw[z p d] at k;cases k
  rcases Ag (ρ':=t) (id:=id) (conv t rfl) h1 T U with ⟨V,k2⟩|⟨A,k0,V,k2|⟨b,n,l,k3,k4,k5,k6,k7⟩⟩;rw[V];exact L [] (fun _ h=>nomatch h) k2;rw[V];exact L [(id,A)] (fun p d=>by simp at d;rw[d]) k2
  ·rw[V];let r:aC:=⟨fun i=>if i=id then some b else ρ i,fun i=>if i=id then n else ρ.n i,t.M⟩;have x5:aC.le ρ r:=by
    refine⟨fun i c u=>?_,R⟩;by_cases e:i=id;subst e;rw[E] at u;cases u;simp[r,e,u]
   have Z:aC.le t r:=⟨fun i c u=>x5.id i c u,Mem.le_refl _⟩;have ht:eP r (iR id j (F xs)) vs:=by
    rcases Ag (ρ':=r) (id:=id) (conv r rfl) h1 T U with ⟨_,j2⟩|⟨z8,_,_,j2|⟨b',n',l',j3,j4,j5,j6,j7⟩⟩;exact j2;exact j2
    ·have e:b'=b:=by rw[k3] at j3;simpa using j3.symm
     subst e;have en:=k5.size_eq j5;subst en;exact j7 (by simp[r]) (by simp[r])
   refine⟨r,DK ht,⟨x5,?_,?_,o.os,o.tape,o.output,o.size,fun b k _=>o.block b k,?_,?_,y0,x9 r,H r _ rfl ?_⟩⟩;intro i b' u;by_cases e:i=id;simp[r,e] at u;subst u;exact .inr ⟨aa,aa,⟨(id,A),aw,by simp[e]⟩,.inl k4⟩;simp[r,e] at u;exact .inl u;intro i b' u;by_cases e:i=id;simp[r,e] at u;subst u;exact k5.lt;simp[r,e] at u;exact fe (Q.bound i b' u) o.size;intro p d;simp at d;subst d;refine⟨aI _,by show id<id+8;omega,fun b' D _=>?_⟩;simp[r] at D;subst D;exact⟨.inl k4,l,by simp[r];exact k5,dU Z k6⟩;intro p d q I _ _ _;simp at d I;rw[d,I];intro p d b' D;simp at d;subst d;simp[r] at D;subst D;exact⟨k3,k4⟩
 simp at hF
theorem FX {f:FuncId} {c:List Kd} {b:List cU} {G:fZ} {pre:HL c->Prop} {F:HL c->HO b} (h:aO P f c b G pre F) (i:dA b<=1) {w0:cD} {id:Nat} {args:List SV} {B:bE} {out:Out}
  (j:aK c b pre F w0 id args B=some out) (m:∀ p∈out.pre,p) (k:∀ g s,G g=some s->w0.gl g=some s) {ρ:aC} {e:List Value} {w:World} (o:bq ρ args e) (l:Ctx w0 id ρ B w) :
  nL P f ⟨e⟩ w fun v w'=>∃ d,out.val.rel d v/\Eff id B out ρ d w w':=by
 have:=QC h.toT i j m k o l
 rwa [bw] at this
def qV (g:FuncId):Value:=.func (.func g) #[] #[]
theorem aR {f:FuncId} {d:List Kd} {b:List cU} {pre:HL d->Prop} {F:HL d->HO b} (h:aO P f d b bB pre F) (e:dA b<=1:=by decide):nN P f (aK d b pre F):=by intro w0 id args B out i l ρ us w o j;exact FX h e i l (fun g s k=>by simp[bB] at k) o j
theorem fgk {f:FuncId} {e:List Kd} {b:List cU} {G:fZ} {pre:HL e->Prop} {F:HL e->HO b} (h:aO P f e b G pre F) (m:dA b<=1:=by decide):nN P f (C8 G e b pre F):=by intro w0 id args B out g l ρ t w s q;unfold C8 at g;split at g;rename_i o r;simp at g;subst g;have:=FX h m r (fun p i=>l p (by simp[i])) (l _ aw) s q;refine this.mono fun v w' ⟨k,j,d⟩=>⟨k,j,?_⟩;exact⟨d.le,d.dom,d.bound,d.os,d.tape,d.output,d.size,d.same,d.new,d.newinj,d.wruniq,d.wr,d.mem⟩;simp at g
def enters (P:Program) (f:FuncId) (fn:Func):Prop:=P.funcs[f]?=some fn/\∀ b w,(callFunc f b).run P w=.ok (.enter f b) w
theorem SF {f : FuncId} {fn : Func} (h : P.funcs[f]? = some fn) (c : (fn.name == "runtime.NumGoroutine") = false) (b : fn.body.isNone = false) : enters P f fn := by refine⟨h,fun d w=>?_⟩;unfold callFunc;simp only[Sem.run_bind,run_program,Result.andThen_ok,h,c,b];rfl
theorem ek {f : FuncId} {fn : Func} (h : P.funcs[f]? = some fn := by kernel_rfl) (c : (fn.name == "runtime.NumGoroutine") = false := by kernel_rfl) (b : fn.body.isNone = false := by kernel_rfl) : enters P f fn := SF h c b
def afw:(b:Kd)->aH b->TV:=fun b x=>Gy 0 (.val b) x
def mF:(b:List Kd)->HL b->List SV
 | [],_=>[]
 | κ::b,x=>.is (afw κ x.1)::mF b x.2
theorem rB {ρ:aC}:∀ {b:List Kd} {d:HL b} {c:List Value},ui ρ.M b d c->bq ρ (mF b d) c:=by
 intro b;induction b with
 | nil=>intro d c h;exact h
 | cons k b j=>intro d c ⟨u,f,e,g,i⟩;exact⟨u,f,e,CX g,j i⟩
theorem uP:∀ {b:List Kd} {c:HL b},(mF b c).length=b.length:=by
 intro b;induction b with
 | nil=>intro c;rfl
 | cons e b d=>intro c;simp[mF,d]
theorem P9 {M:Mem}:∀ {e:Kd} {x:aH e} {d:List Value},Rd M e x d->wy e x:=by
 intro e;have A:∀ (e:Kd),(∀ {x:aH e} {d:List Value},Rd M e x d->wy e x)->∀ (q:List (aH e)) (d:List Value),dX (Rd M e) q d->∀ x∈q,wy e x:=by
  intro e j q;induction q with
  | nil=>intro d _ x hx;cases hx
  | cons y H w =>intro d ⟨G,D,_,m,i⟩ x hx;rcases mem_cons.1 hx with rfl|hx;exact j m;exact w D i x hx
 induction e with
 | pair a b r s=>intro x d ⟨G,D,e,m,i⟩;exact⟨r m,s i⟩
 | arr n e j=>intro x d ⟨m,i⟩;exact⟨m,A e j x d i⟩
 | sl e j =>intro x d h;rcases h with ⟨h,_⟩|⟨b,o,cap,_,_,l,_,_,F⟩;intro y C;have h:(x:List (aH e))=[]:=h;rw[h] at C;cases C;exact A e j x _ F
 | int k=>intro x d _;trivial
 | bool=>intro x d _;trivial
 | str=>intro x d _;trivial
 | fp=>intro x d _;trivial
 | fr=>intro x d _;trivial
 | ptr e j=>intro x d ⟨b,o,_,l,_,_,h⟩;exact j (nZ (R:=Rd M e) h)
 | fn f=>intro x d _;trivial
 | cap c e t u=>intro x d ⟨g,z,b,o,_,i,l,_,_,h⟩;exact⟨t i,u (nZ (R:=Rd M e) h)⟩
 | pq=>intro x d _;trivial
 | mp=>intro x d _;trivial
theorem xl {M:Mem}:∀ {b:List Kd} {d:HL b} {f:List Value},ui M b d f->Hi b d:=by
 intro b;induction b with
 | nil=>intro d f _;trivial
 | cons k b i =>intro d f ⟨u,j,e,c,g⟩;refine⟨?_,i g⟩;unfold ql at c;split at c;obtain⟨l,_,h⟩:=c;exact P9 h;exact P9 c
def Ap (lK:Bool) (B:bE):(o:cU)->TV->Option (aH o.kd × List Prop)
 | .val f,x=>M3 (match lK with|true=>o5|false=>B) f (.is x)
 | .own e,x=>match x with
  | .one (.sl id 0 0 len c)=>match B id with
   | some (d::b)=>match uX e (d::b) 0 0 len c with
    | some (g,p)=>some (g,p)
    | none=>uW (fx o5 e) (width e) (d::b) 0 0 len c
   | _=>none
  | .one (.v (.slice none 0 0))=>some ([],[])
  | _=>none
 | .box f,x=>match x with
  | .one (.ptr id 0)=>match B id with
   | some (d::b)=>match fx o5 f (d::b) with
    | some (y,p,[])=>some (y,p)
    | _=>none
   | _=>none
  | _=>none
def iP (lK:Bool) (B:bE):(b:List cU)->List TV->Option (HO b × List Prop)
 | [],[]=>some ((),[])
 | o::b,x::d=>match Ap lK B o x with
  | some (y,p)=>match iP lK B b d with
   | some (ys,c)=>some ((y,ys),p++c)
   | none=>none
  | none=>none
 | _,_=>none
def G8:SV->List TV
 | .is x=>[x]
 | .tup l=>l
 | _=>[]
def CR:SV->Bool
 | .is _=>true
 | .tup []=>true
 | .tup (_::_::_)=>true
 | _=>false
def lK (b:List cU):Bool:=match dA b with
 | 0=>false
 | _=>true
def post (b:List cU) (e:HO b) (c:SV) (σ:St):Prop :=
 match CR c,iP (lK b) σ.B b (G8 c) with
 | true,some (f,d)=>Ew d (f=e)
 | _,_=>False
theorem UE {ρ:aC} {d:SV} {v:Value} (f:d.rel ρ v) (j:CR d=true):∃ c,eP ρ (G8 d) c/\v=mS c:=by
 match d,j with
 | .is x,_=>exact⟨[v],⟨v,[],rfl,f,rfl⟩,rfl⟩
 | .tup [],_ =>obtain⟨c,e,h⟩:=f;have i:c=[]:=h;subst i;exact⟨[],rfl,e⟩
 | .tup (x::y::l),_ =>obtain⟨c,e,h⟩:=f;refine⟨c,h,?_⟩;obtain⟨a,g,rfl,_,b,k,rfl,_⟩:=h;exact e
variable {w0:cD} {n:Nat} {σ:St} {ρ:aC} {a:Act} {w':World}
theorem Ao {M:Mem} (e:cR w0 n σ.S σ.B ρ a w') (j:w0.ids=[]) (g:w0.M=M) {f:Option Nat} (d:∀ b,f=some b->∀ l,ρ.M b≠some l):Mem.le ρ.M (dt w0.w.heap.size M f w'):=by intro b l c;unfold dt;rw[ai (fun h=>d b h l c)];obtain⟨_,m,fr,i⟩:=e.mem b l c;split;exact j8 i;rename_i k;rcases e.old b l c aa with h|h;simp[cD.own,j] at h;rw[<- g];exact h
theorem W0 {M:Mem} (e:cR w0 n σ.S σ.B ρ a w') (g:w0.ids=[]) (m:w0.M=M):Sees σ.B ρ (dt w0.w.heap.size M none w'):=by refine⟨Ao e g m (fun b h=>(nomatch h)),fun i j b k d f=>?_⟩;obtain⟨l,⟨c,u,fr,r,s,_⟩,t⟩:=e.blks i j k d b f;refine⟨l,c,t,fun o=>?_,s⟩;unfold dt;rw[ai (fun h=>nomatch h)];rcases (e.bound i b f).1 with h|h;rw[ak h];exact kF r o;simp[cD.own,g] at h
theorem CK {M:Mem} {s:Option Nat} {B:bE} (A:Sees B ρ (dt w0.w.heap.size M s w')) {l:Bool} (z:(match l with|true=>o5|false=>σ.B)=B) :
  ∀ {c:List cU} {d:List TV} {ys:HO c} {f:List Prop} {g:List Value},dA c=0->iP l σ.B c d=some (ys,f)->(∀ p∈f,p)->eP ρ d g->e8 w0.w.heap.size M s w' c ys g:=by
 intro c;induction c with
 | nil=>intro d ys f g _ h _ j;cases d with
  | nil=>exact j
  | cons _ _=>simp[iP] at h
 | cons o c D=>intro d ys f g i h m j;cases d with
  | nil=>simp[iP] at h
  | cons x d =>
   cases o with
   | own e=>simp[dA] at i
   | box e=>simp[dA] at i
   | val G =>simp only[iP] at h;split at h;rename_i y p r;split at h;rename_i F E C;simp only[aE,aL] at h;obtain⟨rfl,rfl⟩:=h;obtain⟨v,k,e,t,u⟩:=j;simp only[Ap,z] at r;exact⟨v,k,e,wx A r (fun p b=>m p (gK _ b)) t,D i C (fun p b=>m p (hV _ b)) u⟩;simp at h;simp at h
theorem W2 {e:Kd} {A:Bool} {x:TV} {y:List (aH e)} {u:List Prop} {v:Value} (C:cR w0 n σ.S σ.B ρ a w') (h:Ap A σ.B (.own e) x=some (y,u)) (E:∀ p∈u,p) (F:x.rel ρ v) :
  (y=[]/\v=.slice none 0 0)\/∃ b o f n l,(∀ l,ρ.M b≠some l)/\w0.a6 b/\v=.slice (some ⟨b,o,none⟩) y.length f/\y.length<=f/\(o=0\/f=0)/\o+f*width e<=n/\ca w' b n l/\dX (Rd ρ.M e) y l:=by
 simp only[Ap] at h;split at h
 ·rename_i id len c;split at h
  ·rename_i d H D;have t:∀ {y:List (aH e)},(∀ l,az ρ (d::H) l->y.length=len/\c=width e/\0+0*c+len*c<=l.length/\dX (Rd ρ.M e) y ((l.drop (0+0*c)).take (len*c)))->(len=0->y=[]) ->
     (y=[]/\v=.slice none 0 0)\/∃ b o f n l,(∀ l,ρ.M b≠some l)/\w0.a6 b/\v=.slice (some ⟨b,o,none⟩) y.length f/\y.length<=f/\(o=0\/f=0)/\o+f*width e<=n/\ca w' b n l/\dX (Rd ρ.M e) y l:=by
    intro y L I;rcases nW F with ⟨i,ev⟩|⟨b,o,f,w,i,A,K,ev⟩;exact .inl ⟨I i,ev⟩;obtain⟨l,k,z⟩:=C.blks _ _ D aw b w;obtain⟨N,O,Q,T⟩:=L l z;subst N O;refine .inr ⟨b,o,f,_,_,fun l m=>(C.mem b l m).1 _ _ D aw w,(C.bound _ _ w).1,ev,i,by simpa using A,K,?_,T⟩;simp only[jm,bO,gL] at Q ⊢;have j:=k;rw[<- dO (y.length*width e) l] at j;exact j.pre
   split at h;rename_i U p g;simp only[aE,aL] at h;obtain⟨rfl,rfl⟩:=h;refine t (fun l i=>xF g E i) (fun m=>?_);subst m;unfold uX at g;split at g;split at g;simp only[aE,aL] at g;rw[<- g.1];simp;simp at g;simp at g;refine t (fun l i=>xE (R:=Rd ρ.M e) (fun _ _=>b6) (fun G x u r l=>ij (mh ρ) e G x u r l) h E i) (fun m=>?_);subst m;unfold uW at h;split at h;split at h;rename_i s;simp only[pN,aE,aL] at h s;rw[<- h.1,<- s.1];simp at h;simp at h
  simp at h
 simp only[aE,aL] at h;obtain⟨rfl,rfl⟩:=h;exact .inl ⟨rfl,cc (ρ:=ρ) F⟩;simp at h
theorem Mt {S:cJ} {B:bE} {j:Kd} {w:Bool} {x:TV} {y:aH j} {s:List Prop} {v:Value} (r:cR w0 n S B ρ a w') (h:Ap w B (.box j) x=some (y,s)) (A:∀ p∈s,p) (D:x.rel ρ v) :
  ∃ i k b m l,B i=some k/\k≠[]/\ρ i=some b/\(∀ l,ρ.M b≠some l)/\v=.pointer (some ⟨b,0,none⟩)/\ca w' b m l/\Rd ρ.M j y l:=by
 simp only[Ap] at h;split at h;rename_i id;split at h;rename_i d G e;split at h;rename_i z q C;simp only[aE,aL] at h;obtain⟨rfl,rfl⟩:=h;obtain⟨b,f,ev⟩:=D;obtain⟨l,c,t⟩:=r.blks _ _ e aw b f;obtain⟨H,F,o,E,g⟩:=ij (mh ρ) _ _ _ _ _ _ C A t;have g:F=[]:=g;subst g;rw[bw] at o;subst o;exact⟨id,_,b,_,l,e,aw,f,fun l u=>(r.mem b l u).1 _ _ e aw f,by simpa using ev,c,E⟩;simp at h;simp at h;simp at h
theorem T2 {M:Mem} (C:cR w0 n σ.S σ.B ρ a w') (F:w0.ids=[]) (K:w0.M=M) {U:Bool} :
  ∀ {f:List cU} {s:List TV} {ys:HO f} {t:List Prop} {u:List Value},dA f<=1->(U=false->dA f=0)->iP U σ.B f s=some (ys,t)->(∀ p∈t,p)->eP ρ s u->∃ r,(∀ b,r=some b->∀ l,ρ.M b≠some l)/\e8 w0.w.heap.size M r w' f ys u:=by
 intro f s ys t u H T h I G;cases U with
 | false=>exact⟨none,(fun b h=>(nomatch h)),CK (W0 C F K) rfl (T rfl) h I G⟩
 | true =>
  -- x0 x2 block
  have main:∀ {f:List cU} {s:List TV} {ys:HO f} {t:List Prop} {u:List Value},dA f<=1->iP true σ.B f s=some (ys,t)->(∀ p∈t,p)->eP ρ s u ->
    ∃ r,(∀ b,r=some b->∀ l,ρ.M b≠some l)/\(∀ c,(∀ b,c=some b->∀ l,ρ.M b≠some l)->(r=none\/c=r)->e8 w0.w.heap.size M c w' f ys u):=by
   intro f;induction f with
   | nil=>intro s ys t u _ h _ G;cases s with
    | nil=>exact⟨none,(fun b h=>(nomatch h)),fun _ _ _=>G⟩
    | cons _ _=>simp[iP] at h
   | cons o f ih=>intro s ys t u H h I G;cases s with
    | nil=>simp[iP] at h
    | cons x s =>
     simp only[iP] at h;split at h
     ·rename_i y p W;split at h
      ·rename_i zs qs X;simp only[aE,aL] at h;obtain⟨rfl,rfl⟩:=h;obtain⟨v,j,e,Y,Z⟩:=G;have z:∀ q∈p,q:=fun q V=>I q (gK _ V);have A:∀ q∈qs,q:=fun q V=>I q (hV _ V);have D:∀ c,(∀ b,c=some b->∀ l,ρ.M b≠some l)->Sees o5 ρ (dt w0.w.heap.size M c w'):=fun c d=>⟨Ao C F K d,fun _ _ _ h=>by simp[o5] at h⟩;cases o with
       | val κ =>obtain⟨r,g1,g2⟩:=ih (ys:=zs) H X A Z;refine⟨r,g1,fun c d hor=>⟨v,j,e,?_,g2 c d hor⟩⟩;exact wx (D c d) W z Y
       | own e0 =>
        have E:dA f=0:=by simp[dA] at H;omega
        have g:∀ c,(∀ b,c=some b->∀ l,ρ.M b≠some l)->e8 w0.w.heap.size M c w' f zs j:=fun c d=>CK (D c d) rfl E X A Z;rcases W2 C W z Y with ⟨g1,g2⟩|⟨b,o,L,nn,l,g1,g2,N,g4,g5,g6,O,Q⟩;exact⟨none,(fun b h=>(nomatch h)),fun c d _=>⟨v,j,e,.inl ⟨g1,g2⟩,g c d⟩⟩
        ·have R:w0.w.heap.size<=b:=by
          rcases g2 with h|h;exact h;simp[cD.own,F] at h
         refine⟨some b,fun b' k=>by simp at k;subst k;exact g1,fun c d hor=>⟨v,j,e,?_,g c d⟩⟩;rcases hor with hor|hor;cases hor;refine .inr ⟨b,o,L,nn,l,hor,R,N,g4,g5,g6,O,ee (fun _ _=>dd (Ao C F K d)) Q⟩
       | box κ =>
        have E:dA f=0:=by simp[dA] at H;omega
        have g:∀ c,(∀ b,c=some b->∀ l,ρ.M b≠some l)->e8 w0.w.heap.size M c w' f zs j:=fun c d=>CK (D c d) rfl E X A Z;obtain⟨i,cs,b,m,l,hB,x1,hb,g1,N,O,Q⟩:=Mt C W z Y;have R:w0.w.heap.size<=b:=by rcases (C.bound _ _ hb).1 with h|h;exact h;simp[cD.own,F] at h
        refine⟨some b,fun b' k=>by simp at k;subst k;exact g1,fun c d hor=>⟨v,j,e,?_,g c d⟩⟩;rcases hor with hor|hor;cases hor;exact⟨b,m,l,hor,R,N,O,dd (Ao C F K d) Q⟩
      simp at h
     simp at h
  obtain⟨r,g1,g2⟩:=main H h I G;exact⟨r,g1,g2 r g1 (.inr rfl)⟩
theorem EZ {M:Mem} {b:List cU} {i:HO b} {g:SV} {v:Value} (q:cR w0 n σ.S σ.B ρ a w') (m:w0.ids=[]) (k:w0.M=M) (j:dA b<=1) (h:post b i g σ) (s:g.rel ρ v) :
  ∃ c f,v=mS c/\e8 w0.w.heap.size M f w' b i c:=by
 unfold post at h;split at h;·rename_i x u l t;obtain⟨d,rfl⟩:=vA h;obtain⟨c,r,e⟩:=UE s l;obtain⟨f,_,o⟩:=T2 q m k j (fun h=>by unfold lK at h;split at h<;>simp_all) t d r;exact⟨c,f,e,o⟩
 exact h.elim
end
section
variable {P:Program}
theorem Fi {G:fZ} {w:World} {M:Mem} (g:Mem.le M (cb w)) (f:rq G M):Start ⟨w,[],G,M,fun p=>c4 w p.2,0⟩ [] 0 (aC.start M) :=
 ⟨fun id d h=>by simp[cW] at h,fun id j d e b h=>by simp[cW] at h,fun _ _ h=>by simp[aC.start] at h,fun _ h=>by simp at h,fun _ _ h=>by simp[aC.start] at h,
  fun b l c=>⟨fun i d h=>by simp[cW] at h,iE (g b l c)⟩,fun b l c _=>.inr c,f,fun _ h=>by simp at h,Mem.le_refl _⟩
theorem bg {sp:FuncId->Option Spec} (i:aJ P sp) (r:P.follows .mixedOrders=true) {f:FuncId} {fn:Func} (j:enters P f fn) {b:List Kd} {c:List cU} {G:fZ} {pre:HL b->Prop} {F:HL b->HO c}
  (s:b.length<=fn.ntmps) (l:dA c<=1)
  (h:∀ (w:World) (M:Mem) (d:HL b),Hi b d->pre d->RX ⟨P,sp,⟨w,[],G,M,fun p=>c4 w p.2,0⟩⟩ fn (mF b d) [] 0 (post c (F d))):aO P f b c G pre F:=by
 intro w M us d q o g u;refine .inl ⟨j.2 _ _,?_⟩;refine (VZ (E:=⟨P,sp,⟨w,[],G,M,fun p=>c4 w p.2,0⟩⟩) i r j.1 (Fi q o) (rB (ρ:=aC.start M) g) (by rw[uP];exact s) (h w M d (xl g) u)).mono ?_;rintro e w' ⟨v,A,σ,ρ,n,a,rfl,y,x,k⟩;obtain⟨vs,z,e,t⟩:=EZ k rfl rfl l x y;exact⟨v,rfl,vs,z,e,t,k.below.below rfl⟩
theorem bL {sp:FuncId->Option Spec} {f:FuncId} {fn:Func} (j:enters P f fn) {b:List Kd} {d:List cU} {G:fZ} {pre:HL b->Prop} {F:HL b->HO d}
  (q:b.length<=fn.ntmps) (l:dA d<=1) (g:fn.body.isSome=true)
  (h:∀ (w:World) (M:Mem) (xs:HL b),Hi b xs->pre xs->A7 ⟨P,sp,⟨w,[],G,M,fun p=>c4 w p.2,0⟩⟩ fn (mF b xs) [] 0 (post d (F xs))):aO P f b d G pre F:=by
 intro w M C xs o m i s;refine .inl ⟨j.2 _ _,?_⟩;refine (B8 (E:=⟨P,sp,⟨w,[],G,M,fun p=>c4 w p.2,0⟩⟩) j.1 g (Fi o m) (rB (ρ:=aC.start M) i) (by rw[uP];exact q) (h w M xs (xl i) s)).mono ?_;rintro e w' ⟨v,A,σ,ρ,n,a,rfl,x,u,k⟩;obtain⟨z,y,e,r⟩:=EZ k rfl rfl l u x;exact⟨v,rfl,z,y,e,r,k.below.below rfl⟩
end
def aU:List (Nat × Spec)->FuncId->Option Spec
 | [],_=>none
 | (g,F)::l,f=>match beq g f with
  | true=>some F
  | false=>aU l f
theorem bD {P:Program}:aJ P (aU []):=by intro f F h;simp[aU] at h
theorem aM {P:Program} {g:Nat} {F:Spec} {l:List (Nat × Spec)} (h:nN P g F) (e:aJ P (aU l)):aJ P (aU ((g,F)::l)):=by intro f G b;simp only[aU] at b;split at b;rename_i d;have:=beq_true d;subst this;simp at b;subst b;exact h;exact e f G b
theorem Tv {K g:Prop}:∀ {l m:List SV},iy l m K->(K->g)->K/\iy l m g:=by
 intro l;induction l with
 | nil=>intro m h a;cases m with
  | nil=>exact⟨h,a h⟩
  | cons y m=>simp[iy] at h
 | cons x l f=>intro m h a;cases m with
  | nil=>simp[iy] at h
  | cons y m =>
   cases y with
   | junk=>exact f (m:=m) h a
   | is t=>obtain⟨b,c⟩:=h;obtain⟨d,e⟩:=f c a;exact⟨d,b,e⟩
   | tup t=>obtain⟨b,c⟩:=h;obtain⟨d,e⟩:=f c a;exact⟨d,b,e⟩
   | undef=>obtain⟨b,c⟩:=h;obtain⟨d,e⟩:=f c a;exact⟨d,b,e⟩
theorem Wt {B:bE} {K b:Prop}:∀ {l:List (Nat × List Cell)},rK B l K->(K->b)->rK B l b:=by
 intro l;induction l with
 | nil=>intro h a;exact a h
 | cons p l c =>intro h a;obtain⟨i,d⟩:=p;simp only[rK] at h ⊢;split at h;exact⟨h.1,c h.2 a⟩;exact h.elim
theorem Cj {W:cD} {a b:St} {K K':Prop} (h:a.le W b K) (e:K->K'):K/\a.le W b K':=by unfold St.le at h ⊢;unfold Ga at h ⊢;split at h;have c:=(vN h).1;have d:=(yc c).1;exact⟨d,(Tv h (fun g=>Wt g e)).2⟩;exact h.elim
section
variable {E:Env} {N:Nat} {n r:St->Prop} {x:Nat->St->Prop}
theorem fP (f:aJ E.P E.sp) (z:E.P.follows .mixedOrders=true) {α:Type} {l:List Code} {c:Code} {o:St} (I:α->St) (G:Nat->α) (m:Nat) (d:α->α) (out:α->St)
  (y:l.head?=some c) (w:dq c=true) (q:o.le E.w0 (I (G 0)) True) (A:∀ k,k<m->d (G k)=G (k+1))
  (u:∀ k,k<=m->VC E (aV c) (I (G k)) (fun a=>a.le E.w0 (I (d (G k))) (k<m)) r (fun i a=>match beq i (b7 c) with|true=>a.le E.w0 (out (G k)) (k=m)|false=>x i a))
  (t:Tr E N l.tail (out (G m)) n r x):Tr E N l o n r x:=by
 refine IH (α:=Nat) (fun k=>I (G k)) (fun k=>k<=m) (fun k=>m-k) (fun k=>out (G k)) (fun k=>k=m) 0 y w (Cj q (fun _=>a8 _)).2 (fun k e=>?_) (fun k e=>by subst e;exact t);refine zq (bJ f z _ _ (u k e)) (fun a b=>?_) (fun i a b=>?_);obtain⟨s,g⟩:=Cj b (K':=k+1<=m/\m-(k+1)<m-k) (fun h=>⟨h,aa⟩);rw[A k s] at g;exact⟨k+1,g⟩
 ·cases j:beq i (b7 c) with
  | true=>rw[j] at b;exact⟨k,b⟩
  | false=>rw[j] at b;exact b
theorem kk {b:St} (h:n b):Tr E N [] b n r x:=fun a w _ d e _ _=>e b a w d h
theorem xL {α:Type} {l:List Code} {c:Code} {j:St} (I:α->St) (G:Nat->α) (m:Nat) (d:α->α) (out:α->St)
  (w:l.head?=some c) (u:dq c=true) (o:j.le E.w0 (I (G 0)) True) (y:∀ k,k<m->d (G k)=G (k+1))
  (t:∀ k,k<=m->Tr E N (aV c) (I (G k)) (fun a=>a.le E.w0 (I (d (G k))) (k<m)) r (fun i a=>match beq i (b7 c) with|true=>a.le E.w0 (out (G k)) (k=m)|false=>x i a))
  (s:Tr E N l.tail (out (G m)) n r x):Tr E N l j n r x:=by
 refine IH (α:=Nat) (fun k=>I (G k)) (fun k=>k<=m) (fun k=>m-k) (fun k=>out (G k)) (fun k=>k=m) 0 w u (Cj o (fun _=>a8 _)).2 (fun k e=>?_) (fun k e=>by subst e;exact s);refine zq (t k e) (fun a b=>?_) (fun i a b=>?_);obtain⟨q,f⟩:=Cj b (K':=k+1<=m/\m-(k+1)<m-k) (fun h=>⟨h,aa⟩);rw[y k q] at f;exact⟨k+1,f⟩
 ·cases g:beq i (b7 c) with
  | true=>rw[g] at b;exact⟨k,b⟩
  | false=>rw[g] at b;exact b
end
theorem dec_lt {a b:Int} (h:decide (a<b)=true):a<b:=Odt h
theorem bX {a b:Int} (h:decide (a<b)=false):b<=a:=by have:=Odf h;omega
theorem ba {a:Int} (d : -9223372036854775808<=a) (f:a<9223372036854775808):IntKind.i64.wrap a=a:=by
 have e:IntKind.i64.wrap a=if (9223372036854775808:Int)<=a%18446744073709551616 then a%18446744073709551616-18446744073709551616 else a%18446744073709551616:=by simp[IntKind.wrap,IntKind.signed,IntKind.bits]
 rw[e];split<;>omega
theorem aS {k:Nat} (h:k<9223372036854775807):IntKind.i64.wrap ((k:Int)+1)=((k+1:Nat):Int):=by rw[ba aa aa];omega
def jP (a b i:Nat):Nat:=match beq i a with
 | true=>b
 | false=>match beq i b with
  | true=>a
  | false=>i
theorem CS (a b i:Nat):jP a b i=if i=a then b else if i=b then a else i:=by
 unfold jP;cases c:beq i a with
 | true=>rw[ak (beq_true c)]
 | false =>
  have c:i≠a:=fun e=>by subst e;simp at c
  rw[ai c];cases d:beq i b with
  | true=>rw[ak (beq_true d)]
  | false =>
   have d:i≠b:=fun e=>by subst e;simp at d
   rw[ai d]
theorem rk (a b i:Nat):jP a b (jP a b i)=i:=by simp only[CS];by_cases d:i=a;subst d;by_cases c:b=i<;>simp[c];by_cases c:i=b;subst c;simp[d];simp[d,c]
def Cell.sw (a b:Nat):Cell->Cell
 | .ptr i e=>.ptr (jP a b i) e
 | .pe i d j c=>.pe (jP a b i) d j c
 | .sl i d e len c=>.sl (jP a b i) d e len c
 | .clo f l=>.clo f (l.map (jP a b))
 | c=>c
def TV.sw (a b:Nat):TV->TV
 | .one c=>.one (c.sw a b)
 | .agg d=>.agg (d.map (Cell.sw a b))
def SV.sw (a b:Nat):SV->SV
 | .is x=>.is (x.sw a b)
 | .tup l=>.tup (l.map (TV.sw a b))
 | s=>s
def St.sw (c:St) (a b:Nat):St:=⟨c.slots.map (SV.sw a b),c.blks.map (fun p=>(jP a b p.1,p.2.map (Cell.sw a b))),c.next⟩
def St.uO (a:St):List (Nat × Nat)->St
 | []=>a
 | p::l=>(a.sw p.1 p.2).uO l
def aC.sw (c:aC) (a b:Nat):aC:=⟨fun i=>c (jP a b i),fun i=>c.n (jP a b i),c.M⟩
theorem aC.Km (c:aC) (a b i:Nat):(c.sw a b) (jP a b i)=c i:=by simp[aC.sw,rk]
theorem aC.ajp (c:aC) (a b i:Nat):(c.sw a b).n (jP a b i)=c.n i:=by simp[aC.sw,rk]
theorem Qj {d:aC} {a b:Nat}:∀ {l:List Nat} {c:List Value},iq d l c->iq (d.sw a b) (l.map (jP a b)) c:=by
 intro l;induction l with
 | nil=>intro c h;exact h
 | cons i l j=>intro c ⟨x,k,e,f,g⟩;exact⟨x,k,by rw[aC.Km];exact e,j f,g⟩
theorem Cell.ux {w:aC} {a b:Nat} {c:Cell} {u:List Value} (h:c.rel w u):(c.sw a b).rel (w.sw a b) u:=by
 cases c with
 | ptr i q=>obtain⟨x,d,g⟩:=h;exact⟨x,by rw[aC.Km];exact d,g⟩
 | pe i m j c=>obtain⟨x,d,g⟩:=h;exact⟨x,by rw[aC.Km];exact d,g⟩
 | sl i m q len c =>rcases h with h|⟨x,o,t,d,g,y,z,A⟩;exact .inl h;exact .inr ⟨x,o,t,by rw[aC.Km];exact d,g,y,by rw[aC.ajp];exact z,A⟩
 | v x=>exact h
 | T=>exact h
 | F=>exact h
 | ints k n s=>exact h
 | row e n s=>exact h
 | ro e s=>exact h
 | rp e s i q=>exact h
 | fv e x=>exact h
 | clo f l=>obtain⟨C,d,g⟩:=h;exact⟨C,Qj d,g⟩
 | rn e s=>exact h
 | junk=>exact h
theorem vy {g:aC} {a b:Nat} {d:List Cell}:∀ {f:List Value},az g d f->az (g.sw a b) (d.map (Cell.sw a b)) f:=by
 induction d with
 | nil=>intro f h;exact h
 | cons c d k=>intro f ⟨l,m,e,i,j⟩;exact⟨l,m,e,Cell.ux i,k j⟩
theorem TV.ux {d:aC} {a b:Nat} {x:TV} {v:Value} (h:x.rel d v):(x.sw a b).rel (d.sw a b) v:=by
 cases x with
 | one c=>exact Cell.ux h
 | agg g=>obtain⟨l,e,f⟩:=h;exact⟨l,e,vy f⟩
theorem RU {d:aC} {a b:Nat} {l:List TV}:∀ {c:List Value},eP d l c->eP (d.sw a b) (l.map (TV.sw a b)) c:=by
 induction l with
 | nil=>intro c h;exact h
 | cons t k i=>intro c ⟨y,j,e,f,g⟩;exact⟨y,j,e,TV.ux f,i g⟩
theorem SV.ux {c:aC} {a b:Nat} {x:SV} {v:Value} (h:x.rel c v):(x.sw a b).rel (c.sw a b) v:=by
 cases x with
 | is x=>exact TV.ux h
 | tup l=>obtain⟨f,e,d⟩:=h;exact⟨f,e,RU d⟩
 | undef=>exact h
 | junk=>trivial
theorem LK (a b:Nat):∀ (l:List (Nat × List Cell)) (i:Nat),cW (l.map (fun p=>(jP a b p.1,p.2.map (Cell.sw a b)))) i=(cW l (jP a b i)).map (List.map (Cell.sw a b)):=by
 intro l;induction l with
 | nil=>intro i;rfl
 | cons p l c =>
  intro i;obtain⟨j,d⟩:=p;simp only[eI,cW];have e:beq (jP a b j) i=beq j (jP a b i):=by rw[nr];constructor;intro h;have:=beq_true h;rw[<- this,rk];exact gi _;intro h;have:=beq_true h;rw[this,rk];exact gi _
  rw[e];cases beq j (jP a b i) with
  | true=>rfl
  | false=>exact c i
def MK (W:cD) (c a b:Nat):Bool:=blt a c&&blt b c&&(ble W.top a&&ble W.top b)
theorem Holds.sw {W:cD} {n:Nat} {d:St} {I:Act} {w:World} {a b:Nat} (h:Holds W n d I w) (u:MK W d.next a b=true):Holds W n (d.sw a b) I w:=by
 obtain⟨V,H,c,U⟩:=h;simp only[MK,aX] at u;obtain⟨⟨K,L⟩,o⟩:=u;have K:=fG K;have L:=fG L;have y:∀ i f,(d.sw a b).B i=some f->∃ g,d.B (jP a b i)=some g/\f=g.map (Cell.sw a b):=by intro i f h;have:cW (d.blks.map (fun p=>(jP a b p.1,p.2.map (Cell.sw a b)))) i=some f:=h;rw[LK] at this;obtain⟨g,k,m⟩:=Option.map_eq_some_iff.1 this;exact⟨g,k,m.symm⟩
 refine⟨by simpa[St.sw] using V,H.sw a b,⟨c.defers,c.size,?_,c.below,?_,?_,?_,?_,?_,c.old,c.glob,c.tops,c.memle⟩,?_⟩
 ·intro t;have:=SV.ux (a:=a) (b:=b) (c.slots t);have e:(d.sw a b).S t=(d.S t).sw a b:=by
   show (d.slots.map (SV.sw a b)).getD t .junk=(d.slots.getD t .junk).sw a b;rw[a2,a2,dy];cases d.slots[t]? <;> rfl
  rw[e];exact this
 intro i f C q x s;obtain⟨g,k,m⟩:=y i f C;subst m;obtain⟨l,g1,g2⟩:=c.blks _ g k (by intro e;subst e;exact q rfl) x s;exact⟨l,g1,vy g2⟩
 ·intro i j f z x k m P Q R T;obtain⟨g,F,G⟩:=y i f k;obtain⟨A,X,Y⟩:=y j z P;have:=c.inj _ _ g A x F (by intro e;subst e;subst G;exact m rfl) X (by intro e;subst e;subst Y;exact Q rfl) R T;have:=congrArg (jP a b) this
  rwa [rk,rk] at this
 intro i x s;exact c.bound _ x s
 ·intro p O;have Z:=c.tops p O;have k:p.1≠a:=fun e=>by have:=gJ o.1;omega
  have m:p.1≠b:=fun e=>by have:=gJ o.2;omega
  have:jP a b p.1=p.1:=by rw[CS,ai k,ai m]
  show H (jP a b p.1)=_/\H.n (jP a b p.1)=_;rw[this];exact c.init p O
 intro x l s;obtain⟨k,m⟩:=c.mem x l s;refine⟨fun i f C q D=>?_,m⟩;obtain⟨g,F,G⟩:=y i f C;exact k _ g F (by intro e;subst e;subst G;exact q rfl) D;intro i x s;have:=U _ x s;show i<d.next;rw[CS] at this;split at this;omega;split at this<;>omega
def DI (W:cD) (a:Nat):List (Nat × Nat)->Bool
 | []=>true
 | p::l=>MK W a p.1 p.2&&DI W a l
theorem Holds.uO {W:cD} {n:Nat} {c:Act} {w:World}:∀ {l:List (Nat × Nat)} {b:St},Holds W n b c w->DI W b.next l=true->Holds W n (b.uO l) c w:=by
 intro l;induction l with
 | nil=>intro b h _;exact h
 | cons p l d =>intro b h a;simp only[DI,aX] at a;exact d (h.sw a.1) a.2
def St.sr (a:St) (W:cD) (sw:List (Nat × Nat)) (b:St) (K:Prop):Prop:=Ga (DI W a.next sw) ((a.uO sw).le W b K)
theorem LG {b c:St} {K:Prop} {W:cD} {sw:List (Nat × Nat)} {n:Nat} {a:Act} {w:World} (h:b.sr W sw c K) (f:Holds W n b a w):K/\Holds W n c a w:=by unfold St.sr at h;obtain⟨d,e⟩:=qx h;exact lr e (f.uO d)
theorem Yy {W:cD} {a b:St} {sw:List (Nat × Nat)} {K K':Prop} (h:a.sr W sw b K) (g:K->K'):K/\a.sr W sw b K':=by unfold St.sr at h ⊢;obtain⟨c,d⟩:=qx h;obtain⟨e,f⟩:=Cj d g;rw[c];exact⟨e,f⟩
section
variable {E:Env} {N:Nat} {n r:St->Prop} {x:Nat->St->Prop}
theorem MX {α:Type} {l:List Code} {c:Code} {T:St} (sw:List (Nat × Nat)) (I:α->St) (J:α->Prop) (s:α->Nat) (out:α->St) (K:α->Prop) (t:α)
  (F:l.head?=some c) (z:dq c=true) (U:T.le E.w0 (I t) (J t))
  (y:∀ g,J g->Tr E N (aV c) (I g) (fun f=>∃ j,f.sr E.w0 sw (I j) (J j/\s j<s g)) r (fun i f=>match beq i (b7 c) with|true=>∃ j,f.le E.w0 (out j) (K j)|false=>x i f))
  (Y:∀ g,K g->Tr E N l.tail (out g) n r x):Tr E N l T n r x:=by
 intro a w Q hh hn L O;cases l with
 | nil=>simp at F
 | cons d l =>
  simp at F;subst F;unfold dq at z;split at z
  ·rename_i id b;obtain⟨D,A⟩:=lr U hh;refine wp_block ?_;refine wp_loop_ghost (fun m a w=>∃ g,s g=m/\J g/\Holds E.w0 N (I g) a w) (s t) ⟨t,rfl,D,A⟩ ?_;rintro m a w ⟨g,rfl,hj,hg⟩;have H:=y g hj a w (Exit.then (fun o q=>∃ R,R<s g/\∃ g,s g=R/\J g/\Holds E.w0 N (I g) o q) (Exit.inBlock id (Exit.then (kA E.P l Q) Q))) hg ?_ ?_ ?_;have:=jR b [] _ a w (by simpa[aV] using H);refine wp_mono this ?_;intro e o q Z;cases e<;>exact Z;rintro f o q h ⟨j,k⟩;obtain⟨⟨V,W⟩,X⟩:=LG k h;exact⟨s j,W,j,rfl,V,X⟩;intro f o q h k;exact L f o q h k
   ·intro i f o q h k;show Exit.inBlock id (Exit.then (kA E.P l Q) Q) (.exit i) o q;simp only[Exit.inBlock];by_cases C:i=id;subst C;rw[ak rfl];simp only[b7,gi] at k;obtain⟨j,k⟩:=k;obtain⟨u,G⟩:=lr k h;exact Y j u o q Q G hn L O
    ·rw[ai C];have:beq i id=false:=by
      cases y:beq i id with
      | false=>rfl
      | true=>exact absurd (beq_true y) C
     simp only[b7,this] at k;exact O i f o q h k
  cases z
theorem RQ {α:Type} {l:List Code} {c:Code} {j:St} (sw:List (Nat × Nat)) (I:α->St) (G:Nat->α) (m:Nat) (d:α->α) (out:α->St)
  (w:l.head?=some c) (u:dq c=true) (o:j.le E.w0 (I (G 0)) True) (y:∀ k,k<m->d (G k)=G (k+1))
  (t:∀ k,k<=m->Tr E N (aV c) (I (G k)) (fun a=>a.sr E.w0 sw (I (d (G k))) (k<m)) r (fun i a=>match beq i (b7 c) with|true=>a.le E.w0 (out (G k)) (k=m)|false=>x i a))
  (s:Tr E N l.tail (out (G m)) n r x):Tr E N l j n r x:=by
 refine MX (α:=Nat) sw (fun k=>I (G k)) (fun k=>k<=m) (fun k=>m-k) (fun k=>out (G k)) (fun k=>k=m) 0 w u (Cj o (fun _=>a8 _)).2 (fun k e=>?_) (fun k e=>by subst e;exact s);refine zq (t k e) (fun a b=>?_) (fun i a b=>?_);obtain⟨q,f⟩:=Yy b (K':=k+1<=m/\m-(k+1)<m-k) (fun h=>⟨h,aa⟩);rw[y k q] at f;exact⟨k+1,f⟩
 ·cases g:beq i (b7 c) with
  | true=>rw[g] at b;exact⟨k,b⟩
  | false=>rw[g] at b;exact b
theorem UJ (e:aJ E.P E.sp) (t:E.P.follows .mixedOrders=true) {d:Type} {l:List Code} {c:Code} {f:St} (sw:List (Nat × Nat)) (I:d->St) (G:Nat->d) (m:Nat) (b:d->d) (out:d->St)
  (s:l.head?=some c) (o:dq c=true) (g:f.le E.w0 (I (G 0)) True) (u:∀ k,k<m->b (G k)=G (k+1))
  (j:∀ k,k<=m->VC E (aV c) (I (G k)) (fun a=>a.sr E.w0 sw (I (b (G k))) (k<m)) r (fun i a=>match beq i (b7 c) with|true=>a.le E.w0 (out (G k)) (k=m)|false=>x i a))
  (h:Tr E N l.tail (out (G m)) n r x):Tr E N l f n r x :=
 RQ sw I G m b out s o g u (fun k q=>bJ e t _ _ (j k q)) h
theorem RP {α:Type} {l:List Code} {c:Code} {q:St} (sw:List (Nat × Nat)) (I:α->St) (G:Nat->α) (J:Nat->Prop) (m:Nat) (f:α->α) (out:α->St)
  (A:l.head?=some c) (y:dq c=true) (s:q.le E.w0 (I (G 0)) True) (t:J 0) (C:∀ k,k<m->J k->J (k+1)->f (G k)=G (k+1))
  (w:∀ k,k<=m->J k->Tr E N (aV c) (I (G k)) (fun a=>a.sr E.w0 sw (I (f (G k))) (k<m/\J (k+1))) r (fun i a=>match beq i (b7 c) with|true=>a.le E.w0 (out (G k)) (k=m)|false=>x i a))
  (u:J m->Tr E N l.tail (out (G m)) n r x):Tr E N l q n r x:=by
 refine MX (α:=Nat) sw (fun k=>I (G k)) (fun k=>k<=m/\J k) (fun k=>m-k) (fun k=>out (G k)) (fun k=>k=m/\J k) 0 A y (Cj s (fun _=>⟨a8 _,t⟩)).2 (fun k d=>?_) (fun k d=>by obtain⟨rfl,z⟩:=d;exact u z);refine zq (w k d.1 d.2) (fun a b=>?_) (fun i a b=>?_);obtain⟨g,j⟩:=Yy b (K':=(k+1<=m/\J (k+1))/\m-(k+1)<m-k) (fun h=>⟨h,aa⟩);rw[C k g.1 d.2 g.2] at j;exact⟨k+1,j⟩
 ·cases o:beq i (b7 c) with
  | true=>rw[o] at b;exact⟨k,(Cj b (fun e=>⟨e,d.2⟩)).2⟩
  | false=>rw[o] at b;exact b
theorem JR (e:aJ E.P E.sp) (w:E.P.follows .mixedOrders=true) {d:Type} {l:List Code} {c:Code} {f:St} (sw:List (Nat × Nat)) (I:d->St) (G:Nat->d) (J:Nat->Prop) (m:Nat) (b:d->d) (out:d->St)
  (u:l.head?=some c) (q:dq c=true) (g:f.le E.w0 (I (G 0)) True) (h:J 0) (y:∀ k,k<m->J k->J (k+1)->b (G k)=G (k+1))
  (o:∀ k,k<=m->J k->VC E (aV c) (I (G k)) (fun a=>a.sr E.w0 sw (I (b (G k))) (k<m/\J (k+1))) r (fun i a=>match beq i (b7 c) with|true=>a.le E.w0 (out (G k)) (k=m)|false=>x i a))
  (j:J m->Tr E N l.tail (out (G m)) n r x):Tr E N l f n r x :=
 RP sw I G J m b out u q g h y (fun k t s=>bJ e w _ _ (o k t s)) j
end
def eR {a:Type} (x:a):a:=Classical.choose (⟨x,rfl⟩:∃ y,y=x)
theorem bm {b:Type} (x:b):eR x=x:=Classical.choose_spec (⟨x,rfl⟩:∃ y,y=x)
theorem aO.out {P:Program} {f:FuncId} {d:List Kd} {a:List cU} {G:fZ} {pre:HL d->Prop} {A B:HL d->HO a} (h:aO P f d a G pre A) (e:∀ x,B x=A x):aO P f d a G pre B:=by have:B=A:=funext e;rw[this];exact h
def ai7 (a:Kd) (id:Nat) (c:St):Option (aH a):=match c.B id with
 | some b=>match fx o5 a b with
  | some (x,_,_)=>some x
  | none=>none
 | none=>none
def ajd (a:Kd) (t:Nat) (b:St):Option (aH a):=match b.S t with
 | .is x=>match fx o5 a x.cells with
  | some (x,_,_)=>some x
  | none=>none
 | _=>none
def ajc (a:Kd) (id:Nat) (d:St):Option (List (aH a)):=match d.B id with
 | some [c]=>match k8 c with
  | some ⟨e,_,b⟩=>match e.eq? a with
   | some ⟨h⟩=>some (om h b)
   | none=>none
  | none=>none
 | none=>some []
 | _=>none
def aja (id:Nat) (a:St):Option Nat:=match a.B id with
 | some [c]=>match k8 c with
  | some ⟨_,n,_⟩=>some n
  | none=>none
 | _=>none
def ai9 (t:Nat) (a:St):Option Nat:=match a.S t with
 | .is (.one (.sl _ _ _ n _))=>some n
 | .is (.one (.v (.slice none 0 0)))=>some 0
 | _=>none
def ajb (a:Kd) (t:Nat) (c:St):Option (List (aH a)):=match c.S t with
 | .is (.one (.ro e b))=>match e.eq? a with
  | some ⟨h⟩=>some (om h b)
  | none=>none
 | _=>none
def ai8 (t:Nat) (a:St):Option Bool:=match a.S t with
 | .is (.one (.v (.slice none 0 0)))=>some true
 | .is (.one (.sl _ _ _ _ _))=>some false
 | _=>none
def Mn (t:Nat) (a:St):Nat:=match a.S t with
 | .is (.one (.sl i _ _ _ _))=>i
 | .is (.one (.ptr i _))=>i
 | _=>0
def gO:St->List (Nat × Nat):=fun _=>[]
def Jx {a:Type} (d:a):Option a->a
 | some x=>x
 | none=>d
def p3 (b:Kd) (id:Nat) (d:St):aH b:=Jx (zeroOf b) (ai7 b id d)
def bo (d:Kd) (t:Nat) (e:St):aH d:=Jx (zeroOf d) (ajd d t e)
def cT (d:Kd) (id:Nat) (e:St):List (aH d):=Jx [] (ajc d id e)
def rdN (id:Nat) (a:St):Nat:=Jx 0 (aja id a)
def Pj (t:Nat) (a:St):Bool:=Jx false (ai8 t a)
def na (t:Nat) (a:St):Nat:=Jx 0 (ai9 t a)
def GL (a:Kd) (t:Nat) (b:St):List (aH a):=Jx [] (ajb a t b)
section
variable {E:Env} {N:Nat} {n r:St->Prop} {x:Nat->St->Prop}
theorem jQ (e:aJ E.P E.sp) (A:E.P.follows .mixedOrders=true) {l:List Code} {m:St} {h:Type} (k:Nat) (f:St->h) (o:h->St) (K:h->Prop) (t:VC E (l.take k) m (fun b=>b.le E.w0 (o (f b)) (K (f b))) r x) (u:∀ a,K a->Tr E N (l.drop k) (o a) n r x):Tr E N l m n r x:=by intro a w Q z C i j;rw[<- dO k l];refine zw _ _ a w ?_;refine bJ e A _ _ t a w _ z (fun b q D d s=>?_) i j;obtain⟨y,g⟩:=lr s d;exact u _ y q D Q g C i j
theorem pz {t L:Type} {l:List Code} {c:Code} {W:St} (sw:St->List (Nat × Nat)) (f:St->t) (I:t->St) (J:t->Prop) (s:t->Nat) (R:St->L) (out:L->St) (O:L->Prop) (u:t)
  (G:l.head?=some c) (A:dq c=true) (Y:W.le E.w0 (I u) (J u))
  (z:∀ g,J g->Tr E N (aV c) (I g) (fun h=>h.sr E.w0 (sw h) (I (f (h.uO (sw h)))) (J (f (h.uO (sw h)))/\s (f (h.uO (sw h)))<s g)) r (fun i h=>match beq i (b7 c) with|true=>h.le E.w0 (out (R h)) (O (R h))|false=>x i h))
  (ha:∀ g,O g->Tr E N l.tail (out g) n r x):Tr E N l W n r x:=by
 intro a w Q hh hn T U;cases l with
 | nil=>simp at G
 | cons d l =>
  simp at G;subst G;unfold dq at A;split at A
  ·rename_i id b;obtain⟨F,C⟩:=lr Y hh;refine wp_block ?_;refine wp_loop_ghost (fun m a w=>∃ g,s g=m/\J g/\Holds E.w0 N (I g) a w) (s u) ⟨u,rfl,F,C⟩ ?_;rintro m a w ⟨g,rfl,hj,hg⟩;have K:=z g hj a w (Exit.then (fun k o=>∃ V,V<s g/\∃ g,s g=V/\J g/\Holds E.w0 N (I g) k o) (Exit.inBlock id (Exit.then (kA E.P l Q) Q))) hg ?_ ?_ ?_;have:=jR b [] _ a w (by simpa[aV] using K);refine wp_mono this ?_;intro e k o he;cases e<;>exact he;rintro h k o j q;obtain⟨⟨Z,h2⟩,h3⟩:=LG q j;exact⟨_,h2,_,rfl,Z,h3⟩;intro h k o j q;exact T h k o j q
   ·intro i h k o j q;show Exit.inBlock id (Exit.then (kA E.P l Q) Q) (.exit i) k o;simp only[Exit.inBlock];by_cases D:i=id;subst D;rw[ak rfl];simp only[b7,gi] at q;obtain⟨y,H⟩:=lr q j;exact ha _ y k o Q H hn T U
    ·rw[ai D];have:beq i id=false:=by
      cases z:beq i id with
      | false=>rfl
      | true=>exact absurd (beq_true z) D
     simp only[b7,this] at q;exact U i h k o j q
  cases A
theorem cl (k:aJ E.P E.sp) (C:E.P.follows .mixedOrders=true) {d m:Type} {l:List Code} {c:Code} {q:St} (sw:St->List (Nat × Nat)) (f:St->d) (I:d->St) (J:d->Prop) (o:d->Nat) (h:St->m) (out:m->St) (e:m->Prop) (j:d)
  (A:l.head?=some c) (y:dq c=true) (s:q.le E.w0 (I j) (J j))
  (w:∀ g,J g->VC E (aV c) (I g) (fun b=>b.sr E.w0 (sw b) (I (f (b.uO (sw b)))) (J (f (b.uO (sw b)))/\o (f (b.uO (sw b)))<o g)) r (fun i b=>match beq i (b7 c) with|true=>b.le E.w0 (out (h b)) (e (h b))|false=>x i b))
  (u:∀ g,e g->Tr E N l.tail (out g) n r x):Tr E N l q n r x :=
 pz sw f I J o h out e j A y s (fun g z=>bJ k C _ _ (w g z)) u
end
inductive Hd where
 | ptr
 | sl (n c:Nat)
def Hd.cell (i:Nat):Hd->Cell
 | .ptr=>.ptr i 0
 | .sl n c=>.sl i 0 0 n c
def Hd.val (b N:Nat):Hd->Value->Prop
 | .ptr,u=>u=.pointer (some ⟨b,0,none⟩)
 | .sl n c,u=>∃ d,n<=d/\d*c<=N/\u=.slice (some ⟨b,0,none⟩) n d
def J5 (P:Program) (f:FuncId) (m:Hd) (e:Kd) (c:List Kd) (d:List cU) (G:fZ) (pre:aH e × HL c->Prop) (F:aH e × HL c->aH e × HO d):Prop :=
 ∀ (w:World) (M:Mem) (j:List Value) (g:HL c) (b n:Nat) (l:List Value) (x:aH e) (u:Value),Mem.le M (cb w)->M b=none->rq G M->ui M c g j->ca w b n l->Rd M e x l->pre (x,g)->m.val b n u ->
  nL P f ⟨u::j⟩ w fun v w'=>∃ k i h,v=mS k/\e8 w.heap.size M i w' d (F (x,g)).2 k/\ca w' b n h/\Rd (dt w.heap.size M i w') e (F (x,g)).1 h/\kZ ⟨w,[(0,b)],G,M,fun p=>c4 w p.2,1⟩ w'
abbrev C3 (P:Program) (f:FuncId) (e:Kd) (d:List Kd) (b:List cU) (G:fZ) (pre:aH e × HL d->Prop) (F:aH e × HL d->aH e × HO b):Prop:=J5 P f .ptr e d b G pre F
def Ft (P:Program) (f:FuncId) (e:Kd) (d:List Kd) (b:List cU) (G:fZ) (pre:List (aH e) × HL d->Prop) (F:List (aH e) × HL d->List (aH e) × HO b):Prop :=
 ∀ n,0<n->J5 P f (.sl n (width e)) (.arr n e) d b G pre F
def Eb (i:Nat) (l:List Nat):List Nat:=l.filter fun j => !beq j i
def mM (B:bE) (c:Kd) (b:List cU) (ids:List Nat):List (Nat × List Cell) :=
 match fm c with
 | true=>pG B b ids
 | false=>(ids.filter (isLive B)).map fun i=>(i,[])
def HR (g:Kd) (e:List Kd) (b:List cU) (pre:aH g × HL e->Prop) (F:aH g × HL e->aH g × HO b):Spec:=fun _ id args B =>
 match args with
 | .is (.one (.ptr f 0))::c=>match B f,eA f (gq B c) with
  | some (d::i),false=>match fx (lO (Eb f (gq B args)) B) g (d::i),uQ (lO (Eb f (gq B args)) B) e c with
   | some (x,j,[]),some (h,k)=>some { val:=ym (iR id b (F (x,h)).2),new:=uq id b (F (x,h)).2,wr:=(f,cellsOf g (F (x,h)).1)::mM B g b (Eb f (gq B args)),pre:=j++(k++[pre (x,h)]) }
   | _,_=>none
  | _,_=>none
 | _=>none
def yJ (e:Kd) (f:List Kd) (b:List cU) (pre:List (aH e) × HL f->Prop) (F:List (aH e) × HL f->List (aH e) × HO b):Spec:=fun _ id args B =>
 match args with
 | .is (.one (.sl g 0 0 n c))::d=>match B g,eA g (gq B d),beq c (width e) with
  | some [k],false,true=>match k8 k with
   | some ⟨l,m,i⟩=>match l.eq? e,uQ (lO (Eb g (gq B args)) B) f d with
    | some ⟨h⟩,some (j,o)=>some { val:=ym (iR id b (F (om h i,j)).2),new:=uq id b (F (om h i,j)).2,wr:=(g,[jk e n (F (om h i,j)).1])::mM B (.arr n e) b (Eb g (gq B args)),pre:=[m=n,0<n]++(o++[pre (om h i,j)]) }
    | _,_=>none
   | none=>none
  | _,_,_=>none
 | _=>none
def vG (G:fZ) (d:Kd) (c:List Kd) (b:List cU) (pre:aH d × HL c->Prop) (F:aH d × HL c->aH d × HO b):Spec:=fun W id args B =>
 match HR d c b pre F W id args B with
 | some o=>some { o with pre:=(∀ g s,G g=some s->W.gl g=some s)::o.pre }
 | none=>none
theorem Ix {i j:Nat} {l:List Nat} (h:j∈Eb i l):j∈l/\j≠i:=by obtain⟨b,c⟩:=List.mem_filter.1 h;refine⟨b,fun e=>?_⟩;subst e;simp at c
theorem rJ {B:bE} {k:Kd} {b:List cU} {ids:List Nat} {p:Nat × List Cell} (h:p∈mM B k b ids):p.2=[]/\p.1∈ids/\∃ d,B p.1=some d/\d≠[]:=by unfold mM at h;split at h;exact xo h;obtain⟨i,g,rfl⟩:=mem_map.1 h;obtain⟨f,e⟩:=List.mem_filter.1 g;refine⟨rfl,f,?_⟩;unfold isLive at e;split at e;rename_i c d j;exact⟨_,j,aw⟩;cases e
theorem QX {B:bE} {j:Kd} {b:List cU} {ids:List Nat} (d:(fm j&&eT b)=false) {i:Nat} (g:i∈ids) {e:List Cell} (k:B i=some e) (f:e≠[]):(i,[])∈mM B j b ids:=by
 have h:isLive B i=true:=by
  unfold isLive;rw[k];cases e with
  | nil=>exact absurd rfl f
  | cons c e=>rfl
 unfold mM;split;rename_i l;rw[l] at d;simp at d;unfold pG;rw[d];exact mem_map.2 ⟨i,List.mem_filter.2 ⟨g,h⟩,rfl⟩;exact mem_map.2 ⟨i,List.mem_filter.2 ⟨g,h⟩,rfl⟩
section
variable {P:Program}
theorem X2 {f:FuncId} {hd:Hd} {κ:Kd} {X:List Kd} {k:List cU} {G:fZ} {pre:aH κ × HL X->Prop} {F:aH κ × HL X->aH κ × HO k} (h:J5 P f hd κ X k G pre F) (h1:dA k<=1) {w0:cD} {id A Z:Nat} {s0:SV} {u:List SV} {B:bE} {ρ:aC} {u0:Value} {y2:List Value} {w:World} {d:Cell} {ds:List Cell} {x:aH κ} {C:HL X} {qs pp:List Prop}
  (x0:B A=some (d::ds)) (v3:∀ z l0,Sees (lO (Eb A (gq B (s0::u))) B) ρ z->az ρ (d::ds) l0->Rd z κ x l0) (v6:uQ (lO (Eb A (gq B (s0::u))) B) X u=some (C,qs)) (v2:∀ p∈qs,p) (z0:pre (x,C)) (hG:∀ g s,G g=some s->w0.gl g=some s) (N:ρ A=some Z) (v4:hd.val Z (ρ.n A) u0) (z4:bq ρ u y2) (Q:Ctx w0 id ρ B w) :
  nL P f ⟨u0::y2⟩ w fun v w'=>∃ ρ',(ym (iR id k (F (x,C)).2)).rel ρ' v/\Eff id B { val:=ym (iR id k (F (x,C)).2),new:=uq id k (F (x,C)).2,wr:=(A,cellsOf κ (F (x,C)).1)::mM B κ k (Eb A (gq B (s0::u))),pre:=pp } ρ ρ' w w':=by
 classical
 -- z9 v8 u2 w3 w4
 let ids:=Eb A (gq B (s0::u));let own:Nat->Prop:=fun b=>∃ i H,i∈ids/\B i=some H/\H≠[]/\ρ i=some b;let z:Mem:=fun b=>if own b then cb w b else ρ.M b;have x6:∀ b,own b->b≠Z:=by rintro b ⟨i,H,y,x1,K,j⟩ rfl;exact (Ix y).2 (Q.inj i A H (d::ds) b x1 K x0 aw j N)
 have y4:z Z=none:=by
  simp only[z];rw[ai (fun ho=>x6 _ ho rfl)];cases hq:ρ.M Z with
  | none=>rfl
  | some l=>exact absurd N (Q.apart Z l hq A (d::ds) x0 aw)
 have y3:∀ b l,z b=some l->cb w b=some l:=by intro b l j;simp only[z] at j;split at j;exact j;obtain⟨el,fr,hh⟩:=Q.mem b l j;exact j8 hh
 have W:Mem.le ρ.M z:=by intro b l j;simp only[z];split;obtain⟨el,fr,hh⟩:=Q.mem b l j;exact j8 hh;exact j
 have V:Sees (lO ids B) ρ z:=by
  refine⟨W,fun i H b y K j=>?_⟩;have y9:i∈ids:=by unfold lO at y;split at y;rename_i hm;exact vP hm;cases y
  have x1:=nG y;obtain⟨l,⟨z8,el,fr,k1,k2,_⟩,k3⟩:=Q.blks i H x1 K b j;refine⟨l,z8,k3,fun hn=>?_,k2⟩;simp only[z];rw[ak ⟨i,H,y9,x1,K,j⟩];exact kF k1 hn
 have y6:=IX V v6 v2 z4;obtain⟨l0,O,y5⟩:=Q.blks A (d::ds) x0 aw Z N;have z2:Rd z κ x l0:=v3 z l0 V y5;have u5:rq G z:=fun g e x hg=>ko W (Q.glob g e x (hG g _ hg));refine (h w z y2 C Z _ l0 x u0 y3 y4 u5 y6 O z2 z0 v4).mono ?_;rintro v w' ⟨vs,ob,l',rfl,x7,x9,z1,t⟩;have u3:Z<w.heap.size:=O.lt;have U:∀ b,b<w.heap.size->b≠Z->w'.heap[b]?=w.heap[b]?:=by intro b j K;refine t.block b j ?_;simp only[cD.own,List.any_cons,List.any_nil,Bool.or_false];simpa using fun e=>K e.symm
 -- z9 is v7 u1 v8 v9
 let pl:Bool:=fm κ&&eT k;let Mx:Mem:=if pl=true then ρ.M else z;let o:aC:=⟨ρ.m,ρ.n,fun b=>if ob=some b/\w.heap.size<=b then none else if w.heap.size<=b then cb w' b else Mx b⟩;have v0:∀ b l,ρ.M b=some l->b<w.heap.size:=by intro b l j;obtain⟨el,fr,hh⟩:=Q.mem b l j;exact sZ (j8 hh)
 have v5:Mem.le ρ.M Mx:=by intro b l j;simp only[Mx];split;exact j;exact W b l j
 have x3:Mem.le ρ.M o.M:=by intro b l j;have:=v0 b l j;simp only[o];rw[ai (fun h=>aa),ai aa];exact v5 b l j
 have x4:pl=true\/Mem.le (dt w.heap.size z ob w') o.M:=by by_cases x2:pl=true;exact .inl x2;refine .inr fun b l j=>?_;simp only[dt] at j;simp only[o];split at j;cases j;rename_i y1;rw[ai (fun h=>y1 h.1)];split at j;rename_i hN;rw[ak hN];exact j;rename_i hN;rw[ai hN];simp only[Mx];rw[ai x2];exact j
 have x5:eT k=true\/Mem.le (dt w.heap.size z ob w') o.M:=by rcases x4 with h|h;simp only[pl,aX] at h;exact .inl h.2;exact .inr h
 have y8:fm κ=true\/Mem.le (dt w.heap.size z ob w') o.M:=by rcases x4 with h|h;simp only[pl,aX] at h;exact .inl h.1;exact .inr h
 have conv:∀ (ρ':aC),ρ'.M=o.M->∀ (e:Kd) (x:aH e) l,Rd (dt w.heap.size z ob w') e x l->(fm e=true\/Mem.le (dt w.heap.size z ob w') ρ'.M)->Rd ρ'.M e x l:=by intro ρ' _ e x l hr hor;rcases hor with hor|hor;exact Ks hor hr;exact dd hor hr
 have T:∀ (ρ':aC) (new:List (Nat × List Cell)),ρ'.M=o.M->(∀ p∈new,∀ b,ρ' p.1=some b->ob=some b/\w.heap.size<=b)->∀ b l,ρ'.M b=some l->ρ.M b=some l\/((∀ p∈new,ρ' p.1≠some b)/\(w.heap.size<=b\/∃ q∈(A,cellsOf κ (F (x,C)).1)::mM B κ k ids,ρ q.1=some b/\q.2=[])/\∃ el fr,w'.heap[b]?=some (nF l el fr)):=by intro ρ' new I D b l j;rw[I] at j;simp only[o] at j;split at j;cases j;rename_i y1;split at j;rename_i hN;exact .inr ⟨fun p hp' e=>y1 (D p hp' b e),.inl hN,iE j⟩;rename_i hN;simp only[Mx] at j;split at j;exact .inl j;rename_i x2;have hm:=y3 b l j;obtain⟨el,fr,hh⟩:=iE hm;simp only[z] at j;split at j;rename_i x8;have u4:=x6 b x8;obtain⟨i,H,u6,u7,u8,u9⟩:=x8;refine .inr ⟨fun p hp' e=>hN (D p hp' b e).2,.inr ⟨(i,[]),qq _ (QX (by simpa[pl] using x2) u6 u7 u8),u9,rfl⟩,el,fr,by rw[U b aa u4];exact hh⟩;exact .inl j
 have z5:∀ (ρ':aC),ρ'.M=o.M->∀ (p:Nat × List Cell),p∈(A,cellsOf κ (F (x,C)).1)::mM B κ k ids->(∃ H,B p.1=some H/\H≠[])/\∀ b,ρ p.1=some b->p.2≠[]->∃ l,ca w' b (ρ.n p.1) l/\az ρ' p.2 l:=by intro ρ' I p hp';rcases mem_cons.1 hp' with rfl|hp';refine⟨⟨_,x0,aw⟩,fun b j _=>?_⟩;have j:ρ A=some b:=j;rw[N] at j;simp only[aE] at j;subst j;exact⟨l',x9,jh (conv ρ' I κ _ l' z1 (by rcases y8 with h|h;exact .inl h;exact .inr (by rw[I];exact h)))⟩;obtain⟨k1,k2,k3⟩:=rJ hp';exact⟨k3,fun _ _ h=>absurd k1 h⟩
 have z6:∀ p∈(A,cellsOf κ (F (x,C)).1)::mM B κ k ids,∀ q∈(A,cellsOf κ (F (x,C)).1)::mM B κ k ids,p.1=q.1->p=q:=by intro p hp' q hq' e;rcases mem_cons.1 hp' with rfl|hp'<;>rcases mem_cons.1 hq' with rfl|hq';rfl;exact absurd e.symm (Ix (rJ hq').2.1).2;exact absurd e (Ix (rJ hp').2.1).2;exact gm e ((rJ hp').1.trans (rJ hq').1.symm)
 have z3:∀ b,b<w.heap.size->(∀ p∈(A,cellsOf κ (F (x,C)).1)::mM B κ k ids,ρ p.1≠some b)->w'.heap[b]?=w.heap[b]?:=by intro b j v1;refine U b j (fun e=>?_);subst e;exact v1 (A,cellsOf κ (F (x,C)).1) (Br ..) N
 have R:=Q.free id (aI _) aa
 -- z7 in a block of w2 own
 have Y:∀ (new:List (Nat × List Cell)),(∀ p∈new,p.1=id)->eP o (iR id k (F (x,C)).2) vs->∃ ρ',(ym (iR id k (F (x,C)).2)).rel ρ' (mS vs)/\Eff id B { val:=ym (iR id k (F (x,C)).2),new:=new,wr:=(A,cellsOf κ (F (x,C)).1)::mM B κ k ids,pre:=pp } ρ ρ' w w':=by
  intro new D ht;have E:∀ p∈new,o p.1=none:=fun p hp'=>by rw[D p hp'];exact R
  refine⟨o,DK ht,⟨⟨fun _ _ h=>⟨h,rfl⟩,x3⟩,fun _ _ h=>.inl h,fun i b y=>fe (Q.bound i b y) t.size,t.os,t.tape,t.output,t.size,z3,?_,?_,z6,z5 o rfl,T o new rfl (fun p hp' b j=>by rw[E p hp'] at j;cases j)⟩⟩;intro p hp';have:=D p hp';exact⟨aa,aa,fun b j=>by rw[E p hp'] at j;cases j⟩;intro p hp' q hq' b j;rw[E p hp'] at j;cases j
 rcases Ag (ρ':=o) (id:=id) (conv o rfl) h1 x5 x7 with ⟨k1,k2⟩|⟨H,k0,k1,k2|⟨b,n,l,k3,k4,k5,k6,k7⟩⟩;rw[k1];exact Y [] (fun _ h=>nomatch h) k2;rw[k1];exact Y [(id,H)] (fun p hp'=>by simp at hp';rw[hp']) k2
 ·rw[k1];let r:aC:=⟨fun i=>if i=id then some b else ρ i,fun i=>if i=id then n else ρ.n i,o.M⟩;have y7:aC.le ρ r:=by
   refine⟨fun i c y=>?_,x3⟩;by_cases e:i=id;subst e;rw[R] at y;cases y;simp[r,e,y]
  have y0:aC.le o r:=⟨fun i c y=>y7.id i c y,Mem.le_refl _⟩;have ht:eP r (iR id k (F (x,C)).2) vs:=by
   rcases Ag (ρ':=r) (id:=id) (conv r rfl) h1 x5 x7 with ⟨_,j2⟩|⟨w1,_,_,j2|⟨b',n',l',j3,j4,j5,j6,j7⟩⟩;exact j2;exact j2
   ·have e:b'=b:=by rw[k3] at j3;simpa using j3.symm
    subst e;have en:=k5.size_eq j5;subst en;exact j7 (by simp[r]) (by simp[r])
  refine⟨r,DK ht,⟨y7,?_,?_,t.os,t.tape,t.output,t.size,z3,?_,?_,z6,z5 r rfl,T r _ rfl ?_⟩⟩;intro i b' y;by_cases e:i=id;simp[r,e] at y;subst y;exact .inr ⟨aa,aa,⟨(id,H),aw,by simp[e]⟩,.inl k4⟩;simp[r,e] at y;exact .inl y;intro i b' y;by_cases e:i=id;simp[r,e] at y;subst y;exact k5.lt;simp[r,e] at y;exact fe (Q.bound i b' y) t.size;intro p hp';simp at hp';subst hp';refine⟨aI _,by show id<id+8;omega,fun b' L _=>?_⟩;simp[r] at L;subst L;exact⟨.inl k4,l,by simp[r];exact k5,dU y0 k6⟩;intro p hp' q hq' _ _ _;simp at hp' hq';rw[hp',hq'];intro p hp' b' L;simp at hp';subst hp';simp[r] at L;subst L;exact⟨k3,k4⟩
theorem Nq {f:FuncId} {m:Kd} {e:List Kd} {b:List cU} {G:fZ} {pre:aH m × HL e->Prop} {F:aH m × HL e->aH m × HO b} (h:C3 P f m e b G pre F) (H:dA b<=1) {w0:cD} {id:Nat} {args:List SV} {B:bE} {out:Out}
  (c:HR m e b pre F w0 id args B=some out) (u:∀ p∈out.pre,p) (I:∀ g s,G g=some s->w0.gl g=some s) {ρ:aC} {D:List Value} {w:World} (N:bq ρ args D) (K:Ctx w0 id ρ B w) :
  nL P f ⟨D⟩ w fun v w'=>∃ o,out.val.rel o v/\Eff id B out ρ o w w':=by
 unfold HR at c;split at c;split at c;rename_i d W r L;split at c;rename_i x Z xs qs O z;simp only[aE] at c;subst c;obtain⟨u0,T,E,y,l⟩:=N;obtain⟨V,t,q⟩:=oa y;subst q E;refine X2 h H r (fun U X j k=>?_) z (fun p i=>u p (by simp[i])) (u _ aw) I t rfl l K;obtain⟨Y,R,C,Q,A⟩:=ij j _ _ _ _ _ _ O (fun p i=>u p (by simp[i])) k;have A:R=[]:=A;subst A;rw[bw] at C;rw[C];exact Q;simp at c;simp at c;simp at c
theorem zH {f:FuncId} {e:Kd} {i:List Kd} {b:List cU} {pre:List (aH e) × HL i->Prop} {F:List (aH e) × HL i->List (aH e) × HO b} (h:Ft P f e i b bB pre F) (R:dA b<=1:=by decide):nN P f (yJ e i b pre F):=by
 intro w0 id args B out d t ρ us w hv U;unfold yJ at d;split at d
 ·rename_i i0 n c u;split at d
  ·rename_i c0 A Y j;split at d
   ·rename_i L m O q;split at d
    ·rename_i D ys qs V I;subst D;simp only[aE] at d;subst d;have E:m=n:=t _ aw;have Z:0<n:=t _ aw;subst E;have j:c=width L:=fa j;subst j;obtain⟨u0,x0,Q,H,r⟩:=hv;subst Q;rcases nW H with ⟨N,_⟩|⟨b0,o,y,C,N,ho,T,z⟩;omega;have ho:o=0:=by
      rcases ho with ho|ho;simpa using ho;omega
     subst ho z;refine X2 (κ:=.arr m L) (x:=O) (h m Z) R A (fun M0 l0 k l=>?_) I (fun p G=>t p (by simp[G])) (t (pre (O,ys)) (hV _ (hV _ (List.mem_singleton.2 rfl)))) (fun g s W=>by simp[bB] at W) C ⟨y,N,by simpa using T,rfl⟩ r U;obtain⟨v1,v2,ev,k1,K⟩:=l;have K:v2=[]:=K;subst K ev;rw[bw];obtain⟨g1,g2,_⟩:=kD q k1;exact⟨g1,ee (fun _ _=>dd k.mem) g2⟩
    simp at d
   simp at d
  simp at d
 simp at d
theorem tv {f:FuncId} {i:Kd} {e:List Kd} {b:List cU} {G:fZ} {pre:aH i × HL e->Prop} {F:aH i × HL e->aH i × HO b} (h:C3 P f i e b G pre F) (q:dA b<=1:=by decide):nN P f (vG G i e b pre F):=by intro w0 id args B out g m ρ u w t r;unfold vG at g;split at g;rename_i o s;simp at g;subst g;have:=Nq h q s (fun p j=>m p (by simp[j])) (m _ aw) t r;refine this.mono fun v w' ⟨l,k,d⟩=>⟨l,k,?_⟩;exact⟨d.le,d.dom,d.bound,d.os,d.tape,d.output,d.size,d.same,d.new,d.newinj,d.wruniq,d.wr,d.mem⟩;simp at g
def xU (B:bE):bE:=fun i=>match beq i 0 with
 | true=>none
 | false=>B i
def Rh (f:Kd) (b:List cU) (y:aH f × HO b) (e:SV) (c:St):Prop :=
 match CR e,iP (lK b) (xU c.B) b (G8 e),c.B 0 with
 | true,some (j,h),some (d::g)=>match fx (match lK b with|true=>o5|false=>xU c.B) f (d::g) with
  | some (z,i,[])=>Ew h (Ew i ((z,j)=y))
  | _=>False
 | _,_,_=>False
def Ka (e:Kd) (n:Nat) (b:List cU) (y:List (aH e) × HO b) (c:SV) (d:St):Prop :=
 match CR c,iP (lK b) (xU d.B) b (G8 c),d.B 0 with
 | true,some (k,i),some [f]=>match k8 f with
  | some ⟨g,m,j⟩=>match g.eq? e with
   | some ⟨h⟩=>Ew i (m=n/\(om h j,k)=y)
   | none=>False
  | none=>False
 | _,_,_=>False
variable {w0:cD} {n:Nat} {S:cJ} {B:bE} {ρ:aC} {a:Act} {w':World}
theorem uu {M:Mem} (e:cR w0 n S B ρ a w') (j:∀ b l,w0.own b=true->ρ.M b≠some l) (g:w0.M=M) {f:Option Nat} (d:∀ b,f=some b->∀ l,ρ.M b≠some l):Mem.le ρ.M (dt w0.w.heap.size M f w'):=by intro b l c;unfold dt;rw[ai (fun h=>d b h l c)];obtain⟨_,m,fr,i⟩:=e.mem b l c;split;exact j8 i;rename_i k;rcases e.old b l c aa with h|h;exact absurd c (j b l h);rw[<- g];exact h
theorem Aq {M:Mem} {u:Option Nat} {r i:bE} (D:Sees i ρ (dt w0.w.heap.size M u w')) {s:Bool} (C:(match s with|true=>o5|false=>r)=i) :
  ∀ {c:List cU} {d:List TV} {ys:HO c} {f:List Prop} {g:List Value},dA c=0->iP s r c d=some (ys,f)->(∀ p∈f,p)->eP ρ d g->e8 w0.w.heap.size M u w' c ys g:=by
 intro c;induction c with
 | nil=>intro d ys f g _ h _ k;cases d with
  | nil=>exact k
  | cons _ _=>simp[iP] at h
 | cons o c F=>intro d ys f g j h t k;cases d with
  | nil=>simp[iP] at h
  | cons x d =>
   cases o with
   | own e=>simp[dA] at j
   | box e=>simp[dA] at j
   | val G =>
    simp only[iP] at h;split at h
    ·rename_i y p l;split at h
     ·rename_i I H E;simp only[aE,aL] at h;obtain⟨rfl,rfl⟩:=h;obtain⟨v,m,e,z,A⟩:=k;have l:M3 i G (.is x)=some (y,p):=by rw[<- C];exact l
      exact⟨v,m,e,wx D l (fun p b=>t p (gK _ b)) z,F j E (fun p b=>t p (hV _ b)) A⟩
     simp at h
    simp at h
theorem T1 {e:Kd} {F:Bool} {x:TV} {y:List (aH e)} {A:List Prop} {v:Value} (H:cR w0 n S B ρ a w') (N:∀ i z b,B i=some z->z≠[]->ρ i=some b->w0.w.heap.size<=b) (h:Ap F B (.own e) x=some (y,A)) (G:∀ p∈A,p) (I:x.rel ρ v) :
  (y=[]/\v=.slice none 0 0)\/∃ b o f n l,(∀ l,ρ.M b≠some l)/\w0.w.heap.size<=b/\v=.slice (some ⟨b,o,none⟩) y.length f/\y.length<=f/\(o=0\/f=0)/\o+f*width e<=n/\ca w' b n l/\dX (Rd ρ.M e) y l:=by
 simp only[Ap] at h;split at h
 ·rename_i id len c;split at h
  ·rename_i d K C;have u:∀ {y:List (aH e)},(∀ l,az ρ (d::K) l->y.length=len/\c=width e/\0+0*c+len*c<=l.length/\dX (Rd ρ.M e) y ((l.drop (0+0*c)).take (len*c)))->(len=0->y=[]) ->
     (y=[]/\v=.slice none 0 0)\/∃ b o f n l,(∀ l,ρ.M b≠some l)/\w0.w.heap.size<=b/\v=.slice (some ⟨b,o,none⟩) y.length f/\y.length<=f/\(o=0\/f=0)/\o+f*width e<=n/\ca w' b n l/\dX (Rd ρ.M e) y l:=by
    intro y Q L;rcases nW I with ⟨j,ev⟩|⟨b,o,f,D,j,F,O,ev⟩;exact .inl ⟨L j,ev⟩;obtain⟨l,m,E⟩:=H.blks _ _ C aw b D;obtain⟨T,U,V,W⟩:=Q l E;subst T U;refine .inr ⟨b,o,f,_,_,fun l s=>(H.mem b l s).1 _ _ C aw D,N _ _ _ C aw D,ev,j,by simpa using F,O,?_,W⟩;simp only[jm,bO,gL] at V ⊢;have k:=m;rw[<- dO (y.length*width e) l] at k;exact k.pre
   split at h;rename_i X p g;simp only[aE,aL] at h;obtain⟨rfl,rfl⟩:=h;refine u (fun l j=>xF g G j) (fun s=>?_);subst s;unfold uX at g;split at g;split at g;simp only[aE,aL] at g;rw[<- g.1];simp;simp at g;simp at g;refine u (fun l j=>xE (R:=Rd ρ.M e) (fun _ _=>b6) (fun z x A r l=>ij (mh ρ) e z x A r l) h G j) (fun s=>?_);subst s;unfold uW at h;split at h;split at h;rename_i t;simp only[pN,aE,aL] at h t;rw[<- h.1,<- t.1];simp at h;simp at h
  simp at h
 simp only[aE,aL] at h;obtain⟨rfl,rfl⟩:=h;exact .inl ⟨rfl,cc (ρ:=ρ) I⟩;simp at h
theorem Ru {M:Mem} (C:cR w0 n S B ρ a w') (T:∀ b l,w0.own b=true->ρ.M b≠some l) (A:∀ i E b,B i=some E->E≠[]->ρ i=some b->w0.w.heap.size<=b) (Q:w0.M=M) :
  ∀ {k:List cU} {z:List TV} {ys:HO k} {G:List Prop} {H:List Value},dA k<=1->iP true B k z=some (ys,G)->(∀ p∈G,p)->eP ρ z H ->
   ∃ D,(∀ b,D=some b->∀ l,ρ.M b≠some l)/\(∀ c,(∀ b,c=some b->∀ l,ρ.M b≠some l)->(D=none\/c=D)->e8 w0.w.heap.size M c w' k ys H):=by
 intro k;induction k with
 | nil=>intro z ys G H _ h _ W;cases z with
  | nil=>exact⟨none,(fun b h=>(nomatch h)),fun _ _ _=>W⟩
  | cons _ _=>simp[iP] at h
 | cons o k ih=>intro z ys G H O h hp W;cases z with
  | nil=>simp[iP] at h
  | cons x z =>
   simp only[iP] at h;split at h
   ·rename_i y p F;split at h
    ·rename_i zs qs X;simp only[aE,aL] at h;obtain⟨rfl,rfl⟩:=h;obtain⟨v,g,e,Y,Z⟩:=W;have r:∀ q∈p,q:=fun q V=>hp q (gK _ V);have s:∀ q∈qs,q:=fun q V=>hp q (hV _ V);have t:∀ c,(∀ b,c=some b->∀ l,ρ.M b≠some l)->Sees o5 ρ (dt w0.w.heap.size M c w'):=fun c d=>⟨uu C T Q d,fun _ _ _ h=>by simp[o5] at h⟩;cases o with
     | val κ =>obtain⟨D,g1,g2⟩:=ih (ys:=zs) O X s Z;refine⟨D,g1,fun c d hor=>⟨v,g,e,?_,g2 c d hor⟩⟩;simp only[Ap] at F;exact wx (t c d) F r Y
     | own e0 =>
      have u:dA k=0:=by simp[dA] at O;omega
      have f:∀ c,(∀ b,c=some b->∀ l,ρ.M b≠some l)->e8 w0.w.heap.size M c w' k zs g:=fun c d=>Aq (t c d) rfl u X s Z;rcases T1 C A F r Y with ⟨g1,g2⟩|⟨b,o,I,nn,l,g1,R,K,g4,g5,g6,L,N⟩;exact⟨none,(fun b h=>(nomatch h)),fun c d _=>⟨v,g,e,.inl ⟨g1,g2⟩,f c d⟩⟩;refine⟨some b,fun b' j=>by simp at j;subst j;exact g1,fun c d hor=>⟨v,g,e,?_,f c d⟩⟩;rcases hor with hor|hor;cases hor;refine .inr ⟨b,o,I,nn,l,hor,R,K,g4,g5,g6,L,ee (fun _ _=>dd (uu C T Q d)) N⟩
     | box κ =>
      have u:dA k=0:=by simp[dA] at O;omega
      have f:∀ c,(∀ b,c=some b->∀ l,ρ.M b≠some l)->e8 w0.w.heap.size M c w' k zs g:=fun c d=>Aq (t c d) rfl u X s Z;obtain⟨i,E,b,m,l,hB,U,hb,g1,K,L,N⟩:=Mt C F r Y;have R:w0.w.heap.size<=b:=A i E b hB U hb;refine⟨some b,fun b' j=>by simp at j;subst j;exact g1,fun c d hor=>⟨v,g,e,?_,f c d⟩⟩;rcases hor with hor|hor;cases hor;exact⟨b,m,l,hor,R,K,L,dd (uu C T Q d) N⟩
    simp at h
   simp at h
end
section
variable {P:Program}
theorem JB {w:World} {G:fZ} {M:Mem} {o n0 n:Nat} {s:St} {ρ:aC} {a:Act} {w':World} {κ:Kd} {c:List cU} {z:aH κ} {zs:HO c} {ps:List Prop} {d:Cell} {W:List Cell} {U:SV} {v:Value} (x1:o<w.heap.size) (x0:M o=none) (T:ρ.n 0=n0)
  (g:cR ⟨w,[(0,o)],G,M,fun p=>c4 w p.2,1⟩ n s.S s.B ρ a w') (Q:dA c<=1) (hf:CR U=true) (N:iP (lK c) (xU s.B) c (G8 U)=some (zs,ps)) (E:∀ p∈ps,p) (y:s.B 0=some (d::W)) (x:∀ V l,Sees (match lK c with|true=>o5|false=>xU s.B) ρ V->az ρ (d::W) l->Rd V κ z l) (hv:U.rel ρ v) :
  ∃ K H F,v=mS K/\e8 w.heap.size M H w' c zs K/\ca w' o n0 F/\Rd (dt w.heap.size M H w') κ z F:=by
 obtain⟨K,Z,e⟩:=UE hv hf;have r:ρ 0=some o:=(g.init (0,o) aw).1;obtain⟨F,q,C⟩:=g.blks 0 _ y aw o r;rw[T] at q;have u:∀ b,(⟨w,[(0,o)],G,M,fun p=>c4 w p.2,1⟩:cD).own b=true->b=o:=by intro b m;simp[cD.own] at m;exact m.symm
 have k:∀ b l,(⟨w,[(0,o)],G,M,fun p=>c4 w p.2,1⟩:cD).own b=true->ρ.M b≠some l:=by intro b l m hm;have:=u b m;subst this;exact (g.mem b l hm).1 0 _ y aw r
 have j:∀ i f,xU s.B i=some f->s.B i=some f/\i≠0:=by intro i f k;unfold xU at k;split at k;cases k;rename_i x;exact⟨k,fun e=>by subst e;simp at x⟩
 have D:∀ i f b,xU s.B i=some f->f≠[]->ρ i=some b->w.heap.size<=b:=by intro i f b k t m;obtain⟨R,O⟩:=j i f k;rcases (g.bound i b m).1 with h|h;exact h;have:=u b h;subst this;exact absurd (g.inj i 0 f _ b R t y aw m r) O
 have Yp:cR ⟨w,[(0,o)],G,M,fun p=>c4 w p.2,1⟩ n s.S (xU s.B) ρ a w' :=
  ⟨g.defers,g.size,g.slots,g.below,fun i f k=>g.blks i f (j i f k).1,fun i i' f A b Q h2 h3 h4=>g.inj i i' f A b (j i f Q).1 h2 (j i' A h3).1 h4,g.bound,g.init,fun b l m=>⟨fun i f k=>(g.mem b l m).1 i f (j i f k).1,(g.mem b l m).2⟩,g.old,g.glob,g.tops,g.memle⟩
 cases L:lK c with
 | false =>
  rw[L] at N x;simp only at x;have O:dA c=0:=by unfold lK at L;split at L<;>simp_all
  have Y:Sees (xU s.B) ρ (dt w.heap.size M none w'):=by refine⟨uu g k rfl (fun b h=>(nomatch h)),fun i f b X t m=>?_⟩;obtain⟨l,⟨I,el,fr,k1,k2,_⟩,k3⟩:=Yp.blks i f X t b m;refine⟨l,I,k3,fun hn=>?_,k2⟩;unfold dt;rw[ai (fun h=>nomatch h),ak (D i f b X t m)];exact kF k1 hn
  exact⟨K,none,F,e,Aq (w0:=⟨w,[(0,o)],G,M,fun p=>c4 w p.2,1⟩) Y rfl O N E Z,q,x _ _ Y C⟩
 | true =>rw[L] at N x;simp only at x;obtain⟨H,g1,g2⟩:=Ru Yp k D rfl Q N E Z;exact⟨K,H,F,e,g2 H g1 (.inr rfl),q,x _ _ ⟨uu g k rfl g1,fun _ _ _ h=>by simp[o5] at h⟩ C⟩
theorem TR {w:World} {G:fZ} {M:Mem} {c u n:Nat} {r:St} {ρ:aC} {a:Act} {w':World} {q:Kd} {b:List cU} {y:aH q × HO b} {A:SV} {v:Value} (i:c<w.heap.size) (f:M c=none) (j:ρ.n 0=u)
  (I:cR ⟨w,[(0,c)],G,M,fun p=>c4 w p.2,1⟩ n r.S r.B ρ a w') (D:dA b<=1) (h:Rh q b y A r) (K:A.rel ρ v) :
  ∃ C x t,v=mS C/\e8 w.heap.size M x w' b y.2 C/\ca w' c u t/\Rd (dt w.heap.size M x w') q y.1 t:=by
 unfold Rh at h;split at h;rename_i W U d R F L e;split at h;rename_i z V H;obtain⟨k,h⟩:=vA h;obtain⟨m,rfl⟩:=vA h;refine JB i f j I D F L k e (fun Q l E g=>?_) K;obtain⟨T,O,s,N,o⟩:=ij E _ _ _ _ _ _ H m g;have o:O=[]:=o;subst o;rw[bw] at s;rw[s];exact N;exact h.elim;exact h.elim
theorem TS {w:World} {G:fZ} {M:Mem} {d x n k:Nat} {t:St} {ρ:aC} {a:Act} {w':World} {e:Kd} {b:List cU} {y:List (aH e) × HO b} {C:SV} {v:Value} (o:d<w.heap.size) (g:M d=none) (q:ρ.n 0=x)
  (L:cR ⟨w,[(0,d)],G,M,fun p=>c4 w p.2,1⟩ n t.S t.B ρ a w') (F:dA b<=1) (h:Ka e k b y C t) (N:C.rel ρ v) :
  ∃ D A u,v=mS D/\e8 w.heap.size M A w' b y.2 D/\ca w' d x u/\Rd (dt w.heap.size M A w') (.arr k e) y.1 u:=by
 unfold Ka at h;split at h;rename_i Y W V K O f;split at h;rename_i E m T c;split at h;rename_i j I;subst j;obtain⟨r,rfl,rfl⟩:=vA h;refine JB (κ:=.arr m E) (z:=T) o g q L F K O r f (fun U l H i=>?_) N;obtain⟨X,R,ev,Q,s⟩:=i;have s:R=[]:=s;subst s ev;rw[bw];obtain⟨g1,g2,_⟩:=kD c Q;exact⟨g1,ee (fun _ _=>dd H.mem) g2⟩;exact h.elim;exact h.elim;exact h.elim
theorem GX {w:World} {b n:Nat} {l:List Value} (h:ca w b n l):c4 w b=n:=by obtain⟨c,f,fr,d,e,_⟩:=h;simp only[c4,d];exact e
theorem UB {G:fZ} {w:World} {M:Mem} {b n:Nat} {l:List Value} {j:Kd} {x:aH j} (A:Mem.le M (cb w)) (q:M b=none) (z:rq G M) (r:ca w b n l) (D:Rd M j x l):Start ⟨w,[(0,b)],G,M,fun p=>c4 w p.2,1⟩ [(0,cellsOf j x)] 1 ⟨fun i=>if i=0 then some b else none,fun _=>n,M⟩:=by
 have k:∀ id d,(if id=0 then some b else none)=some d->id=0/\d=b:=by intro id d h;by_cases e:id=0;rw[ak e] at h;simp at h;exact⟨e,h.symm⟩;rw[ai e] at h;cases h
 have s:∀ id f,cW [(0,cellsOf j x)] id=some f->id=0/\f=cellsOf j x:=by intro id f h;have:=gV h;simp at this;exact this
 refine⟨?_,?_,?_,?_,?_,?_,?_,z,fun p g=>by simp at g;subst g;exact jY,Mem.le_refl _⟩;intro id f h _ d c;obtain⟨rfl,rfl⟩:=s id f h;obtain⟨_,rfl⟩:=k 0 d c;exact⟨l,r,jh (ρ:=⟨_,_,M⟩) D⟩;intro id t f o d h _ y _ _ _;rw[(s id f h).1,(s t o y).1];intro id d h;obtain⟨_,rfl⟩:=k _ d h;exact⟨.inr (by simp[cD.own]),r.lt⟩;intro p g;simp at g;subst g;exact⟨rfl,(GX r).symm⟩;intro id d h;obtain⟨rfl,_⟩:=k _ d h;omega;intro d m c;have c:M d=some m:=c;refine⟨fun i f h C e=>?_,iE (A d m c)⟩;obtain⟨_,u⟩:=k i d e;rw[u] at c;have c:M b=some m:=c;rw[q] at c;cases c;intro d m c _;exact .inr c
theorem Ja {sp:FuncId->Option Spec} {f:FuncId} {fn:Func} (T:enters P f fn) {hd:Hd} {κ:Kd} {g:List Kd} {d:List cU} {G:fZ} {pre:aH κ × HL g->Prop} {F:aH κ × HL g->aH κ × HO d}
  (Y:g.length+1<=fn.ntmps) (k:fn.body.isSome=true) {po:aH κ × HO d->SV->St->Prop}
  (O:∀ {w:World} {M:Mem} {A V n:Nat} {I:St} {ρ:aC} {a:Act} {w':World} {y:aH κ × HO d} {R:SV} {v:Value},A<w.heap.size->M A=none->ρ.n 0=V->cR ⟨w,[(0,A)],G,M,fun p=>c4 w p.2,1⟩ n I.S I.B ρ a w'->po y R I->R.rel ρ v->∃ H D C,v=mS H/\e8 w.heap.size M D w' d y.2 H/\ca w' A V C/\Rd (dt w.heap.size M D w') κ y.1 C)
  (h:∀ (w:World) (M:Mem) (b:Nat) (x:aH κ) (q:HL g),wy κ x->Hi g q->pre (x,q)->A7 ⟨P,sp,⟨w,[(0,b)],G,M,fun p=>c4 w p.2,1⟩⟩ fn (ag (hd.cell 0)::mF g q) [(0,cellsOf κ x)] 1 (po (F (x,q)))):J5 P f hd κ g d G pre F:=by
 intro w M us q b n l x u X r W s j t hp U;refine .inl ⟨T.2 _ _,?_⟩;have o:(hd.cell 0).rel ⟨fun i=>if i=0 then some b else none,fun _=>n,M⟩ [u]:=by
  cases hd with
  | ptr=>exact⟨b,rfl,by rw[show u=_ from U]⟩
  | sl m c =>obtain⟨K,g1,g2,e⟩:=U;exact .inr ⟨b,0,K,rfl,g1,.inl aw,by simpa using g2,by rw[e]⟩
 refine (B8 (E:=⟨P,sp,⟨w,[(0,b)],G,M,fun p=>c4 w p.2,1⟩⟩) T.1 k (UB X r W j t) (JT (v:=ag (hd.cell 0)) o (rB (ρ:=⟨_,_,M⟩) s)) (by simp only[bN,uP];exact Y) (h w M b x q (P9 t) (xl s) hp)).mono ?_;rintro e w' ⟨v,R,I,ρ,m,a,rfl,hv,hq,Q⟩;have N:ρ.n 0=n:=((Q.init (0,b) aw).2).trans (GX j);obtain⟨H,D,C,e,Z,L,z⟩:=O j.lt r N Q hq hv;exact⟨v,rfl,H,D,C,e,Z,L,z,Q.below⟩
theorem B5 {sp:FuncId->Option Spec} {f:FuncId} {fn:Func} (l:enters P f fn) {g:Kd} {d:List Kd} {e:List cU} {G:fZ} {pre:aH g × HL d->Prop} {F:aH g × HL d->aH g × HO e}
  (m:d.length+1<=fn.ntmps) (k:dA e<=1) (i:fn.body.isSome=true)
  (h:∀ (w:World) (M:Mem) (b:Nat) (x:aH g) (j:HL d),wy g x->Hi d j->pre (x,j)->A7 ⟨P,sp,⟨w,[(0,b)],G,M,fun p=>c4 w p.2,1⟩⟩ fn (ao 0 0::mF d j) [(0,cellsOf g x)] 1 (Rh g e (F (x,j)))):C3 P f g d e G pre F:=Ja l m i (fun o q r s t u=>TR o q r s k t u) h
theorem B6 {sp:FuncId->Option Spec} {f:FuncId} {fn:Func} (t:enters P f fn) {e:Kd} {g:List Kd} {d:List cU} {G:fZ} {pre:List (aH e) × HL g->Prop} {F:List (aH e) × HL g->List (aH e) × HO d}
  (u:g.length+1<=fn.ntmps) (s:dA d<=1) (j:fn.body.isSome=true)
  (h:∀ (w:World) (M:Mem) (b:Nat) (i:List (aH e)) (m:HL g),0<i.length->(∀ x∈i,wy e x)->Hi g m->pre (i,m)->A7 ⟨P,sp,⟨w,[(0,b)],G,M,fun p=>c4 w p.2,1⟩⟩ fn (ag (.sl 0 0 0 i.length (width e))::mF g m) [(0,[jk e i.length i])] 1 (Ka e i.length d (F (i,m)))):Ft P f e g d G pre F:=by
 intro n o;refine Ja (sp:=sp) (hd:=.sl n (width e)) (κ:=.arr n e) t u j (po:=Ka e n d) (fun k r A C D E=>TS k r A C s D E) fun w M b x i z q y=>?_;obtain⟨k,r⟩:=z;have k:length (α:=aH e) x=n:=k;have l:=h w M b x i (by rw[k];exact o) r q y;rw[k] at l;exact l
theorem xg {sp:FuncId->Option Spec} {f:FuncId} {fn:Func} (K:enters P f fn) {e:Kd} {c:List Kd} {d:List cU} {G:fZ} {pre:HL (.sl e::c)->Prop} {F:HL (.sl e::c)->HO d}
  (W:c.length+1<=fn.ntmps) (T:dA d<=1) (m:fn.body.isSome=true)
  (R:∀ (w:World) (M:Mem) (g:HL c),Hi c g->pre (([]:List (aH e)),g)->A7 ⟨P,sp,⟨w,[],G,M,fun p=>c4 w p.2,0⟩⟩ fn (ag (.v (.slice none 0 0))::mF c g) [] 0 (post d (F (([]:List (aH e)),g))))
  (h:∀ (w:World) (M:Mem) (i:List (aH e)) (g:HL c),(∀ x∈i,wy e x)->Hi c g->pre (i,g)->A7 ⟨P,sp,⟨w,[],G,M,fun p=>c4 w p.2,0⟩⟩ fn (ag (.rn e i)::mF c g) [] 0 (post d (F (i,g)))):aO P f (.sl e::c) d G pre F:=by
 intro w M us i V U r A;obtain⟨i,g⟩:=i;have j:=xl r;obtain⟨u,I,Q,y,C⟩:=r;subst Q;have y:Rd M (.sl e) i [u]:=y;refine .inl ⟨K.2 _ _,?_⟩;have l:∀ (s:SV),s.rel (aC.start M) u->A7 ⟨P,sp,⟨w,[],G,M,fun p=>c4 w p.2,0⟩⟩ fn (s::mF c g) [] 0 (post d (F (i,g))) ->
   Calls P f ⟨u::I⟩ w fun e w'=>∃ v,e=.returned v/\∃ z H,v=mS z/\e8 w.heap.size M H w' d (F (i,g)) z/\Below w.heap.size w w':=by
  intro s hs ht;refine (B8 (E:=⟨P,sp,⟨w,[],G,M,fun p=>c4 w p.2,0⟩⟩) K.1 m (Fi V U) (JT hs (rB (ρ:=aC.start M) C)) (by simp only[bN,uP];exact W) ht).mono ?_;rintro e w' ⟨v,sv,σ,ρ,n,a,rfl,hv,Z,L⟩;obtain⟨z,H,e,Y⟩:=EZ L rfl rfl T Z hv;exact⟨v,rfl,z,H,e,Y,L.below.below rfl⟩
 have t:=y;rcases y with ⟨D,a,k,ev,q⟩|⟨b,o,k,ev,hc,N⟩
 ·simp only[bx,bR] at ev;cases a with
  | none =>have:=q rfl;subst this ev;have D:i=([]:List (aH e)):=D;subst D;exact l (ag (.v (.slice none 0 0))) ⟨rfl,rfl⟩ (R w M g j.2 A)
  | some O=>exact l (ag (.rn e i)) ⟨t,O,0,k,by rw[ev]⟩ (h w M i g j.1 j.2 A)
 simp only[bx,bR] at ev;exact l (ag (.rn e i)) ⟨t,⟨b,o,none⟩,_,k,by rw[ev]⟩ (h w M i g j.1 j.2 A)
end
def mark:Spec:=fun _ _ _ _=>none
theorem EU {N:Nat} {M:Mem} {c:Option Nat} {a:World}:Mem.le (dt N M c a) (dt N M none a):=by intro b l h;unfold dt at h ⊢;rw[ai aw];split at h;cases h;exact h
def rdJ (d t:Nat) (a:St):Nat:=match a.S t with
 | .is (.one (.sl i _ _ _ _))=>i
 | _=>d
theorem aO.AR {P:Program} {f:FuncId} {a:List Kd} {e:Kd} {G:fZ} {pre:HL a->Prop} {F:HL a->HO [.own e]} (h:aO P f a [.own e] G pre F):aO P f a [.val (.sl e)] G pre F:=by intro w M Q t z y k K;refine (h w M Q t z y k K).mono ?_;rintro v T ⟨R,V,N,⟨s,q,u,m,x⟩,C⟩;refine⟨R,none,N,⟨s,q,u,?_,x⟩,C⟩;show Rd (dt w.heap.size M none T) (.sl e) _ [s];rcases m with ⟨O,rfl⟩|⟨b,o,j,n,l,I,A,rfl,D,m,L,d,g⟩;exact .inl ⟨O,none,0,rfl,fun _=>rfl⟩;rcases m with rfl|rfl;have r:=fS (fun _ _=>b6) g;obtain⟨i,U,fr,E,_⟩:=d;refine .inr ⟨b,0,j,rfl,D,l++i,fun H=>?_,by rw[a7,r];omega,?_⟩;unfold dt;rw[ai aw,ak A];exact kF E H;rw[gL,<- r,lz];exact ee (fun _ _ h=>dd EU h) g;rfl;exact .inl ⟨dM aa,some ⟨b,o,none⟩,0,by rw[show (F t).1.length=0 by omega],fun h=>by cases h⟩
theorem Iq (e:Kd):cL (ag (.v (.slice none 0 0))) (ag (.ro e [])):=by rintro f v ⟨a,d⟩;simp only[bx,bR] at a;subst a;exact .inl ⟨rfl,none,0,rfl,fun _=>rfl⟩
theorem PN {E:Env} {N:Nat} {n r:St->Prop} {x:Nat->St->Prop} {l:List Code} {F:St} (t id k c:Nat) (e:Kd) (V:List (aH e)) (cell:Cell) (R:∀ (D:aC) (vs:List Value),cell.rel D vs->V.length=k/\dX (Rd D.M e) V vs) (hS:F.S t=ag (.sl id 0 0 k c)) (hB:F.B id=some [cell]) (hx:V.length=k)
  (h2:Tr E N l ⟨F.slots.set t (ag (.ro e V)),(id,[])::F.blks,F.next⟩ n r x):Tr E N l F n r x:=by
 classical
 intro a w Q hh hn hr hx;refine h2 a w Q ?_ hn hr hx;obtain⟨x2,D,d,x0⟩:=hh;refine⟨by show (F.slots.set t _).length=N;rw[hZ];exact x2,?_⟩;have A:∀ i j,St.B ⟨F.slots.set t (ag (.ro e V)),(id,[])::F.blks,F.next⟩ i=some j->j≠[]->i≠id/\F.B i=some j:=by
  intro i j h f;simp only[St.B,cW] at h;cases L:beq id i with
  | true=>rw[L] at h;simp only[aE] at h;exact absurd h.symm f
  | false =>rw[L] at h;refine⟨fun e=>?_,h⟩;subst e;rw[gi] at L;cases L
 have O:∀ (z:aC) (s:SV),(∀ u,(F.S u).rel z (a.tmps.getD u Go.undef))->s.rel z (a.tmps.getD t Go.undef)->∀ u,(St.S ⟨F.slots.set t s,(id,[])::F.blks,F.next⟩ u).rel z (a.tmps.getD u Go.undef):=by intro z s h hs u;show ((F.slots.set t s).getD u .junk).rel z _;rw[a2,wP];split;rename_i y0;subst y0;split;exact hs;trivial;rw[<- a2];exact h u
 have ht:=d.slots t;rw[hS] at ht;rcases ht with ⟨hz,hv⟩|⟨b,o,x5,L,y3,ho,y4,hv⟩;simp only[bx,bR] at hv;refine⟨D,{ d with slots:=O D _ d.slots ?_,blks:=?_,inj:=?_,mem:=?_ },x0⟩;rw[hv];have y1:V=[]:=dM aa;subst y1;exact .inl ⟨rfl,none,0,rfl,fun _=>rfl⟩;intro i j h f;exact d.blks i j (A i j h f).2 f;intro i i' j I b h f h' C;exact d.inj i i' j I b (A i j h f).2 f (A i' I h' C).2 C;intro b l G;obtain⟨X,Y⟩:=d.mem b l G;exact⟨fun i j h f=>X i j (A i j h f).2 f,Y⟩
 ·simp only[bx,bR] at hv;obtain⟨l0,Z,v1,v2,e1,x7,e2⟩:=d.blks id _ hB aw b L;obtain⟨y2,x4⟩:=R D v1 x7;have e2:v2=[]:=e2;subst e2;rw[bw] at e1;subst e1;have U:D.M b=none:=by
   cases G:D.M b with
   | none=>rfl
   | some l=>exact absurd L ((d.mem b l G).1 id _ hB aw)
  obtain⟨K,el,fr,T,x9,_⟩:=Z;have x3:=fun hn=>kF T hn;let z:aC:=⟨D.m,D.n,fun q=>if q=b then cb w b else D.M q⟩;have H:Mem.le D.M z.M:=by intro q l W;show (if q=b then cb w b else D.M q)=some l;by_cases e:q=b;subst e;rw[U] at W;cases W;rw[ai e];exact W
  have x1:aC.le D z:=⟨fun _ _ h=>⟨h,rfl⟩,H⟩;have x6:l0++K≠[]->z.M b=some (l0++K):=fun hn=>by show (if b=b then cb w b else _)=_;rw[ak rfl,x3 hn]
  refine⟨z,{ d with slots:=O z _ (fun u=>SV.fh x1 (d.slots u)) ?_,blks:=?_,inj:=?_,mem:=?_,old:=?_,glob:=?_,bound:=d.bound,init:=d.init,memle:=fun q l' P=>H q l' (d.memle q l' P) },x0⟩;rw[hv];show Rd z.M (.sl e) V _;rcases ho with rfl|rfl;have W:=fS (fun _ _=>b6) x4;refine .inr ⟨b,0+0*c,x5,by rw[y2],aa,l0++K,x6,by rw[a7,W];omega,?_⟩;rw[show 0+0*c=0 by omega,gL,<- W,lz rfl];exact ee (fun _ _ h=>dd H h) x4;exact .inl ⟨dM aa,some ⟨b,o,none⟩,0,by rw[show k=0 by omega],fun h=>by cases h⟩;intro i j h f q P;obtain⟨l,X,Y⟩:=d.blks i j (A i j h f).2 f q P;exact⟨l,X,dU x1 Y⟩;intro i i' j I q h f h' C;exact d.inj i i' j I q (A i j h f).2 f (A i' I h' C).2 C;intro q l G;have G:(if q=b then cb w b else D.M q)=some l:=G;by_cases e:q=b;subst e;rw[ak rfl] at G;refine⟨fun i j h f hi=>(A i j h f).1 (d.inj i id j _ q (A i j h f).2 f hB aw hi L),?_⟩;obtain⟨el,fr,hh⟩:=iE G;exact⟨el,fr,hh⟩;rw[ai e] at G;obtain⟨X,Y⟩:=d.mem q l G;exact⟨fun i j h f=>X i j (A i j h f).2 f,Y⟩;intro q l G x8;have G:(if q=b then cb w b else D.M q)=some l:=G;by_cases e:q=b;subst e;rcases (d.bound id q L).1 with h|h;omega;exact .inl h;rw[ai e] at G;exact d.old q l G x8;intro g κ y hg;exact ko H (d.glob g κ y hg)
theorem UK {E:Env} {N:Nat} {n r:St->Prop} {x:Nat->St->Prop} {l:List Code} {a:St} (t id k c:Nat) (e:Kd) (b:List (aH e)) (g:a.S t=ag (.sl id 0 0 k c)) (f:a.B id=some [.row e k b]) (i:b.length=k)
  (d:Tr E N l ⟨a.slots.set t (ag (.ro e b)),(id,[])::a.blks,a.next⟩ n r x):Tr E N l a n r x :=
 PN t id k c e b (.row e k b) (fun _ _ h=>h) g f i d
theorem PO {E:Env} {N:Nat} {n r:St->Prop} {x:Nat->St->Prop} {l:List Code} {a:St} (t id k c:Nat) (d:IntKind) (b:List Int) (g:a.S t=ag (.sl id 0 0 k c)) (f:a.B id=some [.ints d k b]) (i:b.length=k)
  (e:Tr E N l ⟨a.slots.set t (ag (.ro (.int d) b)),(id,[])::a.blks,a.next⟩ n r x):Tr E N l a n r x :=
 PN t id k c (.int d) b (.ints d k b) (fun _ _ h=>⟨h.1,vb.2 h.2⟩) g f i e
section
variable {E:Env} {ops:Array Oper} {n base:Nat} {Q:Exit->ax}
theorem RF (A:aJ E.P E.sp) {G:List Nat}:∀ (l:List (Oper × Rec)) (i:Nat) (S:cJ) (B:bE) (e:aC) (a:Act) (w:World),Hr E ops n base i l S B ->
  (∀ k p,l[k]?=some p->ops[i+k]?=some p.1)->cR E.w0 n S B e a w->(∀ id b,e id=some b->id<base+8*i) ->
  (∀ m t c,cR E.w0 n (rA n l S) (rz l B) c m t->(∀ id b,c id=some b->id<base+8*(i+l.length))->wpOps E.P ops Q G m t) ->
  wpOps E.P ops Q (List.range' i l.length++G) a w:=by
 intro l;induction l with
 | nil=>intro i S B e a w _ _ y s x;exact x a w e y (by simpa using s)
 | cons p l N =>
  intro i S B e a w C d y s x;obtain⟨o,r⟩:=p;obtain⟨L,C⟩:=C;have F:=d 0 (o,r) rfl;simp only[gh] at F;simp only[bN,tO,iT];unfold wpOps;simp only[F];refine sf A y L (fun j R _=>?_) (fun m t c z f=>?_)
  ·cases g:e j with
   | none=>rfl
   | some b=>have:=s j b g;omega
  refine N (i+1) _ _ c m t C (fun k q K=>?_) z (fun j b g=>?_) (fun H O D I u=>?_);have:=d (k+1) q (by simpa using K);rw[show i+1+k=i+(k+1) from by omega];exact this;rcases f j b g with h|h;have:=s j b h;omega;omega;refine x H O D ?_ (fun j b g=>?_);unfold rA rz at *;simp only[cu,cQ];rw[xZ n l (0+1) 0,xY l (0+1) 0];exact I;have:=u j b g;simp only[bN];omega
theorem aaY (r:aJ E.P E.sp) {z:List Nat} {d:List Oper} {i N:Nat} {e:St} {K:St->List Rec->Prop} {a:Act} {w:World} {s:aC} (h:uH E ops i d e [] K) (g:∀ k o,d[k]?=some o->ops[i+k]?=some o)
  (L:e.slots.length=N) (V:cR E.w0 N e.S e.B s a w) (O:∀ id b,s id=some b->id<e.next+8*i)
  (U:∀ c rs j l,Holds E.w0 N { c with next:=c.next+8*(i+d.length) } j l->K c rs->wpOps E.P ops Q z j l):wpOps E.P ops Q (List.range' i d.length++z) a w:=by
 obtain⟨rs,c,D,u,x,F,H,y,I⟩:=As _ _ _ _ _ h;have f:(d.zip rs).length=d.length:=by simp[D]
 rw[L] at u x y;rw[<- f];refine RF r (d.zip rs) i e.S e.B s a w u (fun k p T=>?_) V O (fun j l t q m=>?_);have:=List.getElem?_zip_eq_some.1 T;exact g k p.1 this.1
 ·refine U c _ j l ⟨y,t,?_,?_⟩ I
  ·have A:({ c with next:=c.next+8*(i+d.length) }:St).S=rA N (d.zip rs) e.S:=by
    show c.S=_;rw[x];unfold rA;exact xZ N _ i 0 e.S
   have C:({ c with next:=c.next+8*(i+d.length) }:St).B=rz (d.zip rs) e.B:=by show c.B=_;rw[F];unfold rz;exact xY _ i 0 e.B
   rw[A,C];exact q
  intro id b R;show id<c.next+8*(i+d.length);have:=m id b R;rw[f] at this;rw[H];exact this
end
section
variable {E:Env}
def yQ (c:aC) (a:Nat):List (Nat × Nat):=(range a).filterMap fun i=>(c i).map fun b=>(i,b)
theorem bf {ρ:aC} {c:Nat} {p:Nat × Nat}:p∈yQ ρ c↔p.1<c/\ρ p.1=some p.2:=by unfold yQ;rw[List.mem_filterMap];constructor;rintro⟨i,g,h⟩;obtain⟨b,f,rfl⟩:=Option.map_eq_some_iff.1 h;exact⟨List.mem_range.1 g,f⟩;rintro⟨d,e⟩;exact⟨p.1,List.mem_range.2 d,by rw[e];rfl⟩
end
namespace Ob
structure rr (S:Nat->Prop) (w w':World):Prop where
 os:w'.os=w.os
 tape:w'.tape=w.tape
 output:w'.output=w.output
 size:w.heap.size<=w'.heap.size
 block:∀ k,k<w.heap.size->¬ S k->w'.heap[k]?=w.heap[k]?
structure aj where
 P:World->Mem->(Nat->Prop)->Prop
 mono:∀ w M M' F,Mem.le M M'->P w M F->P w M' F
 stable:∀ w w' M F,P w M F->(∀ b,F b->w'.heap[b]?=w.heap[b]?)->P w' M F
 lt:∀ w M F,P w M F->∀ b,F b->b<w.heap.size
def aj.none:aj:=⟨fun _ _ F=>∀ b,¬ F b,fun _ _ _ _ _ h=>h,fun _ _ _ _ h _=>h,fun _ _ _ h b f=>(h b f).elim⟩
structure cf where
 P:Program
 sp:FuncId->Option Spec
 gl:Nat->Option (Sigma aH)
 w:World
 S:Nat->Prop
 M:Mem
 pins:List (Nat × Nat):=[]
 ptop:Nat:=0
structure GOk (E:cf) (W:cD) (F:Nat->Prop):Prop where
 gl:W.gl=E.gl
 kep:rr E.S E.w W.w
 ids:∀ p∈W.ids,E.S p.2\/E.w.heap.size<=p.2
 foot:∀ b,F b->E.S b\/E.w.heap.size<=b
 own:∀ b,F b->W.own b=false
 mem:∀ b,F b->∀ l,W.M b≠some l
 old:∀ b l,W.M b=some l->b<E.w.heap.size->E.S b\/E.M b=some l
 xx:∀ p∈E.pins,p∈W.ids
 plt:∀ p∈E.pins,p.1<E.ptop
 mle:Mem.le E.M W.M
def GH (E:cf) (N:Nat) (d:St) (G:aj) (a:Act) (w:World):Prop :=
 ∃ W F,GOk E W F/\G.P W.w W.M F/\Holds W N d a w
abbrev jf (w:World) (c:Nat->Option (Sigma aH)) (ρ:aC) (nx:Nat):cD:=⟨w,yQ ρ nx,c,ρ.M,fun p=>ρ.n p.1,nx⟩
theorem eM {w:World} {f:Nat->Option (Sigma aH)} {ρ:aC} {d:Nat} {b:Nat}:(jf w f ρ d).own b=true↔∃ id,id<d/\ρ id=some b:=by
 simp only[cD.own,qI];constructor
 ·rintro⟨p,c,e⟩;have e:p.2=b:=by simpa using e
  exact⟨p.1,(bf.1 c).1,by rw[<- e];exact (bf.1 c).2⟩
 rintro⟨id,g,h⟩;exact⟨(id,b),bf.2 ⟨g,h⟩,aw⟩
theorem abf {W:cD} {N:Nat} {S:cJ} {B:bE} {d:aC} {a:Act} {w:World} {nx:Nat} (c:cR W N S B d a w) (f:∀ id b,d id=some b->id<nx):cR (jf w W.gl d nx) N S B d a w :=
 ⟨c.defers,c.size,c.slots,kZ.refl (jf w W.gl d nx),c.blks,c.inj,fun id b h=>⟨.inr (eM.2 ⟨id,f id b h,h⟩),(c.bound id b h).2⟩,
  fun p e=>⟨(bf.1 e).2,rfl⟩,c.mem,fun b l h _=>.inr h,c.glob,fun p e=>(bf.1 e).1,Mem.le_refl _⟩
theorem aas {E:cf} {W:cD} {F:Nat->Prop} {N:Nat} {S:cJ} {B:bE} {o:aC} {a:Act} {w:World} {nx:Nat} (h:GOk E W F) (t:∀ b,F b->b<W.w.heap.size) (f:cR W N S B o a w) (A:∀ id b,o id=some b->id<nx):GOk E (jf w E.gl o nx) F/\∀ b,F b->w.heap[b]?=W.w.heap[b]?:=by
 have g:∀ k,E.w.heap.size>k->¬ E.S k->W.own k=false:=by
  intro k u m;cases s:W.own k with
  | false=>rfl
  | true =>
   simp only[cD.own,qI] at s;obtain⟨p,j,e⟩:=s;have e:p.2=k:=by simpa using e
   rcases h.ids p j with h'|h';exact absurd (e▸h') m;omega
 have d:∀ id b,o id=some b->W.a6 b:=fun id b c=>(f.bound id b c).1;refine⟨⟨rfl,⟨f.below.os.trans h.kep.os,f.below.tape.trans h.kep.tape,f.below.output.trans h.kep.output,h9 h.kep.size f.below.size,fun k u m=>?_⟩,fun p j=>?_,h.foot,fun b c=>?_,fun b c l C=>?_,fun b l c i=>?_,fun p j=>?_,h.plt,fun b l c=>f.memle b l (h.mle b l c)⟩,fun b c=>f.below.block b (t b c) (h.own b c)⟩;have:=h.kep.size;exact (f.below.block k aa (g k u m)).trans (h.kep.block k u m)
 ·have:=h.kep.size;rcases d p.1 p.2 (bf.1 j).2 with h'|h';exact .inr aa
  ·simp only[cD.own,qI] at h';obtain⟨q,D,e⟩:=h';have e:q.2=p.2:=by simpa using e
   have:=h.ids q D;rw[e] at this;exact this
 ·cases s:(jf w E.gl o nx).own b with
  | false=>rfl
  | true =>obtain⟨id,_,z⟩:=eM.1 s;rcases d id b z with h'|h';have:=t b c;omega;rw[h.own b c] at h';cases h'
 rcases f.old b l C (t b c) with h'|h';rw[h.own b c] at h';cases h';exact h.mem b c l h';have m:=h.kep.size;rcases f.old b l c aa with h'|h';by_cases y:E.S b;exact .inl y;rw[g b i y] at h';cases h';exact h.old b l h' i;have:=(f.init p (h.xx p j)).1;exact bf.2 ⟨A _ _ this,this⟩
theorem GH.kU {E:cf} {N:Nat} {c:St} {G:aj} {a:Act} {w:World} (h:GH E N c G a w) :
  ∃ F ρ,GOk E (jf w E.gl ρ c.next) F/\G.P w ρ.M F/\c.slots.length=N/\cR (jf w E.gl ρ c.next) N c.S c.B ρ a w/\∀ id b,ρ id=some b->id<c.next:=by
 obtain⟨W,F,g,f,k,ρ,e,d⟩:=h;obtain⟨i,j⟩:=aas (nx:=c.next) g (G.lt _ _ _ f) e d;refine⟨F,ρ,i,G.mono _ _ _ _ e.memle (G.stable _ _ _ _ f j),k,?_,d⟩;have:=abf (nx:=c.next) e d;rw[g.gl] at this;exact this
abbrev cm (E:cf):cD:=⟨E.w,[],E.gl,fun _=>Option.none,fun _=>0,E.ptop⟩
theorem GH.le {E:cf} {N:Nat} {σ τ:St} {G:aj} {a:Act} {w:World} {K:Prop} (hh:GH E N σ G a w) (h:σ.le (cm E) τ K):K/\GH E N τ G a w:=by
 obtain⟨F,ρ,u,hG,hN,H,hd⟩:=hh.kU;unfold St.le at h;obtain⟨q,h⟩:=qx h;simp only[aX] at q;obtain⟨⟨g,T⟩,o⟩:=q;have o:E.ptop<=τ.next:=by simpa[ua] using o
 have g:τ.next<=σ.next:=by simpa[ua] using g
 obtain⟨h,R,z⟩:=vN h;obtain⟨hK,f⟩:=yc h;simp only[St.wf,aX,mX] at T;obtain⟨x0,x1⟩:=T;have d:∀ i b,(ρ.cut τ.next) i=some b->ρ i=some b:=by intro i b h;simp only[aC.cut] at h;by_cases y:i<τ.next;simpa[y] using h;simp[y] at h
 have C:∀ i b,(ρ.cut τ.next) i=some b->i<τ.next:=by intro i b h;simp only[aC.cut] at h;by_cases y:i<τ.next;exact y;simp[y] at h
 refine⟨hK,jf w E.gl (ρ.cut τ.next) τ.next,F,⟨rfl,u.kep,fun p m=>?_,u.foot,fun b q=>?_,fun b q l hl=>u.mem b q l hl,u.old,fun p m=>?_,u.plt,u.mle⟩,hG,by rw[<- R];exact hN,ρ.cut τ.next,
  ⟨H.defers,H.size,?_,kZ.refl _,?_,?_,?_,fun p m=>⟨(bf.1 m).2,rfl⟩,?_,fun b l h _=>.inr h,H.glob,fun p m=>(bf.1 m).1,Mem.le_refl _⟩,C⟩
 have m:=(bf.1 m).2;refine u.ids p (bf.2 ⟨hd _ _ (d _ _ m),d _ _ m⟩)
 ·cases W:(jf w E.gl (ρ.cut τ.next) τ.next).own b with
  | false=>rfl
  | true =>obtain⟨id,_,A⟩:=eM.1 W;have:=u.own b q;rw[eM.2 ⟨id,hd _ _ (d _ _ A),d _ _ A⟩] at this;cases this
 have Q:=u.plt p m;have A:=(bf.1 (u.xx p m)).2;have L:p.1<τ.next:=fe Q o;exact bf.2 ⟨L,by simp only[aC.cut,L,eB];exact A⟩
 ·intro t;rcases z t with h|h;show (τ.slots.getD t .junk).rel _ _;rw[h];trivial
  ·have:=H.slots t;show (τ.slots.getD t .junk).rel _ _;have this:(τ.slots.getD t .junk).rel ρ _:=h _ _ this;refine SV.ng this ?_;cases Z:τ.slots[t]? with
   | none=>simp[Z,SV.below,SV.ids]
   | some v=>simpa[Z] using x0 v (dP Z)
 intro id O Y I b q;have D:=gV Y;obtain⟨l,L,V⟩:=H.blks id O (f _ D) I b (d _ _ q);have hw:=x1 _ D;refine⟨l,L,sH V (fun c W i y=>?_)⟩;have:=hw.2 c W i y;simpa[lG] using this;intro i j O U b Q A L V h5 h6;exact H.inj i j O U b (f _ (gV Q)) A (f _ (gV L)) V (d _ _ h5) (d _ _ h6);intro i b h;exact⟨.inr (eM.2 ⟨i,C _ _ h,h⟩),(H.bound i b (d _ _ h)).2⟩;intro b l q;obtain⟨Q,A⟩:=H.mem b l q;exact⟨fun i O y I x2=>Q i O (f _ (gV y)) I (d _ _ x2),A⟩
theorem afa {a b i m:Nat} (c:a<m) (d:b<m) (h:jP a b i<m):i<m:=by rw[CS] at h;split at h;omega;split at h<;>omega
theorem GH.sw {E:cf} {N:Nat} {f:St} {G:aj} {X:Act} {w:World} {a b:Nat} (hh:GH E N f G X w) (C:MK (cm E) f.next a b=true):GH E N (f.sw a b) G X w:=by
 obtain⟨F,A,o,hG,hn,y,K⟩:=hh.kU;simp only[MK,aX] at C;obtain⟨⟨Q,R⟩,D,H⟩:=C;have D:E.ptop<=a:=by simpa[ua] using D
 have H:E.ptop<=b:=by simpa[ua] using H
 have Q:=fG Q;have R:=fG R;have I:∀ i k,(f.sw a b).B i=some k->∃ m,f.B (jP a b i)=some m/\k=m.map (Cell.sw a b):=by intro i k h;have:cW (f.blks.map (fun p=>(jP a b p.1,p.2.map (Cell.sw a b)))) i=some k:=h;rw[LK] at this;obtain⟨m,s,d⟩:=Option.map_eq_some_iff.1 this;exact⟨m,s,d.symm⟩
 have u:∀ id x,(A.sw a b) id=some x->id<f.next:=fun id x q=>afa Q R (K _ x q);refine⟨jf w E.gl (A.sw a b) f.next,F,⟨rfl,o.kep,fun p g=>?_,o.foot,fun c hc=>?_,o.mem,o.old,fun p g=>?_,o.plt,o.mle⟩,hG,by simpa[St.sw] using hn,A.sw a b,⟨y.defers,y.size,?_,kZ.refl _,?_,?_,?_,fun p g=>⟨(bf.1 g).2,rfl⟩,?_,fun c l h _=>.inr h,y.glob,fun p g=>(bf.1 g).1,Mem.le_refl _⟩,u⟩;have g:A (jP a b p.1)=some p.2:=(bf.1 g).2;exact o.ids (jP a b p.1,p.2) (bf.2 ⟨K _ _ g,g⟩)
 ·cases hq:(jf w E.gl (A.sw a b) f.next).own c with
  | false=>rfl
  | true =>obtain⟨id,_,d⟩:=eM.1 hq;have d:A (jP a b id)=some c:=d;have:=o.own c hc;rw[eM.2 ⟨_,K _ _ d,d⟩] at this;cases this
 ·have s:=o.plt p g;have d:=(bf.1 (o.xx p g)).2;have e:jP a b p.1=p.1:=by rw[CS,ai aa,ai aa]
  exact bf.2 ⟨K _ _ d,by show A (jP a b p.1)=_;rw[e];exact d⟩
 ·intro t;have:=SV.ux (a:=a) (b:=b) (y.slots t);have e:(f.sw a b).S t=(f.S t).sw a b:=by
   show (f.slots.map (SV.sw a b)).getD t .junk=(f.slots.getD t .junk).sw a b;rw[a2,a2,dy];cases f.slots[t]? <;> rfl
  rw[e];exact this
 intro i k T z x q;obtain⟨m,s,d⟩:=I i k T;subst d;obtain⟨l,g1,g2⟩:=y.blks _ m s (by intro e;subst e;exact z rfl) x q;exact⟨l,g1,vy g2⟩
 ·intro i j k L x s d Y Z h5 h6;obtain⟨m,V,W⟩:=I i k s;obtain⟨O,k3,k4⟩:=I j L Y;have:=y.inj _ _ m O x V (by intro e;subst e;subst W;exact d rfl) k3 (by intro e;subst e;subst k4;exact Z rfl) h5 h6;have:=congrArg (jP a b) this
  rwa [rk,rk] at this
 intro i x q;exact⟨.inr (eM.2 ⟨i,u i x q,q⟩),(y.bound _ x q).2⟩;intro x l q;obtain⟨s,d⟩:=y.mem x l q;refine⟨fun i k T z U=>?_,d⟩;obtain⟨m,V,W⟩:=I i k T;exact s _ m V (by intro e;subst e;subst W;exact z rfl) U
theorem GH.uO {E:cf} {N:Nat} {G:aj} {c:Act} {w:World}:∀ {l:List (Nat × Nat)} {b:St},GH E N b G c w->DI (cm E) b.next l=true->GH E N (b.uO l) G c w:=by
 intro l;induction l with
 | nil=>intro b h _;exact h
 | cons p l d =>intro b h a;simp only[DI,aX] at a;exact d (h.sw a.1) a.2
theorem GH.sr {E:cf} {N:Nat} {b c:St} {G:aj} {a:Act} {w:World} {K:Prop} {sw:List (Nat × Nat)} (f:GH E N b G a w) (h:b.sr (cm E) sw c K):K/\GH E N c G a w:=by unfold St.sr at h;obtain⟨d,e⟩:=qx h;exact (f.uO d).le e
theorem GH.mono {E:cf} {N:Nat} {c:St} {G b:aj} {a:Act} {w:World} (h:GH E N c G a w) (g:∀ w M F,G.P w M F->b.P w M F):GH E N c b a w:=by obtain⟨W,F,d,e,f⟩:=h;exact⟨W,F,d,g _ _ _ e,f⟩
def aN (P:Program) (l:List Code) (Pre n r:ax) (x:Nat->ax):Prop :=
 ∀ (a:Act) (w:World) (Q:Exit->ax),Pre a w->(∀ a w,n a w->Q .normal a w)->(∀ a w,r a w->Q .ret a w)->(∀ i a w,x i a w->Q (.exit i) a w)->kA P l Q a w
section
variable {P:Program} {Pre n r:ax} {x:Nat->ax}
theorem cr (h:∀ a w,Pre a w->n a w):aN P [] Pre n r x:=fun a w _ e d _ _=>d a w (h a w e)
theorem n8 {l:List Code} {b:ax} (h:∀ a w,Pre a w->b a w) (c:aN P l b n r x):aN P l Pre n r x:=fun a w Q d=>c a w Q (h a w d)
theorem F5 {e:Type} {l:List Code} {Pre':e->ax} (h:∀ a w,Pre a w->∃ g,Pre' g a w) (b:∀ g,aN P l (Pre' g) n r x):aN P l Pre n r x:=fun a w Q d=>by obtain⟨g,c⟩:=h a w d;exact b g a w Q c
theorem mJ {l1 l2:List Code} (c:ax) (g:aN P l1 Pre c r x) (j:aN P l2 c n r x):aN P (l1++l2) Pre n r x:=by intro a w Q m l e f;refine zw _ _ a w (g a w _ m (fun b d k=>?_) (fun b d h=>e b d h) (fun i b d h=>f i b d h));exact j b d Q k l e f
theorem sV {α β:Type} {l:List Code} {c:Code} (I:α->ax) (k:α->Nat) (out:β->ax) (z:l.head?=some c) (u:dq c=true) (s:∀ a w,Pre a w->∃ g,I g a w)
  (t:∀ g,aN P (aV c) (I g) (fun a w=>∃ q,I q a w/\k q<k g) r (fun i a w=>match beq i (b7 c) with|true=>∃ o,out o a w|false=>x i a w))
  (O:∀ o,aN P l.tail (out o) n r x):aN P l Pre n r x:=by
 intro a w Q V U D F;cases l with
 | nil=>simp at z
 | cons d l =>
  simp at z;subst z;unfold dq at u;split at u
  ·rename_i id b;obtain⟨C,s⟩:=s a w V;refine wp_block ?_;refine wp_loop_ghost (fun m a w=>∃ g,k g=m/\I g a w) (k C) ⟨C,rfl,s⟩ ?_;rintro m a w ⟨g,rfl,T⟩;have A:=t g a w (Exit.then (fun f h=>∃ H,H<k g/\∃ g,k g=H/\I g f h) (Exit.inBlock id (Exit.then (kA P l Q) Q))) T ?_ ?_ ?_;have:=jR b [] _ a w (by simpa[aV] using A);refine wp_mono this ?_;intro e f h R;cases e<;>exact R;rintro f h ⟨q,K,L⟩;exact⟨k q,L,q,rfl,K⟩;intro f h j;exact D f h j
   ·intro i f h j;show Exit.inBlock id (Exit.then (kA P l Q) Q) (.exit i) f h;simp only[Exit.inBlock];by_cases y:i=id;subst y;rw[ak rfl];simp only[b7,gi] at j;obtain⟨o,j⟩:=j;exact O o f h Q j U D F
    ·rw[ai y];have:beq i id=false:=by
      cases t:beq i id with
      | false=>rfl
      | true=>exact absurd (beq_true t) y
     simp only[b7,this] at j;exact F i f h j
  cases u
end
section
variable {E:cf} {N:Nat} {n r:ax} {x:Nat->ax}
theorem vJ {l:List Code} {k:St} {G:aj} (nn q:St->Prop) (s:Nat->St->Prop)
  (h:∀ (w:World) (ids:List (Nat × Nat)) (M:Mem) (num:Nat × Nat->Nat),Tr ⟨E.P,E.sp,⟨w,ids,E.gl,M,num,k.next⟩⟩ N l k nn q s)
  (z:∀ b a w,nn b->GH E N b G a w->n a w) (A:∀ b a w,q b->GH E N b G a w->r a w) (C:∀ i b a w,s i b->GH E N b G a w->x i a w):aN E.P l (GH E N k G) n r x:=by
 intro a w Q y D H I;obtain⟨F,j,o,m,t,g,u⟩:=y.kU;exact h w (yQ j k.next) j.M (fun p=>j.n p.1) a w Q ⟨t,j,g,u⟩ (fun b d e c f=>D d e (z b d e f ⟨_,F,o,m,c⟩))
  (fun b d e c f=>H d e (A b d e f ⟨_,F,o,m,c⟩)) (fun i b d e c f=>I i d e (C i b d e f ⟨_,F,o,m,c⟩))
theorem ju (f:aJ E.P E.sp) (k:E.P.follows .mixedOrders=true) {l:List Code} {e:St} {G:aj} (nn g:St->Prop) (j:Nat->St->Prop)
  (h:∀ (w:World) (ids:List (Nat × Nat)) (M:Mem) (num:Nat × Nat->Nat),VC ⟨E.P,E.sp,⟨w,ids,E.gl,M,num,e.next⟩⟩ l e nn g j)
  (m:∀ d a w,nn d->GH E N d G a w->n a w) (o:∀ d a w,g d->GH E N d G a w->r a w) (q:∀ i d a w,j i d->GH E N d G a w->x i a w):aN E.P l (GH E N e G) n r x :=
 vJ nn g j (fun w ids M num=>bJ (E:=⟨E.P,E.sp,⟨w,ids,E.gl,M,num,e.next⟩⟩) f k l e (h w ids M num)) m o q
theorem pF (j:aJ E.P E.sp) (z:E.P.follows .mixedOrders=true) {l:List Code} {s:St} {G:aj} {α:Type} (k:Nat) (f:St->α) (d:α->St) (K:α->Prop) (m:St->Prop) (o:Nat->St->Prop)
  (h:∀ (w:World) (ids:List (Nat × Nat)) (M:Mem) (num:Nat × Nat->Nat),VC ⟨E.P,E.sp,⟨w,ids,E.gl,M,num,s.next⟩⟩ (l.take k) s (fun b=>b.le (cm E) (d (f b)) (K (f b))) m o)
  (u:∀ g,K g->aN E.P (l.drop k) (GH E N (d g) G) n r x) (A:∀ b a w,m b->GH E N b G a w->r a w) (C:∀ i b a w,o i b->GH E N b G a w->x i a w):aN E.P l (GH E N s G) n r x:=by
 rw[<- dO k l];refine mJ (fun a w=>∃ g,K g/\GH E N (d g) G a w) (ju j z _ m o h (fun b a w t e=>⟨_,e.le t⟩) A C) ?_;exact F5 (Pre':=fun (g:{ g // K g })=>GH E N (d g.1) G) (fun a w ⟨g,y,e⟩=>⟨⟨g,y⟩,e⟩) (fun g=>u g.1 g.2)
theorem kO (j:aJ E.P E.sp) (z:E.P.follows .mixedOrders=true) {l:List Code} {s:St} {G:aj} {q:Type} (k:Nat) (sw:List (Nat × Nat)) (f:St->q) (d:q->St) (K:q->Prop) (m:St->Prop) (o:Nat->St->Prop)
  (h:∀ (w:World) (ids:List (Nat × Nat)) (M:Mem) (num:Nat × Nat->Nat),VC ⟨E.P,E.sp,⟨w,ids,E.gl,M,num,s.next⟩⟩ (l.take k) s (fun b=>b.sr (cm E) sw (d (f (b.uO sw))) (K (f (b.uO sw)))) m o)
  (u:∀ g,K g->aN E.P (l.drop k) (GH E N (d g) G) n r x) (A:∀ b a w,m b->GH E N b G a w->r a w) (C:∀ i b a w,o i b->GH E N b G a w->x i a w):aN E.P l (GH E N s G) n r x:=by
 rw[<- dO k l];refine mJ (fun a w=>∃ g,K g/\GH E N (d g) G a w) (ju j z _ m o h (fun b a w t e=>⟨_,e.sr t⟩) A C) ?_;exact F5 (Pre':=fun (g:{ g // K g })=>GH E N (d g.1) G) (fun a w ⟨g,y,e⟩=>⟨⟨g,y⟩,e⟩) (fun g=>u g.1 g.2)
theorem Lh {l:List Code} {c:Code} {e:St} {G:aj} (t:Bool) (i:l.head?=some c) (g:nT c=true) (o:jH e.S (nO c)=ag (.v (.bool t)))
  (y:t=true->aN E.P (fX c++l.tail) (GH E N e G) n r x) (z:t=false->aN E.P (rD c++l.tail) (GH E N e G) n r x):aN E.P l (GH E N e G) n r x:=by
 intro a w Q h k m s;cases l with
 | nil=>simp at i
 | cons d l =>simp at i;subst i;unfold nT at g;split at g;rename_i c p q;obtain⟨F,u,H,A,C,f,D⟩:=h.kU;have b:(jH e.S c).rel u (a.eval c):=cR.fC (E:=⟨E.P,E.sp,jf w E.gl u e.next⟩) f c;simp only[nO] at o;rw[o] at b;refine wp_cond_split (cc b) (fun j=>?_) (fun j=>?_);exact jR p l Q a w (y j a w Q h k m s);exact jR q l Q a w (z j a w Q h k m s);cases g
theorem dL {l:List Code} {c:Code} {Pre:ax} (h:ax) (u:l.head?=some c) (o:Db c=true)
  (F:aN E.P (cV c) Pre h r (fun i a w=>match beq i (b7 c) with|true=>h a w|false=>x i a w)) (C:aN E.P l.tail h n r x):aN E.P l Pre n r x:=by
 intro a w Q K D y z;cases l with
 | nil=>simp at u
 | cons d l =>
  simp at u;subst u;unfold Db at o;split at o
  ·rename_i id b;refine wp_block ?_;have A:=F a w (Exit.inBlock id (Exit.then (kA E.P l Q) Q)) K (fun g j f=>C g j Q f D y z) (fun g j f=>y g j f) ?_;have:=jR b [] _ a w (by simpa[cV] using A);refine wp_mono this ?_;intro e g j I;cases e<;>exact I
   ·intro i g j f;simp only[Exit.inBlock];by_cases s:i=id;subst s;rw[ak rfl];simp only[b7,gi] at f;exact C g j Q f D y z
    ·rw[ai s];have:beq i id=false:=by
      cases G:beq i id with
      | false=>rfl
      | true=>exact absurd (beq_true G) s
     simp only[b7,this] at f;exact z i g j f
  cases o
def kz (P:Program) (b:Array Oper) (i:Nat) (l:List Code) (Pre n r:ax) (x:Nat->ax):Prop :=
 ∀ (a:Act) (w:World) (Q:Exit->ax),Pre a w->(∀ a w,n a w->Q .normal a w)->(∀ a w,r a w->Q .ret a w)->(∀ i a w,x i a w->Q (.exit i) a w)->wpOps P b (Exit.then (kA P l Q) Q) (List.range' i (b.size-i)) a w
theorem QJ {l:List Code} {rid:Nat} {b:Array Oper} {Pre:ax} (d:l.head?=some (.region rid b false)) (h:kz E.P b 0 l.tail Pre n r x):aN E.P l Pre n r x:=by
 intro a w Q f e g i;cases l with
 | nil=>simp at d
 | cons c l =>simp only[List.head?_cons,aE] at d;subst d;show (Code.region rid b false).wp E.P (Exit.then (kA E.P l Q) Q) a w;refine wp_region ?_;have:=h a w Q f e g i;rw[Nat.sub_zero,<- List.range_eq_range'] at this;exact this
theorem HU {l:List Code} {b:Array Oper} {i:Nat} {Pre:ax} (c:b.size<=i) (h:aN E.P l Pre n r x):kz E.P b i l Pre n r x:=by intro a w Q e d f g;rw[Nat.sub_eq_zero_of_le c];exact h a w Q e d f g
theorem kJ {l:List Code} {ops:Array Oper} {i:Nat} {Pre b:ax} (h:∀ a w,Pre a w->b a w) (d:kz E.P ops i l b n r x):kz E.P ops i l Pre n r x:=fun a w Q e=>d a w Q (h a w e)
theorem OC (I:aJ E.P E.sp) {l:List Code} {c:Array Oper} {i:Nat} {y:St} {G:aj} {L:Type} (j:Nat) (f:St->L) (O:L->St) (K:L->Prop) (Y:i<=j) (hj:j<=c.size)
  (T:∀ (w:World) (ids:List (Nat × Nat)) (M:Mem) (num:Nat × Nat->Nat),uH ⟨E.P,E.sp,⟨w,ids,E.gl,M,num,y.next⟩⟩ c i ((c.toList.drop i).take (j-i)) y [] (fun d _=>({ d with next:=d.next+8*j }:St).le (cm E) (O (f { d with next:=d.next+8*j })) (K (f { d with next:=d.next+8*j }))))
  (U:∀ g,K g->kz E.P c j l (GH E N (O g) G) n r x):kz E.P c i l (GH E N y G) n r x:=by
 intro a w Q X D H Z;have m:((c.toList.drop i).take (j-i)).length=j-i:=by rw[c5,gf,np];omega
 have e:List.range' i (c.size-i)=List.range' i ((c.toList.drop i).take (j-i)).length++List.range' j (c.size-j):=by
  rw[m];conv=>rhs;arg 2;rw[show j=i+1*(j-i) from by omega]
  rw[List.range'_append];congr 1;omega
 rw[e];obtain⟨F,ρ,C,V,W,t,q⟩:=X.kU;refine aaY (E:=⟨E.P,E.sp,jf w E.gl ρ y.next⟩) I (T _ _ _ _) (fun k o u=>?_) W t (fun id b h=>?_) (fun d rs R w1 s z=>?_);rw[fE,List.getElem?_drop] at u;split at u;simpa using u;cases u;have:=q id b h;omega;rw[m,show i+(j-i)=j from by omega] at s;obtain⟨z,A⟩:=GH.le (E:=E) (G:=G) ⟨_,F,C,V,s⟩ z;exact U _ z R w1 Q A D H Z
def nV (a:Array Oper) (k:Nat):Option Tmp:=match a[k]? with
 | some o=>o.dst
 | none=>none
def zb (a:Array Oper) (k:Nat):List Operand:=match a[k]? with
 | some ⟨_,.call c,_,_,_,_⟩=>c.args.toList
 | _=>[]
def lJ (S:cJ) (b:Array Oper):Option (Nat × Bool)->Bool
 | none=>true
 | some (j,a)=>match (b[j]?).bind (·.dst) with
  | some d=>match S d,a with
   | .is (.one .T),true=>true
   | .is (.one .F),false=>true
   | _,_=>false
  | none=>false
def J8 (S:cJ) (a:Array Oper) (k:Nat) (f:FuncId):Bool:=match a[k]? with
 | some ⟨_,.call ⟨.value o,_,_⟩,_,_,_,g⟩=>lJ S a g&&match fC S o with
  | .is (.one (.v (.func (.func g) ⟨[]⟩ ⟨[]⟩)))=>beq g f
  | _=>false
 | _=>false
theorem aeC {D:Array Oper} {k:Nat} {I:St} {G:aj} {f:FuncId} {fn:Func}
  {α:Type} (sv:α->SV) (G2:α->aj) (J:α->Prop)
  (s:J8 I.S D k f=true) (hf:enters E.P f fn)
  (h2:∀ (H:World) (ρ:aC) (us:List Value) (F:Nat->Prop),G.P H ρ.M F->Mem.le ρ.M (cb H)->rq E.gl ρ.M->(∀ b,F b->∀ l,ρ.M b≠some l)->bq ρ ((zb D k).map (fC I.S)) us ->
   Calls E.P f ⟨us⟩ H fun e W=>∃ g v F2 M2,J g/\e=.returned v/\(G2 g).P W M2 F2/\(∀ b,F2 b->F b\/H.heap.size<=b)/\rr F H W/\Mem.le ρ.M M2/\(∀ b l,M2 b=some l->cb W b=some l/\¬ F2 b/\(H.heap.size<=b\/F b\/ρ.M b=some l))/\∀ ρ':aC,aC.le ρ ρ'->ρ'.M=M2->(sv g).rel ρ' v)
  {C:ax} {Q:Exit->ax} (h4:∀ g,J g->∀ a w,GH E N (I.put (nV D k) (sv g)) (G2 g) a w->C a w) {U:Act} {H:World} (y9:GH E N I G U H):∃ o,D[k]?=some o/\Region.wanted o (yielded D U.tmps)=true/\o.wp E.P U H C Q:=by
 obtain⟨z,o,args,ts,ty,pos,af,gd,ho,z1,R⟩:∃ z o args ts ty pos af gd,D[k]?=some ⟨z,.call ⟨.value o,args,ts⟩,ty,pos,af,gd⟩/\fC I.S o=ag (.v (.func (.func f) ⟨[]⟩ ⟨[]⟩))/\lJ I.S D gd=true:=by unfold J8 at s;split at s;rename_i h;simp only[aX] at s;obtain⟨y8,s⟩:=s;split at s;rename_i z2;have:=beq_true s;subst this;exact⟨_,_,_,_,_,_,_,_,h,z2,y8⟩;cases s;cases s
 have x9:nV D k=z:=by unfold nV;rw[ho]
 have x1:zb D k=args.toList:=by unfold zb;rw[ho]
 rw[x9] at h4;rw[x1] at h2;obtain⟨F,y,q,y3,Z,c,K⟩:=y9.kU;refine⟨_,ho,?_,?_⟩
 ·unfold Region.wanted;cases gd with
  | none=>rfl
  | some p =>obtain⟨j,z5⟩:=p;unfold lJ at R;simp only at R;split at R;rename_i d hd;have L:=c.slots d;split at R;rename_i hT;rw[hT] at L;have L:[_]=[Value.bool true]:=L;have L:=(m5 L).1;simp only[nK hd L];rfl;rename_i hF;rw[hF] at L;have L:[_]=[Value.bool false]:=L;have L:=(m5 L).1;simp only[nK hd L];rfl;cases R;cases R
 have y7:U.eval o=.func (.func f) ⟨[]⟩ ⟨[]⟩:=by have h:=cR.fC (E:=⟨E.P,E.sp,jf H E.gl y I.next⟩) c o;rw[z1] at h;exact cc h
 have ex:execOp U.eval ⟨z,.call ⟨.value o,args,ts⟩,ty,pos,af,gd⟩=(callFunc f ((#[]++args.map U.eval) ++ #[])):=by show (do let d <- Deferred.ofValue (U.eval o) (args.map U.eval);invoke d.target d.args)=_;rw[y7];rfl
 have x6:(#[]++args.map U.eval) ++ #[]=(⟨args.toList.map U.eval⟩:Array Value):=by apply jn;simp
 unfold Oper.wp;rw[ex,x6,hf.2];have x8:Mem.le y.M (cb H):=fun b l u=>by obtain⟨_,el,fr,h⟩:=c.mem b l u;exact j8 h
 have x4:bq y (args.toList.map (fC I.S)) (args.toList.map U.eval):=cR.afi (E:=⟨E.P,E.sp,jf H E.gl y I.next⟩) c args.toList;refine (h2 H y _ F y3 x8 (fun g e x hg=>c.glob g e x hg) (fun b u l hl=>q.mem b u l hl) x4).mono ?_;rintro e W ⟨g,v,F2,M2,hJ,rfl,y4,x7,A,X,x0,z3⟩;have z4:∀ b l,y.M b=some l->b<H.heap.size:=fun b l u=>sZ (x8 b l u);let O:aC:=⟨y.m,y.n,M2⟩;have V:aC.le y O:=⟨fun i b h=>⟨h,rfl⟩,X⟩;have mL:∀ id b,y id=some b->¬ F b:=fun id b u hF=>by have h:=q.own b hF;rw[eM.2 ⟨id,K id b u,u⟩] at h;cases h
 have Y:∀ b,b<H.heap.size->¬ F b->W.heap[b]?=H.heap[b]?:=A.block;have x3:cR (jf W E.gl O I.next) N (fw N z (sv g) I.S) I.B O (U.put z v) W:=by
  refine⟨by rw[put_defers];exact c.defers,by rw[Am];exact c.size,?_,kZ.refl _,?_,c.inj,fun id b h=>⟨.inr (eM.2 ⟨id,K id b h,h⟩),fe (c.bound id b h).2 A.size⟩,fun p hp=>⟨(bf.1 hp).2,rfl⟩,?_,fun b l h _=>.inr h,?_,fun p hp=>(bf.1 hp).1,Mem.le_refl _⟩
  ·intro t;rw[Dx z v t c.size];cases z with
   | none=>exact SV.fh V (c.slots t)
   | some d =>simp only[fw];by_cases hc:t=d/\d<N;simp only[hc,and_self,eB];exact z3 O V rfl;simp only[hc,dQ];exact SV.fh V (c.slots t)
  intro id cs T x2 b u;obtain⟨l,y5,y6⟩:=c.blks id cs T x2 b u;refine⟨l,?_,dU V y6⟩;obtain⟨y2,el,fr,k1,k2⟩:=y5;exact⟨y2,el,fr,(Y b (c.bound id b u).2 (mL id b u)).trans k1,k2⟩;intro b l u;obtain⟨h1,h2,h3⟩:=x0 b l u;refine⟨fun i cs hi x2 x5=>?_,iE h1⟩;rcases h3 with h3|h3|h3;have:=(c.bound i b x5).2;omega;exact mL i b x5 h3;exact (c.mem b l h3).1 i cs hi x2 x5;intro gg e x hg;exact ko V.mem (c.glob gg e x hg)
 have y0:GOk E (jf W E.gl O I.next) F2:=by
  refine⟨rfl,⟨A.os.trans q.kep.os,A.tape.trans q.kep.tape,A.output.trans q.kep.output,h9 q.kep.size A.size,fun b u L=>?_⟩,fun p hp=>q.ids p (bf.2 (bf.1 hp)),fun b u=>?_,fun b u=>?_,fun b u l hl=>?_,fun b l u z0=>?_,fun p hp=>bf.2 (bf.1 (q.xx p hp)),q.plt,fun b l u=>X b l (q.mle b l u)⟩;have:=q.kep.size;refine (Y b (fe u this) (fun hF=>?_)).trans (q.kep.block b u L);rcases q.foot b hF with h|h;exact L h;omega;have:=q.kep.size;rcases x7 b u with h|h;exact q.foot b h;exact .inr (h9 this h)
  ·cases hc:(jf W E.gl O I.next).own b with
   | false=>rfl
   | true =>obtain⟨id,_,T⟩:=eM.1 hc;have T:y id=some b:=T;rcases x7 b u with h|h;exact (mL id b T h).elim;have:=(c.bound id b T).2;omega
  exact (x0 b l hl).2.1 u;rcases (x0 b l u).2.2 with h|h|h;have:=q.kep.size;have h6:E.w.heap.size<=H.heap.size:=this;omega;rcases q.foot b h with h|h;exact .inl h;omega;exact q.old b l h z0
 have y1:((I.put z (sv g)).S=fw N z (sv g) I.S):=by rw[GK,Z]
 refine h4 g hJ _ W ⟨_,F2,y0,y4,by rw[za];exact Z,O,?_,fun id b h=>by rw[Al];exact K id b h⟩;rw[y1,Kg];exact x3
theorem NC {P:Program} {a:FuncId->Option Spec} {W W':cD} {b:St}:∀ rs:List ResultVar,r8 ⟨P,a,W⟩ b rs=r8 ⟨P,a,W'⟩ b rs:=by
 intro rs;induction rs with
 | nil=>rfl
 | cons r rs c =>
  have h:DA ⟨P,a,W⟩ b r=DA ⟨P,a,W'⟩ b r:=by cases r<;>rfl
  simp only[r8,c,h]
theorem T4 {P:Program} {a:FuncId->Option Spec} {W W':cD} {b:St} {fn:Func} {Q:SV->St->Prop} (h:ll ⟨P,a,W⟩ fn Q b):ll ⟨P,a,W'⟩ fn Q b:=by unfold ll GN at h ⊢;rw[NC (W:=W) (W':=W')] at h;exact h
def c1 (E:cf) (fn:Func) (Q:SV->aj->Prop) (a:Act) (w:World):Prop :=
 ∃ b G W,GH E fn.ntmps b G a w/\ll ⟨E.P,E.sp,W⟩ fn (fun sv _=>Q sv G) b
theorem gfn {f:FuncId} {fn:Func} (hf:E.P.funcs[f]?=some fn) (t:fn.body.isSome=true) {args:List SV} {A:List Value} {M:Mem} {F0:Nat->Prop} {G0:aj} {Q:SV->aj->Prop}
  (D:E.M=M) (hM:Mem.le M (cb E.w)) (I:rq E.gl M) (hv:bq (aC.start M) args A) (hn:args.length<=fn.ntmps) (Z:G0.P E.w M F0) (o:E.pins=[]) (T:∀ b,F0 b->E.S b/\∀ l,M b≠some l)
  (h:aN E.P (al fn) (GH E fn.ntmps (lx fn args [] 0) G0) (c1 E fn Q) (c1 E fn Q) (fun _ _ _=>False)) :
  Calls E.P f ⟨A⟩ E.w fun e s=>∃ v d G F ρ,e=.returned v/\d.rel ρ v/\Q d G/\G.P s ρ.M F/\rr E.S E.w s/\Mem.le ρ.M (cb s)/\(∀ b,F b->E.S b\/E.w.heap.size<=b)/\(∀ b,F b->∀ l,ρ.M b≠some l)/\(∀ b l,ρ.M b=some l->b<E.w.heap.size->E.S b\/M b=some l)/\Mem.le M ρ.M:=by
 subst D;obtain⟨c,U⟩:=Option.isSome_iff_exists.1 t;have K:Start ⟨E.w,[],E.gl,E.M,fun _=>0,0⟩ [] 0 (aC.start E.M) :=
  ⟨fun id R h=>by simp[cW] at h,fun id x0 R Y b h=>by simp[cW] at h,fun _ _ h=>by simp[aC.start] at h,fun _ h=>by simp at h,fun _ _ h=>by simp[aC.start] at h,
   fun b l g=>⟨fun i R h=>by simp[cW] at h,iE (hM b l g)⟩,fun b l g _=>.inr g,I,fun _ h=>by simp at h,Mem.le_refl _⟩
 have hh:=yl (E:=⟨E.P,E.sp,⟨E.w,[],E.gl,E.M,fun _=>0,0⟩⟩) (fn:=fn) K hv hn;refine calls_of_wp hf U ?_;have q:∀ a w,c1 E fn Q a w->a.defers=[]/\∃ v,(results fn a.tmps).run E.P w=.ok v w/\∃ X d G F ρ,(Ending.returned v)=.returned X/\SV.rel ρ d X/\Q d G/\G.P w ρ.M F/\rr E.S E.w w/\Mem.le ρ.M (cb w)/\(∀ b,F b->E.S b\/E.w.heap.size<=b)/\(∀ b,F b->∀ l,ρ.M b≠some l)/\(∀ b l,ρ.M b=some l->b<E.w.heap.size->E.S b\/E.M b=some l)/\Mem.le E.M ρ.M:=by
  rintro a w ⟨O,G,W,H,u⟩;obtain⟨F,ρ,j,C,hN,k,V⟩:=H.kU;have m:ll ⟨E.P,E.sp,jf w E.gl ρ O.next⟩ fn (fun d _=>Q d G) O:=T4 u;unfold ll at m;split at m
  ·rename_i d L;obtain⟨v,g1,g2⟩:=CJ (E:=⟨E.P,E.sp,jf w E.gl ρ O.next⟩) k L
   exact⟨k.defers,v,g1,v,d,G,F,ρ,rfl,g2,m,C,j.kep,fun b l g=>by
    obtain⟨_,el,fr,h⟩:=k.mem b l g
    exact j8 h,j.foot,fun b g l z=>j.mem b g l z,j.old,j.mle⟩
  exact m.elim
 have z:flat c++[]=al fn:=by simp[al,U]
 suffices hw:kA E.P (al fn) (bodyPost E.P fn fun e s=>∃ v d G F ρ,e=.returned v/\SV.rel ρ d v/\Q d G/\G.P s ρ.M F/\rr E.S E.w s/\Mem.le ρ.M (cb s)/\(∀ b,F b->E.S b\/E.w.heap.size<=b)/\(∀ b,F b->∀ l,ρ.M b≠some l)/\(∀ b l,ρ.M b=some l->b<E.w.heap.size->E.S b\/E.M b=some l)/\Mem.le E.M ρ.M) { tmps:=(⟨A⟩:Array Value)++Array.replicate (fn.ntmps-(⟨A⟩:Array Value).size) undef,defers:=[] } E.w by refine wp_mono (jR c [] _ _ _ (z▸hw)) ?_;intro e a' s he;cases e<;>exact he
 refine h _ _ _ ⟨⟨E.w,[],E.gl,E.M,fun _=>0,0⟩,F0,⟨rfl,⟨rfl,rfl,rfl,aI _,fun _ _ _=>rfl⟩,fun p y=>by simp at y,fun b g=>.inl (T b g).1,fun b _=>by simp[cD.own],fun b g l z=>(T b g).2 l z,fun b l h _=>.inr h,fun p y=>(by rw[o] at y;cases y),fun p y=>(by rw[o] at y;cases y),Mem.le_refl _⟩,Z,hh⟩ (fun a w u=>q a w u) (fun a w u=>q a w u) (fun i a w u=>u.elim)
end
theorem Nk {e a:aC}:∀ {l:List Nat} {c:List Value},iq e l c->(∀ i∈l,a i=e i)->iq a l c:=by
 intro l;induction l with
 | nil=>intro c h _;exact h
 | cons i l o=>intro c ⟨b,q,f,g,k⟩ d;exact⟨b,q,by rw[d i aw];exact f,o g (fun j m=>d j (by simp[m])),k⟩
theorem Cell.rh {ρ ρ':aC} (d:ρ'.M=ρ.M) {c:Cell} {y:List Value} (h:c.rel ρ y) (g:∀ i∈c.ids,ρ' i=ρ i/\ρ'.n i=ρ.n i):c.rel ρ' y:=by
 cases c with
 | ptr id q=>obtain⟨b,m,e⟩:=h;exact⟨b,by rw[(g id (by simp[Cell.ids])).1];exact m,e⟩
 | pe id a j c=>obtain⟨b,m,e⟩:=h;exact⟨b,by rw[(g id (by simp[Cell.ids])).1];exact m,e⟩
 | sl id a q len c =>rcases h with h|⟨b,o,t,m,u,w,z,e⟩;exact .inl h;exact .inr ⟨b,o,t,by rw[(g id (by simp[Cell.ids])).1];exact m,u,w,by rw[(g id (by simp[Cell.ids])).2];exact z,e⟩
 | clo f l=>obtain⟨C,u,w⟩:=h;exact⟨C,Nk u (fun i A=>(g i A).1),w⟩
 | row e n s=>simp only[Cell.rel,d];exact h
 | ro e s=>simp only[Cell.rel,d];exact h
 | rp e s i q=>simp only[Cell.rel,d];exact h
 | fv e x=>simp only[Cell.rel,d];exact h
 | rn e s=>simp only[Cell.rel,d];exact h
 | v x=>exact h
 | T=>exact h
 | F=>exact h
 | ints k n s=>exact h
 | junk=>exact h
theorem BK {ρ ρ':aC} (k:ρ'.M=ρ.M) {a:List Cell}:∀ {b:List Value},az ρ a b->(∀ c∈a,∀ i∈c.ids,ρ' i=ρ i/\ρ'.n i=ρ.n i)->az ρ' a b:=by
 induction a with
 | nil=>intro b h _;exact h
 | cons c a m =>intro b h f;obtain⟨o,q,e,g,j⟩:=h;exact⟨o,q,e,Cell.rh k g (f c aw),m j (fun d l=>f d (by simp[l]))⟩
theorem TV.rh {ρ ρ':aC} (a:ρ'.M=ρ.M) {x:TV} {v:Value} (h:x.rel ρ v) (b:∀ i∈x.ids,ρ' i=ρ i/\ρ'.n i=ρ.n i):x.rel ρ' v:=by
 cases x with
 | one c=>exact Cell.rh a h b
 | agg j =>obtain⟨l,e,g⟩:=h;exact⟨l,e,BK a g (fun c d i f=>b i (List.mem_flatMap.2 ⟨c,d,f⟩))⟩
theorem RT {c a:aC} (j:a.M=c.M) {l:List TV}:∀ {b:List Value},eP c l b->(∀ x∈l,∀ i∈x.ids,a i=c i/\a.n i=c.n i)->eP a l b:=by
 induction l with
 | nil=>intro b h _;exact h
 | cons x l m =>intro b h d;obtain⟨v,o,e,f,g⟩:=h;exact⟨v,o,e,TV.rh j f (d x aw),m g (fun y k=>d y (by simp[k]))⟩
theorem SV.rh {ρ ρ':aC} (a:ρ'.M=ρ.M) {x:SV} {v:Value} (h:x.rel ρ v) (b:∀ i∈x.ids,ρ' i=ρ i/\ρ'.n i=ρ.n i):x.rel ρ' v:=by
 cases x with
 | is x=>exact TV.rh a h b
 | tup l =>obtain⟨g,e,d⟩:=h;exact⟨g,e,RT a d (fun y f i c=>b i (List.mem_flatMap.2 ⟨y,f,c⟩))⟩
 | undef=>exact h
 | junk=>trivial
abbrev pt (p:Nat):Value:=.pointer (some ⟨p,0,none⟩)
def sc (s:SV):List Nat->List SV->List SV
 | [],l=>l
 | t::a,l=>sc s a (l.set t s)
theorem GR (s:SV):∀ (a:List Nat) (l:List SV),(sc s a l).length=l.length
 | [],_=>rfl
 | t::a,l=>by rw[sc,GR s a,hZ]
theorem GQ (s:SV):∀ (a:List Nat) (l:List SV) (u:Nat),(sc s a l).getD u .junk=l.getD u .junk\/(u∈a/\(sc s a l).getD u .junk=s)
 | [],_,_=>.inl rfl
 | t::a,l,u=>by rw[sc];rcases GQ s a (l.set t s) u with h|⟨b,c⟩;rw[h];by_cases e:t=u;subst e;by_cases d:t<l.length;right;refine⟨aw,?_⟩;rw[a2,List.getElem?_set_self d];rfl;left;rw[a2,a2,dN (by rw[hZ];omega),dN aa];left;rw[a2,a2,List.getElem?_set_ne e];exact .inr ⟨qq _ b,c⟩
def Da:Nat->List (List Cell)->List (Nat × List Cell)
 | _,[]=>[]
 | i,c::l=>(i,c)::Da (i+1) l
theorem D6:∀ (l:List (List Cell)) (i id:Nat),cW (Da i l) id=if i<=id then l[id-i]? else none
 | [],i,id=>by simp[Da,cW]
 | c::l,i,id=>by
  rw[Da,cW,D6 l (i+1) id];by_cases h:i=id;subst h;simp
  ·have:beq i id=false:=by
    cases b:beq i id with
    | false=>rfl
    | true=>exact absurd (beq_true b) h
   rw[this];by_cases a:i<=id;rw[ak aa,ak a,show id-i=(id-(i+1))+1 from by omega,lX];rw[ai aa,ai a]
def rS (a:St) (c:List Nat) (b:List (List Cell)):St:=⟨sc (ao a.next 0) c a.slots,Da a.next b++a.blks,a.next+b.length⟩
abbrev cf.pinned (E:cf) (id p:Nat):cf:={ E with pins:=(id,p)::E.pins,ptop:=id+1 }
theorem GH.opened {E:cf} {N:Nat} {d:St} {G:aj} {a:Act} {w:World} (hh:GH E N d G a w) {α:Type} (G2:α->aj) (K:α->List (List Cell)) (J:α->Prop) (ts:List Nat) (p:Nat)
  (x6:∀ t∈ts,d.S t=ag (.v (pt p)))
  (ho:∀ M F,G.P w M F->∃ (g:α) (F2:Nat->Prop) (k:List (Option Nat)),J g/\(G2 g).P w M F2/\(∀ b,F2 b->F b)/\k.length=(K g).length/\k[0]?=some (some p)/\(∀ (i b:Nat),k[i]?=some (some b)->F b/\¬ F2 b)/\(∀ (i j b:Nat),k[i]?=some (some b)->k[j]?=some (some b)->i=j) /\
   ∀ T:aC,T.M=M->(∀ (i:Nat) (c:Option Nat),k[i]?=some c->T (d.next+i)=c)->(∀ (i b:Nat),k[i]?=some (some b)->T.n (d.next+i)=c4 w b)->∀ (i:Nat) (o:List Cell) (b:Nat),(K g)[i]?=some o->k[i]?=some (some b)->∃ l,ca w b (c4 w b) l/\az T o l) :
  ∃ g,J g/\GH (E.pinned d.next p) N (rS d ts (K g)) (G2 g) a w:=by
 obtain⟨F,ρ,A,hG,hN,R,hd⟩:=hh.kU;obtain⟨g,F2,k,hJ,x1,V,x8,h0,u,x2,x3⟩:=ho ρ.M F hG;refine⟨g,hJ,?_⟩;let m:aC:=⟨fun id=>if d.next<=id/\id<d.next+k.length then (k[id-d.next]?).join else ρ id,fun id=>if d.next<=id/\id<d.next+k.length then (match (k[id-d.next]?).join with|some b=>c4 w b|none=>0) else ρ.n id,ρ.M⟩;have D:∀ i c,k[i]?=some c->m (d.next+i)=c:=fun i c h=>by
  have z:i<k.length:=by rcases bS i k.length with h'|h';exact h';rw[dN h'] at h;cases h
  show (if _ then _ else _)=c;rw[ak ⟨aa,aa⟩,show d.next+i-d.next=i from by omega,h];rfl
 have H:∀ i b,k[i]?=some (some b)->m.n (d.next+i)=c4 w b:=fun i b h=>by
  have z:i<k.length:=by rcases bS i k.length with h'|h';exact h';rw[dN h'] at h;cases h
  show (if _ then _ else _)=_;rw[ak ⟨aa,aa⟩,show d.next+i-d.next=i from by omega,h];rfl
 have I:∀ id,¬ (d.next<=id/\id<d.next+k.length)->m id=ρ id/\m.n id=ρ.n id:=fun id h=>⟨by show (if _ then _ else _)=_;rw[ai h],by show (if _ then _ else _)=_;rw[ai h]⟩;have f:∀ id b,m id=some b->(∃ i,id=d.next+i/\i<k.length/\k[i]?=some (some b))\/(id<d.next/\ρ id=some b):=by
  intro id b h;by_cases Q:d.next<=id/\id<d.next+k.length
  ·left;refine⟨id-d.next,aa,aa,?_⟩;have h:(k[id-d.next]?).join=some b:=by
    have:(if d.next<=id/\id<d.next+k.length then (k[id-d.next]?).join else ρ id)=some b:=h
    rwa [ak Q] at this
   cases hq:k[id-d.next]? with
   | none=>rw[hq] at h;cases h
   | some c=>rw[hq] at h;exact congrArg some h
  rw[(I id Q).1] at h;exact .inr ⟨hd id b h,h⟩
 have W:aC.le ρ m:=⟨fun id b h=>by
  have x5:=hd id b h;obtain⟨L,O⟩:=I id aa
  exact⟨L.trans h,O⟩,fun b l h=>h⟩
 have mL:∀ id b,ρ id=some b->¬ F b:=fun id b s hF=>by have h:=A.own b hF;rw[eM.2 ⟨id,hd id b s,s⟩] at h;cases h
 have U:∀ id b,m id=some b->id<d.next+(K g).length:=fun id b h=>by rcases f id b h with ⟨i,rfl,z,_⟩|⟨z,_⟩<;>omega
 have hB:∀ id o,(rS d ts (K g)).B id=some o->(∃ i,id=d.next+i/\(K g)[i]?=some o)\/(¬ (d.next<=id/\id<d.next+k.length)/\d.B id=some o):=by
  intro id o h;have h:cW (Da d.next (K g)++d.blks) id=some o:=h;rw[Co,D6] at h;by_cases Q:d.next<=id
  ·rw[ak Q] at h;cases hq:(K g)[id-d.next]? with
   | some c=>rw[hq] at h;exact .inl ⟨id-d.next,aa,hq.trans h⟩
   | none =>rw[hq] at h;have:=List.getElem?_eq_none_iff.1 hq;exact .inr ⟨aa,h⟩
  rw[ai Q] at h;exact .inr ⟨aa,h⟩
 refine⟨jf w E.gl m (d.next+(K g).length),F2,⟨rfl,A.kep,fun q hq=>?_,fun b s=>A.foot b (V b s),fun b s=>?_,fun b s l hl=>A.mem b (V b s) l hl,A.old,fun q hq=>?_,fun q hq=>?_,A.mle⟩,x1,?_,m,
  ⟨R.defers,R.size,?_,kZ.refl _,?_,?_,fun id b h=>⟨.inr (eM.2 ⟨id,U id b h,h⟩),?_⟩,fun q hq=>⟨(bf.1 hq).2,rfl⟩,?_,fun b l h _=>.inr h,R.glob,fun q hq=>(bf.1 hq).1,Mem.le_refl _⟩,U⟩
 rcases f q.1 q.2 (bf.1 hq).2 with ⟨i,_,_,h⟩|⟨L,O⟩;exact A.foot q.2 (u i q.2 h).1;exact A.ids q (bf.2 ⟨L,O⟩)
 ·cases Q:(jf w E.gl m (d.next+(K g).length)).own b with
  | false=>rfl
  | true =>obtain⟨id,_,h⟩:=eM.1 Q;rcases f id b h with ⟨i,_,_,h⟩|⟨_,h⟩;exact ((u i b h).2 s).elim;exact (mL id b h (V b s)).elim
 ·have x9:0<k.length:=by
   rcases bS 0 k.length with h'|h';exact h';rw[dN h'] at h0;cases h0
  rcases mem_cons.1 hq with rfl|hq
  ·refine bf.2 ⟨by show d.next<_;omega,?_⟩;have:=D 0 _ h0
   rwa [gh] at this
  have h:=bf.1 (A.xx q hq);exact bf.2 ⟨fe h.1 (Nat.le_add_right _ _),(W.id _ _ h.2).1⟩
 rcases mem_cons.1 hq with rfl|hq;exact Nat.lt_succ_self _;have h:=bf.1 (A.xx q hq);exact Bv h.1;show (sc _ ts d.slots).length=N;rw[GR];exact hN;intro t;show ((sc (ao d.next 0) ts d.slots).getD t .junk).rel m _;rcases GQ (ao d.next 0) ts d.slots t with h|⟨L,O⟩;rw[h];exact SV.fh W (R.slots t);rw[O];have hv:=R.slots t;rw[x6 t L] at hv;have hv:=cc hv;rw[hv];have:=D 0 _ h0;rw[gh] at this;exact⟨p,this,rfl⟩
 ·intro id o x4 Y b s;rcases hB id o x4 with ⟨i,rfl,z⟩|⟨Q,z⟩
  ·rcases f _ b s with ⟨j,e,_,h⟩|⟨L,_⟩
   ·have:i=j:=by omega
    subst this;obtain⟨l,Z,k2⟩:=x3 m rfl D H i o b z h;exact⟨l,by rw[H i b h];exact Z,k2⟩
   omega
  obtain⟨L,O⟩:=I id Q;rw[L] at s;obtain⟨l,Z,k2⟩:=R.blks id o z Y b s;exact⟨l,by rw[O];exact Z,dU W k2⟩
 intro i j o x0 b L O h3 h4 h5 h6;rcases f i b h5 with ⟨x,e1,_,g1⟩|⟨e1,g1⟩<;>rcases f j b h6 with ⟨y,e2,_,g2⟩|⟨e2,g2⟩;rw[e1,e2,x2 x y b g1 g2];exact (mL j b g2 (u x b g1).1).elim;exact (mL i b g1 (u y b g2).1).elim;rcases hB i o L with ⟨x,rfl,_⟩|⟨_,Z⟩;omega;rcases hB j x0 h3 with ⟨y,rfl,_⟩|⟨_,k2⟩;omega;exact R.inj i j o x0 b Z O k2 h4 g1 g2;rcases f id b h with ⟨i,_,_,h⟩|⟨_,h⟩;exact G.lt _ _ _ hG b (u i b h).1;exact (R.bound id b h).2;intro b l s;obtain⟨Z,k2⟩:=R.mem b l s;refine⟨fun i o z Y x7=>?_,k2⟩;rcases f i b x7 with ⟨x,_,_,h⟩|⟨x5,h⟩;exact A.mem b (u x b h).1 l s;rcases hB i o z with ⟨x,rfl,_⟩|⟨_,z⟩;omega;exact Z i o z Y h
def Gd (K:List Nat) (v:SV):SV:=match v.ids.all (fun i=>eA i K) with
 | true=>v
 | false=>.junk
def yA (K:List Nat) (id p:Nat):SV->SV
 | .is (.one (.ptr i 0))=>match beq i id with
  | true=>ag (.v (pt p))
  | false=>Gd K (ao i 0)
 | v=>Gd K v
def ab1 (K:List Nat) (B:bE) (i:Nat):List Cell:=match B i with
 | some a=>match a.all fun c=>c.ids.all fun j=>eA j K with
  | true=>a
  | false=>[]
 | none=>[]
def kH (a:St) (K:List Nat) (id p:Nat):St:=⟨a.slots.map (yA K id p),K.map (fun i=>(i,ab1 K a.B i)),a.next⟩
def fU (B:bE) (K:List Nat):Bool:=K.all fun i=>match B i with
 | some (_::_)=>true
 | _=>false
theorem Jq (f:Nat->List Cell):∀ (K:List Nat) (i:Nat) (a:List Cell),cW (K.map fun i=>(i,f i)) i=some a->i∈K/\a=f i
 | [],_,_,h=>by simp[cW] at h
 | k::K,i,a,h=>by
  rw[eI,cW] at h;cases b:beq k i with
  | true =>rw[b] at h;have:=beq_true b;subst this;exact⟨aw,(jV h).symm⟩
  | false =>rw[b] at h;obtain⟨c,d⟩:=Jq f K i a h;exact⟨qq _ c,d⟩
theorem GH.closed {E2:cf} {N:Nat} {k:St} {G2:aj} {a:Act} {w:World} (hh:GH E2 N k G2 a w) {α:Type} (G:α->aj) (J:α->Prop) (K L:List Nat) (id p:Nat) (pins:List (Nat × Nat)) (ptop:Nat)
  (x3:(id,p)∈E2.pins) (T:∀ q∈pins,q∈E2.pins/\eA q.1 K=true/\q.1<ptop) (x5:∀ i∈L,eA i K=false) (Z:fU k.B K=true) (f:fU k.B L=true)
  (hc:∀ (ρ:aC) (F:Nat->Prop),G2.P w ρ.M F->ρ id=some p->(∀ i∈L,∀ d b,k.B i=some d->ρ i=some b->∃ l,ca w b (ρ.n i) l/\az ρ d l)->(∀ i∈L,∀ j∈L,∀ b,ρ i=some b->ρ j=some b->i=j)->(∀ i∈L,∀ b,ρ i=some b->¬ F b/\b<w.heap.size/\∀ l,ρ.M b≠some l) ->
   ∃ g F',J g/\(G g).P w ρ.M F'/\∀ b,F' b->F b\/∃ i∈L,ρ i=some b) :
  ∃ g,J g/\GH { E2 with pins:=pins,ptop:=ptop } N (kH k K id p) (G g) a w:=by
 obtain⟨F,ρ,U,hG,hN,D,hd⟩:=hh.kU;have C:∀ (Q:List Nat),fU k.B Q=true->∀ i∈Q,∃ d,k.B i=some d/\d≠[]:=by
  intro Q hQ i s;have:=List.all_eq_true.1 hQ i s;revert this;cases m:k.B i with
  | none=>intro h;cases h
  | some d =>
   cases d with
   | nil=>intro h;cases h
   | cons c d=>intro _;exact⟨_,rfl,aw⟩
 have mL:∀ i b,ρ i=some b->¬ F b:=fun i b m hF=>by have h:=U.own b hF;rw[eM.2 ⟨i,hd i b m,m⟩] at h;cases h
 have x2:ρ id=some p:=(bf.1 (U.xx _ x3)).2;obtain⟨g,F',hJ,x4,X⟩:=hc ρ F hG x2
  (fun i s d b x1 m=>by
   obtain⟨A,O,z⟩:=C L f i s;rw[x1] at O;cases O
   exact D.blks i d x1 z b m)
  (fun i s j Y b O z=>by
   obtain⟨d,I,H⟩:=C L f i s;obtain⟨A,k3,k4⟩:=C L f j Y
   exact D.inj i j d A b I H k3 k4 O z)
  (fun i s b m=>⟨mL i b m,(D.bound i b m).2,fun l hl=>by
   obtain⟨d,I,H⟩:=C L f i s
   exact (D.mem b l hl).1 i d I H m⟩)
 refine⟨g,hJ,?_⟩;let o:aC:=⟨fun i=>match eA i K with|true=>ρ i|false=>none,ρ.n,ρ.M⟩;have V:∀ i b,o i=some b->eA i K=true/\ρ i=some b:=fun i b h=>by
  have h:(match eA i K with|true=>ρ i|false=>none)=some b:=h;cases u:eA i K with
  | true=>rw[u] at h;exact⟨rfl,h⟩
  | false=>rw[u] at h;cases h
 have W:∀ i,eA i K=true->o i=ρ i/\o.n i=ρ.n i:=fun i h=>⟨by show (match eA i K with|true=>ρ i|false=>none)=_;rw[h],rfl⟩;have R:∀ (v:SV) (x:Value),v.rel ρ x->(Gd K v).rel o x:=fun v x h=>by
  unfold Gd;cases u:v.ids.all (fun i=>eA i K) with
  | true=>exact SV.rh (ρ:=ρ) (ρ':=o) rfl h (fun i s=>W i (List.all_eq_true.1 u i s))
  | false=>trivial
 have hB:∀ i d,(kH k K id p).B i=some d->d≠[]->eA i K=true/\k.B i=some d/\∀ c∈d,∀ j∈c.ids,eA j K=true:=by intro i d h y;obtain⟨O,z⟩:=Jq _ K i d h;refine⟨EN O,?_⟩;unfold ab1 at z;split at z;rename_i ds x6;split at z;rename_i x0;subst z;refine⟨x6,fun c hc j Y=>?_⟩;exact List.all_eq_true.1 (List.all_eq_true.1 x0 c hc) j Y;exact (y z).elim;exact (y z).elim
 refine⟨jf w E2.gl o k.next,F',⟨rfl,U.kep,fun q u=>?_,fun b m=>?_,fun b m=>?_,fun b m l hl=>?_,U.old,fun q u=>?_,fun q u=>(T q u).2.2,U.mle⟩,x4,?_,o,
  ⟨D.defers,D.size,?_,kZ.refl _,?_,?_,fun i b h=>⟨.inr (eM.2 ⟨i,hd i b (V i b h).2,h⟩),(D.bound i b (V i b h).2).2⟩,fun q u=>⟨(bf.1 u).2,rfl⟩,?_,fun b l h _=>.inr h,D.glob,fun q u=>(bf.1 u).1,Mem.le_refl _⟩,fun i b h=>hd i b (V i b h).2⟩
 have h:=(V _ _ (bf.1 u).2).2;exact U.ids q (bf.2 ⟨hd _ _ h,h⟩);rcases X b m with h|⟨i,_,h⟩;exact U.foot b h;exact U.ids (i,b) (bf.2 ⟨hd _ _ h,h⟩)
 ·cases u:(jf w E2.gl o k.next).own b with
  | false=>rfl
  | true =>obtain⟨j,_,Y⟩:=eM.1 u;obtain⟨j1,j2⟩:=V j b Y;rcases X b m with h|⟨i,s,h⟩;exact (mL j b j2 h).elim;obtain⟨d,I,H⟩:=C L f i s;obtain⟨A,k3,k4⟩:=C K Z j (vP j1);have:=D.inj i j d A b I H k3 k4 h j2;subst this;rw[x5 i s] at j1;cases j1
 rcases X b m with h|⟨i,s,h⟩;exact U.mem b h l hl;obtain⟨d,I,H⟩:=C L f i s;exact (D.mem b l hl).1 i d I H h;obtain⟨O,z,_⟩:=T q u;have h:=bf.1 (U.xx q O);exact bf.2 ⟨h.1,by rw[(W _ z).1];exact h.2⟩;show (k.slots.map _).length=N;rw[bZ];exact hN
 ·intro t;have hv:=D.slots t;have e:(kH k K id p).S t=match k.slots[t]? with|some v=>yA K id p v|none=>.junk:=by
   show (k.slots.map (yA K id p)).getD t .junk=_;rw[a2,dy];cases k.slots[t]? <;> rfl
  have e2:k.S t=match k.slots[t]? with|some v=>v|none=>.junk:=by show k.slots.getD t .junk=_;rw[a2];cases k.slots[t]? <;> rfl
  rw[e];rw[e2] at hv;cases u:k.slots[t]? with
  | none=>trivial
  | some v =>
   rw[u] at hv;show (yA K id p v).rel o _;unfold yA;split
   ·rename_i i;cases m:beq i id with
    | true =>have:=beq_true m;subst this;obtain⟨b,O,z⟩:=hv;rw[x2] at O;cases O;exact⟨z,rfl⟩
    | false=>exact R _ _ hv
   exact R _ _ hv
 intro i d s y b m;obtain⟨O,z,h4⟩:=hB i d s y;obtain⟨l,I,H⟩:=D.blks i d z y b (V i b m).2;exact⟨l,I,BK (ρ:=ρ) (ρ':=o) rfl H (fun c hc j Y=>W j (h4 c hc j Y))⟩;intro i j d A b I H k3 k4 k5 k6;exact D.inj i j d A b (hB i d I H).2.1 H (hB j A k3 k4).2.1 k4 (V i b k5).2 (V j b k6).2;intro b l m;obtain⟨I,H⟩:=D.mem b l m;exact⟨fun i d s y x7=>I i d (hB i d s y).2.1 y (V i b x7).2,H⟩
def Cell.r7 (f:Nat->Nat):Cell->Cell
 | .ptr i o=>.ptr (f i) o
 | .pe i b j c=>.pe (f i) b j c
 | .sl i b o l c=>.sl (f i) b o l c
 | .clo g l=>.clo g (l.map f)
 | c=>c
theorem Nl {g a:aC} {f:Nat->Nat}:∀ {l:List Nat} {c:List Value},iq g l c->(∀ i∈l,∀ b,g i=some b->a (f i)=some b)->iq a (l.map f) c:=by
 intro l;induction l with
 | nil=>intro c h _;exact h
 | cons i l s=>intro c ⟨b,t,k,m,o⟩ d;exact⟨b,t,d i aw b k,s m (fun j q=>d j (by simp[q])),o⟩
theorem aba {z a:aC} {f:Nat->Nat} (s:Mem.le z.M a.M) {c:Cell} {C:List Value} (h:c.rel z C) (w:∀ i∈c.ids,∀ b,z i=some b->a (f i)=some b/\a.n (f i)=z.n i):(Cell.r7 f c).rel a C:=by
 cases c with
 | ptr id u=>obtain⟨b,t,e⟩:=h;exact⟨b,(w id (by simp[Cell.ids]) b t).1,e⟩
 | pe id d j c=>obtain⟨b,t,e⟩:=h;exact⟨b,(w id (by simp[Cell.ids]) b t).1,e⟩
 | sl id d u len c =>rcases h with h|⟨b,o,A,t,m,q,D,e⟩;exact .inl h;obtain⟨I,K⟩:=w id (by simp[Cell.ids]) b t;exact .inr ⟨b,o,A,I,m,q,by rw[K];exact D,e⟩
 | clo g l=>obtain⟨L,m,q⟩:=h;exact⟨L,Nl m (fun i H b G=>(w i H b G).1),q⟩
 | row e n y=>exact⟨h.1,ee (fun _ _=>dd s) h.2⟩
 | ro e y=>exact dd (e:=.sl e) s h
 | rp e y i u=>obtain⟨b,o,m,q⟩:=h;exact⟨b,o,ko s m,q⟩
 | fv e x=>exact⟨dd s h.1,h.2⟩
 | rn e y=>exact⟨dd (e:=.sl e) s h.1,h.2⟩
 | v x=>exact h
 | T=>exact h
 | F=>exact h
 | ints k n y=>exact h
 | junk=>exact h
theorem Ms {ρ ρ':aC} {f:Nat->Nat} (m:Mem.le ρ.M ρ'.M):∀ {a:List Cell} {g:List Value},az ρ a g->(∀ c∈a,∀ i∈c.ids,∀ b,ρ i=some b->ρ' (f i)=some b/\ρ'.n (f i)=ρ.n i)->az ρ' (a.map (Cell.r7 f)) g:=by
 intro a;induction a with
 | nil=>intro g h _;exact h
 | cons c a q =>intro g ⟨s,t,e,k,l⟩ j;exact⟨s,t,e,aba m k (j c aw),q l (fun d o=>j d (by simp[o]))⟩
def Ct (a:List (Option Nat)) (w:World) (M:Mem):aC:=⟨fun i=>(a[i]?).join,fun i=>match (a[i]?).join with|some b=>c4 w b|none=>0,M⟩
theorem join_some {a:List (Option Nat)} {i b:Nat}:(a[i]?).join=some b↔a[i]?=some (some b):=by
 cases h:a[i]? with
 | none=>simp
 | some c=>simp
def aj.obj (bl:List (List Cell)) (p:Nat) (sub:aj):aj where
 P w M F:=∃ (bs:List (Option Nat)) (F2:Nat->Prop),sub.P w M F2/\bs.length=bl.length/\bs[0]?=some (some p)/\(∀ b,F b↔(F2 b\/∃ i:Nat,bs[i]?=some (some b)))/\(∀ (i:Nat) (b:Nat),bs[i]?=some (some b)->¬ F2 b/\b<w.heap.size) /\
  (∀ (i j b:Nat),bs[i]?=some (some b)->bs[j]?=some (some b)->i=j)/\∀ (i:Nat) (cs:List Cell) (b:Nat),bl[i]?=some cs->bs[i]?=some (some b)->∃ l,ca w b (c4 w b) l/\az (Ct bs w M) cs l
 mono w M M' F hM h:=by obtain⟨bs,F2,h1,h2,h3,h4,h5,h6,h7⟩:=h;refine⟨bs,F2,sub.mono _ _ _ _ hM h1,h2,h3,h4,h5,h6,fun i cs b hi hb=>?_⟩;obtain⟨l,k1,k2⟩:=h7 i cs b hi hb;exact⟨l,k1,dU (ρ:=Ct bs w M) (ρ':=Ct bs w M') ⟨fun _ _ h=>⟨h,rfl⟩,hM⟩ k2⟩
 stable w w' M F h hs:=by
  obtain⟨bs,F2,h1,h2,h3,h4,h5,h6,h7⟩:=h;have hheap:∀ (i b:Nat),bs[i]?=some (some b)->w'.heap[b]?=w.heap[b]?:=fun i b hb=>hs b ((h4 b).2 (.inr ⟨i,hb⟩));have hsz:∀ (i b:Nat),bs[i]?=some (some b)->c4 w' b=c4 w b:=fun i b hb=>by unfold c4;rw[hheap i b hb]
  have hobr:Ct bs w' M=Ct bs w M:=by
   unfold Ct;congr 1;funext i;cases hq:(bs[i]?).join with
   | none=>rfl
   | some b=>exact hsz i b (join_some.1 hq)
  refine⟨bs,F2,sub.stable _ _ _ _ h1 (fun b hb=>hs b ((h4 b).2 (.inl hb))),h2,h3,h4,fun i b hb=>⟨(h5 i b hb).1,?_⟩,h6,fun i cs b hi hb=>?_⟩;have hlt:=(h5 i b hb).2;rcases bS b w'.heap.size with h'|h';exact h';have:=hheap i b hb;rw[ef h',Bd hlt] at this;cases this;obtain⟨l,⟨rest,el,fr,k1,k2⟩,k3⟩:=h7 i cs b hi hb;exact⟨l,⟨rest,el,fr,(hheap i b hb).trans k1,by rw[hsz i b hb];exact k2⟩,by rw[hobr];exact k3⟩
 lt w M F h b hb:=by obtain⟨bs,F2,h1,h2,h3,h4,h5,h6,h7⟩:=h;rcases (h4 b).1 hb with h|⟨i,h⟩;exact sub.lt _ _ _ h1 b h;exact (h5 i b h).2
theorem GH.Q6 {E:cf} {N:Nat} {g:St} {o:List (List Cell)} {p:Nat} {e:aj} {a:Act} {w:World} (U:GH E N g (aj.obj o p e) a w) (y:List Nat) (u:∀ t∈y,g.S t=ag (.v (pt p))) :
  GH (E.pinned g.next p) N (rS g y (o.map fun m=>m.map (Cell.r7 (g.next + ·)))) e a w:=by
 obtain⟨_,_,h⟩:=U.opened (α:=Unit) (fun _=>e) (fun _=>o.map fun m=>m.map (Cell.r7 (g.next + ·))) (fun _=>True) y p u (fun M F T=>by
  obtain⟨k,F2,H,I,K,A,L,O,Q⟩:=T;refine⟨(),F2,k,trivial,H,fun b f=>(A b).2 (.inl f),by rw[bZ];exact I,K,fun i b f=>⟨(A b).2 (.inr ⟨i,f⟩),(L i b f).1⟩,O,?_⟩;intro Y R s V i m b C f;rw[dy] at C;obtain⟨q,D,G⟩:=Option.map_eq_some_iff.1 C;subst G;obtain⟨l,W,X⟩:=Q i q b D f;refine⟨l,W,Ms (ρ:=Ct k w M) (by rw[R];exact Mem.le_refl _) X (fun c _ j _ z d=>?_)⟩;have d:k[j]?=some (some z):=join_some.1 d;refine⟨s j _ d,?_⟩;rw[V j z d];show _=(match (k[j]?).join with|some b=>c4 w b|none=>0)
  rw[d];rfl)
 exact h
def pos (L:List Nat) (i:Nat):Nat:=match L with
 | []=>0
 | j::L=>match beq j i with
  | true=>0
  | false=>pos L i+1
theorem Ih:∀ (L:List Nat) (i:Nat),eA i L=true->L[pos L i]?=some i
 | [],_,h=>by cases h
 | j::L,i,h=>by
  unfold pos;cases a:beq j i with
  | true=>have:=beq_true a;subst this;rfl
  | false =>
   have:eA i L=true:=by
    unfold eA at h;have b:beq i j=false:=by
     cases c:beq i j with
     | false=>rfl
     | true=>have:=beq_true c;subst this;rw[gi] at a;cases a
    rw[b] at h;exact h
   show (j::L)[pos L i+1]?=some i;rw[lX];exact Ih L i this
def r6 (B:bE) (i:Nat):List Cell:=match B i with
 | some a=>a
 | none=>[]
def xk (B:bE) (L:List Nat):Bool:=L.all fun i=>(r6 B i).all fun c=>c.ids.all fun j=>eA j L
def kR:List Nat->Bool
 | []=>true
 | i::L => !eA i L&&kR L
theorem xt:∀ (L:List Nat),kR L=true->∀ (i j x:Nat),L[i]?=some x->L[j]?=some x->i=j
 | [],_,i,j,x,h,_=>by simp at h
 | y::L,d,i,j,x,a,b=>by
  simp only[kR,aX,oE] at d;have c:∀ (k:Nat),L[k]?=some y->False:=fun k e=>by have:=EN (dP e);rw[d.1] at this;cases this
  cases i with
  | zero =>
   cases j with
   | zero=>rfl
   | succ j =>rw[tF] at a;rw[lX] at b;cases a;exact (c j b).elim
  | succ i =>
   cases j with
   | zero =>rw[tF] at b;rw[lX] at a;cases b;exact (c i a).elim
   | succ j =>rw[lX] at a b;rw[xt L d.2 i j x a b]
theorem GH.ab7 {U:cf} {N:Nat} {f:St} {D:aj} {a:Act} {w:World} (hh:GH U N f D a w) (bl:List (List Cell)) (K L:List Nat) (id p:Nat) (pins:List (Nat × Nat)) (ptop:Nat)
  (R:(id,p)∈U.pins) (C:∀ q∈pins,q∈U.pins/\eA q.1 K=true/\q.1<ptop) (W:∀ i∈L,eA i K=false) (A:fU f.B K=true) (d:fU f.B L=true)
  (h0:L[0]?=some id) (x0:kR L=true) (I:xk f.B L=true) (X:(L.map fun i=>(r6 f.B i).map (Cell.r7 (pos L)))=bl) :
  GH { U with pins:=pins,ptop:=ptop } N (kH f K id p) (aj.obj bl p D) a w:=by
 subst X
 obtain⟨_,_,h⟩:=hh.closed (α:=Unit) (fun _=>aj.obj (L.map fun i=>(r6 f.B i).map (Cell.r7 (pos L))) p D) (fun _=>True) K L id p pins ptop R C W A d (fun ρ F hG hp u O z=>by
  have k:∀ (i b:Nat),(L.map ρ.m)[i]?=some (some b)->∃ j,L[i]?=some j/\ρ j=some b:=fun i b h=>by rw[dy] at h;obtain⟨j,g,s⟩:=Option.map_eq_some_iff.1 h;exact⟨j,g,s⟩
  refine⟨(),fun b=>F b\/∃ i:Nat,(L.map ρ.m)[i]?=some (some b),trivial,⟨L.map ρ.m,F,hG,by rw[bZ,bZ],by rw[dy,h0];exact congrArg some hp,fun b=>kC,fun i b G=>?_,fun i j b V Z=>?_,fun i cs b V G=>?_⟩,fun b G=>G.imp (fun q=>q) fun ⟨i,h⟩=>?_⟩;obtain⟨j,g,s⟩:=k i b G;obtain⟨k1,k2,_⟩:=z j (dP g) b s;exact⟨k1,k2⟩;obtain⟨x,g,s⟩:=k i b V;obtain⟨y,h3,h4⟩:=k j b Z;have:=O x (dP g) y (dP h3) b s h4;subst this;exact xt L x0 i j x g h3
  ·obtain⟨x,g,s⟩:=k i b G;rw[dy,g] at V;cases V;have t:=dP g;have o:f.B x=some (r6 f.B x):=by
    have:=List.all_eq_true.1 d x t;unfold r6;revert this;cases f.B x with
    | none=>intro h;cases h
    | some cs=>intro _;rfl
   obtain⟨l,k1,k2⟩:=u x t _ b o s;have T:∀ (y c:Nat),y∈L->ρ y=some c->ρ.n y=c4 w c:=fun y c hy Y=>by
    have o:f.B y=some (r6 f.B y):=by
     have:=List.all_eq_true.1 d y hy;unfold r6;revert this;cases f.B y with
     | none=>intro h;cases h
     | some cs=>intro _;rfl
    obtain⟨l,⟨x1,el,fr,g1,g2,_⟩,_⟩:=u y hy _ c o Y;unfold c4;rw[g1];exact g2.symm
   refine⟨l,by rw[<- T x b t s];exact k1,Ms (ρ:=ρ) (ρ':=Ct (L.map ρ.m) w ρ.M) (Mem.le_refl _) k2 (fun c Y j Z b' H=>?_)⟩;have Q:eA j L=true:=List.all_eq_true.1 (List.all_eq_true.1 (List.all_eq_true.1 I x t) c Y) j Z;have hg:=Ih L j Q;have e:(L.map ρ.m)[pos L j]?=some (some b'):=by rw[dy,hg];exact congrArg some H
   refine⟨join_some.2 e,?_⟩;show (match ((L.map ρ.m)[pos L j]?).join with|some b=>c4 w b|none=>0)=_;rw[e,T j b' (vP Q) H];rfl
  ·obtain⟨j,g,s⟩:=k i b h
   exact⟨j,dP g,s⟩)
 exact h
theorem GH.xx {E:cf} {N:Nat} {e:St} {G:aj} {a:Act} {w:World} (s:GH E N e G a w) (t id:Nat) (o:e.S t=ao id 0) (d:Nat) (j:id<d) (k:E.ptop<=d) :
  ∃ p,GH { E with pins:=(id,p)::E.pins,ptop:=d } N e G a w:=by
 obtain⟨F,ρ,c,l,m,h,f⟩:=s.kU;have i:=h.slots t;rw[o] at i;obtain⟨p,g,_⟩:=i;refine⟨p,jf w E.gl ρ e.next,F,⟨rfl,c.kep,c.ids,c.foot,c.own,c.mem,c.old,fun q hq=>?_,fun q hq=>?_,c.mle⟩,l,m,ρ,h,f⟩;rcases mem_cons.1 hq with rfl|hq;exact bf.2 ⟨f _ _ g,g⟩;exact c.xx q hq;rcases mem_cons.1 hq with rfl|hq;exact j;exact fe (c.plt q hq) k
theorem pk {ρ ρ':aC} (b:ρ'.M=ρ.M) {x:SV} {v:Value} (h:x.rel ρ v) (c:x.ids=[]):x.rel ρ' v:=SV.rh b h (fun i a=>by rw[c] at a;cases a)
def Gq (l:List SV):Bool:=l.all fun v=>v.ids.isEmpty
theorem UM {ρ ρ':aC} (g:ρ'.M=ρ.M):∀ {l:List SV} {a:List Value},bq ρ l a->Gq l=true->bq ρ' l a:=by
 intro l;induction l with
 | nil=>intro a h _;exact h
 | cons x l i =>intro a ⟨v,c,e,d,f⟩ b;simp only[Gq,List.all_cons,aX,List.isEmpty_iff] at b;exact⟨v,c,e,pk g d b.1,i f (by simpa[Gq] using b.2)⟩
def ez (P:Program) (j:Nat->Option (Sigma aH)) (f:FuncId) {α β:Type} (args:α->List SV) (pre:α->Prop) (i:α->aj) (sv:α->β->SV) (G2:α->β->aj) (J:α->β->Prop):Prop :=
 ∀ x,pre x->∀ (w:World) (M:Mem) (h:List Value) (F:Nat->Prop),(i x).P w M F->Mem.le M (cb w)->rq j M->(∀ b,F b->∀ l,M b≠some l)->bq (aC.start M) (args x) h ->
  Calls P f ⟨h⟩ w fun e g=>∃ y v F2 d,J x y/\e=.returned v/\(G2 x y).P g d F2/\(∀ b,F2 b->F b\/w.heap.size<=b)/\rr F w g/\Mem.le M d/\(∀ b l,d b=some l->cb g b=some l/\¬ F2 b/\(w.heap.size<=b\/F b\/M b=some l))/\(sv x y).rel (aC.start d) v
abbrev lj (P:Program) (b:FuncId->Option Spec) (a:Nat->Option (Sigma aH)) (w:World) (M:Mem) (F:Nat->Prop):cf:=⟨P,b,a,w,F,M,[],0⟩
theorem aek {P:Program} {sp:FuncId->Option Spec} {i:Nat->Option (Sigma aH)} {f:FuncId} {fn:Func} {g I:Type} {args:g->List SV} {pre:g->Prop} {q:g->aj} {o:g->I->SV} {t:g->I->aj} {J:g->I->Prop}
  (T:enters P f fn) (a:fn.body.isSome=true) (U:∀ x,(args x).length<=fn.ntmps) (H:∀ x y,(o x y).ids=[])
  (h:∀ x,pre x->∀ (w:World) (M:Mem) (F:Nat->Prop),aN P (al fn) (GH (lj P sp i w M F) fn.ntmps (lx fn (args x) [] 0) (q x)) (c1 (lj P sp i w M F) fn fun s G=>∃ y,J x y/\s=o x y/\G=t x y) (c1 (lj P sp i w M F) fn fun s G=>∃ y,J x y/\s=o x y/\G=t x y) (fun _ _ _=>False)) :
  ez P i f args pre q o t J:=by
 intro x Y w M Z F L R C u W;refine (gfn (E:=lj P sp i w M F) (M:=M) (F0:=F) (G0:=q x) T.1 a rfl R C W (U x) L rfl (fun b d=>⟨d,u b d⟩) (h x Y w M F)).mono ?_;rintro e w2 ⟨v,s,G,F2,ρ,rfl,V,⟨y,O,rfl,rfl⟩,z,Q,A,c,j,m,k⟩;refine⟨y,v,F2,ρ.M,O,rfl,z,c,Q,k,fun b l d=>⟨A b l d,fun K=>j b K l d,?_⟩,pk (ρ:=ρ) (ρ':=aC.start ρ.M) rfl V (H x y)⟩;by_cases D:b<w.heap.size;rcases m b l d D with h|h;exact .inr (.inl h);exact .inr (.inr h);exact .inl aa
section
variable {E:cf} {N:Nat} {n r:ax} {x:Nat->ax}
theorem adj {l:List Code} {c d:St} {G:aj} {K:Prop} (h:c.le (cm E) d K) (e:K->aN E.P l (GH E N d G) n r x):aN E.P l (GH E N c G) n r x:=by intro a w Q g;obtain⟨f,b⟩:=g.le h;exact e f a w Q b
theorem Lr {b:St} {p:Nat} {a:List Nat} (h:a.map b.S=a.map fun _=>SV.is (.one (.v (pt p)))):∀ t∈a,b.S t=ag (.v (pt p)):=by
 induction a with
 | nil=>intro t ht;cases ht
 | cons u a c =>simp only[eI,bx] at h;intro t ht;rcases mem_cons.1 ht with rfl|ht;exact h.1;exact c h.2 t ht
theorem V9 {l:List Code} {a:St} {f:List (List Cell)} {p:Nat} {b:aj} (c:List Nat) (d:c.map a.S=c.map fun _=>SV.is (.one (.v (pt p)))) (g:St) (e:(rS a c (f.map fun i=>i.map (Cell.r7 (a.next + ·)))).le (cm (E.pinned a.next p)) g True)
  (h:aN E.P l (GH (E.pinned a.next p) N g b) n r x):aN E.P l (GH E N a (aj.obj f p b)) n r x :=
 n8 (fun _ _ j=>((j.Q6 c (Lr d)).le e).2) h
theorem sQ {l:List Code} {d:Array Oper} {i:Nat} {a:St} {bl:List (List Cell)} {p:Nat} {e:aj} (f:List Nat) (g:f.map a.S=f.map fun _=>SV.is (.one (.v (pt p)))) (k:St) (j:(rS a f (bl.map fun o=>o.map (Cell.r7 (a.next + ·)))).le (cm (E.pinned a.next p)) k True)
  (h:kz E.P d i l (GH (E.pinned a.next p) N k e) n r x):kz E.P d i l (GH E N a (aj.obj bl p e)) n r x :=
 kJ (fun _ _ q=>((q.Q6 f (Lr g)).le j).2) h
theorem V7 {a:Act} {w:World} {c:St} {g:List (List Cell)} {id p:Nat} {f:aj} (K L:List Nat) (l:E.pins=[]) (j:(L.all fun i => !eA i K)=true) (b:(fU c.B K&&fU c.B L&&kR L&&xk c.B L)=true) (m:L[0]?=some id) (k:(L.map fun i=>(r6 c.B i).map (Cell.r7 (pos L)))=g) (d:Nat)
  (y:GH { E with pins:=[(id,p)],ptop:=d } N c f a w):GH E N (kH c K id p) (aj.obj g p f) a w:=by
 simp only[aX] at b;obtain⟨⟨⟨o,s⟩,t⟩,u⟩:=b;have h:=y.ab7 g K L id p [] E.ptop aw (fun q A=>by cases A) (fun i z=>by simpa using List.all_eq_true.1 j i z) o s m t u k;have e:({ { E with pins:=[(id,p)],ptop:=d } with pins:=[],ptop:=E.ptop }:cf)=E:=by cases E;simp only at l;subst l;rfl
 rw[e] at h;exact h
end
def gk (k n:Nat):Array Bool:=⟨replicate k true++replicate (n-k) false⟩
theorem iG {k n:Nat} (h:k<=n):(gk k n).size=n:=by simp[gk];omega
theorem fi {k n:Nat} (j:Nat):(gk k n).getD j false=decide (j<k):=by
 have e:(gk k n)[j]?=(replicate k true++replicate (n-k) false)[j]?:=by simp[gk]
 rw[cE,e];by_cases h:j<k;rw[oS (by simpa using h),sF,ak h];simp[h];rw[qo (by simp;omega),sF];split<;>simp[h]
theorem zP {a b:Array Bool} (e:a.size=b.size) (h:∀ j,a.getD j false=b.getD j false):a=b:=by refine Array.ext e (fun i c d=>?_);have:=h i;rw[cE,cE,Bd c,Bd d] at this;simpa using this
theorem AG (k n:Nat):A1 (gk k n).toList=n-k:=by unfold A1 gk;simp[List.countP_append,List.countP_replicate]
theorem kK {a:Array Bool} {i:Nat} (b:i<a.size) (j:Nat):(a.setIfInBounds i true).getD j false=if j=i then true else a.getD j false:=by rw[cE,cE];by_cases h:j=i;subst h;rw[sz b];simp;rw[vr (fun e=>h e.symm)];simp[h]
theorem re {ops:Array Oper} (b:n5 ops.toList=true) {a:Array Bool} (l:a.size=ops.size) (u:Region.ready .any ops a=[]):∀ i,i<ops.size->a.getD i false=true:=by
 have:∀ N i,i<N->i<ops.size->a.getD i false=true:=by
  intro N;induction N with
  | zero=>intro i h;omega
  | succ N m =>
   intro i q c;cases f:a.getD i false with
   | true=>rfl
   | false =>
    exfalso;have d:i∈Region.ready .any ops a:=by
     unfold Region.ready;refine List.mem_filter.2 ⟨List.mem_range.2 c,?_⟩;have k:ops[i]?=some ops[i]:=by simp[c]
     have j:a.getD i true=false:=by
      rw[cE] at f ⊢;have:a[i]?=some a[i]:=by simp[l,c]
      rw[this] at f ⊢;simpa using f
     rw[j,k];simp only[oJ,c6,cx,h8];rw[nq];intro e s;cases g:Region.binds .any e with
     | false=>rfl
     | true =>have t:=jr b (by simp[c]:ops.toList[i]?=some ops[i]) e (by simpa using s) g;simp[m e.on aa aa]
    rw[u] at d;cases d
 exact fun i q=>this (i+1) i aa q
theorem jy {ops:Array Oper} {a:Array Bool} (g:a.size=ops.size) {i:Nat}:i∈Region.ready .any ops a↔∃ o,ops[i]?=some o/\a.getD i false=false/\∀ d∈o.after.toList,Region.binds .any d=true->a.getD d.on false=true:=by
 unfold Region.ready;rw[List.mem_filter,List.mem_range];constructor
 ·rintro⟨b,h⟩;have f:ops[i]?=some ops[i]:=by simp[b]
  have c:a[i]?=some a[i]:=by simp[g,b]
  simp only[aX,oE,f,c6,cx] at h;obtain⟨t,u⟩:=h;refine⟨_,f,?_,fun d l m=>?_⟩;rw[cE,c] at t ⊢;simpa using t;rw[nq] at u;have:=u d (by simpa using l);simpa[m] using this
 ·rintro⟨o,s,j,w⟩;have b:i<ops.size:=by
   rcases bS i ops.size with h|h;exact h;rw[ef h] at s;cases s
  have c:a[i]?=some a[i]:=by simp[g,b]
  refine⟨b,?_⟩;have q:a.getD i true=false:=by rw[cE] at j ⊢;rw[c] at j ⊢;simpa using j
  rw[q,s];simp only[oJ,c6,cx,h8];rw[nq];intro e y;cases k:Region.binds .any e with
  | false=>rfl
  | true=>simp[w e (by simpa using y) k]
def XU (Q1 Q:Exit->ax):Prop:=∀ e a w,e≠.normal->Q1 e a w->Q e a w
theorem UN {P:Program} {o:Oper} {a:Act} {w:World} {K i:ax} {f Q:Exit->ax} (g:XU f Q) (h:∀ a w,K a w->i a w) (b:o.wp P a w K f):o.wp P a w i Q:=by
 have d:LetsOut f->LetsOut Q:=fun ⟨a,w,h⟩=>⟨a,w,g _ _ _ (fun e=>by cases e) h⟩;unfold Oper.wp at *;generalize (execOp a.eval o).run P w=r at *;cases r with
 | ok n j =>
  cases n<;>simp only[Oper.upon] at b ⊢ <;>
   first
    | exact h _ _ b
    | exact Calls.mono b (fun e k c=>by
      cases e;exact h _ _ c;exact g _ _ _ (fun e=>by cases e) c
      ·exact d c)
    | exact Rows.mono b (fun _ _ c=>h _ _ c)
 | halt x j=>cases x<;>simp only[Oper.upon] at b ⊢ <;> first|exact b|exact g _ _ _ (fun e=>by cases e) b
theorem M6 {P:Program} {c ops:Array Oper} {i:Nat} {o:Oper} {a:Act} {w:World} {K g:ax} {k Q:Exit->ax} (m:c[i]?=some o) (q:ops[i]?=some o) (s:∀ j b,o.guard=some (j,b)->(c[j]?).bind (·.dst)=(ops[j]?).bind (·.dst))
  (l:XU k Q) (h:∀ a w,K a w->g a w) (d:wpOp P c k i K a w):wpOp P ops Q i g a w:=by
 have t:Region.wanted o (yielded c a.tmps)=Region.wanted o (yielded ops a.tmps):=by
  unfold Region.wanted;cases f:o.guard with
  | none=>rfl
  | some p =>
   obtain⟨j,b⟩:=p;have:yielded c a.tmps j=yielded ops a.tmps j:=by unfold yielded;rw[s j b f]
   simp only[this]
 unfold wpOp at *;simp only[m] at d;simp only[q];rw[t] at d;split;rename_i f;rw[ak f] at d;exact d.imp (UN l h) fun ⟨g1,a,w,g2⟩=>⟨g1,a,w,l _ _ _ (fun e=>by cases e) g2⟩;rename_i f;rw[ai f] at d;exact h _ _ d
theorem RY {P:Program} {ops1 ops:Array Oper} {Q1 Q:Exit->ax} {k:Nat} (lo:Nat) (nS:ops1.size=k) (hk:k<=ops.size) (L:∀ i,i<k->ops1[i]?=ops[i]?) (hg:∀ i o,i<k->ops[i]?=some o->∀ j b,o.guard=some (j,b)->j<k)
  (X:n5 ops.toList=true) (W:∀ j,k<=j->j<ops.size->∀ i,lo<=i->i<k->((gZ ops.toList []).getD j 0).testBit i=true) (hQ:XU Q1 Q)
  (hC:∀ a w,Q1 .normal a w->∀ g,ops.size-k<=g->wpAny P .any ops Q g (gk k ops.size) a w) :
  ∀ (t:Nat) (f c:Array Bool) (g:Nat) (a:Act) (w:World),f.size=k->c.size=ops.size->(∀ j,j<lo->c.getD j false=true)->(∀ j,j<k->c.getD j false=f.getD j false)->(∀ j,k<=j->c.getD j false=false) ->
   A4 ops (fun j=>c.getD j false)->A1 c.toList<=g->wpAny P .any ops1 Q1 t f a w->wpAny P .any ops Q g c a w:=by
 have x8:∀ (f c:Array Bool),f.size=k->c.size=ops.size->(∀ j,j<k->c.getD j false=f.getD j false)->∀ i,i<k->(i∈Region.ready .any ops c↔i∈Region.ready .any ops1 f):=by intro f c T K I i R;rw[jy K,jy (by rw[T,nS]),L i R,I i R];constructor;rintro⟨o,z,g1,g2⟩;refine⟨o,z,g1,fun d q s=>?_⟩;have H:=jr X (by simpa using z:ops.toList[i]?=some o) d q s;rw[<- I d.on aa];exact g2 d q s;rintro⟨o,z,g1,g2⟩;refine⟨o,z,g1,fun d q s=>?_⟩;have H:=jr X (by simpa using z:ops.toList[i]?=some o) d q s;rw[I d.on aa];exact g2 d q s
 intro t;induction t with
 | zero =>
  intro f c g a w T K U I h4 hc O hh;obtain⟨y,hn⟩:=hh;have u:∀ j,j<k->f.getD j false=true:=by
   intro j m;cases V:f.getD j false with
   | true=>rfl
   | false =>
    exfalso;have:∀ N i,i<N->i<k->f.getD i false=true:=by
     intro N;induction N with
     | zero=>intro i h;omega
     | succ N y0 =>
      intro i R F;cases V:f.getD i false with
      | true=>rfl
      | false =>
       exfalso;have x4:i<ops.size:=aa;have x7:ops[i]?=some ops[i]:=by simp[x4]
       have:i∈Region.ready .any ops1 f:=(jy (by rw[T,nS])).2 ⟨ops[i],by rw[L i F];exact x7,V,fun d q s=>by
        have H:=jr X (by simp:ops.toList[i]?=some ops[i]) d q s
        exact y0 d.on aa aa⟩
       rw[y] at this;cases this
    rw[this (j+1) j aa m] at V;cases V
  have e:c=gk k ops.size:=zP (by rw[K,iG hk]) (fun j=>by
   rw[fi];by_cases m:j<k;rw[I j m,u j m];simp[m]
   ·rw[h4 j aa];simp[m])
  rw[e] at O ⊢;rw[AG] at O;exact hC a w hn g O
 | succ t ih =>
  intro f c g a w T K U I h4 hc O hh;by_cases u:∀ j,j<k->f.getD j false=true
  ·have y:Region.ready .any ops1 f=[]:=by
    rw[A9];intro i R;obtain⟨o,z,g1,_⟩:=(jy (by rw[T,nS])).1 R;have:i<k:=by rcases bS i k with h|h;exact h;rw[ef aa] at z;cases z
    rw[u i this] at g1;cases g1
   have hn:=hh.1 y
   have e:c=gk k ops.size:=zP (by rw[K,iG hk]) (fun j=>by
    rw[fi];by_cases m:j<k;rw[I j m,u j m];simp[m]
    ·rw[h4 j aa];simp[m])
   rw[e] at O ⊢;rw[AG] at O;exact hC a w hn g O
  ·have x9:∃ j,j<k/\f.getD j false=false:=ga fun x6=>u fun j m=>by
    cases V:f.getD j false with
    | true=>rfl
    | false=>exact (x6 ⟨j,m,V⟩).elim
   obtain⟨C,Y,x1⟩:=x9;have l:c.getD C false=false:=(I C Y).trans x1;cases g with
   | zero =>
    exfalso;have:=Fl (Nat.le_zero.1 O) C;rw[cE] at l;have H:C<c.size:=aa;have e2:c[C]?=some c[C]:=by simp[H]
    rw[e2] at l;rw[a2] at this;have e3:c.toList[C]?=some c[C]:=by simp[H]
    rw[e3] at this;simp at l this;rw[l] at this;cases this
   | succ g =>
    refine⟨fun y=>?_,fun i R=>?_⟩;have:=re X K y C aa;rw[l] at this;cases this
    ·obtain⟨o,z,g1,g2⟩:=(jy K).1 R;have x5:i<ops.size:=by
      rcases bS i ops.size with h|h;exact h;rw[ef h] at z;cases z
     have F:i<k:=by
      rcases bS i k with h|h;exact h
      ·exfalso
       have:=n3 X hc (i+1) i o aa z g2 C (W i h x5 C (by
        rcases bS C lo with h'|h';rw[U C h'] at l;cases l
        ·exact h') Y)
       rw[l] at this;cases this
     have x3:=(x8 f c T K I i F).1 R;have A:i<c.size:=aa;have x0:i<f.size:=aa;refine M6 (by rw[L i F];exact z) z (fun j b x2=>by rw[L j (hg i o F z j b x2)]) hQ (fun a w hK=>?_) (hh.2 i x3);refine ih (f.setIfInBounds i true) (c.setIfInBounds i true) g a w (by simpa using T) (by simpa using K) (fun j m=>?_) (fun j m=>?_) (fun j m=>?_) ?_ ?_ hK;rw[kK A];split;rfl;exact U j m;rw[kK A,kK x0,I j m];rw[kK A,ai aa];exact h4 j m
     ·intro j oj m D d q s;have D:(c.setIfInBounds i true).getD j false=true:=D;show (c.setIfInBounds i true).getD d.on false=true;rw[kK A] at D ⊢;by_cases Z:j=i
      ·subst Z;have:oj=o:=by rw[z] at m;simpa using m.symm
       subst this;have:=g2 d q s;simp[this]
      simp only[Z,dQ] at D;have:=hc j oj m D d q s;have this:c.getD d.on false=true:=this;simp[this]
     ·have e2:c.toList[i]?=some false:=by
       rw[cE] at g1;have e1:c[i]?=some c[i]:=by simp[A]
       rw[e1] at g1;have e3:c.toList[i]?=some c[i]:=by simp[A]
       rw[e3];simpa using g1
      have:=II c.toList i e2;simp only[Bc];omega
section
variable {E:Env} {ops:Array Oper} {n base:Nat} {Q:Exit->ax}
theorem Qm (u2:aJ E.P E.sp) (lo:Nat) {l:List (Oper × Rec)} {S:cJ} {B:bE} (hl:l.map (·.1)=ops.toList) (ht:∀ i o r,lo<=i->l[i]?=some (o,r)->vq E ops (cu n (fun j=>decide (j<i)) 0 l S) (cQ (fun j=>decide (j<i)) 0 l B) (base+8*i) o r) (y9:indep ops l=true)
  (hq:∀ a w I,cR E.w0 n (rA n l S) (rz l B) I a w->(∀ id b,I id=some b->id<base+8*ops.size)->Q .normal a w) :
  ∀ (C:Nat) (c:Array Bool) (a:Act) (w:World) (I:aC),c.size=ops.size->A1 c.toList<=C->A4 ops (fun j=>c.getD j false)->(∀ j,j<lo->c.getD j false=true) ->
   cR E.w0 n (cu n (fun j=>c.getD j false) 0 l S) (cQ (fun j=>c.getD j false) 0 l B) I a w ->
   (∀ id b,I id=some b->id<base\/∃ j,c.getD j false=true/\base+8*j<=id/\id<base+8*j+8) ->
   wpAny E.P .any ops Q C c a w:=by
 simp only[indep,aX] at y9;obtain⟨z,x4⟩:=y9;have x7:l.length=ops.size:=by have:=congrArg length hl;simpa using this
 have V:∀ (j:Nat) (p:Oper × Rec),l[j]?=some p->ops[j]?=some p.1:=by intro j p T;have:=congrArg (fun m:List Oper=>m[j]?) hl;simp only[dy,T,c6] at this;simpa using this.symm
 have y2:l.length<=(gZ ops.toList []).length:=by rw[(zX ops.toList []).2.1];simp[x7]
 have A:∀ (j:Nat) (p:Oper × Rec) (k:Nat) (q:Oper × Rec),l[j]?=some p->l[k]?=some q->j<k->((gZ ops.toList []).getD k 0).testBit j=true\/qg ops p q=false:=by intro j p k q g hk x2;exact Cw l 0 [] _ x4 y2 j p k q (by simpa using g) hk (by simpa using x2)
 -- u6 c
 have K:∀ (c:Array Bool) (a:Act) (w:World) (I:aC),c.size=ops.size->(∀ i,i<ops.size->c.getD i false=true) ->
   cR E.w0 n (cu n (fun j=>c.getD j false) 0 l S) (cQ (fun j=>c.getD j false) 0 l B) I a w ->
   (∀ id b,I id=some b->id<base\/∃ j,c.getD j false=true/\base+8*j<=id/\id<base+8*j+8)->Q .normal a w:=by
  intro c a w I u D hr hd;refine hq a w I ?_ (fun id b u0=>?_)
  ·have e1:cu n (fun j=>c.getD j false) 0 l S=rA n l S:=by
    funext t;refine l9 l 0 S S rfl (fun j p g _=>?_);simp only[bO];refine D j ?_;rcases bS j l.length with h|h;omega;simp[dN h] at g
   have e2:cQ (fun j=>c.getD j false) 0 l B=rz l B:=by funext t;refine l8 l 0 B B rfl (fun j p g _=>?_);simp only[bO];refine D j ?_;rcases bS j l.length with h|h;omega;simp[dN h] at g
   rw[<- e1,<- e2];exact hr
  ·rcases hd id b u0 with h|⟨j,Y,O,Z⟩;omega
   ·have:j<ops.size:=by
     rcases bS j ops.size with h|h;exact h;rw[cE,ef aa] at Y;cases Y
    omega
 have re:∀ c:Array Bool,c.size=ops.size->Region.ready .any ops c=[]->∀ i,i<ops.size->c.getD i false=true:=by
  intro c u hr;have:∀ N i,i<N->i<ops.size->c.getD i false=true:=by
   intro N;induction N with
   | zero=>intro i h;omega
   | succ N u4 =>
    intro i R F;cases hb:c.getD i false with
    | true=>rfl
    | false =>
     exfalso;have x8:i∈Region.ready .any ops c:=by
      unfold Region.ready;refine List.mem_filter.2 ⟨List.mem_range.2 F,?_⟩;have x3:ops[i]?=some ops[i]:=by simp[F]
      have z8:c.getD i true=false:=by
       rw[cE] at hb ⊢;have:c[i]?=some c[i]:=by simp[u,F]
       rw[this] at hb ⊢;simpa using hb
      rw[z8,x3];simp only[oJ,c6,cx,h8];rw[nq];intro e he;cases z6:Region.binds .any e with
      | false=>rfl
      | true =>have x2:=jr z (by simp[F]:ops.toList[i]?=some ops[i]) e (by simpa using he) z6;simp[u4 e.on aa aa]
     rw[hr] at x8;cases x8
  exact fun i R=>this (i+1) i aa R
 intro C;induction C with
 | zero =>
  intro c a w I u hf hc y1 hr hd;have D:∀ i,i<ops.size->c.getD i false=true:=by
   intro i R;have:=Fl (Nat.le_zero.1 hf) i;rw[cE];have O:c[i]?=some c[i]:=by simp[u,R]
   rw[O];have Z:c.toList[i]?=some c[i]:=by simp[u,R]
   rw[a2,Z] at this;simpa using this
  refine⟨?_,K c a w I u D hr hd⟩;unfold Region.ready;rw[List.filter_eq_nil_iff];intro i R;have R:=List.mem_range.1 R;have:=D i R;rw[cE] at this;have O:c[i]?=some c[i]:=by simp[u,R]
  rw[O] at this;rw[cE,O];simp at this ⊢;simp[this]
 | succ C ih =>
  intro c a w I u hf hc y1 hr hd;refine⟨fun h0=>K c a w I u (re c u h0) hr hd,fun i R=>?_⟩;obtain⟨z9,y6⟩:=List.mem_filter.1 R;have F:=List.mem_range.1 z9;have x3:ops[i]?=some ops[i]:=by simp[F]
  have y0:c[i]?=some c[i]:=by simp[u,F]
  simp only[aX,oE,x3,c6,cx] at y6;obtain⟨y7,y8⟩:=y6;have z0:c[i]=false:=by rw[cE,y0] at y7;simpa using y7
  have L:c.getD i false=false:=by rw[cE,y0];simpa using z0
  obtain⟨⟨o,r⟩,T⟩:∃ p,l[i]?=some p:=⟨l[i],by simp[x7,F]⟩;have W:=V i _ T;have eo:ops[i]=o:=by rw[x3] at W;simpa using W
  have U:∀ d∈o.after.toList,Region.binds .any d=true->c.getD d.on false=true:=by intro d x0 x1;rw[nq] at y8;have:=y8 d (by rw[eo];simpa using x0);simpa[x1] using this
  have early:∀ k,((gZ ops.toList []).getD i 0).testBit k=true->c.getD k false=true:=n3 z hc (i+1) i o aa W U;have x9:∀ j oj,ops[j]?=some oj->((gZ ops.toList []).getD j 0).testBit i=true->c.getD j false=false:=by
   intro j oj g hb;cases H:c.getD j false with
   | false=>rfl
   | true =>have:=n3 z hc (j+1) j oj aa g (hc j oj g H) i hb;rw[L] at this;cases this
  -- y4 is not z5 from i is z4 with it
  have X:∀ (t j:Nat) (p:Oper × Rec),l[j]?=some p->p.1.dst=some t->(t∈o.looksAt ops\/o.dst=some t)->(decide (j<i)=c.getD j false\/j=i):=by intro t j p g f hto;rcases wO j i with h|h|h;left;rcases A j p i (o,r) g T h with hb|hb;rw[early j hb];simpa using h;exfalso;simp only[qg,oW,aX] at hb;obtain⟨s1,s2,s3⟩:=Oper.apart_spec hb.1.1.1;rcases hto with hto|hto;exact s1 t f hto;exact s2 t f hto;right;exact h;left;rcases A i (o,r) j p T g h with hb|hb;rw[x9 j p.1 (V j p g) hb];simp;omega;exfalso;simp only[qg,oW,aX] at hb;obtain⟨s1,s2,s3⟩:=Oper.apart_spec hb.1.1.1;rcases hto with hto|hto;exact s3 t f hto;exact s2 t hto f
  have x5:∀ (t j:Nat) (p:Oper × Rec),l[j]?=some p->gY p.2 t=true->(t∈r.ids\/gY r t=true)->(decide (j<i)=c.getD j false\/j=i):=by intro t j p g f hto;have f:=oc f;rcases wO j i with h|h|h;left;rcases A j p i (o,r) g T h with hb|hb;rw[early j hb];simpa using h;exfalso;simp only[qg,oW,aX] at hb;obtain⟨⟨⟨_,b1⟩,b2⟩,b3⟩:=hb;rcases hto with hto|hto;exact m7 b1 t f hto;exact m7 b3 t f (oc hto);right;exact h;left;rcases A i (o,r) j p T g h with hb|hb;rw[x9 j p.1 (V j p g) hb];simp;omega;exfalso;simp only[qg,oW,aX] at hb;obtain⟨⟨⟨_,b1⟩,b2⟩,b3⟩:=hb;rcases hto with hto|hto;exact m7 b2 t f hto;exact m7 b3 t (oc hto) f
  have z1:lo<=i:=by rcases bS i lo with h|h;rw[y1 i h] at L;cases L;exact h
  have u3:=ht i o r z1 T;have x6:∀ t∈o.looksAt ops,cu n (fun j=>decide (j<i)) 0 l S t=cu n (fun j=>c.getD j false) 0 l S t:=by intro t hto;refine l9 l 0 S S rfl (fun j p g f=>?_);simp only[bO];rcases X t j p g f (.inl hto) with h|h;exact h;subst h;rw[L];simp
  have z2:vq E ops (cu n (fun j=>c.getD j false) 0 l S) (cQ (fun j=>c.getD j false) 0 l B) (base+8*i) o r:=by rcases u3 with ⟨Y,O⟩|⟨out,ids,Y,O,Z,h4,h5,h6⟩;exact .inl ⟨wo x6 Y,O⟩;refine .inr ⟨out,ids,?_,O,Z,h4,h5,h6⟩;rw[<- Ee x6 ?_];exact Y;intro t z3;rw[<- JM Y,<- h6] at z3;refine l8 l 0 B B rfl (fun j p g f=>?_);simp only[bO];rcases x5 t j p g f (.inl z3) with h|h;exact h;subst h;rw[L];simp
  have s:∀ j,(c.setIfInBounds i true).getD j false=if j=i then true else c.getD j false:=by intro j;rw[cE,cE];by_cases h:j=i;subst h;rw[sz aa];simp;rw[vr (fun e=>h e.symm)];simp[h]
  unfold wpOp;simp only[W];refine sf u2 hr z2 (fun k Y O=>?_) (fun a' w' u5 u1 y5=>?_)
  ·cases hk:I k with
   | none=>rfl
   | some b =>
    exfalso;rcases hd k b hk with h|⟨j,Z,h4,h5⟩;omega
    ·have:j=i:=by omega
     subst this;rw[L] at Z;cases Z
  ·have e1:cu n (fun j=>(c.setIfInBounds i true).getD j false) 0 l S=fw n o.dst r.val (cu n (fun j=>c.getD j false) 0 l S):=by
    funext t;by_cases y3:t<n
    ·by_cases y:o.dst=some t
     ·rw[F3 (o:=o) (r:=r) y y3 l 0 i S T (by simp only[bO];rw[s];simp) (fun j p g x2 f=>by
       simp only[bO];rw[s,ai aa];rcases X t j p g f (.inr y) with h|h;rw[<- h];simp;omega
       ·omega)]
      simp[fw,y,y3]
     ·have:fw n o.dst r.val (cu n (fun j=>c.getD j false) 0 l S) t=cu n (fun j=>c.getD j false) 0 l S t:=by
       unfold fw;split;rename_i d z7;rw[ai];rintro⟨rfl,_⟩;exact y z7;rfl
      rw[this];refine l9 l 0 S S rfl (fun j p g f=>?_);simp only[bO];rw[s];by_cases G:j=i;subst G;rw[T] at g;simp at g;subst g;exact absurd f y;simp[G]
    rw[qW n _ aa];unfold fw;split;rw[ai (by rintro⟨rfl,h⟩;exact y3 h),qW n _ aa];rw[qW n _ aa]
   have e2:cQ (fun j=>(c.setIfInBounds i true).getD j false) 0 l B=ia r (cQ (fun j=>c.getD j false) 0 l B):=by
    funext t;cases y:gY r t with
    | true =>
     exact FZ (o:=o) (r:=r) y _ l 0 i B T (by simp only[bO];rw[s];simp) (fun j p g x2 f=>by
       simp only[bO];rw[s,ai aa];rcases x5 t j p g f (.inr y) with h|h;rw[<- h];simp;omega
       ·omega)
    | false =>rw[Hx y];refine l8 l 0 B B rfl (fun j p g f=>?_);simp only[bO];rw[s];by_cases G:j=i;subst G;rw[T] at g;simp at g;subst g;rw[y] at f;cases f;simp[G]
   refine ih (c.setIfInBounds i true) a' w' u5 (by simpa using u) ?_ ?_ (fun j g=>by rw[s];split<;>first|rfl|exact y1 j g) (by rw[e1,e2];exact u1) ?_;have:=II c.toList i (by simpa[z0] using y0);simp only[Bc];omega
   ·intro j oj g H d x0 x1;have H:(c.setIfInBounds i true).getD j false=true:=H;show (c.setIfInBounds i true).getD d.on false=true;rw[s] at H ⊢;by_cases G:j=i
    ·subst G;have:oj=o:=by rw[W] at g;simpa using g.symm
     subst this;have:=U d x0 x1;simp[this]
    simp only[G,dQ] at H;have:=hc j oj g H d x0 x1;simp[this]
   intro k b hk;rcases y5 k b hk with h|⟨Y,O⟩;rcases hd k b h with h|⟨j,Z,h4⟩;exact .inl h;exact .inr ⟨j,by rw[s];simp[Z],h4⟩;exact .inr ⟨i,by rw[s];simp,Y,O⟩
end
def pV (P:Program) (ops:Array Oper) (i:Nat) (l:List Code) (Pre n r:ax) (x:Nat->ax):Prop :=
 ∀ (a:Act) (w:World) (Q:Exit->ax),Pre a w->(∀ a w,n a w->Q .normal a w)->(∀ a w,r a w->Q .ret a w)->(∀ i a w,x i a w->Q (.exit i) a w)->∀ fuel,ops.size-i<=fuel->wpAny P .any ops (Exit.then (kA P l Q) Q) fuel (gk i ops.size) a w
def vv (ops:Array Oper) (lo k:Nat):Bool :=
 n5 ops.toList&&(ble k ops.size&&((range ops.size).all fun j=>blt j k||(range k).all fun i=>blt i lo||((gZ ops.toList []).getD j 0).testBit i)) &&
 (ops.toList.zipIdx.all fun (o,i)=>match o.guard with
  | none=>true
  | some (j,_)=>blt j i)
theorem zz {ops:Array Oper} {lo k:Nat} (h:vv ops lo k=true):n5 ops.toList=true:=by simp only[vv,aX] at h;exact h.1.1
theorem NX {ops:Array Oper} {lo k:Nat} (h:vv ops lo k=true):k<=ops.size:=by simp only[vv,aX] at h;exact gJ h.1.2.1
theorem IZ {ops:Array Oper} {lo k:Nat} (h:vv ops lo k=true):∀ j,k<=j->j<ops.size->∀ i,lo<=i->i<k->((gZ ops.toList []).getD j 0).testBit i=true:=by simp only[vv,aX] at h;intro j d a i c b;have:=List.all_eq_true.1 h.1.2.2 j (List.mem_range.2 a);simp only[oH] at this;rcases this with h|h;have:=fG h;omega;have:=List.all_eq_true.1 h i (List.mem_range.2 b);simp only[oH] at this;rcases this with h|h;have:=fG h;omega;exact h
theorem Qf {ops:Array Oper} {lo k:Nat} (h:vv ops lo k=true) {i:Nat} {o:Oper} (c:ops[i]?=some o) {j:Nat} {b:Bool} (a:o.guard=some (j,b)):j<i:=by simp only[vv,aX] at h;have:=List.all_eq_true.1 h.2 (o,i) (List.mem_zipIdx_iff_getElem?.2 (by simpa using c));simp only[a] at this;exact fG this
theorem xW {ops:Array Oper} (h:n5 ops.toList=true) (k n:Nat):A4 ops (fun j=>(gk k n).getD j false):=by intro j g e a d b c;have a:(gk k n).getD j false=true:=a;show (gk k n).getD d.on false=true;rw[fi] at a ⊢;have f:=jr h (by simpa using e:ops.toList[j]?=some g) d b c;simp at a ⊢;omega
theorem GH.drew {E:cf} {N:Nat} {d:St} {G:aj} {a:Act} {w:World} (h:GH E N d G a w):GH E N d G a { w with drawn:=w.drawn+1 }:=by obtain⟨W,F,e,f,g⟩:=h;exact⟨W,F,e,f,g.drew⟩
def nU (ops:Array Oper) (k:Nat):Array Oper:=⟨ops.toList.take k⟩
def uN (a:St) (ops:Array Oper) (i:Nat):List (Oper × Rec):=(ops.toList.take i).map fun o=>(o,⟨match o.dst with|some d=>a.S d|none=>.junk,[],[],[]⟩)
theorem EC {N:Nat} {e:Nat->Bool} {S:cJ}:∀ (l:List (Oper × Rec)) (i:Nat),(∀ p∈l,∀ d,p.1.dst=some d->p.2.val=S d)->cu N e i l S=S
 | [],_,_=>rfl
 | (o,r)::l,i,h=>by
  have c:fw N o.dst r.val S=S:=by
   funext t;unfold fw;cases f:o.dst with
   | none=>rfl
   | some d =>have:=h (o,r) aw d f;have this:r.val=S d:=this;by_cases b:t=d/\d<N;simp only[b,and_self,eB];exact this;simp only[b,dQ]
  simp only[cu];cases e i with
  | true=>simp only[c];exact EC l (i+1) (fun p a=>h p (by simp[a]))
  | false=>exact EC l (i+1) (fun p a=>h p (by simp[a]))
theorem EB {e:Nat->Bool} {B:bE}:∀ (l:List (Oper × Rec)) (i:Nat),(∀ p∈l,p.2.new=[]/\p.2.wr=[])->cQ e i l B=B
 | [],_,_=>rfl
 | (o,r)::l,i,h=>by
  obtain⟨a,b⟩:=h (o,r) aw;have a:r.new=[]:=a;have b:r.wr=[]:=b;have d:ia r B=B:=by funext t;simp[ia,a,b,cW]
  simp only[cQ];cases e i with
  | true=>simp only[d];exact EB l (i+1) (fun p c=>h p (by simp[c]))
  | false=>exact EB l (i+1) (fun p c=>h p (by simp[c]))
theorem Jh {N:Nat} {e:Nat->Bool}:∀ (l m:List (Oper × Rec)) (i:Nat) (S:cJ),cu N e i (l++m) S=cu N e (i+l.length) m (cu N e i l S)
 | [],_,_,_=>rfl
 | (o,r)::l,m,i,S=>by simp only[iT,cu];rw[Jh l m (i+1) _,show i+1+l.length=i+((o,r)::l).length from by simp only[bN];omega]
theorem Jf {e:Nat->Bool}:∀ (l m:List (Oper × Rec)) (i:Nat) (B:bE),cQ e i (l++m) B=cQ e (i+l.length) m (cQ e i l B)
 | [],_,_,_=>rfl
 | (o,r)::l,m,i,B=>by simp only[iT,cQ];rw[Jf l m (i+1) _,show i+1+l.length=i+((o,r)::l).length from by simp only[bN];omega]
theorem Ji {N:Nat} {e:Nat->Bool} {S:cJ}:∀ (l:List (Oper × Rec)) (i:Nat),(∀ j,i<=j->e j=false)->cu N e i l S=S
 | [],_,_=>rfl
 | (o,r)::l,i,h=>by simp only[cu,h i (aI _)];exact Ji l (i+1) (fun j a=>h j aa)
theorem Jg {e:Nat->Bool} {B:bE}:∀ (l:List (Oper × Rec)) (i:Nat),(∀ j,i<=j->e j=false)->cQ e i l B=B
 | [],_,_=>rfl
 | (o,r)::l,i,h=>by simp only[cQ,h i (aI _)];exact Jg l (i+1) (fun j a=>h j aa)
theorem O9 (a:St) (ops:Array Oper) (i:Nat) (b:i<=ops.size):(uN a ops i).length=i:=by simp[uN];omega
theorem Re {N:Nat} {e:Nat->Bool} (a:St) (ops:Array Oper) (i:Nat) (c:i<=ops.size) (l:List (Oper × Rec)):cu N e 0 (uN a ops i++l) a.S=cu N e i l a.S:=by rw[Jh,O9 a ops i c,bO];congr 1;refine EC _ 0 (fun p f d b=>?_);obtain⟨o,_,rfl⟩:=mem_map.1 f;have b:o.dst=some d:=b;simp only[b]
theorem Rc {e:Nat->Bool} (a:St) (ops:Array Oper) (i:Nat) (b:i<=ops.size) (l:List (Oper × Rec)):cQ e 0 (uN a ops i++l) a.B=cQ e i l a.B:=by rw[Jf,O9 a ops i b,bO];congr 1;refine EB _ 0 (fun p c=>?_);obtain⟨o,_,rfl⟩:=mem_map.1 c;exact⟨rfl,rfl⟩
theorem Mb {E:cf} {N:Nat} (O:aJ E.P E.sp) {ops:Array Oper} {d:St} {G:aj} {i:Nat} {Kf:St->Prop} {Q1:Exit->ax} (s:i<=ops.size)
  (h1:∀ (w:World) (ids:List (Nat × Nat)) (M:Mem) (num:Nat × Nat->Nat),uH ⟨E.P,E.sp,⟨w,ids,E.gl,M,num,d.next⟩⟩ ops i (ops.toList.drop i) d [] (fun c tr=>Ga (indep ops (uN d ops i++(ops.toList.drop i).zip tr)) (Kf { c with next:=c.next+8*ops.size })))
  {a:Act} {w:World} (hh:GH E N d G a w) (hq:∀ c a w,Kf c->GH E N c G a w->Q1 .normal a w) (f:Nat) (q:ops.size-i<=f):wpAny E.P .any ops Q1 f (gk i ops.size) a w:=by
 obtain⟨F,u,H,hG,hN,A,y⟩:=hh.kU;obtain⟨rs,c,q1,W,X,q4,q5,Y,C⟩:=As _ _ _ _ _ (h1 w (yQ u d.next) u.M (fun p=>u.n p.1));obtain⟨e,C⟩:=qx C;simp only[dG] at e C;rw[hN] at W X Y;have g:n5 ops.toList=true:=by simp only[indep,aX] at e;exact e.1
 have t:(uN d ops i).length=i:=by simp[uN];omega
 have K:(uN d ops i).map (·.1)=ops.toList.take i:=by unfold uN;rw[lC];exact List.map_id' _
 have m:((uN d ops i)++(ops.toList.drop i).zip rs).map (·.1)=ops.toList:=by rw[di,K,List.map_fst_zip (by simp[q1])];exact dO i ops.toList
 have V:((uN d ops i)++(ops.toList.drop i).zip rs).length=ops.size:=by have:=congrArg length m;simpa using this
 have R:(fun j=>(gk i ops.size).getD j false)=fun j=>decide (j<i):=funext fun j=>fi j;refine Qm (E:=⟨E.P,E.sp,jf w E.gl u d.next⟩) (ops:=ops) (n:=N) (base:=d.next) (Q:=Q1) O i (l:=(uN d ops i)++(ops.toList.drop i).zip rs) (S:=d.S) (B:=d.B) m (fun k o r hk z=>?_) e (fun U Z T L D=>?_) f (gk i ops.size) a w u (iG s) (by rw[AG];exact q) (xW g i ops.size) (fun j I=>by rw[fi];simpa using I) ?_ (fun id b h=>.inl (y id b h));rw[qo aa,t] at z;have:=Kt _ i (k-i) d.S d.B o r W z;rw[show i+(k-i)=k from by omega] at this;rw[Re d ops i s,Rc d ops i s];exact this
 ·have hK:Holds (jf w E.gl u d.next) N { c with next:=c.next+8*ops.size } U Z:=by
   refine⟨Y,T,?_,fun id b h=>?_⟩
   ·have e1:({ c with next:=c.next+8*ops.size }:St).S=rA N ((uN d ops i)++(ops.toList.drop i).zip rs) d.S:=by
     show c.S=_;rw[X,rA,Re d ops i s]
    have e2:({ c with next:=c.next+8*ops.size }:St).B=rz ((uN d ops i)++(ops.toList.drop i).zip rs) d.B:=by show c.B=_;rw[q4,rz,Rc d ops i s]
    rw[e1,e2];exact L
   show id<c.next+8*ops.size;rw[q5];exact D id b h
  exact hq _ U Z C ⟨_,F,H,hG,hK⟩
 rw[R,Re d ops i s,Rc d ops i s,Ji _ i (fun j I=>by simp;omega),Jg _ i (fun j I=>by simp;omega)];exact A
section
variable {E:cf} {N:Nat} {n r:ax} {x:Nat->ax}
theorem iD (g:E.P.follows .mixedOrders=true) {l:List Code} {rid:Nat} {ops:Array Oper} {f:St} {G:aj} (d:l.head?=some (.region rid ops true)) (h:pV E.P ops 0 l.tail (GH E N f G) n r x):aN E.P l (GH E N f G) n r x:=by
 intro a w Q j i k m;cases l with
 | nil=>simp at d
 | cons c l =>
  simp only[List.head?_cons,aE] at d;subst d;show (Code.region rid ops true).wp E.P (Exit.then (kA E.P l Q) Q) a w;refine wp_region_any g ?_;have e:Array.replicate ops.size false=gk 0 ops.size:=by apply jn;simp[gk]
  rw[e];exact h a _ Q j.drew i k m ops.size aa
theorem eL (W:aJ E.P E.sp) {l:List Code} {ops:Array Oper} {F:St} {G:aj} {Y:Type} {i:Nat} (k:Nat) (f:St->Y) (τ:Y->St) (K:Y->Prop) (O:i<=k) (q:vv ops i k=true)
  (Z:∀ (w:World) (ids:List (Nat × Nat)) (M:Mem) (num:Nat × Nat->Nat),uH ⟨E.P,E.sp,⟨w,ids,E.gl,M,num,F.next⟩⟩ (nU ops k) i ((nU ops k).toList.drop i) F [] (fun m tr=>Ga (indep (nU ops k) (uN F (nU ops k) i++((nU ops k).toList.drop i).zip tr)) (({ m with next:=m.next+8*(nU ops k).size }:St).le (cm E) (τ (f { m with next:=m.next+8*(nU ops k).size })) (K (f { m with next:=m.next+8*(nU ops k).size })))))
  (h2:∀ g,K g->pV E.P ops k l (GH E N (τ g) G) n r x):pV E.P ops i l (GH E N F G) n r x:=by
 intro a w Q hh T V hx d u;have R:=NX q;have C:(nU ops k).size=k:=by simp[nU];omega
 let D:Exit->ax:=Exit.then (kA E.P l Q) Q;let Q1:Exit->ax:=fun e a w=>match e with
  | .normal=>∀ d,ops.size-k<=d->wpAny E.P .any ops D d (gk k ops.size) a w
  | e=>D e a w
 have hQ:XU Q1 D:=fun e a w U h=>by
  cases e with
  | normal=>exact absurd rfl U
  | _=>exact h
 have s:=Mb (E:=E) (N:=N) (G:=G) (Q1:=Q1) (Kf:=fun m=>m.le (cm E) (τ (f m)) (K (f m))) W aa Z hh (fun m a w hk I=>by
  show ∀ d,ops.size-k<=d->wpAny E.P .any ops D d (gk k ops.size) a w;intro d hf;obtain⟨H,L⟩:=I.le hk
  exact h2 _ H a w Q L T V hx d hf) (k-i) aa
 rw[C] at s;refine RY (lo:=i) (ops1:=nU ops k) (Q1:=Q1) (k:=k) C R (fun j A=>by simp[nU,fE,A]) (fun j o A ho g b I=>Nat.lt_trans (Qf q ho I) A) (zz q) (IZ q) hQ (fun a w h=>h) (k-i) (gk i k) (gk i ops.size) d a w (iG O) (iG aa) (fun j A=>by rw[fi];simpa using A) (fun j _=>by rw[fi,fi]) (fun j A=>by rw[fi];simp;omega) (xW (zz q) i ops.size) (by rw[AG];exact u) s
theorem gS (s:aJ E.P E.sp) {l:List Code} {ops:Array Oper} {j:St} {G:aj} {u:Type} {i:Nat} (f:St->u) (τ:u->St) (K:u->Prop) (H:i<=ops.size)
  (A:∀ (w:World) (ids:List (Nat × Nat)) (M:Mem) (num:Nat × Nat->Nat),uH ⟨E.P,E.sp,⟨w,ids,E.gl,M,num,j.next⟩⟩ ops i (ops.toList.drop i) j [] (fun d tr=>Ga (indep ops (uN j ops i++(ops.toList.drop i).zip tr)) (({ d with next:=d.next+8*ops.size }:St).le (cm E) (τ (f { d with next:=d.next+8*ops.size })) (K (f { d with next:=d.next+8*ops.size })))))
  (C:∀ g,K g->aN E.P l (GH E N (τ g) G) n r x):pV E.P ops i l (GH E N j G) n r x:=by
 intro a w Q F o q L h e
 exact Mb (E:=E) (N:=N) (G:=G) (Q1:=Exit.then (kA E.P l Q) Q) (Kf:=fun d=>d.le (cm E) (τ (f d)) (K (f d))) s H A F (fun d a w I D=>by
  obtain⟨k,m⟩:=D.le I
  exact C _ k a w Q m o q L) h e
theorem ug {l:List Code} {ops:Array Oper} {i:Nat} {d τ:St} {G:aj} {K:Prop} (h:d.le (cm E) τ K) (e:K->pV E.P ops i l (GH E N τ G) n r x):pV E.P ops i l (GH E N d G) n r x:=by intro a w Q g;obtain⟨f,c⟩:=g.le h;exact e f a w Q c
theorem qw {l:List Code} {ops:Array Oper} {i:Nat} {c:St} {bl:List (List Cell)} {p:Nat} {d:aj} (e:List Nat) (f:e.map c.S=e.map fun _=>SV.is (.one (.v (pt p)))) (τ:St) (g:(rS c e (bl.map fun j=>j.map (Cell.r7 (c.next + ·)))).le (cm (E.pinned c.next p)) τ True)
  (h:pV E.P ops i l (GH (E.pinned c.next p) N τ d) n r x):pV E.P ops i l (GH E N c (aj.obj bl p d)) n r x:=by
 intro a w Q k;exact h a w Q ((k.Q6 e (Lr f)).le g).2
end
theorem aj.ext {G H:aj} (h:∀ w M F,G.P w M F↔H.P w M F):G=H:=by obtain⟨P,a,b,c⟩:=G;obtain⟨d,e,f,g⟩:=H;have:P=d:=funext fun w=>funext fun M=>funext fun F=>propext (h w M F);subst this;rfl
def aj.sep (G H:aj):aj where
 P w M F:=∃ F1 F2,G.P w M F1/\H.P w M F2/\(∀ b,F1 b->¬ F2 b)/\∀ b,F b↔(F1 b\/F2 b)
 mono w M M' F hM h:=by obtain⟨F1,F2,h1,h2,h3⟩:=h;exact⟨F1,F2,G.mono _ _ _ _ hM h1,H.mono _ _ _ _ hM h2,h3⟩
 stable w w' M F h hs:=by obtain⟨F1,F2,h1,h2,h3,h4⟩:=h;exact⟨F1,F2,G.stable _ _ _ _ h1 (fun b hb=>hs b ((h4 b).2 (.inl hb))),H.stable _ _ _ _ h2 (fun b hb=>hs b ((h4 b).2 (.inr hb))),h3,h4⟩
 lt w M F h b hb:=by obtain⟨F1,F2,h1,h2,h3,h4⟩:=h;rcases (h4 b).1 hb with h|h;exact G.lt _ _ _ h1 b h;exact H.lt _ _ _ h2 b h
theorem ja (G H:aj):aj.sep G H=aj.sep H G:=by
 have a:∀ (G H:aj) w M F,(aj.sep G H).P w M F->(aj.sep H G).P w M F:=by rintro G H w M F ⟨e,F2,f,g,h,i⟩;exact⟨F2,e,g,f,fun b j d=>h b d j,fun b=>(i b).trans or_comm⟩
 exact aj.ext fun w M F=>⟨a G H w M F,a H G w M F⟩
theorem Uf (G H K:aj):aj.sep (aj.sep G H) K=aj.sep G (aj.sep H K):=by refine aj.ext fun w M F=>⟨?_,?_⟩;rintro⟨k,f,⟨e,F2,g,h,i,a⟩,c,d,j⟩;refine⟨e,fun b=>F2 b\/f b,g,⟨F2,f,h,c,fun b hb=>d b ((a b).2 (.inr hb)),fun _=>kC⟩,fun b hb hc=>?_,fun b=>?_⟩;rcases hc with hc|hc;exact i b hb hc;exact d b ((a b).2 (.inl hb)) hc;rw[j b,a b,or_assoc];rintro⟨e,l,g,⟨F2,f,h,i,a,c⟩,d,j⟩;refine⟨fun b=>e b\/F2 b,f,⟨e,F2,g,h,fun b hb hc=>d b hb ((c b).2 (.inl hc)),fun _=>kC⟩,i,fun b hb hc=>?_,fun b=>?_⟩;rcases hb with hb|hb;exact d b hb ((c b).2 (.inr hc));exact a b hb hc;rw[j b,c b,or_assoc]
theorem pv (G:aj):aj.sep G aj.none=G:=by refine aj.ext fun w M F=>⟨?_,fun h=>⟨F,fun _=>False,h,fun _ h=>h,fun _ _ h=>h,fun _=>⟨.inl,fun h=>h.elim id False.elim⟩⟩⟩;rintro⟨a,F2,d,e,g,f⟩;have:F=a:=funext fun b=>propext ((f b).trans ⟨fun h=>h.elim id fun q=>(e b q).elim,.inl⟩);rw[this];exact d
theorem bF (bl:List (List Cell)) (p:Nat) (d:aj):aj.obj bl p d=aj.sep (aj.obj bl p aj.none) d:=by refine aj.ext fun w M F=>⟨?_,?_⟩;rintro⟨e,F2,k,o,s,f,g,u,y⟩;refine⟨fun b=>∃ i:Nat,e[i]?=some (some b),F2,⟨e,fun _=>False,fun _ h=>h,o,s,fun b=>⟨.inr,fun h=>h.elim False.elim id⟩,fun i b j=>⟨fun h=>h,(g i b j).2⟩,u,y⟩,k,fun b ⟨i,D⟩=>(g i b D).1,fun b=>(f b).trans or_comm⟩;rintro⟨I,F2,⟨e,K,k,o,s,f,g,u,y⟩,G,C,A⟩;refine⟨e,F2,G,o,s,fun b=>?_,fun i b j=>⟨C b ((f b).2 (.inr ⟨i,j⟩)),(g i b j).2⟩,u,y⟩;rw[A b,f b];exact⟨fun h=>h.elim (fun q=>q.elim (fun q=>(k b q).elim) .inr) .inl,fun h=>h.elim .inr fun q=>.inl (.inr q)⟩
instance : Std.Associative aj.sep := ⟨Uf⟩
instance : Std.Commutative aj.sep := ⟨ja⟩
theorem b5 {P:Program} {Q:Nat->Option (Sigma aH)} {f:FuncId} {α β:Type} {args:α->List SV} {pre:α->Prop} {L:α->aj} {W:α->β->SV} {O:α->β->aj} {J:α->β->Prop} (R:α->aj)
  (h:ez P Q f args pre L W O J):ez P Q f args pre (fun x=>aj.sep (L x) (R x)) W (fun x y=>aj.sep (O x y) (R x)) J:=by
 rintro x hx w M us F ⟨Y,I,hG,T,C,i⟩ hM D s hv;refine (h x hx w M us Y hG hM D (fun b hb=>s b ((i b).2 (.inl hb))) hv).mono ?_;rintro e w2 ⟨y,v,F2,Z,hJ,rfl,u,o,j,g,A,G⟩;have d:=(R x).lt _ _ _ T;refine⟨y,v,fun b=>F2 b\/I b,Z,hJ,rfl,⟨F2,I,u,(R x).mono _ _ _ _ g ((R x).stable _ _ _ _ T (fun b hb=>j.block b (d b hb) (fun q=>C b q hb))),fun b hb U=>?_,fun _=>kC⟩,fun b hb=>?_,⟨j.os,j.tape,j.output,j.size,fun k hk G=>j.block k hk (fun q=>G ((i k).2 (.inl q)))⟩,g,fun b l hb=>?_,G⟩;rcases o b hb with q|q;exact C b q U;have:=d b U;omega;rcases hb with hb|hb;exact (o b hb).imp (fun q=>(i b).2 (.inl q)) id;exact .inl ((i b).2 (.inr hb));obtain⟨k1,k2,V⟩:=A b l hb;refine⟨k1,fun q=>q.elim k2 fun q=>?_,V.imp id (fun q=>q.imp (fun q=>(i b).2 (.inl q)) id)⟩;rcases V with k|k|k;have:=d b q;omega;exact C b k q;exact s b ((i b).2 (.inr q)) l k
theorem Lc {E:cf} {N:Nat} {q:St} {G2:aj} {W:Act} {y w2:World} {F F2:Nat->Prop} {f:aC} {M2:Mem} {v:Value} {U:SV} {dst:Option Tmp}
  (c:GOk E (jf y E.gl f q.next) F) (C:q.slots.length=N) (a:cR (jf y E.gl f q.next) N q.S q.B f W y) (k:∀ id b,f id=some b->id<q.next) (x0:Mem.le f.M (cb y))
  (Z:G2.P w2 M2 F2) (O:∀ b,F2 b->F b\/y.heap.size<=b) (j:rr F y w2) (z:Mem.le f.M M2) (D:∀ b l,M2 b=some l->cb w2 b=some l/\¬ F2 b/\(y.heap.size<=b\/F b\/f.M b=some l)) (x4:∀ L:aC,aC.le f L->L.M=M2->U.rel L v):GH E N (q.put dst U) G2 (W.put dst v) w2:=by
 have x5:∀ b l,f.M b=some l->b<y.heap.size:=fun b l g=>sZ (x0 b l g);let o:aC:=⟨f.m,f.n,M2⟩;have u:aC.le f o:=⟨fun i b h=>⟨h,rfl⟩,z⟩;have mL:∀ id b,f id=some b->¬ F b:=fun id b g Y=>by have h:=c.own b Y;rw[eM.2 ⟨id,k id b g,g⟩] at h;cases h
 have A:∀ b,b<y.heap.size->¬ F b->w2.heap[b]?=y.heap[b]?:=j.block;have I:cR (jf w2 E.gl o q.next) N (fw N dst U q.S) q.B o (W.put dst v) w2:=by
  refine⟨by rw[put_defers];exact a.defers,by rw[Am];exact a.size,?_,kZ.refl _,?_,a.inj,fun id b h=>⟨.inr (eM.2 ⟨id,k id b h,h⟩),fe (a.bound id b h).2 j.size⟩,fun p H=>⟨(bf.1 H).2,rfl⟩,?_,fun b l h _=>.inr h,?_,fun p H=>(bf.1 H).1,Mem.le_refl _⟩
  ·intro t;rw[Dx dst v t a.size];cases dst with
   | none=>exact SV.fh u (a.slots t)
   | some d =>simp only[fw];by_cases V:t=d/\d<N;simp only[V,and_self,eB];exact x4 o u rfl;simp only[V,dQ];exact SV.fh u (a.slots t)
  intro id X s G b g;obtain⟨l,x1,x2⟩:=a.blks id X s G b g;refine⟨l,?_,dU u x2⟩;obtain⟨T,el,fr,k1,k2⟩:=x1;exact⟨T,el,fr,(A b (a.bound id b g).2 (mL id b g)).trans k1,k2⟩;intro b l g;obtain⟨h1,h2,h3⟩:=D b l g;refine⟨fun i X hi G K=>?_,iE h1⟩;rcases h3 with h3|h3|h3;have:=(a.bound i b K).2;omega;exact mL i b K h3;exact (a.mem b l h3).1 i X hi G K;intro gg e x hg;exact ko u.mem (a.glob gg e x hg)
 have Q:GOk E (jf w2 E.gl o q.next) F2:=by
  refine⟨rfl,⟨j.os.trans c.kep.os,j.tape.trans c.kep.tape,j.output.trans c.kep.output,h9 c.kep.size j.size,fun b g hs=>?_⟩,fun p H=>c.ids p (bf.2 (bf.1 H)),fun b g=>?_,fun b g=>?_,fun b g l hl=>?_,fun b l g x3=>?_,fun p H=>bf.2 (bf.1 (c.xx p H)),c.plt,fun b l g=>z b l (c.mle b l g)⟩;have:=c.kep.size;refine (A b (fe g this) (fun Y=>?_)).trans (c.kep.block b g hs);rcases c.foot b Y with h|h;exact hs h;omega;have:=c.kep.size;rcases O b g with h|h;exact c.foot b h;exact .inr (h9 this h)
  ·cases V:(jf w2 E.gl o q.next).own b with
   | false=>rfl
   | true =>obtain⟨id,_,s⟩:=eM.1 V;have s:f id=some b:=s;rcases O b g with h|h;exact (mL id b s h).elim;have:=(a.bound id b s).2;omega
  exact (D b l hl).2.1 g;rcases (D b l g).2.2 with h|h|h;have:=c.kep.size;have h6:E.w.heap.size<=y.heap.size:=this;omega;rcases c.foot b h with h|h;exact .inl h;omega;exact c.old b l h x3
 have R:((q.put dst U).S=fw N dst U q.S):=by rw[GK,C]
 refine⟨_,F2,Q,Z,by rw[za];exact C,o,?_,fun id b h=>by rw[Al];exact k id b h⟩;rw[R,Kg];exact I
def Fx (E:cf) (c:Array Oper) (k:Nat) (Pre:ax) {f:Type} (J:f->Prop) (b:f->ax):Prop :=
 ∀ (C:ax) (Q:Exit->ax),(∀ g,J g->∀ a w,b g a w->C a w)->∀ d e,Pre d e->∃ o,c[k]?=some o/\Region.wanted o (yielded c d.tmps)=true/\o.wp E.P d e C Q
theorem eO {E:cf} {N:Nat} {ops:Array Oper} {k:Nat} {τ:St} {f:FuncId} {fn:Func} {α β:Type} {args:α->List SV} {pre:α->Prop} {A:α->aj} {sv:α->β->SV} {G2:α->β->aj} {J:α->β->Prop}
  (u:ez E.P E.gl f args pre A sv G2 J) (z:α) (Y:pre z) (h:J8 τ.S ops k f=true) (U:enters E.P f fn) (d:(zb ops k).map (fC τ.S)=args z) (s:Gq (args z)=true) (w:∀ y,(sv z y).ids=[]) :
  Fx E ops k (GH E N τ (A z)) (J z) (fun y=>GH E N (τ.put (nV ops k) (sv z y)) (G2 z y)):=fun C Q I a1 G V =>
 aeC (C:=C) (Q:=Q) (sv z) (G2 z) (J z) h U (fun G ρ Z F L T q j D=>by
  rw[d] at D;refine (u z Y G ρ.M Z F L T q j (UM (ρ:=ρ) (ρ':=aC.start ρ.M) rfl D s)).mono ?_;rintro e w2 ⟨y,v,F2,H,O,rfl,m,i,R,g,o,W⟩
  exact⟨y,v,F2,H,O,rfl,m,i,R,g,o,fun ρ' _ e=>pk e W (w y)⟩) I V
def jl (ops:Array Oper) (k:Nat):Op:=match ops[k]? with
 | some o=>o.op
 | _=>.move (.const undef)
def pP (ops:Array Oper) (k:Nat):TypeId:=match ops[k]? with
 | some o=>o.type
 | _=>0
def isStep (S:cJ) (a:Array Oper) (k:Nat):Bool:=match a[k]? with
 | some o=>lJ S a o.guard
 | _=>false
def Fu (P:Program) (ev:Operand->Value) (b:Op) (c:TypeId) (w:World) (v:Value) (a:World):Prop :=
 ∀ o:Oper,o.op=b->o.type=c->(execOp ev o).run P w=.ok (.value v) a\/(v=undef/\(execOp ev o).run P w=.ok .skip a)
theorem WY {E:cf} {N:Nat} {c:Array Oper} {k:Nat} {H:St} {G:aj} {α:Type} (sv:α->SV) (G2:α->aj) (J:α->Prop) (m:isStep H.S c k=true)
  (h2:∀ (s:World) (w:aC) (ev:Operand->Value) (F:Nat->Prop),G.P s w.M F->Mem.le w.M (cb s)->rq E.gl w.M->(∀ b,F b->∀ l,w.M b≠some l)->(∀ o,(fC H.S o).rel w (ev o)) ->
   ∃ g v U F2 I,J g/\Fu E.P ev (jl c k) (pP c k) s v U/\(G2 g).P U I F2/\(∀ b,F2 b->F b\/s.heap.size<=b)/\rr F s U/\Mem.le w.M I/\(∀ b l,I b=some l->cb U b=some l/\¬ F2 b/\(s.heap.size<=b\/F b\/w.M b=some l))/\∀ z:aC,aC.le w z->z.M=I->(sv g).rel z v) :
  Fx E c k (GH E N H G) J (fun g=>GH E N (H.put (nV c k) (sv g)) (G2 g)):=by
 intro C Q V a1 s x0;obtain⟨o,D,f⟩:∃ o,c[k]?=some o/\lJ H.S c o.guard=true:=by unfold isStep at m;split at m;rename_i o D;exact⟨o,D,m⟩;cases m
 have O:nV c k=o.dst:=by unfold nV;rw[D]
 have x1:o.op=jl c k:=by unfold jl;rw[D]
 have x3:o.type=pP c k:=by unfold pP;rw[D]
 rw[O] at V;obtain⟨F,A,u,X,T,a,y⟩:=x0.kU;refine⟨o,D,?_,?_⟩
 ·unfold Region.wanted;cases hq:o.guard with
  | none=>rfl
  | some p =>obtain⟨j,x4⟩:=p;rw[hq] at f;unfold lJ at f;simp only at f;split at f;rename_i d hd;have q:=a.slots d;split at f;rename_i hT;rw[hT] at q;have q:[_]=[Value.bool true]:=q;have q:=(m5 q).1;simp only[nK hd q];rfl;rename_i hF;rw[hF] at q;have q:[_]=[Value.bool false]:=q;have q:=(m5 q).1;simp only[nK hd q];rfl;cases f;cases f
 have L:Mem.le A.M (cb s):=fun b l hb=>by obtain⟨_,el,fr,h⟩:=a.mem b l hb;exact j8 h
 obtain⟨g,v,U,F2,I,hJ,t,Y,W,R,K,Z,x2⟩:=h2 s A a1.eval F X L (fun g e x hg=>a.glob g e x hg) (fun b hb l hl=>u.mem b hb l hl) (fun o=>cR.fC (E:=⟨E.P,E.sp,jf s E.gl A H.next⟩) a o);have i:=Lc (dst:=o.dst) u T a y L Y W R K Z x2;unfold Oper.wp;rcases t o x1 x3 with h|⟨rfl,h⟩;rw[h];exact V g hJ _ _ i;rw[h];exact V g hJ _ _ i
section
variable {E:cf} {N:Nat} {n r:ax} {x:Nat->ax}
theorem fI {l:List Code} {ops:Array Oper} {k:Nat} {Pre:ax} {α:Type} {J:α->Prop} {e:α->ax} (D:Fx E ops k Pre J e)
  (h:∀ g,J g->kz E.P ops (k+1) l (e g) n r x):kz E.P ops k l Pre n r x:=by
 intro y G Q j m t F;obtain⟨o,s,f,u⟩:=D (wpOps E.P ops (Exit.then (kA E.P l Q) Q) (List.range' (k+1) (ops.size-(k+1)))) (Exit.then (kA E.P l Q) Q) (fun g A a w C=>h g A a w Q C m t F) y G j;have H:k<ops.size:=by rcases bS k ops.size with h|h;exact h;rw[ef h] at s;cases s
 have d:List.range' k (ops.size-k)=k::List.range' (k+1) (ops.size-(k+1)):=by rw[show ops.size-k=(ops.size-(k+1))+1 from by omega,tO]
 rw[d];unfold wpOps;simp only[s];rw[ak f];exact .inl u
theorem o1 {l:List Code} {ops:Array Oper} {k:Nat} {Pre:ax} {Y:Type} {J:Y->Prop} {s:Y->ax} (hr:Fx E ops k Pre J s) (F:vv ops k k=true) (m:vv ops k (k+1)=true)
  (h:∀ g,J g->pV E.P ops (k+1) l (s g) n r x):pV E.P ops k l Pre n r x:=by
 intro a w Q hh T U hx f H;have d:=zz F;have u:k<ops.size:=NX m;obtain⟨o,ho,I,V⟩:=hr (wpAny E.P .any ops (Exit.then (kA E.P l Q) Q) (f-1) (gk (k+1) ops.size)) (Exit.then (kA E.P l Q) Q) (fun g Z a w hg=>h g Z a w Q hg T U hx (f-1) aa) a w hh;cases f with
 | zero=>omega
 | succ f =>
  have D:=iG (tX u);have q:=xW d k ops.size;have C:∀ i,i∈Region.ready .any ops (gk k ops.size)->i=k:=by
   intro i L;obtain⟨oi,A,g1,g2⟩:=(jy D).1 L;rw[fi] at g1;have R:k<=i:=by simpa using g1
   rcases Nat.eq_or_lt_of_le R with h|hlt;exact h.symm
   ·exfalso;have O:i<ops.size:=by
     rcases bS i ops.size with h|h;exact h;rw[ef h] at A;cases A
    have:=n3 d q (i+1) i oi aa A g2 k (IZ m i hlt O k (aI _) aa);rw[fi] at this;simp at this
  refine⟨fun G=>?_,fun i L=>?_⟩;have:=re d D G k u;rw[fi] at this;simp at this
  ·have:=C i L;subst this;unfold wpOp;simp only[ho];rw[ak I]
   have e:(gk i ops.size).setIfInBounds i true=gk (i+1) ops.size:=zP (by simp[D,iG (show i+1<=ops.size from u)]) (fun j=>by
    rw[kK aa,fi,fi];by_cases W:j=i;subst W;simp
    ·simp only[W,dQ];congr 1
     exact propext ⟨fun _=>aa,fun _=>aa⟩)
   rw[e];exact .inl V
theorem vH {l:List Code} {a:Array Oper} {i:Nat} {d:St} {G G':aj} (e:G=G') (h:kz E.P a i l (GH E N d G') n r x):kz E.P a i l (GH E N d G) n r x:=by rw[e];exact h
theorem sP {l:List Code} {ops:Array Oper} {i:Nat} {a:St} {G G':aj} (e:G=G') (h:pV E.P ops i l (GH E N a G') n r x):pV E.P ops i l (GH E N a G) n r x:=by rw[e];exact h
theorem aP {l:List Code} {d:St} {G G':aj} (e:G=G') (h:aN E.P l (GH E N d G') n r x):aN E.P l (GH E N d G) n r x:=by rw[e];exact h
end
open Go.ChangeMaps
def mB (P:Program) (gl:Nat->Option (Sigma aH)) (S:cJ) (h:Op) (j:TypeId) (G:aj) {e:Type} (i:e->SV) (f:e->aj) (J:e->Prop):Prop :=
 ∀ (a:World) (ρ:aC) (ev:Operand->Value) (F:Nat->Prop),G.P a ρ.M F->Mem.le ρ.M (cb a)->rq gl ρ.M->(∀ b,F b->∀ l,ρ.M b≠some l)->(∀ o,(fC S o).rel ρ (ev o)) ->
  ∃ g v d F2 c,J g/\Fu P ev h j a v d/\(f g).P d c F2/\(∀ b,F2 b->F b\/a.heap.size<=b)/\rr F a d/\Mem.le ρ.M c/\(∀ b l,c b=some l->cb d b=some l/\¬ F2 b/\(a.heap.size<=b\/F b\/ρ.M b=some l))/\∀ ρ':aC,aC.le ρ ρ'->ρ'.M=c->(i g).rel ρ' v
theorem fq {E:cf} {N:Nat} {ops:Array Oper} {k:Nat} {d:St} {G:aj} {e:Type} {sv:e->SV} {G2:e->aj} {J:e->Prop} (a:isStep d.S ops k=true) (h:mB E.P E.gl d.S (jl ops k) (pP ops k) G sv G2 J) :
  Fx E ops k (GH E N d G) J (fun g=>GH E N (d.put (nV ops k) (sv g)) (G2 g)):=WY sv G2 J a h
theorem ES {P:Program} {gl:Nat->Option (Sigma aH)} {S:cJ} {K:Op} {L:TypeId} {G:aj} {A:Type} {sv:A->SV} {G2:A->aj} {J:A->Prop} (R:aj) (h:mB P gl S K L G sv G2 J) :
  mB P gl S K L (aj.sep G R) sv (fun g=>aj.sep (G2 g) R) J:=by
 rintro w ρ ev F ⟨O,C,T,D,o,d⟩ V u i s;obtain⟨g,v,w2,F2,Q,U,y,j,f,e,c,m,z⟩:=h w ρ ev O T V u (fun b hb=>i b ((d b).2 (.inl hb))) s;have a:=R.lt _ _ _ D;refine⟨g,v,w2,fun b=>F2 b\/C b,Q,U,y,⟨F2,C,j,R.mono _ _ _ _ c (R.stable _ _ _ _ D (fun b hb=>e.block b (a b hb) (fun q=>o b q hb))),fun b hb H=>?_,fun _=>kC⟩,fun b hb=>?_,⟨e.os,e.tape,e.output,e.size,fun k W z=>e.block k W (fun q=>z ((d k).2 (.inl q)))⟩,c,fun b l hb=>?_,z⟩;rcases f b hb with q|q;exact o b q H;have:=a b H;omega;rcases hb with hb|hb;exact (f b hb).imp (fun q=>(d b).2 (.inl q)) id;exact .inl ((d b).2 (.inr hb));obtain⟨Y,Z,I⟩:=m b l hb;refine⟨Y,fun q=>q.elim Z fun q=>?_,I.imp id (fun q=>q.imp (fun q=>(d b).2 (.inl q)) id)⟩;rcases I with k|k|k;have:=a b q;omega;exact o b k q;exact i b ((d b).2 (.inr q)) l k
def qb (M:Mem):Nat->List (Value × Cell)->List MapEntry->Prop
 | _,[],[]=>True
 | i,p::l,e::a=>e.key=p.1/\e.born=i/\p.2.rel (aC.start M) [e.val]/\qb M (i+1) l a
 | _,_,_=>False
theorem uR {M:Mem}:∀ {i:Nat} {l:List (Value × Cell)} {a:List MapEntry},qb M i l a->a.length=l.length
 | _,[],[],_=>rfl
 | _,_::_,_::_,h=>by simp only[bN];rw[uR h.2.2.2]
 | _,[],_::_,h=>h.elim
 | _,_::_,[],h=>h.elim
theorem nw {M:Mem}:∀ {i:Nat} {l:List (Value × Cell)} {b:List MapEntry},qb M i l b->∀ (j:Nat) (e:MapEntry),b[j]?=some e->∃ p,l[j]?=some p/\e.key=p.1/\e.born=i+j/\p.2.rel (aC.start M) [e.val]
 | _,[],[],_,_,_,h=>by simp at h
 | i,p::l,e::b,h,0,c,a=>by
  have a:e=c:=by simpa using a
  subst a;exact⟨p,rfl,h.1,h.2.1,h.2.2.1⟩
 | i,p::l,e::b,h,j+1,c,a=>by rw[lX] at a;obtain⟨k,d,f,m,g⟩:=nw h.2.2.2 j c a;exact⟨k,by rw[lX];exact d,f,aa,g⟩
 | _,[],_::_,h,_,_,_=>h.elim
 | _,_::_,[],h,_,_,_=>h.elim
theorem D1 {M a:Mem} (c:Mem.le M a):∀ {i:Nat} {l:List (Value × Cell)} {b:List MapEntry},qb M i l b->qb a i l b
 | _,[],[],_=>trivial
 | _,p::_,e::_,h=>⟨h.1,h.2.1,by
   have:=SV.fh (ρ:=aC.start M) (ρ':=aC.start a) ⟨fun _ _ h=>⟨h,rfl⟩,c⟩ (x:=ag p.2) (v:=e.val) h.2.2.1
   exact this,D1 c h.2.2.2⟩
 | _,[],_::_,h=>h.elim
 | _,_::_,[],h=>h.elim
theorem D2 {M:Mem} {p:Value × Cell} {e:MapEntry}:∀ {i:Nat} {l:List (Value × Cell)} {d:List MapEntry},qb M i l d->e.key=p.1->e.born=i+l.length->p.2.rel (aC.start M) [e.val]->qb M i (l++[p]) (d++[e])
 | _,[],[],_,a,b,c=>⟨a,by simpa using b,c,trivial⟩
 | i,_::l,_::_,h,a,b,c=>⟨h.1,h.2.1,h.2.2.1,D2 h.2.2.2 a (by simp only[bN] at b;omega) c⟩
 | _,[],_::_,h,_,_,_=>h.elim
 | _,_::_,[],h,_,_,_=>h.elim
def fK (b:Nat) (l:List (Value × Cell)):aj where
 P w M F:=(∀ x,F x↔x=b)/\∃ es:List MapEntry,w.heap[b]?=some (.map es.toArray l.length)/\qb M 0 l es
 mono w M M' F hM h:=by obtain⟨h1,es,h2,h3⟩:=h;exact⟨h1,es,h2,D1 hM h3⟩
 stable w w' M F h hs:=by obtain⟨h1,es,h2,h3⟩:=h;exact⟨h1,es,(hs b ((h1 b).2 rfl)).trans h2,h3⟩
 lt w M F h b' hb:=by obtain⟨h1,es,h2,h3⟩:=h;rw[(h1 b').1 hb];rcases bS b w.heap.size with h|h;exact h;rw[ef h] at h2;cases h2
def ou (r b n:Nat) (seen:List Nat):aj where
 P w _ F:=(∀ x,F x↔x=r)/\w.heap[r]?=some (.mapIter (some b) n seen.toArray n)
 mono w M M' F hM h:=h
 stable w w' M F h hs:=by obtain⟨h1,h2⟩:=h;exact⟨h1,(hs r ((h1 r).2 rfl)).trans h2⟩
 lt w M F h b' hb:=by obtain⟨h1,h2⟩:=h;rw[(h1 b').1 hb];rcases bS r w.heap.size with h|h;exact h;rw[ef h] at h2;cases h2
section
variable {P:Program} {gl:Nat->Option (Sigma aH)} {S:cJ}
theorem Dg {f:Op} {j:TypeId} {G:aj} {k:Type} {i:k->SV} {J:k->Prop}
  (h:∀ (w:World) (ρ:aC) (ev:Operand->Value) (F:Nat->Prop),G.P w ρ.M F->(∀ o,(fC S o).rel ρ (ev o))->∃ g v,J g/\Fu P ev f j w v w/\∀ ρ':aC,aC.le ρ ρ'->ρ'.M=ρ.M->(i g).rel ρ' v):mB P gl S f j G i (fun _=>G) J:=by
 intro w ρ ev F e u y c d;obtain⟨g,v,m,s,t⟩:=h w ρ ev F e d;exact⟨g,v,w,F,ρ.M,m,s,e,fun b a=>.inl a,⟨rfl,rfl,rfl,aI _,fun _ _ _=>rfl⟩,Mem.le_refl _,fun b l a=>⟨u b l a,fun q=>c b q l a,.inr (.inr a)⟩,t⟩
theorem n6 {ev:Operand->Value} {a:Op} {b:TypeId} {w c:World} {v:Value} (h:∀ o:Oper,o.op=a->o.type=b->(execOp ev o).run P w=.ok (.value v) c):Fu P ev a b w v c:=fun o d e=>.inl (h o d e)
theorem tz {o:Operand} {x:Value} (h:fC S o=ag (.v x)) {ρ:aC} {ev:Operand->Value} (a:∀ o,(fC S o).rel ρ (ev o)):ev o=x:=by have:=a o;rw[h] at this;exact cc this
theorem EM {g:TypeId} (K:Maps.Keyed P g) {M:Mem} {l:List (Value × Cell)} {b:List MapEntry} (i:qb M 0 l b) (y:∀ p∈l,∃ k,keyOf P g p.1=some k) {a:Value} {C:Lit} (u:keyOf P g a=some C) (w:World) :
  ((Instr.findKey g a b).run P w=.ok none w/\∀ p∈l,p.1≠a)\/∃ j e p,(Instr.findKey g a b).run P w=.ok (some (j,e.val)) w/\b[j]?=some e/\l[j]?=some p/\p.1=a/\p.2.rel (aC.start M) [e.val]:=by
 have f:=uR i
 rcases K.find w u b (fun e d=>by
  obtain⟨j,c⟩:=List.mem_iff_getElem?.1 d;obtain⟨p,t,o,_⟩:=nw i j e c
  rw[o];exact y p (dP t)) with ⟨h,o⟩|⟨j,e,h,c,d⟩
 ·refine .inl ⟨h,fun p z e=>?_⟩;obtain⟨j,c⟩:=List.mem_iff_getElem?.1 z;have q:j<l.length:=by
   rcases bS j l.length with h|h;exact h;rw[dN h] at c;cases c
  have d:b[j]?=some b[j]:=by simp[f,q]
  obtain⟨D,m,s,_⟩:=nw i j _ d;rw[c] at m;cases m;exact o b[j] (dr _) (s.trans e)
 obtain⟨p,m,s,_,A⟩:=nw i j e c;exact .inr ⟨j,e,p,h,c,m,s▸d,A⟩
theorem aa1 {t f I Z:TypeId} {x A:Operand} {b:Nat} {l:List (Value × Cell)} {a:Value} {Y:Lit} (O:P.underlying t=some (.map f I)) (K:Maps.Keyed P f) {z:Value} (W:∀ w,(zeroValue I).run P w=.ok z w) (y:z.oneCell'=true)
  (R:∀ p∈l,∃ k,keyOf P f p.1=some k) (m:keyOf P f a=some Y) (V:fC S x=ag (.v (.map (some b)))) (i:∀ (C:aC) v,(fC S A).rel C v->v=a) :
  mB P gl S (.lookup t x A true) Z (fK b l) (fun r:Bool=>.tup [.one .junk,.one (.v (.bool r))]) (fun _=>fK b l) (fun r=>(r=true↔∃ p∈l,p.1=a)):=by
 refine Dg fun w C ev F Q c=>?_;obtain⟨_,es,L,U⟩:=Q;have G:=tz V c;have H:=i C _ (c A);rcases EM K U R m w with ⟨g,T⟩|⟨j,e,p,g,_,s,u,d⟩;refine⟨false,.tuple #[z,.bool false],⟨fun h=>(by cases h),fun ⟨p,s,e⟩=>absurd e (T p s)⟩,n6 fun o q _=>?_,fun D _ _=>⟨[z,.bool false],rfl,z,[.bool false],rfl,⟨z,rfl,y⟩,.bool false,[],rfl,⟨rfl,rfl⟩,rfl⟩⟩;simp only[execOp,q,G,H];simp[Instr.lookup,run_underlying O,MapKept.run_getObj_map L,K.check w _ m,g,W,Result.andThen];refine⟨true,.tuple #[e.val,.bool true],⟨fun _=>⟨p,dP s,u⟩,fun _=>rfl⟩,n6 fun o q _=>?_,fun D _ _=>⟨[e.val,.bool true],rfl,e.val,[.bool true],rfl,⟨e.val,rfl,Cell.Is d _ aw⟩,.bool true,[],rfl,⟨rfl,rfl⟩,rfl⟩⟩;simp only[execOp,q,G,H];simp[Instr.lookup,run_underlying O,MapKept.run_getObj_map L,K.check w _ m,g,Result.andThen]
theorem aer {t h G Z:TypeId} {x A:Operand} {b:Nat} {l:List (Value × Cell)} {a:Value} {Y:Lit} (I:P.underlying t=some (.map h G)) (K:Maps.Keyed P h) {z:Value} (W:∀ w,(zeroValue G).run P w=.ok z w) (y:z.oneCell'=true)
  (Q:∀ p∈l,∃ k,keyOf P h p.1=some k) (c:∀ p∈l,p.2.ids=[]) (q:keyOf P h a=some Y) (V:fC S x=ag (.v (.map (some b)))) (m:∀ (ρ:aC) v,(fC S A).rel ρ v->v=a) :
  mB P gl S (.lookup t x A false) Z (fK b l) (fun r:Option (Value × Cell)=>ag (match r with|some p=>p.2|none=>.v z)) (fun _=>fK b l) (fun r=>match r with|some p=>p∈l/\p.1=a|none=>∀ p∈l,p.1≠a):=by
 refine Dg fun w ρ ev F L d=>?_;obtain⟨_,es,H,U⟩:=L;have C:=tz V d;have D:=m ρ _ (d A);rcases EM K U Q q w with ⟨i,R⟩|⟨j,e,p,i,_,T,u,g⟩;refine⟨none,z,R,n6 fun o s _=>?_,fun ρ' _ _=>⟨rfl,y⟩⟩;simp only[execOp,s,C,D];simp[Instr.lookup,run_underlying I,MapKept.run_getObj_map H,K.check w _ q,i,W,Result.andThen];have f:=dP T;refine⟨some p,e.val,⟨f,u⟩,n6 fun o s _=>?_,fun ρ' _ O=>?_⟩;simp only[execOp,s,C,D];simp[Instr.lookup,run_underlying I,MapKept.run_getObj_map H,K.check w _ q,i,Result.andThen];exact pk (ρ:=aC.start ρ.M) (ρ':=ρ') O (x:=ag p.2) g (by show p.2.ids=[];exact c p f)
theorem OP {w:World} {b:Nat} {o:Obj} {S:Nat->Prop} (c:S b):rr S w (setBlock w b o) :=
 ⟨rfl,rfl,rfl,by simp[setBlock],fun k _ d=>by
  have a:k≠b:=fun e=>d (by rw[e];exact c)
  simp[setBlock,Ne.symm a]⟩
theorem Wo {w:World} {S:Nat->Prop}:rr S w w.drew:=⟨rfl,rfl,rfl,aI _,fun _ _ _=>rfl⟩
theorem rr.tr {w c d:World} {S:Nat->Prop} (h:rr S w c) (g:rr S c d):rr S w d :=
 ⟨g.os.trans h.os,g.tape.trans h.tape,g.output.trans h.output,h9 h.size g.size,fun k a b=>(g.block k (fe a h.size) b).trans (h.block k a b)⟩
theorem Jm {w:World} {o:Obj} {S:Nat->Prop}:rr S w (w.alloc o):=⟨rfl,rfl,rfl,aw,fun k a _=>Below.heap_alloc _ _ _ a⟩
theorem Ty {w c:World} {S:Nat->Prop} (h:rr S w c) {b:Nat} {l:List Value} (a:cb w b=some l) (d:¬ S b):cb c b=some l:=by have:=h.block b (sZ a) d;unfold cb at a ⊢;rw[this];exact a
theorem Gw {s:Op} {u:TypeId} {G:aj} {f:Type} {t:f->SV} {i:f->aj} {J:f->Prop}
  (h:∀ (w:World) (ρ:aC) (ev:Operand->Value) (F:Nat->Prop),G.P w ρ.M F->(∀ o,(fC S o).rel ρ (ev o))->∃ g v d F2,J g/\Fu P ev s u w v d/\(i g).P d ρ.M F2/\(∀ b,F2 b->F b\/w.heap.size<=b)/\rr F w d/\∀ ρ':aC,aC.le ρ ρ'->ρ'.M=ρ.M->(t g).rel ρ' v):mB P gl S s u G t i J:=by
 intro w ρ ev F D m H a e;obtain⟨g,v,d,F2,y,z,A,j,k,C⟩:=h w ρ ev F D e;refine⟨g,v,d,F2,ρ.M,y,z,A,j,k,Mem.le_refl _,fun b l c=>⟨Ty k (m b l c) (fun q=>a b q l c),fun q=>?_,.inr (.inr c)⟩,C⟩;rcases j b q with q|q;exact a b q l c;have:=sZ (m b l c);omega
theorem TI {t g G ty:TypeId} {x ix vx:Operand} {b:Nat} {l:List (Value × Cell)} {key:Value} {W:Lit} {c:Cell} (T:P.underlying t=some (.map g G)) (K:Maps.Keyed P g)
  (O:∀ p∈l,∃ k,keyOf P g p.1=some k) (z:keyOf P g key=some W) (d:∀ p∈l,p.1≠key) (V:fC S x=ag (.v (.map (some b)))) (m:∀ (ρ:aC) v,(fC S ix).rel ρ v->v=key) (U:fC S vx=ag c) (I:c.ids=[]) :
  mB P gl S (.mapUpdate t x ix vx) ty (fK b l) (fun _:Unit=>.undef) (fun _=>fK b (l++[(key,c)])) (fun _=>True):=by
 refine Gw fun w ρ ev F H a=>?_;obtain⟨y,u,f,A⟩:=H;have C:=tz V a;have D:=m ρ _ (a ix);have i:c.rel (aC.start ρ.M) [ev vx]:=by have:=a vx;rw[U] at this;exact pk (ρ:=ρ) (ρ':=aC.start ρ.M) rfl (x:=ag c) this I
 rcases EM K A O z w with ⟨L,_⟩|⟨j,e,p,_,_,R,s,_⟩
 ·refine⟨(),undef,setBlock w b (.map (u++[(MapEntry.mk key (ev vx) l.length)]).toArray (l++[(key,c)]).length),F,trivial,fun o Q _=>.inr ⟨rfl,?_⟩,⟨y,u++[(MapEntry.mk key (ev vx) l.length)],?_,D2 A rfl aw i⟩,fun b h=>.inl h,OP ((y b).2 rfl),fun _ _ _=>rfl⟩;simp only[execOp,Q,C,D];simp[Instr.mapUpdate,run_underlying T,MapKept.run_getObj_map f,K.check w _ z,L,MapKept.run_setObj_map _ f,setBlock,Result.andThen]
  ·have q:b<w.heap.size:=by
    rcases bS b w.heap.size with h|h;exact h;rw[ef h] at f;cases f
   show (w.heap.setIfInBounds b _)[b]?=_;rw[sz q]
 exact absurd s (d p (dP R))
theorem H8 {t e:TypeId}:mB P gl S (.makeMap t none) e aj.none (fun b:Nat=>ag (.v (.map (some b)))) (fun b=>fK b []) (fun _=>True):=by refine Gw fun w h ev F f a=>?_;refine⟨w.heap.size,.map (some w.heap.size),w.alloc (.map #[] 0),fun b=>b=w.heap.size,trivial,n6 fun o d _=>?_,⟨fun _=>kC,[],heap_alloc_new w _,trivial⟩,fun b g=>.inr aa,Jm,fun _ _ _=>⟨rfl,rfl⟩⟩;simp only[execOp,d];simp[Instr.makeMap,newObj,Sem.run,Result.andThen]
theorem WL {t i g C:TypeId} {x:Operand} {b:Nat} {l:List (Value × Cell)} (z:P.underlying t=some (.map i g)) (A:fC S x=ag (.v (.map (some b)))) :
  mB P gl S (.range t x) C (fK b l) (fun r:Nat=>ag (.v (pt r))) (fun r=>aj.sep (ou r b l.length []) (fK b l)) (fun _=>True):=by
 refine Gw fun w H ev F q d=>?_;obtain⟨m,f,c,y⟩:=q;have j:=tz A d;have e:b<w.heap.size:=by rcases bS b w.heap.size with h|h;exact h;rw[ef h] at c;cases c
 refine⟨w.heap.size,pt w.heap.size,w.alloc (.mapIter (some b) l.length #[] l.length),fun k=>k=w.heap.size\/k=b,trivial,n6 fun o u _=>?_,
  ⟨fun k=>k=w.heap.size,fun k=>k=b,⟨fun _=>kC,heap_alloc_new w _⟩,⟨fun _=>kC,f,(Below.heap_alloc _ _ _ e).trans c,y⟩,fun k D G=>aa,fun _=>kC⟩,fun k s=>s.elim (fun h=>.inr aa) (fun h=>.inl ((m k).2 h)),Jm,fun _ _ _=>⟨rfl,rfl⟩⟩
 simp only[execOp,u,j];rw[show (do let a <- Instr.range t (.map (some b));pure (Next.value a):Sem Next).run P w=_ from rfl];simp[run_range_map w t i g b f.toArray l.length z c,Result.andThen]
theorem D0 {M:Mem}:∀ {i:Nat} {l:List (Value × Cell)} {a:List MapEntry},qb M i l a->a.map (·.born)=List.range' i l.length
 | _,[],[],_=>rfl
 | i,_::l,e::a,h=>by rw[eI,bN,tO,h.2.1,D0 h.2.2.2]
 | _,[],_::_,h=>h.elim
 | _,_::_,[],h=>h.elim
theorem aa2 {ty:TypeId} {it:Operand} {r b:Nat} {l:List (Value × Cell)} {seen:List Nat} (x0:fC S it=ag (.v (pt r))) (D:∀ p∈l,p.1.oneCell'=true) (y:∀ p∈l,p.2.ids=[]) :
  mB P gl S (.next it false) ty (aj.sep (ou r b l.length seen) (fK b l)) (fun o:Option (Nat × Value × Cell)=>match o with|none=>.tup [.one (.v (.bool false))]|some p=>.tup [.one (.v (.bool true)),.one (.v p.2.1),.one p.2.2])
   (fun o=>match o with|none=>aj.sep (ou r b l.length seen) (fK b l)|some p=>aj.sep (ou r b l.length (seen++[p.1])) (fK b l))
   (fun o=>match o with|none=>∀ i,i<l.length->i∈seen|some p=>l[p.1]?=some p.2/\p.1∉seen):=by
 refine Gw fun w ρ ev F hG Y=>?_;obtain⟨F1,F2,⟨m,hr⟩,⟨t,f,T,d⟩,W,Q⟩:=hG;have e1:=tz x0 Y;have G:=uR d;have g:∀ e∈f,∃ j p,l[j]?=some p/\f[j]?=some e/\e.key=p.1/\e.born=j/\p.2.rel (aC.start ρ.M) [e.val]:=fun e u=>by obtain⟨j,hj⟩:=List.mem_iff_getElem?.1 u;obtain⟨p,A,h2,O,L⟩:=nw d j e hj;exact⟨j,p,A,hj,h2,aa,L⟩
 have x1:∀ (j:Nat) (p:Value × Cell),l[j]?=some p->j<l.length:=fun j p h=>by rcases bS j l.length with h'|h';exact h';rw[dN h'] at h;cases h
 rcases run_next_at (P:=P) w ty r b l.length l.length seen.toArray f.toArray l.length hr T (fun e u=>by
  obtain⟨j,p,A,_,_,O,_⟩:=g e (by simpa using u)
  have:=x1 j p A;omega) (aI _) with ⟨C,k⟩|⟨e,u,s,hw,k⟩
 ·refine⟨none,.tuple #[.bool false],w,F,fun i hi=>?_,n6 fun o ho z=>?_,⟨F1,F2,⟨m,hr⟩,⟨t,f,T,d⟩,W,Q⟩,fun b h=>.inl h,⟨rfl,rfl,rfl,aI _,fun _ _ _=>rfl⟩,fun ρ' _ _=>⟨[.bool false],rfl,.bool false,[],rfl,⟨rfl,rfl⟩,rfl⟩⟩
  ·have Z:f[i]?=some f[i]:=by simp[G,hi]
   obtain⟨p,_,_,V,_⟩:=nw d i _ Z;have C:leftOf f.toArray seen.toArray=#[]:=A8 C;unfold leftOf at C;rw[Array.filter_eq_empty_iff] at C;have:=C f[i] aw;simp at this;rw[V,bO] at this;exact this
  simp only[execOp,ho,e1,z];rw[show ((do let a <- Instr.next (pt r) false ty;pure (Next.value a)):Sem Next).run P w=(((Instr.next (pt r) false ty).run P w).andThen fun a w'=>(pure (Next.value a):Sem Next).run P w') from Sem.run_bind ..,k];rfl
 ·have q:e∈f/\e.born∉seen:=by
   unfold leftOf at u;simp at u;exact u
  obtain⟨j,p,A,h2,O,L,h5⟩:=g e q.1;have I:s.heap[r]?=some (.mapIter (some b) l.length seen.toArray l.length):=by rcases hw with rfl|rfl<;>exact hr
  have U:s.heap[b]?=some (.map f.toArray l.length):=by rcases hw with rfl|rfl<;>exact T
  have R:rr F w s:=by rcases hw with rfl|rfl;exact⟨rfl,rfl,rfl,aI _,fun _ _ _=>rfl⟩;exact Wo
  have x2:b≠r:=fun e=>W b ((m b).2 e) ((t b).2 rfl);have dn:F r:=(Q r).2 (.inl ((m r).2 rfl));have H:=dP A;refine⟨some (j,p),.tuple #[.bool true,e.key,e.val],setBlock s r (.mapIter (some b) l.length (seen.toArray.push e.born) l.length),F,⟨A,by rw[<- L];exact q.2⟩,n6 fun o ho z=>?_,⟨F1,F2,⟨m,?_⟩,⟨t,f,?_,d⟩,W,Q⟩,fun b h=>.inl h,R.tr (OP dn),fun ρ' _ hM=>?_⟩;simp only[execOp,ho,e1,z];rw[show ((do let a <- Instr.next (pt r) false ty;pure (Next.value a)):Sem Next).run P w=(((Instr.next (pt r) false ty).run P w).andThen fun a w'=>(pure (Next.value a):Sem Next).run P w') from Sem.run_bind ..,k];rfl
  ·have K:r<s.heap.size:=by
    rcases bS r s.heap.size with h|h;exact h;rw[ef h] at I;cases I
   show (s.heap.setIfInBounds r _)[r]?=_;rw[sz K,L];simp
  show (s.heap.setIfInBounds r _)[b]?=_;rw[vr (fun e=>x2 e.symm)];exact U;refine⟨[.bool true,e.key,e.val],rfl,.bool true,[e.key,e.val],rfl,⟨rfl,rfl⟩,e.key,[e.val],rfl,⟨by show [e.key]=[p.1];rw[O],D p H⟩,e.val,[],rfl,?_,rfl⟩;exact pk (ρ:=aC.start ρ.M) (ρ':=ρ') hM (x:=ag p.2) h5 (y p H)
theorem WK {ty:TypeId} {it:Operand} {r b i:Nat} {l:List (Value × Cell)} {seen:List Nat} {p:Value × Cell} (q:l[i]?=some p) (u:fC S it=ag (.v (pt r))) (g:p.1.oneCell'=true) (f:p.2.ids=[]) :
  mB P gl S (.entry it) ty (aj.sep (ou r b l.length (seen++[i])) (fK b l)) (fun _:Unit=>.tup [.one (.v p.1),.one p.2]) (fun _=>aj.sep (ou r b l.length (seen++[i])) (fK b l)) (fun _=>True):=by
 refine Dg fun w ρ ev F D m=>?_;obtain⟨R,F2,⟨A,K⟩,⟨C,d,H,e⟩,U,T⟩:=D;have z:=tz u m;have h:=uR e;have t:i<l.length:=by rcases bS i l.length with h'|h';exact h';rw[dN h'] at q;cases q
 have s:d[i]?=some d[i]:=by simp[h,t]
 obtain⟨W,y,L,V,O⟩:=nw e i _ s;rw[q] at y;cases y;have k:d[i].born=i:=aa;refine⟨(),.tuple #[d[i].key,d[i].val],trivial,n6 fun o I _=>?_,fun ρ' _ G=>⟨[d[i].key,d[i].val],rfl,d[i].key,[d[i].val],rfl,⟨by rw[L],g⟩,d[i].val,[],rfl,?_,rfl⟩⟩;simp only[execOp,I,z];have j:=run_entry_at (P:=P) w r b l.length seen.toArray d.toArray l.length d[i] (by rw[K];simp[k]) H aw (by rw[show d.toArray.toList.map (·.born)=List.range' 0 l.length from D0 e];exact List.nodup_range');rw[show ((do let a <- Instr.entry (pt r);pure (Next.value a)):Sem Next).run P w=(((Instr.entry (pt r)).run P w).andThen fun a Q=>(pure (Next.value a):Sem Next).run P Q) from Sem.run_bind ..,j];rfl;exact pk (ρ:=aC.start ρ.M) (ρ':=ρ') G (x:=ag p.2) O f
end
theorem GH.drop {E:cf} {N:Nat} {j:St} {G R:aj} {a:Act} {w:World} (h:GH E N j (aj.sep R G) a w):GH E N j G a w:=by obtain⟨W,F,e,⟨A,F2,_,s,_,g⟩,u⟩:=h;exact⟨W,F2,⟨e.gl,e.kep,e.ids,fun b f=>e.foot b ((g b).2 (.inr f)),fun b f=>e.own b ((g b).2 (.inr f)),fun b f=>e.mem b ((g b).2 (.inr f)),e.old,e.xx,e.plt,e.mle⟩,s,u⟩
theorem EE {E:cf} {N:Nat} {n r:ax} {x:Nat->ax} {l:List Code} {a:St} {G R:aj} (h:aN E.P l (GH E N a G) n r x):aN E.P l (GH E N a (aj.sep R G)) n r x :=
 n8 (fun _ _ h=>h.drop) h
theorem E7 {E:Env} {fn:Func} {Q c:SV->St->Prop} {a:St} (h:ll E fn Q a) (d:∀ b a,Q b a->c b a):ll E fn c a:=by
 unfold ll at h ⊢;cases e:GN E a fn.results.toList with
 | some b=>rw[e] at h;exact d _ _ h
 | none=>rw[e] at h;exact h.elim
theorem gT {E:cf} {x:Nat->ax} (i:aJ E.P E.sp) (m:E.P.follows .mixedOrders=true) {fn:Func} {l:List Code} {j:St} {G:aj} {Q:SV->aj->Prop} (q:SV)
  (h:∀ (w:World) (ids:List (Nat × Nat)) (M:Mem) (num:Nat × Nat->Nat),VC ⟨E.P,E.sp,⟨w,ids,E.gl,M,num,j.next⟩⟩ l j (ll ⟨E.P,E.sp,cm E⟩ fn fun sv _=>sv=q) (ll ⟨E.P,E.sp,cm E⟩ fn fun sv _=>sv=q) (fun _ _=>False)) (k:Q q G) :
  aN E.P l (GH E fn.ntmps j G) (c1 E fn Q) (c1 E fn Q) x :=
 ju i m _ _ _ h (fun d _ _ g f=>⟨d,G,cm E,f,E7 g fun _ _ e=>e▸k⟩) (fun d _ _ g f=>⟨d,G,cm E,f,E7 g fun _ _ e=>e▸k⟩) (fun _ _ _ _ h _=>h.elim)
theorem c9 {P:Program} {sp:FuncId->Option Spec} {gl:Nat->Option (Sigma aH)} {f:FuncId} {fn:Func} {α β:Type} {args:α->List SV} {pre:α->Prop} {A:α->aj} {sv:α->β->SV} {G2:α->β->aj} {J:α->β->Prop}
  (Y:enters P f fn) (d:fn.body.isSome=true) (Z:∀ x,(args x).length<=fn.ntmps) (O:∀ x y,(sv x y).ids=[])
  (h:∀ x,pre x->∀ (w:World) (M:Mem) (F:Nat->Prop),aN P (al fn) (GH (lj P sp gl w M F) fn.ntmps (lx fn (args x) [] 0) (A x)) (c1 (lj P sp gl w M F) fn fun s G=>∃ y,J x y/\cL s (sv x y)/\G=G2 x y) (c1 (lj P sp gl w M F) fn fun s G=>∃ y,J x y/\cL s (sv x y)/\G=G2 x y) (fun _ _ _=>False)) :
  ez P gl f args pre A sv G2 J:=by
 intro x hx w M us F T W K C hv;refine (gfn (E:=lj P sp gl w M F) (M:=M) (F0:=F) (G0:=A x) Y.1 d rfl W K hv (Z x) T rfl (fun b i=>⟨i,C b i⟩) (h x hx w M F)).mono ?_;rintro e w2 ⟨v,s,G,F2,ρ,rfl,hs,⟨y,U,hr,rfl⟩,D,V,I,g,j,u,o⟩;refine⟨y,v,F2,ρ.M,U,rfl,D,g,V,o,fun b l i=>⟨I b l i,fun Q=>j b Q l i,?_⟩,pk (ρ:=ρ) (ρ':=aC.start ρ.M) rfl (hr ρ v hs) (O x y)⟩;by_cases L:b<w.heap.size;rcases u b l i L with h|h;exact .inr (.inl h);exact .inr (.inr h);exact .inl aa
theorem br (s:SV):cL s s:=fun _ _ h=>h
theorem CG:cL (ag .T) (ag (.v (.bool true))):=fun _ _ h=>⟨h,rfl⟩
theorem rf:cL (ag .F) (ag (.v (.bool false))):=fun _ _ h=>⟨h,rfl⟩
def Gp:Cell->Cell
 | .T=>.v (.bool true)
 | .F=>.v (.bool false)
 | c=>c
theorem aaQ {b:aC} {c:Cell} {a:List Value} (h:c.rel b a):(Gp c).rel b a:=by
 cases c<;>first
  | exact h
  | exact⟨h,rfl⟩
theorem LP {c:aC}:∀ {a:List Cell} {b:List Value},az c a b->az c (a.map Gp) b
 | [],_,h=>h
 | _::_,_,⟨g,i,e,d,f⟩=>⟨g,i,e,aaQ d,LP f⟩
theorem aej {d:List (List Cell)} {p:Nat} {a:aj} (w:World) (M:Mem) (F:Nat->Prop) (h:(aj.obj d p a).P w M F):(aj.obj (d.map fun e=>e.map Gp) p a).P w M F:=by obtain⟨g,F2,m,o,q,s,t,u,y⟩:=h;refine⟨g,F2,m,by rw[bZ];exact o,q,s,t,u,fun i e b f z=>?_⟩;rw[dy] at f;obtain⟨c,j,k⟩:=Option.map_eq_some_iff.1 f;subst k;obtain⟨l,A,C⟩:=y i c b j z;exact⟨l,A,LP C⟩
section
variable {P:Program} {gl:Nat->Option (Sigma aH)} {S:cJ}
theorem xu {t c j k:TypeId} {x y:Operand} {p:Nat} {G:aj} (g:P.underlying t=some (.pointer c)) (h:fC S x=ag (.v (pt p))) (i:fC S y=ag (.v (.pointer none))) :
  mB P gl S (.binOp .eql t x y j) k G (fun _:Unit=>ag .F) (fun _=>G) (fun _=>True):=by
 refine Dg fun w m ev F l a=>?_;have d:=tz h a;have e:=tz i a;refine⟨(),.bool false,trivial,n6 fun o f _=>?_,fun _ _ _=>rfl⟩;simp only[execOp,f,d,e];simp only[Sem.run_bind,iZ,Result.andThen_ok]
 rw[show (binOp .eql t (pt p) (.pointer none)).run P w=.ok (.bool false) w from by
  show (do let b <- Op.equal t (pt p) (.pointer none);pure (Value.bool b):Sem Value).run P w=_;simp only[Sem.run_bind,kV g,Result.andThen_ok,Sem.run_pure]
  rfl]
 rfl
end
section
variable {E:cf} {N:Nat} {n r:ax} {x:Nat->ax}
theorem oZ {a:Act} {w:World} {c:St} {bl:List (List Cell)} {id p:Nat} {e:aj} (K L:List Nat) (m:E.pins=[]) (f:(L.all fun i => !eA i K)=true) (b:(fU c.B K&&fU c.B L&&kR L&&xk c.B L)=true) (k:L[0]?=some id) (g:((L.map fun i=>(r6 c.B i).map (Cell.r7 (pos L))).map fun j=>j.map Gp)=bl) (d:Nat)
  (l:GH { E with pins:=[(id,p)],ptop:=d } N c e a w):GH E N (kH c K id p) (aj.obj bl p e) a w:=by
 subst g;exact (V7 K L m f b k rfl d l).mono fun w M F h=>aej w M F h
theorem kr {l:List Code} {d:St} {bl:List (List Cell)} {id p:Nat} {f:aj} (K L:List Nat) (s:E.pins=[]) (g:(L.all fun i => !eA i K)=true) (c:(fU d.B K&&fU d.B L&&kR L&&xk d.B L)=true) (o:L[0]?=some id) (j:((L.map fun i=>(r6 d.B i).map (Cell.r7 (pos L))).map fun m=>m.map Gp)=bl) (e:Nat)
  (τ:St) (k:(kH d K id p).le (cm E) τ True) (h:aN E.P l (GH E N τ (aj.obj bl p f)) n r x):aN E.P l (GH { E with pins:=[(id,p)],ptop:=e } N d f) n r x :=
 n8 (fun _ _ q=>((oZ K L s g c o j e q).le k).2) h
theorem QH {l:List Code} {ops:Array Oper} {i:Nat} {c:St} {bl:List (List Cell)} {id p:Nat} {e:aj} (K L:List Nat) (s:E.pins=[]) (f:(L.all fun i => !eA i K)=true) (b:(fU c.B K&&fU c.B L&&kR L&&xk c.B L)=true) (o:L[0]?=some id) (g:((L.map fun i=>(r6 c.B i).map (Cell.r7 (pos L))).map fun m=>m.map Gp)=bl) (d:Nat)
  (k:St) (j:(kH c K id p).le (cm E) k True) (h:pV E.P ops i l (GH E N k (aj.obj bl p e)) n r x):pV E.P ops i l (GH { E with pins:=[(id,p)],ptop:=d } N c e) n r x:=by
 intro a w Q q;exact h a w Q ((oZ K L s f b o g d q).le j).2
theorem C9 {l:List Code} {b:St} {bl:List (List Cell)} {id:Nat} {G:aj} (t:Nat) (K L:List Nat) (o:E.pins=[]) (y:b.S t=ao id 0) (d:(blt id b.next&&ble E.ptop b.next)=true) (g:(L.all fun i => !eA i K)=true) (e:(fU b.B K&&fU b.B L&&kR L&&xk b.B L)=true) (u:L[0]?=some id) (j:((L.map fun i=>(r6 b.B i).map (Cell.r7 (pos L))).map fun s=>s.map Gp)=bl)
  (m:Nat->St) (k:∀ p,(kH b K id p).le (cm E) (m p) True) (h:∀ p,aN E.P l (GH E N (m p) (aj.obj bl p G)) n r x):aN E.P l (GH E N b G) n r x:=by
 simp only[aX] at d;refine F5 (Pre':=fun p=>GH E N (m p) (aj.obj bl p G)) (fun a w f=>?_) h;obtain⟨p,f⟩:=f.xx t id y b.next (fG d.1) (gJ d.2);rw[o] at f;exact⟨p,((oZ K L o g e u j b.next f).le (k p)).2⟩
theorem S5 {l:List Code} {c:Code} {f:St} {G:aj} (h:l.head?=some c) (g:nT c=true) (j:jH f.S (nO c)=ag .T) (m:aN E.P (fX c++l.tail) (GH E N f G) n r x):aN E.P l (GH E N f G) n r x:=by
 intro a w Q i o s u;cases l with
 | nil=>simp at h
 | cons d l =>simp at h;subst h;unfold nT at g;split at g;rename_i c p q;obtain⟨F,k,C,y,z,e,A⟩:=i.kU;have b:(jH f.S c).rel k (a.eval c):=cR.fC (E:=⟨E.P,E.sp,jf w E.gl k f.next⟩) e c;simp only[nO] at j;rw[j] at b;have b:[a.eval c]=[Value.bool true]:=b;refine wp_cond_split (m5 b).1 (fun _=>?_) (fun t=>by cases t);exact jR p l Q a w (m a w Q i o s u);cases g
theorem S4 {l:List Code} {c:Code} {f:St} {G:aj} (h:l.head?=some c) (g:nT c=true) (j:jH f.S (nO c)=ag .F) (m:aN E.P (rD c++l.tail) (GH E N f G) n r x):aN E.P l (GH E N f G) n r x:=by
 intro a w Q i o s u;cases l with
 | nil=>simp at h
 | cons d l =>simp at h;subst h;unfold nT at g;split at g;rename_i c p q;obtain⟨F,k,C,y,z,e,A⟩:=i.kU;have b:(jH f.S c).rel k (a.eval c):=cR.fC (E:=⟨E.P,E.sp,jf w E.gl k f.next⟩) e c;simp only[nO] at j;rw[j] at b;have b:[a.eval c]=[Value.bool false]:=b;refine wp_cond_split (m5 b).1 (fun t=>by cases t) (fun _=>?_);exact jR q l Q a w (m a w Q i o s u);cases g
theorem GH.ref {c:St} {G:aj} {a:Act} {w:World} (t:Nat) (s:SV) (l:cL (c.S t) s) (j:GH E N c G a w):GH E N ⟨c.slots.set t s,c.blks,c.next⟩ G a w:=by obtain⟨W,F,k,i,d,g,b,e⟩:=j;refine⟨W,F,k,i,by show (c.slots.set t s).length=N;rw[hZ];exact d,g,{ b with slots:=?_ },e⟩;intro u;have h:=b.slots u;show ((c.slots.set t s).getD u .junk).rel g _;rw[a2,wP];split;rename_i f;subst f;split;exact l g _ h;trivial;rw[<- a2];exact h
theorem iw {l:List Code} {d:St} {G:aj} (t:Nat) (s:SV) (f:cL (d.S t) s) (h:aN E.P l (GH E N ⟨d.slots.set t s,d.blks,d.next⟩ G) n r x):aN E.P l (GH E N d G) n r x:=n8 (fun _ _ e=>e.ref t s f) h
theorem qX {l:List Code} {ops:Array Oper} {i:Nat} {c:St} {G:aj} (t:Nat) (s:SV) (e:cL (c.S t) s) (h:pV E.P ops i l (GH E N ⟨c.slots.set t s,c.blks,c.next⟩ G) n r x):pV E.P ops i l (GH E N c G) n r x:=by intro a w Q d;exact h a w Q (d.ref t s e)
theorem gF:cL (ag (.v (.bool true))) (ag .T):=fun _ _ h=>h.1
theorem pQ:cL (ag (.v (.bool false))) (ag .F):=fun _ _ h=>h.1
end
section
variable {E:cf} {N:Nat} {n r:ax} {x:Nat->ax} {l:List Code} {σ:St} {G:aj}
theorem eK (e:aJ E.P E.sp) (k:Nat) (d:St) (g:aN E.P (l.drop k) (GH E N d G) n r x) (i:E.P.follows .mixedOrders=true:=by kernel_rfl)
  (h:∀ (w:World) (ids:List (Nat × Nat)) (M:Mem) (num:Nat × Nat->Nat),d.ah True=VC ⟨E.P,E.sp,⟨w,ids,E.gl,M,num,σ.next⟩⟩ (l.take k) σ (fun f=>f.le (cm E) d True) (fun _=>False) (fun _ _=>False):=by intros;kernel_rfl):aN E.P l (GH E N σ G) n r x :=
 pF e i k (fun _=>()) (fun _=>d) (fun _=>True) (fun _=>False) (fun _ _=>False) (fun w ids M num=>aq (h w ids M num) (au trivial)) (fun _ _=>g) (fun _ _ _ h _=>h.elim) (fun _ _ _ _ h _=>h.elim)
theorem gcd (e:aJ E.P E.sp) {α:Type} (k:Nat) (f:St->α) (j:α->St) (K:α->Prop)
  (h:∀ (w:World) (ids:List (Nat × Nat)) (M:Mem) (num:Nat × Nat->Nat),VC ⟨E.P,E.sp,⟨w,ids,E.gl,M,num,σ.next⟩⟩ (l.take k) σ (fun d=>d.le (cm E) (j (f d)) (K (f d))) (fun _=>False) (fun _ _=>False))
  (m:∀ g,K g->aN E.P (l.drop k) (GH E N (j g) G) n r x) (o:E.P.follows .mixedOrders=true:=by kernel_rfl):aN E.P l (GH E N σ G) n r x :=
 pF e o k f j K (fun _=>False) (fun _ _=>False) h m (fun _ _ _ h _=>h.elim) (fun _ _ _ _ h _=>h.elim)
theorem xh (d:aJ E.P E.sp) (k:Nat) (sw:List (Nat × Nat)) (a:St) (f:aN E.P (l.drop k) (GH E N a G) n r x) (g:E.P.follows .mixedOrders=true:=by kernel_rfl)
  (h:∀ (w:World) (ids:List (Nat × Nat)) (M:Mem) (num:Nat × Nat->Nat),a.ah True=VC ⟨E.P,E.sp,⟨w,ids,E.gl,M,num,σ.next⟩⟩ (l.take k) σ (fun e=>e.sr (cm E) sw a True) (fun _=>False) (fun _ _=>False):=by intros;kernel_rfl):aN E.P l (GH E N σ G) n r x :=
 kO d g k sw (fun _=>()) (fun _=>a) (fun _=>True) (fun _=>False) (fun _ _=>False) (fun w ids M num=>aq (h w ids M num) (au trivial)) (fun _ _=>f) (fun _ _ _ h _=>h.elim) (fun _ _ _ _ h _=>h.elim)
theorem dT (g:aJ E.P E.sp) {ops:Array Oper} {i:Nat} (j:Nat) (e:St) (k:kz E.P ops j l (GH E N e G) n r x) (f:ble i j=true:=by kernel_rfl) (o:ble j ops.size=true:=by kernel_rfl)
  (h:∀ (w:World) (ids:List (Nat × Nat)) (M:Mem) (num:Nat × Nat->Nat),e.ah True=uH ⟨E.P,E.sp,⟨w,ids,E.gl,M,num,σ.next⟩⟩ ops i ((ops.toList.drop i).take (j-i)) σ [] (fun d _=>({ d with next:=d.next+8*j }:St).le (cm E) e True):=by intros;kernel_rfl):kz E.P ops i l (GH E N σ G) n r x :=
 OC g j (fun _=>()) (fun _=>e) (fun _=>True) (gJ f) (gJ o) (fun w ids M num=>aq (h w ids M num) (au trivial)) (fun _ _=>k)
theorem gA (h:aJ E.P E.sp) {ops:Array Oper} {i:Nat} {α:Type} (j:Nat) (f:St->α) (k:α->St) (K:α->Prop)
  (o:∀ (w:World) (ids:List (Nat × Nat)) (M:Mem) (num:Nat × Nat->Nat),uH ⟨E.P,E.sp,⟨w,ids,E.gl,M,num,σ.next⟩⟩ ops i ((ops.toList.drop i).take (j-i)) σ [] (fun d _=>({ d with next:=d.next+8*j }:St).le (cm E) (k (f { d with next:=d.next+8*j })) (K (f { d with next:=d.next+8*j }))))
  (s:∀ g,K g->kz E.P ops j l (GH E N (k g) G) n r x) (e:ble i j=true:=by kernel_rfl) (t:ble j ops.size=true:=by kernel_rfl):kz E.P ops i l (GH E N σ G) n r x :=
 OC h j f k K (gJ e) (gJ t) o s
theorem ei {ops:Array Oper} {i:Nat} (h:aN E.P l (GH E N σ G) n r x) (d:ble ops.size i=true:=by kernel_rfl):kz E.P ops i l (GH E N σ G) n r x:=HU (gJ d) h
theorem ep (rid:Nat) (ops:Array Oper) (h:kz E.P ops 0 l.tail (GH E N σ G) n r x) (d:l.head?=some (.region rid ops false):=by kernel_rfl):aN E.P l (GH E N σ G) n r x:=QJ d h
theorem kj {ops:Array Oper} {k:Nat} {g:St} {f:FuncId} {fn:Func} {α β:Type} {args:α->List SV} {pre:α->Prop} {s:α->aj} {q:α->β->SV} {u:α->β->aj} {J:α->β->Prop}
  (j:ez E.P E.gl f args pre s q u J) (z:α) (A:pre z) (w:enters E.P f fn) (h:∀ y,J z y->kz E.P ops (k+1) l (GH E N (g.put (nV ops k) (q z y)) (u z y)) n r x)
  (e:J8 g.S ops k f=true:=by kernel_rfl) (d:(zb ops k).map (fC g.S)=args z:=by kernel_rfl) (i:Gq (args z)=true:=by kernel_rfl) (o:∀ y,(q z y).ids=[]:=by intros;rfl):kz E.P ops k l (GH E N g (s z)) n r x :=
 fI (eO j z A e w d i o) h
theorem fR (d:St) (e:aN E.P l (GH E N d G) n r x) (h:d=σ.proj d:=by kernel_rfl) (f:(ble d.next σ.next&&d.wf&&ble (cm E).top d.next&&beq σ.slots.length d.slots.length)=true:=by kernel_rfl):aN E.P l (GH E N σ G) n r x:=adj (K:=True) (ay h f trivial) (fun _=>e)
theorem je (c:Code) (a:aN E.P (fX c++l.tail) (GH E N σ G) n r x) (e:l.head?=some c:=by kernel_rfl) (d:nT c=true:=by kernel_rfl) (f:jH σ.S (nO c)=ag (.v (.bool true)):=by kernel_rfl):aN E.P l (GH E N σ G) n r x:=Lh true e d f (fun _=>a) (fun h=>by cases h)
theorem e5 (c:Code) (d:aN E.P (rD c++l.tail) (GH E N σ G) n r x) (f:l.head?=some c:=by kernel_rfl) (e:nT c=true:=by kernel_rfl) (g:jH σ.S (nO c)=ag (.v (.bool false)):=by kernel_rfl):aN E.P l (GH E N σ G) n r x:=Lh false f e g (fun h=>by cases h) (fun _=>d)
theorem gqT (c:Code) (a:aN E.P (fX c++l.tail) (GH E N σ G) n r x) (d:l.head?=some c:=by kernel_rfl) (b:nT c=true:=by kernel_rfl) (e:jH σ.S (nO c)=ag .T:=by kernel_rfl):aN E.P l (GH E N σ G) n r x:=S5 d b e a
theorem gqF (c:Code) (a:aN E.P (rD c++l.tail) (GH E N σ G) n r x) (d:l.head?=some c:=by kernel_rfl) (b:nT c=true:=by kernel_rfl) (e:jH σ.S (nO c)=ag .F:=by kernel_rfl):aN E.P l (GH E N σ G) n r x:=S4 d b e a
theorem gR {bl:List (List Cell)} {p:Nat} {g:aj} (e:List Nat) (d:St) (j:aN E.P l (GH (E.pinned σ.next p) N d g) n r x) (i:e.map σ.S=e.map fun _=>SV.is (.one (.v (pt p))):=by kernel_rfl)
  (h:d=(rS σ e (bl.map fun f=>f.map (Cell.r7 (σ.next + ·)))).proj d:=by kernel_rfl) (k:(ble d.next (rS σ e (bl.map fun f=>f.map (Cell.r7 (σ.next + ·)))).next&&d.wf&&ble (cm (E.pinned σ.next p)).top d.next&&beq (rS σ e (bl.map fun f=>f.map (Cell.r7 (σ.next + ·)))).slots.length d.slots.length)=true:=by kernel_rfl):aN E.P l (GH E N σ (aj.obj bl p g)) n r x :=
 V9 e i d (ay h k trivial) j
theorem fj {bl:List (List Cell)} {id p:Nat} {g:aj} (K L:List Nat) (f:Nat) (d:St) (h:aN E.P l (GH E N d (aj.obj bl p g)) n r x) (u:E.pins=[]:=by rfl) (j:(L.all fun i => !eA i K)=true:=by kernel_rfl) (e:(fU σ.B K&&fU σ.B L&&kR L&&xk σ.B L)=true:=by kernel_rfl) (q:L[0]?=some id:=by rfl) (k:((L.map fun i=>(r6 σ.B i).map (Cell.r7 (pos L))).map fun o=>o.map Gp)=bl:=by kernel_rfl)
  (s:d=(kH σ K id p).proj d:=by kernel_rfl) (t:(ble d.next (kH σ K id p).next&&d.wf&&ble (cm E).top d.next&&beq (kH σ K id p).slots.length d.slots.length)=true:=by kernel_rfl):aN E.P l (GH { E with pins:=[(id,p)],ptop:=f } N σ g) n r x :=
 kr K L u j e q k f d (ay s t trivial) h
theorem OB (t id k c:Nat) (e:Kd) (b:List (aH e)) (f:aN E.P l (GH E N ⟨σ.slots.set t (ag (.ro e b)),(id,[])::σ.blks,σ.next⟩ G) n r x) (m:b.length=k:=by rfl) (i:σ.S t=ag (.sl id 0 0 k c):=by kernel_rfl) (g:σ.B id=some [.row e k b]:=by kernel_rfl):aN E.P l (GH E N σ G) n r x:=by refine mJ (P:=E.P) (l1:=[]) (l2:=l) (GH E N ⟨σ.slots.set t (ag (.ro e b)),(id,[])::σ.blks,σ.next⟩ G) ?_ f;refine vJ (fun d=>d=⟨σ.slots.set t (ag (.ro e b)),(id,[])::σ.blks,σ.next⟩) (fun _=>False) (fun _ _=>False) (fun w ids M num=>?_) (fun d a w e j=>e▸j) (fun _ _ _ h _=>h.elim) (fun _ _ _ _ h _=>h.elim);exact UK t id k c e b i g m (kk rfl)
end
theorem sn {E:cf} {x:Nat->ax} (a:aJ E.P E.sp) {fn:Func} {l:List Code} {σ:St} {G:aj} {Q:SV->aj->Prop} (q:SV) (d:Q q G) (b:E.P.follows .mixedOrders=true:=by kernel_rfl)
  (h:∀ (w:World) (ids:List (Nat × Nat)) (M:Mem) (num:Nat × Nat->Nat),(q=q)=VC ⟨E.P,E.sp,⟨w,ids,E.gl,M,num,σ.next⟩⟩ l σ (ll ⟨E.P,E.sp,cm E⟩ fn fun sv _=>sv=q) (ll ⟨E.P,E.sp,cm E⟩ fn fun sv _=>sv=q) (fun _ _=>False):=by intros;kernel_rfl) :
  aN E.P l (GH E fn.ntmps σ G) (c1 E fn Q) (c1 E fn Q) x:=gT a b q (fun w ids M num=>aq (h w ids M num) rfl) d
end Ob
end Go.Eng
section
universe u
theorem ab {α:Sort u}{a b:α}(h:a=b:=by kernel_rfl):a=b:=h
end
open Go.Eng
namespace Go.Proofs.YtofofalgjibokaaGreatDoor
open Go.IntKind(i64 u64)
section
universe u
theorem mixed:Tryz.prog.follows .mixedOrders=true:=ab
theorem wrap_u64 {a:Int} (b:0<=a) (c:a<18446744073709551616):u64.wrap a=a:=by simp only[IntKind.wrap,IntKind.signed,IntKind.bits];simp only[l5];exact de b (by simpa using c)
theorem wz (a:Int):u64.wrap a=a%18446744073709551616:=by simp[IntKind.wrap,IntKind.signed,IntKind.bits]
theorem wrap_i64 {a:Int} (b : -9223372036854775808<=a) (d:a<9223372036854775808):i64.wrap a=a:=by
 have e:i64.wrap a=if (9223372036854775808:Int)<=a%18446744073709551616 then a%18446744073709551616-18446744073709551616 else a%18446744073709551616:=by simp[IntKind.wrap,IntKind.signed,IntKind.bits]
 rw[e];split<;>omega
theorem A0 (n:Nat) (h:n<18446744073709551616):(BitVec.ofInt 64 (n:Int)).toNat=n:=by rw[show BitVec.ofInt 64 (n:Int)=BitVec.ofNat 64 n from by simp,qG,hY aa]
theorem Zn (n m:Nat) (b:n<18446744073709551616) (a:m<18446744073709551616):aD .and .u64 n m=((n &&& m:Nat):Int):=by show u64.wrap ((BitVec.ofInt 64 n &&& BitVec.ofInt 64 m:BitVec 64).toNat:Int)=_;rw[wT,A0 n b,A0 m a,wrap_u64 aa];have:=Nat.and_le_left (n:=n) (m:=m);omega
theorem vu {a:Int} (b:0<=a) (c:a<18446744073709551616):aD .and .u64 a 4294967295=a%4294967296:=by obtain⟨n,rfl⟩:=jU b;have:=Zn n 4294967295 aa aa;rw[show ((4294967295:Nat):Int)=4294967295 from rfl] at this;rw[this];have h:=Ba n 32;rw[show 2^32-1=4294967295 from rfl] at h;rw[h];omega
theorem Tz (c b e d:Int):(c*4294967296+b)*(e*4294967296+d)=c*e*18446744073709551616+(c*d)*4294967296+(b*e)*4294967296+b*d:=by grind
theorem lM {x y m n:Int} (c:0<=x) (d:x<=m) (b:0<=y) (e:y<=n):0<=x*y/\x*y<=m*n:=by refine⟨mZ c b,Int.mul_le_mul d e b aa⟩
def Wd (a b:Int):Int :=
 let s:=fun x:Int=>Int.fdiv x (2^min (toNat 32) u64.bits);let m:=fun x:Int=>aD .and .u64 x 4294967295;let W:=u64.wrap;let t:=W (W (s a*m b)+s (W (m a*m b)))
 W (W (W (s a*s b)+s t)+s (W (m t+W (m a*s b))))
theorem aaz {a b:Int} (g:0<=a) (l:a<18446744073709551616) (h:0<=b) (o:b<18446744073709551616):Wd a b=a*b/18446744073709551616:=by
 have q:∀ x:Int,Int.fdiv x (2^min (toNat 32) u64.bits)=x/4294967296:=by intro x;rw[show (2:Int)^min (toNat 32) u64.bits=4294967296 from by decide];exact sD x ae
 unfold Wd;simp only[q,vu g l,vu h o];have j:a=(a/4294967296)*4294967296+a%4294967296:=aa;have k:b=(b/4294967296)*4294967296+b%4294967296:=aa;have i:=Tz (a/4294967296) (a%4294967296) (b/4294967296) (b%4294967296);rw[<- j,<- k] at i;have s:=lM (x:=a/4294967296) (y:=b/4294967296) (m:=4294967295) (n:=4294967295) aa aa aa aa;have t:=lM (x:=a/4294967296) (y:=b%4294967296) (m:=4294967295) (n:=4294967295) aa aa aa aa;have w:=lM (x:=a%4294967296) (y:=b/4294967296) (m:=4294967295) (n:=4294967295) aa aa aa aa;have z:=lM (x:=a%4294967296) (y:=b%4294967296) (m:=4294967295) (n:=4294967295) aa aa aa aa;generalize a*b=r at *;generalize (a/4294967296)*(b/4294967296)=f at *;generalize (a/4294967296)*(b%4294967296)=d at *;generalize (a%4294967296)*(b/4294967296)=e at *;generalize (a%4294967296)*(b%4294967296)=c at *;rw[wrap_u64 (a:=c) aa aa,wrap_u64 (a:=d) aa aa,wrap_u64 (a:=e) aa aa,wrap_u64 (a:=f) aa aa];rw[wrap_u64 (a:=d+c/4294967296) aa aa];rw[vu (a:=d+c/4294967296) aa aa];rw[wrap_u64 (a:=(d+c/4294967296)%4294967296+e) aa aa];rw[wrap_u64 (a:=f+(d+c/4294967296)/4294967296) aa aa];rw[wrap_u64 aa aa];omega
theorem SB:enters Tryz.prog 141 Tryz.f141:=ek
abbrev Ai:HL [.int .u64,.int .u64]->Prop:=fun (a,b,_)=>gI a/\gI b
abbrev EV:HL [.int .u64,.int .u64]->HO [.val (.int .u64),.val (.int .u64)]:=fun (a,b,_)=>((a:Int)*b/18446744073709551616,(a:Int)*b%18446744073709551616,())
theorem K3:aO Tryz.prog 141 [.int .u64,.int .u64] [.val (.int .u64),.val (.int .u64)] bB Ai EV:=by refine bg bD mixed SB ae ae ?_;rintro w M ⟨a,b,⟨⟩⟩ _ ⟨⟨c,e⟩,d,f⟩;refine aq (X:=((0:Int)<=32/\(0:Int)<=32/\(0:Int)<=32/\(0:Int)<=32/\(0:Int)<=32/\(((Wd a b,u64.wrap (a*b),()):Int × Int × Unit)=EV (a,b,())))) ab ?_;refine⟨ae,ae,ae,ae,ae,?_⟩;rw[aaz c e d f,wz]
abbrev mf:HL [.int .u64,.int .u64,.int .u64]->Prop:=fun (a,b,c,_)=>gI a/\gI b/\((c:Int)=0\/(c:Int)=1)
abbrev L3:HL [.int .u64,.int .u64,.int .u64]->HO [.val (.int .u64),.val (.int .u64)]:=fun (a,b,c,_)=>(((a:Int)+b+c)%18446744073709551616,((a:Int)+b+c)/18446744073709551616,())
abbrev L5:HL [.int .u64,.int .u64,.int .u64]->HO [.val (.int .u64),.val (.int .u64)]:=fun (a,b,c,_)=>(((a:Int)-b-c)%18446744073709551616,(if (a:Int)<b+c then (1:Int) else 0),())
theorem run_add64 (a b:Int) (w:World):(callFunc 119 #[.int .u64 a,.int .u64 b,.int .u64 0]).run Tryz.prog w=.ok (.value (.tuple #[.int .u64 (Int.ofNat ((a.toNat+b.toNat+0)%18446744073709551616)),.int .u64 (Int.ofNat ((a.toNat+b.toNat+0)/18446744073709551616))])) w /\
  (callFunc 119 #[.int .u64 a,.int .u64 b,.int .u64 1]).run Tryz.prog w=.ok (.value (.tuple #[.int .u64 (Int.ofNat ((a.toNat+b.toNat+1)%18446744073709551616)),.int .u64 (Int.ofNat ((a.toNat+b.toNat+1)/18446744073709551616))])) w:=by
 constructor<;>kernel_rfl
theorem JI (a b:Int) (w:World):(callFunc 120 #[.int .u64 a,.int .u64 b,.int .u64 0]).run Tryz.prog w=.ok (.value (.tuple #[.int .u64 (Int.ofNat ((a.toNat+18446744073709551616-b.toNat-0)%18446744073709551616)),.int .u64 (Int.ofNat (if a.toNat<b.toNat+0 then 1 else 0))])) w /\
  (callFunc 120 #[.int .u64 a,.int .u64 b,.int .u64 1]).run Tryz.prog w=.ok (.value (.tuple #[.int .u64 (Int.ofNat ((a.toNat+18446744073709551616-b.toNat-1)%18446744073709551616)),.int .u64 (Int.ofNat (if a.toNat<b.toNat+1 then 1 else 0))])) w:=by
 constructor<;>kernel_rfl
theorem zI:aO Tryz.prog 119 [.int .u64,.int .u64,.int .u64] [.val (.int .u64),.val (.int .u64)] bB mf L3:=by
 rintro w M us ⟨a,b,c,⟨⟩⟩ _ _ ⟨g,_,rfl,o,h,_,rfl,q,i,_,rfl,r,rfl⟩ ⟨⟨d,t⟩,⟨f,x⟩,s⟩;have j:g=.int .u64 a:=by have:[g]=[Value.int .u64 a]:=o;simpa using this
 have k:h=.int .u64 b:=by have:[h]=[Value.int .u64 b]:=q;simpa using this
 have l:i=.int .u64 c:=by have:[i]=[Value.int .u64 c]:=r;simpa using this
 subst j k l;refine .inr ?_
 ·obtain⟨n,rfl⟩:=jU d;obtain⟨m,rfl⟩:=jU f;have e:∀ c:Nat,(Value.tuple #[.int .u64 (Int.ofNat (((n:Int).toNat+(m:Int).toNat+c)%18446744073709551616)),.int .u64 (Int.ofNat (((n:Int).toNat+(m:Int).toNat+c)/18446744073709551616))])=.tuple #[.int .u64 (((n:Int)+m+c)%18446744073709551616),.int .u64 (((n:Int)+m+c)/18446744073709551616)]:=by
   intro c;congr 3
  rcases s with rfl|rfl;exact⟨_,w,(run_add64 n m w).1,[_,_],none,e 0,⟨_,_,rfl,rfl,_,_,rfl,rfl,rfl⟩,Below.refl _ _⟩;exact⟨_,w,(run_add64 n m w).2,[_,_],none,e 1,⟨_,_,rfl,rfl,_,_,rfl,rfl,rfl⟩,Below.refl _ _⟩
theorem K6:aO Tryz.prog 120 [.int .u64,.int .u64,.int .u64] [.val (.int .u64),.val (.int .u64)] bB mf L5:=by
 rintro w M us ⟨a,b,c,⟨⟩⟩ _ _ ⟨j,_,rfl,q,k,_,rfl,r,l,_,rfl,s,rfl⟩ ⟨⟨g,t⟩,⟨h,x⟩,i⟩;have d:j=.int .u64 a:=by have:[j]=[Value.int .u64 a]:=q;simpa using this
 have f:k=.int .u64 b:=by have:[k]=[Value.int .u64 b]:=r;simpa using this
 have o:l=.int .u64 c:=by have:[l]=[Value.int .u64 c]:=s;simpa using this
 subst d f o;refine .inr ?_
 ·obtain⟨n,rfl⟩:=jU g;obtain⟨m,rfl⟩:=jU h;have e:∀ c:Nat,c<=1->(Value.tuple #[.int .u64 (Int.ofNat (((n:Int).toNat+18446744073709551616-(m:Int).toNat-c)%18446744073709551616)),.int .u64 (Int.ofNat (if (n:Int).toNat<(m:Int).toNat+c then 1 else 0))])=.tuple #[.int .u64 (((n:Int)-m-c)%18446744073709551616),.int .u64 (if (n:Int)<m+c then 1 else 0)]:=by
   intro c i;have d:(Int.ofNat (((n:Int).toNat+18446744073709551616-(m:Int).toNat-c)%18446744073709551616))=((n:Int)-m-c)%18446744073709551616:=by simp only[aF,Int.ofNat_eq_natCast];omega
   have f:(Int.ofNat (if (n:Int).toNat<(m:Int).toNat+c then 1 else 0))=(if (n:Int)<m+c then 1 else 0):=by simp only[aF,Int.ofNat_eq_natCast];split<;>split<;>omega
   rw[d,f]
  rcases i with rfl|rfl;exact⟨_,w,(JI n m w).1,[_,_],none,e 0 aa,⟨_,_,rfl,rfl,_,_,rfl,rfl,rfl⟩,Below.refl _ _⟩;exact⟨_,w,(JI n m w).2,[_,_],none,e 1 aa,⟨_,_,rfl,rfl,_,_,rfl,rfl,rfl⟩,Below.refl _ _⟩
def Px:Nat × Eng.Spec:=(141,aK [.int .u64,.int .u64] [.val (.int .u64),.val (.int .u64)] Ai EV)
def DD:Nat × Eng.Spec:=(119,aK [.int .u64,.int .u64,.int .u64] [.val (.int .u64),.val (.int .u64)] mf L3)
def Py:Nat × Eng.Spec:=(120,aK [.int .u64,.int .u64,.int .u64] [.val (.int .u64),.val (.int .u64)] mf L5)
def G3:List Int->List Int->Int->Prop->Prop
 | a::us,b::vs,k,K=>mf (a,b,k,())/\G3 us vs (if a<b+k then 1 else 0) K
 | _,_,_,K=>K
theorem JN {K:Prop}:∀ (us vs:List Int) (k:Int),us.length=vs.length->Ws us->Ws vs->(k=0\/k=1)->K->G3 us vs k K:=by
 intro us;induction us with
 | nil=>intro vs k h _ _ _ c;exact c
 | cons a us i =>
  intro vs k h e f g c;cases vs with
  | nil=>simp at h
  | cons b vs=>exact⟨⟨e a aw,f b aw,g⟩,i vs _ (by simpa using h) (fun y d=>e y (by simp[d])) (fun y d=>f y (by simp[d])) (by split<;>simp) c⟩
def Fz:List Int->List Int->Int->Prop->Prop
 | a::us,b::vs,k,K=>mf (a,b,k,())/\Fz us vs ((a+b+k)/18446744073709551616) K
 | _,_,_,K=>K
theorem IW {K:Prop}:∀ (us vs:List Int) (k:Int),us.length=vs.length->Ws us->Ws vs->(k=0\/k=1)->K->Fz us vs k K:=by
 intro us;induction us with
 | nil=>intro vs k h _ _ _ c;exact c
 | cons a us n =>
  intro vs k h e f m c;cases vs with
  | nil=>simp at h
  | cons b vs =>obtain⟨g,i⟩:=e a aw;obtain⟨j,l⟩:=f b aw;exact⟨⟨⟨g,i⟩,⟨j,l⟩,m⟩,n vs _ (by simpa using h) (fun y d=>e y (by simp[d])) (fun y d=>f y (by simp[d])) aa c⟩
end
end Go.Proofs.YtofofalgjibokaaGreatDoor
namespace Cr
open Go.IntKind(i64 u64)
section
universe u
def CM:List Int->List Int->List Int->Int->Int->Int->Int->List Int
 | x::e,p::b,t::d,v,m,a,c =>
  (m*p+(x*v+t+a)%18446744073709551616+c)%18446744073709551616 ::
   CM e b d v m ((x*v+t+a)/18446744073709551616) ((m*p+(x*v+t+a)%18446744073709551616+c)/18446744073709551616)
 | _,_,_,_,_,a,c=>[(a+c)%18446744073709551616]
theorem T6 {v m:Int} (E:0<=v) (s:0<=m):∀ (d b e:List Int) (a c:Int),d.length=b.length->b.length=e.length->Ws d->Ws b->Ws e->0<=a->0<=c ->
  (CM d b e v m a c).length=d.length+1/\Ws (CM d b e v m a c) /\
  ∃ q,0<=q/\val (CM d b e v m a c)+pw (d.length+1)*q=val d*v+val e+m*val b+a+c:=by
 intro d;induction d with
 | nil =>
  intro b e a c g h _ _ _ o r;have k:b=[]:=by cases b with|nil=>rfl|cons _ _=>simp at g
  subst k;have l:e=[]:=by cases e with|nil=>rfl|cons _ _=>simp at h
  subst l;refine⟨rfl,?_,(a+c)/18446744073709551616,aa,?_⟩;intro x f;simp only[CM,gb] at f;subst f;exact⟨aa,aa⟩;simp only[CM,val,pw,eH,Int.mul_zero];omega
 | cons x d I =>
  intro b e a c g h f i j o r;cases b with
  | nil=>simp at g
  | cons p b =>
   cases e with
   | nil=>simp at h
   | cons t e =>obtain⟨L,U⟩:=f x aw;obtain⟨K,Q⟩:=i p aw;obtain⟨R,T⟩:=j t aw;have F:0<=x*v:=mZ L E;have w:0<=m*p:=mZ s K;simp only[CM];generalize O:x*v+t+a=u;generalize P:m*p+u%18446744073709551616+c=z;obtain⟨g1,g2,q,n,N⟩:=I b e (u/18446744073709551616) (z/18446744073709551616) (by simpa using g) (by simpa using h) (fun y hy=>f y (by simp[hy])) (fun y hy=>i y (by simp[hy])) (fun y hy=>j y (by simp[hy])) aa aa;refine⟨by simp[g1],?_,q,n,?_⟩;intro y hy;simp only[tT] at hy;rcases hy with rfl|hy;exact⟨aa,aa⟩;exact g2 y hy;simp only[val,bN];rw[show pw (d.length+1+1)=18446744073709551616*pw (d.length+1) from rfl,dz];rw[show (x+18446744073709551616*val d)*v=x*v+18446744073709551616*(val d*v) from by rw[qO,dz]];rw[show m*(p+18446744073709551616*val b)=m*p+18446744073709551616*(m*val b) from by rw[qN,wQ]];generalize pw (d.length+1)*q=A at *;generalize val d*v=C at *;generalize m*val b=D at *;generalize x*v=G at *;generalize m*p=H at *;omega
def nH (cancel:Int):List Int->List Int->List Int->Int->List Int
 | x::xs,p::ps,t::a,v =>
  CM xs ps a v (((x*v+t+0)%18446744073709551616)*cancel%18446744073709551616) ((x*v+t+0)/18446744073709551616)
   (((((x*v+t+0)%18446744073709551616)*cancel%18446744073709551616)*p+(x*v+t+0)%18446744073709551616+0)/18446744073709551616)
 | _,_,_,_=>[]
theorem RL {cancel v:Int} {c b d:List Int} (n:c.length=b.length) (w:b.length=d.length) (I:Ws c) (F:Ws b) (N:Ws d) (E:b≠[]) (X:gI v)
  (K:(b.headD 0*cancel+1)%18446744073709551616=0) (hb:val d<val c+val b) (Z:val c<val b) (R:2*val b<=pw b.length) :
  (nH cancel c b d v).length=d.length/\Ws (nH cancel c b d v)/\val (nH cancel c b d v)<val c+val b /\
  ∃ m,18446744073709551616*val (nH cancel c b d v)=val c*v+val d+m*val b:=by
 obtain⟨j,Y⟩:=X;cases b with
 | nil=>exact absurd rfl E
 | cons p b =>
 cases c with
 | nil=>simp at n
 | cons x c =>
 cases d with
 | nil=>simp at w
 | cons t d =>
  obtain⟨x0,x1⟩:=I x aw;obtain⟨p0,p1⟩:=F p aw;obtain⟨t0,t1⟩:=N t aw;have x2:0<=x*v:=mZ x0 j;simp only[nH];generalize hu:x*v+t+0=u;generalize hs:u%18446744073709551616=s;generalize U:s*cancel%18446744073709551616=m;have i:0<=m/\m<18446744073709551616:=aa;have V:0<=m*p:=mZ i.1 p0
  -- m p+s is a f of 2^64
  have L:(m*p+s+0)%18446744073709551616=0:=by
   simp only[List.headD_cons] at K;have Q:(m*p+s)%18446744073709551616=(s*(p*cancel+1))%18446744073709551616:=by have T:=wF (s*cancel) 18446744073709551616;rw[U] at T;rw[show m*p+s=s*(p*cancel+1)+18446744073709551616*(-(s*cancel/18446744073709551616*p)) from by grind];exact wE _ _ _
   rw[Int.add_zero,Q,dH,K];simp
  generalize hz:m*p+s+0=z at *;obtain⟨g1,g2,q,g3,l⟩:=T6 j i.1 c b d (u/18446744073709551616) (z/18446744073709551616) (by simpa using n) (by simpa using w) (fun y k=>I y (by simp[k])) (fun y k=>F y (by simp[k])) (fun y k=>N y (by simp[k])) aa aa;have g:c.length+1=(p::b).length:=by simpa using n
  have n0:=eE g2;have P:=eE I;have O:=eE F
  -- x4 e
  have e:18446744073709551616*(val c*v+val d+m*val b+u/18446744073709551616+z/18446744073709551616)=val (x::c)*v+val (t::d)+m*val (p::b):=by simp only[val];rw[show (x+18446744073709551616*val c)*v=x*v+18446744073709551616*(val c*v) from by rw[qO,dz]];rw[show m*(p+18446744073709551616*val b)=m*p+18446744073709551616*(m*val b) from by rw[qN,wQ]];generalize val c*v=C at *;generalize m*val b=D at *;generalize x*v=G at *;generalize m*p=H at *;omega
  -- x3 r
  have b1:val (x::c)*v<=val (x::c)*18446744073709551615:=Bb aa P;have b2:m*val (p::b)<=18446744073709551615*val (p::b):=vt aa O;generalize val (x::c)*v=XV at *;generalize A:m*val (p::b)=MP at *;have o:val c*v+val d+m*val b+u/18446744073709551616+z/18446744073709551616<val (x::c)+val (p::b):=aa;rw[g] at l;have W:q=0:=by rcases Int.lt_or_le 0 q with h|h;exfalso;have:pw (p::b).length*1<=pw (p::b).length*q:=Bb aa (eJ (we _));omega;omega
  subst W;simp only[Int.mul_zero,Int.add_zero] at l;refine⟨by rw[g1];simp at n w ⊢;omega,g2,by rw[l];exact o,m,?_⟩;rw[l,e,A]
def foldM (cancel:Int) (xs ps:List Int):List Int->List Int->List Int
 | ts,[]=>ts
 | ts,v::a=>foldM cancel xs ps (nH cancel xs ps ts v) a
theorem zO {cancel:Int} {xs ps:List Int} (n:xs.length=ps.length) (r:Ws xs) (q:Ws ps) (h:ps≠[])
  (o:(ps.headD 0*cancel+1)%18446744073709551616=0) (j:val xs<val ps) (f:2*val ps<=pw ps.length):∀ (b a:List Int),Ws b->ps.length=a.length->Ws a->val a<val xs+val ps ->
  (foldM cancel xs ps a b).length=ps.length/\Ws (foldM cancel xs ps a b)/\val (foldM cancel xs ps a b)<val xs+val ps /\
  ∃ m,pw b.length*val (foldM cancel xs ps a b)=val xs*val b+val a+m*val ps:=by
 intro b;induction b with
 | nil=>intro a _ e i g;exact⟨e.symm,i,g,0,by simp[foldM,pw,val]⟩
 | cons v b t =>intro a d e i g;obtain⟨g1,g2,k,m,l⟩:=RL n e r q i h (d v aw) o g j f;obtain⟨u,w,x,A,z⟩:=t (nH cancel xs ps a v) (fun y s=>d y (by simp[s])) (by rw[g1];exact e) g2 k;refine⟨u,w,x,m+18446744073709551616*A,?_⟩;simp only[foldM,pw,val,bN];rw[dz,z,qN,qN,l];grind
theorem Jr {cancel:Int} {xs ps ys:List Int} (h:xs.length=ps.length) (i:ys.length=ps.length) (a:Ws xs) (k:Ws ps) (o:Ws ys) (d:ps≠[])
  (j:(ps.headD 0*cancel+1)%18446744073709551616=0) (e:val xs<val ps) (b:2*val ps<=pw ps.length) {rinv:Int} (l:(pw ps.length*rinv)%val ps=1%val ps) :
  (foldM cancel xs ps (replicate ps.length 0) ys).length=ps.length/\Ws (foldM cancel xs ps (replicate ps.length 0) ys)/\val (foldM cancel xs ps (replicate ps.length 0) ys)<2*val ps /\
  val (foldM cancel xs ps (replicate ps.length 0) ys)%val ps=(val xs*val ys*rinv)%val ps:=by
 have z:∀ n,val (replicate n 0)=0:=by
  intro n;induction n with
  | zero=>rfl
  | succ n q=>simp[oV,val,q]
 have t:Ws (replicate ps.length 0):=by intro x a;rw[(List.mem_replicate.1 a).2];exact⟨aa,aa⟩
 have u:=eE a;obtain⟨r,s,w,m,f⟩:=zO h a k d j e b ys (replicate ps.length 0) o aw t (by rw[z];omega);refine⟨r,s,aa,?_⟩;rw[z,i] at f;generalize val (foldM cancel xs ps (replicate ps.length 0) ys)=T at *;have g:(T*(pw ps.length*rinv))%val ps=T%val ps:=by rw[dH,l,<- dH,lF]
 rw[<- g,show T*(pw ps.length*rinv)=(pw ps.length*T)*rinv from by rw[gM (pw ps.length) T,dz],f];rw[show (val xs*val ys+0+m*val ps)*rinv=val xs*val ys*rinv+(m*rinv)*val ps from by grind];exact Int.add_mul_emod_self_right _ _ _
