import Derived.Test.YtofofalgjibokaaGreatDoorMLanPC
set_option maxRecDepth 100000
set_option maxHeartbeats 4000000
noncomputable section
open Go Go.RowKit Cr Go.Eng
open List(all_eq_true drop length mem_cons mem_map mem_range range replicate take)
open Nat(beq ble blt)
open Option(isSome)
open Int(toNat)
namespace Go.Eng.Ob
def inv(a:List Nat)(j:Nat):Nat:=match a with
 |[]=>0
 |i::a=>match beq i j with
  |true=>0
  |false=>inv a j+1
def aj3(a:List Nat)(e:Edge):Edge:=⟨inv a e.on,e.ground⟩
def HP(a:List Nat)(o:Oper):Oper:=⟨o.dst,o.op,o.type,o.pos,⟨o.after.toList.map (aj3 a)⟩,match o.guard with
 |none=>none
 |some (j,b)=>some (inv a j,b)⟩
def aio(a:Array Oper)(i:Nat):Oper:=match a.toList[i]? with
 |some o=>o
 | none => ⟨none, .move (.const undef), 0, "", ⟨[]⟩, none⟩
def oD(b:List Nat)(a:Array Oper):Array Oper:=⟨b.map λi=>HP b (aio a i)⟩
def PZ(b:List Nat)(a:Array Oper):Bool:=
 beq b.length a.size&&mN b&&b.all (λi=>blt i a.size) &&
 a.toList.all λo=>(o.after.toList.all λe=>blt e.on a.size&&dQ e.on b)&&match o.guard with
  |none=>true
  |some (j,_)=>blt j a.size&&dQ j b
theorem vf:∀{a:List Nat}{j:Nat},j∈a->a[inv a j]?=some j
 |i::a,j,h=>by
  unfold inv;cases b:beq i j with
  |true=>simp_all
  |false=>
   rcases mem_cons.1 h with e|h;·simp_all
   simpa using vf h
theorem IW{a:List Nat}(b:mN a=true){k i:Nat}(h:a[k]?=some i):inv a i=k:=
 zT a b _ _ i (vf (ft h)) h
theorem ai5{a:List Nat}{j:Nat}(h:j∈a):inv a j<a.length:=by have:=vf h;rcases cG (inv a j) a.length with h'|h';exact h';simp_all
structure PermOk(π:List Nat)(ops:Array Oper):Prop where
 len:π.length=ops.size
 nd:mN π=true
 lt:∀i∈π,i<ops.size
 all:∀i,i<ops.size->i∈π
 edge:∀(i:Nat)(o:Oper),ops[i]?=some o->∀e∈o.after.toList,e.on∈π
 iS:∀(i:Nat)(o:Oper)(j:Nat)(b:Bool),ops[i]?=some o->o.guard=some (j,b)->j∈π
theorem MA:∀{n:Nat}{b:List Nat},b.Nodup->(∀i∈b,i<n)->b.length=n->∀i,i<n->i∈b
 |0,_,_,_,_=>λi c=>aa
 |n+1,b,p,u,A=>by
  intro i c;have d:n∈b:=by
   by_cases h:n∈b;exact h
   ·exfalso;have o:∀i∈b,i<n:=λi c=>by
     have:=u i c;have:i≠n:=λe=>h (e▸c);omega
    -- z w below n
    have q:∀(m:Nat)(l:List Nat),l.Nodup->(∀i∈l,i<m)->l.length<=m:=by
     intro m;induction m with
     |zero=>intro l _ g;cases l with
      |nil=>simp
      |cons a l=>have:=g a az;omega
     |succ m y=>
      intro l s g
      have r:=y (l.erase m) (s.erase m) (λi c=>by
       have f:=g i (DH c);have x:i≠m:=λe=>by subst e;exact s.not_mem_erase c
       omega)
      have f:=List.length_erase (a:=m) (l:=l);split at f<;>omega
    have:=q n b p o;omega
  by_cases k:i=n;subst k;exact d
  ·have r:=MA (n:=n) (p.erase n) (λj t=>by
    have f:=u j (DH t);have x:j≠n:=λe=>by subst e;exact p.not_mem_erase t
    omega) (by simp_all) i aa
   exact DH r
theorem Pv{a:List Nat}(h:mN a=true):a.Nodup:=by rw[List.nodup_iff_pairwise_ne,List.pairwise_iff_getElem];intro i j d c b e;have:=zT a h i j (a[j]) (by simp_all) (bO c);omega
theorem Rv{d:List Nat}{c:Array Oper}(h:PZ d c=true):PermOk d c:=by simp only[PZ,bD]at h;obtain⟨⟨⟨f,g⟩,k⟩,p⟩:=h;have s:=λ{j} m=>ft (K6 d j m);have a:=λi l=>hX (all_eq_true.1 k i l);refine⟨ji f,g,a,MA (Pv g) a (ji f),λi o n e q=>?_,λi o j b n r=>?_⟩;grind;grind
theorem ud{b:List Nat}{a:Array Oper}:(oD b a).size=b.length:=by simp[oD]
theorem AK{b:List Nat}{a:Array Oper}{k i:Nat}{o:Oper}(c:b[k]?=some i)(d:a[i]?=some o):(oD b a)[k]?=some (HP b o):=by unfold oD aio;simp_all
theorem aj4(P:Program)(e:List Nat)(o:Oper)(a:Act)(w:World)(K:aA)(Q:Exit->aA)(h:(HP e o).wp P a w K Q):o.wp P a w K Q:=by obtain⟨c,d,f,pos,b,guard⟩:=o;cases d<;>exact h
theorem abZ(P:Program)(e:List Nat)(o:Oper)(a:Act)(w:World)(h:(HP e o).asks P a w):o.asks P a w:=by obtain⟨c,d,f,pos,b,guard⟩:=o;cases d<;>exact h
theorem VQ{h:List Nat}{a:Array Oper}(l:PermOk h a){i:Nat}{o:Oper}(m:a[i]?=some o)(c:Array Value):Region.wanted (HP h o) (yielded (oD h a) c)=Region.wanted o (yielded a c):=by
 unfold Region.wanted;cases e:o.guard with
 |none=>simp[HP,e]
 |some g=>
  obtain⟨j,b⟩:=g;simp[HP,e];have k:=l.iS i o j b m e;have f:=l.lt j k;have d:a[j]?=some a[j]:=by simp[f]
  unfold yielded;rw[AK (vf k) d,d];rfl
theorem abO{P:Program}{Q:Exit->aA}{l:List Nat}{f:Array Oper}(z:PermOk l f):∀(j:Nat)(c b:Array Bool)(a:Act)(w:World),c.size=f.size->b.size=f.size ->
  (∀k i,l[k]?=some i->b.getD k false=c.getD i false)->wpAny P .any (oD l f) Q j b a w->wpAny P .any f Q j c a w:=by
 have g:∀(c b:Array Bool),c.size=f.size->b.size=f.size->(∀k i,l[k]?=some i->b.getD k false=c.getD i false) ->
   ∀k i,l[k]?=some i->(k∈Region.ready .any (oD l f) b↔i∈Region.ready .any f c):=by
  intro c b p r x k i u;have m:=z.lt i (ft u);have n:f[i]?=some f[i]:=by simp[m]
  rw[lx p,lx (by rw[ud,z.len];exact r)];rw[AK u n,n,x k i u];have s:=λe U=>x _ _ (vf (z.edge i _ n e U));constructor;rintro⟨o,e,g1,g2⟩;cases e;refine⟨_,rfl,g1,λd K O=>?_⟩;rw[<-s d K];exact g2 (aj3 l d) (mem_map.2 ⟨d,K,rfl⟩) O;rintro⟨o,e,g1,g2⟩;cases e;refine⟨_,rfl,g1,λd K O=>?_⟩;obtain⟨d0,C,rfl⟩:=mem_map.1 K;show b.getD (inv l d0.on) false=true;rw[s d0 C];exact g2 d0 C O
 have G:∀(c b:Array Bool),c.size=f.size->b.size=f.size->(∀k i,l[k]?=some i->b.getD k false=c.getD i false)->Region.ready .any f c=[]->Region.ready .any (oD l f) b=[]:=by
  intro c b p r x N;rw[Dw];intro k u;obtain⟨o,n,_⟩:=(lx (by rw[ud,z.len];exact r)).1 u;have R:k<l.length:=by rcases cG k l.length with h|h;exact h;rw[gH (by rw[ud];exact h)]at n;cases n
  have:=(g c b p r x k _ (bO R)).1 u;rw[N]at this;cases this
 intro j;induction j with
 |zero=>
  intro c b a w p r x D;refine⟨?_,D.2⟩;rw[Dw];intro i E;have m:=(lx p).1 E;obtain⟨o,n,_⟩:=m;have m:i<f.size:=by rcases cG i f.size with h|h;exact h;rw[gH h]at n;cases n
  have:=(g c b p r x _ i (vf (z.all i m))).2 E;rw[D.1]at this;cases this
 |succ j V=>
  intro c b a w p r x D;refine⟨λN=>D.1 (G c b p r x N),λi E=>?_⟩;obtain⟨o,n,g1,_⟩:=(lx p).1 E;have m:i<f.size:=by rcases cG i f.size with h|h;exact h;rw[gH h]at n;cases n
  have F:=z.all i m;have u:=vf F;have hw:=D.2 _ ((g c b p r x _ i u).2 E);unfold wpOp at hw⊢;rw[AK u n]at hw;simp[n];simp[VQ z n]at hw;have H:∀L I,l[L]?=some I->(b.setIfInBounds (inv l i) true).getD L false=(c.setIfInBounds i true).getD I false:=by
   intro L I y;have T:inv l i<b.size:=by rw[r,<-z.len];exact ai5 F
   rw[mC T,mC aa,x L I y];by_cases h:I=i;subst h;rw[IW z.nd y];simp;rw[ai h,ai];rintro rfl;rw[u]at y;exact h (nO y).symm
  have t:=λa w q=>V _ _ a w (by simpa using p) (by simpa using r) H q;split at hw;rename_i A;rw[ah A];rcases hw with hw|hw;exact .inl (ZJ (λ_ _ _ _ q=>q) t (aj4 P l o a w _ Q hw));exact .inr ⟨abZ P l o a w hw.1,hw.2⟩;rename_i A;rw[ai A];exact t _ _ hw
theorem Hl{P:Program}{ops:Array Oper}{l:cw}{Pre n r:aA}{x:Nat->aA}(f:List Nat)(d:PZ f ops=true)(h:rL P (oD f ops) 0 l Pre n r x):rL P ops 0 l Pre n r x:=by
 have d:=Rv d;intro a w Q c g j o b p;have e:(oD f ops).size=ops.size:=by rw[ud,d.len]
 refine abO d b (jm 0 ops.size) (jm 0 (oD f ops).size) a w (ku (aY _)) (by rw[ku (aY _),e]) (λk i _=>by rw[gO,gO];simp) (h a w Q c g j o b (by simp_all))
theorem NN{P:Program}{Q d:Exit->aA}(b:∀e a w,Q e a w->d e a w):∀(l:cw)(a:Act)(w:World),ng P l Q a w->ng P l d a w
 |[],a,w,h=>b _ a w h
 |c::l,a,w,h=>wp_mono h λe a w f=>by
  cases e with
  |normal=>exact NN b l a w f
  |_=>exact b _ a w f
theorem C3{P:Program}{j:Region.Mode}{c:Array Oper}{Q g:Exit->aA}(d:∀e a w,Q e a w->g e a w):∀(fuel:Nat)(b:Array Bool)(a:Act)(w:World),wpAny P j c Q fuel b a w->wpAny P j c g fuel b a w
 |0,_,a,w,h=>⟨h.1,d _ a w h.2⟩
 |fuel+1,_,a,w,h=>⟨λk=>d _ a w (h.1 k),λi m=>by
  have:=h.2 i m;cases f:c[i]? with
  |none=>unfold wpOp at this⊢;simp[f]at this⊢;exact C3 d fuel _ _ _ this
  |some o=>exact Q0 f f (λ_ _ _=>rfl) (λe a w _ l=>d e a w l) (λa w h=>C3 d fuel _ a w h) this⟩
def Zw(a:Array Oper)(k:Nat):Bool:=blt k a.size&&(Region.noSelect a&&Region.free .any a (jm k a.size) k&&(Region.ready .any a (jm k a.size)).contains k)
def NJ(P:Program)(S:dr)(b:Op)(d:TypeId)(c:SV):Prop:=
 ∀(a:aI)(ev:Operand->Value),(∀o,(fG S o).rel a (ev o))->∃v,(∀o:Oper,o.op=b->o.type=d->∀w,(execOp ev o).run P w=.ok (.value v) w)/\c.rel a v
theorem Ab{P:Program}{S:dr}{c:TypeId}(x:Operand):NJ P S (.move x) c (fG S x):=λd ev a=>⟨ev x,λo b _ w=>by unfold execOp;rw[b];rfl,a x⟩
theorem abU{P:Program}{S:dr}{j t i:TypeId}{x y:Operand}{a b:Int}(g:fG S x=ag (vI a))(h:fG S y=ag (vI b)):NJ P S (.binOp .mul t x y i) j (ag (vI (IntKind.i64.wrap (a*b)))):=by intro k ev c;have d:=oc g c;have e:=oc h c;exact⟨_,λo f _ w=>by unfold execOp;rw[f];simp[d,e];rfl,rfl,rfl⟩
theorem yl{E:cJ}{N:Nat}{n r:aA}{x:Nat->aA}{l:cw}{ops:Array Oper}{k:Nat}{τ:St}{G:ak}(sv:SV)(U:Zw ops k=true)(s:isStep τ.S ops k=true)(hp:NJ E.P τ.S (j8 ops k) (rG ops k) sv)(h:rL E.P ops (k+1) l (GH E N (τ.put (nD ops k) sv) G) n r x):rL E.P ops k l (GH E N τ G) n r x:=by
 simp only[Zw,bD]at U;obtain⟨L,⟨t,hf⟩,hr⟩:=U;have L:=hX L;intro a w Q hh x2 x4 hx q x0;obtain⟨o,O,g⟩:∃o,ops[k]?=some o/\nr τ.S ops o.guard=true:=by unfold isStep at s;split at s;rename_i o O;exact⟨o,O,s⟩;cases s
 have T:nD ops k=o.dst:=by unfold nD;rw[O]
 have x3:o.op=j8 ops k:=by unfold j8;rw[O]
 have x6:o.type=rG ops k:=by unfold rG;rw[O]
 rw[T]at h;obtain⟨F,I,A,X,V,f,D⟩:=hh.mP;have R:Mem.le I.M (cR w):=λb l C=>by obtain⟨_,el,fr,h⟩:=f.mem b l C;exact lQ h
 obtain⟨v,hv,x5⟩:=hp I a.eval (λo=>dJ.fG (E:=⟨E.P,E.sp,lI w E.gl I τ.next⟩) f o);have y:GH E N (τ.put o.dst sv) G (a.put o.dst v) w:=OG A V f D R X (λb C=>.inl C) ⟨rfl,rfl,rfl,aQ _,λ_ _ _=>rfl⟩ (Mem.le_refl _)
  (λb l C=>⟨R b l C,λW=>A.mem b W l C,.inr (.inr C)⟩) (λx8 x1 hM=>SV.gM x1 x5)
 have H:Region.wanted o (yielded ops a.tmps)=true:=by
  unfold Region.wanted;cases hq:o.guard with
  |none=>rfl
  |some p=>obtain⟨j,x7⟩:=p;rw[hq]at g;unfold nr at g;simp only at g;split at g;rename_i d hd;have t:=f.aW d;split at g;rename_i hT;rw[hT]at t;have t:=t;have t:=(oZ t).1;simp only[pV hd t];rfl;rename_i W;rw[W]at t;have t:=t;have t:=(oZ t).1;simp only[pV hd t];rfl;cases g;cases g
 let Q':Exit->aA:=λe a w=>match e with
  |.panic _=>False
  |e=>Q e a w
 have Y:∀e a w,Q' e a w->Q e a w:=λe a w h=>by
  cases e with
  |panic c=>exact h.elim
  |_=>exact h
 have h1:=h (a.put o.dst v) w Q' y (λa w h=>x2 a w h) (λa w h=>x4 a w h) (λi a w h=>hx i a w h) (q-1) aa
 have e:(jm k ops.size).setIfInBounds k true=jm (k+1) ops.size:=Cj (by simp[ku (wi L),ku (show k+1<=ops.size from L)]) (λj=>by
  rw[mC (by rw[ku (wi L)];exact L),gO,gO];by_cases hj:j=k;subst hj;simp
  ·simp only[hj,mq];congr 1
   exact propext ⟨λ_=>aa,λ_=>aa⟩)
 rw[<-e]at h1;have h2:=wpAny_take O t hf hr (λc a w h=>h.elim) (.inl ⟨H,hv o x3 x6⟩) h1;rw[show q-1+1=q from by omega]at h2;refine C3 (λe a w Z=>?_) q _ a w h2;cases e with
 |normal=>exact NN Y l a w Z
 |panic c=>exact Z.elim
 |_=>exact Z
theorem jy{E:cJ}{n:aA}{x:Nat->aA}(d:aS E.P E.sp)(j:E.P.follows .mixedOrders=true){fn:Func}{l:cw}{f:St}{G:ak}{Q:SV->ak->Prop}(q:SV)(h:∀(w:World)(ids:List (Nat×Nat))(M:Mem)(num:Nat×Nat->Nat),VC ⟨E.P,E.sp,⟨w,ids,E.gl,M,num,f.next⟩⟩ l f (λ_=>False) (m6 ⟨E.P,E.sp,cS E⟩ fn λsv _=>sv=q) (λ_ _=>False)) (k:Q q G):
  aR E.P l (GH E fn.ntmps f G) n (du E fn Q) x:=
 lY d j (λ_=>False) _ (λ_ _=>False) h (λ_ _ _ a _=>a.elim) (λg _ _ a i=>⟨g,G,cS E,i,HR a λ_ _ e=>e▸k⟩) (λ_ _ _ _ h _=>h.elim)
theorem jY{E:cJ}{N:Nat}{n r:aA}{x:Nat->aA}(j:aS E.P E.sp)(F:E.P.follows .mixedOrders=true){l:cw}{z:St}{G:ak}{s:Type}(k t:Nat)(f:St->s)(d:s->St)(K:s->Prop)(m:St->Prop)(o:Nat->St->Prop)(h:∀(w:World)(ids:List (Nat×Nat))(M:Mem)(num:Nat×Nat->Nat),VC ⟨E.P,E.sp,⟨w,ids,E.gl,M,num,z.next⟩⟩ (l.take k) z (λb=>(Vq t b).le (cS E) (d (f (Vq t b))) (K (f (Vq t b)))) m o)(C:∀g,K g->aR E.P (l.drop k) (GH E N (d g) G) n r x) (H:∀b a w,m b->GH E N b G a w->r a w) (I:∀i b a w,o i b->GH E N b G a w->x i a w):aR E.P l (GH E N z G) n r x:=by
 rw[<-ff k l];refine m8 (λa w=>∃g,K g/\GH E N (d g) G a w) (lY j F _ m o h (λb a w A e=>⟨_,(e.ref t _ (aaO _)).le A⟩) H I) ?_;exact p4 (Pre':=λ(g:{g // K g})=>GH E N (d g.1) G) (λa w ⟨g,D,e⟩=>⟨⟨g,D⟩,e⟩) (λg=>C g.1 g.2)
theorem Be{E:cJ}{N:Nat}{n r:aA}{x:Nat->aA}{l:cw}{d:St}{G:ak}(t id k c:Nat)(e:Kd)(f:List (a6 e))(m:d.S t=ag (.sl id 0 0 k c))(j:d.B id=some [.row e k f])(p:f.length=k)(i:aR E.P l (GH E N ⟨d.aW.set t (ag (.ro e f)),(id,[])::d.bQ,d.next⟩ G) n r x):aR E.P l (GH E N d G) n r x:=by
 refine m8 (l1:=[]) (GH E N ⟨d.aW.set t (ag (.ro e f)),(id,[])::d.bQ,d.next⟩ G) ?_ i;refine yn (λg=>g=⟨d.aW.set t (ag (.ro e f)),(id,[])::d.bQ,d.next⟩) (λ_=>False) (λ_ _=>False) (λw ids M num=>?_) (λg a w e o=>e▸o) (λ_ _ _ h _=>h.elim) (λ_ _ _ _ h _=>h.elim);exact ZE t id k c e f m j p (l5 rfl)
theorem sq{E:cJ}{N:Nat}{n r:aA}{x:Nat->aA}{l:cw}{d:St}{G:ak}(t id k c:Nat)(g:IntKind)(f:LI)(o:d.S t=ag (.sl id 0 0 k c))(m:d.B id=some [.ints g k f])(q:f.length=k)(j:aR E.P l (GH E N ⟨d.aW.set t (ag (.ro (.int g) f)),(id,[])::d.bQ,d.next⟩ G) n r x):aR E.P l (GH E N d G) n r x:=by
 refine m8 (l1:=[]) (GH E N ⟨d.aW.set t (ag (.ro (.int g) f)),(id,[])::d.bQ,d.next⟩ G) ?_ j;refine yn (λi=>i=⟨d.aW.set t (ag (.ro (.int g) f)),(id,[])::d.bQ,d.next⟩) (λ_=>False) (λ_ _=>False) (λw ids M num=>?_) (λi a w e p=>e▸p) (λ_ _ _ h _=>h.elim) (λ_ _ _ _ h _=>h.elim);exact T9 t id k c g f o m q (l5 rfl)
theorem PB{d:List cb}{p:Nat}{r:ak}(c:List cb)(z:∀(t:aI)(i:Nat)(cs:cb)(l:bn),d[i]?=some cs->aH t cs l->∃g,c[i]?=some g/\aH t g l)(I:d.length<=c.length)(w:World)(M:Mem)(F:Nat->Prop)(h:(ak.obj d p r).P w M F):(ak.obj c p r).P w M F:=by
 obtain⟨f,F2,y,K,A,C,D,E,G⟩:=h;have a:∀(i b:Nat),(f++replicate (c.length-d.length) none)[i]?=some (some b)↔f[i]?=some (some b):=by grind
 have o:GB (f++replicate (c.length-d.length) none) w M=GB f w M:=by
  have e:∀i:Nat,((f++replicate (c.length-d.length) none)[i]?).join=(f[i]?).join:=by grind
  unfold GB;congr 1;funext i;exact e i;funext i;rw[e i]
 refine⟨f++replicate (c.length-d.length) none,F2,y,by rw[bA,pk];omega,(a 0 p).2 A,λb=>(C b).trans ⟨λq=>q.imp id λ⟨i,m⟩=>⟨i,(a i b).2 m⟩,λq=>q.imp id λ⟨i,m⟩=>⟨i,(a i b).1 m⟩⟩,λi b k=>D i b ((a i b).1 k),λi j b m H=>E i j b ((a i b).1 m) ((a j b).1 H),λi g b m k=>?_⟩;have k:=(a i b).1 k;have n:i<d.length:=by rcases cG i f.length with hi'|hi';omega;rw[fQ hi']at k;cases k
 obtain⟨l,g1,g2⟩:=G i _ b (bO n) k;obtain⟨u,s,x⟩:=z _ i _ l (bO n) g2;rw[m]at s;cases s;exact⟨l,g1,by rw[o];exact x⟩
theorem FB{E:cJ}{N:Nat}{n r:aA}{x:Nat->aA}{l:cw}{a:St}{G G':ak}(d:∀w M F,G.P w M F->G'.P w M F)(h:aR E.P l (GH E N a G') n r x):aR E.P l (GH E N a G) n r x:=qf (λ_ _ e=>e.mono d) h
theorem Mh{E:cJ}{N:Nat}{n r:aA}{x:Nat->aA}{l:cw}{d:St}{G:ak}(j:E.pins=[])(id p c:Nat)(h:aR E.P l (GH E N d G) n r x):aR E.P l (GH {E with pins:=[(id,p)],ptop:=c} N d G) n r x:=by refine qf (λa w g=>?_) h;obtain⟨W,F,b,e,f⟩:=g;exact⟨W,F,⟨b.gl,b.kep,b.ids,b.foot,b.own,b.mem,b.bJ,λq i=>(by simp_all),λq i=>(by simp_all),b.mle⟩,e,f⟩
theorem CY{E:Env}{N:Nat}{n r:St->Prop}{x:Nat->St->Prop}{l:cw}{e:St}(t c:Nat)(cell:ax)(T:e.S t=ag (.v (.slice none 0 0)))(H:Tr E N l ⟨e.aW.set t (ag (.sl e.next 0 0 0 c)),(e.next,[cell])::e.bQ,e.next+1⟩ n r x):Tr E N l e n r x:=by
 intro a w Q L P R U;refine H a w Q ?_ P R U;obtain⟨A,q,d,o⟩:=L;have y:∀b,q e.next≠some b:=λb h=>absurd (o _ _ h) (zw _);have g:∀i cs b,St.B ⟨e.aW.set t (ag (.sl e.next 0 0 0 c)),(e.next,[cell])::e.bQ,e.next+1⟩ i=some cs->q i=some b->e.B i=some cs:=by
  intro i cs b h s;simp[St.B,eA]at h;cases K:beq e.next i with
  |true=>simp_all
  |false=>rw[K]at h;exact h
 refine⟨by simp_all,q,{d with aW:=?_,bQ:=?_,inj:=?_,mem:=?_},λid b h=>DQ (o id b h)⟩;intro u;show((e.aW.set t _).getD u .junk).rel q _;rw[bx,pn];split;rename_i z;subst z;split;have C:=d.aW t;rw[T]at C;exact .inl ⟨rfl,C.1⟩;trivial;exact d.aW u;intro i cs h f b s;exact d.bQ i cs (g i cs b h s) f b s;intro i D cs j b h f F p k m;exact d.inj i D cs j b (g i cs b h k) f (g D j b F m) p k m;intro b l O;obtain⟨G,I⟩:=d.mem b l O;exact⟨λi cs h f k=>G i cs (g i cs b h k) f k,I⟩
theorem ta{E:cJ}{N:Nat}{n r:aA}{x:Nat->aA}{l:cw}{d:St}{G:ak}(t c:Nat)(cell:ax)(j:d.S t=ag (.v (.slice none 0 0)))(g:aR E.P l (GH E N ⟨d.aW.set t (ag (.sl d.next 0 0 0 c)),(d.next,[cell])::d.bQ,d.next+1⟩ G) n r x):aR E.P l (GH E N d G) n r x:=by
 refine m8 (l1:=[]) (GH E N ⟨d.aW.set t (ag (.sl d.next 0 0 0 c)),(d.next,[cell])::d.bQ,d.next+1⟩ G) ?_ g;refine yn (λf=>f=⟨d.aW.set t (ag (.sl d.next 0 0 0 c)),(d.next,[cell])::d.bQ,d.next+1⟩) (λ_=>False) (λ_ _=>False) (λw ids M num=>?_) (λf a w e i=>e▸i) (λ_ _ _ h _=>h.elim) (λ_ _ _ _ h _=>h.elim);exact CY t c cell j (l5 rfl)
theorem Ua{E:Env}{N:Nat}{n r:St->Prop}{x:Nat->St->Prop}{l:cw}{e:St}(id:Nat)(cell:ax)(cs g:cb)(W:e.B id=some cs)(G:cs≠[])(D:∀(j:aI)(O:bn),aH j cs O->aH j g O)(U:Tr E N l ⟨e.aW,(id,g)::(e.next,[cell])::e.bQ,e.next+1⟩ n r x):Tr E N l e n r x:=by
 intro a w Q Z hn hr hx;refine U a w Q ?_ hn hr hx;obtain⟨s,j,f,q⟩:=Z;have H:∀b,j e.next≠some b:=λb h=>absurd (q _ _ h) (zw _);have A:∀i c b,St.B ⟨e.aW,(id,g)::(e.next,[cell])::e.bQ,e.next+1⟩ i=some c->j i=some b->(i=id/\c=g)\/e.B i=some c:=by
  intro i c b h z;simp[St.B,eA]at h;cases Y:beq id i with
  |true=>simp_all
  |false=>
   rw[Y]at h;cases F:beq e.next i with
   |true=>simp_all
   |false=>rw[F]at h;exact .inr h
 have k:∀i c b,St.B ⟨e.aW,(id,g)::(e.next,[cell])::e.bQ,e.next+1⟩ i=some c->j i=some b->∃y,e.B i=some y/\(c≠[]->y≠[]):=by grind
 refine⟨s,j,{f with bQ:=?_,inj:=?_,mem:=?_},λid b h=>DQ (q id b h)⟩;intro i c h m b z;rcases A i c b h z with ⟨rfl,rfl⟩|h;obtain⟨l,t,u⟩:=f.bQ i cs W G b z;exact⟨l,t,D j l u⟩;exact f.bQ i c h m b z;intro i L c y b h m R C o p;obtain⟨d,t,u⟩:=k i c b h o;obtain⟨P,I,K⟩:=k L y b R p;exact f.inj i L d P b t (u m) I (K C) o p;intro b l hm;obtain⟨T,V⟩:=f.mem b l hm;refine⟨λi c h m o=>?_,V⟩;obtain⟨d,t,u⟩:=k i c b h o;exact T i d t (u m) o
theorem xG{E:cJ}{N:Nat}{n r:aA}{x:Nat->aA}(q:aS E.P E.sp)(O:E.P.follows .mixedOrders=true){l:cw}{c:Code}(I:Nat->St)(G:Nat->ak)(m:Nat)(L:l.head?=some c)(K:ef c=true)(C:∀k,k<=m->∀(w:World)(ids:List (Nat×Nat))(M:Mem)(num:Nat×Nat->Nat),VC ⟨E.P,E.sp,⟨w,ids,E.gl,M,num,(I k).next⟩⟩ ((aO c).take 2) (I k) (λd=>d.le (cS E) (I k) (k<m)) (λ_=>False) (λi d=>match beq i (cH c)with|true=>d.le (cS E) (I k) (k=m)|false=>False))(D:∀k,k<m->aR E.P ((aO c).drop 2) (GH E N (I k) (G k)) (GH E N (I (k+1)) (G (k+1))) r (λ_ _ _=>False))(F:aR E.P l.tail (GH E N (I m) (G m)) n r x):aR E.P l (GH E N (I 0) (G 0)) n r x:=by
 refine ym (β:=Unit) (λk a w=>k<=m/\GH E N (I k) (G k) a w) (λk=>m-k) (λ_ a w=>GH E N (I m) (G m) a w) L K (λa w h=>⟨0,aY _,h⟩) (λk=>?_) (λ_=>F);rw[<-ff 2 (aO c)];refine m8 (λa w=>k<m/\GH E N (I k) (G k) a w) ?_ ?_
 ·intro a w Q f s t y;obtain⟨g,o⟩:=f;refine lY q O _ (λ_=>False) (λi d=>match beq i (cH c)with|true=>d.le (cS E) (I k) (k=m)|false=>False) (C k g) (λd a w h f=>?_) (λ_ _ _ h _=>h.elim) (λi d a w h f=>?_) a w Q o s t y;exact f.le h
  ·revert h;cases beq i (cH c)with
   |true=>intro h;obtain⟨e,p⟩:=f.le h;exact⟨(),e▸p⟩
   |false=>simp_all
 intro a w Q f s t y;obtain⟨g,o⟩:=f;exact D k g a w Q o (λu A j=>s u A ⟨k+1,⟨g,j⟩,aa⟩) t (λi u A j=>j.elim)
theorem LV{k b:aI}(a:aI.le k b){c m:ax}{f:cb}(n:∀v,c.rel k v->m.rel b v):∀(pre:cb)(l:bn),aH k (pre++c::f) l->aH b (pre++m::f) l
 |[],l,⟨g,h,e,i,j⟩=>⟨g,h,e,n g i,fi a j⟩
 |d::pre,l,⟨g,h,e,i,j⟩=>⟨g,h,e,ax.gM a i,LV a n pre h j⟩
theorem ahb{E:Env}{N:Nat}{n r:St->Prop}{x:Nat->St->Prop}{l:cw}{t:St}(pre:cb)(T id k c:Nat)(e:Kd)(I:List (a6 e))(cell:ax)(G:cb)(y7:T≠id)(X:∀(q:aI)(vs:bn),cell.rel q vs->I.length=k/\eQ (Rd q.M e) I vs)(hS:t.B T=some (pre++.sl id 0 0 k c::G))(hB:t.B id=some [cell])(hx:I.length=k)(R:Tr E N l ⟨t.aW,(id,[])::(T,pre++.ro e I::G)::t.bQ,t.next⟩ n r x):Tr E N l t n r x:=by
 classical
 intro a w Q hh hn hr hx;refine R a w Q ?_ hn hr hx;obtain⟨x8,q,d,x7⟩:=hh;refine⟨x8,?_⟩;have x3:∀i cs,St.B ⟨t.aW,(id,[])::(T,pre++.ro e I::G)::t.bQ,t.next⟩ i=some cs->cs≠[]->i≠id/\((T≠i/\t.B i=some cs)\/T=i/\cs=pre++.ro e I::G):=by
  intro i cs h f;simp[St.B,eA]at h;cases H:beq id i with
  |true=>rw[H]at h;simp only[cd]at h;exact absurd h.symm f
  |false=>
   rw[H]at h;refine⟨λe=>(by subst e;rw[lh]at H;cases H),?_⟩;cases W:beq T i with
   |true=>simp_all
   |false=>rw[W]at h;exact .inl ⟨λe=>(by subst e;rw[lh]at W;cases W),h⟩
 have z:∀i cs,St.B ⟨t.aW,(id,[])::(T,pre++.ro e I::G)::t.bQ,t.next⟩ i=some cs->cs≠[]->i≠id/\∃F,t.B i=some F/\F≠[]:=by intro i cs h f;obtain⟨C,⟨_,R⟩|⟨rfl,_⟩⟩:=x3 i cs h f;exact⟨C,_,R,f⟩;exact⟨C,_,hS,az⟩
 have U:∀(s:aI),aI.le q s->(∀v,(ax.sl id 0 0 k c).rel q v->(ax.ro e I).rel s v)->∀i cs,St.B ⟨t.aW,(id,[])::(T,pre++.ro e I::G)::t.bQ,t.next⟩ i=some cs->cs≠[]->∀b,s i=some b->q i=some b->∃l,cN w b (q.n i) l/\aH s cs l:=by intro s K hc i cs h f b _ H;obtain⟨_,⟨_,R⟩|⟨rfl,rfl⟩⟩:=x3 i cs h f;obtain⟨l,C,V⟩:=d.bQ i cs R f b H;exact⟨l,C,fi K V⟩;obtain⟨l,C,V⟩:=d.bQ _ _ hS az b H;exact⟨l,C,LV K hc pre l V⟩
 by_cases x6:∃b,q id=some b
 ·obtain⟨b,H⟩:=x6;obtain⟨l0,x4,v1,v2,e1,y2,e2⟩:=d.bQ id _ hB az b H;obtain⟨y6,y0⟩:=X q v1 y2;have e2:v2=[]:=e2;subst e2;rw[bF]at e1;subst e1;have x0:q.M b=none:=by
   cases A:q.M b with
   |none=>rfl
   |some l=>exact absurd H ((d.mem b l A).1 id _ hB az)
  obtain⟨O,el,fr,Z,y4,_⟩:=x4;have x9:=λhn=>mu Z hn;let s:aI:=⟨q.m,q.n,λj=>if j=b then cR w b else q.M j⟩;have D:Mem.le q.M s.M:=by intro j l hl;show(if j=b then cR w b else q.M j)=some l;by_cases e:j=b;subst e;rw[x0]at hl;cases hl;rw[ai e];exact hl
  have K:aI.le q s:=⟨λ_ _ h=>⟨h,rfl⟩,D⟩;have y1:l0++O≠[]->s.M b=some (l0++O):=λhn=>by show(if b=b then cR w b else _)=_;rw[ah rfl,x9 hn]
  have Y:∀v,(ax.sl id 0 0 k c).rel q v->(ax.ro e I).rel s v:=by
   intro v P;rcases P with ⟨hz,P⟩|⟨j,o,x2,p,x5,ho,y5,P⟩;have x1:I=[]:=eL aa;subst x1;exact .inl ⟨rfl,none,0,P,λ_=>rfl⟩
   ·have eb:j=b:=by rw[H]at p;simpa using p.symm
    subst eb;rw[P];rcases ho with rfl|rfl;have hl:=iu (λ_ _=>cK) y0;refine .inr ⟨j,0+0*c,x2,by rw[y6],aa,l0++O,y1,by rw[bA,hl];omega,?_⟩;rw[show 0+0*c=0 by omega,jU,<-hl,px rfl];exact fe (λ_ _ h=>dT D h) y0;exact .inl ⟨eL aa,some ⟨j,o,none⟩,0,by rw[show k=0 by omega],λh=>by cases h⟩
  refine⟨s,{d with aW:=λu=>SV.gM K (d.aW u),bQ:=?_,inj:=?_,mem:=?_,bJ:=?_,glob:=?_,bound:=d.bound,init:=d.init,memle:=λj l' p=>D j l' (d.memle j l' p)},x7⟩;intro i cs h f j p;exact U s K Y i cs h f j p p;intro i i' cs F j h f h' L g1 g2;obtain⟨_,d1,C,n1⟩:=z i cs h f;obtain⟨_,d2,R,n2⟩:=z i' F h' L;exact d.inj i i' d1 d2 j C n1 R n2 g1 g2
  ·intro j l A;have A:(if j=b then cR w b else q.M j)=some l:=A;by_cases e:j=b
   ·subst e;rw[ah rfl]at A
    refine⟨λi cs h f hi=>by
     obtain⟨g0,d1,g1,g2⟩:=z i cs h f
     exact g0 (d.inj i id d1 _ j g1 g2 hB az hi H),?_⟩
    obtain⟨el,fr,hh⟩:=jA A;exact⟨el,fr,hh⟩
   ·rw[ai e]at A;obtain⟨C,V⟩:=d.mem j l A
    exact⟨λi cs h f=>by
     obtain⟨_,d1,g1,g2⟩:=z i cs h f
     exact C i d1 g1 g2,V⟩
  intro j l A y3;have A:(if j=b then cR w b else q.M j)=some l:=A;by_cases e:j=b;subst e;rcases (d.bound id j H).1 with h|h;omega;exact .inl h;rw[ai e]at A;exact d.bJ j l A y3;intro g κ y hg;exact l7 D (d.glob g κ y hg)
 ·have Y:∀v,(ax.sl id 0 0 k c).rel q v->(ax.ro e I).rel q v:=by
   intro v P;rcases P with ⟨hz,P⟩|⟨j,o,x2,p,x5,ho,y5,P⟩;have x1:I=[]:=eL aa;subst x1;exact .inl ⟨rfl,none,0,P,λ_=>rfl⟩;exact absurd ⟨j,p⟩ x6
  refine⟨q,{d with bQ:=?_,inj:=?_,mem:=?_},x7⟩;intro i cs h f j p;exact U q (aI.le_refl q) Y i cs h f j p p;intro i i' cs F j h f h' L g1 g2;obtain⟨_,d1,C,n1⟩:=z i cs h f;obtain⟨_,d2,R,n2⟩:=z i' F h' L;exact d.inj i i' d1 d2 j C n1 R n2 g1 g2
  ·intro b l A;obtain⟨C,V⟩:=d.mem b l A
   exact⟨λi cs h f=>by
    obtain⟨_,d1,g1,g2⟩:=z i cs h f
    exact C i d1 g1 g2,V⟩
theorem vb{E:cJ}{N:Nat}{n r:aA}{x:Nat->aA}{l:cw}{b:St}{G:ak}(pre:cb)(i id k c:Nat)(e:Kd)(g:List (a6 e))(cell:ax)(d:cb)(j:i≠id)(f:∀(p:aI)(o:bn),cell.rel p o->g.length=k/\eQ (Rd p.M e) g o)(u:b.B i=some (pre++.sl id 0 0 k c::d))(t:b.B id=some [cell])(z:g.length=k)(s:aR E.P l (GH E N ⟨b.aW,(id,[])::(i,pre++.ro e g::d)::b.bQ,b.next⟩ G) n r x):aR E.P l (GH E N b G) n r x:=by
 refine m8 (l1:=[]) (GH E N ⟨b.aW,(id,[])::(i,pre++.ro e g::d)::b.bQ,b.next⟩ G) ?_ s;refine yn (λm=>m=⟨b.aW,(id,[])::(i,pre++.ro e g::d)::b.bQ,b.next⟩) (λ_=>False) (λ_ _=>False) (λw ids M num=>?_) (λm a w e y=>e▸y) (λ_ _ _ h _=>h.elim) (λ_ _ _ _ h _=>h.elim);exact ahb pre i id k c e g cell d j f u t z (l5 rfl)
theorem OK{E:cJ}{N:Nat}{n r:aA}{x:Nat->aA}(u:aS E.P E.sp)(O:E.P.follows .mixedOrders=true){l:cw}{c:Code}(I:Nat->St)(G:Nat->ak)(J:Nat->Prop)(m:Nat)(L:l.head?=some c)(H:ef c=true)(A:J 0)(C:∀k,k<=m->∀(w:World)(ids:List (Nat×Nat))(M:Mem)(num:Nat×Nat->Nat),VC ⟨E.P,E.sp,⟨w,ids,E.gl,M,num,(I k).next⟩⟩ ((aO c).take 2) (I k) (λb=>b.le (cS E) (I k) (k<m)) (λ_=>False) (λi b=>match beq i (cH c)with|true=>b.le (cS E) (I k) (k=m)|false=>False))(D:∀k,k<m->J k->aR E.P ((aO c).drop 2) (GH E N (I k) (G k)) (λa w=>J (k+1)/\GH E N (I (k+1)) (G (k+1)) a w) r (λ_ _ _=>False))(F:J m->aR E.P l.tail (GH E N (I m) (G m)) n r x):aR E.P l (GH E N (I 0) (G 0)) n r x:=by
 refine ym (β:=Unit) (λk a w=>(k<=m/\J k)/\GH E N (I k) (G k) a w) (λk=>m-k) (λ_ a w=>J m/\GH E N (I m) (G m) a w) L H (λa w h=>⟨0,⟨aY _,A⟩,h⟩) (λk=>?_) (λ_=>?_)
 ·rw[<-ff 2 (aO c)];refine m8 (λa w=>(k<m/\J k)/\GH E N (I k) (G k) a w) ?_ ?_
  ·intro a w Q d j o s;obtain⟨g,t⟩:=d;refine lY u O _ (λ_=>False) (λi b=>match beq i (cH c)with|true=>b.le (cS E) (I k) (k=m)|false=>False) (C k g.1) (λb a w h d=>?_) (λ_ _ _ h _=>h.elim) (λi b a w h d=>?_) a w Q t j o s;obtain⟨e,f⟩:=d.le h;exact⟨⟨e,g.2⟩,f⟩
   ·revert h;cases beq i (cH c)with
    |true=>intro h;obtain⟨e,f⟩:=d.le h;exact⟨(),e▸g.2,e▸f⟩
    |false=>simp_all
  intro a w Q d j o s;obtain⟨⟨g,K⟩,t⟩:=d;exact D k g K a w Q t (λy z p=>j y z ⟨k+1,⟨⟨g,p.1⟩,p.2⟩,aa⟩) o (λi y z p=>p.elim)
 intro a w Q d j o s;exact F d.1 a w Q d.2 j o s
theorem U5{E:cJ}{N:Nat}{n r:aA}{x:Nat->aA}{l:cw}{e:Array Oper}{i:Nat}{d:St}{bl:List cb}{id p:Nat}{g:ak}(K L:List Nat)(t:E.pins=[])(j:(L.all λi=> !dQ i K)=true)(a:(iA d.B K&&iA d.B L&&mN L&&zM d.B L)=true)(q:L[0]?=some id)(k:((L.map λi=>(uh d.B i).map (ax.ui (pos L))).map λcs=>cs.map Ja)=bl)(f:Nat)(o:St) (m:(mA d K id p).le (cS E) o True) (h:lV E.P e i l (GH E N o (ak.obj bl p g)) n r x):lV E.P e i l (GH {E with pins:=[(id,p)],ptop:=f} N d g) n r x:=
 jx (λ_ _ s=>((qV K L t j a q k f s).le m).2) h
theorem zO{e:IntKind}{a:LI}{k:Nat}(f:aI)(d:bn)(h:(ax.ints e k a).rel f d):a.length=k/\eQ (Rd f.M (.int e)) a d:=by
 obtain⟨b,rfl⟩:=h;refine⟨b,?_⟩;clear b;induction a with
 |nil=>rfl
 |cons y a g=>exact⟨[_],_,rfl,rfl,g⟩
end Go.Eng.Ob
/- The bf: what comes of a message, as an object; r5. -/
namespace Go.Proofs.YtofofalgjibokaaGreatDoor
namespace bf
open Go.Eng.Ob Go.Proofs.Tryz
open Go.Hbn(dd a8 ez)
abbrev ig:Kd:=.pair (.int .i64) (.pair (.int .i64) (.pair (.int .i64) (.pair (.int .i64) (.pair (.int .i64) (.pair (.int .i64) (.sl (.int .u8)))))))
abbrev eU:Kd:=.pair (.int .i64) (.pair (.int .i64) (.sl (.int .u8)))
abbrev Ux(n k:Nat)(ms:List aP)(a:List Hbm.Told):List cb:=[[.sl 1 0 0 n 7,.sl 2 0 0 k 3],[.row ig n ms],[.row eU k a]]
def fD(a:Nat)(ms:List aP)(b:List Hbm.Told):ak:=ak.obj (Ux ms.length b.length ms b) a ak.none
theorem AX(a n k:Nat)(ms:List aP)(b:List Hbm.Told)(d:n=ms.length)(c:k=b.length)(R:ak):ak.obj (Ux n k ms b) a R=ak.sep R (fD a ms b):=by subst d c;rw[bZ,gf];rfl
theorem XU(H:a8)(R:ak):ak.sep (bX H) R=ak.obj [dW H.me H.mem H.mp] H.p (ak.sep (ak.sep (gR H.mp (iW H.aX)) (gU H.aX)) R):=by rw[bZ];unfold bX jF;ac_rfl
def vO(rec:a8->aP->ez)(K:Nat):Prop:=∀H m,(rec H m).2.1.length<=K/\(rec H m).2.2.length<=K
theorem Ez{rec:a8->aP->ez}{K:Nat}(h:vO rec K):vO (Hbn.iT rec) (2*K+2):=by
 have b:∀H i m,(Hbn.iF H i m).2.1.length<=0/\(Hbn.iF H i m).2.2.length<=1:=by intro H i m;unfold Hbn.iF;split<;>simp
 have a:∀H i m,(Hbn.eR rec H i m).2.1.length<=K+1/\(Hbn.eR rec H i m).2.2.length<=K+1:=by intro H i m;unfold Hbn.eR;split;have c:=h (H.set i {H.get i with ready:=true}) (Hbn.own (H.set i {H.get i with ready:=true}) 3 m);have d:=b ((Hbn.mS rec (H.set i {H.get i with ready:=true}) 3 m).1) i m;unfold Hbn.andThen Hbn.mS Hbn.plus at *;simp only[bA,cP,jj]at *;omega;have:=b H i m;omega
 intro H m;unfold Hbn.iT Hbn.lq;split;split;split;have c:=h (H.set (H.at m) {H.get (H.at m)with eO:=true}) (Hbn.own (H.set (H.at m) {H.get (H.at m)with eO:=true}) 2 m);have d:=a ((Hbn.mS rec (H.set (H.at m) {H.get (H.at m)with eO:=true}) 2 m).1) (H.at m) m;unfold Hbn.andThen Hbn.mS Hbn.plus at *;simp only[bA,cP,jj]at *;omega;have:=a H (H.at m) m;omega;split;split;simp;have:=a (H.set (H.at m) {H.get (H.at m)with ech:=(H.get (H.at m)).ech++[(m.aK,m.body)]}) (H.at m) m;omega;split;simp;have:=a (H.set (H.at m) {H.get (H.at m)with rdy:=(H.get (H.at m)).rdy++[(m.aK,m.body)]}) (H.at m) m;omega;simp
structure HIn where
 H:a8
 m:aP
 a:Nat
 ms:List aP
 ts:List Hbm.Told
def vL(gl:dF)(rec:a8->aP->ez)(b:a8->aP->Prop)(c:Nat):Prop:=
 fk au gl 81 (λz:HIn=>[aT z.H.p,mf z.m,aT z.a]) (λz=>ea z.H/\gD z.H.mem z.m/\z.H.at z.m<z.H.aX.length/\z.ms.length+c<=1000/\z.ts.length+c<=1000/\b z.H z.m)
  (λz=>ak.sep (bX z.H) (fD z.a z.ms z.ts)) (λ_ (_:Unit)=>.tup []) (λz _=>ak.sep (bX (rec z.H z.m).1) (fD z.a (z.ms++(rec z.H z.m).2.1) (z.ts++(rec z.H z.m).2.2))) (λ_ _=>True)
structure SIn where
 H:a8
 k:Int
 m:aP
 a:Nat
 ms:List aP
 ts:List Hbm.Told
def akW(gl:dF)(rec:a8->aP->ez)(b:a8->aP->Prop)(c:Nat):Prop:=
 fk au gl 123 (λz:SIn=>[aT z.H.p,sJ z.k,mf z.m,aT z.a]) (λz=>ea z.H/\gD z.H.mem z.m/\z.H.at z.m<z.H.aX.length/\(z.k=2\/z.k=3)/\z.ms.length+(c+1)<=1000/\z.ts.length+c<=1000/\b z.H (Hbn.own z.H z.k z.m))
  (λz=>ak.sep (bX z.H) (fD z.a z.ms z.ts)) (λ_ (_:Unit)=>.tup []) (λz _=>ak.sep (bX (Hbn.mS rec z.H z.k z.m).1) (fD z.a (z.ms++(Hbn.mS rec z.H z.k z.m).2.1) (z.ts++(Hbn.mS rec z.H z.k z.m).2.2))) (λ_ _=>True)
theorem pG:aF au 81 f81:=ek
theorem sZ:aF au 123 f123:=ek
abbrev uL:Func:=f123
def syA(p a:Nat)(k:Int)(m:aP):St:=ay uL.ntmps 8 [(0,aT p),(1,sJ k),(3,aT a),(6,al 0 0)] [(0,df m)]
def syB(a:Nat)(k:Int)(m:aP)(b:Int)(mem:LI)(c:Nat):St:=ay uL.ntmps 9 [(0,al 8 0),(1,sJ k),(3,aT a),(6,al 0 0)] [(8,dW b mem c),(0,df m)]
abbrev QK(a k:Int)(m:aP):aP:=(k,0,a,m.bE,m.bo,0,m.body)
def syC(a:Nat)(k:Int)(m:aP)(b:Int)(mem:LI)(c:Nat):St:=ay uL.ntmps 129 [(0,al 8 0),(3,aT a),(8,al 113 0)] [(8,dW b mem c),(113,df (QK b k m))]
def TU(p a:Nat)(m:aP):St:=ay uL.ntmps 129 [(0,aT p),(3,aT a),(8,al 113 0)] [(113,df m)]
def syE(p:Nat)(m:aP)(n k:Nat)(ms:List aP)(a:List Hbm.Told):St:=ay uL.ntmps 132 [(0,aT p),(3,al 129 0),(8,al 113 0)] [(113,df m),(129,[.sl 130 0 0 n 7,.sl 131 0 0 k 3]),(130,[.row ig n ms]),(131,[.row eU k a])]
def akG(p:Nat)(m:aP)(n k:Nat)(ms:List aP)(a:List Hbm.Told):St:=ay uL.ntmps 220 [(0,aT p),(3,al 129 0),(8,al 113 0)] [(113,df m),(129,[.sl 188 0 0 (n+1) 7,.sl 131 0 0 k 3]),(188,[.row ig (n+1) ms]),(131,[.row eU k a])]
abbrev acG:=bw [sF]
theorem BQ:aS au acG:=aV wM bY
section
variable (gl:dF)[W3]
abbrev syX:cJ:=mO au acG gl
abbrev Lw:=GH (syX gl) uL.ntmps
theorem alS(p a g:Nat)(c:Int)(mem:LI)(k:Int)(m:aP)(i:m.body.length<1048576)(R:ak){n r:aA}{x:Nat->aA}(h:aR au ((aq uL).drop 2) (Lw gl (TU p a (QK c k m)) (ak.obj [dW c mem g] p R)) n r x):
  aR au (aq uL) (Lw gl (lK uL [aT p,sJ k,mf m,aT a] [] 0) (ak.obj [dW c mem g] p R)) n r x:=by
 obtain⟨mk,b,d,f,mt,e,mb⟩:=m;refine gcd BQ 1 (λ_=>()) (λ_=>syA p a k (mk,b,d,f,mt,e,mb)) (λ_=>True) ?_ (λ_ _=>?_);intros;refine av (X:=((syA p a k (mk,b,d,f,mt,e,mb)).aj True)) ab ?_;exact aw trivial;refine jJ [0] (syB a k (mk,b,d,f,mt,e,mb) c mem g) ?_;refine gcd BQ 1 (λ_=>()) (λ_=>syC a k (mk,b,d,f,mt,e,mb) c mem g) (λ_=>True) ?_ (λ_ _=>?_);intros;refine av (X:=(re (mb,())/\(syC a k (mk,b,d,f,mt,e,mb) c mem g).aj True)) ab ?_;exact⟨i,aw trivial⟩;exact ma (E:=syX gl) [113] [8] rfl ab ab rfl ab 9 (TU p a (QK c k (mk,b,d,f,mt,e,mb))) (aB ab ab trivial) h
theorem alT(p a:Nat)(m:aP)(ms:List aP)(c:List Hbm.Told)(j:ms.length<1000)(G:ak){n r:aA}{x:Nat->aA}(h:aR au ((aq uL).drop 3) (Lw gl (TU p a m) (ak.sep G (fD a (ms++[m]) c))) n r x):
  aR au ((aq uL).drop 2) (Lw gl (TU p a m) (ak.sep G (fD a ms c))) n r x:=by
 rw[<-AX a ms.length c.length ms c rfl rfl G];rw[<-AX a (ms.length+1) c.length (ms++[m]) c az rfl G]at h;obtain⟨mk,b,d,f,mt,e,mb⟩:=m;refine jJ [3] (syE p (mk,b,d,f,mt,e,mb) ms.length c.length ms c) ?_;refine gcd BQ 1 (λi=>dO ig 188 i) (λq=>akG p (mk,b,d,f,mt,e,mb) ms.length c.length q c) (λq=>q=ms++[(mk,b,d,f,mt,e,mb)]) ?_ (λq g=>?_);intros;refine av (X:=(0+1<=1/\ms.length<=ms.length/\(ms.length+1)*72<=2^47/\ms.length+1<=2^62/\(akG p (mk,b,d,f,mt,e,mb) ms.length c.length (take ms.length ms++take 1 [(mk,b,d,f,mt,e,mb)]) c).aj (take ms.length ms++take 1 [(mk,b,d,f,mt,e,mb)]=ms++[(mk,b,d,f,mt,e,mb)]))) ab ?_;refine⟨ae,aQ _,aa,aa,aw ?_⟩;rw[bg];rfl;subst g;exact ma (E:=syX gl) [113] [129,188,131] rfl ab ab rfl ab 130 (TU p a (mk,b,d,f,mt,e,mb)) (aB ab ab trivial) h
def syG(p a:Nat)(m:aP):St:=ay uL.ntmps 129 [(32,aT p),(33,mf m),(34,aT a)] []
theorem alU(p a:Nat)(m:aP)(G:ak){n r:aA}{x:Nat->aA}(h:lV au (bS (ar (aq uL) 3)) 3 ((aq uL).drop 4) (Lw gl (syG p a m) G) n r x):
  aR au ((aq uL).drop 3) (Lw gl (TU p a m) G) n r x:=by
 obtain⟨mk,b,c,e,mt,d,mb⟩:=m;refine eX 3 (bS (ar (aq uL) 3)) ?_;refine iS BQ 3 (λ_=>()) (λ_=>syG p a (mk,b,c,e,mt,d,mb)) (λ_=>True) ?_ (λ_ _=>h);intros;refine av (X:=((syG p a (mk,b,c,e,mt,d,mb)).aj True)) ab ?_;exact aw trivial
end
theorem Y4{gl:dF}{rec:a8->aP->ez}{h:a8->aP->Prop}{c:Nat}(i:vL gl rec h c):akW gl rec h c:=by refine dD (sp:=acG) sZ ab (λz=>by show 4<=uL.ntmps;exact Odt ab) (λz _=>rfl) ?_;rintro⟨H,k,m,a,ms,f⟩ ⟨g,e,j,l,d,b,n⟩ _;have d:ms.length+(c+1)<=1000:=d;have b:f.length+c<=1000:=b;have e:gD H.mem m:=e;have o:=e.bo;refine a7 (XU H _) ?_;refine alS gl H.p a H.mp H.me H.mem k m aa _ ?_;refine a7 (XU H _).symm ?_;refine alT gl H.p a (QK H.me k m) ms f aa _ ?_;refine alU gl H.p a (QK H.me k m) _ ?_;refine ju (E:=syX gl) i ⟨H,QK H.me k m,a,ms++[QK H.me k m],f⟩ ⟨g,e.own g.me l,j,by simp only[bA,cP,jj];omega,b,n⟩ pG (λ_ _=>?_);refine eK ?_;refine iU BQ ao (.tup []) ?_ ⟨(),trivial,bR _,?_⟩;intros;refine av (X:=(SV.tup []=SV.tup [])) ab ?_;rfl;show ak.sep (bX (rec H (Hbn.own H k m)).1) (fD a (ms++[Hbn.own H k m]++(rec H (Hbn.own H k m)).2.1) (f++(rec H (Hbn.own H k m)).2.2))=_;rw[cZ];rfl
end bf
end Go.Proofs.YtofofalgjibokaaGreatDoor
/- The bf: conclude, its parts. -/
namespace Go.Proofs.YtofofalgjibokaaGreatDoor
namespace bf
open Go.Eng.Ob
open Go.Hbn(dd a8 ez)
def VT(H:a8)(i:Nat)(A:ak):ak:=ak.sep (jF H.p H.me H.mem H.mp) (ak.sep (gR H.mp (iW H.aX)) (ak.sep (gU (H.aX.eraseIdx i)) A))
def M3(t:dd)(R:ak):ak:=ak.obj [cU t.eO t.ready t.told t.e t.r] t.ptr (ak.sep (cD t.r t.rdy) (ak.sep (cD t.e t.ech) R))
theorem abj{H:a8}{i:Nat}(a:i<H.aX.length){t:dd}(e:tid t=tid (H.get i)):iW (H.set i t).aX=iW H.aX:=by have:=congrArg (List.map λq:(Int×Int)×eI=>(q.1,q.2.1)) (lU a e).ids;simp only[fu]at this;exact this
theorem vz{H:a8}{i:Nat}(a:i<H.aX.length){t:dd}(e:tid t=tid (H.get i))(A:ak):ak.sep (bX (H.set i t)) A=M3 t (VT H i A):=by unfold bX;rw[abj a e];show ak.sep (ak.sep (jF H.p H.me H.mem H.mp) (ak.sep (gR H.mp (iW H.aX)) (gU (H.aX.set i t)))) A=_;rw[JU _ _ _ a];unfold VT JT M3;rw[bZ [cU t.eO t.ready t.told t.e t.r] t.ptr (ak.sep (cD t.r t.rdy) (cD t.e t.ech)),bZ [cU t.eO t.ready t.told t.e t.r] t.ptr (ak.sep (cD t.r t.rdy) (ak.sep (cD t.e t.ech) _))];ac_rfl
theorem tB{H:a8}{i:Nat}(a:i<H.aX.length)(A:ak):ak.sep (bX H) A=M3 (H.get i) (VT H i A):=by
 rw[<-vz a rfl A];have:H.set i (H.get i)=H:=by
  unfold Hbn.a8.set;have h:=get_at a
  rw[show H.aX.set i (H.get i)=H.aX from by
   rw[bO a]at h
   rw[<-nO h];exact List.set_getElem_self a]
 rw[this]
theorem D7:aF au 125 Tryz.f125:=ek
abbrev fX:Func:=Tryz.f125
def cnA(p b a:Nat)(m:aP):St:=ay fX.ntmps 8 [(0,aT p),(1,aT b),(3,aT a),(6,al 0 0)] [(0,df m)]
def anV(p b a:Nat)(m:aP):St:=ay fX.ntmps 8 [(0,aT p),(1,aT b),(3,aT a),(6,al 0 0),(10,aT p)] [(0,df m)]
def cnB(p b a:Nat)(m:aP)(f:Int):St:=ay fX.ntmps 8 [(0,aT p),(1,aT b),(3,aT a),(6,al 0 0),(8,sJ f)] [(0,df m)]
def cnC(d a:Nat)(m:aP)(f:Int)(b:Int)(mem:LI)(c:Nat):St:=ay fX.ntmps 9 [(0,al 8 0),(1,aT d),(3,aT a),(6,al 0 0),(8,sJ f)] [(8,dW b mem c),(0,df m)]
def cnD(e a:Nat)(m:aP)(f:Int)(c:Int)(mem:LI)(d:Nat)(b:Int):St:=ay fX.ntmps 9 [(0,al 8 0),(1,aT e),(3,aT a),(6,al 0 0),(8,sJ f),(9,sJ b)] [(8,dW c mem d),(0,df m)]
def Gi(p c a:Nat)(m:aP)(f b:Int):St:=ay fX.ntmps 8 [(0,aT p),(1,aT c),(3,aT a),(6,al 0 0),(8,sJ f),(9,sJ b)] [(0,df m)]
abbrev Z4:=bw [sF]
theorem hA:aS au Z4:=aV wM bY
section
variable (gl:dF)[W3]
abbrev lW:cJ:=mO au Z4 gl
abbrev rW:=GH (lW gl) fX.ntmps
theorem ak5(p c a g:Nat)(d:Int)(mem:LI)(m:aP)(k:mem≠[])(l:mem.length<1000)(R:ak){n r:aA}{x:Nat->aA}(h:aR au ((aq fX).drop 3) (rW gl (Gi p c a m (((mem.length:Int)-1)/3) (((mem.length:Int)+((mem.length:Int)-1)/3)/2)) (ak.sep (jF p d mem g) R)) n r x):
  aR au (aq fX) (rW gl (lK fX [aT p,aT c,mf m,aT a] [] 0) (ak.sep (jF p d mem g) R)) n r x:=by
 obtain⟨mk,b,f,j,mt,i,mb⟩:=m;have u:mem.length≠0:=λe=>k (eL e);refine e6 hA 1 (cnA p c a (mk,b,f,j,mt,i,mb)) ?_;refine eX 1 (bS (ar (aq fX) 1)) ?_;refine eG hA 1 (anV p c a (mk,b,f,j,mt,i,mb)) ?_;refine ju (E:=lW gl) (cT (λ_=>R) (agf gl)) (p,d,mem,g) ⟨k,l⟩ Oh (λ_ _=>?_);refine eG hA 3 (cnB p c a (mk,b,f,j,mt,i,mb) (((mem.length:Int)-1)/3)) (eK ?_);refine a7 (bZ _ _ _).symm ?_;refine jJ [0] (cnC c a (mk,b,f,j,mt,i,mb) (((mem.length:Int)-1)/3) d mem g) ?_;refine gcd hA 1 (λs=>bL (.int .i64) 9 s) (λq=>cnD c a (mk,b,f,j,mt,i,mb) (((mem.length:Int)-1)/3) d mem g q) (λq=>q=((mem.length:Int)+((mem.length:Int)-1)/3)/2) ?_ (λq o=>?_);intros;refine @av (((2:Int)=0->False)/\(cnD c a (mk,b,f,j,mt,i,mb) (((mem.length:Int)-1)/3) d mem g (IntKind.i64.wrap ((IntKind.i64.wrap ((mem.length:Int)+((mem.length:Int)-1)/3)).tdiv 2))).aj (IntKind.i64.wrap ((IntKind.i64.wrap ((mem.length:Int)+((mem.length:Int)-1)/3)).tdiv 2)=((mem.length:Int)+((mem.length:Int)-(1:a6 (Kd.int IntKind.i64)))/(3:a6 (Kd.int IntKind.i64)))/(2:a6 (Kd.int IntKind.i64)))) _ ?_ ?_;kernel_rfl;refine⟨ae,aw ?_⟩;rw[bC (a:=(mem.length:Int)+((mem.length:Int)-1)/3) aa aa,uR aa];exact bC aa aa;subst o;refine gQ (E:=lW gl) (bl:=[dW d mem g]) [0] [8] 9 (Gi p c a (mk,b,f,j,mt,i,mb) (((mem.length:Int)-1)/3) (((mem.length:Int)+((mem.length:Int)-1)/3)/2)) ?_;exact a7 (E:=lW gl) (bZ _ _ _) h
abbrev JX(b rd d:Bool)(e r:Nat):cb:=cU b rd d e r
def R5(p a:Nat)(m:aP)(f c:Int)(b rd d:Bool)(e r:Nat)(q:SV):St:=ay fX.ntmps 9 [(0,aT p),(1,al 8 0),(3,aT a),(6,al 0 0),(8,sJ f),(9,sJ c),(25,q)] [(8,cU b rd d e r),(0,df m)]
def ahG(p a:Nat)(m:aP)(f c:Int)(b rd d:Bool)(e r:Nat):St:=ay fX.ntmps 9 [(0,aT p),(1,al 8 0),(3,aT a),(6,al 0 0),(8,sJ f),(9,sJ c),(25,ag .T),(29,pP e),(31,nF m.body),(33,sJ c)] [(8,cU b rd d e r),(0,df m)]
def N5(p a:Nat)(m:aP)(f c:Int)(b rd d:Bool)(e r:Nat)(q:SV):St:=ay fX.ntmps 9 [(0,aT p),(1,al 8 0),(3,aT a),(6,al 0 0),(8,sJ f),(9,sJ c),(25,ag .T),(35,q)] [(8,cU b rd d e r),(0,df m)]
def ahH(p a:Nat)(m:aP)(f c:Int)(b rd d:Bool)(e r:Nat):St:=ay fX.ntmps 9 [(0,aT p),(1,al 8 0),(3,aT a),(6,al 0 0),(8,sJ f),(9,sJ c),(25,ag .T),(35,ag .F),(39,pP r),(41,nF m.body),(43,sJ f)] [(8,cU b rd d e r),(0,df m)]
def G0(p a:Nat)(m:aP)(f c:Int)(b rd d:Bool)(e r:Nat)(q:SV):St:=ay fX.ntmps 9 [(0,aT p),(1,al 8 0),(3,aT a),(6,al 0 0),(8,sJ f),(9,sJ c),(46,q)] [(8,cU b rd d e r),(0,df m)]
def cnU(p c a:Nat)(m:aP)(f b:Int)(q:SV):St:=ay fX.ntmps 8 [(0,aT p),(1,aT c),(3,aT a),(6,al 0 0),(8,sJ f),(9,sJ b),(46,q)] [(0,df m)]
abbrev pi3:List Nat:=[0,1,2,3,4,5,13,6,7,8,9,10,11,12,14,15,23,16,17,18,19,20,21,22,24,25,26]
theorem ak6(p u a:Nat)(m:aP)(f i:Int)(b rd j:Bool)(e r:Nat)(d g:Hbm.gq)(I:pX d)(L:pX g)(G:Bs m.body)(H:m.body.length<1048576)(R:ak){n D:aA}{x:Nat->aA}(h:∀q,q=(!rd&&(decide (Hbm.gP d m.body>i)||decide (Hbm.gP g m.body>f)))->aR au ((aq fX).drop 4) (rW gl (cnU p u a m f i (aD q)) (ak.obj [cU b rd j e r] u (ak.sep (cD r g) (ak.sep (cD e d) R)))) n D x):
  aR au ((aq fX).drop 3) (rW gl (Gi p u a m f i) (ak.obj [cU b rd j e r] u (ak.sep (cD r g) (ak.sep (cD e d) R)))) n D x:=by
 obtain⟨mk,c,k,o,mt,l,mb⟩:=m;have w:∀q s,dE s (aD q)->q=(!rd&&(decide (Hbm.gP d mb>i)||decide (Hbm.gP g mb>f)))->aR au ((aq fX).drop 4) (GH ((lW gl).cV 8 u) fX.ntmps (G0 p a (mk,c,k,o,mt,l,mb) f i b rd j e r s) (ak.sep (cD r g) (ak.sep (cD e d) R))) n D x:=by intro q s N y;refine iy 46 (aD q) N ?_;exact ma (E:=lW gl) (bl:=[cU b rd j e r]) [0] [8] rfl ab ab rfl ab 9 (cnU p u a (mk,c,k,o,mt,l,mb) f i (aD q)) (aB ab ab trivial) (h q y)
 refine ko ao (rid:=3) (ops:=bS (ar (aq fX) 3)) ab ?_;refine Hl pi3 ab ?_;refine sn (E:=lW gl) [1] ab (R5 p a (mk,c,k,o,mt,l,mb) f i b rd j e r .junk) (aB ab ab trivial) ?_;refine fY hA 6 (λA=>bL .bool 25 A) (λq=>R5 p a (mk,c,k,o,mt,l,mb) f i b rd j e r (aD q)) (λq=>q=!rd) ae ab ?_ (λq y=>?_);intros;refine @av ((R5 p a (mk,c,k,o,mt,l,mb) f i b rd j e r (aD !rd)).aj ((!rd)=!rd)) _ ?_ ?_;kernel_rfl;exact aw rfl;cases q;refine s9 (E:=(lW gl).cV 8 u) 25 (ag .F) xu ?_;refine wE (E:=(lW gl).cV 8 u) (τ:=R5 p a (mk,c,k,o,mt,l,mb) f i b rd j e r (ag .F)) (K:=True) (aB ab ab trivial) λ_=>?_;refine jw hA (λ_=>()) (λ_=>G0 p a (mk,c,k,o,mt,l,mb) f i b rd j e r (ag .F)) (λ_=>True) (Odt ab) ?_ (λ_ _=>w false _ tu (by rw[<-y];rfl));intros;refine @av ((G0 p a (mk,c,k,o,mt,l,mb) f i b rd j e r (SV.is (TV.one ax.F))).aj True) _ ?_ ?_;kernel_rfl;exact aw trivial;refine s9 (E:=(lW gl).cV 8 u) 25 (ag .T) jc ?_;refine wE (E:=(lW gl).cV 8 u) (τ:=R5 p a (mk,c,k,o,mt,l,mb) f i b rd j e r (ag .T)) (K:=True) (aB ab ab trivial) λ_=>?_;refine yl (E:=(lW gl).cV 8 u) (sJ i) ab ab (Ab (S:=(R5 p a (mk,c,k,o,mt,l,mb) f i b rd j e r (ag .T)).S) (.tmp 9)) ?_;refine fY hA 13 (λ_=>()) (λ_=>ahG p a (mk,c,k,o,mt,l,mb) f i b rd j e r) (λ_=>True) ae ab ?_ (λ_ _=>?_);intros;refine @av ((ahG p a (mk,c,k,o,mt,l,mb) f i b rd j e r).aj True) _ ?_ ?_;kernel_rfl;exact aw trivial;refine qX (E:=(lW gl).cV 8 u) (G':=ak.sep (cD e d) (ak.sep (cD r g) R)) (by ac_rfl) ?_;refine qW (jZ (E:=(lW gl).cV 8 u) (cT (λ_=>ak.sep (cD r g) R) (Hy gl)) (e,d,mb) ⟨I,G,H⟩ ab zJ ab ab (λ_=>rfl)) ab ab (λ_ _=>?_);refine fY hA 16 (λA=>bL .bool 35 A) (λq=>N5 p a (mk,c,k,o,mt,l,mb) f i b rd j e r (aD q)) (λq=>q=decide (Hbm.gP d mb>i)) ae ab ?_ (λq z=>?_);intros;refine @av ((N5 p a (mk,c,k,o,mt,l,mb) f i b rd j e r (aD (decide (Hbm.gP d mb>i)))).aj (decide (Hbm.gP d mb>i)=decide (Hbm.gP d mb>i))) _ ?_ ?_;kernel_rfl;exact aw rfl;cases q;refine s9 (E:=(lW gl).cV 8 u) 35 (ag .F) xu ?_;refine wE (E:=(lW gl).cV 8 u) (τ:=N5 p a (mk,c,k,o,mt,l,mb) f i b rd j e r (ag .F)) (K:=True) (aB ab ab trivial) λ_=>?_;refine yl (E:=(lW gl).cV 8 u) (sJ f) ab ab (Ab (S:=(N5 p a (mk,c,k,o,mt,l,mb) f i b rd j e r (ag .F)).S) (.tmp 8)) ?_;refine fY hA 23 (λ_=>()) (λ_=>ahH p a (mk,c,k,o,mt,l,mb) f i b rd j e r) (λ_=>True) ae ab ?_ (λ_ _=>?_);intros;refine @av ((ahH p a (mk,c,k,o,mt,l,mb) f i b rd j e r).aj True) _ ?_ ?_;kernel_rfl;exact aw trivial;refine qX (E:=(lW gl).cV 8 u) (G':=ak.sep (cD r g) (ak.sep (cD e d) R)) (by show ak.sep (cD e d) (ak.sep (cD r g) R)=_;ac_rfl) ?_;refine qW (jZ (E:=(lW gl).cV 8 u) (cT (λ_=>ak.sep (cD e d) R) (Hy gl)) (r,g,mb) ⟨L,G,H⟩ ab zJ ab ab (λ_=>rfl)) ab ab (λ_ _=>?_);refine jw hA (λA=>bL .bool 46 A) (λq=>G0 p a (mk,c,k,o,mt,l,mb) f i b rd j e r (aD q)) (λq=>q=decide (Hbm.gP g mb>f)) (Odt ab) ?_ (λq C=>w q _ (bR _) (by rw[<-y,<-z,C];rfl));intros;refine @av ((G0 p a (mk,c,k,o,mt,l,mb) f i b rd j e r (aD (decide (Hbm.gP g mb>f)))).aj (decide (Hbm.gP g mb>f)=decide (Hbm.gP g mb>f))) _ ?_ ?_;kernel_rfl;exact aw rfl;refine s9 (E:=(lW gl).cV 8 u) 35 (ag .T) jc ?_;refine wE (E:=(lW gl).cV 8 u) (τ:=N5 p a (mk,c,k,o,mt,l,mb) f i b rd j e r (ag .T)) (K:=True) (aB ab ab trivial) λ_=>?_;refine qX (E:=(lW gl).cV 8 u) (G':=ak.sep (cD r g) (ak.sep (cD e d) R)) (by show ak.sep (cD e d) (ak.sep (cD r g) R)=_;ac_rfl) ?_;refine jw hA (λ_=>()) (λ_=>G0 p a (mk,c,k,o,mt,l,mb) f i b rd j e r (ag .T)) (λ_=>True) (Odt ab) ?_ (λ_ _=>w true _ Ac (by rw[<-y,<-z];rfl));intros;refine @av ((G0 p a (mk,c,k,o,mt,l,mb) f i b rd j e r (SV.is (TV.one ax.T))).aj True) _ ?_ ?_;kernel_rfl;exact aw trivial
end
end bf
end Go.Proofs.YtofofalgjibokaaGreatDoor
/- The bf: conclude. -/
namespace Go.Proofs.YtofofalgjibokaaGreatDoor
namespace bf
open Go.Eng.Ob
open Go.Hbn(dd a8 ez)
abbrev cnI:cw:=fC (ar (aq fX) 4)
def cnV(p a:Nat)(m:aP)(f b:Int)(c:cb):St:=ay fX.ntmps 9 [(0,aT p),(1,al 8 0),(3,aT a),(6,al 0 0),(8,sJ f),(9,sJ b)] [(8,c),(0,df m)]
def cnW(p c a:Nat)(m:aP)(f b:Int):St:=ay fX.ntmps 8 [(0,aT p),(1,aT c),(3,aT a),(6,al 0 0),(8,sJ f),(9,sJ b),(50,aT p),(51,mf m),(52,aT a)] [(0,df m)]
section
variable (gl:dF)[W3]
theorem ak7(p g a:Nat)(m:aP)(f d:Int)(b rd l:Bool)(e r:Nat)(G:ak){n o:aA}{x:Nat->aA}(h:lV au (bS (ar cnI 1)) 3 ((aq fX).drop 5) (rW gl (cnW p g a m f d) (ak.obj [cU b true l e r] g G)) n o x):
  aR au ((aq fX).drop 4) (rW gl (cnU p g a m f d (aD true)) (ak.obj [cU b rd l e r] g G)) n o x:=by
 obtain⟨mk,c,i,k,mt,j,mb⟩:=m;refine jX (ar (aq fX) 4) ?_;refine jJ [1] (cnV p a (mk,c,i,k,mt,j,mb) f d (cU b rd l e r)) ?_;refine e6 hA 1 (cnV p a (mk,c,i,k,mt,j,mb) f d [.v (.bool b),.T,.v (.bool l),.v (.map (some e)),.v (.map (some r))]) ?_;refine gQ (E:=lW gl) (bl:=[cU b true l e r]) [0] [8] 9 (Gi p g a (mk,c,i,k,mt,j,mb) f d) ?_;refine eX 5 (bS (ar cnI 1)) ?_;refine iS hA 3 (λ_=>()) (λ_=>cnW p g a (mk,c,i,k,mt,j,mb) f d) (λ_=>True) ?_ (λ_ _=>h);intros;refine @av ((cnW p g a (mk,c,i,k,mt,j,mb) f d).aj True) _ ?_ ?_;kernel_rfl;exact aw trivial
theorem ala(p d a:Nat)(m:aP)(f b:Int)(G:ak){n e:aA}{x:Nat->aA}(h:aR au ((aq fX).drop 5) (rW gl (Gi p d a m f b) G) n e x):
  aR au ((aq fX).drop 4) (rW gl (cnU p d a m f b (aD false)) G) n e x:=by
 obtain⟨mk,c,g,j,mt,i,mb⟩:=m;refine fF (ar (aq fX) 4) ?_;refine fh (Gi p d a (mk,c,g,j,mt,i,mb) f b) ?_;exact h
def WM(p a:Nat)(m:aP)(f c:Int)(b rd d:Bool)(e r:Nat)(q:SV):St:=ay fX.ntmps 9 [(0,aT p),(1,al 8 0),(3,aT a),(6,al 0 0),(8,sJ f),(9,sJ c),(59,q)] [(8,cU b rd d e r),(0,df m)]
def cn7(p a:Nat)(m:aP)(f c:Int)(b rd d:Bool)(e r:Nat):St:=ay fX.ntmps 9 [(0,aT p),(1,al 8 0),(3,aT a),(6,al 0 0),(8,sJ f),(9,sJ c),(59,ag .T),(63,pP r),(65,nF m.body),(68,sJ (IntKind.i64.wrap (2*f)))] [(8,cU b rd d e r),(0,df m)]
def WN(p a:Nat)(m:aP)(f c:Int)(b rd d:Bool)(e r:Nat)(q:SV):St:=ay fX.ntmps 9 [(0,aT p),(1,al 8 0),(3,aT a),(6,al 0 0),(8,sJ f),(9,sJ c),(70,q)] [(8,cU b rd d e r),(0,df m)]
def cn9(p c a:Nat)(m:aP)(f b:Int)(q:SV):St:=ay fX.ntmps 8 [(0,aT p),(1,aT c),(3,aT a),(6,al 0 0),(8,sJ f),(9,sJ b),(70,q)] [(0,df m)]
abbrev pi6:List Nat:=[0,1,2,3,4,5,13,14,6,7,8,9,10,11,12,15,16]
theorem ak8(p u a:Nat)(m:aP)(f i:Int)(b rd g:Bool)(e r:Nat)(d:Hbm.gq)(D:pX d)(G:Bs m.body)(I:m.body.length<1048576)(H:0<=f/\f<1000)(R:ak){n A:aA}{x:Nat->aA}(h:∀q,q=(!g&&decide (Hbm.gP d m.body>2*f))->aR au ((aq fX).drop 6) (rW gl (cn9 p u a m f i (aD q)) (ak.obj [cU b rd g e r] u (ak.sep (cD r d) R))) n A x):
  aR au ((aq fX).drop 5) (rW gl (Gi p u a m f i) (ak.obj [cU b rd g e r] u (ak.sep (cD r d) R))) n A x:=by
 obtain⟨mk,c,j,l,mt,k,mb⟩:=m;have z:IntKind.i64.wrap (2*f)=2*f:=bC aa aa;have o:∀q s,dE s (aD q)->q=(!g&&decide (Hbm.gP d mb>2*f))->aR au ((aq fX).drop 6) (GH ((lW gl).cV 8 u) fX.ntmps (WN p a (mk,c,j,l,mt,k,mb) f i b rd g e r s) (ak.sep (cD r d) R)) n A x:=by intro q s K w;refine iy 70 (aD q) K ?_;exact ma (E:=lW gl) [0] [8] rfl ab ab rfl ab 9 (cn9 p u a (mk,c,j,l,mt,k,mb) f i (aD q)) (aB ab ab trivial) (h q w)
 refine ko ao (rid:=6) (ops:=bS (ar (aq fX) 5)) ab ?_;refine Hl pi6 ab ?_;refine sn [1] ab (WM p a (mk,c,j,l,mt,k,mb) f i b rd g e r .junk) (aB ab ab trivial) ?_;refine fY hA 6 (λC=>bL .bool 59 C) (λq=>WM p a (mk,c,j,l,mt,k,mb) f i b rd g e r (aD q)) (λq=>q=!g) ae ab ?_ (λq w=>?_);intros;refine @av ((WM p a (mk,c,j,l,mt,k,mb) f i b rd g e r (aD !g)).aj ((!g)=!g)) _ ?_ ?_;kernel_rfl;exact aw rfl;cases q;refine s9 59 (ag .F) xu ?_;refine wE (τ:=WM p a (mk,c,j,l,mt,k,mb) f i b rd g e r (ag .F)) (aB ab ab trivial) λ_=>?_;refine jw hA (λ_=>()) (λ_=>WN p a (mk,c,j,l,mt,k,mb) f i b rd g e r (ag .F)) (λ_=>True) (Odt ab) ?_ (λ_ _=>o false _ tu (by rw[<-w];rfl));intros;refine @av ((WN p a (mk,c,j,l,mt,k,mb) f i b rd g e r (SV.is (TV.one ax.F))).aj True) _ ?_ ?_;kernel_rfl;exact aw trivial;refine s9 59 (ag .T) jc ?_;refine wE (τ:=WM p a (mk,c,j,l,mt,k,mb) f i b rd g e r (ag .T)) (aB ab ab trivial) λ_=>?_;refine yl (sJ f) ab ab (Ab (.tmp 8)) ?_;refine yl (sJ (IntKind.i64.wrap (2*f))) ab ab (abU ab ab) ?_;refine fY hA 14 (λ_=>()) (λ_=>cn7 p a (mk,c,j,l,mt,k,mb) f i b rd g e r) (λ_=>True) ae ab ?_ (λ_ _=>?_);intros;refine @av ((cn7 p a (mk,c,j,l,mt,k,mb) f i b rd g e r).aj True) _ ?_ ?_;kernel_rfl;exact aw trivial;refine qW (jZ (E:=(lW gl).cV 8 u) (cT (λ_=>R) (Hy gl)) (r,d,mb) ⟨D,G,I⟩ ab zJ ab ab (λ_=>rfl)) ab ab (λ_ _=>?_);refine jw hA (λC=>bL .bool 70 C) (λq=>WN p a (mk,c,j,l,mt,k,mb) f i b rd g e r (aD q)) (λq=>q=decide (Hbm.gP d mb>IntKind.i64.wrap (2*f))) (Odt ab) ?_ (λq y=>o q _ (bR _) (by rw[<-w,y,z];rfl));intros;refine @av ((WN p a (mk,c,j,l,mt,k,mb) f i b rd g e r (aD (decide (Hbm.gP d mb>IntKind.i64.wrap (2*f))))).aj (decide (Hbm.gP d mb>IntKind.i64.wrap (2*f))=decide (Hbm.gP d mb>IntKind.i64.wrap (2*f)))) _ ?_ ?_;kernel_rfl;exact aw rfl
def cnP(p a:Nat)(m:aP)(n k:Nat)(ms:List aP)(b:List Hbm.Told):St:=ay fX.ntmps 11 [(0,aT p),(1,aT a),(3,al 8 0),(6,al 0 0)] [(0,df m),(8,[.sl 9 0 0 n 7,.sl 10 0 0 k 3]),(9,[.row ig n ms]),(10,[.row eU k b])]
def cnQ(n k:Nat)(ms:List aP)(a:List Hbm.Told):St:=ay fX.ntmps 155 [(3,al 8 0)] [(8,[.sl 9 0 0 n 7,.sl 123 0 0 (k+1) 3]),(9,[.row ig n ms]),(123,[.row eU (k+1) a])]
def WO:St:=ay fX.ntmps 8 [] []
theorem ak9(p i a:Nat)(m:aP)(f k:Int)(b rd w:Bool)(e r:Nat)(G j:ak)(ms:List aP)(c:List Hbm.Told)(y:m.body.length<1048576)(C:c.length<1000)(s:ak.obj [cU b rd true e r] i G=ak.sep j (fD a ms c)){n u:aA}{x:Nat->aA}(h:aR au ((aq fX).drop 7) (rW gl WO (ak.sep j (fD a ms (c++[(m.bo,m.bE,m.body)])))) n u x):
  aR au ((aq fX).drop 6) (rW gl (cn9 p i a m f k (aD true)) (ak.obj [cU b rd w e r] i G)) n u x:=by
 rw[<-AX a ms.length (c.length+1) ms (c++[(m.bo,m.bE,m.body)]) rfl az j]at h;rw[<-AX a ms.length c.length ms c rfl rfl j]at s;obtain⟨mk,d,l,g,mt,o,mb⟩:=m;refine jX (ar (aq fX) 6) ?_;refine jJ [1] (cnV p a (mk,d,l,g,mt,o,mb) f k (cU b rd w e r)) ?_;refine e6 hA 1 (cnV p a (mk,d,l,g,mt,o,mb) f k [.v (.bool b),.v (.bool rd),.T,.v (.map (some e)),.v (.map (some r))]) ?_;refine gQ (E:=lW gl) (bl:=[cU b rd true e r]) [0] [8] 9 (Gi p i a (mk,d,l,g,mt,o,mb) f k) ?_;refine a7 s ?_;refine jJ [3] (cnP p i (mk,d,l,g,mt,o,mb) ms.length c.length ms c) ?_;refine gcd hA 1 (λA=>dO eU 123 A) (λq=>cnQ ms.length c.length ms q) (λq=>q=c++[(mt,g,mb)]) ?_ (λq z=>?_);intros;refine @av (re (mb,())/\0+1<=1/\c.length<=c.length/\(c.length+1)*40<=2^47/\c.length+1<=2^62/\(cnQ ms.length c.length ms (take c.length c++take 1 [(mt,g,(mb,()).fst)])).aj (take c.length c++take 1 [(mt,g,mb)]=c++[(mt,g,mb)])) _ ?_ ?_;kernel_rfl;refine⟨y,ae,aQ _,aa,aa,aw ?_⟩;rw[bg];rfl;subst z;exact ma (E:=lW gl) [] [8,9,123] rfl ab ab rfl ab 9 WO (aB ab ab trivial) h
theorem alb(p e a:Nat)(m:aP)(f c:Int)(G:ak){n b:aA}{x:Nat->aA}(h:aR au ((aq fX).drop 7) (rW gl WO G) n b x):
  aR au ((aq fX).drop 6) (rW gl (cn9 p e a m f c (aD false)) G) n b x:=by
 obtain⟨mk,d,g,j,mt,i,mb⟩:=m;refine fF (ar (aq fX) 6) ?_;refine fh WO ?_;exact h
theorem adw{H:a8}(h:ea H){m:aP}(n:gD H.mem m)(i:H.at m<H.aX.length)(p o a:Nat)(f g:Int)(l:f=H.nV)(r:o=(H.get (H.at m)).ptr)(ms:List aP)(j:List Hbm.Told)(x:j.length<1000){Q:SV->ak->Prop}(c:Q (.tup []) (ak.sep (bX (Hbn.iF H (H.at m) m).1) (fD a (ms++(Hbn.iF H (H.at m) m).2.1) (j++(Hbn.iF H (H.at m) m).2.2)))):
  aR au ((aq fX).drop 5) (rW gl (Gi p o a m f g) (ak.sep (bX H) (fD a ms j))) (du (lW gl) fX Q) (du (lW gl) fX Q) (λ_ _ _=>False):=by
 have d:∀G,Q (.tup []) G->aR au ((aq fX).drop 7) (rW gl WO G) (du (lW gl) fX Q) (du (lW gl) fX Q) (λ_ _ _=>False):=by intro G s;exact tP hA (.tup []) s
 have w:=h.sd i;have y:=n.bo;have z:=h.len;have A:H.mem.length≠0:=λe=>h.ne (eL e);have k:0<=f/\f<1000:=by rw[l];unfold Hbn.a8.nV;omega
 refine a7 (tB i _) ?_;unfold M3;subst r;refine ak8 gl p _ a m f g _ _ _ _ _ _ (w.2.ok h.len h.i64) n.b aa k _ λq u=>?_;unfold Hbn.iF at c;rw[<-l,<-u]at c;cases q;refine alb gl p _ a m f g _ ?_;refine a7 (tB i _).symm ?_;refine d _ ?_;rw[ai ae]at c;rw[bF,bF]at c;exact c;refine ak9 gl p _ a m f g _ _ _ _ _ _ (bX (H.set (H.at m) {H.get (H.at m)with told:=true})) ms j aa x (vz i (t:={H.get (H.at m)with told:=true}) rfl _).symm ?_;refine d _ ?_;rw[ah rfl]at c;rw[bF]at c;exact c
end
structure CIn where
 H:a8
 m:aP
 a:Nat
 ms:List aP
 ts:List Hbm.Told
def adh(gl:dF)(rec:a8->aP->ez)(b:a8->aP->Prop)(c:Nat):Prop:=
 fk au gl 125 (λz:CIn=>[aT z.H.p,aT (z.H.get (z.H.at z.m)).ptr,mf z.m,aT z.a]) (λz=>ea z.H/\gD z.H.mem z.m/\z.H.at z.m<z.H.aX.length/\z.ms.length+c<=1000/\z.ts.length+c<=1000/\((z.H.get (z.H.at z.m)).ready=false->b (z.H.set (z.H.at z.m) {z.H.get (z.H.at z.m)with ready:=true}) (Hbn.own z.H 3 z.m)))
  (λz=>ak.sep (bX z.H) (fD z.a z.ms z.ts)) (λ_ (_:Unit)=>.tup []) (λz _=>ak.sep (bX (Hbn.eR rec z.H (z.H.at z.m) z.m).1) (fD z.a (z.ms++(Hbn.eR rec z.H (z.H.at z.m) z.m).2.1) (z.ts++(Hbn.eR rec z.H (z.H.at z.m) z.m).2.2))) (λ_ _=>True)
theorem ahL{gl:dF}{rec:a8->aP->ez}{L:a8->aP->Prop}{c K:Nat}(Q:vL gl rec L c)(T:tE rec)(R:vO rec K):adh gl rec L (c+K+1):=by
 refine dD (sp:=Z4) D7 ab (λz=>Odt ab) (λz _=>rfl) ?_;rintro⟨H,m,a,ms,h⟩ ⟨e,f,d,o,r,F⟩ _;have o:ms.length+(c+K+1)<=1000:=o;have r:h.length+(c+K+1)<=1000:=r;have f:gD H.mem m:=f;have d:=d;have F:=F;have u:=e.sd d;have W:=f.bo;refine a7 (G':=ak.sep (jF H.p H.me H.mem H.mp) (ak.sep (gR H.mp (iW H.aX)) (ak.sep (gU H.aX) (fD a ms h)))) (by unfold bX;ac_rfl) ?_;refine ak5 gl H.p _ a H.mp H.me H.mem m e.ne e.len _ ?_;refine a7 (G':=ak.sep (bX H) (fD a ms h)) (by unfold bX;ac_rfl) ?_;refine a7 (tB d _) ?_;unfold M3;refine ak6 gl H.p _ a m _ _ _ _ _ _ _ _ _ (u.1.ok e.len e.i64) (u.2.ok e.len e.i64) f.b aa _ λq j=>?_;have j:q=(!(H.get (H.at m)).ready&&(decide (Hbm.gP (H.get (H.at m)).ech m.body>H.half)||decide (Hbm.gP (H.get (H.at m)).rdy m.body>H.nV))):=j;cases q;refine ala gl H.p _ a m _ _ _ ?_;refine a7 (tB d _).symm ?_;refine adw gl e f d H.p _ a _ _ rfl rfl ms h aa ⟨(),trivial,bR _,?_⟩;unfold Hbn.eR;rw[<-j,ai ae]
 ·have G:(H.get (H.at m)).ready=false:=by
   cases P:(H.get (H.at m)).ready with
   |false=>rfl
   |true=>rw[P]at j;cases j
  have p5:kx H (H.set (H.at m) {H.get (H.at m)with ready:=true}):=lU d rfl;have s:ea (H.set (H.at m) {H.get (H.at m)with ready:=true}):=tZ e d rfl u.1 u.2;have y:=r8 p5 m;have n:(H.set (H.at m) {H.get (H.at m)with ready:=true}).at m<(H.set (H.at m) {H.get (H.at m)with ready:=true}).aX.length:=by rw[y,mR p5];exact d
  have A:=FX T s f n (.inr rfl);have D:=R (H.set (H.at m) {H.get (H.at m)with ready:=true}) (Hbn.own (H.set (H.at m) {H.get (H.at m)with ready:=true}) 3 m);have x:Hbn.eR rec H (H.at m) m=Hbn.andThen (Hbn.mS rec (H.set (H.at m) {H.get (H.at m)with ready:=true}) 3 m) (λN=>Hbn.iF N (H.at m) m):=by unfold Hbn.eR;rw[<-j,ah rfl]
  have g:(Hbn.mS rec (H.set (H.at m) {H.get (H.at m)with ready:=true}) 3 m).2.2.length<=K:=D.2;refine ak7 gl H.p _ a m _ _ _ _ _ _ _ _ ?_;refine iM (vz d (t:={H.get (H.at m)with ready:=true}) rfl _).symm ?_;refine ju (E:=lW gl) (Y4 Q) ⟨H.set (H.at m) {H.get (H.at m)with ready:=true},3,m,a,ms,h⟩ ⟨s,f,n,.inr rfl,(by omega:ms.length+(c+1)<=1000),(by omega:h.length+c<=1000),F G⟩ sZ (λ_ _=>?_);refine eK ?_;revert x A g;generalize V:Hbn.mS rec (H.set (H.at m) {H.get (H.at m)with ready:=true}) 3 m=X;obtain⟨i,U,I⟩:=X;intro A x g;obtain⟨g1,g2⟩:=A;have g2:=g2;have l:kx H i:=p5.trans g2;have w:i.at m=H.at m:=r8 l m;have C:i.at m<i.aX.length:=by rw[w,mR l];exact d
  have O:(H.get (H.at m)).ptr=(i.get (i.at m)).ptr:=by rw[w];have:=SG l d;unfold tid at this;simp[cp]at this;exact this.2.1.symm
  refine fh (Gi H.p (H.get (H.at m)).ptr a m ((H.mem.length-1)/3) ((H.mem.length+(H.mem.length-1)/3)/2)) ?_;refine adw gl g1 (by rw[l.mem];exact f) C H.p _ a _ _ (by unfold Hbn.a8.nV;rw[l.mem]) O (ms++U) (h++I) (by rw[bA];have:I.length<=K:=g;omega) ⟨(),trivial,bR _,?_⟩;rw[x,w];unfold Hbn.andThen;rw[cZ,cZ]
end bf
end Go.Proofs.YtofofalgjibokaaGreatDoor
/- The bf: cF, its parts. -/
namespace Go.Proofs.YtofofalgjibokaaGreatDoor
namespace bf
open Go.Eng.Ob
open Go.Hbn(dd a8 ez)
abbrev hE:Func:=Tryz.f81
def hrA(p a:Nat)(m:aP):St:=ay hE.ntmps 8 [(0,aT p),(2,aT a),(4,al 0 0)] [(0,df m)]
def hrB(p a:Nat)(m:aP):St:=ay hE.ntmps 8 [(0,aT p),(2,aT a),(4,al 0 0),(7,aT p),(8,mf m)] [(0,df m)]
def hrC(p a:Nat)(m:aP)(q:Bool):St:=ay hE.ntmps 8 [(0,aT p),(2,aT a),(4,al 0 0),(10,aD q)] [(0,df m)]
def hrD(p a:Nat)(m:aP):St:=ay hE.ntmps 8 [(0,aT p),(2,aT a),(4,al 0 0),(11,aT p),(12,mf m)] [(0,df m)]
def td(p tp a:Nat)(m:aP):St:=ay hE.ntmps 8 [(0,aT p),(2,aT a),(4,al 0 0),(6,aT tp)] [(0,df m)]
def SK(p b a:Nat)(m:aP):St:=ay hE.ntmps 8 [(0,aT p),(2,aT a),(4,al 0 0),(6,aT b),(15,sJ m.kind)] [(0,df m)]
abbrev U9:=bw [sF]
theorem fz:aS au U9:=aV wM bY
section
variable (gl:dF)[W3]
abbrev mL:cJ:=mO au U9 gl
abbrev m5:=GH (mL gl) hE.ntmps
theorem aiN(p a i:Nat)(g:Int)(mem:LI)(m:aP)(k:mem.length<1000)(R:ak){Q:SV->ak->Prop}{n:aA}{x:Nat->aA}(l:Hbn.counts mem m=false->Q (.tup []) (ak.sep (jF p g mem i) R))(o:Hbn.counts mem m=true->aR au ((aq hE).drop 3) (m5 gl (hrA p a m) (ak.sep (jF p g mem i) R)) n (du (mL gl) hE Q) x):
  aR au (aq hE) (m5 gl (lK hE [aT p,mf m,aT a] [] 0) (ak.sep (jF p g mem i) R)) n (du (mL gl) hE Q) x:=by
 obtain⟨mk,b,c,e,mt,d,mb⟩:=m;refine e6 fz 1 (hrA p a (mk,b,c,e,mt,d,mb)) ?_;refine eX 1 (bS (ar (aq hE) 1)) ?_;refine eG fz 2 (hrB p a (mk,b,c,e,mt,d,mb)) ?_;refine ju (E:=mL gl) (cT (λ_=>R) (Ye gl)) ((p,g,mem,i),(mk,b,c,e,mt,d,mb)) k IA (λ_ _=>?_);refine iS fz 4 (λr=>bL .bool 10 r) (λq=>hrC p a (mk,b,c,e,mt,d,mb) q) (λq=>q=!C9 mem (mk,b,c,e,mt,d,mb)) ?_ (λq f=>eK ?_);intros;refine @av ((hrC p a (mk,b,c,e,mt,d,mb) !C9 mem (mk,b,c,e,mt,d,mb)).aj ((!C9 mem (mk,b,c,e,mt,d,mb))=!C9 mem (mk,b,c,e,mt,d,mb))) _ ?_ ?_;kernel_rfl;exact aw rfl;have f:q=!Hbn.counts mem (mk,b,c,e,mt,d,mb):=f;cases q;refine fF (ar (aq hE) 2) ?_;refine fh (hrA p a (mk,b,c,e,mt,d,mb)) ?_;exact o (by cases j:Hbn.counts mem (mk,b,c,e,mt,d,mb)with|true=>rfl|false=>rw[j]at f;cases f);refine jy fz ao (.tup []) ?_ (l (by cases j:Hbn.counts mem (mk,b,c,e,mt,d,mb)with|false=>rfl|true=>rw[j]at f;cases f));intros;refine @av ((true=true->SV.tup []=SV.tup [])/\(true=false->False)) _ ?_ ?_;kernel_rfl;exact⟨λ_=>rfl,λh=>by cases h⟩
theorem aiO(H:a8)(s:ea H)(m:aP)(z:gD H.mem m)(a:Nat)(A:ak){n r:aA}{x:Nat->aA}(C:∀q:eI,aR au ((aq hE).drop 4) (m5 gl (td H.p ((H.of m q).get ((H.of m q).at m)).ptr a m) (ak.sep (bX (H.of m q)) A)) n r x):
  aR au ((aq hE).drop 3) (m5 gl (hrA H.p a m) (ak.sep (bX H) A)) n r x:=by
 have f:∀H:a8,ak.sep (bX H) A=ak.sep (ak.obj [dW H.me H.mem H.mp] H.p (gR H.mp (iW H.aX))) (ak.sep (gU H.aX) A):=λH=>by unfold bX jF;rw[bZ [dW H.me H.mem H.mp] H.p (gR H.mp (iW H.aX))];ac_rfl
 have F:=z.bo;refine a7 (f H) ?_;obtain⟨p,c,i,mem,b⟩:=H;refine eX 2 (bS (ar (aq hE) 3)) ?_;refine iS fz 2 (λ_=>()) (λ_=>hrD p a m) (λ_=>True) ?_ (λ_ _=>?_);obtain⟨mk,j,t,w,mt,u,mb⟩:=m;intros;refine @av ((hrD p a (mk,j,t,w,mt,u,mb)).aj True) _ ?_ ?_;kernel_rfl;exact aw trivial;refine ju (E:=mL gl) (cT (λ_=>ak.sep (gU b) A) (alB gl)) ⟨p,c,i,mem,iW b,m⟩ ⟨s.keys,⟨by show _<=m.bo;omega,by show m.bo<=_;omega⟩,s.i64 _ z.bE⟩ wx ?_;have g:∀(tp:Nat)(G:ak),aR au ((aq hE).drop 4) (m5 gl (td p tp a m) G) n r x->lV au (bS (ar (aq hE) 3)) 3 ((aq hE).drop 4) (m5 gl ((hrD p a m).put (some 13) (aT tp)) G) n r x:=by intro tp G h;refine iS fz 4 (λ_=>()) (λ_=>td p tp a m) (λ_=>True) ?_ (λ_ _=>KN (Odt ab) h);obtain⟨mk,j,t,w,mt,u,mb⟩:=m;intros;refine @av ((td p tp a (mk,j,t,w,mt,u,mb)).aj True) _ ?_ ?_;kernel_rfl;exact aw trivial
 rintro⟨tp,o⟩y;refine g tp _ ?_;cases o with
 |none=>obtain⟨l,D⟩:=Kl s (m:=m) (tp:=tp) y;have k:=C (0,0,0);rw[PG l,D]at k;refine a7 (f ⟨p,c,i,mem,b⟩).symm ?_;exact k
 |some q=>obtain⟨e,d⟩:=q;have l:=Kk (H:=⟨p,c,i,mem,b⟩) (m:=m) y;have k:=C (tp,e,d);rw[(WA l (tp,e,d)).2,Je l]at k;refine a7 ?_ k;rw[f];show ak.sep (ak.obj [dW i mem c] p (ak.sep (gR c (iW b++[((m.bo,m.bE),tp)])) (EK tp e d))) (ak.sep (gU b) A)=ak.sep (ak.obj [dW i mem c] p (gR c (iW (b++[jG m (tp,e,d)])))) (ak.sep (gU (b++[jG m (tp,e,d)])) A);rw[GM,show iW (b++[jG m (tp,e,d)])=iW b++[((m.bo,m.bE),tp)]from by unfold iW;rw[cE];rfl,show JT (jG m (tp,e,d))=EK tp e d from rfl,bZ [dW i mem c] p (ak.sep _ _),bZ [dW i mem c] p (gR _ _)];ac_rfl
end
end bf
end Go.Proofs.YtofofalgjibokaaGreatDoor
/- The bf: cF, its kinds. -/
namespace Go.Proofs.YtofofalgjibokaaGreatDoor
namespace bf
open Go.Eng.Ob
open Go.Hbn(dd a8 ez)
abbrev w9:Code:=ar (aq hE) 5
abbrev aa6:cw:=fC (ar (cg w9) 1)
abbrev U8:cw:=tM (ar (cg w9) 1)
abbrev aiH:cw:=fC (ar aa6 1)
abbrev aiF:cw:=fC (ar U8 1)
abbrev aiJ:cw:=tM (ar U8 1)
abbrev aiG:cw:=fC (ar aiJ 1)
def De(p b a:Nat)(m:aP)(t:Nat)(q:Bool):St:=ay hE.ntmps 8 [(0,aT p),(2,aT a),(4,al 0 0),(6,aT b),(15,sJ m.kind),(t,aD q)] [(0,df m)]
def XT(p a:Nat)(m:aP)(b:cb):St:=ay hE.ntmps 9 [(0,aT p),(2,aT a),(4,al 0 0),(6,al 8 0)] [(8,b),(0,df m)]
def OQ(p a:Nat)(m:aP)(b:cb)(t:Nat)(q:SV):St:=ay hE.ntmps 9 [(0,aT p),(2,aT a),(4,al 0 0),(6,al 8 0),(t,q)] [(8,b),(0,df m)]
def hrQ(p b a:Nat)(m:aP)(t:Nat)(q:Bool):St:=ay hE.ntmps 8 [(0,aT p),(2,aT a),(4,al 0 0),(6,aT b),(t,aD q)] [(0,df m)]
def hrW(p b a:Nat)(m:aP):St:=ay hE.ntmps 8 [(0,aT p),(2,aT a),(4,al 0 0),(6,aT b),(33,aT p),(34,mf m),(35,aT a)] [(0,df m)]
def hrN(p a:Nat)(m:aP)(b:cb)(e t1 t2:Nat):St:=ay hE.ntmps 9 [(0,aT p),(2,aT a),(4,al 0 0),(6,al 8 0),(t1,pP e),(t2,mf m)] [(8,b),(0,df m)]
section
variable (gl:dF)[W3]
theorem aod(p d a:Nat)(m:aP)(G:ak){n i:aA}{x:Nat->aA}(h:aR au ((aq hE).drop 5) (m5 gl (SK p d a m) G) n i x):
  aR au ((aq hE).drop 4) (m5 gl (td p d a m) G) n i x:=by
 obtain⟨mk,b,e,g,mt,f,mb⟩:=m;refine gcd fz 1 (λ_=>()) (λ_=>SK p d a (mk,b,e,g,mt,f,mb)) (λ_=>True) ?_ (λ_ _=>h);intros;refine @av ((SK p d a (mk,b,e,g,mt,f,mb)).aj True) _ ?_ ?_;kernel_rfl;exact aw trivial
theorem aiM(p j a:Nat)(m:aP)(s:m.kind=1)(b rd l:Bool)(e r:Nat)(G:ak){o w:aA}{x:Nat->aA}(D:m.aK=m.bE/\b=false->lV au (bS (ar aiH 1)) 3 [] (m5 gl (hrW p j a m) (ak.obj [cU true rd l e r] j G)) o w x)(C:¬(m.aK=m.bE/\b=false)->aR au [] (m5 gl (td p j a m) (ak.obj [cU b rd l e r] j G)) o w x):
  aR au (cg w9) (m5 gl (SK p j a m) (ak.obj [cU b rd l e r] j G)) o w x:=by
 obtain⟨mk,d,f,g,mt,i,mb⟩:=m;have s:mk=1:=s;subst s;refine gcd fz 1 (λy=>bL .bool 16 y) (λq=>De p j a (1,d,f,g,mt,i,mb) 16 q) (λq=>q=true) ?_ (λq n=>?_);intros;refine @av ((De p j a (1,d,f,g,mt,i,mb) 16 (Hbm.dG.kind (1,d,f,g,mt,i,mb)==1)).aj ((Hbm.dG.kind (1,d,f,g,mt,i,mb)==1)=true)) _ ?_ ?_;kernel_rfl;exact aw rfl;subst n;refine jX (ar (cg w9) 1) ?_;refine jJ [6] (XT p a (1,d,f,g,mt,i,mb) (cU b rd l e r)) ?_;refine jY fz ao 1 29 (λy=>bL .bool 29 y) (λq=>OQ p a (1,d,f,g,mt,i,mb) (cU b rd l e r) 29 (aD q)) (λq=>q=(decide (f=g) && !b)) (λ_=>False) (λ_ _=>False) ?_ (λq n=>?_) (λ_ _ _ h _=>h.elim) (λ_ _ _ _ h _=>h.elim);intros;refine @av (((f==g)=true->(OQ p a (1,d,f,g,mt,i,mb) (cU b rd l e r) 29 (aD !b)).aj ((!b)=(decide (f=g) && !b)))/\((f==g)=false->(OQ p a (1,d,f,g,mt,i,mb) (cU b rd l e r) 29 (aD false)).aj (false=(decide (f=g) && !b)))) _ ?_ ?_;kernel_rfl;refine⟨λh=>aw ?_,λh=>aw ?_⟩;rw[b6 (show f=g from by simpa using h),mn];rw[cm (show ¬f=g from by simpa using h),mG];refine gQ (E:=mL gl) (bl:=[cU b rd l e r]) [0] [8] 9 (hrQ p j a (1,d,f,g,mt,i,mb) 29 q) ?_;cases q;refine fF (ar aa6 1) ?_;refine fh (td p j a (1,d,f,g,mt,i,mb)) ?_;refine C λz=>?_;have A:f=g:=z.1;rw[z.2,b6 A]at n;cases n
 ·have u:f=g/\b=false:=by
   cases b with
   |true=>rw[Bool.not_true,oY]at n;cases n
   |false=>rw[wb,Bool.and_true]at n;exact⟨Odt n.symm,rfl⟩
  refine jX (ar aa6 1) ?_;refine jJ [6] (XT p a (1,d,f,g,mt,i,mb) (cU b rd l e r)) ?_;refine e6 fz 1 (XT p a (1,d,f,g,mt,i,mb) [.T,.v (.bool rd),.v (.bool l),.v (.map (some e)),.v (.map (some r))]) ?_;refine gQ (E:=mL gl) (bl:=[cU true rd l e r]) [0] [8] 9 (td p j a (1,d,f,g,mt,i,mb)) ?_;refine eX 7 (bS (ar aiH 1)) ?_;refine iS fz 3 (λ_=>()) (λ_=>hrW p j a (1,d,f,g,mt,i,mb)) (λ_=>True) ?_ (λ_ _=>D u);intros;refine @av ((hrW p j a (1,d,f,g,mt,i,mb)).aj True) _ ?_ ?_;kernel_rfl;exact aw trivial
theorem aob(p j a:Nat)(m:aP)(u:m.kind=2)(b rd l:Bool)(e r:Nat)(ech rdy:Hbm.gq)(w:pX ech)(y:m2 m.aK)(D:m.body.length<1048576)(R:ak){Q:SV->ak->Prop}{o:aA}{x:Nat->aA}(A:Hbm.dy ech m.aK=true->Q (.tup []) (ak.obj [cU b rd l e r] j (ak.sep (cD r rdy) (ak.sep (cD e ech) R))))(C:Hbm.dy ech m.aK=false->aR au [] (m5 gl (td p j a m) (ak.obj [cU b rd l e r] j (ak.sep (cD r rdy) (ak.sep (cD e (ech++[(m.aK,m.body)])) R)))) o (du (mL gl) hE Q) x):
  aR au (cg w9) (m5 gl (SK p j a m) (ak.obj [cU b rd l e r] j (ak.sep (cD r rdy) (ak.sep (cD e ech) R)))) o (du (mL gl) hE Q) x:=by
 obtain⟨mk,d,f,i,mt,g,mb⟩:=m;have u:mk=2:=u;subst u;refine gcd fz 1 (λs=>bL .bool 16 s) (λq=>De p j a (2,d,f,i,mt,g,mb) 16 q) (λq=>q=false) ?_ (λq n=>?_);intros;refine @av ((De p j a (2,d,f,i,mt,g,mb) 16 (Hbm.dG.kind (2,d,f,i,mt,g,mb)==1)).aj ((Hbm.dG.kind (2,d,f,i,mt,g,mb)==1)=false)) _ ?_ ?_;kernel_rfl;exact aw rfl;subst n;refine fF (ar (cg w9) 1) ?_;refine gcd fz 1 (λs=>bL .bool 37 s) (λq=>De p j a (2,d,f,i,mt,g,mb) 37 q) (λq=>q=true) ?_ (λq n=>?_);intros;refine @av ((De p j a (2,d,f,i,mt,g,mb) 37 (Hbm.dG.kind (2,d,f,i,mt,g,mb)==2)).aj ((Hbm.dG.kind (2,d,f,i,mt,g,mb)==2)=true)) _ ?_ ?_;kernel_rfl;exact aw rfl;subst n;refine jX (ar U8 1) ?_;refine ko ao (rid:=9) (ops:=bS (ar aiF 0)) ab ?_;refine sn (E:=mL gl) [6] ab (XT p a (2,d,f,i,mt,g,mb) (cU b rd l e r)) (aB ab ab trivial) ?_;refine fY fz 5 (λ_=>()) (λ_=>hrN p a (2,d,f,i,mt,g,mb) (cU b rd l e r) e 42 43) (λ_=>True) ae ab ?_ (λ_ _=>?_);intros;refine @av ((hrN p a (2,d,f,i,mt,g,mb) (cU b rd l e r) e 42 43).aj True) _ ?_ ?_;kernel_rfl;exact aw trivial;refine qX (E:=(mL gl).cV 8 j) (G':=ak.sep (cD e ech) (ak.sep (cD r rdy) R)) (by ac_rfl) ?_;refine qW (jZ (E:=(mL gl).cV 8 j) (cT (λ_=>ak.sep (cD r rdy) R) (Tb gl)) (e,ech,(2,d,f,i,mt,g,mb)) ⟨w,y,D⟩ ab G9 ab ab (λ_=>rfl)) ab ab (λ_ _=>?_);refine jw fz (λs=>bL .bool 45 s) (λq=>OQ p a (2,d,f,i,mt,g,mb) (cU b rd l e r) 45 (aD q)) (λq=>q=Hbm.dy ech f) (Odt ab) ?_ (λq n=>?_);intros;refine @av ((OQ p a (2,d,f,i,mt,g,mb) (cU b rd l e r) 45 (aD !!Hbm.dy ech (Hbm.dG.aK (2,d,f,i,mt,g,mb)))).aj ((!!Hbm.dy ech (Hbm.dG.aK (2,d,f,i,mt,g,mb)))=Hbm.dy ech f)) _ ?_ ?_;kernel_rfl;refine aw ?_;show(!!Hbm.dy ech f)=_;rw[Bool.not_not];refine gQ (E:=mL gl) (bl:=[cU b rd l e r]) [0] [8] 9 (hrQ p j a (2,d,f,i,mt,g,mb) 45 q) ?_;have z:ak.obj [cU b rd l e r] j (ak.sep (cD e (if Hbm.dy ech f then ech else ech++[(f,mb)])) (ak.sep (cD r rdy) R))=ak.obj [cU b rd l e r] j (ak.sep (cD r rdy) (ak.sep (cD e (if Hbm.dy ech f then ech else ech++[(f,mb)])) R)):=by congr 1;ac_rfl
 refine a7 z ?_;rw[<-n];cases q;refine fF (ar aiF 1) ?_;refine fh (td p j a (2,d,f,i,mt,g,mb)) ?_;exact C n.symm;refine jy fz ao (.tup []) ?_ (A n.symm);intros;refine @av ((true=true->SV.tup []=SV.tup [])/\(true=false->False)) _ ?_ ?_;kernel_rfl;exact⟨λ_=>rfl,λh=>by cases h⟩
theorem aoc(p j a:Nat)(m:aP)(u:m.kind=3)(b rd l:Bool)(e r:Nat)(rdy:Hbm.gq)(w:pX rdy)(y:m2 m.aK)(C:m.body.length<1048576)(R:ak){Q:SV->ak->Prop}{s:aA}{x:Nat->aA}(z:Hbm.dy rdy m.aK=true->Q (.tup []) (ak.obj [cU b rd l e r] j (ak.sep (cD r rdy) R)))(A:Hbm.dy rdy m.aK=false->aR au [] (m5 gl (td p j a m) (ak.obj [cU b rd l e r] j (ak.sep (cD r (rdy++[(m.aK,m.body)])) R))) s (du (mL gl) hE Q) x):
  aR au (cg w9) (m5 gl (SK p j a m) (ak.obj [cU b rd l e r] j (ak.sep (cD r rdy) R))) s (du (mL gl) hE Q) x:=by
 obtain⟨mk,d,f,i,mt,g,mb⟩:=m;have u:mk=3:=u;subst u;refine gcd fz 1 (λo=>bL .bool 16 o) (λq=>De p j a (3,d,f,i,mt,g,mb) 16 q) (λq=>q=false) ?_ (λq n=>?_);intros;refine @av ((De p j a (3,d,f,i,mt,g,mb) 16 (Hbm.dG.kind (3,d,f,i,mt,g,mb)==1)).aj ((Hbm.dG.kind (3,d,f,i,mt,g,mb)==1)=false)) _ ?_ ?_;kernel_rfl;exact aw rfl;subst n;refine fF (ar (cg w9) 1) ?_;refine gcd fz 1 (λo=>bL .bool 37 o) (λq=>De p j a (3,d,f,i,mt,g,mb) 37 q) (λq=>q=false) ?_ (λq n=>?_);intros;refine @av ((De p j a (3,d,f,i,mt,g,mb) 37 (Hbm.dG.kind (3,d,f,i,mt,g,mb)==2)).aj ((Hbm.dG.kind (3,d,f,i,mt,g,mb)==2)=false)) _ ?_ ?_;kernel_rfl;exact aw rfl;subst n;refine fF (ar U8 1) ?_;refine gcd fz 1 (λo=>bL .bool 46 o) (λq=>De p j a (3,d,f,i,mt,g,mb) 46 q) (λq=>q=true) ?_ (λq n=>?_);intros;refine @av ((De p j a (3,d,f,i,mt,g,mb) 46 (Hbm.dG.kind (3,d,f,i,mt,g,mb)==3)).aj ((Hbm.dG.kind (3,d,f,i,mt,g,mb)==3)=true)) _ ?_ ?_;kernel_rfl;exact aw rfl;subst n;refine jX (ar aiJ 1) ?_;refine ko ao (rid:=11) (ops:=bS (ar aiG 0)) ab ?_;refine sn (E:=mL gl) [6] ab (XT p a (3,d,f,i,mt,g,mb) (cU b rd l e r)) (aB ab ab trivial) ?_;refine fY fz 5 (λ_=>()) (λ_=>hrN p a (3,d,f,i,mt,g,mb) (cU b rd l e r) r 51 52) (λ_=>True) ae ab ?_ (λ_ _=>?_);intros;refine @av ((hrN p a (3,d,f,i,mt,g,mb) (cU b rd l e r) r 51 52).aj True) _ ?_ ?_;kernel_rfl;exact aw trivial;refine qW (jZ (E:=(mL gl).cV 8 j) (cT (λ_=>R) (Tb gl)) (r,rdy,(3,d,f,i,mt,g,mb)) ⟨w,y,C⟩ ab G9 ab ab (λ_=>rfl)) ab ab (λ_ _=>?_);refine jw fz (λo=>bL .bool 54 o) (λq=>OQ p a (3,d,f,i,mt,g,mb) (cU b rd l e r) 54 (aD q)) (λq=>q=Hbm.dy rdy f) (Odt ab) ?_ (λq n=>?_);intros;refine @av ((OQ p a (3,d,f,i,mt,g,mb) (cU b rd l e r) 54 (aD !!Hbm.dy rdy (Hbm.dG.aK (3,d,f,i,mt,g,mb)))).aj ((!!Hbm.dy rdy (Hbm.dG.aK (3,d,f,i,mt,g,mb)))=Hbm.dy rdy f)) _ ?_ ?_;kernel_rfl;refine aw ?_;show(!!Hbm.dy rdy f)=_;rw[Bool.not_not];refine gQ (E:=mL gl) (bl:=[cU b rd l e r]) [0] [8] 9 (hrQ p j a (3,d,f,i,mt,g,mb) 54 q) ?_;refine a7 (G':=ak.obj [cU b rd l e r] j (ak.sep (cD r (if q then rdy else rdy++[(f,mb)])) R)) (by rw[n]) ?_;cases q;refine fF (ar aiG 1) ?_;refine fh (td p j a (3,d,f,i,mt,g,mb)) ?_;exact A n.symm;refine jy fz ao (.tup []) ?_ (z n.symm);intros;refine @av ((true=true->SV.tup []=SV.tup [])/\(true=false->False)) _ ?_ ?_;kernel_rfl;exact⟨λ_=>rfl,λh=>by cases h⟩
end
end bf
end Go.Proofs.YtofofalgjibokaaGreatDoor
/- The bf: cF. -/
namespace Go.Proofs.YtofofalgjibokaaGreatDoor
namespace bf
open Go.Eng.Ob
open Go.Hbn(dd a8 ez)
def LK(b:a8->aP->Prop)(H:a8)(m:aP):Prop:=
 (m.kind=1->∀a,b a (Hbn.own a 2 m))/\((m.kind=1\/(H.get (H.at m)).ready=false)->∀a:a8,(a.get (a.at m)).ready=true->b a (Hbn.own a 3 m))
def hrZ(p b a:Nat)(m:aP):St:=ay hE.ntmps 8 [(55,aT p),(56,aT b),(57,mf m),(58,aT a)] []
section
variable (gl:dF)[W3]
theorem aoe{rec:a8->aP->ez}{f:a8->aP->Prop}{c:Nat}(o:adh gl rec f c){H:a8}(l:ea H){m:aP}(r:gD H.mem m)(q:H.at m<H.aX.length)(p b a:Nat)(g:p=H.p)(h:b=(H.get (H.at m)).ptr)(ms:List aP)(d:List Hbm.Told)(i:ms.length+c<=1000) (j:d.length+c<=1000) (s:(H.get (H.at m)).ready=false->f (H.set (H.at m) {H.get (H.at m)with ready:=true}) (Hbn.own H 3 m)) {Q:SV->ak->Prop}(n:Q (.tup []) (ak.sep (bX (Hbn.eR rec H (H.at m) m).1) (fD a (ms++(Hbn.eR rec H (H.at m) m).2.1) (d++(Hbn.eR rec H (H.at m) m).2.2)))):
  aR au ((aq hE).drop 6) (m5 gl (td p b a m) (ak.sep (bX H) (fD a ms d))) (du (mL gl) hE Q) (du (mL gl) hE Q) (λ_ _ _=>False):=by
 refine eX 12 (bS (ar (aq hE) 6)) ?_;refine iS fz 4 (λ_=>()) (λ_=>hrZ p b a m) (λ_=>True) ?_ (λ_ _=>?_);obtain⟨mk,e,u,x,mt,w,mb⟩:=m;intros;refine @av ((hrZ p b a (mk,e,u,x,mt,w,mb)).aj True) _ ?_ ?_;kernel_rfl;exact aw trivial;subst g h;refine ju (E:=mL gl) o ⟨H,m,a,ms,d⟩ ⟨l,r,q,i,j,s⟩ D7 (λ_ _=>?_);refine eK ?_;exact tP fz (.tup []) n
theorem aiP{rec:a8->aP->ez}{X:a8->aP->Prop}{c K:Nat}(T:vL gl rec X c)(W:tE rec)(U:vO rec K){H:a8}(q:ea H){m:aP}(r:gD H.mem m)(g:H.at m<H.aX.length)(a:Nat)(ms:List aP)(i:List Hbm.Told)(h1:ms.length+(c+2*K+2)<=1000) (h2:i.length+(c+2*K+2)<=1000) (V:LK X H m) {Q:SV->ak->Prop}(f:Q (.tup []) (ak.sep (bX (Hbn.lq rec H (H.at m) m).1) (fD a (ms++(Hbn.lq rec H (H.at m) m).2.1) (i++(Hbn.lq rec H (H.at m) m).2.2)))):
  aR au ((aq hE).drop 4) (m5 gl (td H.p (H.get (H.at m)).ptr a m) (ak.sep (bX H) (fD a ms i))) (du (mL gl) hE Q) (du (mL gl) hE Q) (λ_ _ _=>False):=by
 have hc:=ahL T W U;have s:=q.sd g;have R:=r.bo
 -- x,on a bf Y P of this one
 have fin:∀(d:a8)(n:List aP)(o:List Hbm.Told),Good H (d,n,o)->n.length+(c+K+1)<=1000->o.length+(c+K+1)<=1000->((d.get (d.at m)).ready=false->m.kind=1\/(H.get (H.at m)).ready=false) ->
   Q (.tup []) (ak.sep (bX (Hbn.eR rec d (H.at m) m).1) (fD a (n++(Hbn.eR rec d (H.at m) m).2.1) (o++(Hbn.eR rec d (H.at m) m).2.2))) ->
   aR au ((aq hE).drop 6) (m5 gl (td H.p (H.get (H.at m)).ptr a m) (ak.sep (bX d) (fD a n o))) (du (mL gl) hE Q) (du (mL gl) hE Q) (λ_ _ _=>False):=by
  rintro d n o ⟨g1,g2⟩ D F G k4;have g1:ea d:=g1;have g2:kx H d:=g2;have N:=r8 g2 m;have u:d.at m<d.aX.length:=by rw[N,mR g2];exact g
  have Z:(H.get (H.at m)).ptr=(d.get (d.at m)).ptr:=by rw[N];have:=SG g2 g;unfold tid at this;simp only[cp]at this;exact this.2.1.symm
  have SL:kx d (d.set (d.at m) {d.get (d.at m)with ready:=true}):=lU u rfl;refine aoe gl hc g1 (m:=m) (by rw[g2.mem];exact r) u _ _ a g2.p.symm Z n o D F (λO=>?_) (by rw[N];exact k4);have:=V.2 (G O) (d.set (d.at m) {d.get (d.at m)with ready:=true}) (by rw[r8 SL,mC u]);exact this
 refine aod gl _ _ a m _ ?_;unfold Hbn.lq at f;refine a7 (tB g _) ?_;unfold M3;rcases r.kind with e|e|e
 ·rw[ah e]at f;by_cases I:m.aK=m.bE/\(H.get (H.at m)).eO=false
  ·rw[ah I]at f;have p5:kx H (H.set (H.at m) {H.get (H.at m)with eO:=true}):=lU g rfl;have l:ea (H.set (H.at m) {H.get (H.at m)with eO:=true}):=tZ q g rfl s.1 s.2;have z:(H.set (H.at m) {H.get (H.at m)with eO:=true}).at m<(H.set (H.at m) {H.get (H.at m)with eO:=true}).aX.length:=by rw[r8 p5,mR p5];exact g
   have y:=FX W l (m:=m) r z (k:=2) (.inl rfl);have A:=U (H.set (H.at m) {H.get (H.at m)with eO:=true}) (Hbn.own (H.set (H.at m) {H.get (H.at m)with eO:=true}) 2 m);have C:(Hbn.mS rec (H.set (H.at m) {H.get (H.at m)with eO:=true}) 2 m).2.1.length<=K+1/\(Hbn.mS rec (H.set (H.at m) {H.get (H.at m)with eO:=true}) 2 m).2.2.length<=K:=by refine⟨?_,A.2⟩;have:=A.1;show(Hbn.own (H.set (H.at m) {H.get (H.at m)with eO:=true}) 2 m::(rec (H.set (H.at m) {H.get (H.at m)with eO:=true}) (Hbn.own (H.set (H.at m) {H.get (H.at m)with eO:=true}) 2 m)).2.1).length<=K+1;rw[cP];omega
   refine dC (E:=mL gl) (c:=w9) (λb w=>m5 gl (td H.p (H.get (H.at m)).ptr a m) (ak.sep (bX (Hbn.mS rec (H.set (H.at m) {H.get (H.at m)with eO:=true}) 2 m).1) (fD a (ms++(Hbn.mS rec (H.set (H.at m) {H.get (H.at m)with eO:=true}) 2 m).2.1) (i++(Hbn.mS rec (H.set (H.at m) {H.get (H.at m)with eO:=true}) 2 m).2.2))) b w) ab ab ?_ ?_;refine aiM gl _ _ a m e _ _ _ _ _ _ (λ_=>?_) (λh=>(h I).elim);refine iM (E:=mL gl) (vz g (t:={H.get (H.at m)with eO:=true}) rfl _).symm ?_;refine ju (E:=mL gl) (Y4 T) ⟨H.set (H.at m) {H.get (H.at m)with eO:=true},2,m,a,ms,i⟩ ⟨l,r,z,.inl rfl,(by omega:ms.length+(c+1)<=1000),(by omega:i.length+c<=1000),V.1 e _⟩ sZ (λ_ _=>?_);refine eK ?_;refine fh (td H.p (H.get (H.at m)).ptr a m) ?_;exact cv λ_ _ h=>h;refine fin _ _ _ ⟨y.1,p5.trans y.2⟩ (by rw[bA];have:=C.1;omega) (by rw[bA];have:=C.2;omega) (λ_=>.inl e) ?_;unfold Hbn.andThen at f;rw[cZ,cZ];exact f
  rw[ai I]at f;refine dC (E:=mL gl) (c:=w9) (λb w=>m5 gl (td H.p (H.get (H.at m)).ptr a m) (ak.sep (bX H) (fD a ms i)) b w) ab ab ?_ ?_;refine aiM gl _ _ a m e _ _ _ _ _ _ (λh=>(I h).elim) (λ_=>?_);refine a7 (tB g _).symm ?_;exact cv λ_ _ h=>h;exact fin H ms i ⟨q,.rfl⟩ aa aa (λ_=>.inl e) f
 rw[ai (by rw[e];decide),ah e]at f;have p5:kx H (H.set (H.at m) {H.get (H.at m)with ech:=(H.get (H.at m)).ech++[(m.aK,m.body)]}):=lU g rfl;refine dC (E:=mL gl) (c:=w9) (λb w=>Hbm.dy (H.get (H.at m)).ech m.aK=false/\m5 gl (td H.p (H.get (H.at m)).ptr a m) (ak.sep (bX (H.set (H.at m) {H.get (H.at m)with ech:=(H.get (H.at m)).ech++[(m.aK,m.body)]})) (fD a ms i)) b w) ab ab ?_ ?_;refine aob gl _ _ a m e _ _ _ _ _ _ _ (s.1.ok q.len q.i64) (q.i64 _ r.aK) aa _ (λj=>?_) (λj=>?_);rw[ah j]at f;rw[bF,bF]at f;have:=tB (H:=H) g (fD a ms i);unfold M3 at this;rw[<-this];exact f;refine a7 (vz g (t:={H.get (H.at m)with ech:=(H.get (H.at m)).ech++[(m.aK,m.body)]}) rfl _).symm ?_;exact cv λ_ _ h=>⟨j,h⟩;intro b w L ⟨j,y⟩ D F G;rw[ai (by rw[j];decide)]at f;have l:ea (H.set (H.at m) {H.get (H.at m)with ech:=(H.get (H.at m)).ech++[(m.aK,m.body)]}):=tZ q g rfl (s.1.snoc r.aK r.b R.2.2 j) s.2;exact fin (H.set (H.at m) {H.get (H.at m)with ech:=(H.get (H.at m)).ech++[(m.aK,m.body)]}) ms i ⟨l,p5⟩ aa aa (λh=>.inr (by rw[r8 p5,mC g]at h;exact h)) f b w L y D F G;rw[ai (by rw[e];decide),ai (by rw[e];decide)]at f;have p5:kx H (H.set (H.at m) {H.get (H.at m)with rdy:=(H.get (H.at m)).rdy++[(m.aK,m.body)]}):=lU g rfl;refine dC (E:=mL gl) (c:=w9) (λb w=>Hbm.dy (H.get (H.at m)).rdy m.aK=false/\m5 gl (td H.p (H.get (H.at m)).ptr a m) (ak.sep (bX (H.set (H.at m) {H.get (H.at m)with rdy:=(H.get (H.at m)).rdy++[(m.aK,m.body)]})) (fD a ms i)) b w) ab ab ?_ ?_;refine aoc gl _ _ a m e _ _ _ _ _ _ (s.2.ok q.len q.i64) (q.i64 _ r.aK) aa _ (λj=>?_) (λj=>?_);rw[ah j]at f;rw[bF,bF]at f;have:=tB (H:=H) g (fD a ms i);unfold M3 at this;rw[<-this];exact f;refine a7 (vz g (t:={H.get (H.at m)with rdy:=(H.get (H.at m)).rdy++[(m.aK,m.body)]}) rfl _).symm ?_;exact cv λ_ _ h=>⟨j,h⟩;intro b w L ⟨j,y⟩ D F G;rw[ai (by rw[j];decide)]at f;have l:ea (H.set (H.at m) {H.get (H.at m)with rdy:=(H.get (H.at m)).rdy++[(m.aK,m.body)]}):=tZ q g rfl s.1 (s.2.snoc r.aK r.b R.2.2 j);exact fin (H.set (H.at m) {H.get (H.at m)with rdy:=(H.get (H.at m)).rdy++[(m.aK,m.body)]}) ms i ⟨l,p5⟩ aa aa (λh=>.inr (by rw[r8 p5,mC g]at h;exact h)) f b w L y D F G
end
theorem Bh(H:a8)(A:ak):ak.sep (bX H) A=ak.sep (jF H.p H.me H.mem H.mp) (ak.sep (gR H.mp (iW H.aX)) (ak.sep (gU H.aX) A)):=by unfold bX;ac_rfl
theorem SJ{gl:dF}{rec:a8->aP->ez}{i:a8->aP->Prop}{c K:Nat}(k:vL gl rec i c)(o:tE rec)(l:vO rec K):vL gl (Hbn.iT rec) (LK i) (c+2*K+2):=by refine dD (sp:=U9) pG ab (λz=>by show 3<=hE.ntmps;exact Odt ab) (λz _=>rfl) ?_;rintro⟨H,m,a,ms,j⟩ ⟨e,b,d,f,g,n⟩ _;have b:gD H.mem m:=b;have d:H.at m<H.aX.length:=d;refine a7 (Bh H _) ?_;refine aiN gl H.p a H.mp H.me H.mem m e.len _ (λh=>by rw[b.c]at h;cases h) λ_=>?_;refine a7 (Bh H _).symm ?_;refine aiO gl H e m b a _ λq=>?_;rw[PG d];refine aiP gl k o l e b d a ms j f g n ⟨(),trivial,bR _,?_⟩;show _=ak.sep (bX (Hbn.iT rec H m).1) (fD a (ms++(Hbn.iT rec H m).2.1) (j++(Hbn.iT rec H m).2.2));unfold Hbn.iT;rw[ah b.c]
theorem afK(gl:dF):vL gl (λH _=>(H,[],[])) (λ_ _=>False) 0:=λ_ h=>h.2.2.2.2.2.elim
theorem aiD(gl:dF):vL gl (Hbn.k9 0) (LK λ_ _=>False) 2:=SJ (afK gl) (λH m h _ _=>⟨h,.rfl⟩) (K:=0) (λH m=>⟨aQ _,aQ _⟩)
theorem aeh:tE (Hbn.k9 0):=Ho λH m h _ _=>⟨h,.rfl⟩
theorem adZ:vO (Hbn.k9 0) 2:=Ez (K:=0) λH m=>⟨aQ _,aQ _⟩
theorem aiE(gl:dF):vL gl (Hbn.k9 1) (LK (LK λ_ _=>False)) 8:=SJ (aiD gl) aeh adZ
theorem rec_1:tE (Hbn.k9 1):=Ho aeh
theorem ad0:vO (Hbn.k9 1) 6:=Ez adZ
theorem rec_2:tE (Hbn.k9 2):=Ho rec_1
theorem alw:vO (Hbn.k9 2) 14:=Ez ad0
theorem ajL(H:a8)(m:aP):LK (LK (LK λ_ _=>False)) H m:=by refine⟨λ_ b=>⟨λh=>absurd (show(2:Int)=1 from h) ae,λ_ c a=>⟨λh=>absurd (show(3:Int)=1 from h) ae,λh=>?_⟩⟩,λ_ b a=>⟨λh=>absurd (show(3:Int)=1 from h) ae,λh=>?_⟩⟩;rcases h with h|h;exact absurd (show(3:Int)=1 from h) ae;have h:(c.get (c.at (Hbn.own b 2 m))).ready=false:=h;rw[a]at h;cases h;rcases h with h|h;exact absurd (show(3:Int)=1 from h) ae;have h:(b.get (b.at m)).ready=false:=h;rw[a]at h;cases h
theorem Bo(gl:dF):fk au gl 81 (λz:HIn=>[aT z.H.p,mf z.m,aT z.a]) (λz=>ea z.H/\Bs z.m.body/\z.ms.length+22<=1000/\z.ts.length+22<=1000)
  (λz=>ak.sep (bX z.H) (fD z.a z.ms z.ts)) (λ_ (_:eI)=>.tup []) (λz q=>ak.sep (bX (Hbn.cF z.H z.m q).1) (fD z.a (z.ms++(Hbn.cF z.H z.m q).2.1) (z.ts++(Hbn.cF z.H z.m q).2.2))) (λ_ _=>True):=by
 refine dD (sp:=U9) pG ab (λz=>by show 3<=hE.ntmps;exact Odt ab) (λz _=>rfl) ?_;rintro⟨H,m,a,ms,j⟩ ⟨d,o,f,g⟩ _;refine a7 (Bh H _) ?_;refine aiN gl H.p a H.mp H.me H.mem m d.len _ (λh=>?_) λh=>?_
 ·refine⟨(0,0,0),trivial,bR _,?_⟩;rw[<-Bh];show _=ak.sep (bX (Hbn.cF H m (0,0,0)).1) (fD a (ms++(Hbn.cF H m (0,0,0)).2.1) (j++(Hbn.cF H m (0,0,0)).2.2));have e:Hbn.cF H m (0,0,0)=(H,[],[]):=by
   unfold Hbn.cF;rw[ai (by rw[h];decide)];show Hbn.iT (Hbn.k9 1) H m=_;unfold Hbn.iT;rw[ai (by rw[h];decide)]
  rw[e,bF,bF]
 ·have i:gD H.mem m:=⟨h,o⟩;refine a7 (Bh H _).symm ?_;refine aiO gl H d m i a _ λq=>?_;obtain⟨l,n⟩:=ad5 d i q;have k:(H.of m q).mem=H.mem/\(H.of m q).p=H.p:=by unfold Hbn.a8.of;split<;>exact⟨rfl,rfl⟩
  have b:gD (H.of m q).mem m:=by rw[k.1];exact i
  rw[<-k.2];refine aiP gl (aiE gl) rec_1 ad0 l b n a ms j f g (ajL _ _) ⟨q,trivial,bR _,?_⟩;show _=ak.sep (bX (Hbn.cF H m q).1) (fD a (ms++(Hbn.cF H m q).2.1) (j++(Hbn.cF H m q).2.2));have e:Hbn.cF H m q=Hbn.lq (Hbn.k9 1) (H.of m q) ((H.of m q).at m) m:=by unfold Hbn.cF;rw[ah h];show Hbn.iT (Hbn.k9 1) _ m=_;unfold Hbn.iT;rw[ah b.c]
  rw[e]
end bf
end Go.Proofs.YtofofalgjibokaaGreatDoor
/- The bf: Say, In. -/
namespace Go.Proofs.YtofofalgjibokaaGreatDoor
namespace bf
open Go.Eng.Ob Go.Proofs.Tryz
open Go.Hbn(dd a8 ez)
theorem ZW(a:Nat)(w:World)(M:Mem)(F:Nat->Prop)(h:(ak.obj [[.v (.slice none 0 0),.v (.slice none 0 0)]] a ak.none).P w M F):(fD a [] []).P w M F:=by
 refine PB (Ux 0 0 [] []) (λj i cs l b c=>?_) (by show 1<=3;omega) w M F h;match i,b with
 |0,b=>cases b;obtain⟨d,e,rfl,⟨rfl,_⟩,f,g,rfl,⟨rfl,_⟩,rfl⟩:=c;exact⟨_,rfl,_,_,rfl,.inl ⟨rfl,rfl⟩,_,_,rfl,.inl ⟨rfl,rfl⟩,rfl⟩
theorem ZV(a:Nat)(m:aP)(w:World)(M:Mem)(F:Nat->Prop)(h:(ak.obj [[.sl 1 0 0 1 7,.v (.slice none 0 0)],[.row ig 1 [m]]] a ak.none).P w M F):(fD a [m] []).P w M F:=by
 refine PB (Ux 1 0 [m] []) (λk i cs l b c=>?_) (by show 2<=3;omega) w M F h;match i,b with
 |0,b=>cases b;obtain⟨e,f,rfl,d,g,j,rfl,⟨rfl,_⟩,rfl⟩:=c;exact⟨_,rfl,_,_,rfl,d,_,_,rfl,.inl ⟨rfl,rfl⟩,rfl⟩
 |1,b=>cases b;exact⟨_,rfl,c⟩
theorem Sg:aF au 107 f107:=ek
abbrev n6:Func:=f107
def SyA(p:Nat)(t:Int)(b:LI):St:=ay n6.ntmps 8 [(0,aT p),(1,sJ t),(2,nF b)] []
def SyB(p:Nat)(t:Int)(b:LI):St:=ay n6.ntmps 8 [(0,aT p),(1,sJ t),(2,nF b),(10,aT p)] []
def SyC(t:Int)(b:LI)(a:Int)(mem:LI)(c:Nat):St:=ay n6.ntmps 9 [(0,al 8 0),(1,sJ t),(2,nF b)] [(8,dW a mem c)]
def SyD(m:aP)(a:Int)(mem:LI)(b:Nat):St:=ay n6.ntmps 106 [(0,al 8 0),(8,al 105 0)] [(105,df m),(8,dW a mem b)]
def SyE(p:Nat)(m:aP):St:=ay n6.ntmps 106 [(0,aT p),(8,al 105 0)] [(105,df m)]
def SyG(p:Nat)(m:aP):St:=ay n6.ntmps 131 [(0,aT p),(8,al 105 0),(9,al 130 0)] [(105,df m),(130,[.sl 114 0 0 1 7,.v (.slice none 0 0)]),(114,[.row ig 1 [m]])]
def SyH(p a:Nat)(m:aP):St:=ay n6.ntmps 106 [(0,aT p),(8,al 105 0),(9,aT a)] [(105,df m)]
def SyI(p a:Nat)(m:aP):St:=ay n6.ntmps 8 [(9,aT a),(27,aT p),(28,mf m)] []
def SyJ(a:Nat):St:=ay n6.ntmps 8 [(9,aT a)] []
def SyK(n k:Nat)(ms:List aP)(a:List Hbm.Told):St:=ay n6.ntmps 11 [(9,al 8 0)] [(8,[.sl 9 0 0 n 7,.sl 10 0 0 k 3]),(9,[.row ig n ms]),(10,[.row eU k a])]
def SyL(n k:Nat)(ms:List aP)(a:List Hbm.Told):St:=ay n6.ntmps 11 [(6,ag (.sl 9 0 0 n 7)),(7,ag (.sl 10 0 0 k 3))] [(8,[.sl 9 0 0 n 7,.sl 10 0 0 k 3]),(9,[.row ig n ms]),(10,[.row eU k a])]
def SyN(ms:List aP)(a:List Hbm.Told):St:=ay n6.ntmps 8 [(6,ag (.ro ig ms)),(7,ag (.ro eU a))] []
abbrev NL:=bw [sF]
theorem mz:aS au NL:=aV wM bY
section
variable (gl:dF)[W3]
abbrev Gf:cJ:=mO au NL gl
abbrev GS:=GH (Gf gl) n6.ntmps
theorem akX(p c:Nat)(a:Int)(mem:LI)(t:Int)(b:LI)(e:b.length<1048576)(d:mem≠[])(R:ak){n r:aA}{x:Nat->aA}(h:aR au ((aq n6).drop 4) (GS gl (SyE p (1,0,a,a,t,0,b)) (ak.sep (jF p a mem c) R)) n r x):
  aR au (aq n6) (GS gl (lK n6 [aT p,sJ t,nF b] [] 0) (ak.sep (jF p a mem c) R)) n r x:=by
 refine e6 mz 1 (SyA p t b) ?_;refine eX 1 (bS (ar (aq n6) 1)) ?_;refine eG mz 1 (SyB p t b) ?_;refine ju (E:=Gf gl) (cT (λ_=>R) (K0 gl)) (p,a,mem,c) d jV (λ_ _=>?_);refine eK ?_;refine fF (ar (aq n6) 2) ?_;refine fh (SyA p t b) ?_;refine a7 (bZ _ _ _).symm ?_;refine jJ [0] (SyC t b a mem c) ?_;refine gcd mz 1 (λ_=>()) (λ_=>SyD (1,0,a,a,t,0,b) a mem c) (λ_=>True) ?_ (λ_ _=>?_);intros;refine @av (re (b,())/\(SyD (1,0,a,a,t,0,b) a mem c).aj True) _ ?_ ?_;kernel_rfl;exact⟨e,aw trivial⟩;refine gQ (E:=Gf gl) (bl:=[dW a mem c]) [105] [8] 9 (SyE p (1,0,a,a,t,0,b)) ?_;exact a7 (E:=Gf gl) (bZ _ _ _) h
theorem akY(p:Nat)(m:aP)(G:ak){n r:aA}{x:Nat->aA}(h:∀a,aR au ((aq n6).drop 5) (GS gl (SyH p a m) (ak.sep G (fD a [m] []))) n r x):
  aR au ((aq n6).drop 4) (GS gl (SyE p m) G) n r x:=by
 obtain⟨mk,b,c,e,mt,d,mb⟩:=m;refine e6 mz 1 (SyG p (mk,b,c,e,mt,d,mb)) ?_;refine Bf (E:=Gf gl) (bl:=[[.sl 1 0 0 1 7,.v (.slice none 0 0)],[.row ig 1 [(mk,b,c,e,mt,d,mb)]]]) 9 [105] [130,114] rfl ab ab ab ab rfl ab (λa=>SyH p a (mk,b,c,e,mt,d,mb)) (λa=>aB ab ab trivial) (λa=>?_);refine a7 ((bZ _ _ _).trans (gf _ _)) ?_;refine Ob.FB (E:=Gf gl) (G':=ak.sep G (fD a [(mk,b,c,e,mt,d,mb)] [])) ?_ (h a);rintro w M F ⟨f,F2,g,i,j,k⟩;exact⟨f,F2,g,ZV a _ w M F2 i,j,k⟩
theorem ak0(a:Nat)(ms:List aP)(b:List Hbm.Told)(G:ak){Q:SV->ak->Prop}(c:Q (.tup [.one (.ro ig ms),.one (.ro eU b)]) G):
  aR au ((aq n6).drop 6) (GS gl (SyJ a) (ak.sep G (fD a ms b))) (du (Gf gl) n6 Q) (du (Gf gl) n6 Q) (λ_ _ _=>False):=by
 rw[<-AX a ms.length b.length ms b rfl rfl G];refine jJ [9] (SyK ms.length b.length ms b) ?_;refine e6 mz 1 (SyL ms.length b.length ms b) ?_;refine Mg 6 9 ms.length 7 ig ms ?_;refine Mg 7 10 b.length 3 eU b ?_;refine Mh (E:=Gf gl) rfl 8 a 9 ?_;refine fh (SyN ms b) ?_;exact tP mz _ c
theorem akZ(p a:Nat)(m:aP)(G:ak){n r:aA}{x:Nat->aA}(h:lV au (bS (ar (aq n6) 5)) 2 ((aq n6).drop 6) (GS gl (SyI p a m) G) n r x):
  aR au ((aq n6).drop 5) (GS gl (SyH p a m) G) n r x:=by
 obtain⟨mk,b,c,e,mt,d,mb⟩:=m;refine eX 5 (bS (ar (aq n6) 5)) ?_;refine iS mz 2 (λ_=>()) (λ_=>SyI p a (mk,b,c,e,mt,d,mb)) (λ_=>True) ?_ (λ_ _=>h);intros;refine @av ((SyI p a (mk,b,c,e,mt,d,mb)).aj True) _ ?_ ?_;kernel_rfl;exact aw trivial
end
theorem ajs(gl:dF):fk au gl 107 (λz:a8×Int×LI=>[aT z.1.p,sJ z.2.1,nF z.2.2]) (λz=>ea z.1/\Bs z.2.2/\z.2.2.length<1048576)
  (λz=>bX z.1) (λz (q:eI)=>.tup [.one (.ro ig (Hbn.jC z.1 z.2.1 z.2.2 q).2.1),.one (.ro eU (Hbn.jC z.1 z.2.1 z.2.2 q).2.2)]) (λz q=>bX (Hbn.jC z.1 z.2.1 z.2.2 q).1) (λ_ _=>True):=by
 refine dD (sp:=NL) Sg ab (λz=>by show 3<=n6.ntmps;exact Odt ab) (λz _=>rfl) ?_;rintro⟨H,t,b⟩ ⟨d,e,c⟩ _;have c:b.length<1048576:=c;refine a7 (G':=ak.sep (jF H.p H.me H.mem H.mp) (ak.sep (gR H.mp (iW H.aX)) (gU H.aX))) rfl ?_;refine akX gl H.p H.mp H.me H.mem t b c d.ne _ ?_;refine a7 (G':=bX H) rfl ?_;refine akY gl H.p (1,0,H.me,H.me,t,0,b) _ λa=>?_;refine akZ gl H.p a _ _ ?_;refine ju (E:=Gf gl) (Bo gl) ⟨H,(1,0,H.me,H.me,t,0,b),a,[(1,0,H.me,H.me,t,0,b)],[]⟩ ⟨d,e,by show 1+22<=1000;omega,by show 0+22<=1000;omega⟩ pG (λq _=>?_);refine eK ?_;refine fh (SyJ a) ?_;exact ak0 gl a _ _ _ ⟨q,trivial,bR _,rfl⟩
theorem WX:aF au 46 f46:=ek
abbrev qC:Func:=f46
def InA(p:Nat)(m:aP):St:=ay qC.ntmps 8 [(0,aT p),(3,al 0 0)] [(0,df m)]
def InB(p:Nat)(m:aP):St:=ay qC.ntmps 8 [(0,aT p),(3,al 0 0),(7,aT p)] [(0,df m)]
def InC(p:Nat)(m:aP):St:=ay qC.ntmps 9 [(0,aT p),(3,al 0 0),(6,al 8 0)] [(8,[.v (.slice none 0 0),.v (.slice none 0 0)]),(0,df m)]
def InD(p a:Nat)(m:aP):St:=ay qC.ntmps 8 [(0,aT p),(3,al 0 0),(6,aT a)] [(0,df m)]
def InE(p a:Nat)(m:aP):St:=ay qC.ntmps 8 [(6,aT a),(9,aT p),(10,mf m)] []
def InJ(a:Nat):St:=ay qC.ntmps 8 [(6,aT a)] []
def InK(n k:Nat)(ms:List aP)(a:List Hbm.Told):St:=ay qC.ntmps 11 [(6,al 8 0)] [(8,[.sl 9 0 0 n 7,.sl 10 0 0 k 3]),(9,[.row ig n ms]),(10,[.row eU k a])]
def InL(n k:Nat)(ms:List aP)(a:List Hbm.Told):St:=ay qC.ntmps 11 [(4,ag (.sl 9 0 0 n 7)),(5,ag (.sl 10 0 0 k 3))] [(8,[.sl 9 0 0 n 7,.sl 10 0 0 k 3]),(9,[.row ig n ms]),(10,[.row eU k a])]
def InN(ms:List aP)(a:List Hbm.Told):St:=ay qC.ntmps 8 [(4,ag (.ro ig ms)),(5,ag (.ro eU a))] []
section
variable (gl:dF)[W3]
abbrev Dr:cJ:=mO au NL gl
theorem anR(p g:Nat)(f:Int)(mem:LI)(m:aP)(j:mem≠[])(R:ak){n r:aA}{x:Nat->aA}(h:∀a,lV au (bS (ar (aq qC) 4)) 2 ((aq qC).drop 5) (GH (Dr gl) qC.ntmps (InE p a m) (ak.sep (ak.sep (jF p f mem g) R) (fD a [] []))) n r x):
  aR au (aq qC) (GH (Dr gl) qC.ntmps (lK qC [aT p,mf m] [] 0) (ak.sep (jF p f mem g) R)) n r x:=by
 obtain⟨mk,b,c,e,mt,d,mb⟩:=m;refine e6 mz 1 (InA p (mk,b,c,e,mt,d,mb)) ?_;refine eX 1 (bS (ar (aq qC) 1)) ?_;refine eG mz 1 (InB p (mk,b,c,e,mt,d,mb)) ?_;refine ju (E:=Dr gl) (cT (λ_=>R) (K0 gl)) (p,f,mem,g) j jV (λ_ _=>?_);refine eK ?_;refine fF (ar (aq qC) 2) ?_;refine e6 mz 1 (InC p (mk,b,c,e,mt,d,mb)) ?_;refine Bf (E:=Dr gl) (bl:=[[.v (.slice none 0 0),.v (.slice none 0 0)]]) 6 [0] [8] rfl ab ab ab ab rfl ab (λa=>InD p a (mk,b,c,e,mt,d,mb)) (λa=>aB ab ab trivial) (λa=>?_);refine a7 ((bZ _ _ _).trans (gf _ _)) ?_;refine Ob.FB (E:=Dr gl) (G':=ak.sep (ak.sep (jF p f mem g) R) (fD a [] [])) ?_ ?_;rintro w M F ⟨i,F2,k,l,o,q⟩;exact⟨i,F2,k,ZW a w M F2 l,o,q⟩;refine eX 4 (bS (ar (aq qC) 4)) ?_;refine iS mz 2 (λ_=>()) (λ_=>InE p a (mk,b,c,e,mt,d,mb)) (λ_=>True) ?_ (λ_ _=>h a);intros;refine @av ((InE p a (mk,b,c,e,mt,d,mb)).aj True) _ ?_ ?_;kernel_rfl;exact aw trivial
theorem anS(a:Nat)(ms:List aP)(b:List Hbm.Told)(G:ak){Q:SV->ak->Prop}(c:Q (.tup [.one (.ro ig ms),.one (.ro eU b)]) G):
  aR au ((aq qC).drop 5) (GH (Dr gl) qC.ntmps (InJ a) (ak.sep G (fD a ms b))) (du (Dr gl) qC Q) (du (Dr gl) qC Q) (λ_ _ _=>False):=by
 rw[<-AX a ms.length b.length ms b rfl rfl G];refine jJ [6] (InK ms.length b.length ms b) ?_;refine e6 mz 1 (InL ms.length b.length ms b) ?_;refine Mg 4 9 ms.length 7 ig ms ?_;refine Mg 5 10 b.length 3 eU b ?_;refine Mh (E:=Dr gl) rfl 8 a 9 ?_;refine fh (InN ms b) ?_;exact tP mz _ c
end
theorem aly(gl:dF):fk au gl 46 (λz:a8×aP=>[aT z.1.p,mf z.2]) (λz=>ea z.1/\Bs z.2.body)
  (λz=>bX z.1) (λz (q:eI)=>.tup [.one (.ro ig (Hbn.cF z.1 z.2 q).2.1),.one (.ro eU (Hbn.cF z.1 z.2 q).2.2)]) (λz q=>bX (Hbn.cF z.1 z.2 q).1) (λ_ _=>True):=by
 refine dD (sp:=NL) WX ab (λz=>by show 2<=qC.ntmps;exact Odt ab) (λz _=>rfl) ?_;rintro⟨H,m⟩ ⟨b,c⟩ _;refine a7 (G':=ak.sep (jF H.p H.me H.mem H.mp) (ak.sep (gR H.mp (iW H.aX)) (gU H.aX))) rfl ?_;refine anR gl H.p H.mp H.me H.mem m b.ne _ λa=>?_;refine iM (E:=Dr gl) (G':=ak.sep (bX H) (fD a [] [])) rfl ?_;refine ju (E:=Dr gl) (Bo gl) ⟨H,m,a,[],[]⟩ ⟨b,c,by show 0+22<=1000;omega,by show 0+22<=1000;omega⟩ pG (λq _=>?_);refine eK ?_;refine fh (InJ a) ?_;exact anS gl a _ _ _ ⟨q,trivial,bR _,rfl⟩
end bf
end Go.Proofs.YtofofalgjibokaaGreatDoor
/- deal: function literals that capture variables, and slices.IndexFunc over them. -/
namespace Go.Eng
open Go.IntKind(i64)
def eY{a:Type}(p:a->Bool)(xs:List a):Int:=if xs.findIdx p<xs.length then(xs.findIdx p:Int)else -1
theorem xH{b:Type}{p:b->Bool}{a:List b}{k:Nat}(d:b)(g:k<a.length)(h:k<=a.findIdx p)(f:p (a.getD k d)=true):(k:Int)=eY p a:=by
 have e:a.findIdx p=k:=by rcases cG k (a.findIdx p)with c|c;have:=List.not_of_lt_findIdx c;rw[bx,bO g,c7]at f;rw[f]at this;cases this;omega
 rw[eY,e,ah g]
theorem tf{b:Type}{p:b->Bool}{xs:List b}{k:Nat}(d:b)(f:k<xs.length)(h:k<=xs.findIdx p)(a:p (xs.getD k d)=false):k+1<=xs.findIdx p:=by
 rcases cG k (xs.findIdx p)with c|c;exact c
 ·have e:xs.findIdx p=k:=by omega
  have:=sH (p:=p) (xs:=xs) (w:=by omega);rw[bx,bO f,c7]at a;simp only[e]at this;rw[this]at a;cases a
theorem ve{b:Type}{p:b->Bool}{a:List b}(h:a.length<=a.findIdx p):eY p a=-1:=by rw[eY,ai aa]
end Go.Eng
namespace Go.Proofs.YtofofalgjibokaaGreatDoor
namespace deal
open Go.Proofs.YtofofalgjibokaaGreatDoor.law14 Go.Proofs.YtofofalgjibokaaGreatDoor.poly Go.Proofs.Tryz
open Go.IntKind(i64)
abbrev ed:Kd:=.pair (.int .i64) (.sl bM)
abbrev dX:Kd:=.pair (.int .i64) (.pair (.int .i64) .fr)
abbrev iK:Kd:=.int .i64
theorem aao:aF au 152 f152:=ek
theorem Sp:bu au 152 [ed,.ptr iK] [.val .bool] cx (λ_=>True) (λ(d,x,_)=>(d.1==x,())):=by refine bH (sp:=bw []) bY ao aao ae ae ?_;rintro w a ⟨d,x,⟨⟩⟩;revert x;intro(x:Int) _ _;refine av (X:=(0<[x].length/\(d.fst==x,())=(d.fst==x,()))) ab ?_;exact⟨oV,rfl⟩
def Zh:=aZ Sp
abbrev WI:Kd:=.cap (.fn 152) iK
theorem afe:aF au 109 f109:=ek
def Vc(a:List (Int×cj))(x:Int)(g:Int):St:=ay f109.ntmps 32 [(0,ag (.ro (ed) a)),(1,ag (.fv WI ((),x))),(7,sJ a.length),(8,sJ g)] []
theorem ah9:bu au 109 [.sl (ed),WI] [.val iK] cx (λ(a,_,_)=>length a<2^62) (λ(a,(_,x),_)=>(eY (λd:Int×cj=>d.1==x) a,())):=by
 have e:aS au (bw [Zh]):=aV (a2 Sp) bY;refine cu (sp:=bw [Zh]) afe ae ae ab ?_;rintro w p ⟨a,⟨⟨⟩,x⟩,⟨⟩⟩;revert a x;intro(a:List (Int×cj)) (x:Int) _ m;have m:a.length<2^62:=m;show Tr _ _ _ _ _ _ _;refine bN e ao 2 (Vc a x 0) True ?_ (λ_=>?_);refine av (X:=((Vc a x 0).aj True)) ab ?_;exact aw trivial;refine c2 e ao jH (λo=>bL (.int .i64) 8 o) (Vc a x) (λg=>∃k:Nat,k<=a.length/\g=(k:Int)/\k<=a.findIdx (λd:Int×cj=>d.1==x)) (λg=>a.length-g.toNat)
  (λ_=>()) (λ_=>ay f109.ntmps 32 [] []) (λ_=>a.length<=a.findIdx (λd:Int×cj=>d.1==x)) 0 (c:=ar (aq f109) 2) ab ab (aB ab ab ?_) ?_ ?_
 exact⟨0,aY _,rfl,aY _⟩
 ·intro(i:Int) ⟨k,q,n,j⟩;subst n;refine av (X:=((decide ((k:Int)<(a.length:Int))=true->(0<=(k:Int)/\(k:Int)<(a.length:Int))/\(k:Int).toNat<a.length/\True/\(((a.getD (k:Int).toNat (0,[])).fst==x)=true->((k:Int),())=(eY (λd=>d.fst==x) a,()))/\(((a.getD (k:Int).toNat (0,[])).fst==x)=false->(Vc a x (i64.wrap ((k:Int)+1))).aj ((∃f,f<=a.length/\i64.wrap ((k:Int)+1)=(f:Int)/\f<=List.findIdx (λd=>d.fst==x) a)/\a.length-(i64.wrap ((k:Int)+1)).toNat<a.length-(k:Int).toNat)))/\(decide ((k:Int)<(a.length:Int))=false->(ay f109.ntmps 32 [] []).aj (a.length<=List.findIdx (λd=>d.fst==x) a)))) ab ?_;rw[aJ];refine⟨λh=>?_,λh=>aw (by have:=cL h;omega)⟩;have b:k<a.length:=by have:=cM h;omega
  rw[a5 aa];refine⟨⟨aa,aa⟩,b,trivial,λl=>?_,λl=>aw ⟨⟨k+1,b,rfl,tf ((0:Int),([]:cj)) b j (by exact l)⟩,by rw[aJ];omega⟩⟩;show((k:Int),())=(eY _ a,());rw[xH ((0:Int),([]:cj)) b j (by exact l)]
 rintro⟨⟩ (j:_<=_);refine cq e ao _ _ ?_;refine av (X:=(((-1:Int),())=(eY (λd=>d.fst==x) a,()))) ab ?_;show _=(eY _ a,());rw[ve j]
theorem aaq:aF au 114 f114:=ek
theorem Sr:bu au 114 [ed,.ptr iK] [.val .bool] cx (λ_=>True) (λ(d,x,_)=>(d.1==x,())):=by refine bH (sp:=bw []) bY ao aaq ae ae ?_;rintro w a ⟨d,x,⟨⟩⟩;revert x;intro(x:Int) _ _;refine av (X:=(0<[x].length/\(d.fst==x,())=(d.fst==x,()))) ab ?_;exact⟨oV,rfl⟩
def Zi:=aZ Sr
abbrev WJ:Kd:=.cap (.fn 114) iK
theorem afg:aF au 109 f109:=ek
def Ve(a:List (Int×cj))(x:Int)(g:Int):St:=ay f109.ntmps 32 [(0,ag (.ro (ed) a)),(1,ag (.fv WJ ((),x))),(7,sJ a.length),(8,sJ g)] []
theorem aib:bu au 109 [.sl (ed),WJ] [.val iK] cx (λ(a,_,_)=>length a<2^62) (λ(a,(_,x),_)=>(eY (λd:Int×cj=>d.1==x) a,())):=by
 have e:aS au (bw [Zi]):=aV (a2 Sr) bY;refine cu (sp:=bw [Zi]) afg ae ae ab ?_;rintro w p ⟨a,⟨⟨⟩,x⟩,⟨⟩⟩;revert a x;intro(a:List (Int×cj)) (x:Int) _ m;have m:a.length<2^62:=m;show Tr _ _ _ _ _ _ _;refine bN e ao 2 (Ve a x 0) True ?_ (λ_=>?_);refine av (X:=((Ve a x 0).aj True)) ab ?_;exact aw trivial;refine c2 e ao jH (λo=>bL (.int .i64) 8 o) (Ve a x) (λg=>∃k:Nat,k<=a.length/\g=(k:Int)/\k<=a.findIdx (λd:Int×cj=>d.1==x)) (λg=>a.length-g.toNat)
  (λ_=>()) (λ_=>ay f109.ntmps 32 [] []) (λ_=>a.length<=a.findIdx (λd:Int×cj=>d.1==x)) 0 (c:=ar (aq f109) 2) ab ab (aB ab ab ?_) ?_ ?_
 exact⟨0,aY _,rfl,aY _⟩
 ·intro(i:Int) ⟨k,q,n,j⟩;subst n;refine av (X:=((decide ((k:Int)<(a.length:Int))=true->(0<=(k:Int)/\(k:Int)<(a.length:Int))/\(k:Int).toNat<a.length/\True/\(((a.getD (k:Int).toNat (0,[])).fst==x)=true->((k:Int),())=(eY (λd=>d.fst==x) a,()))/\(((a.getD (k:Int).toNat (0,[])).fst==x)=false->(Ve a x (i64.wrap ((k:Int)+1))).aj ((∃f,f<=a.length/\i64.wrap ((k:Int)+1)=(f:Int)/\f<=List.findIdx (λd=>d.fst==x) a)/\a.length-(i64.wrap ((k:Int)+1)).toNat<a.length-(k:Int).toNat)))/\(decide ((k:Int)<(a.length:Int))=false->(ay f109.ntmps 32 [] []).aj (a.length<=List.findIdx (λd=>d.fst==x) a)))) ab ?_;rw[aJ];refine⟨λh=>?_,λh=>aw (by have:=cL h;omega)⟩;have b:k<a.length:=by have:=cM h;omega
  rw[a5 aa];refine⟨⟨aa,aa⟩,b,trivial,λl=>?_,λl=>aw ⟨⟨k+1,b,rfl,tf ((0:Int),([]:cj)) b j (by exact l)⟩,by rw[aJ];omega⟩⟩;show((k:Int),())=(eY _ a,());rw[xH ((0:Int),([]:cj)) b j (by exact l)]
 rintro⟨⟩ (j:_<=_);refine cq e ao _ _ ?_;refine av (X:=(((-1:Int),())=(eY (λd=>d.fst==x) a,()))) ab ?_;show _=(eY _ a,());rw[ve j]
theorem aas:aF au 159 f159:=ek
theorem Su:bu au 159 [iK,.ptr iK] [.val .bool] cx (λ_=>True) (λ(d,x,_)=>(d==x,())):=by refine bH (sp:=bw []) bY ao aas ae ae ?_;rintro w a ⟨d,x,⟨⟩⟩;revert x;intro(x:Int) _ _;refine av (X:=(0<[x].length/\(d==x,())=(d==x,()))) ab ?_;exact⟨oV,rfl⟩
def Zj:=aZ Su
abbrev WL:Kd:=.cap (.fn 159) iK
theorem afi:aF au 158 f158:=ek
def Vg(a:List (Int))(x:Int)(g:Int):St:=ay f158.ntmps 32 [(0,ag (.ro (iK) a)),(1,ag (.fv WL ((),x))),(7,sJ a.length),(8,sJ g)] []
theorem aid:bu au 158 [.sl (iK),WL] [.val iK] cx (λ(a,_,_)=>length a<2^62) (λ(a,(_,x),_)=>(eY (λd:Int=>d==x) a,())):=by
 have e:aS au (bw [Zj]):=aV (a2 Su) bY;refine cu (sp:=bw [Zj]) afi ae ae ab ?_;rintro w p ⟨a,⟨⟨⟩,x⟩,⟨⟩⟩;revert a x;intro(a:List (Int)) (x:Int) _ m;have m:a.length<2^62:=m;show Tr _ _ _ _ _ _ _;refine bN e ao 2 (Vg a x 0) True ?_ (λ_=>?_);refine av (X:=((Vg a x 0).aj True)) ab ?_;exact aw trivial;refine c2 e ao jH (λo=>bL (.int .i64) 8 o) (Vg a x) (λg=>∃k:Nat,k<=a.length/\g=(k:Int)/\k<=a.findIdx (λd:Int=>d==x)) (λg=>a.length-g.toNat)
  (λ_=>()) (λ_=>ay f158.ntmps 32 [] []) (λ_=>a.length<=a.findIdx (λd:Int=>d==x)) 0 (c:=ar (aq f158) 2) ab ab (aB ab ab ?_) ?_ ?_
 exact⟨0,aY _,rfl,aY _⟩
 ·intro(i:Int) ⟨k,q,n,j⟩;subst n;refine av (X:=((decide ((k:Int)<(a.length:Int))=true->(0<=(k:Int)/\(k:Int)<(a.length:Int))/\(k:Int).toNat<a.length/\True/\((a.getD (k:Int).toNat 0==x)=true->((k:Int),())=(eY (λd=>d==x) a,()))/\((a.getD (k:Int).toNat 0==x)=false->(Vg a x (i64.wrap ((k:Int)+1))).aj ((∃f,f<=a.length/\i64.wrap ((k:Int)+1)=(f:Int)/\f<=List.findIdx (λd=>d==x) a)/\a.length-(i64.wrap ((k:Int)+1)).toNat<a.length-(k:Int).toNat)))/\(decide ((k:Int)<(a.length:Int))=false->(ay f158.ntmps 32 [] []).aj (a.length<=List.findIdx (λd=>d==x) a)))) ab ?_;rw[aJ];refine⟨λh=>?_,λh=>aw (by have:=cL h;omega)⟩;have b:k<a.length:=by have:=cM h;omega
  rw[a5 aa];refine⟨⟨aa,aa⟩,b,trivial,λl=>?_,λl=>aw ⟨⟨k+1,b,rfl,tf (0:Int) b j (by exact l)⟩,by rw[aJ];omega⟩⟩;show((k:Int),())=(eY _ a,());rw[xH (0:Int) b j (by exact l)]
 rintro⟨⟩ (j:_<=_);refine cq e ao _ _ ?_;refine av (X:=(((-1:Int),())=(eY (λd=>d==x) a,()))) ab ?_;show _=(eY _ a,());rw[ve j]
end deal
end Go.Proofs.YtofofalgjibokaaGreatDoor
open Go.IntKind(i64)
/- deal: slices.Clone, taken. -/
namespace Go.Proofs.YtofofalgjibokaaGreatDoor
namespace deal
open law14 poly
theorem WZ:aF au 31 Tryz.f31:=ek
abbrev yH:HL [.sl bM]->Prop:=λ(c,_)=>length c<1048576
theorem Cf:bu au 31 [.sl bM] [.own bM] cx yH (λ(c,_)=>(c,())):=by have a:aS au (bw []):=bY;refine zL (sp:=bw []) WZ ae ae ab ?_ ?_;rintro w d ⟨⟩ _ b;show Tr _ _ _ _ _ _ _;refine cq a ao _ _ ?_;refine av (X:=((([]:cj),())=(([]:cj),()))) ab rfl;rintro w d c ⟨⟩ _ _ b;revert c;intro(c:cj) _ b;have b:c.length<1048576:=b;show Tr _ _ _ _ _ _ _;refine cq a ao _ _ ?_;refine av (X:=(0<=0/\(0+c.length)*96<=2^47/\0+c.length<=2^62/\0+(0+c.length)<=0+c.length/\(take (0+c.length) (take 0 []++c),())=(c,()))) ab ?_;rw[wc,gK,cy,bg];exact⟨aQ _,aa,aa,aa,rfl⟩
def Lr:=aZ Cf
theorem aj8:∀{b:LI}{a:Int},iD a b=true->∀x∈b,a<x/\x<=9:=by
 intro b;induction b with
 |nil=>intro a _ x hx;cases hx
 |cons y b c=>intro a h x hx;rw[iD]at h;split at h;cases h;rcases mem_cons.1 hx with rfl|hx;omega;have:=c h x hx;omega
theorem Xb:aF au 113 Tryz.f113:=ek
def dL(d:LI)(o:cj)(q:LI):LI×cO×Int:=
 if iD 0 q=true/\EI d o<=(q.length:Int)then(if o.length=0 then(q,[],0)else(q.take o.length,oN (q.take o.length),o5 [] (q.take o.length)))else([],[],32)
abbrev Qb:HL [kz,.sl iK]->Prop:=λ((_,_,_,o),q,_)=>length o<1048576/\length q<2^62
abbrev ET:HL [kz,.sl iK]->HO [.val (.sl iK),.own .fr,.val iK]:=λ((d,_,_,o),q,_)=>((dL d o q).1,(dL d o q).2.1,(dL d o q).2.2,())
theorem Hh:bu au 113 [kz,.sl iK] [.val (.sl iK),.own .fr,.val iK] cx Qb ET:=by
 refine bH (sp:=bw [QD,ag3,BM,Zp]) (aV (a2 Em) (aV (a2 Ov) (aV (a2 yi) (aV (a2 IJ) bY)))) ao Xb ae ae ?_;rintro w p ⟨⟨d,t,n,o⟩,q,⟨⟩⟩;revert d t n o q;intro(d:LI) (t:LI) (n:Int) (o:cj) (q:LI) _ l;obtain⟨g,f⟩:=l;have g:o.length<1048576:=g;have f:q.length<2^62:=f;refine av (X:=(Jm (q,())/\((!iD 0 q)=true->([],[],32,())=ET ((d,t,n,o),q,()))/\((!iD 0 q)=false->True/\(decide ((q.length:Int)<EI d o)=true->([],[],32,())=ET ((d,t,n,o),q,()))/\(decide ((q.length:Int)<EI d o)=false->True/\(((o.length:Int)==0)=true->(q,[],0,())=ET ((d,t,n,o),q,()))/\(((o.length:Int)==0)=false->(0<=(o.length:Int)/\(o.length:Int)<=(q.length:Int))/\Jn (take ((o.length:Int)-0).toNat q,())/\0+(oN (take ((o.length:Int)-0).toNat q)).length<=(oN (take ((o.length:Int)-0).toNat q)).length/\(take ((o.length:Int)-0).toNat q,take (oN (take ((o.length:Int)-0).toNat q)).length (oN (take ((o.length:Int)-0).toNat q)),o5 [] (take ((o.length:Int)-0).toNat q),())=ET ((d,t,n,o),q,())))))) ab ?_;have j:((o.length:Int)-0).toNat=o.length:=aa;rw[j];refine⟨f,λh=>?_,λh=>⟨trivial,λa=>?_,λa=>⟨trivial,λb=>?_,λb=>?_⟩⟩⟩;show _=((dL d o q).1,(dL d o q).2.1,(dL d o q).2.2,());rw[dL,ai (λc=>by rw[c.1]at h;cases h)];show _=((dL d o q).1,(dL d o q).2.1,(dL d o q).2.2,());rw[dL,ai (λc=>by have:=Odt a;omega)];show _=((dL d o q).1,(dL d o q).2.1,(dL d o q).2.2,());have b:(o.length:Int)=0:=eq_of_beq b;have a:=Odf a;rw[dL,ah ⟨by simpa using h,aa⟩,ah aa]
 ·have k:=b;have b:¬(o.length:Int)=0:=λc=>by rw[c]at b;simp at b
  have a:=Odf a;have i:iD 0 q=true:=by simpa using h
  have el:EI d o=(o.length:Int):=by rw[EI,ah (by rw[k];rfl)]
  have e:(o.length:Int)<=q.length:=by rw[el]at a;omega
  refine⟨⟨aa,e⟩,⟨by show(q.take o.length).length<_;rw[c6];omega,λx m=>?_⟩,aa,?_⟩;have:=aj8 i x (kJ m);exact⟨aa,aa⟩;rw[bg];show _=((dL d o q).1,(dL d o q).2.1,(dL d o q).2.2,());rw[dL,ah ⟨i,aa⟩,ai aa]
def F3:=aZ Hh
end deal
end Go.Proofs.YtofofalgjibokaaGreatDoor
/- deal: Join. -/
namespace Go.Proofs.YtofofalgjibokaaGreatDoor
namespace deal
open law14 poly Go.Proofs.Tryz
abbrev Dl:Type:=Int×cj
def je(a:List Dl)(x:Int):Int:=gA (eY (λd:Dl=>d.1==x) a)
abbrev Xy:=aib.ou (λ(a,(_,x),_)=>(je a x,())) λ(a,(_,x),_)=>by show(je a x,())=(eY (λd:Dl=>d.1==x) a,());rw[je,bq]
def aet:=aZ Xy
def dp(a:List Dl)(x:Int):cj:=(a.getD (je a x).toNat (0,[])).2
def o0(a:List Dl)(n x:Int):Bool:=decide (0<=je a x)&&decide (((dp a x).length:Int)=n)
def jW(ws:cO)(k:Nat)(c:cj):cj:=if ws.length=0 then c else c.map λp=>g1.dt p (ws.getD k 0)
def jS(a:List Dl)(b:LI)(ws:cO):Nat->cj
 |0=>[]
 |k+1=>kC (jS a b ws k) (jW ws k (dp a (b.getD k 0)))
def xq(n:Int)(b:List Dl)(a:LI)(ws:cO)(e:Int):cj×Int:=if e=0 then(if a.all (o0 b n)=true then(jS b a ws a.length,0)else([],41))else([],e)
def pM(d:LI)(n:Int)(o:cj)(q:LI)(a:List Dl):cj×Int:=xq n a (dL d o q).1 (dL d o q).2.1 (dL d o q).2.2
theorem T1(d:LI)(o:cj)(q:LI):(dL d o q).1.length<=q.length/\((dL d o q).2.2=0->(dL d o q).2.1.length=0\/(dL d o q).2.1.length=(dL d o q).1.length):=by unfold dL;split;split;exact⟨aQ _,λ_=>.inl rfl⟩;refine⟨by rw[c6];exact Nat.min_le_right _ _,λh=>.inr ?_⟩;show(oN _).length=_;rw[oN,ah h,b5];exact⟨aY _,λh=>absurd h ae⟩
theorem aat:aF au 71 f71:=ek
abbrev Tz:HL [kz,.sl iK,.sl ed]->Prop:=λ((_,_,n,o),q,a,_)=>length o<1048576/\length q<2^62/\length a<2^62/\n<1048576
def AI(f:Fp×Fp->Fp×Fp)(c:cj)(j:Nat):cj:=(c.take j).map f++c.drop j
theorem Yb(f:Fp×Fp->Fp×Fp)(c:cj){j:Nat}(h:j<c.length):(AI f c j).set j (f ((AI f c j).getD j (0,0)))=AI f c (j+1):=by
 have a:(AI f c j).getD j (0,0)=c[j]:=by rw[AI,bx,vP (by simp;omega)];simp[h,jR (wi h)]
 rw[a,AI,AI,sj _ _ (by simp;omega),dA h,cE];have b:j-((c.take j).map f).length=0:=by simp;omega
 rw[b,pd h,qF,cZ];rfl
def ajd(c:cj)(f:Fp×Fp->Fp×Fp)(g:Int×cj):Prop:=∃j:Nat,j<=c.length/\g.1=(j:Int)/\g.2=AI f c j
def joJ(n:Int)(b:List Dl)(a:LI)(ws:cO)(g:Int×cj):Prop:=∃k:Nat,k<=a.length/\g.1=(k:Int)/\g.2=jS b a ws k/\∀x∈a.take k,o0 b n x=true
theorem X1(b:List Dl)(a:LI)(ws:cO)(n:Int):∀k,k<=a.length->(∀x∈a.take k,o0 b n x=true)->(jS b a ws k).length=0\/((jS b a ws k).length:Int)=n:=by
 intro k;induction k with
 |zero=>intro _ _;exact .inl rfl
 |succ k l=>
  intro i h;have d:k<a.length:=i;have m:=l aa (λx j=>h x (by rw[dA d];exact jN _ j));have f:=h a[k] (by rw[dA d];exact kH _ (List.mem_singleton.2 rfl));rw[o0,bD]at f;have o:=Odt f.2;have e:(jW ws k (dp b (a.getD k 0))).length=(dp b a[k]).length:=by
   have:a.getD k 0=a[k]:=by rw[bx,bO d,c7]
   rw[this,jW];split;rfl;rw[b5]
  have g:(jS b a ws (k+1)).length=max (jS b a ws k).length (dp b a[k]).length:=by show(kC _ _).length=_;rw[kC,lG,b5,DR,e]
  right;rw[g];omega
end deal
end Go.Proofs.YtofofalgjibokaaGreatDoor
/- deal: Total, Key. -/
namespace Go.Proofs.YtofofalgjibokaaGreatDoor
namespace deal
open law14 poly Go.Proofs.Tryz
def uM(a:LI)(x:Int):Int:=gA (eY (λd:Int=>d==x) a)
abbrev XA:=aid.ou (λ(a,(_,x),_)=>(uM a x,())) λ(a,(_,x),_)=>by show(uM a x,())=(eY (λd:Int=>d==x) a,());rw[uM,bq]
def aeu:=aZ XA
def Aj(a:LI)(b:cO)(x:Int):Bool:=decide (0<=uM a x)&&decide (uM a x<(b.length:Int))
def tW(ws:cO)(k:Nat)(s:Fr):Fr:=if ws.length=0 then s else s*ws.getD k 0
def tS(a:LI)(b:cO)(d:LI)(ws:cO):Nat->Fr
 |0=>0
 |k+1=>tS a b d ws k+tW ws k (b.getD (uM a (d.getD k 0)).toNat 0)
def Fh(b:LI)(d:cO)(a:LI)(ws:cO)(e:Int):Fr×Int:=if e=0 then(if a.all (Aj b d)=true then(tS b d a ws a.length,0)else(0,41))else(0,e)
def uy(d:LI)(o:cj)(q a:LI)(b:cO):Fr×Int:=Fh a b (dL d o q).1 (dL d o q).2.1 (dL d o q).2.2
theorem zK:aF au 116 f116:=ek
abbrev Qc:HL [kz,.sl iK,.sl iK,.sl .fr]->Prop:=λ((_,_,_,o),q,a,_,_)=>length o<1048576/\length q<2^62/\length a<2^62
abbrev vk:HL [kz,.sl iK,.sl iK,.sl .fr]->HO [.val .fr,.val iK]:=λ((d,_,_,o),q,a,b,_)=>((uy d o q a b).1,(uy d o q a b).2,())
def toA(a:LI)(b:cO)(d:LI)(ws:cO)(e:Int):St:=ay f116.ntmps 104 [(2,ag (.ro iK a)),(3,ag (.ro .fr b)),(8,al 8 0),(9,sJ 0),(10,ag (.ro iK d)),(11,ag (.sl 40 0 0 ws.length 4)),(12,sJ e)] [(40,[.row .fr ws.length ws]),(8,[.row .fr 1 [0]])]
def Fg(b:LI)(d:cO)(a:LI)(ws:cO)(g:Int×Fr):St:=ay f116.ntmps 152 [(2,ag (.ro iK b)),(3,ag (.ro .fr d)),(8,al 8 0),(11,ag (.sl 40 0 0 ws.length 4)),(13,al 120 0),(29,ag (.ro iK a)),(30,sJ a.length),(31,sJ g.1)] [(40,[.row .fr ws.length ws]),(8,[.row .fr 1 [0]]),(120,[.row .fr 1 [g.2]])]
def QP(b:LI)(d:cO)(a:LI)(ws:cO)(k:Nat)(s:Fr)(I:Int):St:=ay f116.ntmps 152 [(2,ag (.ro iK b)),(3,ag (.ro .fr d)),(8,al 8 0),(11,ag (.sl 40 0 0 ws.length 4)),(13,al 120 0),(29,ag (.ro iK a)),(30,sJ a.length),(31,sJ k),(14,sJ k),(16,sJ I)] [(40,[.row .fr ws.length ws]),(8,[.row .fr 1 [0]]),(120,[.row .fr 1 [s]])]
def nK(b:LI)(d:cO)(a:LI)(ws:cO)(g:Int×Fr):Prop:=∃k:Nat,k<=a.length/\g.1=(k:Int)/\g.2=tS b d a ws k/\∀x∈a.take k,Aj b d x=true
theorem aaT:bu au 116 [kz,.sl iK,.sl iK,.sl .fr] [.val .fr,.val iK] cx Qc vk:=by
 have j:aS au (bw [F3,aeu,fr.mh,fr.lJ]):=aV (a2 Hh) (aV (a2 XA) (aV (a2 fr.nq) (aV (a2 fr.mK) bY)));refine cu (sp:=bw [F3,aeu,fr.mh,fr.lJ]) zK ae ae ab ?_;rintro w M0 ⟨⟨d,t,n,o⟩,q,b,a,⟨⟩⟩;revert d t n o q b a;intro(d:LI) (t:LI) (n:Int) (o:cj) (q:LI) (b:LI) (a:cO) _ hp;obtain⟨R,T,A⟩:=hp;have R:o.length<1048576:=R;have T:q.length<2^62:=T;have A:b.length<2^62:=A;show Tr _ _ _ _ _ _ _;refine bN j ao 2 (toA b a (dL d o q).1 (dL d o q).2.1 (dL d o q).2.2) True ?_ (λ_=>?_);refine av (X:=(Qb ((d,t,n,o),q,())/\(toA b a (dL d o q).fst (dL d o q).snd.fst (dL d o q).snd.snd).aj True)) ab ?_;exact⟨⟨R,T⟩,aw trivial⟩;have Q:uy d o q b a=Fh b a (dL d o q).1 (dL d o q).2.1 (dL d o q).2.2:=rfl;obtain⟨x0,U⟩:=T1 d o q;generalize (dL d o q).1=f at *;generalize (dL d o q).2.1=ws at *;generalize (dL d o q).2.2=e at *;refine bN j ao 4 (Fg b a f ws (0,0)) (e=0) ?_ (λhe=>?_);refine av (X:=(((e != 0)=true->((0:Fr),e,())=vk ((d,t,n,o),q,b,a,()))/\((e != 0)=false->(Fg b a f ws (0,(0:Fr))).aj (e=0)))) ab ?_;refine⟨λh=>?_,λh=>aw (by simpa using h)⟩;show _=((uy d o q b a).1,(uy d o q b a).2,());rw[Q,Fh,ai (by simpa using h)];subst he;refine rq jH (λD=>(bL (.int .i64) 31 D,rS .fr 120 D)) (Fg b a f ws) (nK b a f ws) (λg=>f.length-g.1.toNat)
  (λD=>(bL (.int .i64) 31 D,rS .fr 120 D)) (Fg b a f ws) (λg=>f.all (Aj b a)=true/\g.2=tS b a f ws f.length) (0,0) (c:=ar (aq f116) 6) ab ab (aB ab ab ?_) ?_ ?_
 exact⟨0,aY _,rfl,rfl,az⟩
 ·rintro⟨i,s⟩ N;revert i s;intro(i:Int) (s:Fr) ⟨k,hk,z,es,C⟩;have z:i=(k:Int):=z;have Z:s=tS b a f ws k:=es;subst z;refine bN j ao 2 (Fg b a f ws ((k:Int),s)) (k<f.length) ?_ (λp=>?_)
  ·refine av (X:=((decide ((k:Int)<(f.length:Int))=true->(Fg b a f ws ((k:Int),s)).aj (k<f.length))/\(decide ((k:Int)<(f.length:Int))=false->(Fg b a f ws ((k:Int),s)).aj (f.all (Aj b a)=true/\s=tS b a f ws f.length)))) ab ?_;refine⟨λh=>aw (by have:=cM h;omega),λh=>aw ?_⟩;have:k=f.length:=by have:=cL h;omega
   rw[this,bg]at C;exact⟨all_eq_true.2 C,by rw[Z,this]⟩
  refine n3 (c:=ar (aO (ar (aq f116) 6)) 2) ab ab ?_;refine bN j ao 2 (QP b a f ws k s (uM b (f.getD (k:Int).toNat 0))) True ?_ (λ_=>?_);refine av (X:=((0<=(k:Int)/\(k:Int)<(f.length:Int))/\(k:Int).toNat<f.length/\b.length<2^62/\(QP b a f ws k s (uM b (f.getD (k:Int).toNat 0))).aj True)) ab ?_;rw[aJ];exact⟨⟨aa,aa⟩,p,A,aw trivial⟩;generalize hx:f.getD (k:Int).toNat 0=x;generalize K:uM b x=I;have G:f.getD k 0=x:=by rw[<-hx,aJ]
  have H:f[k]=x:=by rwa [bx,bO p,c7]at G
  have V:x∈f:=H▸de p;refine lL j ao 6 (λD=>((k:Int),rS .fr 120 D)) (Fg b a f ws) (λg=>g.1=(k:Int)/\nK b a f ws (((k+1:Nat):Int),g.2)) ?_ ?_
  ·refine av (X:=((decide (I<0)=true->((0:Fr),41,())=vk ((d,t,n,o),q,b,a,()))/\(decide (I<0)=false->(decide (I>=(a.length:Int))=true->((0:Fr),41,())=vk ((d,t,n,o),q,b,a,()))/\(decide (I>=(a.length:Int))=false->(0<=I/\I<(a.length:Int))/\I.toNat<a.length/\(decide ((ws.length:Int)>0)=true->(0<=(k:Int)/\(k:Int)<(ws.length:Int))/\(k:Int).toNat<ws.length/\True/\True/\(Fg b a f ws ((k:Int),s+a.getD I.toNat (0:Fr)*ws.getD (k:Int).toNat (0:Fr))).aj ((k:Int)=(k:Int)/\nK b a f ws ((↑(k+1):Int),s+a.getD I.toNat (0:Fr)*ws.getD (k:Int).toNat (0:Fr))))/\(decide ((ws.length:Int)>0)=false->True/\(Fg b a f ws ((k:Int),s+a.getD I.toNat (0:Fr))).aj ((k:Int)=(k:Int)/\nK b a f ws ((↑(k+1):Int),s+a.getD I.toNat (0:Fr)))))))) ab ?_;have u:Aj b a x=false->((0:Fr),(41:Int),())=vk ((d,t,n,o),q,b,a,()):=λhb=>by
    show _=((uy d o q b a).1,(uy d o q b a).2,());have:¬f.all (Aj b a)=true:=λc=>by have:=all_eq_true.1 c x V;rw[hb]at this;cases this
    rw[Q,Fh,ah rfl,ai this]
   have m:Aj b a x=true->∀r:Fr,r=s+tW ws k (a.getD I.toNat 0)->nK b a f ws (((k+1:Nat):Int),r):=λL r e=>by refine⟨k+1,p,rfl,?_,?_⟩;show r=tS b a f ws k+tW ws k (a.getD (uM b (f.getD k 0)).toNat 0);rw[e,G,K,Z];intro y O;rw[dA p,pz,hV]at O;rcases O with O|rfl;exact C y O;rw[H];exact L
   refine⟨λh=>u (by rw[Aj,K,cm (by have:=Odt h;omega)];rfl),λh=>?_⟩;have W:0<=I:=by have:=Odf h;omega
   refine⟨λP=>u (by rw[Aj,K,cm (show ¬I<(a.length:Int) by have:=Odt P;omega),oY]),λP=>?_⟩;have Y:I<(a.length:Int):=by have:=Odf P;omega
   have L:Aj b a x=true:=by rw[Aj,K,b6 W,b6 Y];rfl
   rw[aJ];refine⟨⟨W,Y⟩,aa,λE=>?_,λE=>?_⟩
   ·have E:=Odt E;have x1:ws.length=f.length:=by have:=U rfl;omega
    exact⟨⟨aa,aa⟩,aa,trivial,trivial,aw ⟨rfl,m L _ (by rw[tW,ai aa])⟩⟩
   have E:=Odf E;exact⟨trivial,aw ⟨rfl,m L _ (by rw[tW,ah aa])⟩⟩
  rintro⟨i,r⟩ N;revert i r;intro(i:Int) (r:Fr) ⟨z,N⟩;have z:i=(k:Int):=z;subst z;refine l5 ?_;refine cq j ao _ _ ?_;refine av (X:=((Fg b a f ws (IntKind.i64.wrap ((k:Int)+1),r)).aj (nK b a f ws (IntKind.i64.wrap ((k:Int)+1),r)/\f.length-(IntKind.i64.wrap ((k:Int)+1)).toNat<f.length-(k:Int).toNat))) ab ?_;rw[a5 aa];exact aw ⟨N,by rw[aJ,aJ];omega⟩
 rintro⟨i,l⟩ N;revert i l;intro(i:Int) (l:Fr) ⟨F,el⟩;have el:l=tS b a f ws f.length:=el;refine cq j ao _ _ ?_;refine av (X:=((l,0,())=vk ((d,t,n,o),q,b,a,()))) ab ?_;show _=((uy d o q b a).1,(uy d o q b a).2,());rw[Q,Fh,ah rfl,ah F,el]
theorem afj:aF au 18 f18:=ek
abbrev Ty:HL [.sl bM]->Prop:=λ(c,_)=>length c<2^62
abbrev Tf:HL [.sl bM]->HO [.val bM]:=λ(c,_)=>(mI 0 c,())
theorem afv:bu au 18 [.sl bM] [.val bM] cx Ty Tf:=by refine bH (sp:=bw [V6]) (aV (a2 IH) bY) ao afj ae ae ?_;rintro w b ⟨c,⟨⟩⟩;revert c;intro(c:cj) _ a;refine av (X:=(EX (c,0,())/\(mI 0 c,())=Tf (c,()))) ab ?_;exact⟨⟨a,ae⟩,rfl⟩
end deal
namespace law22
open law14 poly deal
def di(d:cj):LI:=gA (lB d)
abbrev OE:=Cg.ou (λ(a,_)=>(di a,())) λ(a,_)=>by show(di a,())=(lB a,());rw[di,bq]
abbrev L9:=L4.Bd
def ach:=aZ L9
def uG(d:LI)(n:Int)(o:cj)(q:LI)(a:List Dl):cj×Int:=gA (pM d n o q a)
theorem aeP(n:Int):0<=aN .and .i64 n 1023/\aN .and .i64 n 1023<=1023:=by
 have h:((BitVec.ofInt 64 n &&& BitVec.ofInt 64 1023:BitVec 64).toNat)<=1023:=by rw[zp];exact Nat.and_le_right
 have e:aN .and .i64 n 1023=(((BitVec.ofInt 64 n &&& BitVec.ofInt 64 1023:BitVec 64).toNat:Nat):Int):=by show IntKind.i64.wrap (((BitVec.ofInt 64 n &&& BitVec.ofInt 64 1023:BitVec 64).toNat:Nat):Int)=_;exact bC aa aa
 rw[e];omega
end law22
namespace poly
def HJ(p q:cO):cO:=(range (max p.length q.length)).map λi=>p.getD i 0+q.getD i 0
theorem P0{b:Type}(f g:b->Fr)(x:Fr):∀l:List b,cB (l.map λi=>f i+g i) x=cB (l.map f) x+cB (l.map g) x
 |[]=>by show(0:Fr)=0+0;rw[Rg.add_zero]
 |a::l=>by show cB (l.map λi=>f i+g i) x*x+(f a+g a)=cB (l.map f) x*x+f a+(cB (l.map g) x*x+g a);rw[P0 f g x l,Rg.add_mul,Rg.Aw]
theorem Cz(x:Fr):∀(n:Nat)(p:cO),p.length<=n->cB ((range n).map λi=>p.getD i 0) x=cB p x
 |0,p,h=>by have:p=[]:=eL aa;subst this;rfl
 |n+1,p,h=>by
  rw[List.range_succ_eq_map,eV,fu];cases p with
  |nil=>
   have:=Cz x n [] (aY _);show cB ((range n).map λi=>([]:cO).getD (i+1) 0) x*x+0=0;have e:(λi=>([]:cO).getD (i+1) 0)=λi=>([]:cO).getD i 0:=by funext i;rfl
   rw[e,this];show 0*x+0=0;rw[Rg.zero_mul,Rg.add_zero]
  |cons a p=>have:=Cz x n p (by simpa using h);show cB ((range n).map λi=>p.getD i 0) x*x+a=cB p x*x+a;rw[this]
theorem PX(p q:cO)(x:Int):pat (HJ p q) x=pat p x+pat q x:=by rw[nB,nB,nB,HJ,P0,Cz _ _ p aa,Cz _ _ q aa]
theorem P3{b:Type}(f:b->Fr)(k x:Fr):∀l:List b,cB (l.map λi=>f i*k) x=cB (l.map f) x*k
 |[]=>by show(0:Fr)=0*k;rw[Rg.zero_mul]
 |a::l=>by show cB (l.map λi=>f i*k) x*x+f a*k=(cB (l.map f) x*x+f a)*k;rw[P3 f k x l,Rg.add_mul,Rg.mul_assoc,Rg.mul_comm k x,<-Rg.mul_assoc]
end poly
namespace law22
open law14 poly deal
theorem N4(p:cO)(i:Nat):(cr p).getD i (0,0)=g1.dt g1.gG (p.getD i 0):=by by_cases h:i<p.length;rw[cr,getD_map _ h,bx,bO h];rfl;rw[bx,fQ (by rw[cr,b5];omega),bx,fQ aa];show(0,0)=g1.dt g1.gG 0;rw[g1.mul_zero g1.nI]
theorem MG(p q:cO):kC (cr p) (cr q)=cr (HJ p q):=by
 have a:(cr p).length=p.length:=by rw[cr,b5]
 have b:(cr q).length=q.length:=by rw[cr,b5]
 rw[kC,lG,a,b];conv=>rhs;rw[cr,HJ,fu]
 refine qE λi _=>?_;show HE (cr p) (cr q) q.length i=g1.dt g1.gG (p.getD i 0+q.getD i 0);rw[HE,N4,N4];split;rw[g1.SF (g1.pU g1.nI _).1 (g1.pU g1.nI _).1,g1.mul_add g1.nI]
 ·rename_i h;have:q.getD i 0=0:=by rw[bx,fQ aa];rfl
  rw[this,Rg.add_zero]
def wP(ws:cO)(k:Nat)(p:cO):cO:=if ws.length=0 then p else p.map λa=>a*ws.getD k 0
def jP(pl:Int->cO)(ws:cO)(a:LI):Nat->cO
 |0=>[]
 |k+1=>HJ (jP pl ws a k) (wP ws k (pl (a.getD k 0)))
theorem ahF(ws:cO)(k:Nat)(p:cO):jW ws k (cr p)=cr (wP ws k p):=by unfold jW wP;split;rfl;rw[cr,cr,fu,fu];refine qE λa _=>?_;show g1.dt (g1.dt g1.gG a) _=g1.dt g1.gG (a*_);rw[g1.KZ g1.nI]
theorem X0{b:List Dl}{a:LI}{ws:cO}{pl:Int->cO}(h:∀x∈a,dp b x=cr (pl x)):∀k,k<=a.length->jS b a ws k=cr (jP pl ws a k)
 |0,_=>rfl
 |k+1,c=>by
  have d:a.getD k 0∈a:=by rw[bx,bO c,c7];exact de _
  show kC (jS b a ws k) (jW ws k (dp b (a.getD k 0)))=_;rw[X0 h k aa,h _ d,ahF,MG];rfl
theorem Yt(ws:cO)(k:Nat)(p:cO)(x:Int):pat (wP ws k p) x=tW ws k (pat p x):=by unfold wP tW;split;rfl;rw[nB,nB,P3 (λa=>a),List.map_id''];exactλ_=>rfl
theorem Tq(x:Int):pat [] x=0:=by rw[nB];rfl
theorem Zv{b:LI}{c:cO}{a:LI}{ws:cO}{pl:Int->cO}{t:Int}(h:∀x∈a,c.getD (uM b x).toNat 0=pat (pl x) t):∀k,k<=a.length->tS b c a ws k=pat (jP pl ws a k) t
 |0,_=>by rw[jP,Tq];rfl
 |k+1,d=>by
  have e:a.getD k 0∈a:=by rw[bx,bO d,c7];exact de _
  show tS b c a ws k+tW ws k (c.getD (uM b (a.getD k 0)).toNat 0)=_;rw[Zv h k aa,h _ e,jP,PX,Yt]
theorem TY{d:LI}(f:Int->Fr){x:Int}(e:x∈d):Aj d (d.map f) x=true/\(d.map f).getD (uM d x).toNat 0=f x:=by
 have a:d.findIdx (λy:Int=>y==x)<d.length:=yY ⟨x,e,az⟩;have c:uM d x=((d.findIdx (λy:Int=>y==x):Nat):Int):=by rw[uM,bq,eY,ah a]
 have b:=sH (p:=λy:Int=>y==x) (xs:=d) (w:=a);have b:d[d.findIdx (λy:Int=>y==x)]=x:=by simpa using b
 refine⟨?_,?_⟩;rw[Aj,c,b6 aa,b6 (by rw[b5];omega)];rfl;rw[c,aJ,getD_map _ a,b]
def wX(d:LI)(o:cj)(q a:LI)(b:cO):Fr×Int:=gA (uy d o q a b)
abbrev OC:=aaT.ou (λ((d,_,_,o),q,a,b,_)=>((wX d o q a b).1,(wX d o q a b).2,())) λ((d,_,_,o),q,a,b,_)=>by show((wX d o q a b).1,(wX d o q a b).2,())=((uy d o q a b).1,(uy d o q a b).2,());rw[wX,bq]
def agY:=aZ OC
def LX(c:cj)(x:Int):Fp×Fp:=gA (mI x c)
abbrev SB:=afv.ou (λ(c,_)=>(LX c 0,())) λ(c,_)=>by show(LX c 0,())=(mI 0 c,());rw[LX,bq]
def akq:=aZ SB
def qU(c:cj)(x:Int)(s:Fr):Bool:=gA (KD c x s)
abbrev FA:=afw.ou (λ(c,x,s,_)=>(qU c x s,())) λ(c,x,s,_)=>by show(qU c x s,())=(KD c x s,());rw[qU,bq]
def Ze:=aZ FA
theorem PY(p:cO):pat p 0=p.getD 0 0:=by
 rw[nB];cases p with
 |nil=>rfl
 |cons a p=>show cB p (zm 0)*zm 0+a=a;have:(zm 0:Fr)=0:=rfl;rw[this,Rg.mul_zero,Rg.zero_add]
end law22
end Go.Proofs.YtofofalgjibokaaGreatDoor
namespace Cr
open Rg Fd
section
variable {M:Int}[Md M]
theorem ahh(x:Zm M)(n:Nat):zpow x (2*n)=zpow (x*x) n:=by
 induction n with
 |zero=>rfl
 |succ n a=>show zpow x (2*n)*x*x=zpow (x*x) n*(x*x);rw[a,mul_assoc]
end
end Cr
/- Sqrt of package fp. -/
namespace Go.Proofs.YtofofalgjibokaaGreatDoor
namespace fp
open Go.Proofs.Tryz
open Go.IntKind(i64 u64)
theorem aaG:aF au 165 f165:=ek
def Lu(x:Fp)(g:Int×LI):St:=ay f165.ntmps 56 [(1,al 0 0),(2,al 8 0),(4,al 32 0),(8,sJ g.1)] [(0,[.row .fp 1 [x]]),(8,[.row .fp 1 [(0:Fp)]]),(32,[.ints .u64 6 g.2])]
def acv(g:Int×LI):Int×LI:=(i64.wrap (g.1+1),g.2.set g.1.toNat (aN .or .u64 (Int.fdiv (g.2.getD g.1.toNat 0) (2^min (toNat 2) u64.bits)) (u64.wrap (g.2.getD (i64.wrap (g.1+1)).toNat 0*2^min (toNat 62) u64.bits))))
def acr:LI:=[13402431016077863596,2210141511517208575,7435674573564081700,7239337960414712511,5412103778470702295,1873798617647539866]
def CS:Nat->Int×LI
 |0=>(0,acr)
 |k+1=>acv (CS k)
def CR(a:LI):LI:=a.set 5 (Int.fdiv ((a.drop 5).getD 0 0) (2^min (toNat 2) u64.bits))
theorem acu:∀k,k<=5->(CS k).1=(k:Int):=by
 intro k;induction k with
 |zero=>intro _;rfl
 |succ k a=>intro h;show i64.wrap ((CS k).1+1)=_;rw[a aa,a5 aa]
def yD:Int:=1000602388805416848354447456433976039139220704984751971333014534031007912622709466110671907282253916009473568139947
theorem acs:val (CR (CS 5).2)=yD:=by decide +kernel
theorem ag6:Ws (CR (CS 5).2):=by
 intro x a;have e:CR (CS 5).2=bp 6 yD:=by decide +kernel
 rw[e]at a;exact lr _ _ x a
def iG(x:Fp):Fp×Bool:=if oO x yD*oO x yD=x then(oO x yD,true)else(0,false)
abbrev Bq:HL [.fp]->HO [.val .fp,.val .bool]:=λ(x,_)=>((iG x).1,(iG x).2,())
theorem Sz:bu au 165 [.fp] [.val .fp,.val .bool] cx (λ_=>True) Bq:=by
 have b:aS au (bw [BN,ik]):=aV (a2 uX) (aV (a2 js) bY);refine cu (sp:=bw [BN,ik]) aaG ae ae ab ?_;rintro w m ⟨x,⟨⟩⟩ _ _;show Tr _ _ _ _ _ _ _;refine bN b ao 3 (Lu x (0,acr)) True ?_ (λ_=>?_);refine av (X:=(Lu x (0,acr)).aj True) ab (aw trivial);refine il b ao (Lu x) CS 5 acv (Lu x) (c:=ar (aq f165) 3) ab ab (aB ab ab trivial) (λk f=>rfl) ?_ ?_
 ·intro k f;have e:=acu k f;generalize CS k=g at *;obtain⟨i,a⟩:=g;simp only at e;subst e
  refine av (X:=((decide ((k:Int)<5)=true->(0<=(k:Int)/\(k:Int)<(6:Int))/\(k:Int).toNat<6/\(0:Int)<=2/\(0<=i64.wrap ((k:Int)+1)/\i64.wrap ((k:Int)+1)<(6:Int))/\(i64.wrap ((k:Int)+1)).toNat<6/\(0:Int)<=62/\(0<=(k:Int)/\(k:Int)<(6:Int))/\(k:Int).toNat<6/\(Lu x (acv ((k:Int),a))).aj (k<5))/\
   (decide ((k:Int)<5)=false->(Lu x ((k:Int),a)).aj (k=5)))) ab ?_
  refine⟨λh=>?_,λh=>aw (by have:=cL h;omega)⟩;have d:k<5:=by have:=cM h;omega
  rw[a5 aa];exact⟨⟨aa,aa⟩,aa,ae,⟨aa,aa⟩,aa,ae,⟨aa,aa⟩,aa,aw d⟩
 have j:=acs;have l:=ag6;generalize CS 5=g at *;obtain⟨i,a⟩:=g;simp only at j l;refine cq b ao _ _ ?_
 refine av (X:=((0:Int)<=2/\5<6/\vq (x,CR a,())/\True/\
  (((!decide (oO x (val (CR a))*oO x (val (CR a))=x))=true->(((0:Fp),false,())=Bq (x,())))/\
   ((!decide (oO x (val (CR a))*oO x (val (CR a))=x))=false->((oO x (val (CR a)),true,())=Bq (x,())))))) ab ?_
 rw[j];refine⟨ae,ae,l,trivial,λh=>?_,λh=>?_⟩
 ·have h:¬oO x yD*oO x yD=x:=by simpa using h
  simp[Bq,iG,h]
 ·have h:oO x yD*oO x yD=x:=by simpa using h
  simp[Bq,iG,h]
def Zn:=aZ Sz
end fp
end Go.Proofs.YtofofalgjibokaaGreatDoor
namespace Cr
open Rg Fd
open Go.IntKind(i64 u64)
theorem q_4{F:Type}[Rg F](a n:F):(a+n)*(a-n)=a*a-n*n:=
 rid [a,n] ((λ(a n:PE)=>((a+n)*(a-n))) (.v 0) (.v 1)) ((λ(a n:PE)=>(a*a-n*n)) (.v 0) (.v 1)) ab
theorem al3{F:Type}[Fd F]{a b:F}(h:a*a=b*b):a=b\/a=-b:=by
 have:(a+b)*(a-b)=0:=by rw[q_4,h,sub_self]
 rcases mul_eq_zero this with h|h;right;rw[<-neg_neg a,neg_eq h];exact .inl (dY h)
end Cr
namespace Go.Proofs.YtofofalgjibokaaGreatDoor
namespace fp2
open Rg Fd
open Go.IntKind(i64 u64)
theorem XE{x:Fp}(h:(fp.iG x).2=true):(fp.iG x).1*(fp.iG x).1=x:=by unfold fp.iG at h⊢;split at h;rename_i e;rw[ah e];exact e;cases h
theorem Rm:(fp.iG 0).2=true:=by
 unfold fp.iG;have e:oO (0:Fp) fp.yD*oO 0 fp.yD=0:=by
  rw[BX];have:∀n:Nat,n≠0->zpow (0:Fp) n=0:=by
   intro n a;cases n with
   |zero=>exact absurd rfl a
   |succ n=>show zpow (0:Fp) n*0=0;rw[mul_zero]
  rw[this _ ae,mul_zero]
 rw[ah e]
end fp2
end Go.Proofs.YtofofalgjibokaaGreatDoor
open Go.IntKind(i64 u64)
/- g1: In. -/
namespace Go.Proofs.YtofofalgjibokaaGreatDoor
namespace g1
theorem IC:aF au 167 Tryz.f167:=ek
def q0(p:Fp×Fp):Bool:=AG p&&decide (MH p (-1)=fg (F:=Fp) p)
abbrev zW:HL [bM]->HO [.val .bool]:=λ(p,_)=>(q0 p,())
theorem alk:bu au 167 [bM] [.val .bool] cx (λ_=>True) zW:=by refine bH (sp:=bw [apw,fr.vu,fr.CP,akz,akA]) (aV (a2 UZ) (aV (a2 fr.se) (aV (a2 fr.wD) (aV (a2 KI) (aV (a2 KJ) bY))))) ao IC ae ae ?_;rintro w a ⟨p,⟨⟩⟩;revert p;intro(p:Fp×Fp) _ _;refine av (X:=(True/\(AG p=true->jI 1/\LL 3 ((decide ((MH p (-1)).1=(fg (F:=Fp) p).1)&&decide ((MH p (-1)).2=(fg (F:=Fp) p).2),())=zW (p,())))/\(AG p=false->(false,())=zW (p,())))) ab ?_;rw[G6];refine⟨trivial,λh=>⟨by constructor<;>decide,Ub ?_ _⟩,λh=>?_⟩;simp only[zW,q0,h,mn];simp only[zW,q0,h,mG]
def rZ(p:Fp×Fp):Bool:=gA (q0 p)
abbrev adE:=alk.ou (λ(p,_)=>(rZ p,())) λ(p,_)=>by show(rZ p,())=(_,());rw[rZ,bq]
def akr:=aZ adE
theorem JP{p:Fp×Fp}(h:Sub p):rZ p=true:=by
 rw[rZ,bq,q0];have a:AG p=true:=(Hp p).2 h.1;have b:MH p (-1)=fg p:=by have:=mul_neg h 1;rw[mul_one h,dt,bq]at this;exact this
 rw[a,b];simp
theorem aip{p:Fp×Fp}(h:LJ p):rZ p=decide (eg p rN=(0,0)):=by
 rw[pv,jO];constructor
 ·intro a;rw[rZ,bq,q0,bD,jO]at a;have e:MH p (-1)=eg p (rN-1):=by
   have:=qe h (-1);rw[dt,bq]at this;rw[this];rfl
  rw[e]at a;have:eg p (rN-1+1)=c8 (eg p (rN-1)) p:=rfl;rw[a.2,mM]at this;exact this
 intro a;exact JP ⟨h,a⟩
end g1
end Go.Proofs.YtofofalgjibokaaGreatDoor
/- fp2.Bytes, fp2.Large; codec: part. -/
namespace Go.Proofs.YtofofalgjibokaaGreatDoor
namespace codec
open Go.Proofs.Tryz
open Go.IntKind(i64 u8)
theorem aaA:aF au 164 f164:=ek
def C7(b:LI):Int:=aN .and .u8 (b.getD 0 0) 224
def n7(b:LI):LI:=b.set 0 (aN .andNot .u8 (b.getD 0 0) 224)
def mT(b:LI):Bool:=aN .and .u8 (C7 b) 128 != 0
def jf(b:LI):Bool:=aN .and .u8 (C7 b) 64 != 0
def Bk(b:LI):Bool:=aN .and .u8 (C7 b) 32 != 0
def da(b:LI)(n:Int):LI×Int×Int:=
 if(b.length:Int)≠n/\(b.length:Int)≠2*n then([],0,10)
 else if mT b≠decide ((b.length:Int)=n)then([],0,11)
 else if Bk b=true/\(mT b=false\/jf b=true)then([],0,11)
 else if jf b=true/\∃v∈n7 b,v≠0 then([],0,11)
 else(n7 b,C7 b,0)
abbrev K8:HL [.sl (.int .u8),.int .i64]->Prop:=λ(b,n,_)=>(Bs b/\length b<=1000000)/\1<=(n:Int)/\(n:Int)<=1000
abbrev tj:HL [.sl (.int .u8),.int .i64]->HO [.own (.int .u8),.val (.int .u8),.val (.int .i64)]:=λ(b,n,_)=>((da b n).1,(da b n).2.1,(da b n).2.2,())
def paC(b:LI)(n:Int)(g:Int×LI):St:=ay f164.ntmps 200 [(0,ag (.ro (.int .u8) b)),(1,sJ n),(4,ag (.v (.slice none 0 0))),(5,sI .u8 0),(6,sJ 0),(7,ag (.sl 120 0 0 b.length 1)),(8,sI .u8 g.1)] [(120,[.ints .u8 b.length g.2])]
def paK(b:LI)(n:Int)(g:Int×LI):Prop:=g.1=C7 b/\g.2=n7 b/\1<=b.length/\((b.length:Int)=n\/(b.length:Int)=2*n)
def paD(b:LI)(a:Int)(d:LI):St:=ay f164.ntmps 392 [(4,ag (.v (.slice none 0 0))),(5,sI .u8 0),(6,sJ 0),(7,ag (.sl 120 0 0 b.length 1)),(8,sI .u8 a),(56,ag (.v (.bool (aN .and .u8 a 64 != 0))))] [(120,[.ints .u8 b.length d])]
def To(b:LI)(d:Int)(a:LI)(g:Int):St:=ay f164.ntmps 416 [(4,ag (.v (.slice none 0 0))),(5,sI .u8 0),(6,sJ 0),(7,ag (.sl 120 0 0 b.length 1)),(8,sI .u8 d),(57,ag (.sl 120 0 0 b.length 1)),(58,sJ b.length),(59,sJ g)] [(120,[.ints .u8 b.length a])]
def paJ(a:LI)(g:Int):Prop:=∃k:Nat,k<=a.length/\g=(k:Int)/\∀t,t<k->a.getD t 0=0
theorem Sy:bu au 164 [.sl (.int .u8),.int .i64] [.own (.int .u8),.val (.int .u8),.val (.int .i64)] cx K8 tj:=by
 have f:aS au (bw []):=bY;refine cu (sp:=bw []) aaA ae ae ab ?_;rintro w M0 ⟨b,n,⟨⟩⟩;revert b n;intro(b:LI) (n:Int) _ hp;obtain⟨⟨hb,U⟩,x,y⟩:=hp;have U:b.length<=1000000:=U;have x:1<=n:=x;have y:n<=1000:=y;show Tr _ _ _ _ _ _ _;have H:i64.wrap (2*n)=2*n:=bC aa aa;refine lL f ao 6 (λs=>(bL (.int .u8) 8 s,dO (.int .u8) 120 s)) (paC b n) (paK b n) ?_ ?_
 ·refine av (X:=((((b.length:Int) != n)=true->(((b.length:Int) != i64.wrap ((2:Int)*n))=true->([],(0:Int),(10:Int),())=tj (b,n,()))/\(((b.length:Int) != i64.wrap ((2:Int)*n))=false->b.length*1<=2^47/\b.length<=2^62/\((0:Int)<=(0:Int)/\(0:Int)<(b.length:Int))/\0<b.length/\((0:Int)<=(0:Int)/\(0:Int)<(b.length:Int))/\0<b.length/\((0:Int)<=(0:Int)/\(0:Int)<(b.length:Int))/\0<b.length/\(paC b n (aN BinOp.and u8 (b.getD 0 (0:Int)) (224:Int),b.set 0 (aN BinOp.andNot u8 (b.getD 0 (0:Int)) (224:Int)))).aj (paK b n (aN BinOp.and u8 (b.getD 0 (0:Int)) (224:Int),b.set 0 (aN BinOp.andNot u8 (b.getD 0 (0:Int)) (224:Int))))))/\(((b.length:Int) != n)=false->b.length*1<=2^47/\b.length<=2^62/\((0:Int)<=(0:Int)/\(0:Int)<(b.length:Int))/\0<b.length/\((0:Int)<=(0:Int)/\(0:Int)<(b.length:Int))/\0<b.length/\((0:Int)<=(0:Int)/\(0:Int)<(b.length:Int))/\0<b.length/\(paC b n (aN BinOp.and u8 (b.getD 0 (0:Int)) (224:Int),b.set 0 (aN BinOp.andNot u8 (b.getD 0 (0:Int)) (224:Int)))).aj (paK b n (aN BinOp.and u8 (b.getD 0 (0:Int)) (224:Int),b.set 0 (aN BinOp.andNot u8 (b.getD 0 (0:Int)) (224:Int))))))) ab ?_;rw[H];have R:∀h:1<=b.length,b.length*1<=2^47/\b.length<=2^62/\((0:Int)<=0/\(0:Int)<(b.length:Int))/\0<b.length:=λh=>⟨aa,aa,⟨aa,aa⟩,aa⟩;refine⟨λh=>⟨λu=>?_,λu=>?_⟩,λh=>?_⟩;show _=((da b n).1,(da b n).2.1,(da b n).2.2,());rw[da,ah ⟨by simpa using h,by simpa using u⟩]
  ·have u:(b.length:Int)=2*n:=by simpa using u
   have l:1<=b.length:=aa;obtain⟨F,G,o,p⟩:=R l;exact⟨F,G,o,p,o,p,o,p,aw ⟨rfl,rfl,l,.inr u⟩⟩
  ·have h:(b.length:Int)=n:=by simpa using h
   have l:1<=b.length:=aa;obtain⟨F,G,o,p⟩:=R l;exact⟨F,G,o,p,o,p,o,p,aw ⟨rfl,rfl,l,.inl h⟩⟩
 rintro⟨a,d⟩ hK;revert a d;intro(a:Int) (d:LI) ⟨m,r,k3,k4⟩;have m:a=C7 b:=m;have r:d=n7 b:=r;have e:¬((b.length:Int)≠n/\(b.length:Int)≠2*n):=aa;refine bN f ao 5 (paD b a d) (mT b=decide ((b.length:Int)=n)/\¬(Bk b=true/\(mT b=false\/jf b=true))) ?_ (λT=>?_)
 ·refine av (X:=(((!(aN BinOp.and u8 a (128:Int) != (0:Int))==((b.length:Int)==n))=true->([],(0:Int),(11:Int),())=tj (b,n,()))/\((!(aN BinOp.and u8 a (128:Int) != (0:Int))==((b.length:Int)==n))=false->((aN BinOp.and u8 a (32:Int) != (0:Int))=true->((aN BinOp.and u8 a (128:Int)==(0:Int))=true->([],(0:Int),(11:Int),())=tj (b,n,()))/\((aN BinOp.and u8 a (128:Int)==(0:Int))=false->((aN BinOp.and u8 a (64:Int) != (0:Int))=true->([],(0:Int),(11:Int),())=tj (b,n,()))/\((aN BinOp.and u8 a (64:Int) != (0:Int))=false->(paD b a d).aj (mT b=decide ((b.length:Int)=n)/\¬(Bk b=true/\(mT b=false\/jf b=true))))))/\((aN BinOp.and u8 a (32:Int) != (0:Int))=false->(paD b a d).aj (mT b=decide ((b.length:Int)=n)/\¬(Bk b=true/\(mT b=false\/jf b=true))))))) ab ?_;have V:mT b=(aN .and .u8 a 128 != 0):=by rw[mT,m]
  have E:jf b=(aN .and .u8 a 64 != 0):=by rw[jf,m]
  have s3:Bk b=(aN .and .u8 a 32 != 0):=by rw[Bk,m]
  have s4:(aN .and .u8 a 128==0)=!mT b:=by rw[V];cases h:(aN .and .u8 a 128==0)<;>simp[bne,h]
  have s5:((b.length:Int)==n)=decide ((b.length:Int)=n):=rfl;rw[s4,<-V,<-E,<-s3,s5];show((!(mT b==decide ((b.length:Int)=n)))=true->_=((da b n).1,(da b n).2.1,(da b n).2.2,()))/\_;refine⟨λh=>?_,λh=>⟨λj=>⟨λA=>?_,λA=>⟨λC=>?_,λC=>aw ⟨by simpa using h,?_⟩⟩⟩,λj=>aw ⟨by simpa using h,?_⟩⟩⟩;rw[da,ai e,ah (by simpa using h)];show _=((da b n).1,(da b n).2.1,(da b n).2.2,());rw[da,ai e,ai (by simpa using h),ah ⟨j,.inl (by simpa using A)⟩];show _=((da b n).1,(da b n).2.1,(da b n).2.2,());rw[da,ai e,ai (by simpa using h),ah ⟨j,.inr C⟩];rintro⟨_,h5|h5⟩;rw[h5]at A;cases A;rw[h5]at C;cases C;rintro⟨h5,_⟩;rw[h5]at j;cases j
 obtain⟨I,q⟩:=T;have Y:d.length=b.length:=by rw[r,n7,jT]
 have E:jf b=(aN .and .u8 a 64 != 0):=by rw[jf,m]
 refine T7 (c:=ar (aq f164) 11) (aN .and .u8 a 64 != 0) ab ab ab (λN=>?_) (λN=>?_)
 ·refine bN f ao 1 (To b a d 0) True ?_ (λ_=>?_);refine av (X:=((To b a d (0:Int)).aj True)) ab ?_;exact aw trivial;refine c2 f ao jH (λs=>bL (.int .i64) 59 s) (To b a d) (paJ d) (λg=>b.length-g.toNat)
   (λs=>bL (.int .i64) 59 s) (To b a d) (λ_=>∀v∈d,v=0) 0 (c:=ar (fC (ar (aq f164) 11)) 1) ab ab (aB ab ab ?_) ?_ ?_
  exact⟨0,aY _,rfl,λt h=>absurd h (sP _)⟩
  ·intro(i:Int) ⟨k,T,W,D⟩;subst W;refine av (X:=((decide ((k:Int)<(b.length:Int))=true->((0:Int)<=(k:Int)/\(k:Int)<(b.length:Int))/\(k:Int).toNat<b.length/\((d.getD (k:Int).toNat (0:Int) != (0:Int))=true->([],(0:Int),(11:Int),())=tj (b,n,()))/\((d.getD (k:Int).toNat (0:Int) != (0:Int))=false->(To b a d (i64.wrap ((k:Int)+(1:Int)))).aj (paJ d (i64.wrap ((k:Int)+(1:Int)))/\b.length-(i64.wrap ((k:Int)+(1:Int))).toNat<b.length-(k:Int).toNat)))/\(decide ((k:Int)<(b.length:Int))=false->(To b a d (k:Int)).aj (∀(v:Int),v∈d->v=(0:Int))))) ab ?_;rw[aJ];refine⟨λh=>?_,λh=>aw ?_⟩
   ·have K:k<b.length:=by have:=cM h;omega
    have Z:d.getD k 0=d[k]:=by rw[bx,bO aa,c7]
    rw[a5 aa];refine⟨⟨aa,aa⟩,K,λj=>?_,λj=>aw ⟨⟨k+1,aa,rfl,λt z=>?_⟩,by rw[aJ];omega⟩⟩
    ·have j:d.getD k 0≠0:=by simpa using j
     show _=((da b n).1,(da b n).2.1,(da b n).2.2,());rw[da,ai e,ai (by simpa using I),ai q,ah ⟨by rw[E,N],d[k],by rw[<-r];exact de _,by rw[<-Z];exact j⟩]
    by_cases P:t=k;subst P;simpa using j;exact D t aa
   ·have:k=b.length:=by have:=cL h;omega
    intro v Q;obtain⟨t,O,z⟩:=List.mem_iff_getElem.1 Q;have:=D t aa;rw[bx,bO O,c7,z]at this;exact this
  intro(i:Int) (D:∀v∈d,v=0);refine cq f ao _ _ ?_;refine av (X:=(0+b.length<=b.length/\(take b.length d,a,(0:Int),())=tj (b,n,()))) ab ?_;refine⟨aa,?_⟩;show _=((da b n).1,(da b n).2.1,(da b n).2.2,());rw[da,ai e,ai (by simpa using I),ai q,ai (by rintro⟨_,v,Q,L⟩;exact L (D v (by rw[r];exact Q))),m,r,cA (by rw[n7,jT];exact aQ _)]
 refine cq f ao _ _ ?_;refine av (X:=(0+b.length<=b.length/\(take b.length d,a,(0:Int),())=tj (b,n,()))) ab ?_;refine⟨aa,?_⟩;show _=((da b n).1,(da b n).2.1,(da b n).2.2,());rw[da,ai e,ai (by simpa using I),ai q,ai (by rw[E,N];simp),m,r,cA (by rw[n7,jT];exact aQ _)]
def Zl:=aZ Sy
end codec
end Go.Proofs.YtofofalgjibokaaGreatDoor
open Go.IntKind(i64 u8)
/- codec: ReadG1. -/
namespace Go.Proofs.YtofofalgjibokaaGreatDoor
namespace codec
open Go.Proofs.Tryz
open Go.IntKind(u8)
theorem UQ:aF au 126 f126:=ek
def Ay(p:Fp×Fp):NI×Int:=if p=(0,0)then((0,0),13)else if g1.rQ p=true then(if g1.rZ p=true then(p,0)else((0,0),14))else((0,0),13)
def V3(y:Fp)(l:Bool):Fp:=if decide ((-y).v<y.v)=l then y else -y
def CI(x:Fp):Fp:=(fp.iG (x*x*x+zm 4)).1
def qz(b:LI):NI×Int:=
 if(da b 48).2.2=0 then
  if jf b=true then((0,0),0)
  else if(fp.dx ((n7 b).take 48)).2=0 then
   if mT b=true then Ay ((fp.dx ((n7 b).take 48)).1,V3 (CI (fp.dx ((n7 b).take 48)).1) (Bk b))
   else if(fp.dx ((n7 b).drop 48)).2=0 then Ay ((fp.dx ((n7 b).take 48)).1,(fp.dx ((n7 b).drop 48)).1)
   else((0,0),12)
  else((0,0),12)
 else((0,0),(da b 48).2.2)
abbrev VG:HL [.sl (.int .u8)]->Prop:=λ(b,_)=>Bs b/\length b<=1000000
abbrev ub:HL [.sl (.int .u8)]->HO [.val bM,.val (.int .i64)]:=λ(b,_)=>((qz b).1,(qz b).2,())
def rgC(g:Int×LI):St:=ay f126.ntmps 144 [(2,al 0 0),(3,sJ 0),(4,ag (.sl 24 0 0 g.2.length 1)),(5,sI .u8 g.1)] [(0,g1.pc (0,0)),(24,[.ints .u8 g.2.length g.2])]
def rgK(b:LI)(n:Int)(g:Int×LI):Prop:=g.1=C7 b/\g.2=n7 b/\(da b n).2.2=0/\jf b=false
theorem FM{b:LI}{n:Int}(h:(da b n).2.2=0):da b n=(n7 b,C7 b,0)/\mT b=decide ((b.length:Int)=n)/\((b.length:Int)=n\/(b.length:Int)=2*n):=by unfold da at h⊢;split at h;cases h;rename_i c;rw[ai c];split at h;cases h;rename_i a;rw[ai a];split at h;cases h;rename_i d;rw[ai d];split at h;cases h;rename_i e;rw[ai e];refine⟨rfl,by simpa using a,aa⟩
def rgD(p:Fp×Fp):St:=ay f126.ntmps 352 [(2,al 0 0),(3,sJ 0),(7,al 144 0)] [(0,g1.pc (0,0)),(144,g1.pc p)]
theorem Y9{b:LI}(h:Bs b){x:Int}(a:0<=x/\x<256):Bs (b.set 0 x):=by intro y hy;rcases zb hy with hy|hy;exact h y hy;rw[hy];exact a
theorem Wz{a:Int}:0<=aN .andNot .u8 a 224/\aN .andNot .u8 a 224<256:=by show 0<=u8.wrap _/\u8.wrap _<256;simp only[IntKind.wrap,IntKind.signed,IntKind.bits];simp;omega
theorem ahw{b:LI}(h:Bs b):Bs (n7 b):=Y9 h Wz
theorem aeR(b:LI):(n7 b).length=b.length:=by rw[n7,jT]
theorem Xr:bu au 126 [.sl (.int .u8)] [.val bM,.val (.int .i64)] cx VG ub:=by
 have f:aS au (bw [Zl,fp.QC,fp.ik,fp.mh,fp.lJ,fp.vu,fp.Zn,fp.Ls,fp.CP,g1.aks,g1.akr]):=(aV (a2 Sy) (aV (a2 fp.uY) (aV (a2 fp.js) (aV (a2 fp.nq) (aV (a2 fp.mK) (aV (a2 fp.se) (aV (a2 fp.Sz) (aV (a2 fp.Hb) (aV (a2 fp.wD) (aV (a2 g1.adF) (aV (a2 g1.adE) bY)))))))))));refine cu (sp:=bw [Zl,fp.QC,fp.ik,fp.mh,fp.lJ,fp.vu,fp.Zn,fp.Ls,fp.CP,g1.aks,g1.akr]) UQ ae ae ab ?_;rintro w F ⟨b,⟨⟩⟩;revert b;intro(b:LI) _ n;obtain⟨q,m⟩:=n;have m:b.length<=1000000:=m;show Tr _ _ _ _ _ _ _;have y:K8 (b,48,()):=⟨⟨q,m⟩,ae,ae⟩;refine lL f ao 4 (λl=>(bL (.int .u8) 5 l,dO (.int .u8) 24 l)) rgC (rgK b 48) ?_ ?_
 ·refine av (X:=(K8 (b,48,())/\(((da b 48).snd.snd != 0)=true->(((0:Fp),(0:Fp)),(da b 48).snd.snd,())=ub (b,()))/\(((da b 48).snd.snd != 0)=false->((aN BinOp.and u8 (da b 48).snd.fst 64 != 0)=true->(((0:Fp),(0:Fp)),(da b 48).snd.snd,())=ub (b,()))/\((aN BinOp.and u8 (da b 48).snd.fst 64 != 0)=false->(rgC ((da b 48).snd.fst,(da b 48).fst)).aj (rgK b 48 ((da b 48).snd.fst,(da b 48).fst)))))) ab ?_;have D:(da b 48).2.2=0->(aN .and .u8 (da b 48).2.1 64 != 0)=jf b:=λh=>by rw[(FM h).1];rfl
  refine⟨y,λh=>?_,λh=>?_⟩
  ·have h:¬(da b 48).2.2=0:=by simpa using h
   show _=((qz b).1,(qz b).2,());rw[qz,ai h]
  ·have h:(da b 48).2.2=0:=by simpa using h
   rw[D h];refine⟨λc=>?_,λc=>aw ⟨?_,?_,h,c⟩⟩;show _=((qz b).1,(qz b).2,());rw[qz,ah h,ah c,h];show(da b 48).2.1=C7 b;rw[(FM h).1];show(da b 48).1=n7 b;rw[(FM h).1]
 rintro⟨e,a⟩ G;revert e a;intro(e:Int) (a:LI) ⟨k,j,s,u⟩;have k:e=C7 b:=k;have j:a=n7 b:=j;obtain⟨_,K,r⟩:=FM s;have t:a.length=b.length:=by rw[j,aeR]
 have i:Bs a:=by rw[j];exact ahw q
 have C:(aN .and .u8 e 128==0)=!mT b:=by rw[mT,k];cases h:(aN .and .u8 (C7 b) 128==0)<;>simp[bne,h]
 have E:(aN .and .u8 e 32 != 0)=Bk b:=by rw[Bk,k]
 refine lL f ao 6 (λl=>rS bM 144 l) rgD (λp=>qz b=Ay p) ?_ ?_
 ·refine av (X:=(((0:Int)<=48/\48<=(a.length:Int))/\0+48<=a.length/\fp.xM (take 48 a,())/\(((fp.dx (take 48 a)).snd != 0)=true->(((0:Fp),(0:Fp)),12,())=ub (b,()))/\(((fp.dx (take 48 a)).snd != 0)=false->((aN BinOp.and u8 e (128:Int)==0)=true->((0:Int)<=48/\48<=(a.length:Int))/\48+((a.length:Int)-48).toNat<=a.length/\fp.xM (take ((a.length:Int)-48).toNat (drop 48 a),())/\(((fp.dx (take ((a.length:Int)-48).toNat (drop 48 a))).snd != 0)=true->(((0:Fp),(0:Fp)),12,())=ub (b,()))/\(((fp.dx (take ((a.length:Int)-48).toNat (drop 48 a))).snd != 0)=false->(rgD ((fp.dx (take 48 a)).fst,(fp.dx (take ((a.length:Int)-48).toNat (drop 48 a))).fst)).aj (qz b=Ay ((fp.dx (take 48 a)).fst,(fp.dx (take ((a.length:Int)-48).toNat (drop 48 a))).fst))))/\((aN BinOp.and u8 e (128:Int)==0)=false->True/\True/\jI 4/\True/\True/\True/\((!decide ((-(fp.iG ((fp.dx (take 48 a)).fst*(fp.dx (take 48 a)).fst*(fp.dx (take 48 a)).fst+J9 4)).fst).v<(fp.iG ((fp.dx (take 48 a)).fst*(fp.dx (take 48 a)).fst*(fp.dx (take 48 a)).fst+J9 4)).fst.v)==(aN BinOp.and u8 e 32 != 0))=true->True/\(rgD ((fp.dx (take 48 a)).fst,-(fp.iG ((fp.dx (take 48 a)).fst*(fp.dx (take 48 a)).fst*(fp.dx (take 48 a)).fst+J9 4)).fst)).aj (qz b=Ay ((fp.dx (take 48 a)).fst,-(fp.iG ((fp.dx (take 48 a)).fst*(fp.dx (take 48 a)).fst*(fp.dx (take 48 a)).fst+J9 4)).fst)))/\((!decide ((-(fp.iG ((fp.dx (take 48 a)).fst*(fp.dx (take 48 a)).fst*(fp.dx (take 48 a)).fst+J9 4)).fst).v<(fp.iG ((fp.dx (take 48 a)).fst*(fp.dx (take 48 a)).fst*(fp.dx (take 48 a)).fst+J9 4)).fst.v)==(aN BinOp.and u8 e 32 != 0))=false->(rgD ((fp.dx (take 48 a)).fst,(fp.iG ((fp.dx (take 48 a)).fst*(fp.dx (take 48 a)).fst*(fp.dx (take 48 a)).fst+J9 4)).fst)).aj (qz b=Ay ((fp.dx (take 48 a)).fst,(fp.iG ((fp.dx (take 48 a)).fst*(fp.dx (take 48 a)).fst*(fp.dx (take 48 a)).fst+J9 4)).fst))))))) ab ?_;rw[C,E,show take ((a.length:Int)-48).toNat (drop 48 a)=drop 48 a from cA (by simp;omega)];have g:qz b=if(fp.dx (a.take 48)).2=0 then
    if mT b=true then Ay ((fp.dx (a.take 48)).1,V3 (CI (fp.dx (a.take 48)).1) (Bk b))
    else if(fp.dx (a.drop 48)).2=0 then Ay ((fp.dx (a.take 48)).1,(fp.dx (a.drop 48)).1)
    else((0,0),12)
   else((0,0),12):=by rw[qz,ah s,ai (by rw[u];decide),j]
  have z:fp.xM (a.take 48,()):=λx o=>i x (kJ o);have A:fp.xM (a.drop 48,()):=λx o=>i x (DK o);generalize H:(fp.dx (a.take 48))=X at *;generalize I:(fp.dx (a.drop 48))=Y at *;rw[show(fp.iG (X.1*X.1*X.1+J9 4)).1=CI X.1 from rfl];refine⟨⟨ae,aa⟩,aa,z,λh=>?_,λh=>⟨λc=>⟨⟨ae,aa⟩,aa,A,λd=>?_,λd=>aw ?_⟩,λc=>⟨trivial,trivial,⟨ae,ae⟩,trivial,trivial,trivial,λd=>⟨trivial,aw ?_⟩,λd=>aw ?_⟩⟩⟩;show _=((qz b).1,(qz b).2,());rw[g,ai (by simpa using h)];show _=((qz b).1,(qz b).2,());rw[g,ah (by simpa using h),ai (by simpa using c),ai (by simpa using d)];rw[g,ah (by simpa using h),ai (by simpa using c),ah (by simpa using d)];rw[g,ah (by simpa using h),ah (by simpa using c),V3,ai (by simpa using d)];rw[g,ah (by simpa using h),ah (by simpa using c),V3,ah (by simpa using d)]
 intro(p:Fp×Fp) (n:qz b=Ay p);refine cq f ao _ _ ?_;refine av (X:=((p3 (Kd.fp.pair Kd.fp) p ((0:Fp),(0:Fp))=true->(((0:Fp),(0:Fp)),13,())=ub (b,()))/\(p3 (Kd.fp.pair Kd.fp) p ((0:Fp),(0:Fp))=false->True/\((!g1.rQ p)=true->(((0:Fp),(0:Fp)),13,())=ub (b,()))/\((!g1.rQ p)=false->True/\((!g1.rZ p)=true->(((0:Fp),(0:Fp)),14,())=ub (b,()))/\((!g1.rZ p)=false->(p,0,())=ub (b,())))))) ab ?_;rw[eqP];refine⟨λh=>?_,λh=>⟨trivial,λc=>?_,λc=>⟨trivial,λd=>?_,λd=>?_⟩⟩⟩;all_goals show _=((qz b).1,(qz b).2,())
 all_goals rw[n,Ay]
 rw[ah (Odt h)];rw[ai (Odf h),ai (by simpa using c)];rw[ai (Odf h),ah (by simpa using c),ai (by simpa using d)];rw[ai (Odf h),ah (by simpa using c),ah (by simpa using d)]
theorem AY:∀v:Fin 32,∀k:Fin 8,aN .and .u8 ((v.val+32*k.val:Nat):Int) 224=((32*k.val:Nat):Int)/\aN .andNot .u8 ((v.val+32*k.val:Nat):Int) 224=((v.val:Nat):Int)/\(aN .and .u8 ((32*k.val:Nat):Int) 128 != 0)=decide (4<=k.val)/\(aN .and .u8 ((32*k.val:Nat):Int) 64 != 0)=decide (k.val/2%2=1)/\(aN .and .u8 ((32*k.val:Nat):Int) 32 != 0)=decide (k.val%2=1):=by decide +kernel
theorem ajy:∀v:Fin 32,aN .or .u8 ((v.val:Nat):Int) 128=((v.val+32*4:Nat):Int)/\aN .or .u8 ((v.val:Nat):Int) 160=((v.val+32*5:Nat):Int)/\aN .or .u8 ((v.val:Nat):Int) 192=((v.val+32*6:Nat):Int)/\aN .or .u8 ((v.val:Nat):Int) 64=((v.val+32*2:Nat):Int):=by decide +kernel
def BD(l:LI):Prop:=1<=l.length/\0<=l.getD 0 0/\l.getD 0 0<32
def xh(l:LI)(k:Nat):LI:=l.set 0 (l.getD 0 0+((32*k:Nat):Int))
theorem BD.cons{l:LI}(h:BD l):∃(v:Nat)(t:LI),v<32/\l=((v:Nat):Int)::t:=by
 obtain⟨d,b,f⟩:=h;cases l with
 |nil=>simp at d
 |cons a t=>simp at b f;exact⟨a.toNat,t,aa,by rw[DM b]⟩
theorem Hn(v:Nat)(t:LI)(k:Nat):xh (((v:Nat):Int)::t) k=((v+32*k:Nat):Int)::t:=by simp[xh]
theorem SI(l:LI)(k:Nat):(xh l k).length=l.length:=by rw[xh,jT]
theorem KO{l:LI}(h:BD l){k:Nat}(a:k<8):C7 (xh l k)=((32*k:Nat):Int):=by obtain⟨v,t,b,rfl⟩:=h.cons;rw[Hn];exact(AY ⟨v,b⟩ ⟨k,a⟩).1
theorem afJ{l:LI}(h:BD l){k:Nat}(a:k<8):n7 (xh l k)=l:=by obtain⟨v,t,b,rfl⟩:=h.cons;rw[Hn,n7];show aN .andNot .u8 ((v+32*k:Nat):Int) 224::t=_;rw[(AY ⟨v,b⟩ ⟨k,a⟩).2.1]
theorem aiC{l:LI}(h:BD l){k:Nat}(a:k<8):mT (xh l k)=decide (4<=k):=by rw[mT,KO h a];exact(AY ⟨0,ae⟩ ⟨k,a⟩).2.2.1
theorem aiz{l:LI}(h:BD l){k:Nat}(a:k<8):jf (xh l k)=decide (k/2%2=1):=by rw[jf,KO h a];exact(AY ⟨0,ae⟩ ⟨k,a⟩).2.2.2.1
theorem aiA{l:LI}(h:BD l){k:Nat}(a:k<8):Bk (xh l k)=decide (k%2=1):=by rw[Bk,KO h a];exact(AY ⟨0,ae⟩ ⟨k,a⟩).2.2.2.2
theorem aiB{l:LI}(h:BD l):l.set 0 (aN .or .u8 (l.getD 0 0) 128)=xh l 4/\l.set 0 (aN .or .u8 (l.getD 0 0) 160)=xh l 5/\l.set 0 (aN .or .u8 (l.getD 0 0) 192)=xh l 6/\l.set 0 (aN .or .u8 (l.getD 0 0) 64)=xh l 2:=by obtain⟨v,t,e,rfl⟩:=h.cons;obtain⟨a,b,c,d⟩:=ajy ⟨v,e⟩;simp only[Hn];refine⟨?_,?_,?_,?_⟩;exact congrArg (· :: t) a;exact congrArg (· :: t) b;exact congrArg (· :: t) c;exact congrArg (· :: t) d
structure mi(F:Type) where
 n:Nat
 bts:F->LI
 rd:LI->F×Int
 lg:F->Bool
 rt:F->F
 rQ:F×F->Bool
 rZ:F×F->Bool
section
variable {F:Type}[Cr.Fd F][DecidableEq F]
structure mi.Ok(S:mi F):Prop where
 n0:1<=S.n
 len:∀x,(S.bts x).length=S.n
 bs:∀x,Bs (S.bts x)
 hd:∀x,(S.bts x).getD 0 0<32
 rdb:∀x,S.rd (S.bts x)=(x,0)
 brd:∀b,Bs b->(S.rd b).2=0->S.bts (S.rd b).1=b
 lgn:∀y,y≠0->S.lg (-y)=!S.lg y
 z:S.bts 0=replicate S.n 0
 root:∀x y,S.rQ (x,y)=true->(x,y)≠((0:F),(0:F))->y=S.rt x\/y=-S.rt x
 on0:S.rQ (0,0)=true
 in0:S.rZ (0,0)=true
 iny:∀x y,S.rQ (x,y)=true->S.rZ (x,y)=true->(x,y)≠((0:F),(0:F))->y≠0/\x≠0
 onn:∀x y,S.rQ (x,y)=true->S.rQ (x,-y)=true
 qZ:∀x y,S.rQ (x,y)=true->S.rZ (x,y)=true->S.rZ (x,-y)=true
def mi.TN(S:mi F)(y:F)(l:Bool):F:=if S.lg y=l then y else -y
def mi.qp(S:mi F)(p:F×F):(F×F)×Int:=if p=((0:F),(0:F))then(((0:F),(0:F)),13)else if S.rQ p=true then(if S.rZ p=true then(p,0)else(((0:F),(0:F)),14))else(((0:F),(0:F)),13)
def mi.rg(S:mi F)(b:LI):(F×F)×Int:=
 if(da b S.n).2.2=0 then
  if jf b=true then(((0:F),(0:F)),0)
  else if(S.rd ((n7 b).take S.n)).2=0 then
   if mT b=true then S.qp ((S.rd ((n7 b).take S.n)).1,S.TN (S.rt (S.rd ((n7 b).take S.n)).1) (Bk b))
   else if(S.rd ((n7 b).drop S.n)).2=0 then S.qp ((S.rd ((n7 b).take S.n)).1,(S.rd ((n7 b).drop S.n)).1)
   else(((0:F),(0:F)),12)
  else(((0:F),(0:F)),12)
 else(((0:F),(0:F)),(da b S.n).2.2)
def mi.short(S:mi F)(p:F×F):LI:=(S.bts p.1).set 0 (aN .or .u8 ((S.bts p.1).getD 0 0) (if p=((0:F),(0:F))then(192:Int)else if S.lg p.2=true then 160 else 128))
def mi.full(S:mi F)(p:F×F):LI:=if p=((0:F),(0:F))then(S.bts p.1++S.bts p.2).set 0 (aN .or .u8 ((S.bts p.1++S.bts p.2).getD 0 0) 64)else S.bts p.1++S.bts p.2
variable {S:mi F}
omit [DecidableEq F] in
theorem mi.Ok.BD1(h:S.Ok)(x:F):BD (S.bts x):=by
 have d:=h.len x;have c:=h.n0;refine⟨aa,?_,h.hd x⟩;cases b:S.bts x with
 |nil=>simp
 |cons a t=>have:=h.bs x a (by rw[b];simp);simpa using this.1
theorem mi.Ok.HX(h:S.Ok)(p:F×F):S.short p=xh (S.bts p.1) (if p=((0:F),(0:F))then 6 else if S.lg p.2=true then 5 else 4):=by obtain⟨a,b,c,d⟩:=aiB (h.BD1 p.1);unfold mi.short;split;exact c;split;exact b;exact a
omit [DecidableEq F] in
theorem mi.Ok.nz(h:S.Ok){x:F}(f:x≠0):∃v∈S.bts x,v≠0:=by
 refine iH λc=>f ?_;have e:S.bts x=replicate S.n 0:=by rw[<-h.len x];refine List.eq_replicate_of_mem λv d=>iH λb=>c ⟨v,d,b⟩
 have a:=h.rdb x;rw[e,<-h.z,h.rdb]at a;exact(congrArg Prod.fst a).symm
theorem mi.Ok.aj7{l:LI}(h:BD l){k:Nat}(g:k<8):S.rg (xh l k) =
  if l.length≠S.n/\l.length≠2*S.n then(((0:F),(0:F)),10)
  else if decide (4<=k)≠decide (l.length=S.n)then(((0:F),(0:F)),11)
  else if k%2=1/\(k<4\/k/2%2=1)then(((0:F),(0:F)),11)
  else if k/2%2=1 then(if ∃v∈l,v≠0 then(((0:F),(0:F)),11)else(((0:F),(0:F)),0))
  else if(S.rd (l.take S.n)).2=0 then
   if 4<=k then S.qp ((S.rd (l.take S.n)).1,S.TN (S.rt (S.rd (l.take S.n)).1) (decide (k%2=1)))
   else if(S.rd (l.drop S.n)).2=0 then S.qp ((S.rd (l.take S.n)).1,(S.rd (l.drop S.n)).1)
   else(((0:F),(0:F)),12)
  else(((0:F),(0:F)),12):=by
 unfold mi.rg da;rw[afJ h g,aiC h g,aiz h g,aiA h g,SI];have j:((l.length:Int)≠(S.n:Int)/\(l.length:Int)≠2*(S.n:Int))↔(l.length≠S.n/\l.length≠2*S.n):=aa;have q:decide ((l.length:Int)=(S.n:Int))=decide (l.length=S.n):=by simp[Int.ofNat_inj]
 by_cases b:l.length≠S.n/\l.length≠2*S.n;simp only[ah (j.2 b),ah b];rw[ai ae]
 ·simp only[ai (λc=>b (j.1 c)),ai b,q];by_cases o:decide (4<=k)≠decide (l.length=S.n);simp only[ah o];rw[ai ae]
  ·simp only[ai o];have m:(decide (k%2=1)=true/\(decide (4<=k)=false\/decide (k/2%2=1)=true))↔(k%2=1/\(k<4\/k/2%2=1)):=by
    simp only[jO,decide_eq_false_iff_not];omega
   by_cases d:k%2=1/\(k<4\/k/2%2=1);simp only[ah (m.2 d),ah d];rw[ai ae]
   ·simp only[ai (λc=>d (m.1 c)),ai d];by_cases e:k/2%2=1;simp only[ah e,b6 e,true_and];by_cases p:∃v∈l,v≠0;simp only[ah p];rw[ai ae];simp only[ai p];simp only[jo]
    ·have a:¬(decide (k/2%2=1)=true):=by simpa using e
     simp only[ai e,ai a,ai (show ¬(decide (k/2%2=1)=true/\∃v∈l,v≠0) fromλc=>a c.1),jo];by_cases f:4<=k;simp only[ah f,b6 f,jo]
     ·have i:¬(decide (4<=k)=true):=by simpa using f
      simp only[ai f,ai i]
theorem mi.WH{p:F×F}(a:p≠((0:F),(0:F)))(b:S.rQ p=true)(c:S.rZ p=true):S.qp p=(p,0):=by rw[mi.qp,ai a,ah b,ah c]
omit [DecidableEq F] in
theorem mi.Ok.akn(h:S.Ok){x y:F}(a:(x,y)≠((0:F),(0:F)))(b:S.rQ (x,y)=true)(d:S.rZ (x,y)=true):S.TN (S.rt x) (S.lg y)=y:=by obtain⟨g,_⟩:=h.iny x y b d a;unfold mi.TN;rcases h.root x y b a with e|e;rw[<-e,ah rfl];have f:S.rt x≠0:=λc=>g (by rw[e,c,Rg.neg_zero]);rw[ai,e];rw[e,h.lgn _ f];cases S.lg (S.rt x)<;>decide
theorem mi.Ok.V5(h:S.Ok){p:F×F}(d:S.rQ p=true)(e:S.rZ p=true):S.rg (S.short p)=(p,0):=by
 have l:=h.n0;have k:=h.len p.1;rw[h.HX,mi.Ok.aj7 (h.BD1 p.1) (by split;decide;split<;>decide),ai aa];by_cases a:p=((0:F),(0:F));rw[ah a,ai (by simp[k]),ai ae,ah ae,ai,a];rintro⟨v,i,g⟩;rw[a,h.z]at i;exact g (List.eq_of_mem_replicate i)
 ·rw[ai a];obtain⟨x,y⟩:=p;have j:S.rd ((S.bts x).take S.n)=(x,0):=by rw[cA (by rw[h.len];exact aQ _),h.rdb]
  have c:=h.akn a d e;by_cases b:S.lg y=true;rw[b]at c;rw[ah b,ai (by simp[h.len]),ai ae,ai ae,j,ah rfl,ah ae];show S.qp (x,S.TN (S.rt x) true)=_;rw[c,mi.WH a d e]
  ·have f:S.lg y=false:=by simpa using b
   rw[f]at c;rw[ai b,ai (by simp[h.len]),ai ae,ai ae,j,ah rfl,ah ae];show S.qp (x,S.TN (S.rt x) false)=_;rw[c,mi.WH a d e]
end
end codec
end Go.Proofs.YtofofalgjibokaaGreatDoor
namespace Cr
open Rg Fd
open Go.IntKind(u8)
section
variable {F:Type}[Fd F]{b:F}
theorem akC(d:b≠0){P:F×F}(f:jd b P){r:Nat}(i:r%2=1)(h:eg P r=O2)(c:P.2=0):P=O2:=by
 have e:fg P=P:=by show(P.1,-P.2)=P;rw[c,neg_zero,<-c]
 have g:eg P 2=O2:=by
  rw[Pu];have:=fo P
  rwa [e]at this
 have a:r=2*(r/2)+1:=aa;rw[a,q6 d f,<-vh d f,g,Bm,lC,Hx]at h;exact h
theorem acq(d:b≠0){P:F×F}(a:jd b P){r:Nat}(j:r%3=1)(h:eg P r=O2)(c:P.1=0):P=O2:=by
 rcases a with rfl|o;rfl;have a:jd b P:=.inr o;have i:AT P P 0:=by refine⟨?_,?_⟩;rw[zero_mul,sub_self];rw[c,zero_mul,zero_mul,add_zero,add_zero]
 have e:c8 P P=fg P:=by rw[ga d o o i,c];show(0*0-0-0,-(P.2+0*_))=(P.1,-P.2);rw[zero_mul,zero_mul,sub_self,sub_self,add_zero,c]
 have g:eg P 3=O2:=by show c8 (eg P 2) P=O2;rw[Pu,e,mM]
 have f:r=3*(r/3)+1:=aa;rw[f,q6 d a,<-vh d a,g,Bm,lC,Hx]at h;exact h
end
theorem Rc(n:Nat)(N:Int):eE (n+1) N=eE n (N/256)++[N%256]:=by unfold eE;rw[qK,cE];congr 1;apply qE;intro i a;have a:=mem_range.1 a;rw[show n+1-1-i=(n-1-i)+1 by omega];rw[show b9 (n-1-i+1)=256*b9 (n-1-i)from rfl,<-pf ae];simp[b9]
theorem Iq:∀(n:Nat)(l:LI),l.length=n->Bs l->eE n (num l)=l:=by
 intro n;induction n with
 |zero=>intro l h _;rw[List.length_eq_zero_iff.1 h];rfl
 |succ n m=>
  intro l h f;have a:l≠[]:=by intro c;rw[c]at h;simp at h
  have e:=List.dropLast_concat_getLast a;have d:=f _ (List.getLast_mem a);have g:Bs l.dropLast:=λx k=>f x (List.dropLast_subset l k);have i:l.dropLast.length=n:=by rw[List.length_dropLast];omega
  rw[Rc];have j:num l=num l.dropLast*256+l.getLast a:=by rw[<-yv,e]
  rw[j,show(num l.dropLast*256+l.getLast a)/256=num l.dropLast by omega,show(num l.dropLast*256+l.getLast a)%256=l.getLast a by omega,m _ i g,e]
theorem Re(n:Nat):eE n 0=replicate n 0:=by
 have e:((replicate n (0:Int)).length=n):=pk;have a:Bs (replicate n (0:Int)):=λx c=>by rw[List.eq_of_mem_replicate c];decide
 have d:∀n:Nat,num (replicate n 0)=0:=by
  intro n;induction n with
  |zero=>rfl
  |succ n f=>rw[List.replicate_succ',yv,f];rfl
 have:=Iq n _ e a
 rwa [d]at this
theorem WG{N:Int}(c:0<=N)(d:N<Mp):(eE 48 N).getD 0 0<32:=by
 show N/b9 47%256<32;have e:Mp<=32*b9 47:=by decide +kernel
 have a:0<b9 47:=lS 47;have:N/b9 47<32:=Int.ediv_lt_of_lt_mul a aa;have:0<=N/b9 47:=zt c (fV a);omega
theorem ajm{y:Fp}(h:y≠0):(-y).v=Mp-y.v:=by have a:=y.nn;have d:=y.lt;have:y.v≠0:=λc=>h (Zm.ext (by rw[c,w4]));rw[Nr,<-DO];rw[ei aa aa];omega
theorem ajg{y:Fp}(h:y≠0):decide ((- -y).v<(-y).v)=!decide ((-y).v<y.v):=by
 rw[neg_neg];have e:=ajm h;have a:Mp%2=1:=by decide +kernel
 by_cases c:(-y).v<y.v;rw[b6 c,cm aa];rfl;rw[cm c,b6 aa];rfl
end Cr
namespace Go.Proofs.YtofofalgjibokaaGreatDoor
namespace codec
open Rg Fd
open Go.IntKind(u8)
theorem XF(y:Fp):(fp.iG (y*y)).2=true:=by
 by_cases c:y=0;rw[c,mul_zero];exact fp2.Rm
 ·unfold fp.iG;have e:oO (y*y) fp.yD*oO (y*y) fp.yD=y*y:=by
   have a:=Up c;rw[BX]at a⊢;rw[<-ahh,<-zpow_add];have d:2*fp.yD.toNat+2*fp.yD.toNat=(4002409555221667393417789825735904156556882819939007885332058136124031650490837864442687629129015664037894272559785:Int).toNat+1+1+1:=Odt ab;rw[d];generalize (4002409555221667393417789825735904156556882819939007885332058136124031650490837864442687629129015664037894272559785:Int).toNat=m at *;show zpow y m*y*y*y=y*y;rw[mul_comm (zpow y m) y,a,one_mul]
  rw[ah e]
theorem alL(x:Fp):fp.dx (eE 48 x.v)=(x,0):=by have a:x.v<b9 48:=Int.lt_trans x.lt (by decide +kernel);rw[fp.dx,ah (ja _ _),Cu 48 _ x.nn a,ah x.lt,kj]
theorem ak4{b:LI}(c:Bs b)(h:(fp.dx b).2=0):eE 48 (fp.dx b).1.v=b/\b.length=48:=by
 unfold fp.dx at h⊢;split at h
 ·rename_i a;rw[ah a];split at h
  ·rename_i d;rw[ah d];refine⟨?_,a⟩;have:(zm (num b):Fp).v=num b:=by rw[C6];exact ei (EL c).1 d
   show eE 48 (zm (num b):Fp).v=b;rw[this,Iq 48 b a c]
  cases h
 cases h
def Et:mi Fp:=⟨48,λx=>eE 48 x.v,fp.dx,λy=>decide ((-y).v<y.v),CI,g1.rQ,g1.rZ⟩
theorem XZ{x y:Fp}(c:g1.rQ (x,y)=true)(a:g1.rZ (x,y)=true):g1.Sub (x,y):=by have o:=(g1.xF _).1 c;rw[g1.aip o,jO]at a;exact⟨o,a⟩
theorem KM:Et.Ok where
 n0:=ae
 len x:=ja _ _
 bs x:=zB _ _
 hd x:=WG x.nn x.lt
 rdb x:=alL x
 brd b hb h:=(ak4 hb h).1
 lgn y hy:=ajg hy
 z:=Re 48
 root x y h h0:=by rcases (g1.xF _).1 h with c|c;exact absurd c h0;have c:y*y=x*x*x+zm 4:=c;have:=fp2.XE (XF y);show y=CI x\/y=-CI x;rw[CI,<-c];exact al3 this.symm
 on0:=(g1.xF _).2 (.inl rfl)
 in0:=by rw[show((0:Fp),(0:Fp))=O2 from rfl];exact g1.JP ⟨.inl rfl,Bm _⟩
 iny x y h1 h2 h0:=by obtain⟨o,hr⟩:=XZ h1 h2;exact⟨λc=>h0 (akC g1.pD o (by decide +kernel) hr c),λc=>h0 (acq g1.pD o (by decide +kernel) hr c)⟩
 onn x y h:=(g1.xF _).2 (nX ((g1.xF _).1 h))
 qZ x y h1 h2:=by obtain⟨o,hr⟩:=XZ h1 h2;refine g1.JP ⟨nX o,?_⟩;show eg (fg (x,y)) g1.rN=O2;rw[abu g1.pD o,hr,ue]
theorem aj6(b:LI):qz b=Et.rg b:=rfl
theorem aik(p:Fp×Fp):Dc p=Et.short p:=by
 obtain⟨x,y⟩:=p;unfold Dc mi.short;have e:(decide (x=0)&&decide (y=0))=decide ((x,y)=((0:Fp),(0:Fp))):=by rw[pv];simp
 show List.set _ 0 (aN .or .u8 _ (if(decide (x=0)&&decide (y=0))=true then _ else _))=_;rw[e];simp only[Et,mF]
def GC(p:Fp×Fp):LI:=gA (Et.short p)
theorem Jh(p:Fp×Fp):GC p=Et.short p:=bq _
def ti(b:LI):NI×Int:=gA (Et.rg b)
theorem Ym(b:LI):ti b=Et.rg b:=bq _
abbrev Ma:=Xr.ou (λ(b,_)=>((ti b).1,(ti b).2,())) λ(b,_)=>by show((ti b).1,(ti b).2,())=((qz b).1,(qz b).2,());rw[Ym,aj6]
def QB:=aZ Ma
end codec
end Go.Proofs.YtofofalgjibokaaGreatDoor
open Go.IntKind(u8)
/- deal.Read. -/
namespace Go.Proofs.YtofofalgjibokaaGreatDoor
namespace deal
open law22 poly Go.Proofs.Tryz
theorem ya:aF au 82 f82:=ek
def yG(b:LI)(i:Nat):LI:=(b.drop (48*i)).take 48
def ow(b:LI):Nat->Int
 |0=>0
 |k+1=>if ow b k=0 then(codec.ti (yG b k)).2 else ow b k
def tq(b:LI)(k:Nat):cj:=(range k).map λi=>(codec.ti (yG b i)).1
theorem Sl{b:LI}:∀{k m:Nat},k<=m->ow b k≠0->ow b m=ow b k
 |k,0,h,_=>by rw[Nat.le_zero.1 h]
 |k,m+1,h,a=>by by_cases c:k=m+1;rw[c];have:=Sl (b:=b) (k:=k) (m:=m) aa a;rw[ow,ai (by rw[this];exact a),this]
theorem abT(b:LI)(k:Nat):tq b (k+1)=tq b k++[(codec.ti (yG b k)).1]:=by rw[tq,qK,cE];rfl
theorem Bx(b:LI)(k:Nat):(tq b k).length=k:=by rw[tq];simp
def qx(d:LI)(n:Int)(o:cj)(a:Int)(b:LI):cj×Int:=
 if a∈d then
  if b.length%48=0/\((b.length/48:Nat):Int)=n then
   if ow b (b.length/48)=0 then
    if o=[]\/(1<=b.length/48/\(tq b (b.length/48)).getD 0 (0,0)=mI a o)then(tq b (b.length/48),0)else([],31)
   else([],ow b (b.length/48))
  else([],10)
 else([],34)
abbrev aec:HL [kz,.int .i64,.sl (.int .u8)]->Prop:=λ((d,_,_,o),a,b,_)=>length d<2^62/\EX (o,a,())/\Bs b/\length b<=1000000
abbrev xr:HL [kz,.int .i64,.sl (.int .u8)]->HO [.own bM,.val (.int .i64)]:=λ((d,_,n,o),a,b,_)=>((qx d n o a b).1,(qx d n o a b).2,())
abbrev sC(d t:LI)(n:Int)(o:cj):cb:=[.ro (.int .i64) d,.ro (.int .i64) t,vI n,.ro bM o]
def Ld(d t:LI)(n:Int)(o:cj)(a:Int)(g:LI×Nat×Nat×cj):St:=ay f82.ntmps 192 [(1,sJ a),(2,ag (.ro (.int .u8) g.1)),(3,al 0 0),(6,ag (.v (.slice none 0 0))),(7,sJ 0),(8,ag (.sl 176 0 0 g.2.1 12))] [(0,sC d t n o),(176,[.row bM g.2.2.1 g.2.2.2])]
def VP(b:LI)(g:LI×Nat×Nat×cj):Prop:=g.2.1<=b.length/48/\g.1=b.drop (48*g.2.1)/\g.2.2.2.take g.2.1=tq b g.2.1/\ow b g.2.1=0/\g.2.1<=g.2.2.1/\g.2.2.1=g.2.2.2.length
def ajV(b:LI)(g:LI×Nat×Nat×cj):Prop:=g.2.1=b.length/48/\g.2.2.2.take g.2.1=tq b g.2.1/\ow b g.2.1=0/\g.2.1<=g.2.2.1/\g.2.2.1=g.2.2.2.length
theorem uY:bu au 82 [kz,.int .i64,.sl (.int .u8)] [.own bM,.val (.int .i64)] cx aec xr:=by
 have s:aS au (bw [mg,codec.QB,BM,V6]):=(aV (a2 kZ) (aV (a2 codec.Ma) (aV (a2 yi) (aV (a2 IH) bY))));refine cu (sp:=bw [mg,codec.QB,BM,V6]) ya ae ae ab ?_;rintro w M0 ⟨⟨d,t,n,o⟩,r,b,⟨⟩⟩;revert d t n o r b;intro(d:LI) (t:LI) (n:Int) (o:cj) (a:Int) (b:LI) _ hp;obtain⟨Z,Y,V,P⟩:=hp;have P:b.length<=1000000:=P;show Tr _ _ _ _ _ _ _;refine lL s ao 6 (λj=>(Jt (.int .u8) 2 j,qy 8 j,rdN 176 j,dO bM 176 j)) (Ld d t n o a) (λg=>VP b g/\a∈d/\b.length%48=0/\((b.length/48:Nat):Int)=n) ?_ ?_
 ·refine av (X:=(lb (d,a,())/\((!decide (a∈d))=true->([],34,())=xr ((d,t,n,o),a,b,()))/\((!decide (a∈d))=false->((48:Int)=0->False)/\(((b.length:Int).tmod 48 != 0)=true->([],10,())=xr ((d,t,n,o),a,b,()))/\(((b.length:Int).tmod 48 != 0)=false->((48:Int)=0->False)/\((IntKind.i64.wrap ((b.length:Int).tdiv 48) != n)=true->([],10,())=xr ((d,t,n,o),a,b,()))/\((IntKind.i64.wrap ((b.length:Int).tdiv 48) != n)=false->((0:Int)<=0/\0<=n/\(↑(96:Nat):Int)*n<=281474976710656/\n<=9223372036854775807)/\(Ld d t n o a (b,0,n.toNat,replicate n.toNat ((0:Fp),(0:Fp)))).aj (VP b (b,0,n.toNat,replicate n.toNat ((0:Fp),(0:Fp)))/\a∈d/\b.length%48=0/\(↑(b.length/48):Int)=n)))))) ab ?_;have R:(b.length:Int).tmod 48=((b.length%48:Nat):Int):=rfl;have T:(b.length:Int).tdiv 48=((b.length/48:Nat):Int):=rfl;rw[R,T,bC aa aa];refine⟨Z,λh=>?_,λh=>⟨ae,λf=>?_,λf=>⟨ae,λi=>?_,λi=>?_⟩⟩⟩
  ·have h:¬a∈d:=by simpa using h
   show _=((qx d n o a b).1,(qx d n o a b).2,());rw[qx,ai h]
  ·have h:a∈d:=by simpa using h
   have f:¬b.length%48=0:=λc=>by rw[c]at f;simp at f
   show _=((qx d n o a b).1,(qx d n o a b).2,());rw[qx,ah h,ai (λc=>f c.1)]
  ·have h:a∈d:=by simpa using h
   have i:¬((b.length/48:Nat):Int)=n:=bne_iff_ne.1 i;show _=((qx d n o a b).1,(qx d n o a b).2,());rw[qx,ah h,ai (λc=>i c.2)]
  ·have h:a∈d:=by simpa using h
   have f:b.length%48=0:=by have:((b.length%48:Nat):Int)=0:=by simpa using f
                            omega
   have i:((b.length/48:Nat):Int)=n:=by simpa using i
   have I:n.toNat=b.length/48:=aa;refine⟨⟨ae,aa,aa,aa⟩,aw ⟨⟨aY _,?_,?_,rfl,aY _,?_⟩,h,f,i⟩⟩;show b=drop (48*0) b;simp;rfl;show n.toNat=(replicate n.toNat ((0:Fp),(0:Fp))).length;rw[pk]
 rintro⟨e,k,m,l⟩hK;revert e l;intro(e:LI) (l:cj) ⟨H,C,A,I⟩;refine c2 s ao (λj=>[(176,Qi 8 j)]) (λj=>(Jt (.int .u8) 2 j,qy 8 j,rdN 176 j,dO bM 176 j)) (Ld d t n o a) (VP b) (λg=>b.length/48-g.2.1)
  (λj=>(Jt (.int .u8) 2 j,qy 8 j,rdN 176 j,dO bM 176 j)) (Ld d t n o a) (ajV b) (e,k,m,l) (c:=ar (aq f82) 6) ab ab (aB ab ab H) ?_ ?_
 ·rintro⟨e,k,m,l⟩ H;revert e l;intro(e:LI) (l:cj) ⟨z,F,p,q,u,G⟩;refine av (X:=((decide ((e.length:Int)>0)=true->((0:Int)<=48/\48<=(e.length:Int))/\codec.VG (take 48 e,())/\(((codec.ti (take 48 e)).snd != 0)=true->([],(codec.ti (take 48 e)).snd,())=xr ((d,t,n,o),a,b,()))/\(((codec.ti (take 48 e)).snd != 0)=false->0+1<=1/\k<=m/\(k+1)*96<=2^47/\k+1<=2^62/\((0:Int)<=48/\48<=(e.length:Int))/\(Ld d t n o a (take ((e.length:Int)-48).toNat (drop 48 e),k+1,k+1,take k l++take 1 [(codec.ti (take 48 e)).fst])).aj (VP b (take ((e.length:Int)-48).toNat (drop 48 e),k+1,k+1,take k l++take 1 [(codec.ti (take 48 e)).fst])/\b.length/48-(k+1)<b.length/48-k)))/\(decide ((e.length:Int)>0)=false->(Ld d t n o a (e,k,m,l)).aj (ajV b (e,k,m,l))))) ab ?_;have z:k<=b.length/48:=z;have F:e=b.drop (48*k):=F;have p:l.take k=tq b k:=p;have q:ow b k=0:=q;have u:k<=m:=u;have W:e.length=b.length-48*k:=by rw[F,gu]
  have K:take 48 e=yG b k:=by rw[F];rfl
  rw[K];refine⟨λh=>?_,λh=>aw ?_⟩
  ·have D:k<b.length/48:=by
    have:=Odt h;omega
   have L:48<=e.length:=aa;refine⟨⟨aa,aa⟩,⟨λx hx=>V x (DK (kJ hx)),by show(yG b k).length<=_;rw[yG];exact fw (List.length_take_le _ _) ae⟩,λf=>?_,λf=>⟨ae,u,aa,aa,⟨aa,aa⟩,aw ⟨⟨D,?_,?_,?_,aQ _,?_⟩,aa⟩⟩⟩
   ·have f:¬(codec.ti (yG b k)).2=0:=bne_iff_ne.1 f;have N:ow b (k+1)=(codec.ti (yG b k)).2:=by rw[ow,ah q]
    have Q:ow b (b.length/48)=(codec.ti (yG b k)).2:=by rw[<-N];exact Sl D (by rw[N];exact f)
    show _=((qx d n o a b).1,(qx d n o a b).2,());rw[qx,ah C,ah ⟨A,I⟩,ai (by rw[Q];exact f),Q]
   show take ((e.length:Int)-48).toNat (drop 48 e)=b.drop (48*(k+1));rw[cA (by rw[gu];omega),F,iI];congr 1;show take (k+1) (take k l++[_])=tq b (k+1);rw[p,abT,cA (by rw[bA,Bx];simp)];show ow b (k+1)=0;rw[ow,ah q];simpa using f;show k+1=(take k l++[_]).length;rw[p,bA,Bx];rfl
  ·have y:k=b.length/48:=by
    have:=Odf h;omega
   exact⟨y,p,q,u,G⟩
 rintro⟨e,k,m,l⟩ H;revert e l;intro(e:LI) (l:cj) ⟨z,p,q,u,G⟩;refine cq s ao _ _ ?_;refine av (X:=(True/\((!(o.length:Int)==0)=true->(((k:Int)==0)=true->([],31,())=xr ((d,t,n,o),a,b,()))/\(((k:Int)==0)=false->((0:Int)<=0/\0<(k:Int))/\0<m/\EX (o,a,())/\((!p3 (Kd.fp.pair Kd.fp) (l.getD 0 ((0:Fp),(0:Fp))) (mI a o))=true->([],31,())=xr ((d,t,n,o),a,b,()))/\((!p3 (Kd.fp.pair Kd.fp) (l.getD 0 ((0:Fp),(0:Fp))) (mI a o))=false->0+k<=m/\(take k l,0,())=xr ((d,t,n,o),a,b,()))))/\((!(o.length:Int)==0)=false->0+k<=m/\(take k l,0,())=xr ((d,t,n,o),a,b,())))) ab ?_;have z:k=b.length/48:=z;have p:l.take k=tq b k:=p;have q:ow b k=0:=q;have u:k<=m:=u;have G:m=l.length:=G;have U:qx d n o a b=if o=[]\/(1<=k/\(tq b k).getD 0 (0,0)=mI a o)then(tq b k,0)else([],31):=by rw[qx,ah C,ah ⟨A,I⟩,<-z,ah q]
 have O:1<=k->l.getD 0 ((0:Fp),(0:Fp))=(tq b k).getD 0 (0,0):=λh=>by rw[<-p,bx,bx,gI,ah aa]
 have kp:((k:Int)==0)=false->(0:Int)<(k:Int):=λh=>by
  have:¬(k:Int)=0:=by simpa using h
  omega
 rw[eqP,p];refine⟨trivial,λh=>⟨λf=>?_,λf=>⟨⟨ae,kp f⟩,?_,Y,λi=>?_,λi=>⟨aa,?_⟩⟩⟩,λh=>⟨aa,?_⟩⟩;all_goals try show _=((qx d n o a b).1,(qx d n o a b).2,())
 all_goals try rw[U]
 ·have f:(k:Int)=0:=by simpa using f
  have E:¬o=[]:=λc=>by rw[c]at h;simp at h
  rw[ai (λc=>c.elim E (λc=>aa))]
 ·have:¬(k:Int)=0:=by simpa using f
  omega
 ·have y:1<=k:=by have:¬(k:Int)=0:=by simpa using f
                  omega
  have E:¬o=[]:=λc=>by rw[c]at h;simp at h
  rw[O y]at i;have i:¬(tq b k).getD 0 (0,0)=mI a o:=by simpa using i
  rw[ai (λc=>c.elim E (λc=>i c.2))]
 ·have y:1<=k:=by have:¬(k:Int)=0:=by simpa using f
                  omega
  rw[O y]at i;have i:(tq b k).getD 0 (0,0)=mI a o:=by simpa using i
  rw[ah (.inr ⟨y,i⟩)]
 ·have E:o=[]:=eL (by have:(o.length:Int)=0:=by simpa using h
                      omega)
  rw[ah (.inl E)]
end deal
end Go.Proofs.YtofofalgjibokaaGreatDoor
/- A rite as an object; idle, dealer, taker, Phase. -/
namespace Go.Proofs.YtofofalgjibokaaGreatDoor
namespace rite
open bf deal Go.Eng.Ob Go.Proofs.Tryz
abbrev iK:Kd:=.int .i64
abbrev dZ:Kd:=.pair iK (.sl iK)
abbrev Pt:=Fp×Fp
structure Rt where
 p:Nat
 me:Int
 aE:LI
 aL:LI
 bG:Int
 bJ:List Pt
 bB:cO
 start:Int
 dK:Int
 ba:Int
 bf:Nat
 aG:List (Int×List Pt)
 aU:List (Int×LI)
 aM:List (Int×Int×Fr)
 aK:LI
 br:cO
 bb:Int
abbrev b7:cb:=[.v (.slice none 0 0),.v (.slice none 0 0),.ints .u64 4 [0,0,0,0],.ints .u8 32 (replicate 32 0)]
abbrev pE(e:LI×List Pt×Fr×LI):cb:=[.ro iK e.1,.ro bM e.2.1,.row .fr 1 [e.2.2.1],.ints .u8 32 e.2.2.2]
abbrev ny(R:Rt)(a b c d e f g h i j:Nat)(t:cb):cb:=vI R.me::.ro iK R.aE::.ro iK R.aL::vI R.bG::.ro bM R.bJ::.ro .fr R.bB::vI R.start::vI R.dK::vI R.ba::.v (pt R.bf) ::
 .sl a 0 0 f 2::.sl b 0 0 g 2::.sl c 0 0 h 6::.sl d 0 0 i 1::.sl e 0 0 j 4::t
abbrev hI(R:Rt)(t:cb):List cb:=[ny R 1 2 3 4 5 R.aG.length R.aU.length R.aM.length R.aK.length R.br.length t,[.row ed R.aG.length R.aG],[.row dZ R.aU.length R.aU],[.row dX R.aM.length R.aM],[.ints .i64 R.aK.length R.aK],[.row .fr R.br.length R.br]]
def bV(R:Rt):ak:=ak.obj (hI R (b7++[vI R.bb])) R.p ak.none
def um(R:Rt)(e:LI×List Pt×Fr×LI):ak:=ak.obj (hI R (pE e++[vI R.bb])) R.p ak.none
abbrev E8:=bw [law22.mg]
theorem dw:aS au E8:=aV (a2 law22.kZ) bY
abbrev uJ(a:dF)[W3]:cJ:=mO au E8 a
abbrev kG(R:Rt)(t:cb):e5:=[(8,ny R 9 10 11 12 13 R.aG.length R.aU.length R.aM.length R.aK.length R.br.length t),(9,[.row ed R.aG.length R.aG]),(10,[.row dZ R.aU.length R.aU]),(11,[.row dX R.aM.length R.aM]),(12,[.ints .i64 R.aK.length R.aK]),(13,[.row .fr R.br.length R.br])]
theorem B9:aF au 63 f63:=ek
abbrev WU:Func:=f63
def dlA(R:Rt):St:=ay WU.ntmps 14 [(0,al 8 0)] (kG R (b7++[vI R.bb]))
def dlB(R:Rt)(q:Bool):St:=ay WU.ntmps 14 [(2,aD q)] (kG R (b7++[vI R.bb]))
def dlC(q:Bool):St:=ay WU.ntmps 8 [(2,aD q)] []
def dlZ(p:Nat):St:=ay WU.ntmps 8 [(0,aT p)] []
theorem MB(a:dF):fk au a 63 (λR:Rt=>[aT R.p]) (λR=>R.aE.length<1000) bV (λR (_:Unit)=>aD (decide (R.me∈R.aE))) (λR _=>bV R) (λ_ _=>True):=by refine dD (sp:=E8) B9 ab (λz=>by show 1<=WU.ntmps;exact Odt ab) (λz _=>rfl) ?_;intro R f _;unfold bV;refine e6 dw 1 (dlZ R.p) ?_;refine jJ [0] (dlA R) ?_;refine gcd dw 1 (λe=>bL .bool 2 e) (λq=>dlB R q) (λq=>q=decide (R.me∈R.aE)) ?_ (λq d=>?_);intros;refine @av (law22.lb (R.aE,R.me,())/\(dlB R (decide (R.me∈R.aE))).aj (decide (R.me∈R.aE)=decide (R.me∈R.aE))) _ ?_ ?_;kernel_rfl;exact⟨by show R.aE.length<_;omega,aw rfl⟩;refine gQ (E:=uJ a) (bl:=hI R (b7++[vI R.bb])) [] [8,9,10,11,12,13] 9 (dlC q) ?_;exact tP dw (aD q) ⟨(),trivial,by rw[d];exact bR _,rfl⟩
theorem Ec:aF au 66 f66:=ek
abbrev ZB:Func:=f66
def Dj(R:Rt):St:=ay ZB.ntmps 14 [(0,al 8 0)] (kG R (b7++[vI R.bb]))
def QO(R:Rt)(q:Bool):St:=ay ZB.ntmps 14 [(2,aD q)] (kG R (b7++[vI R.bb]))
def JX(q:Bool):St:=ay ZB.ntmps 8 [(2,aD q)] []
def tkZ(p:Nat):St:=ay ZB.ntmps 8 [(0,aT p)] []
theorem PA(a:dF):fk au a 66 (λR:Rt=>[aT R.p]) (λR=>R.aL.length<1000) bV (λR (_:Unit)=>aD (decide (R.me∈R.aL))) (λR _=>bV R) (λ_ _=>True):=by refine dD (sp:=E8) Ec ab (λz=>by show 1<=ZB.ntmps;exact Odt ab) (λz _=>rfl) ?_;intro R f _;unfold bV;refine e6 dw 1 (tkZ R.p) ?_;refine jJ [0] (Dj R) ?_;refine gcd dw 1 (λe=>bL .bool 2 e) (λq=>QO R q) (λq=>q=decide (R.me∈R.aL)) ?_ (λq d=>?_);intros;refine @av (law22.lb (R.aL,R.me,())/\(QO R (decide (R.me∈R.aL))).aj (decide (R.me∈R.aL)=decide (R.me∈R.aL))) _ ?_ ?_;kernel_rfl;exact⟨by show R.aL.length<_;omega,aw rfl⟩;refine gQ (E:=uJ a) (bl:=hI R (b7++[vI R.bb])) [] [8,9,10,11,12,13] 9 (JX q) ?_;exact tP dw (aD q) ⟨(),trivial,by rw[d];exact bR _,rfl⟩
end rite
end Go.Proofs.YtofofalgjibokaaGreatDoor
/- A rite: keep, idle, Phase. -/
namespace Go.Proofs.YtofofalgjibokaaGreatDoor
namespace rite
open bf deal Go.Eng.Ob Go.Proofs.Tryz
abbrev XG(x:Fr):SV:=.is (.agg [.row .fr 1 [x]])
theorem G8:aF au 45 f45:=ek
abbrev I2:Func:=f45
def kpA(p:Nat)(d:Int)(x:Fr):St:=ay I2.ntmps 8 [(0,aT p),(1,sJ d),(5,al 0 0)] [(0,[.row .fr 1 [x]])]
def kpB(R:Rt)(d:Int)(x:Fr):St:=ay I2.ntmps 14 [(0,al 8 0),(1,sJ d),(5,al 0 0)] ((0,[.row .fr 1 [x]])::kG R (b7++[vI R.bb]))
def kpC(R:Rt)(d:Int)(x:Fr)(q:Bool):St:=ay I2.ntmps 14 [(0,al 8 0),(1,sJ d),(5,al 0 0),(11,aD q)] ((0,[.row .fr 1 [x]])::kG R (b7++[vI R.bb]))
def kpN(q:SV):St:=ay I2.ntmps 8 [(11,q)] []
def kpD(R:Rt)(x:Fr)(fl:LI):St:=ay I2.ntmps 71 [(0,al 8 0),(5,al 0 0)]
 [(0,[.row .fr 1 [x]]),(8,ny R 9 10 11 70 13 R.aG.length R.aU.length R.aM.length (R.aK.length+1) R.br.length (b7++[vI R.bb])),(9,[.row ed R.aG.length R.aG]),(10,[.row dZ R.aU.length R.aU]),(11,[.row dX R.aM.length R.aM]),(70,[.ints .i64 (R.aK.length+1) fl]),(13,[.row .fr R.br.length R.br])]
def kpE(R:Rt)(fl:LI)(a:cO):St:=ay I2.ntmps 128 []
 [(8,ny R 9 10 11 70 127 R.aG.length R.aU.length R.aM.length (R.aK.length+1) (R.br.length+1) (b7++[vI R.bb])),(9,[.row ed R.aG.length R.aG]),(10,[.row dZ R.aU.length R.aU]),(11,[.row dX R.aM.length R.aM]),(70,[.ints .i64 (R.aK.length+1) fl]),(127,[.row .fr (R.br.length+1) a])]
def kpZ:St:=ay I2.ntmps 8 [] []
def eD(R:Rt)(d:Int)(x:Fr):Rt:=if d∈R.aK then R else {R with aK:=R.aK++[d],br:=R.br++[x]}
theorem Ta(c:dF):fk au c 45 (λz:Rt×Int×Fr=>[aT z.1.p,sJ z.2.1,XG z.2.2]) (λz=>z.1.aK.length<1000000/\z.1.br.length<1000000) (λz=>bV z.1) (λ_ (_:Unit)=>.tup []) (λz _=>bV (eD z.1 z.2.1 z.2.2)) (λ_ _=>True):=by refine dD (sp:=E8) G8 ab (λz=>by show 3<=I2.ntmps;exact Odt ab) (λz _=>rfl) ?_;rintro⟨R,d,x⟩ ⟨f,g⟩ _;have f:R.aK.length<1000000:=f;have g:R.br.length<1000000:=g;show aR _ _ (GH _ _ _ (bV R)) _ _ _;unfold bV;refine e6 dw 1 (kpA R.p d x) ?_;refine jJ [0] (kpB R d x) ?_;refine gcd dw 1 (λb=>bL .bool 11 b) (λq=>kpC R d x q) (λq=>q=decide (d∈R.aK)) ?_ (λq a=>?_);intros;refine @av (0+R.aK.length<=R.aK.length/\law22.lb (take R.aK.length R.aK,d,())/\(kpC R d x (decide (d∈take R.aK.length R.aK))).aj (decide (d∈take R.aK.length R.aK)=decide (d∈R.aK))) _ ?_ ?_;kernel_rfl;rw[bg];exact⟨aa,by show R.aK.length<_;omega,aw rfl⟩;cases q;have e:¬d∈R.aK:=Odf a.symm;refine fF (ar (aq I2) 2) ?_;refine gcd dw 1 (λb=>dO iK 70 b) (λq=>kpD R x q) (λq=>q=R.aK++[d]) ?_ (λq a=>?_);intros;refine @av (0+1<=1/\R.aK.length<=R.aK.length/\(R.aK.length+1)*8<=2^47/\R.aK.length+1<=2^62/\(kpD R x (take R.aK.length R.aK++take 1 [d])).aj (take R.aK.length R.aK++take 1 [d]=R.aK++[d])) _ ?_ ?_;kernel_rfl;refine⟨ae,aQ _,aa,aa,aw ?_⟩;rw[bg];rfl;subst a;refine gcd dw 1 (λb=>dO .fr 127 b) (λq=>kpE R (R.aK++[d]) q) (λq=>q=R.br++[x]) ?_ (λq a=>?_);intros;refine @av (0+1<=1/\R.br.length<=R.br.length/\(R.br.length+1)*32<=2^47/\R.br.length+1<=2^62/\(kpE R (R.aK++[d]) (take R.br.length R.br++take 1 [x])).aj (take R.br.length R.br++take 1 [x]=R.br++[x])) _ ?_ ?_;kernel_rfl;refine⟨ae,aQ _,aa,aa,aw ?_⟩;rw[bg];rfl;subst a;refine gQ (E:=uJ c) (bl:=[ny R 1 2 3 4 5 R.aG.length R.aU.length R.aM.length (R.aK.length+1) (R.br.length+1) (b7++[vI R.bb]),[.row ed R.aG.length R.aG],[.row dZ R.aU.length R.aU],[.row dX R.aM.length R.aM],[.ints .i64 (R.aK.length+1) (R.aK++[d])],[.row .fr (R.br.length+1) (R.br++[x])]]) [] [8,9,10,11,70,127] 9 kpZ ?_;refine iU dw ao (.tup []) ?_ ⟨(),trivial,bR _,?_⟩;intros;refine @av (SV.tup []=SV.tup []) _ ?_ ?_;kernel_rfl;rfl;show _=bV (eD R d x);unfold eD;rw[ai e];unfold bV hI ny;simp only[bA,cP,jj,cy];have e:d∈R.aK:=Odt a.symm;refine gQ (E:=uJ c) (bl:=hI R (b7++[vI R.bb])) [] [8,9,10,11,12,13] 9 (kpN (aD true)) ?_;refine jy dw ao (.tup []) ?_ ⟨(),trivial,bR _,?_⟩;intros;refine @av ((true=true->SV.tup []=SV.tup [])/\(true=false->False)) _ ?_ ?_;kernel_rfl;exact⟨λ_=>rfl,λh=>by cases h⟩;show _=bV (eD R d x);unfold eD;rw[ah e];rfl
theorem QL:Tryz.prog.underlying 78=some (.pointer 120):=ab
theorem jV:aF au 35 f35:=ek
abbrev te:Func:=f35
def idZ(p:Nat):St:=ay te.ntmps 8 [(0,aT p)] []
def idN:St:=ay te.ntmps 8 [(2,ag .F)] []
def aoA(R:Rt):St:=ay te.ntmps 14 [(0,al 8 0)] (kG R (b7++[vI R.bb]))
def aoC(R:Rt):St:=ay te.ntmps 14 [(0,al 8 0),(5,ag .F),(9,aT R.bf)] (kG R (b7++[vI R.bb]))
def aoE(R:Rt):St:=ay te.ntmps 14 [(2,ag .F)] (kG R (b7++[vI R.bb]))
theorem Cv(a:dF):fk au a 35 (λR:Rt=>[aT R.p]) (λ_=>True) (λR=>bV R) (λ_ (_:Unit)=>aD false) (λR _=>bV R) (λ_ _=>True):=by refine dD (sp:=E8) jV ab (λz=>by show 1<=te.ntmps;exact Odt ab) (λz _=>rfl) ?_;intro R _ _;unfold bV;refine e6 dw 1 (idZ R.p) ?_;refine eX 1 (bS (ar (aq te) 1)) ?_;refine so (E:=uJ a) [0] ab (aoA R) (aB ab ab trivial) ?_;refine eG dw 7 (aoC R) ?_;refine hZ (fJ (E:=(uJ a).cV 8 R.p) (sv:=λ_:Unit=>ag .F) (G2:=λ_=>ak.none) (J:=λ_=>True) ab ?_) (λ_ _=>?_);rw[show j8 (bS (ar (aq te) 1)) 7=.binOp .eql 78 (.tmp 9) (.const (.pointer none)) 78 from by kernel_rfl];exact zV (p:=R.bf) QL ab ab;refine eG dw 10 (aoE R) (eK ?_);refine gQ (E:=uJ a) (bl:=hI R (b7++[vI R.bb])) [] [8,9,10,11,12,13] 9 idN ?_;exact tP dw (ag .F) ⟨(),trivial,tu,rfl⟩
def aoz(R:Rt)(e:LI×List Pt×Fr×LI):St:=ay te.ntmps 14 [(0,al 8 0)] (kG R (pE e++[vI R.bb]))
def aoB(R:Rt)(e:LI×List Pt×Fr×LI):St:=ay te.ntmps 14 [(0,al 8 0),(5,ag .F),(9,aT R.bf)] (kG R (pE e++[vI R.bb]))
def aoD(R:Rt)(e:LI×List Pt×Fr×LI):St:=ay te.ntmps 14 [(2,ag .F)] (kG R (pE e++[vI R.bb]))
theorem Pw(a:dF)(e:LI×List Pt×Fr×LI):fk au a 35 (λR:Rt=>[aT R.p]) (λ_=>True) (λR=>um R e) (λ_ (_:Unit)=>aD false) (λR _=>um R e) (λ_ _=>True):=by refine dD (sp:=E8) jV ab (λz=>by show 1<=te.ntmps;exact Odt ab) (λz _=>rfl) ?_;intro R _ _;unfold um;refine e6 dw 1 (idZ R.p) ?_;refine eX 1 (bS (ar (aq te) 1)) ?_;refine so (E:=uJ a) [0] ab (aoz R e) (aB ab ab trivial) ?_;refine eG dw 7 (aoB R e) ?_;refine hZ (fJ (E:=(uJ a).cV 8 R.p) (sv:=λ_:Unit=>ag .F) (G2:=λ_=>ak.none) (J:=λ_=>True) ab ?_) (λ_ _=>?_);rw[show j8 (bS (ar (aq te) 1)) 7=.binOp .eql 78 (.tmp 9) (.const (.pointer none)) 78 from by kernel_rfl];exact zV (p:=R.bf) QL ab ab;refine eG dw 10 (aoD R e) (eK ?_);refine gQ (E:=uJ a) (bl:=hI R (pE e++[vI R.bb])) [] [8,9,10,11,12,13] 9 idN ?_;exact tP dw (ag .F) ⟨(),trivial,tu,rfl⟩
end rite
end Go.Proofs.YtofofalgjibokaaGreatDoor
namespace Go.Eng
def apn(id:Nat)(a:St):Option Nat:=match a.B id with
 |some cs=>match cs.getLast? with
  |some (.sl _ _ _ n _)=>some n
  |some (.v (.slice none 0 0))=>some 0
  |_=>none
 |_=>none
def rdT(id:Nat)(a:St):Nat:=MC 0 (apn id a)
def apm(d id:Nat)(a:St):Nat:=match a.B id with
 |some cs=>match cs.getLast? with
  |some (.sl i _ _ _ _)=>i
  |_=>d
 |_=>d
end Go.Eng
/- A rite: all, bb, aM. -/
namespace Go.Proofs.YtofofalgjibokaaGreatDoor
namespace rite
open bf deal Go.Eng.Ob Go.Proofs.Tryz
abbrev cl:Kd:=.pair iK ig
def dj(ms:List aP):List (Int×aP):=ms.map λm=>(0,(m.1,0,m.2.2))
abbrev gv:SV:=ag (.v (.slice none 0 0))
theorem ae9:aF au 48 f48:=ek
abbrev alF:Func:=f48
def alA(ms:List aP):St:=ay alF.ntmps 8 [(3,gv),(6,ag (.ro ig ms)),(7,sJ ms.length),(8,sJ 0)] []
def alI(ms:List aP)(g:Int×Nat×List (Int×aP)):St:=ay alF.ntmps 9 [(3,ag (.sl 8 0 0 g.2.1 8)),(6,ag (.ro ig ms)),(7,sJ ms.length),(8,sJ g.1)] [(8,[.row cl g.2.1 g.2.2])]
theorem ah6:bu au 48 [.sl ig] [.own cl] cx (λ(ms,_)=>length ms<1048576) (λ(ms,_)=>(dj ms,())):=by
 have f:aS au (bw []):=bY;refine cu (sp:=bw []) ae9 ae ae ab ?_;rintro w o ⟨ms,⟨⟩⟩;revert ms;intro(ms:List aP) _ m;have m:ms.length<1048576:=m;show Tr _ _ _ _ _ _ _;refine bN f ao 3 (alA ms) True ?_ (λ_=>?_);refine av (X:=((alA ms).aj True)) ab ?_;exact aw trivial;refine CY 3 8 (.row cl 0 []) ab ?_;refine c2 f ao (λb=>[(8,Qi 3 b)]) (λb=>(bL iK 8 b,qy 3 b,dO cl 8 b)) (alI ms) (λg=>∃k:Nat,k<=ms.length/\g.1=(k:Int)/\g.2.1=k/\g.2.2=dj (ms.take k)) (λg=>ms.length-g.1.toNat)
  (λb=>(bL iK 8 b,qy 3 b,dO cl 8 b)) (alI ms) (λg=>g.2.1=ms.length/\g.2.2=dj ms) (0,0,[]) (c:=ar (aq alF) 3) ab ab (aB ab ab ?_) ?_ ?_
 exact⟨0,aY _,rfl,rfl,rfl⟩
 ·rintro⟨i,n,l⟩ p;revert i n l;intro(i:Int) (n:Nat) (l:List (Int×aP)) ⟨k,q,j,d,el⟩;have j:i=(k:Int):=j;have d:n=k:=d;subst d;subst j;refine @av ((decide ((n:Int)<(ms.length:Int))=true->(0<=(n:Int)/\(n:Int)<(ms.length:Int))/\(n:Int).toNat<ms.length/\0+1<=1/\n<=n/\(n+1)*80<=2^47/\n+1<=2^62/\(alI ms (i64.wrap ((n:Int)+1),n+1,take n l++take 1 [(0,(ms.getD (n:Int).toNat (0,0,0,0,0,0,[])).fst,0,(ms.getD (n:Int).toNat (0,0,0,0,0,0,[])).snd.snd)])).aj ((∃k,k<=ms.length/\i64.wrap ((n:Int)+1)=(k:Int)/\n+1=k/\take n l++take 1 [(0,(ms.getD (n:Int).toNat (0,0,0,0,0,0,[])).fst,0,(ms.getD (n:Int).toNat (0,0,0,0,0,0,[])).snd.snd)]=dj (take k ms))/\ms.length-(i64.wrap ((n:Int)+1)).toNat<ms.length-(n:Int).toNat))/\(decide ((n:Int)<(ms.length:Int))=false->(alI ms ((n:Int),n,l)).aj (n=ms.length/\l=dj ms))) _ ?_ ?_;kernel_rfl;have el:l=dj (ms.take n):=el;have e:l.length=n:=by rw[el,dj,b5,c6];omega
  rw[aJ,show take n l=l from by rw[<-e,bg]];refine⟨λh=>?_,λh=>aw ?_⟩
  ·have a:n<ms.length:=by have:=cM h;omega
   rw[a5 aa];refine⟨⟨aa,aa⟩,a,ae,aQ _,aa,aa,aw ⟨⟨n+1,a,rfl,rfl,?_⟩,by rw[aJ];omega⟩⟩;rw[el,dA a,dj,dj,cE,bx,bO a];rfl
  ·have:n=ms.length:=by have:=cL h;omega
   rw[this,bg]at el;exact⟨this,el⟩
 ·rintro⟨i,n,l⟩ r;revert i n l;intro(i:Int) (n:Nat) (l:List (Int×aP)) ⟨d,el⟩;have d:n=ms.length:=d;have el:l=dj ms:=el;have e:l.length=n:=by rw[el,d,dj,b5]
  refine cq f ao _ _ ?_;refine @av (0+n<=n/\(take n l,())=(dj ms,())) _ ?_ ?_;kernel_rfl;rw[show take n l=l from by rw[<-e,bg],el];exact⟨aa,rfl⟩
def Nx:Nat×Eng.Spec:=(48,mJ [.sl ig] [.val (.sl cl)] (λ(ms,_)=>length ms<1048576) (λ(ms,_)=>(dj ms,())))
theorem Yh:pY au Nx.1 Nx.2:=a2 ah6.Bd
def yc(t:Hbm.Told):Int×LI:=(t.2.1,t.2.2)
theorem W1:aF au 83 f83:=ek
abbrev ftF:Func:=f83
def ftA(bE:Int)(b:LI):St:=ay ftF.ntmps 41 [(2,al 8 0),(3,al 40 0),(10,ag (.ro (.int .u8) b)),(11,sJ b.length),(12,sJ 0)] [(8,[vI 0,.v (.slice none 0 0)]),(40,[vI bE,.v (.slice none 0 0)])]
def ftI(bE:Int)(b:LI)(g:Int×Nat×LI):St:=ay ftF.ntmps 42 [(2,al 8 0),(3,al 40 0),(10,ag (.ro (.int .u8) b)),(11,sJ b.length),(12,sJ g.1)] [(8,[vI 0,.v (.slice none 0 0)]),(40,[vI bE,.sl 41 0 0 g.2.1 1]),(41,[.ints .i64 g.2.1 g.2.2])]
theorem Ou:bu au 83 [eU] [.val dZ] cx (λ(t,_)=>length t.2.2<1048576/\Bs t.2.2) (λ(t,_)=>(yc t,())):=by
 have f:aS au (bw []):=bY;refine cu (sp:=bw []) W1 ae ae ab ?_;rintro w u ⟨⟨p,bE,b⟩,⟨⟩⟩;revert p bE b;intro(p:Int) (bE:Int) (b:LI) _ ⟨q,m⟩;have q:b.length<1048576:=q;have m:Bs b:=m;show Tr _ _ _ _ _ _ _;refine bN f ao 3 (ftA bE b) True ?_ (λ_=>?_);refine av (X:=((ftA bE b).aj True)) ab ?_;exact aw trivial;refine Ua 40 (.ints .i64 0 []) [vI bE,.v (.slice none 0 0)] [vI bE,.sl 41 0 0 0 1] ab az (λH G s=>?_) ?_;obtain⟨C,D,rfl,r,E,F,rfl,⟨rfl,_⟩,rfl⟩:=s;exact⟨_,_,rfl,r,_,_,rfl,.inl ⟨rfl,rfl⟩,rfl⟩;refine c2 f ao (λd=>[(41,apm 41 40 d)]) (λd=>(bL iK 12 d,rdT 40 d,dO iK 41 d)) (ftI bE b) (λg=>∃k:Nat,k<=b.length/\g.1=(k:Int)/\g.2.1=k/\g.2.2=b.take k) (λg=>b.length-g.1.toNat)
  (λd=>(bL iK 12 d,rdT 40 d,dO iK 41 d)) (ftI bE b) (λg=>g.2.1=b.length/\g.2.2=b) (0,0,[]) (c:=ar (aq ftF) 3) ab ab (aB ab ab ?_) ?_ ?_
 exact⟨0,aY _,rfl,rfl,rfl⟩
 ·rintro⟨i,n,l⟩ x;revert i n l;intro(i:Int) (n:Nat) (l:LI) ⟨k,y,j,e,el⟩;have j:i=(k:Int):=j;have e:n=k:=e;subst e;subst j;refine @av ((decide ((n:Int)<(b.length:Int))=true->(0<=(n:Int)/\(n:Int)<(b.length:Int))/\(n:Int).toNat<b.length/\0+1<=1/\n<=n/\(n+1)*8<=2^47/\n+1<=2^62/\(ftI bE b (i64.wrap ((n:Int)+1),n+1,take n l++take 1 [i64.wrap (b.getD (n:Int).toNat 0)])).aj ((∃k,k<=b.length/\i64.wrap ((n:Int)+1)=(k:Int)/\n+1=k/\take n l++take 1 [i64.wrap (b.getD (n:Int).toNat 0)]=take k b)/\b.length-(i64.wrap ((n:Int)+1)).toNat<b.length-(n:Int).toNat))/\(decide ((n:Int)<(b.length:Int))=false->(ftI bE b ((n:Int),n,l)).aj (n=b.length/\l=b))) _ ?_ ?_;kernel_rfl;have el:l=b.take n:=el;have o:l.length=n:=by rw[el,c6];omega
  rw[aJ,show take n l=l from by rw[<-o,bg]];refine⟨λh=>?_,λh=>aw ?_⟩
  ·have a:n<b.length:=by have:=cM h;omega
   rw[a5 aa];refine⟨⟨aa,aa⟩,a,ae,aQ _,aa,aa,aw ⟨⟨n+1,a,rfl,rfl,?_⟩,by rw[aJ];omega⟩⟩;have A:=m _ (de a);rw[el,dA a,bx,bO a,c7,bC aa aa];rfl
  ·have:n=b.length:=by have:=cL h;omega
   rw[this,bg]at el;exact⟨this,el⟩
 rintro⟨i,n,l⟩ z;revert i n l;intro(i:Int) (n:Nat) (l:LI) ⟨e,el⟩;have e:n=b.length:=e;have el:l=b:=el;refine cq f ao _ _ ?_;refine @av (0+n<=n/\((bE,take n l),())=(yc (p,bE,b),())) _ ?_ ?_;kernel_rfl;rw[show take n l=l from by rw[el,e,bg],el];exact⟨aa,rfl⟩
def ag1:=aZ Ou
end rite
end Go.Proofs.YtofofalgjibokaaGreatDoor
/- fr.Read; a rite's aM. -/
namespace Go.Proofs.YtofofalgjibokaaGreatDoor
namespace fr
open Go.Eng.Ob Go.Proofs.Tryz
theorem ya:aF au 44 f44:=ek
def CE(a:LI):Fr×Int:=if a.length=32 then(if num a<Mr then(zm (num a),0)else(0,12))else(0,10)
abbrev kR:HL [.sl (.int .u8)]->HO [.val .fr,.val (.int .i64)]:=λ(a,_)=>((CE a).1,(CE a).2,())
theorem uY:bu au 44 [.sl (.int .u8)] [.val .fr,.val (.int .i64)] cx (λ(a,_)=>Bs a) kR:=by
 refine bH (sp:=bw [BO,rl,tx,vw,kg]) (aV (a2 uZ) (aV (a2 l9) (aV (a2 nR) (aV (a2 qT) (aV (a2 gL) bY))))) ao ya ae ae ?_;rintro w k ⟨a,⟨⟩⟩ _ d;have d:Bs a:=d
 refine av (X:=(((((a.length:Int) != 32)=true->(((0:Fr),10,())=kR (a,())))/\
  (((a.length:Int) != 32)=false->vr (a,())/\True/\uf (bp 4 (num a),ms,())/\
   ((((if val (bp 4 (num a))<val ms then(1:Int)else 0)==0)=true->(((0:Fr),(12:Int),())=kR (a,())))/\
    (((if val (bp 4 (num a))<val ms then(1:Int)else 0)==0)=false->True/\gw (enc (R2:Fr),bp 4 (num a),())/\Canon Mr (bp 4 (val (enc (R2:Fr))*val (bp 4 (num a))*c9%M))/\((dec (bp 4 (val (enc (R2:Fr))*val (bp 4 (num a))*c9%M)),(0:Int),())=kR (a,())))))))) ab ?_
 refine⟨λh=>?_,λh=>?_⟩
 ·have:¬a.length=32:=by intro e;rw[e]at h;exact absurd h ae
  simp[kR,CE,this]
 ·have g:a.length=32:=by
   have:¬((a.length:Int)≠32):=by simpa using h
   omega
  have b:=EL d;rw[g]at b;have j:b9 32=pw 4:=yE 4;have i:val (bp 4 (num a))=num a:=uA b.1 (by rw[<-j];exact b.2);refine⟨⟨d,by show length a<=32;omega⟩,trivial,⟨lr _ _,rK⟩,λh=>?_,λh=>⟨trivial,⟨gB _,lr _ _,(dB _).2.2⟩,?_⟩⟩
  ·rw[i,im]at h;have:¬num a<Mr:=by intro f;rw[ah f]at h;exact absurd h ae
   simp[kR,CE,g,this]
  ·rw[i,im]at h;have:num a<Mr:=Decidable.byContradiction λf=>by rw[ai f]at h;exact absurd h ae
   rw[show bp 4 (val (enc (R2:Fr))*val (bp 4 (num a))*c9%M)=enc (zm (val (bp 4 (num a))):Fr)from tw (M:=Mr),i];refine⟨dB _,?_⟩;rw[fj];simp[kR,CE,g,this]
def ro(d:LI):Fr×Int:=gA (CE d)
abbrev KL:=uY.ou (λ(a,_)=>((ro a).1,(ro a).2,())) λ(a,_)=>by show((ro a).1,(ro a).2,())=((CE a).1,(CE a).2,());rw[ro,bq]
def QA:=aZ KL
end fr
namespace rite
open Go.Proofs.YtofofalgjibokaaGreatDoor.bf Go.Proofs.YtofofalgjibokaaGreatDoor.deal Go.Eng.Ob Go.Proofs.Tryz
def EZ(bE:Int)(b:LI):List (Int×Int×Fr):=if(fr.ro ((b.drop 1).take 32)).2=0 then [(bE,b.getD 0 0,(fr.ro ((b.drop 1).take 32)).1)]else []
def qm(bE:Int):Nat->LI->List (Int×Int×Fr)
 |0,_=>[]
 |n+1,b=>EZ bE b++qm bE n (b.drop 33)
def gp(t:Hbm.Told):List (Int×Int×Fr):=qm t.2.1 (t.2.2.length/33) t.2.2
theorem MK(bE:Int):∀(n:Nat)(b:LI),qm bE (n+1) b=qm bE n b++EZ bE (b.drop (33*n))
 |0,b=>by simp[qm]
 |n+1,b=>by rw[qm,MK bE n (b.drop 33),qm,iI,cZ];congr 4;omega
theorem UP:aF au 84 f84:=ek
abbrev pfF:Func:=f84
abbrev F7(t:Hbm.Told):cb:=[vI t.1,vI t.2.1,.ro (.int .u8) t.2.2]
def pfA(t:Hbm.Told):St:=ay pfF.ntmps 8 [(1,al 0 0),(3,gv),(4,ag (.ro (.int .u8) t.2.2))] [(0,F7 t)]
def Yv(t:Hbm.Told)(g:LI×Nat×List (Int×Int×Fr)):St:=ay pfF.ntmps 9 [(1,al 0 0),(3,ag (.sl 8 0 0 g.2.1 6)),(4,ag (.ro (.int .u8) g.1))] [(0,F7 t),(8,[.row dX g.2.1 g.2.2])]
theorem Xp:bu au 84 [eU] [.own dX] cx (λ(t,_)=>length t.2.2<1048576/\Bs t.2.2) (λ(t,_)=>(gp t,())):=by
 have i:aS au (bw [fr.QA]):=aV (a2 fr.KL) bY;refine cu (sp:=bw [fr.QA]) UP ae ae ab ?_;rintro w C ⟨⟨a,bE,b⟩,⟨⟩⟩;revert a bE b;intro(a:Int) (bE:Int) (b:LI) _ ⟨x,s⟩;have x:b.length<1048576:=x;have s:Bs b:=s;show Tr _ _ _ _ _ _ _;refine bN i ao 3 (pfA (a,bE,b)) True ?_ (λ_=>?_);refine av (X:=((pfA (a,bE,b)).aj True)) ab ?_;exact aw trivial;refine CY 3 6 (.row dX 0 []) ab ?_;refine c2 i ao (λe=>[(8,Qi 3 e)]) (λe=>(Jt (.int .u8) 4 e,qy 3 e,dO dX 8 e)) (Yv (a,bE,b)) (λg=>∃k:Nat,33*k<=b.length/\g.1=b.drop (33*k)/\g.2.1=g.2.2.length/\g.2.2=qm bE k b) (λg=>g.1.length)
  (λe=>(Jt (.int .u8) 4 e,qy 3 e,dO dX 8 e)) (Yv (a,bE,b)) (λg=>g.2.1=g.2.2.length/\g.2.2=gp (a,bE,b)) (b,0,[]) (c:=ar (aq pfF) 3) ab ab (aB ab ab ?_) ?_ ?_
 exact⟨0,aY _,rfl,rfl,rfl⟩
 ·rintro⟨c,n,l⟩ E;revert c n l;intro(c:LI) (n:Nat) (l:List (Int×Int×Fr)) ⟨k,F,j,d,el⟩;have j:c=b.drop (33*k):=j;have d:n=l.length:=d;have el:l=qm bE k b:=el;have m:Bs c:=by rw[j];exact AS s _
  have y:c.length=b.length-33*k:=by rw[j,gu]
  have z:l.length<=k:=by
   rw[el];have:∀(k:Nat)(b:LI),(qm bE k b).length<=k:=by
    intro k;induction k with
    |zero=>intro b;exact aQ _
    |succ k A=>
     intro b;rw[qm,bA];have D:=A (b.drop 33);have p:(EZ bE b).length<=1:=by unfold EZ;split<;>simp
     omega
   exact this k b
  have f:=MK bE k b;rw[<-j,<-el]at f;refine @av ((decide ((c.length:Int)>=33)=true->((0:Int)<=1/\(1:Int)<=33/\33<=(c.length:Int))/\Bs (take 32 (drop 1 c))/\(((fr.ro (take 32 (drop 1 c))).snd==0)=true->((0:Int)<=0/\0<(c.length:Int))/\0<c.length/\0+1<=1/\n<=n/\(n+1)*48<=2^47/\n+1<=2^62/\((0:Int)<=33/\33<=(c.length:Int))/\(Yv (a,bE,b) (take ((c.length:Int)-33).toNat (drop 33 c),n+1,take n l++take 1 [(bE,IntKind.i64.wrap (c.getD 0 0),((fr.ro (take 32 (drop 1 c))).fst,(fr.ro (take 32 (drop 1 c))).snd,()).fst)])).aj ((∃k,33*k<=b.length/\take ((c.length:Int)-33).toNat (drop 33 c)=drop (33*k) b/\n+1=(take n l++take 1 [(bE,IntKind.i64.wrap (c.getD 0 0),(fr.ro (take 32 (drop 1 c))).fst)]).length/\take n l++take 1 [(bE,IntKind.i64.wrap (c.getD 0 0),(fr.ro (take 32 (drop 1 c))).fst)]=qm bE k b)/\(take ((c.length:Int)-33).toNat (drop 33 c)).length<c.length))/\(((fr.ro (take 32 (drop 1 c))).snd==0)=false->((0:Int)<=33/\33<=(c.length:Int))/\(Yv (a,bE,b) (take ((c.length:Int)-33).toNat (drop 33 c),n,l)).aj ((∃k,33*k<=b.length/\take ((c.length:Int)-33).toNat (drop 33 c)=drop (33*k) b/\n=l.length/\l=qm bE k b)/\(take ((c.length:Int)-33).toNat (drop 33 c)).length<c.length)))/\(decide ((c.length:Int)>=33)=false->(Yv (a,bE,b) (c,n,l)).aj (n=l.length/\l=gp (a,bE,b)))) _ ?_ ?_;kernel_rfl;rw[show take n l=l from by rw[d,bg]];refine⟨λh=>?_,λh=>aw ?_⟩
  ·have r:33<=c.length:=by have:=Odt h;omega
   have H:=m _ (de (show 0<c.length by omega));have u:take ((c.length:Int)-33).toNat (drop 33 c)=b.drop (33*(k+1)):=by rw[cA (by rw[gu];omega),j,iI];congr 1
   have o:(take ((c.length:Int)-33).toNat (drop 33 c)).length<c.length:=by rw[c6,gu];omega
   refine⟨⟨aa,aa,aa⟩,Fs (AS m _) _,λp=>?_,λp=>?_⟩
   ·have q:(fr.ro ((c.drop 1).take 32)).2=0:=by simpa using p
    refine⟨⟨aa,aa⟩,aa,ae,aQ _,aa,aa,⟨aa,aa⟩,aw ⟨⟨k+1,aa,u,?_,?_⟩,o⟩⟩;rw[bA,d];rfl;rw[f,EZ,ah q,bx,bO (show 0<c.length by omega),c7,bC aa aa];rfl
   ·have q:¬(fr.ro ((c.drop 1).take 32)).2=0:=by simpa using p
    refine⟨⟨aa,aa⟩,aw ⟨⟨k+1,aa,u,d,?_⟩,o⟩⟩;rw[f,EZ,ai q,bF]
  ·refine⟨d,?_⟩;have r:c.length<33:=by have:=Odf h;omega
   rw[el,gp];congr 1;show k=b.length/33;omega
 rintro⟨c,n,l⟩ G;revert c n l;intro(c:LI) (n:Nat) (l:List (Int×Int×Fr)) ⟨d,el⟩;have d:n=l.length:=d;have el:l=gp (a,bE,b):=el;refine cq i ao _ _ ?_;refine @av (0+n<=n/\(take n l,())=(gp (a,bE,b),())) _ ?_ ?_;kernel_rfl;rw[show take n l=l from by rw[d,bg],el];exact⟨aa,rfl⟩
end rite
end Go.Proofs.YtofofalgjibokaaGreatDoor
namespace Go.Eng
theorem bu.anY{P:Program}{f:FuncId}{a:List Kd}{e q:Kd}{G:hU}{pre:HL a->Prop}{F:HL a->HO [.own e,.val q]}(h:bu P f a [.own e,.val q] G pre F):bu P f a [.val (.sl e),.val q] G pre F:=by intro w M T t C A k N;refine(h w M T t C A k N).mono ?_;rintro v W ⟨V,X,Q,⟨s,p,u,m,⟨U,i,x,z,y⟩⟩,E⟩;refine⟨V,none,Q,⟨s,p,u,?_,⟨U,i,x,C2 (λ_ h=>dT HB h) z,y⟩⟩,E⟩;show Rd (eC w.heap.size M none W) (.sl e) _ [s];rcases m with ⟨R,rfl⟩|⟨b,o,j,n,l,L,D,rfl,H,m,O,c,d⟩;exact .inl ⟨R,none,0,rfl,λ_=>rfl⟩;rcases m with rfl|rfl;have r:=iu (λ_ _=>cK) d;obtain⟨g,el,fr,I,_⟩:=c;refine .inr ⟨b,0,j,rfl,H,l++g,λK=>?_,by rw[bA,r];omega,?_⟩;unfold eC;rw[ai az,ah D];exact mu I K;rw[jU,<-r,px];exact fe (λ_ _ h=>dT HB h) d;rfl;exact .inl ⟨eL aa,some ⟨b,o,none⟩,0,by rw[show(F t).1.length=0 by omega],λh=>by cases h⟩
end Go.Eng
/- A rite: cF. -/
namespace Go.Proofs.YtofofalgjibokaaGreatDoor
namespace rite
open bf deal Go.Eng.Ob
def oG(d:LI)(n:Int)(o:cj)(a:Int)(b:LI):cj×Int:=gA (qx d n o a b)
abbrev adG:=bu.ou uY.anY (λ((d,_,n,o),a,b,_)=>((oG d n o a b).1,(oG d n o a b).2,())) λ((d,_,n,o),a,b,_)=>by show((oG d n o a b).1,(oG d n o a b).2,())=((qx d n o a b).1,(qx d n o a b).2,());rw[oG,bq]
def apv:=aZ adG
def aci:Nat×Eng.Spec:=(84,mJ [eU] [.val (.sl dX)] (λ(t,_)=>length t.2.2<1048576/\Bs t.2.2) (λ(t,_)=>(gp t,())))
def et(R:Rt)(t:Hbm.Told):Rt:=
 if t.1=1 then(if(oG R.aE R.bG R.bJ t.2.1 t.2.2).2=0 then {R with aG:=R.aG++[(t.2.1,(oG R.aE R.bG R.bJ t.2.1 t.2.2).1)]}else R)
 else if t.1=2 then(if R.ba<3 then {R with aU:=R.aU++[yc t]}else R)
 else if t.1=3 then {R with aM:=R.aM++gp t}else R
def fy(R:Rt)(a:List Hbm.Told):Rt:=a.foldl et R
def qD(t:Hbm.Told):Prop:=t.2.2.length<1000000/\Bs t.2.2/\gb t.2.1
structure RtOk(R:Rt):Prop where
 aE:R.aE.length<1000
 bJ:R.bJ.length<1000
 aG:R.aG.length<1000000
 aU:R.aU.length<1000000
 aM:R.aM.length<1000000000000
theorem Qd:∀(bE:Int)(k:Nat)(b:LI),(qm bE k b).length<=k
 |_,0,_=>aQ _
 |bE,k+1,b=>by
  rw[qm,bA];have a:=Qd bE k (b.drop 33);have c:(EZ bE b).length<=1:=by unfold EZ;split<;>simp
  omega
theorem Jq(t:Hbm.Told):(gp t).length<=t.2.2.length:=by have h:=Qd t.2.1 (t.2.2.length/33) t.2.2;unfold gp;omega
structure Ds(R S:Rt):Prop where
 p:S.p=R.p
 me:S.me=R.me
 aE:S.aE=R.aE
 aL:S.aL=R.aL
 bG:S.bG=R.bG
 bJ:S.bJ=R.bJ
 bB:S.bB=R.bB
 start:S.start=R.start
 dK:S.dK=R.dK
 ba:S.ba=R.ba
 bf:S.bf=R.bf
 aK:S.aK=R.aK
 br:S.br=R.br
 bb:S.bb=R.bb
theorem Ds.rfl{R:Rt}:Ds R R:=⟨_root_.rfl,_root_.rfl,_root_.rfl,_root_.rfl,_root_.rfl,_root_.rfl,_root_.rfl,_root_.rfl,_root_.rfl,_root_.rfl,_root_.rfl,_root_.rfl,_root_.rfl,_root_.rfl⟩
theorem Ds.trans{R S T:Rt}(h:Ds R S)(k:Ds S T):Ds R T:=⟨k.p.trans h.p,k.me.trans h.me,k.aE.trans h.aE,k.aL.trans h.aL,k.bG.trans h.bG,k.bJ.trans h.bJ,k.bB.trans h.bB,k.start.trans h.start,k.dK.trans h.dK,k.ba.trans h.ba,k.bf.trans h.bf,k.aK.trans h.aK,k.br.trans h.br,k.bb.trans h.bb⟩
theorem IQ(R:Rt)(t:Hbm.Told):Ds R (et R t):=by unfold et;split;split<;>constructor<;>exact _root_.rfl;split;split<;>constructor<;>exact _root_.rfl;split<;>constructor<;>exact _root_.rfl
theorem rA:∀(a:List Hbm.Told)(R:Rt),Ds R (fy R a)
 |[],_=>.rfl
 |t::a,R=>(IQ R t).trans (rA a (et R t))
theorem XR(R:Rt)(t:Hbm.Told):(et R t).aG.length<=R.aG.length+1/\(et R t).aU.length<=R.aU.length+1/\(et R t).aM.length<=R.aM.length+t.2.2.length:=by have:=Jq t;unfold et;split;split;simp;omega;split;split;simp;omega;split;simp;omega;omega
theorem Ey:∀(a:List Hbm.Told)(R:Rt),(∀t∈a,qD t)->(fy R a).aG.length<=R.aG.length+a.length/\(fy R a).aU.length<=R.aU.length+a.length/\(fy R a).aM.length<=R.aM.length+1000000*a.length
 |[],_,_=>⟨aQ _,aQ _,aQ _⟩
 |t::a,R,h=>by have d:=XR R t;have e:=Ey a (et R t) (λu b=>h u (by simp[b]));have f:=(h t az).1;show(fy (et R t) a).aG.length<=_/\(fy (et R t) a).aU.length<=_/\(fy (et R t) a).aM.length<=_;simp;omega
theorem U7(R:Rt)(a:List Hbm.Told)(t:Hbm.Told):fy R (a++[t])=et (fy R a) t:=by unfold fy;simp_all
theorem pG:aF au 47 Tryz.f47:=ek
abbrev Gw:Func:=Tryz.f47
def uE(p:Nat)(a:List Hbm.Told)(k:Int):St:=ay Gw.ntmps 8 [(0,aT p),(8,ag (.ro eU a)),(9,sJ a.length),(10,sJ k)] []
def hsT(p:Nat)(a:List Hbm.Told)(k:Int)(t:Hbm.Told):St:=ay Gw.ntmps 8 [(0,aT p),(8,ag (.ro eU a)),(9,sJ a.length),(10,sJ k),(5,al 0 0),(15,sJ t.1)] [(0,F7 t)]
def uF(p:Nat)(a:List Hbm.Told)(k:Int)(t:Hbm.Told)(s:Nat)(q:Bool):St:=ay Gw.ntmps 8 [(0,aT p),(8,ag (.ro eU a)),(9,sJ a.length),(10,sJ k),(5,al 0 0),(15,sJ t.1),(s,aD q)] [(0,F7 t)]
abbrev aa8:=bw [apv,ag1,aci]
theorem iz:aS au aa8:=aV (a2 adG) (aV (a2 Ou) (aV (a2 Xp.Bd) bY))
abbrev hsC:Code:=ar (aq Gw) 1
abbrev hsL:cw:=aO hsC
abbrev hsB:cw:=cg (ar hsL 2)
abbrev Gx:cw:=cg (ar hsB 2)
abbrev p5:cw:=fC (ar Gx 1)
abbrev OR:cw:=tM (ar Gx 1)
abbrev SL:cw:=fC (ar OR 1)
abbrev aa7:cw:=tM (ar OR 1)
abbrev hs3:cw:=fC (ar aa7 1)
def OS(R:Rt)(a:List Hbm.Told)(k:Int)(t:Hbm.Told)(b:g9):St:=ay Gw.ntmps 14 ([(0,al 8 0),(8,ag (.ro eU a)),(9,sJ a.length),(10,sJ k),(5,al 0 0)]++b) ((0,F7 t)::kG R (b7++[vI R.bb]))
section
variable (gl:dF)[W3]
abbrev SM:cJ:=mO au aa8 gl
abbrev AF:=GH (SM gl) Gw.ntmps
def aiQ(R:Rt)(a:List Hbm.Told)(k:Int)(q:List (Int×List Pt)):St:=ay Gw.ntmps 95 [(0,al 8 0),(8,ag (.ro eU a)),(9,sJ a.length),(10,sJ k)] [(8,ny R 94 10 11 12 13 (R.aG.length+1) R.aU.length R.aM.length R.aK.length R.br.length (b7++[vI R.bb])),(94,[.row ed (R.aG.length+1) q]),(10,[.row dZ R.aU.length R.aU]),(11,[.row dX R.aM.length R.aM]),(12,[.ints .i64 R.aK.length R.aK]),(13,[.row .fr R.br.length R.br])]
def aiR(R:Rt)(a:List Hbm.Told)(k:Int)(q:List (Int×LI)):St:=ay Gw.ntmps 79 [(0,al 8 0),(8,ag (.ro eU a)),(9,sJ a.length),(10,sJ k)] [(8,ny R 9 78 11 12 13 R.aG.length (R.aU.length+1) R.aM.length R.aK.length R.br.length (b7++[vI R.bb])),(9,[.row ed R.aG.length R.aG]),(78,[.row dZ (R.aU.length+1) q]),(11,[.row dX R.aM.length R.aM]),(12,[.ints .i64 R.aK.length R.aK]),(13,[.row .fr R.br.length R.br])]
def aiS(R:Rt)(a:List Hbm.Told)(k:Int)(m:Nat)(q:List (Int×Int×Fr)):St:=ay Gw.ntmps 71 [(0,al 8 0),(8,ag (.ro eU a)),(9,sJ a.length),(10,sJ k)] [(8,ny R 9 10 70 12 13 R.aG.length R.aU.length (R.aM.length+m) R.aK.length R.br.length (b7++[vI R.bb])),(9,[.row ed R.aG.length R.aG]),(10,[.row dZ R.aU.length R.aU]),(70,[.row dX (R.aM.length+m) q]),(12,[.ints .i64 R.aK.length R.aK]),(13,[.row .fr R.br.length R.br])]
theorem aof(R:Rt)(e:RtOk R)(a:List Hbm.Told)(k:Int)(t:Hbm.Told)(f:qD t)(g:t.1=1){n i:aA}{x:Nat->aA}(h:aR au [] (AF gl (uE R.p a k) (bV (et R t))) n i x):
  aR au Gx (AF gl (hsT R.p a k t) (bV R)) n i x:=by
 unfold et at h;rw[ah g]at h;refine gcd iz 1 (λd=>bL .bool 16 d) (λq=>uF R.p a k t 16 q) (λq=>q=true) ?_ (λq b=>?_);intros;refine @av ((uF R.p a k t 16 (t.fst==1)).aj ((t.fst==1)=true)) _ ?_ ?_;kernel_rfl;exact aw (by simp[g]);subst b;refine jX (ar Gx 1) ?_;unfold bV at *;refine jJ [0] (OS R a k t []) ?_;refine gcd iz 2 (λd=>bL .bool 31 d) (λq=>OS R a k t [(6,ag (.ro bM (oG R.aE R.bG R.bJ t.2.1 t.2.2).1)),(31,aD q)]) (λq=>q=decide ((oG R.aE R.bG R.bJ t.2.1 t.2.2).2=0)) ?_ (λq b=>?_);intros;refine @av (aec ((R.aE,R.aL,R.bG,R.bJ),t.snd.fst,t.snd.snd,())/\(OS R a k t [(6,SV.is (TV.one (ax.ro bM (oG R.aE R.bG R.bJ t.snd.fst t.snd.snd).fst))),(31,aD ((oG R.aE R.bG R.bJ t.snd.fst t.snd.snd).snd==0))]).aj (((oG R.aE R.bG R.bJ t.snd.fst t.snd.snd).snd==0)=decide ((oG R.aE R.bG R.bJ t.snd.fst t.snd.snd).snd=0))) _ ?_ ?_;kernel_rfl;exact⟨⟨by have:=e.aE;omega,⟨by have:=e.bJ;omega,f.2.2⟩,f.2.1,by have:=f.1;omega⟩,aw rfl⟩;cases q;rw[ai (Odf b.symm)]at h;refine fF (ar p5 2) ?_;refine gQ (E:=SM gl) (bl:=hI R (b7++[vI R.bb])) [] [8,9,10,11,12,13] 9 (uE R.p a k) ?_;exact h;rw[ah (Odt b.symm)]at h;refine jX (ar p5 2) ?_;refine gcd iz 1 (λd=>dO ed 94 d) (λq=>aiQ R a k q) (λq=>q=R.aG++[(t.2.1,(oG R.aE R.bG R.bJ t.2.1 t.2.2).1)]) ?_ (λq b=>?_);have j:=e.aG;intros;refine @av (0+1<=1/\R.aG.length<=R.aG.length/\(R.aG.length+1)*32<=2^47/\R.aG.length+1<=2^62/\(aiQ R a k (take R.aG.length R.aG++take 1 [(t.snd.fst,(oG R.aE R.bG R.bJ t.snd.fst t.snd.snd).fst)])).aj (take R.aG.length R.aG++take 1 [(t.snd.fst,(oG R.aE R.bG R.bJ t.snd.fst t.snd.snd).fst)]=R.aG++[(t.snd.fst,(oG R.aE R.bG R.bJ t.snd.fst t.snd.snd).fst)])) _ ?_ ?_;kernel_rfl;refine⟨ae,aQ _,aa,aa,aw ?_⟩;rw[bg];rfl;subst b;refine gQ (E:=SM gl) (bl:=[ny R 1 2 3 4 5 (R.aG.length+1) R.aU.length R.aM.length R.aK.length R.br.length (b7++[vI R.bb]),[.row ed (R.aG.length+1) (R.aG++[(t.2.1,(oG R.aE R.bG R.bJ t.2.1 t.2.2).1)])],[.row dZ R.aU.length R.aU],[.row dX R.aM.length R.aM],[.ints .i64 R.aK.length R.aK],[.row .fr R.br.length R.br]]) [] [8,94,10,11,12,13] 9 (uE R.p a k) ?_;refine a7 ?_ h;unfold hI ny;simp
theorem aog(R:Rt)(i:RtOk R)(a:List Hbm.Told)(k:Int)(t:Hbm.Told)(f:qD t)(e:t.1=2){n g:aA}{x:Nat->aA}(h:aR au [] (AF gl (uE R.p a k) (bV (et R t))) n g x):
  aR au Gx (AF gl (hsT R.p a k t) (bV R)) n g x:=by
 unfold et at h;rw[ai (by rw[e];decide),ah e]at h;refine gcd iz 1 (λd=>bL .bool 16 d) (λq=>uF R.p a k t 16 q) (λq=>q=false) ?_ (λq b=>?_);intros;refine @av ((uF R.p a k t 16 (t.fst==1)).aj ((t.fst==1)=false)) _ ?_ ?_;kernel_rfl;exact aw (by simp[e]);subst b;refine fF (ar Gx 1) ?_;refine gcd iz 1 (λd=>bL .bool 45 d) (λq=>uF R.p a k t 45 q) (λq=>q=true) ?_ (λq b=>?_);intros;refine @av ((uF R.p a k t 45 (t.fst==2)).aj ((t.fst==2)=true)) _ ?_ ?_;kernel_rfl;exact aw (by simp[e]);subst b;refine jX (ar OR 1) ?_;unfold bV at *;refine jJ [0] (OS R a k t []) ?_;refine gcd iz 1 (λd=>bL .bool 51 d) (λq=>OS R a k t [(51,aD q)]) (λq=>q=decide (R.ba<3)) ?_ (λq b=>?_);intros;refine @av ((OS R a k t [(51,aD (decide (R.ba<3)))]).aj (decide (R.ba<3)=decide (R.ba<3))) _ ?_ ?_;kernel_rfl;exact aw rfl;cases q;rw[ai (Odf b.symm)]at h;refine fF (ar SL 1) ?_;refine gQ (E:=SM gl) (bl:=hI R (b7++[vI R.bb])) [] [8,9,10,11,12,13] 9 (uE R.p a k) ?_;exact h;rw[ah (Odt b.symm)]at h;refine jX (ar SL 1) ?_;refine gcd iz 1 (λd=>dO dZ 78 d) (λq=>aiR R a k q) (λq=>q=R.aU++[yc t]) ?_ (λq b=>?_);have j:=i.aU;intros;refine @av ((t.snd.snd.length<1048576/\Bs t.snd.snd)/\0+1<=1/\R.aU.length<=R.aU.length/\(R.aU.length+1)*32<=2^47/\R.aU.length+1<=2^62/\(aiR R a k (take R.aU.length R.aU++take 1 [t.snd])).aj (take R.aU.length R.aU++take 1 [t.snd]=R.aU++[yc t])) _ ?_ ?_;kernel_rfl;refine⟨⟨by have:=f.1;omega,f.2.1⟩,ae,aQ _,aa,aa,aw ?_⟩;rw[bg];rfl;subst b;refine gQ (E:=SM gl) (bl:=[ny R 1 2 3 4 5 R.aG.length (R.aU.length+1) R.aM.length R.aK.length R.br.length (b7++[vI R.bb]),[.row ed R.aG.length R.aG],[.row dZ (R.aU.length+1) (R.aU++[yc t])],[.row dX R.aM.length R.aM],[.ints .i64 R.aK.length R.aK],[.row .fr R.br.length R.br]]) [] [8,9,78,11,12,13] 9 (uE R.p a k) ?_;refine a7 ?_ h;unfold hI ny;simp
theorem aoh(R:Rt)(i:RtOk R)(a:List Hbm.Told)(k:Int)(t:Hbm.Told)(f:qD t)(e:t.1=3){n g:aA}{x:Nat->aA}(h:aR au [] (AF gl (uE R.p a k) (bV (et R t))) n g x):
  aR au Gx (AF gl (hsT R.p a k t) (bV R)) n g x:=by
 unfold et at h;rw[ai (by rw[e];decide),ai (by rw[e];decide),ah e]at h;refine gcd iz 1 (λd=>bL .bool 16 d) (λq=>uF R.p a k t 16 q) (λq=>q=false) ?_ (λq b=>?_);intros;refine @av ((uF R.p a k t 16 (t.fst==1)).aj ((t.fst==1)=false)) _ ?_ ?_;kernel_rfl;exact aw (by simp[e]);subst b;refine fF (ar Gx 1) ?_;refine gcd iz 1 (λd=>bL .bool 45 d) (λq=>uF R.p a k t 45 q) (λq=>q=false) ?_ (λq b=>?_);intros;refine @av ((uF R.p a k t 45 (t.fst==2)).aj ((t.fst==2)=false)) _ ?_ ?_;kernel_rfl;exact aw (by simp[e]);subst b;refine fF (ar OR 1) ?_;refine gcd iz 1 (λd=>bL .bool 63 d) (λq=>uF R.p a k t 63 q) (λq=>q=true) ?_ (λq b=>?_);intros;refine @av ((uF R.p a k t 63 (t.fst==3)).aj ((t.fst==3)=true)) _ ?_ ?_;kernel_rfl;exact aw (by simp[e]);subst b;refine jX (ar aa7 1) ?_;unfold bV at *;refine jJ [0] (OS R a k t []) ?_;refine gcd iz 1 (λd=>dO dX 70 d) (λq=>aiS R a k (gp t).length q) (λq=>q=R.aM++gp t) ?_ (λq b=>?_);have m:=i.aM;intros;refine @av ((t.snd.snd.length<1048576/\Bs t.snd.snd)/\R.aM.length<=R.aM.length/\(R.aM.length+(gp t).length)*48<=2^47/\R.aM.length+(gp t).length<=2^62/\(aiS R a k (gp t).length (take R.aM.length R.aM++(gp t,()).fst)).aj (take R.aM.length R.aM++gp t=R.aM++gp t)) _ ?_ ?_;kernel_rfl;have l:=Jq t;have j:=f.1;refine⟨⟨aa,f.2.1⟩,aQ _,aa,aa,aw ?_⟩;rw[bg];subst b;refine gQ (E:=SM gl) (bl:=[ny R 1 2 3 4 5 R.aG.length R.aU.length (R.aM.length+(gp t).length) R.aK.length R.br.length (b7++[vI R.bb]),[.row ed R.aG.length R.aG],[.row dZ R.aU.length R.aU],[.row dX (R.aM.length+(gp t).length) (R.aM++gp t)],[.ints .i64 R.aK.length R.aK],[.row .fr R.br.length R.br]]) [] [8,9,10,70,12,13] 9 (uE R.p a k) ?_;refine a7 ?_ h;unfold hI ny;simp[bA]
theorem aoi(R:Rt)(j:RtOk R)(a:List Hbm.Told)(k:Int)(t:Hbm.Told)(e:t.1≠1)(f:t.1≠2)(g:t.1≠3){n i:aA}{x:Nat->aA}(h:aR au [] (AF gl (uE R.p a k) (bV (et R t))) n i x):
  aR au Gx (AF gl (hsT R.p a k t) (bV R)) n i x:=by
 unfold et at h;rw[ai e,ai f,ai g]at h;refine gcd iz 1 (λd=>bL .bool 16 d) (λq=>uF R.p a k t 16 q) (λq=>q=false) ?_ (λq b=>?_);intros;refine @av ((uF R.p a k t 16 (t.fst==1)).aj ((t.fst==1)=false)) _ ?_ ?_;kernel_rfl;exact aw (by simp[e]);subst b;refine fF (ar Gx 1) ?_;refine gcd iz 1 (λd=>bL .bool 45 d) (λq=>uF R.p a k t 45 q) (λq=>q=false) ?_ (λq b=>?_);intros;refine @av ((uF R.p a k t 45 (t.fst==2)).aj ((t.fst==2)=false)) _ ?_ ?_;kernel_rfl;exact aw (by simp[f]);subst b;refine fF (ar OR 1) ?_;refine gcd iz 1 (λd=>bL .bool 63 d) (λq=>uF R.p a k t 63 q) (λq=>q=false) ?_ (λq b=>?_);intros;refine @av ((uF R.p a k t 63 (t.fst==3)).aj ((t.fst==3)=false)) _ ?_ ?_;kernel_rfl;exact aw (by simp[g]);subst b;refine fF (ar aa7 1) ?_;refine fh (uE R.p a k) ?_;exact h
end
def hsY(p:Nat)(a:List Hbm.Told)(k:Int)(t:Hbm.Told):St:=ay Gw.ntmps 8 [(0,aT p),(8,ag (.ro eU a)),(9,sJ a.length),(10,sJ k),(5,al 0 0),(15,sJ t.1)] [(0,F7 t)]
theorem Bo(gl:dF):fk au gl 47 (λz:Rt×List Hbm.Told=>[aT z.1.p,ag (.ro eU z.2)]) (λz=>z.1.aE.length<1000/\z.1.bJ.length<1000/\z.1.aG.length<500000/\z.1.aU.length<500000/\z.1.aM.length<500000000000/\z.2.length<100/\∀t∈z.2,qD t)
  (λz=>bV z.1) (λ_ (_:Unit)=>.tup []) (λz _=>bV (fy z.1 z.2)) (λ_ _=>True):=by
 refine dD (sp:=aa8) pG ab (λz=>Odt ab) (λz _=>rfl) ?_;rintro⟨R,a⟩ ⟨o,r,s,u,x,n,e⟩ _;have n:a.length<100:=n;have e:∀t∈a,qD t:=e;refine e6 iz 1 (uE R.p a 0) ?_;refine xG iz ao (c:=hsC) (λk=>uE R.p a k) (λk=>bV (fy R (a.take k))) a.length ab ab (λk g w ids M num=>?_) (λk g=>?_) ?_;refine av (X:=((decide ((k:Int)<(a.length:Int))=true->(uE R.p a (k:Int)).aj (k<a.length))/\(decide ((k:Int)<(a.length:Int))=false->(uE R.p a (k:Int)).aj (k=a.length)))) ab ?_;exact⟨λh=>aw (by have:=cM h;omega),λh=>aw (by have:=cL h;omega)⟩
 ·have f:=rA (a.take k) R;have i:=Ey (a.take k) R (λt D=>e t (kJ D));rw[c6]at i;have b:RtOk (fy R (a.take k)):=by
   refine⟨by rw[f.aE];exact o,by rw[f.bJ];exact r,?_,?_,?_⟩;have:R.aG.length<500000:=s;omega;have:R.aU.length<500000:=u;omega;have:R.aM.length<500000000000:=x;omega
  have j:fy R (a.take (k+1))=et (fy R (a.take k)) (a.getD k (0,0,[])):=by rw[dA g,U7,bx,bO g];rfl
  have d:qD (a.getD k (0,0,[])):=by rw[bx,bO g];exact e _ (de g)
  rw[j];refine dC (c:=ar hsL 2) (AF gl (uE R.p a k) (bV (et (fy R (a.take k)) (a.getD k (0,0,[]))))) ab ab ?_ ?_;refine lP iz ao 2 [(0,24)] (λl=>rS eU 0 l) (λt=>hsY R.p a k t) (λt=>t=a.getD k (0,0,[])) (λ_=>False) (λ_ _=>False) ?_ (λt A=>?_) (λ_ _ _ h _=>h.elim) (λ_ _ _ _ h _=>h.elim);intros;refine @av ((0<=(k:Int)/\(k:Int)<(a.length:Int))/\(k:Int).toNat<a.length/\(hsY R.p a (k:Int) (a.getD (k:Int).toNat (0,0,[]))).aj (a.getD (k:Int).toNat (0,0,[])=a.getD k (0,0,[]))) _ ?_ ?_;kernel_rfl;rw[aJ];exact⟨⟨aa,aa⟩,g,aw rfl⟩;rw[<-A]at d⊢;refine dC (c:=ar hsB 2) (AF gl (uE R.p a k) (bV (et (fy R (a.take k)) t))) ab ab ?_ (cv λ_ _ h=>h);have y:=f.p;rw[<-y];by_cases t1:t.1=1;exact aof gl _ b a k t d t1 (cv λ_ _ h=>h);by_cases t2:t.1=2;exact aog gl _ b a k t d t2 (cv λ_ _ h=>h);by_cases t3:t.1=3;exact aoh gl _ b a k t d t3 (cv λ_ _ h=>h);exact aoi gl _ b a k t t1 t2 t3 (cv λ_ _ h=>h);refine gcd iz 1 (λl=>bL iK 10 l) (λq=>uE R.p a q) (λq=>q=((k+1:Nat):Int)) ?_ (λq C=>?_);intros;refine @av ((uE R.p a (IntKind.i64.wrap ((k:Int)+1))).aj (IntKind.i64.wrap ((k:Int)+1)=(↑(k+1):Int))) _ ?_ ?_;kernel_rfl;exact aw (a5 aa);subst C;exact cv λ_ _ h=>h
 rw[bg];exact tP iz (.tup []) ⟨(),trivial,bR _,rfl⟩
end rite
end Go.Proofs.YtofofalgjibokaaGreatDoor
/- A rite: r5. -/
namespace Go.Proofs.YtofofalgjibokaaGreatDoor
namespace rite
open bf deal Go.Eng.Ob
open Go.Hbn(dd a8 ez)
theorem GP(H:a8)(i:Nat)(m:aP):∀x∈(Hbn.iF H i m).2.2,x=(m.bo,m.bE,m.body):=by unfold Hbn.iF;split;intro x a;simpa using a;intro x a;cases a
theorem vK{rec:a8->aP->ez}(a:∀H m,∀x∈(rec H m).2.2,x=(m.bo,m.bE,m.body))(H:a8)(i:Nat)(m:aP):∀x∈(Hbn.eR rec H i m).2.2,x=(m.bo,m.bE,m.body):=by unfold Hbn.eR;split;intro x hx;rcases List.mem_append.1 hx with hx|hx;exact a _ (Hbn.own (H.set i {H.get i with ready:=true}) 3 m) x hx;exact GP _ i m x hx;exact GP H i m
theorem CX{rec:a8->aP->ez}(a:∀H m,∀x∈(rec H m).2.2,x=(m.bo,m.bE,m.body))(H:a8)(m:aP):∀x∈(Hbn.iT rec H m).2.2,x=(m.bo,m.bE,m.body)/\Hbn.counts H.mem m=true:=by unfold Hbn.iT;split;rename_i b;intro x hx;refine⟨?_,b⟩;revert x hx;show ∀x∈(Hbn.lq rec H (H.at m) m).2.2,x=(m.bo,m.bE,m.body);unfold Hbn.lq;split;split;intro x hx;rcases List.mem_append.1 hx with hx|hx;exact a _ (Hbn.own (H.set (H.at m) {H.get (H.at m)with eO:=true}) 2 m) x hx;exact vK a _ _ m x hx;exact vK a H _ m;split;split;intro x hx;cases hx;exact vK a _ _ m;split;intro x hx;cases hx;exact vK a _ _ m;intro x hx;cases hx
theorem pa(H:a8)(m:aP)(q:eI):(∀x∈(Hbn.cF H m q).2.2,x=(m.bo,m.bE,m.body)/\Hbn.counts H.mem m=true)/\(Hbn.cF H m q).2.2.length<=14/\(Hbn.cF H m q).2.1.length<=14:=by
 have e:(if Hbn.counts H.mem m then H.of m q else H).mem=H.mem:=by split;unfold Hbn.a8.of;split<;>rfl;rfl
 have h:=CX (rec:=Hbn.k9 1) (λH m x a=>(CX (rec:=Hbn.k9 0) (λH m x a=>(CX (rec:=λH _=>(H,[],[])) (λ_ _ x a=>by cases a) H m x a).1) H m x a).1) (if Hbn.counts H.mem m then H.of m q else H) m;rw[e]at h;have b:=alw (if Hbn.counts H.mem m then H.of m q else H) m;exact⟨h,b.2,b.1⟩
theorem Ml{H:a8}(h:ea H){m:aP}(g:Bs m.body)(q:eI):ea (Hbn.cF H m q).1/\(Hbn.cF H m q).1.p=H.p/\(Hbn.cF H m q).1.mem=H.mem/\(Hbn.cF H m q).1.me=H.me:=by
 unfold Hbn.cF;by_cases b:Hbn.counts H.mem m=true
 ·rw[ah b];have c:gD H.mem m:=⟨b,g⟩;obtain⟨d,f⟩:=ad5 h c q;have a:(H.of m q).mem=H.mem/\(H.of m q).p=H.p/\(H.of m q).me=H.me:=by unfold Hbn.a8.of;split<;>exact⟨rfl,rfl,rfl⟩
  obtain⟨g1,g2⟩:=rec_2 (H.of m q) m d (by rw[a.1];exact c) f;exact⟨g1,g2.p.trans a.2.1,g2.mem.trans a.1,g2.me.trans a.2.2⟩
 ·rw[ai b];have e:Hbn.k9 2 H m=(H,[],[]):=by
   show Hbn.iT (Hbn.k9 1) H m=_;unfold Hbn.iT;rw[ai b]
  rw[e];exact⟨h,rfl,rfl,rfl⟩
theorem F8{H:a8}(h:ea H){m:aP}(b:Bs m.body)(q:eI):∀x∈(Hbn.cF H m q).2.2,qD x:=by intro x e;obtain⟨rfl,d⟩:=(pa H m q).1 x e;have c:gD H.mem m:=⟨d,b⟩;have f:=c.bo;have a:=h.i64 _ c.bE;exact⟨by show m.body.length<_;omega,b,⟨a.1,by have:=a.2;show m.bE<_;omega⟩⟩
def er(b:LI):LI:=if b=[]then [0]else b
theorem sZ:aF au 64 Tryz.f64:=ek
abbrev qA:Func:=Tryz.f64
def rsA(p:Nat)(a:Int)(b:LI)(q:Bool):St:=ay qA.ntmps 8 [(0,aT p),(1,sJ a),(2,nF b),(11,aD q)] []
def rsB(p:Nat)(a:Int)(b:LI):St:=ay qA.ntmps 8 [(0,aT p),(1,sJ a),(2,nF b)] []
def rsZ(p:Nat)(a:Int):St:=ay qA.ntmps 9 [(0,aT p),(1,sJ a),(2,ag (.sl 8 0 0 1 1))] [(8,[.ints .u8 1 [0]])]
def rsC(R:Rt)(c:Int)(b:LI)(a:Nat):St:=ay qA.ntmps 14 [(0,al 8 0),(17,aT a),(18,sJ c),(19,nF b)] (kG R (b7++[vI R.bb]))
def rsO(R:Rt)(a:Int)(b:LI):St:=ay qA.ntmps 14 [(0,al 8 0),(1,sJ a),(2,nF b)] (kG R (b7++[vI R.bb]))
def rsD(R:Rt)(ms:List aP)(a:List Hbm.Told):St:=ay qA.ntmps 14 [(0,al 8 0),(7,ag (.ro ig ms)),(8,ag (.ro eU a))] (kG R (b7++[vI R.bb]))
def rsE(p:Nat)(ms:List aP)(a:List Hbm.Told):St:=ay qA.ntmps 8 [(0,aT p),(7,ag (.ro ig ms)),(8,ag (.ro eU a))] []
def rsG(p:Nat)(ms:List aP)(a:List Hbm.Told):St:=ay qA.ntmps 8 [(7,ag (.ro ig ms)),(23,aT p),(24,ag (.ro eU a))] []
def rsH(ms:List aP):St:=ay qA.ntmps 8 [(7,ag (.ro ig ms))] []
abbrev ab5:=bw [Nx]
theorem xO:aS au ab5:=aV Yh bY
structure SayIn where
 R:Rt
 H:a8
 tp:Int
 b:LI
def iN(z:SayIn)(q:eI):List aP:=(Hbn.jC z.H z.tp (er z.b) q).2.1
def oe(z:SayIn)(q:eI):Rt:=fy z.R (Hbn.jC z.H z.tp (er z.b) q).2.2
def qn(z:SayIn)(q:eI):a8:=(Hbn.jC z.H z.tp (er z.b) q).1
structure Big(R:Rt):Prop where
 aE:R.aE.length<1000
 bJ:R.bJ.length<1000
 aG:R.aG.length<500000
 aU:R.aU.length<500000
 aM:R.aM.length<500000000000
section
variable (gl:dF)[W3]
abbrev Qo:cJ:=mO au ab5 gl
abbrev Qp:=GH (Qo gl) qA.ntmps
theorem apq(p:Nat)(a:Int)(b:LI)(G:ak){n r:aA}{x:Nat->aA}(h:aR au ((aq qA).drop 3) (Qp gl (rsB p a (er b)) G) n r x):
  aR au (aq qA) (Qp gl (lK qA [aT p,sJ a,nF b] [] 0) G) n r x:=by
 refine gcd xO 2 (λe=>bL .bool 11 e) (λq=>rsA p a b q) (λq=>q=decide (b=[])) ?_ (λq d=>?_)
 ·intros;refine @av ((rsA p a b ((b.length:Int)==0)).aj (((b.length:Int)==0)=decide (b=[]))) _ ?_ ?_;kernel_rfl;refine aw ?_;cases b with
  |nil=>rfl
  |cons y b=>rw[cm az];rw[qP,cP];omega
 cases q;have c:¬b=[]:=Odf d.symm;rw[er,ai c]at h;refine fF (ar (aq qA) 2) ?_;refine fh (rsB p a b) ?_;exact h;have c:b=[]:=Odt d.symm;rw[er,ah c]at h;refine jX (ar (aq qA) 2) ?_;refine e6 xO 1 (rsZ p a) ?_;refine sq 2 8 1 1 .u8 [0] ab ab rfl ?_;refine fh (rsB p a [0]) ?_;exact h
theorem apr(p:Nat)(ms:List aP)(a:List Hbm.Told)(G:ak){n r:aA}{x:Nat->aA}(h:lV au (bS (ar (aq qA) 4)) 2 ((aq qA).drop 5) (Qp gl (rsG p ms a) G) n r x):
  aR au ((aq qA).drop 4) (Qp gl (rsE p ms a) G) n r x:=by
 refine eX 4 (bS (ar (aq qA) 4)) ?_;refine iS xO 2 (λ_=>()) (λ_=>rsG p ms a) (λ_=>True) ?_ (λ_ _=>h);intros;refine @av ((rsG p ms a).aj True) _ ?_ ?_;kernel_rfl;exact aw trivial
theorem aps(ms:List aP)(b:ms.length<1048576)(G:ak){Q:SV->ak->Prop}(a:Q (ag (.ro cl (dj ms))) G):
  aR au ((aq qA).drop 5) (Qp gl (rsH ms) G) (du (Qo gl) qA Q) (du (Qo gl) qA Q) (λ_ _ _=>False):=by
 refine iU xO ao _ ?_ a;intros;refine @av (ms.length<1048576/\SV.is (TV.one (ax.ro cl (dj ms)))=SV.is (TV.one (ax.ro cl (dj ms)))) _ ?_ ?_;kernel_rfl;exact⟨b,rfl⟩
end
theorem Py(gl:dF):fk au gl 64 (λz:SayIn=>[aT z.R.p,sJ z.tp,nF z.b]) (λz=>ea z.H/\Bs z.b/\z.b.length<1048576/\z.R.bf=z.H.p/\Big z.R)
  (λz=>ak.sep (bV z.R) (bX z.H)) (λz q=>ag (.ro cl (dj (iN z q)))) (λz q=>ak.sep (bV (oe z q)) (bX (qn z q))) (λ_ _=>True):=by
 refine dD (sp:=ab5) sZ ab (λz=>by show 3<=qA.ntmps;exact Odt ab) (λz _=>rfl) ?_;rintro⟨R,H,tp,b⟩ ⟨j,k,h,i,e⟩ _;have i:R.bf=H.p:=i;have h:b.length<1048576:=h;have d:Bs (er b):=by unfold er;split;intro x l;rw[hV]at l;omega;exact k
 have g:(er b).length<1048576:=by unfold er;split;decide;exact h
 refine apq gl R.p tp b _ ?_;generalize f:er b=a at d g;refine a7 (G':=ak.obj (hI R (b7++[vI R.bb])) R.p (bX H)) (by show ak.sep (bV R) (bX H)=_;unfold bV;exact(bZ _ _ _).symm) ?_;refine eX 3 (bS (ar (aq qA) 3)) ?_;refine so (E:=Qo gl) [0] ab (rsO R tp a) (aB ab ab trivial) ?_;refine eG xO 6 (rsC R tp a R.bf) ?_;rw[i];refine ju (E:=(Qo gl).cV 8 R.p) (ajs gl) (H,tp,a) ⟨j,d,g⟩ Sg (λq _=>?_);refine eG xO 12 (rsD R (Hbn.jC H tp a q).2.1 (Hbn.jC H tp a q).2.2) (eK ?_);refine gQ (E:=Qo gl) (bl:=hI R (b7++[vI R.bb])) [] [8,9,10,11,12,13] 9 (rsE R.p (Hbn.jC H tp a q).2.1 (Hbn.jC H tp a q).2.2) ?_;refine a7 (G':=ak.sep (bV R) (bX (Hbn.jC H tp a q).1)) (bZ _ _ _) ?_;have t1:=F8 j (m:=(1,0,H.me,H.me,tp,0,a)) d q;have t2:=pa H (1,0,H.me,H.me,tp,0,a) q;have t3:(Hbn.jC H tp a q).2.1.length<1048576:=by show([_]++(Hbn.cF H (1,0,H.me,H.me,tp,0,a) q).2.1).length<_;rw[bA];have:=t2.2.2;simp only[cP,jj];omega
 refine apr gl R.p _ _ _ ?_;refine ju (E:=Qo gl) (cT (λ_=>bX (Hbn.jC H tp a q).1) (Bo gl)) (R,(Hbn.jC H tp a q).2.2) ⟨e.aE,e.bJ,e.aG,e.aU,e.aM,by have:=t2.2.1;show(Hbn.cF H (1,0,H.me,H.me,tp,0,a) q).2.2.length<_;omega,t1⟩ pG (λ_ _=>?_);refine eK ?_;refine fh (rsH (Hbn.jC H tp a q).2.1) ?_;refine aps gl _ t3 _ ⟨q,trivial,?_,?_⟩;unfold iN;rw[f];exact bR _;unfold oe qn;rw[f]
end rite
end Go.Proofs.YtofofalgjibokaaGreatDoor
/- A rite: share. -/
namespace Go.Proofs.YtofofalgjibokaaGreatDoor
namespace rite
open bf deal Go.Eng.Ob Go.Proofs.Tryz
theorem aar:aF au 110 f110:=ek
theorem Ss:bu au 110 [ed,.ptr iK] [.val .bool] cx (λ_=>True) (λ(d,x,_)=>(d.1==x,())):=by refine bH bY ao aar ae ae ?_;rintro w a ⟨d,x,⟨⟩⟩;revert x;intro x _ _;refine @av (0<[x].length/\(d.fst==x,())=(d.fst==x,())) _ ?_ ?_;kernel_rfl;exact⟨oV,rfl⟩
def akw:=aZ Ss
abbrev WK:Kd:=.cap (.fn 110) iK
theorem afh:aF au 109 f109:=ek
def Vf(a:List (Int×cj))(x:Int)(g:Int):St:=ay f109.ntmps 32 [(0,ag (.ro (ed) a)),(1,ag (.fv WK ((),x))),(7,sJ a.length),(8,sJ g)] []
theorem aic:bu au 109 [.sl (ed),WK] [.val iK] cx (λ(a,_,_)=>length a<2^62) (λ(a,(_,x),_)=>(eY (λd:Int×cj=>d.1==x) a,())):=by
 have e:=aV (a2 Ss) bY;refine cu (sp:=bw [akw]) afh ae ae ab ?_;rintro w p ⟨a,⟨⟨⟩,x⟩,⟨⟩⟩;revert a x;intro a x _ m;have m:=m;refine bN e ao 2 (Vf a x 0) True ?_ (λ_=>?_);refine av (X:=((Vf a x 0).aj True)) ab ?_;exact aw trivial;refine c2 e ao jH (λo=>bL (.int .i64) 8 o) (Vf a x) (λg=>∃k:Nat,k<=a.length/\g=k/\k<=a.findIdx (λd=>d.1==x)) (λg=>a.length-g.toNat)
  (λ_=>()) (λ_=>ay f109.ntmps 32 [] []) (λ_=>a.length<=a.findIdx (λd=>d.1==x)) 0 (c:=ar (aq f109) 2) ab ab (aB ab ab ?_) ?_ ?_
 exact⟨0,aY _,rfl,aY _⟩
 ·intro i ⟨k,q,n,j⟩;subst n;refine @av ((decide ((k:Int)<(a.length:Int))=true->(0<=(k:Int)/\(k:Int)<(a.length:Int))/\(k:Int).toNat<a.length/\True/\(((a.getD (k:Int).toNat (0,[])).fst==x)=true->((k:Int),())=(eY (λd=>d.fst==x) a,()))/\(((a.getD (k:Int).toNat (0,[])).fst==x)=false->(Vf a x (IntKind.i64.wrap ((k:Int)+1))).aj ((∃f,f<=a.length/\IntKind.i64.wrap ((k:Int)+1)=(f:Int)/\f<=List.findIdx (λd=>d.fst==x) a)/\a.length-(IntKind.i64.wrap ((k:Int)+1)).toNat<a.length-(k:Int).toNat)))/\(decide ((k:Int)<(a.length:Int))=false->(ay f109.ntmps 32 [] []).aj (a.length<=List.findIdx (λd=>d.fst==x) a))) _ ?_ ?_;kernel_rfl;rw[aJ];refine⟨λh=>?_,λh=>aw (by have:=cL h;omega)⟩;have b:k<a.length:=by have:=cM h;omega
  rw[a5 aa];refine⟨⟨aa,aa⟩,b,trivial,λl=>?_,λl=>aw ⟨⟨k+1,b,rfl,tf ((0:Int),[]) b j (l)⟩,by rw[aJ];omega⟩⟩;show((k:Int),())=(eY _ a,());rw[xH ((0:Int),[]) b j (l)]
 rintro⟨⟩ (j:_<=_);refine cq e ao _ _ ?_;refine @av (((-1:Int),())=(eY (λd=>d.fst==x) a,())) _ ?_ ?_;kernel_rfl;rw[ve j]
abbrev Xz:=aic.ou (λ(a,(_,x),_)=>(je a x,())) λ(a,(_,x),_)=>by show(je a x,())=(eY (λd=>d.1==x) a,());rw[je,bq]
def alW:=aZ Xz
def jg(a:LI)(x:Int):Int:=gA (law22.xa a x)
abbrev Oz:=law22.Ha.ou (λ(a,x,_)=>(jg a x,())) λ(a,x,_)=>by show(jg a x,())=(law22.xa a x,());rw[jg,bq]
def agV:=aZ Oz
def mT(b d:Int)(a:List Pt)(p:Int×Int×Fr):Bool:=p.1==d&&p.2.1==b&&law22.qU a b p.2.2
def c4(R:Rt)(d:Int):Fr×Bool:=
 if je R.aG d<0 then(0,false)
 else if decide (jg R.aK d>=0)&&law22.qU (dp R.aG d) R.me (R.br.getD (jg R.aK d).toNat 0)then(R.br.getD (jg R.aK d).toNat 0,true)
 else match R.aM.find? (mT R.me d (dp R.aG d))with
  |some p=>(p.2.2,true)
  |none=>(0,false)
theorem ahN(a:List (Int×List Pt))(x:Int):je a x<a.length:=by rw[je,bq,eY];split;omega;omega
theorem aeC:∀{a:LI}{x:Int},x∈a->(a.takeWhile λy=>decide (y≠x)).length<a.length
 |y::a,x,h=>by
  rw[DN];split
  ·rcases mem_cons.1 h with e|h;·simp_all
   have:=aeC h;simp only[cP];omega
  simp
theorem ai8(a:LI)(x:Int):jg a x<a.length:=by rw[jg,bq,law22.xa];split;rename_i h;exact Int.ofNat_lt.2 (aeC h);omega
theorem aft{a:Type}{f:a->Bool}{l:List a}{k:Nat}(d:k<l.length)(h:∀x∈l.take k,f x=false)(b:f l[k]=true):l.find? f=some l[k]:=by rw[List.find?_eq_some_iff_append];refine⟨b,l.take k,l.drop (k+1),?_,λx e=>by simp_all⟩;simp_all
theorem Ea:aF au 67 f67:=ek
abbrev BJ:Func:=f67
abbrev ace:=bw [alW,agV,law22.Ze]
theorem nb:aS au ace:=aV (a2 Xz) (aV (a2 Oz) (aV (a2 law22.FA) bY))
def shA(p:Nat)(d:Int):St:=ay BJ.ntmps 8 [(0,aT p),(3,al 0 0),(4,al 1 0)] [(0,[vI d]),(1,[.row .fr 1 [(0:Fr)]])]
def JB(R:Rt)(d:Int)(a:g9):St:=ay BJ.ntmps 14 ([(0,al 8 0),(3,al 0 0),(4,al 1 0)]++a) ((0,[vI d])::(1,[.row .fr 1 [(0:Fr)]])::kG R (b7++[vI R.bb]))
def JC(R:Rt)(x:Fr)(b:ax):St:=ay BJ.ntmps 14 [(4,al 1 0),(5,ag b)] ((1,[.row .fr 1 [x]])::kG R (b7++[vI R.bb]))
def shN(x:Fr)(b:ax):St:=ay BJ.ntmps 8 [(4,al 1 0),(5,ag b)] [(1,[.row .fr 1 [x]])]
def n8(R:Rt)(d:Int)(a:List Pt)(k:Int):St:=JB R d [(7,ag (.ro bM a)),(61,ag (.sl 11 0 0 R.aM.length 6)),(62,sJ R.aM.length),(63,sJ k)]
def shL(R:Rt)(d:Int)(a:List Pt)(k:Int)(p:Int×Int×Fr)(q:SV):St:=ay BJ.ntmps 31 [(0,al 8 0),(3,al 0 0),(4,al 1 0),(7,ag (.ro bM a)),(61,ag (.sl 11 0 0 R.aM.length 6)),(62,sJ R.aM.length),(63,sJ k),(10,al 30 0),(89,q)] ((0,[vI d])::(1,[.row .fr 1 [(0:Fr)]])::(30,[vI p.1,vI p.2.1,.row .fr 1 [p.2.2]])::kG R (b7++[vI R.bb]))
abbrev shB:Code:=ar (aq BJ) 9
abbrev shV(y:Fr×Bool):SV:=.tup [.agg [.row .fr 1 [y.1]],.one (.v (.bool y.2))]
theorem JD(x:Fr)(b:Bool):dE (.tup [.agg [.row .fr 1 [x]],.one (if b then .T else .F)]) (shV (x,b)):=by
 rintro k v⟨j,rfl,f,i,rfl,a,g,e,rfl,h,d⟩;refine⟨_,rfl,f,_,rfl,a,g,e,rfl,?_,d⟩;cases b with
 |true=>trivial
 |false=>trivial
section
variable (gl:dF)[W3]
abbrev GI:cJ:=mO au ace gl
theorem JE(R:Rt)(x:Fr)(b:ax){Q:SV->ak->Prop}(f:Q (.tup [.agg [.row .fr 1 [x]],.one b]) (bV R)){d:St}{a:Act}{w:World}(h:d.le (cS ((GI gl).cV 8 R.p)) (JC R x b) True)(i:(match b with | .T=>true | .F=>true|_=>false)=true)(g:GH ((GI gl).cV 8 R.p) BJ.ntmps d ak.none a w):du (GI gl) BJ Q a w:=by
 cases b with
 |T=>have e:=(qV (bl:=hI R (b7++[vI R.bb])) [1] [8,9,10,11,12,13] rfl ab ab rfl ab 9 (g.le h).2).le (τ:=shN x .T) (aB ab ab trivial);exact⟨shN x .T,_,cS (GI gl),e.2,f⟩
 |F=>have e:=(qV (bl:=hI R (b7++[vI R.bb])) [1] [8,9,10,11,12,13] rfl ab ab rfl ab 9 (g.le h).2).le (τ:=shN x .F) (aB ab ab trivial);exact⟨shN x .F,_,cS (GI gl),e.2,f⟩
 |_=>cases i
end
theorem Pz(gl:dF):fk au gl 67 (λz:Rt×Int=>[aT z.1.p,sJ z.2]) (λz=>z.1.aG.length<1000000/\z.1.aK.length=z.1.br.length/\z.1.br.length<1000000/\z.1.aM.length<1000000000000/\gb z.1.me/\∀d∈z.1.aG,d.2.length<1000000)
  (λz=>bV z.1) (λz (_:Unit)=>shV (c4 z.1 z.2)) (λz _=>bV z.1) (λ_ _=>True):=by
 refine dD (sp:=ace) Ea ab (λz=>Odt ab) (λz _=>rfl) ?_;rintro⟨R,d⟩ ⟨C,D,G,H,t,A⟩ _;have C:R.aG.length<1000000:=C;have D:R.aK.length=R.br.length:=D;have G:R.br.length<1000000:=G;have H:R.aM.length<1000000000000:=H;have Q:(dp R.aG d).length<1000000:=by
  unfold dp;rw[bx];cases L:R.aG[(je R.aG d).toNat]? with
  |none=>simp
  |some y=>exact A y (ft L)
 refine Eu nb 1 [(1,8)] (shA R.p d) ?_;unfold bV;refine jJ [0] (JB R d []) ?_;have x:=ahN R.aG d;have P:=ai8 R.aK d;refine gcd nb 2 (λj=>bL iK 6 j) (λq=>JB R d [(6,sJ q),(18,aD (decide (q<0)))]) (λq=>q=je R.aG d) ?_ (λq l=>?_);intros;refine @av (0+R.aG.length<=R.aG.length/\(take R.aG.length R.aG).length<2^62/\(JB R d [(6,sJ (je (take R.aG.length R.aG) d,()).fst),(18,aD (decide ((je (take R.aG.length R.aG) d,()).fst<(0:a6 iK))))]).aj (je (take R.aG.length R.aG) d=je R.aG d)) _ ?_ ?_;kernel_rfl;exact⟨aa,by rw[c6];omega,aw (by rw[bg])⟩;subst l;cases I:decide (je R.aG d<0)with
 |true=>refine jX (ar (aq BJ) 3) ?_;refine lY nb ao (λ_=>False) (λe=>e.le (cS ((GI gl).cV 8 R.p)) (JC R 0 .F) True) (λ_ _=>False) ?_ (λ_ _ _ h _=>h.elim) (λe a w n g=>JE gl R 0 .F ⟨(),trivial,?_,rfl⟩ n rfl g) (λ_ _ _ _ h _=>h.elim);intros;refine @av ((JC R (0:Fr) ax.F).aj True) _ ?_ ?_;kernel_rfl;exact aw trivial;rw[c4,ah (Odt I)];exact JD 0 false
 |false=>
  have m:¬je R.aG d<0:=Odf I;refine fF (ar (aq BJ) 3) ?_;refine gcd nb 2 (λj=>bL iK 8 j) (λq=>JB R d [(7,ag (.ro bM (dp R.aG d))),(8,sJ q)]) (λq=>q=jg R.aK d) ?_ (λq l=>?_);intros;refine @av ((0<=je R.aG d/\je R.aG d<(R.aG.length:Int))/\(je R.aG d).toNat<R.aG.length/\0+R.aK.length<=R.aK.length/\law22.lb (take R.aK.length R.aK,d,())/\(JB R d [(7,SV.is (TV.one (ax.ro bM (dp R.aG d)))),(8,sJ (jg (take R.aK.length R.aK) d,()).fst)]).aj (jg (take R.aK.length R.aK) d=jg R.aK d)) _ ?_ ?_;kernel_rfl;exact⟨⟨aa,x⟩,aa,aa,by show(take R.aK.length R.aK).length<_;rw[c6];omega,aw (by rw[bg])⟩;subst l;refine jY nb ao 1 50 (λj=>bL .bool 50 j) (λq=>JB R d [(7,ag (.ro bM (dp R.aG d))),(8,sJ (jg R.aK d)),(50,aD q)]) (λq=>q=(decide (jg R.aK d>=0)&&law22.qU (dp R.aG d) R.me (R.br.getD (jg R.aK d).toNat 0))) (λ_=>False) (λ_ _=>False) ?_ (λq i=>?_) (λ_ _ _ h _=>h.elim) (λ_ _ _ _ h _=>h.elim);intros;refine @av ((decide (jg R.aK d>=0)=true->(0<=jg R.aK d/\jg R.aK d<(R.br.length:Int))/\(jg R.aK d).toNat<R.br.length/\poly.Bu (dp R.aG d,R.me,R.br.getD (jg R.aK d).toNat (0:Fr),())/\(JB R d [(7,SV.is (TV.one (ax.ro bM (dp R.aG d)))),(8,sJ (jg R.aK d)),(50,aD (law22.qU (dp R.aG d) R.me (R.br.getD (jg R.aK d).toNat (0:Fr)),()).fst)]).aj (law22.qU (dp R.aG d) R.me (R.br.getD (jg R.aK d).toNat (0:Fr))=(decide (jg R.aK d>=0)&&law22.qU (dp R.aG d) R.me (R.br.getD (jg R.aK d).toNat (0:Fr)))))/\(decide (jg R.aK d>=0)=false->(JB R d [(7,SV.is (TV.one (ax.ro bM (dp R.aG d)))),(8,sJ (jg R.aK d)),(50,aD false)]).aj (false=(decide (jg R.aK d>=0)&&law22.qU (dp R.aG d) R.me (R.br.getD (jg R.aK d).toNat (0:Fr)))))) _ ?_ ?_;kernel_rfl;refine⟨λh=>⟨⟨Odt h,aa⟩,by have:=Odt h;omega,⟨aa,t⟩,aw (by rw[h,mn])⟩,λh=>aw (by rw[h,mG])⟩;cases q
  ·refine fF (ar (aq BJ) 7) ?_;refine e6 nb 1 (n8 R d (dp R.aG d) 0) ?_;refine OK nb ao (c:=shB) (λk=>n8 R d (dp R.aG d) k) (λ_=>ak.none) (λk=>∀p∈R.aM.take k,mT R.me d (dp R.aG d) p=false) R.aM.length ab ab az (λk s w ids M num=>?_) (λk s r=>?_) (λr=>?_);refine av (X:=((decide ((k:Int)<(R.aM.length:Int))=true->(n8 R d (dp R.aG d) (k:Int)).aj (k<R.aM.length))/\(decide ((k:Int)<(R.aM.length:Int))=false->(n8 R d (dp R.aG d) (k:Int)).aj (k=R.aM.length)))) ab ?_;exact⟨λh=>aw (by have:=cM h;omega),λh=>aw (by have:=cL h;omega)⟩
   ·have f:R.aM.getD k (0,0,0)=R.aM[k]:=by rw[bx,bO s];rfl
    refine dC (c:=ar (aO shB) 2) (λa w=>mT R.me d (dp R.aG d) (R.aM.getD k (0,0,0))=false/\GH ((GI gl).cV 8 R.p) BJ.ntmps (n8 R d (dp R.aG d) k) ak.none a w) ab ab ?_ ?_;refine jY nb ao 2 89 (λj=>bL .bool 89 j) (λq=>shL R d (dp R.aG d) k (R.aM.getD k (0,0,0)) (aD q)) (λq=>q=mT R.me d (dp R.aG d) (R.aM.getD k (0,0,0))) (λ_=>False) (λ_ _=>False) ?_ (λq l=>?_) (λ_ _ _ h _=>h.elim) (λ_ _ _ _ h _=>h.elim);intros;refine @av ((0<=(k:Int)/\(k:Int)<(R.aM.length:Int))/\(k:Int).toNat<R.aM.length/\(((R.aM.getD (k:Int).toNat (0,0,(0:Fr))).fst==d)=true->(((R.aM.getD (k:Int).toNat (0,0,(0:Fr))).snd.fst==R.me)=true->poly.Bu (dp R.aG d,R.me,(R.aM.getD (k:Int).toNat (0,0,(0:Fr))).snd.snd,())/\(shL R d (dp R.aG d) (k:Int) (R.aM.getD k (0,0,(0:Fr))) (aD (law22.qU (dp R.aG d) R.me (R.aM.getD (k:Int).toNat (0,0,(0:Fr))).snd.snd,()).fst)).aj (law22.qU (dp R.aG d) R.me (R.aM.getD (k:Int).toNat (0,0,(0:Fr))).snd.snd=mT R.me d (dp R.aG d) (R.aM.getD k (0,0,(0:Fr)))))/\(((R.aM.getD (k:Int).toNat (0,0,(0:Fr))).snd.fst==R.me)=false->(shL R d (dp R.aG d) (k:Int) (R.aM.getD k (0,0,(0:Fr))) (aD false)).aj (false=mT R.me d (dp R.aG d) (R.aM.getD k (0,0,(0:Fr))))))/\(((R.aM.getD (k:Int).toNat (0,0,(0:Fr))).fst==d)=false->(shL R d (dp R.aG d) (k:Int) (R.aM.getD k (0,0,(0:Fr))) (aD false)).aj (false=mT R.me d (dp R.aG d) (R.aM.getD k (0,0,(0:Fr)))))) _ ?_ ?_;kernel_rfl;rw[aJ];refine⟨⟨aa,aa⟩,s,λa=>⟨λb=>⟨⟨aa,t⟩,aw ?_⟩,λb=>aw ?_⟩,λa=>aw ?_⟩;rw[mT,a,b,mn,mn];rw[mT,a,b,mn,mG];rw[mT,a,mG,mG];cases q;refine fF (ar (cg (ar (aO shB) 2)) 2) ?_;refine fh (n8 R d (dp R.aG d) k) ?_;exact cv λ_ _ h=>⟨l.symm,h⟩;refine jX (ar (cg (ar (aO shB) 2)) 2) ?_;refine lY nb ao (λ_=>False) (λe=>e.le (cS ((GI gl).cV 8 R.p)) (JC R (R.aM.getD k (0,0,0)).2.2 .T) True) (λ_ _=>False) ?_ (λ_ _ _ h _=>h.elim) (λe a w n g=>JE gl R (R.aM.getD k (0,0,0)).2.2 .T ⟨(),trivial,?_,rfl⟩ n rfl g) (λ_ _ _ _ h _=>h.elim);intros;refine @av ((JC R (R.aM.getD k (0,0,(0:Fr))).snd.snd ax.T).aj True) _ ?_ ?_;kernel_rfl;exact aw trivial;rw[c4,ai m,ai (by rw[<-i];decide),aft s r (by rw[<-f];exact l.symm),<-f];exact JD _ true;intro a w K g U V W;obtain⟨N,O⟩:=g;refine va nb ao 1 (λj=>bL iK 63 j) (λq=>n8 R d (dp R.aG d) q) (λq=>q=((k+1:Nat):Int)) (λ_=>False) (λ_ _=>False) ?_ (λq l=>?_) (λ_ _ _ h _=>h.elim) (λ_ _ _ _ h _=>h.elim) a w K O U V W;intros;refine @av ((n8 R d (dp R.aG d) (IntKind.i64.wrap ((k:Int)+1))).aj (IntKind.i64.wrap ((k:Int)+1)=(↑(k+1):Int))) _ ?_ ?_;kernel_rfl;exact aw (a5 aa);subst l;refine cv λ_ _ h=>⟨λp o=>?_,h⟩;rw[dA s,pz,hV]at o;rcases o with o|rfl;exact r p o;rw[<-f];exact N
   refine lY nb ao (λ_=>False) (λe=>e.le (cS ((GI gl).cV 8 R.p)) (JC R 0 .F) True) (λ_ _=>False) ?_ (λ_ _ _ h _=>h.elim) (λe a w n g=>JE gl R 0 .F ⟨(),trivial,?_,rfl⟩ n rfl g) (λ_ _ _ _ h _=>h.elim);intros;refine @av ((JC R (0:Fr) ax.F).aj True) _ ?_ ?_;kernel_rfl;exact aw trivial;rw[bg]at r;rw[c4,ai m,ai (by rw[<-i];decide),List.find?_eq_none.2 (λp o=>by rw[r p o];decide)];exact JD 0 false
  ·have u:0<=jg R.aK d:=by
    have:=i.symm;rw[bD]at this;exact Odt this.1
   refine jX (ar (aq BJ) 7) ?_;refine lY nb ao (λ_=>False) (λe=>e.le (cS ((GI gl).cV 8 R.p)) (JC R (R.br.getD (jg R.aK d).toNat 0) .T) True) (λ_ _=>False) ?_ (λ_ _ _ h _=>h.elim) (λe a w n g=>JE gl R (R.br.getD (jg R.aK d).toNat 0) .T ⟨(),trivial,?_,rfl⟩ n rfl g) (λ_ _ _ _ h _=>h.elim);intros;refine @av ((0<=jg R.aK d/\jg R.aK d<(R.br.length:Int))/\(jg R.aK d).toNat<R.br.length/\(JC R (R.br.getD (jg R.aK d).toNat (0:Fr)) ax.T).aj True) _ ?_ ?_;kernel_rfl;exact⟨⟨u,aa⟩,aa,aw trivial⟩;rw[c4,ai m,ah i.symm];exact JD _ true
end rite
end Go.Proofs.YtofofalgjibokaaGreatDoor
/- A rite: what is asked of it and stays; accuse. -/
namespace Go.Proofs.YtofofalgjibokaaGreatDoor
namespace rite
open bf deal Go.Eng.Ob
open Go.Hbn(dd a8 ez)
structure fm(c:Nat)(R:Rt)(H:a8):Prop where
 bf:ea H
 hp:R.bf=H.p
 me:gb R.me
 dl:R.aE.length<1000
 tk:R.aL.length<1000
 dI:∀x∈R.aE,gb x
 tI:∀x∈R.aL,gb x
 bJ:R.bJ.length<1000
 bB:R.bB.length<1000
 bG:R.bG<1000
 aG:R.aG.length<=14*c
 pubs:∀d∈R.aG,d.2.length<1000000
 aU:R.aU.length<=14*c
 whom:∀f∈R.aU,f.2.length<1000000
 aM:R.aM.length<=14000000*c
 aK:R.aK.length=R.br.length
 frl:R.aK.length<=c
theorem fm.Ik{c:Nat}{R:Rt}{H:a8}(h:fm c R H)(a:c<=30000):Big R:=
 ⟨h.dl,h.bJ,by have:=h.aG;omega,by have:=h.aU;omega,by have:=h.aM;omega⟩
theorem agx(d:LI)(n:Int)(o:cj)(a:Int)(b:LI):(oG d n o a b).1.length<=b.length:=by rw[oG,bq,qx];split;split;split;split;rw[Bx];omega;exact aY _;exact aY _;exact aY _;exact aY _
theorem XQ{c:Int×List Pt->Prop}{e:Int×LI->Prop}{R:Rt}{t:Hbm.Told}(k:qD t)(i:∀(w:Int)(l:List Pt),l.length<1000000->c (w,l))(j:∀(w:Int)(l:LI),l.length<1000000->e (w,l))(a:∀d∈R.aG,c d)(b:∀f∈R.aU,e f):(∀d∈(et R t).aG,c d)/\∀f∈(et R t).aU,e f:=by have m:=k.1;unfold et;split;split;refine⟨λd g=>?_,b⟩;rcases List.mem_append.1 g with q|q;exact a d q;rw[hV]at q;subst q;exact i _ _ (Nat.lt_of_le_of_lt (agx _ _ _ _ _) aa);exact⟨a,b⟩;split;split;refine⟨a,λf h=>?_⟩;rcases List.mem_append.1 h with q|q;exact b f q;rw[hV]at q;subst q;exact j _ _ aa;exact⟨a,b⟩;split<;>exact⟨a,b⟩
theorem Mj{P1:Int×List Pt->Prop}{P2:Int×LI->Prop}(e:∀(w:Int)(l:List Pt),l.length<1000000->P1 (w,l))(g:∀(w:Int)(l:LI),l.length<1000000->P2 (w,l)):∀(a:List Hbm.Told)(R:Rt),(∀t∈a,qD t)->(∀d∈R.aG,P1 d)->(∀f∈R.aU,P2 f)->(∀d∈(fy R a).aG,P1 d)/\∀f∈(fy R a).aU,P2 f
 |[],_,_,b,c=>⟨b,c⟩
 |t::a,R,h,b,c=>by obtain⟨j,k⟩:=XQ (h t az) e g b c;exact Mj e g a (et R t) (λu i=>h u (by simp[i])) j k
theorem fm.heard{c:Nat}{R:Rt}{H:a8}(h:fm c R H){K:a8}(e:ea K)(g:K.p=H.p){a:List Hbm.Told}(b:∀t∈a,qD t)(u:a.length<=14):fm (c+1) (fy R a) K:=by have k:=rA a R;have n:=Ey a R b;obtain⟨i,j⟩:=Mj (P1:=λd=>d.2.length<1000000) (P2:=λf=>f.2.length<1000000) (λ_ _ q=>q) (λ_ _ q=>q) a R b h.pubs h.whom;have l:=h.aG;have o:=h.aU;have r:=h.aM;have s:=h.frl;exact⟨e,by rw[k.bf,g];exact h.hp,by rw[k.me];exact h.me,by rw[k.aE];exact h.dl,by rw[k.aL];exact h.tk,by rw[k.aE];exact h.dI,by rw[k.aL];exact h.tI,by rw[k.bJ];exact h.bJ,by rw[k.bB];exact h.bB,by rw[k.bG];exact h.bG,aa,i,aa,j,aa,by rw[k.aK,k.br];exact h.aK,by rw[k.aK];omega⟩
theorem ZX{b:LI}(a:Bs b):Bs (er b):=by unfold er;split;intro x c;rw[hV]at c;omega;exact a
theorem fm.said{c:Nat}{z:SayIn}(h:fm c z.R z.H)(d:Bs z.b)(q:eI):fm (c+1) (oe z q) (qn z q):=by have a:=ZX d;have g:=Ml h.bf (m:=(1,0,z.H.me,z.H.me,z.tp,0,er z.b)) a q;have t:=pa z.H (1,0,z.H.me,z.H.me,z.tp,0,er z.b) q;exact h.heard g.1 g.2.1 (F8 h.bf a q) t.2.1
theorem fm.mono{c a:Nat}{R:Rt}{H:a8}(h:fm c R H)(g:c<=a):fm a R H:=by have b:=h.aG;have d:=h.aU;have e:=h.aM;have f:=h.frl;exact {h with aG:=by omega,aU:=by omega,aM:=by omega,frl:=by omega}
theorem fm.kept{c:Nat}{R:Rt}{H:a8}(h:fm c R H)(d:Int)(x:Fr):fm (c+1) (eD R d x) H:=by unfold eD;split;exact h.mono aa;have a:=h.aG;have b:=h.aU;have e:=h.aM;have f:=h.frl;have g:=h.aK;exact {h with aG:=by show R.aG.length<=_;omega,aU:=by show R.aU.length<=_;omega,aM:=by show R.aM.length<=_;omega,aK:=by simp only[bA,cP,jj];omega,frl:=by simp only[bA,cP,jj];omega}
def iw(R:Rt)(a:LI):LI:=(a.filter λd=> !(c4 R d).2).map (u8.wrap)
theorem NO(R:Rt)(a:LI):(iw R a).length<=a.length:=by rw[iw,b5];exact nM _ _
theorem J5(a:Int):0<=u8.wrap a/\u8.wrap a<256:=by constructor;exact sN a ae;exact vS a ae
theorem Kc(R:Rt)(a:LI):Bs (iw R a):=by intro x d;obtain⟨y,_,rfl⟩:=mem_map.1 d;exact J5 y
theorem Iz:aF au 37 Tryz.f37:=ek
abbrev rO:Func:=Tryz.f37
def acA(p:Nat):St:=ay rO.ntmps 8 [(0,aT p)] []
def anT(p:Nat):St:=ay rO.ntmps 8 [(0,aT p),(8,aT p)] []
def acB(p:Nat)(q:Bool):St:=ay rO.ntmps 8 [(0,aT p),(10,aD q)] []
def acC(R:Rt):St:=ay rO.ntmps 14 [(0,al 8 0),(3,gv)] (kG R (b7++[vI R.bb]))
def acD(R:Rt):St:=ay rO.ntmps 14 [(0,al 8 0),(3,gv),(15,ag (.ro iK R.aE)),(16,sJ R.aE.length),(17,sJ 0)] (kG R (b7++[vI R.bb]))
def acE(p:Nat)(a:LI):St:=ay rO.ntmps 8 [(0,aT p),(3,gv),(15,ag (.ro iK a)),(16,sJ a.length),(17,sJ 0)] []
def oh(p:Nat)(a:LI)(k:Int)(l:LI):St:=ay rO.ntmps 9 [(0,aT p),(3,ag (.sl 8 0 0 l.length 1)),(15,ag (.ro iK a)),(16,sJ a.length),(17,sJ k)] [(8,[.ints .u8 l.length l])]
def Kb(p:Nat)(a:LI)(k:Int)(l:LI)(b:g9):St:=ay rO.ntmps 9 ([(0,aT p),(3,ag (.sl 8 0 0 l.length 1)),(15,ag (.ro iK a)),(16,sJ a.length),(17,sJ k)]++b) [(8,[.ints .u8 l.length l])]
def Uv(p:Nat)(a:LI)(k:Int)(n:Nat)(l:LI):St:=ay rO.ntmps 9 [(0,aT p),(3,ag (.sl 8 0 0 n 1)),(15,ag (.ro iK a)),(16,sJ a.length),(17,sJ k)] [(8,[.ints .u8 n l])]
def acS(p:Nat)(l:LI):St:=ay rO.ntmps 8 [(0,aT p),(3,nF l)] []
def anU(p:Nat)(l:LI):St:=ay rO.ntmps 8 [(35,aT p),(36,nF l)] []
abbrev Uu:Code:=ar (aq rO) 5
abbrev ZP:cw:=cg (ar (aO Uu) 2)
section
variable (gl:dF)[W3]
theorem ZQ(R:Rt)(o:R.aG.length<1000000/\R.aK.length=R.br.length/\R.br.length<1000000/\R.aM.length<1000000000000/\gb R.me/\∀d∈R.aG,d.2.length<1000000)(f:LI)(s:f.length<1000)(k:Nat)(u:k<f.length)(l:LI)(y:l.length<1000)(G:ak){r:aA}{x:Nat->aA}{n:aA}(h:aR au [] (GH (uJ gl) rO.ntmps (oh R.p f ((k+1:Nat):Int) (l++iw R [f.getD k 0])) (ak.sep (bV R) G)) n r x):
  aR au ((aO Uu).drop 2) (GH (uJ gl) rO.ntmps (oh R.p f (k:Int) l) (ak.sep (bV R) G)) n r x:=by
 refine dC (E:=uJ gl) (c:=ar (aO Uu) 2) (GH (uJ gl) rO.ntmps (oh R.p f (k:Int) (l++iw R [f.getD k 0])) (ak.sep (bV R) G)) ab ab ?_ ?_
 ·refine gcd dw 1 (λg=>bL iK 5 g) (λq=>Kb R.p f (k:Int) l [(5,sJ q)]) (λq=>q=f.getD k 0) ?_ (λq j=>?_);intros;refine @av ((0<=(k:Int)/\(k:Int)<(f.length:Int))/\(k:Int).toNat<f.length/\(Kb R.p f (k:Int) l [(5,sJ (f.getD (k:Int).toNat 0))]).aj (f.getD (k:Int).toNat 0=f.getD k 0)) _ ?_ ?_;kernel_rfl;rw[aJ];exact⟨⟨aa,aa⟩,u,aw rfl⟩;rw[<-j];refine eX 7 (bS (ar ZP 1)) ?_;refine eG dw 2 (Kb R.p f (k:Int) l [(5,sJ q),(22,aT R.p),(23,sJ q)]) ?_;refine ju (E:=uJ gl) (cT (λ_=>G) (Pz gl)) (R,q) o Ea (λ_ _=>?_);refine eG dw 9 (Kb R.p f (k:Int) l [(5,sJ q),(7,aD (c4 R q).2)]) (eK ?_);refine gcd dw 1 (λg=>bL .bool 28 g) (λb=>Kb R.p f (k:Int) l [(5,sJ q),(28,aD b)]) (λb=>b=!(c4 R q).2) ?_ (λb i=>?_);intros;refine @av ((Kb R.p f (k:Int) l [(5,sJ q),(28,aD !(c4 R q).snd)]).aj ((!(c4 R q).snd)=!(c4 R q).snd)) _ ?_ ?_;kernel_rfl;exact aw rfl;cases b
  ·have e:iw R [q]=[]:=by rw[iw,oU,<-i];rfl
   refine fF (ar ZP 3) ?_;refine fh (oh R.p f (k:Int) l) ?_;rw[e,bF];exact cv λ_ _ h=>h
  ·have e:iw R [q]=[u8.wrap q]:=by rw[iw,oU,<-i];rfl
   refine jX (ar ZP 3) ?_;refine lP dw ao 1 [(8,41)] (λg=>dO (.int .u8) 8 g) (λb=>Uv R.p f (k:Int) (l.length+1) b) (λb=>b=l++[u8.wrap q]) (λ_=>False) (λ_ _=>False) ?_ (λb i=>?_) (λ_ _ _ h _=>h.elim) (λ_ _ _ _ h _=>h.elim);intros;refine @av (0+1<=1/\l.length<=l.length/\(l.length+1)*1<=2^47/\l.length+1<=2^62/\(Uv R.p f (k:Int) (l.length+1) (take l.length l++take 1 [u8.wrap q])).aj (take l.length l++take 1 [u8.wrap q]=l++[u8.wrap q])) _ ?_ ?_;kernel_rfl;refine⟨ae,aQ _,aa,aa,aw ?_⟩;rw[bg];rfl;rw[e];subst i;refine cv λa w t=>?_;have m:Uv R.p f (k:Int) (l.length+1) (l++[u8.wrap q])=oh R.p f (k:Int) (l++[u8.wrap q]):=by unfold Uv oh;simp only[bA,cP,jj,cy]
   rw[<-m];exact t
 refine gcd dw 1 (λg=>bL iK 17 g) (λq=>oh R.p f q (l++iw R [f.getD k 0])) (λq=>q=((k+1:Nat):Int)) ?_ (λq j=>?_);intros;refine @av ((oh R.p f (i64.wrap ((k:Int)+1)) (l++iw R [f.getD k 0])).aj (i64.wrap ((k:Int)+1)=(↑(k+1):Int))) _ ?_ ?_;kernel_rfl;exact aw (a5 aa);subst j;exact h
end
theorem ZR(R:Rt)(a b:LI):iw R (a++b)=iw R a++iw R b:=by rw[iw,nN,cE];rfl
structure dR where
 R:Rt
 H:a8
def dR.ok(z:dR):Prop:=∃c,c<=29000/\fm c z.R z.H
abbrev dR.eF(z:dR):ak:=ak.sep (bV z.R) (bX z.H)
def pC(z:dR):SayIn:=⟨z.R,z.H,2,iw z.R z.R.aE⟩
def fa(z:dR)(q:eI):List (Int×aP):=if z.R.me∈z.R.aL then dj (iN (pC z) q)else []
def mH(z:dR)(q:eI):dR:=if z.R.me∈z.R.aL then⟨oe (pC z) q,qn (pC z) q⟩else z
theorem Yd(gl:dF):fk au gl 37 (λz:dR=>[aT z.R.p]) dR.ok dR.eF (λz (q:eI)=>ag (.ro cl (fa z q))) (λz q=>(mH z q).eF) (λ_ _=>True):=by
 refine dD (sp:=E8) Iz ab (λz=>by show 1<=rO.ntmps;exact Odt ab) (λz _=>rfl) ?_;rintro⟨R,H⟩ ⟨c,s,a⟩ _;have a:fm c R H:=a;have j:=a.dl;have o:=a.aK;have n:=a.frl;have l:R.aG.length<1000000/\R.aK.length=R.br.length/\R.br.length<1000000/\R.aM.length<1000000000000/\gb R.me/\∀d∈R.aG,d.2.length<1000000:=⟨by have:=a.aG;omega,a.aK,aa,by have:=a.aM;omega,a.me,a.pubs⟩;show aR _ _ (GH _ _ _ (ak.sep (bV R) (bX H))) _ _ _;refine e6 dw 1 (acA R.p) ?_;refine eX 1 (bS (ar (aq rO) 1)) ?_;refine eG dw 1 (anT R.p) ?_;refine ju (E:=uJ gl) (cT (λ_=>bX H) (PA gl)) R a.tk Ec (λ_ _=>?_);refine iS dw 3 (λr=>bL .bool 10 r) (λq=>acB R.p q) (λq=>q=!decide (R.me∈R.aL)) ?_ (λq i=>eK ?_);intros;refine @av ((acB R.p !decide (R.me∈R.aL)).aj ((!decide (R.me∈R.aL))=!decide (R.me∈R.aL))) _ ?_ ?_;kernel_rfl;exact aw rfl;cases q
 ·have f:R.me∈R.aL:=by
   have:decide (R.me∈R.aL)=true:=by cases h:decide (R.me∈R.aL)with|true=>rfl|false=>rw[h]at i;cases i
   exact Odt this
  refine fF (ar (aq rO) 2) ?_;refine a7 (G':=ak.obj (hI R (b7++[vI R.bb])) R.p (bX H)) (by unfold bV;exact(bZ _ _ _).symm) ?_;refine e6 dw 1 (ay rO.ntmps 8 [(0,aT R.p),(3,gv)] []) ?_;refine jJ [0] (acC R) ?_;refine e6 dw 1 (acD R) ?_;refine gQ (E:=uJ gl) (bl:=hI R (b7++[vI R.bb])) [] [8,9,10,11,12,13] 9 (acE R.p R.aE) ?_;refine a7 (G':=ak.sep (bV R) (bX H)) (by unfold bV;exact bZ _ _ _) ?_;refine ta 3 1 (.ints .u8 0 []) ab ?_;refine fh (oh R.p R.aE 0 []) ?_;refine xG dw ao (c:=Uu) (λk=>oh R.p R.aE (k:Int) (iw R (R.aE.take k))) (λ_=>ak.sep (bV R) (bX H)) R.aE.length ab ab (λk g w ids M num=>?_) (λk g=>?_) ?_;refine av (X:=((decide ((k:Int)<(R.aE.length:Int))=true->(oh R.p R.aE (k:Int) (iw R (take k R.aE))).aj (k<R.aE.length))/\(decide ((k:Int)<(R.aE.length:Int))=false->(oh R.p R.aE (k:Int) (iw R (take k R.aE))).aj (k=R.aE.length)))) ab ?_;exact⟨λh=>aw (by have:=cM h;omega),λh=>aw (by have:=cL h;omega)⟩
  ·have e:iw R (R.aE.take (k+1))=iw R (R.aE.take k)++iw R [R.aE.getD k 0]:=by
    rw[dA g,ZR,bx,bO g];rfl
   rw[e];refine ZQ gl R l R.aE j k g _ (by have:=NO R (R.aE.take k);rw[c6]at this;omega) _ (cv λ_ _ h=>h)
  rw[bg];have m:=NO R R.aE;refine sq 3 8 (iw R R.aE).length 1 .u8 (iw R R.aE) ab ab rfl ?_;refine fh (acS R.p (iw R R.aE)) ?_;refine eX 11 (bS (ar (aq rO) 6)) ?_;refine eG dw 2 (anU R.p (iw R R.aE)) ?_;refine ju (E:=uJ gl) (Py gl) ⟨R,H,2,iw R R.aE⟩ ⟨a.bf,Kc R _,(by omega:(iw R R.aE).length<1048576),a.hp,a.Ik aa⟩ sZ (λq _=>?_);refine eG dw 4 (ay rO.ntmps 8 [(2,ag (.ro cl (dj (iN ⟨R,H,2,iw R R.aE⟩ q))))] []) (eK ?_);refine iU dw ao _ ?_ ⟨q,trivial,bR _,?_⟩;intros;refine @av (SV.is (TV.one (ax.ro cl (dj (iN {R:=R,H:=H,tp:=2,b:=iw R R.aE} q))))=SV.is (TV.one (ax.ro cl (fa {R:=R,H:=H} q)))) _ ?_ ?_;kernel_rfl;show _=SV.is (.one (.ro cl (fa ⟨R,H⟩ q)));unfold fa;rw[ah f];rfl;show _=(mH ⟨R,H⟩ q).eF;unfold mH;rw[ah f];rfl
 ·have f:¬R.me∈R.aL:=by
   have:decide (R.me∈R.aL)=false:=by cases h:decide (R.me∈R.aL)with|false=>rfl|true=>rw[h]at i;cases i
   exact Odf this
  refine jX (ar (aq rO) 2) ?_;refine jy dw ao gv ?_ ⟨(0,0,0),trivial,?_,?_⟩;intros;refine @av (SV.is (TV.one (ax.v (Value.slice none 0 0)))=gv) _ ?_ ?_;kernel_rfl;rfl;show dE _ (ag (.ro cl (fa ⟨R,H⟩ (0,0,0))));unfold fa;rw[ai f];exact BB cl;show _=(mH ⟨R,H⟩ (0,0,0)).eF;unfold mH;rw[ai f]
end rite
namespace codec
section
variable {F:Type}[Cr.Fd F][DecidableEq F]{S:mi F}
theorem aiy{l:LI}(h:Bs l)(a:BD l){k:Nat}(d:k<8):Bs (xh l k):=Y9 h (by obtain⟨_,b,c⟩:=a;omega)
theorem mi.Ok.acg(h:S.Ok)(p:F×F):Bs (S.short p):=by rw[h.HX];exact aiy (h.bs _) (h.BD1 _) (by split;decide;split<;>decide)
theorem mi.Ok.Za(h:S.Ok)(p:F×F):(S.short p).length=S.n:=by rw[h.HX,SI,h.len]
end
theorem FI(p:Fp×Fp):(GC p).length=48:=by rw[Jh];exact KM.Za p
theorem abH(p:Fp×Fp):take 48 (GC p)=GC p:=cA (by rw[FI];exact aQ _)
theorem agj(p:Fp×Fp):VG (GC p,()):=⟨by rw[Jh];exact KM.acg p,by show length (GC p)<=_;rw[FI];decide⟩
theorem acx{p:Fp×Fp}(h:g1.Sub p):g1.rQ p=true:=(g1.xF p).2 h.1
theorem ajz{p:Fp×Fp}(h:g1.Sub p):ti (GC p)=(p,0):=by rw[Jh,Ym];exact KM.V5 (acx h) (g1.JP h)
end codec
namespace deal
open law22 poly codec
theorem H7(p:Fp×Fp)(a:cj):lB (p::a)=GC p++lB a:=by rw[Jh,<-aik];rfl
theorem Yu:∀(a:cj)(i:Nat),i<a.length->yG (lB a) i=GC (a.getD i (0,0))
 |[],i,h=>absurd h (sP _)
 |p::a,0,_=>by rw[H7,yG,Nat.mul_zero,jU,mD (by rw[FI];exact aQ _),abH];rfl
 |p::a,i+1,h=>by have b:=Yu a i (by simpa using h);rw[H7,yG,show 48*(i+1)=(GC p).length+48*i by rw[FI];omega,<-iI,List.drop_left];exact b
theorem L2{b:LI}:∀{k:Nat},(∀i,i<k->(ti (yG b i)).2=0)->ow b k=0
 |0,_=>rfl
 |k+1,h=>by rw[ow,ah (L2 λi a=>h i aa)];exact h k aa
theorem ad6{a:cj}(b:∀p∈a,g1.Sub p){i:Nat}(h:i<a.length):ti (yG (lB a) i)=(a.getD i (0,0),0):=by rw[Yu a i h];refine ajz (b _ ?_);rw[bx,bO h,c7];exact de h
theorem Xe{a:cj}(c:∀p∈a,g1.Sub p):ow (lB a) a.length=0:=L2 λi b=>by rw[ad6 c b]
theorem aaM{l m:cj}(c:l.length=m.length)(h:∀i,i<l.length->l.getD i (0,0)=m.getD i (0,0)):l=m:=by
 refine oT c λi a b=>?_;have:=h i a
 rwa [bx,bO a,c7,bx,bO b,c7]at this
theorem abS(b:LI){k i:Nat}(h:i<k):(tq b k).getD i (0,0)=(ti (yG b i)).1:=by rw[tq,bx,dM,List.getElem?_range h];rfl
theorem aee{a:cj}(c:∀p∈a,g1.Sub p):tq (lB a) a.length=a:=by refine aaM (Bx _ _) λi b=>?_;rw[Bx]at b;rw[abS _ b,ad6 c b]
theorem akP(b:cj):Bs (lB b):=by
 induction b with
 |nil=>intro x a;exact absurd a (by simp[lB])
 |cons p b d=>intro x a;rw[H7]at a;rcases List.mem_append.1 a with c|c;exact(agj p).1 x c;exact d x c
end deal
end Go.Proofs.YtofofalgjibokaaGreatDoor
/- A rite: hand. -/
namespace Go.Proofs.YtofofalgjibokaaGreatDoor
namespace fr
def lp(x:Cr.Fr):LI:=Go.Eng.gA (Cr.eE 32 (Cr.Zm.v x))
end fr
namespace rite
open Go.Proofs.YtofofalgjibokaaGreatDoor.bf Go.Proofs.YtofofalgjibokaaGreatDoor.deal Go.Eng.Ob
open Go.Hbn(dd a8 ez)
abbrev Ep:=fr.pH.ou (λ(x,_)=>(fr.lp x,())) λ(x,_)=>by show(fr.lp x,())=(eE 32 (Zm.v x),());rw[fr.lp,bq]
def Qz:=aZ Ep
theorem xE(x:Fr):(fr.lp x).length=32:=by rw[fr.lp,bq];exact ja _ _
def acj:Nat×Eng.Spec:=(65,mJ [.sl bM] [.val (.sl (.int .u8))] CB (λ(a,_)=>(law22.di a,())))
def apu:Nat×Eng.Spec:=(14,mJ [.sl .fr] [.val (.sl bM)] poly.zZ poly.EM)
def sf(a:Int)(s:Fr):aP:=(4,0,a,0,0,0,fr.lp s)
def cW(R:Rt)(a:LI):List (Int×aP):=(a.filter λt=> !decide (t=R.me)).map λt=>(t,sf R.me (poly.pat R.bB t))
def eH(R:Rt)(a:LI):Rt:=if R.me∈a then eD R R.me (poly.pat R.bB R.me)else R
theorem XM(R:Rt)(a b:LI):cW R (a++b)=cW R a++cW R b:=by rw[cW,nN,cE];rfl
theorem Ew(R:Rt)(a:LI):(cW R a).length<=a.length:=by rw[cW,b5];exact nM _ _
theorem IZ(R:Rt)(d:Int)(x:Fr):(eD R d x).p=R.p/\(eD R d x).me=R.me/\(eD R d x).bB=R.bB/\(eD R d x).aL=R.aL/\(eD R d x).bf=R.bf:=by unfold eD;split<;>exact⟨rfl,rfl,rfl,rfl,rfl⟩
theorem X5(R:Rt)(d:Int)(x:Fr):d∈(eD R d x).aK:=by
 unfold eD;split;·simp_all
 simp
theorem Rr(R:Rt)(d:Int)(x y:Fr):eD (eD R d x) d y=eD R d x:=by show(if d∈(eD R d x).aK then eD R d x else _)=_;rw[ah (X5 R d x)]
theorem Gu(R:Rt)(a:LI):(eH R a).p=R.p/\(eH R a).me=R.me/\(eH R a).bB=R.bB/\(eH R a).aL=R.aL/\(eH R a).bf=R.bf:=by unfold eH;split;exact IZ _ _ _;simp_all
theorem Rn(R:Rt)(a:LI)(t:Int):eH R (a++[t])=if t=R.me then eD (eH R a) R.me (poly.pat R.bB t)else eH R a:=by unfold eH;by_cases b:R.me∈a;rw[ah (jN _ b)];split;rw[Rr];rfl;grind
theorem fm.handed{c:Nat}{R:Rt}{H:a8}(h:fm c R H)(a:LI):fm (c+1) (eH R a) H:=by unfold eH;split;exact h.kept _ _;exact h.mono aa
theorem Od:aF au 36 Tryz.f36:=ek
abbrev qY:Func:=Tryz.f36
abbrev aa2:=bw [poly.ack,Qz,apu,acj]
theorem gE:aS au aa2:=aV (a2 poly.Nl) (aV (a2 Ep) (aV (a2 poly.L4.Bd) (aV (a2 law22.OE.Bd) bY)))
abbrev E7(R:Rt)(t:cb):e5:=[(9,ny R 10 11 12 13 14 R.aG.length R.aU.length R.aM.length R.aK.length R.br.length t),(10,[.row ed R.aG.length R.aG]),(11,[.row dZ R.aU.length R.aU]),(12,[.row dX R.aM.length R.aM]),(13,[.ints .i64 R.aK.length R.aK]),(14,[.row .fr R.br.length R.br])]
abbrev XN:Code:=ar (aq qY) 5
abbrev OO:cw:=cg (ar (aO XN) 2)
abbrev hd9:cw:=fC (ar OO 3)
def tc(p:Nat)(a:LI)(k:Int)(n:Nat)(l:List (Int×aP)):St:=ay qY.ntmps 9 [(0,aT p),(3,ag (.sl 8 0 0 n 8)),(16,ag (.ro iK a)),(17,sJ a.length),(18,sJ k)] [(8,[.row cl n l])]
def Ex(p:Nat)(a:LI)(k:Int)(n:Nat)(l:List (Int×aP))(c:g9)(b:e5):St:=ay qY.ntmps 9 ([(0,aT p),(3,ag (.sl 8 0 0 n 8)),(16,ag (.ro iK a)),(17,sJ a.length),(18,sJ k)]++c) ((8,[.row cl n l])::b)
def XO(R:Rt)(a:LI)(k:Int)(n:Nat)(l:List (Int×aP))(c:g9)(b:e5):St:=ay qY.ntmps 15 ([(0,al 9 0),(3,ag (.sl 8 0 0 n 8)),(16,ag (.ro iK a)),(17,sJ a.length),(18,sJ k)]++c) ((8,[.row cl n l])::b++E7 R (b7++[vI R.bb]))
def hdK(p:Nat)(a:LI)(k:Int)(n:Nat)(l:List (Int×aP))(c:g9)(b:e5):St:=ay qY.ntmps 64 ([(0,aT p),(3,ag (.sl 8 0 0 n 8)),(16,ag (.ro iK a)),(17,sJ a.length),(18,sJ k)]++c) ((8,[.row cl n l])::b)
def hdP(R:Rt)(a:LI)(k:Int)(n:Nat)(l:List (Int×aP))(c:g9)(b:e5):St:=ay qY.ntmps 64 ([(0,al 9 0),(3,ag (.sl 8 0 0 n 8)),(16,ag (.ro iK a)),(17,sJ a.length),(18,sJ k)]++c) ((8,[.row cl n l])::b++E7 R (b7++[vI R.bb]))
section
variable (gl:dF)[W3]
abbrev Gv:cJ:=mO au aa2 gl
abbrev Cl:=GH (Gv gl) qY.ntmps
theorem an8(R:Rt)(o:R.bB.length<1000)(a:LI)(f:∀x∈a,gb x)(k:Nat)(d:k<a.length)(l:List (Int×aP))(t:Int)(i:t=a.getD k 0)(G:ak){n r:aA}{x:Nat->aA}(h:aR au (OO.drop 3) (Cl gl (Ex R.p a k l.length l [(5,sJ t),(6,al 0 0),(33,aD (decide (t=R.me)))] [(0,[.row .fr 1 [poly.pat R.bB t]])]) (ak.sep (bV R) G)) n r x):
  aR au OO (Cl gl (tc R.p a k l.length l) (ak.sep (bV R) G)) n r x:=by
 refine gcd gE 1 (λg=>bL iK 5 g) (λq=>Ex R.p a k l.length l [(5,sJ q)] []) (λq=>q=a.getD k 0) ?_ (λq j=>?_);intros;refine @av ((0<=(k:Int)/\(k:Int)<(a.length:Int))/\(k:Int).toNat<a.length/\(Ex R.p a (k:Int) l.length l [(5,sJ (a.getD (k:Int).toNat 0))] []).aj (a.getD (k:Int).toNat 0=a.getD k 0)) _ ?_ ?_;kernel_rfl;rw[aJ];exact⟨⟨aa,aa⟩,d,aw rfl⟩;rw[<-i]at j;subst j;have e:gb q:=by rw[i,bx,bO d];exact f _ (de d)
 refine a7 (by unfold bV;exact(bZ _ _ _).symm) ?_;refine jJ [0] (XO R a k l.length l [(5,sJ q)] []) ?_;refine gcd gE 2 (λg=>bL .bool 33 g) (λb=>hdP R a k l.length l [(5,sJ q),(6,al 63 0),(33,aD b)] [(63,[.row .fr 1 [poly.pat R.bB q]])]) (λb=>b=decide (q=R.me)) ?_ (λb m=>?_);intros;refine @av (poly.Ns (R.bB,q,())/\(hdP R a (k:Int) l.length l [(5,sJ q),(6,SV.is (TV.one (ax.ptr 63 0))),(33,aD (q==R.me))] [(63,[ax.row Kd.fr 1 [poly.pat R.bB q]])]).aj ((q==R.me)=decide (q=R.me))) _ ?_ ?_;kernel_rfl;exact⟨⟨aa,e⟩,aw rfl⟩;subst m;refine gQ (E:=Gv gl) (bl:=hI R (b7++[vI R.bb])) [8,63] [9,10,11,12,13,14] 10 (hdK R.p a k l.length l [(5,sJ q),(6,al 63 0),(33,aD (decide (q=R.me)))] [(63,[.row .fr 1 [poly.pat R.bB q]])]) ?_;refine a7 (G':=ak.sep (bV R) G) (by unfold bV;exact bZ _ _ _) ?_;refine Eu gE 0 [(0,63)] (Ex R.p a k l.length l [(5,sJ q),(6,al 0 0),(33,aD (decide (q=R.me)))] [(0,[.row .fr 1 [poly.pat R.bB q]])]) ?_;exact h
theorem an9(R:Rt)(g:R.aK.length<1000000/\R.br.length<1000000)(b:LI)(k:Nat)(l:List (Int×aP))(t:Int)(s:Fr)(G:ak){d n r:aA}{x:Nat->aA}(h:∀a w,Cl gl (tc R.p b k l.length l) (ak.sep (bV (eD R R.me s)) G) a w->d a w):
  aR au (OO.drop 3) (Cl gl (Ex R.p b k l.length l [(5,sJ t),(6,.is (.one (.ptr 0 0))),(33,aD true)] [(0,[.row .fr 1 [s]])]) (ak.sep (bV R) G)) n r (λi a w=>match beq i (cH (ar (aO XN) 2))with|true=>d a w|false=>x i a w):=by
 refine jX (ar OO 3) ?_;refine ko ao (rid:=9) (ops:=bS (ar hd9 0)) ab ?_;refine qX (by unfold bV;exact(bZ _ _ _).symm) ?_;refine sn [0] ab (XO R b k l.length l [(6,al 0 0)] [(0,[.row .fr 1 [s]])]) (aB ab ab trivial) ?_;refine fY gE 6 (λ_=>()) (λ_=>XO R b k l.length l [(34,al 9 0),(38,sJ R.me),(39,XG s)] []) (λ_=>True) ae ab ?_ (λ_ _=>?_);intros;refine @av ((XO R b (k:Int) l.length l [(34,SV.is (TV.one (ax.ptr 9 0))),(38,sJ R.me),(39,XG s)] []).aj True) _ ?_ ?_;kernel_rfl;exact aw trivial;refine U3 (E:=Gv gl) (bl:=hI R (b7++[vI R.bb])) [8] [9,10,11,12,13,14] rfl ab ab rfl ab 10 (Ex R.p b k l.length l [(34,aT R.p),(38,sJ R.me),(39,XG s)] []) (aB ab ab trivial) ?_;refine qX (G':=ak.sep (bV R) G) (by unfold bV;exact bZ _ _ _) ?_;refine qW (jZ (E:=Gv gl) (cT (λ_=>G) (Ta gl)) (R,R.me,s) g ab G8 ab ab (λ_=>rfl)) ab ab (λ_ _=>?_);refine jw gE (λ_=>()) (λ_=>tc R.p b k l.length l) (λ_=>True) (Odt ab) ?_ (λ_ _=>?_);intros;refine @av ((tc R.p b (k:Int) l.length l).aj True) _ ?_ ?_;kernel_rfl;exact aw trivial;refine lY gE ao (λ_=>False) (λ_=>False) (λi e=>i=1/\e.le (cS (Gv gl)) (tc R.p b k l.length l) True) ?_ (λ_ _ _ h _=>h.elim) (λ_ _ _ h _=>h.elim) (λi e a w f j=>?_);intros;refine @av (1=1/\(tc R.p b (k:Int) l.length l).aj True) _ ?_ ?_;kernel_rfl;exact⟨rfl,aw trivial⟩;obtain⟨rfl,f⟩:=f;exact h a w (j.le f).2
theorem aoa(R:Rt)(a:LI)(k:Nat)(l:List (Int×aP))(f:l.length<1000)(t:Int)(s:Fr)(G:ak){n r:aA}{x:Nat->aA}(h:aR au [] (Cl gl (tc R.p a k (l++[(t,sf R.me s)]).length (l++[(t,sf R.me s)])) (ak.sep (bV R) G)) n r x):
  aR au (OO.drop 3) (Cl gl (Ex R.p a k l.length l [(5,sJ t),(6,al 0 0),(33,aD false)] [(0,[.row .fr 1 [s]])]) (ak.sep (bV R) G)) n r x:=by
 refine fF (ar OO 3) ?_;refine lP gE ao 1 [(1,25)] (λ_=>()) (λ_=>Ex R.p a k l.length l [(5,sJ t),(7,al 1 0)] [(1,[.ints .u8 32 (fr.lp s)])]) (λ_=>True) (λ_=>False) (λ_ _=>False) ?_ (λ_ _=>?_) (λ_ _ _ h _=>h.elim) (λ_ _ _ _ h _=>h.elim);intros;refine @av (True/\(Ex R.p a (k:Int) l.length l [(5,sJ t),(7,SV.is (TV.one (ax.ptr 1 0)))] [(1,[ax.ints IntKind.u8 32 (fr.lp s)])]).aj True) _ ?_ ?_;kernel_rfl;exact⟨trivial,aw trivial⟩;refine a7 (by unfold bV;exact(bZ _ _ _).symm) ?_;refine jJ [0] (XO R a k l.length l [(5,sJ t),(7,al 1 0)] [(1,[.ints .u8 32 (fr.lp s)])]) ?_;refine e6 gE 1 (hdP R a k l.length l [(5,sJ t),(8,al 63 0)] [(1,[.ints .u8 32 (fr.lp s)]),(63,[vI 4,vI 0,vI R.me,vI 0,vI 0,vI 0,.sl 1 0 0 32 1])]) ?_;refine gQ (E:=Gv gl) (bl:=hI R (b7++[vI R.bb])) [8,1,63] [9,10,11,12,13,14] 10 (hdK R.p a k l.length l [(5,sJ t),(8,al 63 0)] [(1,[.ints .u8 32 (fr.lp s)]),(63,[vI 4,vI 0,vI R.me,vI 0,vI 0,vI 0,.sl 1 0 0 32 1])]) ?_;refine a7 (G':=ak.sep (bV R) G) (by unfold bV;exact bZ _ _ _) ?_;refine Eu gE 0 [(0,63)] (Ex R.p a k l.length l [(5,sJ t),(8,al 0 0)] [(1,[.ints .u8 32 (fr.lp s)]),(0,[vI 4,vI 0,vI R.me,vI 0,vI 0,vI 0,.sl 1 0 0 32 1])]) ?_;refine vb [vI 4,vI 0,vI R.me,vI 0,vI 0,vI 0] 0 1 32 1 (.int .u8) (fr.lp s) (.ints .u8 32 (fr.lp s)) [] ae zO rfl rfl (xE s) ?_;refine fh (Ex R.p a k l.length l [(5,sJ t),(8,al 0 0)] [(0,df (sf R.me s))]) ?_;refine lP gE ao 1 [(8,49)] (λd=>dO cl 8 d) (λq=>tc R.p a k (l.length+1) q) (λq=>q=l++[(t,sf R.me s)]) (λ_=>False) (λ_ _=>False) ?_ (λq b=>?_) (λ_ _ _ h _=>h.elim) (λ_ _ _ _ h _=>h.elim);intros;refine @av (0+1<=1/\l.length<=l.length/\(l.length+1)*80<=2^47/\l.length+1<=2^62/\(tc R.p a (k:Int) (l.length+1) (take l.length l++take 1 [(t,(sf R.me s).fst,0,R.me,0,0,0,fr.lp s)])).aj (take l.length l++take 1 [(t,(sf R.me s).fst,0,R.me,0,0,0,fr.lp s)]=l++[(t,sf R.me s)])) _ ?_ ?_;kernel_rfl;refine⟨ae,aQ _,aa,aa,aw ?_⟩;rw[bg];rfl;subst b;have e:tc R.p a k (l.length+1) (l++[(t,sf R.me s)])=tc R.p a k (l++[(t,sf R.me s)]).length (l++[(t,sf R.me s)]):=az;rw[e];exact h
theorem aa3(R:Rt)(y:R.bB.length<1000)(K:R.aK.length+1<1000000/\R.br.length+1<1000000)(d:LI)(o:∀x∈d,gb x)(A:d.length<1000)(k:Nat)(u:k<d.length)(G:ak){r:aA}{x:Nat->aA}:
  aR au ((aO XN).drop 2) (Cl gl (tc R.p d k (cW R (d.take k)).length (cW R (d.take k))) (ak.sep (bV (eH R (d.take k))) G)) (Cl gl (tc R.p d ((k+1:Nat):Int) (cW R (d.take (k+1))).length (cW R (d.take (k+1)))) (ak.sep (bV (eH R (d.take (k+1)))) G)) r x:=by
 obtain⟨t,g,m,C,D⟩:=Gu R (d.take k);have e:d.take (k+1)=d.take k++[d.getD k 0]:=by simp_all
 rw[e,Rn,XM];have l:=Ew R (d.take k);rw[c6]at l;have j:(eH R (d.take k)).aK.length<1000000/\(eH R (d.take k)).br.length<1000000:=by unfold eH;split;unfold eD;split;omega;simp;omega;omega
 generalize eH R (d.take k)=i at t g m C D j;generalize I:cW R (d.take k)=L at l;refine dC (E:=Gv gl) (c:=ar (aO XN) 2) (Cl gl (tc R.p d k (L++cW R [d.getD k 0]).length (L++cW R [d.getD k 0])) (ak.sep (bV (if d.getD k 0=R.me then eD i R.me (poly.pat R.bB (d.getD k 0))else i)) G)) ab ab ?_ ?_
 ·rw[<-t];refine an8 gl i (by rw[m];exact y) d o k u L (d.getD k 0) rfl G ?_;by_cases f:d.getD k 0=i.me
  ·rw[b6 f];refine an9 gl i j d k L (d.getD k 0) _ G (λa w s=>?_);have n:cW R [d.getD k 0]=[]:=by unfold cW;rw[oU,b6 (by rw[f,g])];rfl
   rw[n,bF,ah (by rw[f,g])];rw[g,m]at s;exact s
  ·rw[cm f];refine aoa gl i d k L aa (d.getD k 0) _ G ?_;have n:cW R [d.getD k 0]=[(d.getD k 0,sf R.me (poly.pat R.bB (d.getD k 0)))]:=by unfold cW;rw[oU,cm (by rw[<-g];exact f)];rfl
   rw[n,ai (by rw[<-g];exact f),g,m];exact cv λ_ _ h=>h
 refine gcd gE 1 (λF=>bL iK 18 F) (λq=>tc R.p d q (L++cW R [d.getD k 0]).length (L++cW R [d.getD k 0])) (λq=>q=((k+1:Nat):Int)) ?_ (λq f=>?_);intros;refine @av ((tc R.p d (IntKind.i64.wrap ((k:Int)+1)) (L++cW R [d.getD k 0]).length (L++cW R [d.getD k 0])).aj (IntKind.i64.wrap ((k:Int)+1)=(↑(k+1):Int))) _ ?_ ?_;kernel_rfl;exact aw (a5 aa);subst f;exact cv λ_ _ h=>h
end
theorem BV(a:List Pt):Bs (law22.di a):=by rw[law22.di,bq];exact akP a
theorem Gc(a:List Pt):(law22.di a).length=48*a.length:=by rw[law22.di,bq,vB]
theorem jq(p:cO):(poly.cr p).length=p.length:=by rw[poly.cr,b5]
def ns(z:dR):SayIn:=⟨eH z.R z.R.aL,z.H,1,law22.di (poly.cr z.R.bB)⟩
def eT(z:dR)(q:eI):List (Int×aP):=if z.R.me∈z.R.aE then cW z.R z.R.aL++dj (iN (ns z) q)else []
def lF(z:dR)(q:eI):dR:=if z.R.me∈z.R.aE then⟨oe (ns z) q,qn (ns z) q⟩else z
def hdA(p:Nat):St:=ay qY.ntmps 8 [(0,aT p)] []
def an1(p:Nat):St:=ay qY.ntmps 8 [(0,aT p),(9,aT p)] []
def aiu(p:Nat)(q:Bool):St:=ay qY.ntmps 8 [(0,aT p),(11,aD q)] []
def an2(R:Rt):St:=ay qY.ntmps 14 [(0,al 8 0),(3,gv)] (kG R (b7++[vI R.bb]))
def an3(R:Rt):St:=ay qY.ntmps 14 [(0,al 8 0),(3,gv),(16,ag (.ro iK R.aL)),(17,sJ R.aL.length),(18,sJ 0)] (kG R (b7++[vI R.bb]))
def an4(p:Nat)(a:LI):St:=ay qY.ntmps 8 [(0,aT p),(3,gv),(16,ag (.ro iK a)),(17,sJ a.length),(18,sJ 0)] []
def an5(p:Nat)(n:Nat)(l:List (Int×aP)):St:=ay qY.ntmps 9 [(0,aT p),(3,ag (.sl 8 0 0 n 8))] [(8,[.row cl n l])]
def an6(R:Rt)(n:Nat)(l:List (Int×aP)):St:=ay qY.ntmps 15 [(0,al 9 0),(3,ag (.sl 8 0 0 n 8))] ((8,[.row cl n l])::E7 R (b7++[vI R.bb]))
def aiw(R:Rt)(n:Nat)(l:List (Int×aP))(b:LI):St:=ay qY.ntmps 15 [(56,ag (.sl 8 0 0 n 8)),(57,al 9 0),(63,nF b)] ((8,[.row cl n l])::E7 R (b7++[vI R.bb]))
def an7(p:Nat)(n:Nat)(l:List (Int×aP))(b:LI):St:=ay qY.ntmps 9 [(56,ag (.sl 8 0 0 n 8)),(57,aT p),(63,nF b)] [(8,[.row cl n l])]
def aix(n m:Nat)(l:List (Int×aP)):St:=ay qY.ntmps 82 [(2,ag (.sl 81 0 0 (n+m) 8))] [(81,[.row cl (n+m) l])]
theorem CL{z:SayIn}(a:ea z.H)(d:Bs z.b)(q:eI):(dj (iN z q)).length<1048576:=by unfold dj;rw[b5];have t2:=pa z.H (1,0,z.H.me,z.H.me,z.tp,0,er z.b) q;show([_]++(Hbn.cF z.H (1,0,z.H.me,z.H.me,z.tp,0,er z.b) q).2.1).length<_;simp;omega
theorem agc(gl:dF):fk au gl 36 (λz:dR=>[aT z.R.p]) dR.ok dR.eF (λz q=>ag (.ro cl (eT z q))) (λz q=>(lF z q).eF) (λ_ _=>True):=by
 refine dD (sp:=aa2) Od ab (λz=>Odt ab) (λz _=>rfl) ?_;rintro⟨R,H⟩ ⟨c,y,e⟩ _;have e:fm c R H:=e;have o:=e.tk;have m:=e.bB;refine e6 gE 1 (hdA R.p) ?_;refine eX 1 (bS (ar (aq qY) 1)) ?_;refine eG gE 1 (an1 R.p) ?_;refine ju (cT (λ_=>bX H) (MB gl)) R e.dl B9 (λ_ _=>?_);refine iS gE 3 (λr=>bL .bool 11 r) (λq=>aiu R.p q) (λq=>q=!decide (R.me∈R.aE)) ?_ (λq l=>eK ?_);intros;refine @av ((aiu R.p !decide (R.me∈R.aE)).aj ((!decide (R.me∈R.aE))=!decide (R.me∈R.aE))) _ ?_ ?_;kernel_rfl;exact aw rfl;cases q
 ·have g:R.me∈R.aE:=by
   have:decide (R.me∈R.aE)=true:=by cases h:decide (R.me∈R.aE)with|true=>rfl|false=>rw[h]at l;cases l
   exact Odt this
  refine fF (ar (aq qY) 2) ?_;refine a7 (by unfold bV;exact(bZ _ _ _).symm) ?_;refine e6 gE 1 (ay qY.ntmps 8 [(0,aT R.p),(3,gv)] []) ?_;refine jJ [0] (an2 R) ?_;refine e6 gE 1 (an3 R) ?_;refine gQ (E:=Gv gl) (bl:=hI R (b7++[vI R.bb])) [] [8,9,10,11,12,13] 9 (an4 R.p R.aL) ?_;refine a7 (G':=ak.sep (bV R) (bX H)) (by unfold bV;exact bZ _ _ _) ?_;refine ta 3 8 (.row cl 0 []) ab ?_;refine fh (tc R.p R.aL 0 0 []) ?_;refine xG gE ao (c:=XN) (λk=>tc R.p R.aL k (cW R (R.aL.take k)).length (cW R (R.aL.take k))) (λk=>ak.sep (bV (eH R (R.aL.take k))) (bX H)) R.aL.length ab ab (λk s w ids M num=>?_) (λk s=>?_) ?_;refine av (X:=((decide ((k:Int)<(R.aL.length:Int))=true->(tc R.p R.aL (k:Int) (cW R (take k R.aL)).length (cW R (take k R.aL))).aj (k<R.aL.length))/\(decide ((k:Int)<(R.aL.length:Int))=false->(tc R.p R.aL (k:Int) (cW R (take k R.aL)).length (cW R (take k R.aL))).aj (k=R.aL.length)))) ab ?_;exact⟨λh=>aw (by have:=cM h;omega),λh=>aw (by have:=cL h;omega)⟩;exact aa3 gl R m (by have:=e.aK;have:=e.frl;omega) R.aL e.tI o k s (bX H);rw[bg];have n:=Ew R R.aL;have d:=e.handed R.aL;refine fh (an5 R.p (cW R R.aL).length (cW R R.aL)) ?_;generalize f:eH R R.aL=a at d;have i:=Gu R R.aL;rw[f]at i;obtain⟨x,A,j,C,D⟩:=i;rw[<-x];refine a7 (by unfold bV;exact(bZ _ _ _).symm) ?_;refine eX 14 (bS (ar (aq qY) 6)) ?_;refine so [0] ab (an6 a (cW R R.aL).length (cW R R.aL)) (aB ab ab trivial) ?_;refine iS gE 8 (λ_=>()) (λ_=>aiw a (cW R R.aL).length (cW R R.aL) (law22.di (poly.cr a.bB))) (λ_=>True) ?_ (λ_ _=>?_);intros;refine @av (poly.zZ (a.bB,())/\CB (poly.cr a.bB,())/\(aiw a (cW R R.aL).length (cW R R.aL) (law22.di (poly.cr a.bB))).aj True) _ ?_ ?_;kernel_rfl;exact⟨by rw[j];omega,by show(poly.cr a.bB).length<=_;rw[jq,j];omega,aw trivial⟩;refine U5 (E:=Gv gl) (bl:=hI a (b7++[vI a.bb])) [8] [9,10,11,12,13,14] rfl ab ab rfl ab 10 (an7 a.p (cW R R.aL).length (cW R R.aL) (law22.di (poly.cr a.bB))) (aB ab ab trivial) ?_;refine iM (G':=ak.sep (bV a) (bX H)) (by unfold bV;exact bZ _ _ _) ?_;refine ju (E:=Gv gl) (Py gl) ⟨a,H,1,law22.di (poly.cr a.bB)⟩ ⟨d.bf,BV _,(by rw[Gc,jq,j];omega:(law22.di (poly.cr a.bB)).length<1048576),d.hp,d.Ik aa⟩ sZ (λq _=>?_);have u:=CL (z:=⟨a,H,1,law22.di (poly.cr a.bB)⟩) d.bf (BV _) q;refine iS gE 11 (λr=>dO cl 81 r) (λb=>aix (cW R R.aL).length (dj (iN ⟨a,H,1,law22.di (poly.cr a.bB)⟩ q)).length b) (λb=>b=cW R R.aL++dj (iN ⟨a,H,1,law22.di (poly.cr a.bB)⟩ q)) ?_ (λb t=>eK ?_);intros;refine @av ((cW R R.aL).length<=(cW R R.aL).length/\((cW R R.aL).length+(dj (iN {R:=a,H:=H,tp:=1,b:=law22.di (poly.cr a.bB)} q)).length)*80<=2^47/\(cW R R.aL).length+(dj (iN {R:=a,H:=H,tp:=1,b:=law22.di (poly.cr a.bB)} q)).length<=2^62/\(aix (cW R R.aL).length (dj (iN {R:=a,H:=H,tp:=1,b:=law22.di (poly.cr a.bB)} q)).length (take (cW R R.aL).length (cW R R.aL)++dj (iN {R:=a,H:=H,tp:=1,b:=law22.di (poly.cr a.bB)} q))).aj (take (cW R R.aL).length (cW R R.aL)++dj (iN {R:=a,H:=H,tp:=1,b:=law22.di (poly.cr a.bB)} q)=cW R R.aL++dj (iN {R:=a,H:=H,tp:=1,b:=law22.di (poly.cr a.bB)} q))) _ ?_ ?_;kernel_rfl;have n:(cW R R.aL).length<1000:=aa;refine⟨aQ _,aa,aa,aw ?_⟩;rw[bg];subst t;refine Be 2 81 ((cW R R.aL).length+(dj (iN ⟨a,H,1,law22.di (poly.cr a.bB)⟩ q)).length) 8 cl (cW R R.aL++dj (iN ⟨a,H,1,law22.di (poly.cr a.bB)⟩ q)) ab ab (bA ..) ?_;refine iU gE ao _ ?_ ⟨q,trivial,bR _,?_⟩;intros;refine @av (SV.is (TV.one (ax.ro cl (cW R R.aL++dj (iN {R:=a,H:=H,tp:=1,b:=law22.di (poly.cr a.bB)} q))))=SV.is (TV.one (ax.ro cl (eT {R:=R,H:=H} q)))) _ ?_ ?_;kernel_rfl;unfold eT ns;rw[ah g];rw[f,<-j];unfold lF ns;rw[ah g];rw[f,<-j]
 ·have g:¬R.me∈R.aE:=by
   have:decide (R.me∈R.aE)=false:=by cases h:decide (R.me∈R.aE)with|false=>rfl|true=>rw[h]at l;cases l
   exact Odf this
  refine jX (ar (aq qY) 2) ?_;refine jy gE ao gv ?_ ⟨(0,0,0),trivial,?_,?_⟩;intros;refine @av (SV.is (TV.one (ax.v (Value.slice none 0 0)))=gv) _ ?_ ?_;kernel_rfl;rfl;unfold eT;rw[ai g];exact BB cl;unfold lF;rw[ai g]
end rite
end Go.Proofs.YtofofalgjibokaaGreatDoor
namespace Go.Eng
def Kq(j:Nat)(B:b8):b8:=λi=>match beq i j with
 |true=>match B i with
  |some (c::_)=>some [c]
  |x=>x
 |false=>B i
theorem zI{j:Nat}{B:b8}{i:Nat}{cs:cb}(h:Kq j B i=some cs):∃r,B i=some (cs++r)/\(cs=[]->r=[]):=by unfold Kq at h;split at h;split at h;rename_i c r a;cases h;exact⟨r,a,λh=>by cases h⟩;exact⟨[],by rw[bF];exact h,λ_=>rfl⟩;exact⟨[],by rw[bF];exact h,λ_=>rfl⟩
theorem A1{f:aI}:∀{cs r:cb}{l:bn},aH f (cs++r) l->∃a b,l=a++b/\aH f cs a
 |[],r,l,h=>⟨[],l,rfl,rfl⟩
 |c::cs,r,l,h=>by obtain⟨d,m,e,i,j⟩:=h;obtain⟨a,b,g,k⟩:=A1 j;exact⟨d++a,b,by rw[e,g,cZ],d,a,rfl,i,k⟩
theorem Ctx.Kq{p:dn}{id:Nat}{q:aI}{B:b8}{w:World}(j:Nat)(h:Ctx p id q B w):Ctx p id q (Kq j B) w:=by refine⟨h.below,λi cs a n b u=>?_,h.bound,h.free,h.mem,h.glob,λi x cs s b a f k g=>?_,λb l m i cs a f=>?_⟩;obtain⟨r,c,_⟩:=zI a;obtain⟨l,⟨d,el,fr,y,z,A⟩,m⟩:=h.bQ i (cs++r) c (by intro e;exact n (List.append_eq_nil_iff.1 e).1) b u;obtain⟨C,D,e,t⟩:=A1 m;subst e;exact⟨C,⟨D++d,el,fr,by rw[<-cZ];exact y,by rw[<-cZ];exact z,A⟩,t⟩;obtain⟨r,c,_⟩:=zI a;obtain⟨F,o,_⟩:=zI k;exact h.inj i x _ _ b c (by intro e;exact f (List.append_eq_nil_iff.1 e).1) o (by intro e;exact g (List.append_eq_nil_iff.1 e).1);obtain⟨r,c,_⟩:=zI a;exact h.apart b l m i _ c (by intro e;exact f (List.append_eq_nil_iff.1 e).1)
def QV(j:Nat)(F:Spec):Spec:=λw id args B=>F w id args (Kq j B)
theorem ZF{P:Program}{f:FuncId}{b:List Kd}{a:List dH}{pre:HL b->Prop}{F:HL b->HO a}(h:bu P f b a cx pre F)(l:gC a=true)(j:Nat)(g:fx a<=1:=by decide):pY P f (QV j (mJ b a pre F)):=by
 intro r id args B out c d s q w n i;refine(a2 h g r id args _ out c d s q w n (i.Kq j)).mono ?_;rintro v t ⟨e,m,k⟩;have o:out.wr=[]:=by unfold QV mJ at c;split at c;cases c;show rB _ _ _=[];unfold rB;rw[l];cases c
 exact⟨e,m,{k with wr:=λp d=>by rw[o]at d;cases d}⟩
namespace Ob
section
variable {E:cJ}{N:Nat}
theorem OH{g:St}{G:ak}{a:Act}{w:World}(id p b:Nat)(cs j:cb)(Z:(id,p)∈E.pins)(D:g.B b=some cs)(u:cs≠[])(z:∀o:aI,o id=some p->∀l,aH o cs l->aH o j l)(Y:GH E N g G a w):GH E N ⟨g.aW,(b,j)::g.bQ,g.next⟩ G a w:=by
 obtain⟨W,F,H,V,X⟩:=Y;obtain⟨t,o,f,A⟩:=X;have C:o id=some p:=(f.init (id,p) (H.zY _ Z)).1;have r:∀i c,St.B ⟨g.aW,(b,j)::g.bQ,g.next⟩ i=some c->(i=b/\c=j)\/(i≠b/\g.B i=some c):=by
  intro i c h;simp only[St.B,eA]at h;cases s:beq b i with
  |true=>rw[s]at h;exact .inl ⟨(ji s).symm,(nO h).symm⟩
  |false=>rw[s]at h;exact .inr ⟨λe=>(by subst e;rw[lh]at s;cases s),h⟩
 have m:∀i c,St.B ⟨g.aW,(b,j)::g.bQ,g.next⟩ i=some c->c≠[]->∃d,g.B i=some d/\d≠[]:=by intro i c h z;rcases r i c h with ⟨rfl,_⟩|⟨_,k⟩;exact⟨cs,D,u⟩;exact⟨c,k,z⟩
 refine⟨W,F,H,V,t,o,{f with bQ:=λi c h n q K=>?_,inj:=λi L c O q Q R T U=>?_,mem:=λq l I=>⟨λi c h n=>?_,(f.mem q l I).2⟩},A⟩;rcases r i c h with ⟨rfl,rfl⟩|⟨_,k⟩;obtain⟨l,x,y⟩:=f.bQ i cs D u q K;exact⟨l,x,z o C l y⟩;exact f.bQ i c k n q K;obtain⟨d,x,y⟩:=m i c Q R;obtain⟨P,k3,k4⟩:=m L O T U;exact f.inj i L d P q x y k3 k4;obtain⟨d,x,y⟩:=m i c h n;exact(f.mem q l I).1 i d x y
theorem ais{n r:aA}{x:Nat->aA}{l:cw}{f:St}{G:ak}(m:Nat)(q:ble f.next m=true)(i:aR E.P l (GH E N ⟨f.aW,f.bQ,m⟩ G) n r x):aR E.P l (GH E N f G) n r x:=by refine qf (λa w o=>?_) i;obtain⟨W,F,p,j,k⟩:=o;obtain⟨d,s,e,g⟩:=k;exact⟨W,F,p,j,d,s,e,λid b h=>gJ (g id b h) (fR q)⟩
theorem IM{l:cw}{e:Array Oper}{j:Nat}{n r:aA}{x:Nat->aA}{f:St}{G:ak}(t id a i c d:Nat)(k:f.S t=ag (.pe id a i c))(b:a+i*c=d)(g:lV E.P e j l (GH E N ⟨f.aW.set t (al id d),f.bQ,f.next⟩ G) n r x):lV E.P e j l (GH E N f G) n r x:=
 jx (λ_ _ m=>m.ref t _ (by rw[k,<-b];exactλ_ _ h=>h)) g
theorem ZZ{a:aI}{id p:Nat}(h:a id=some p):∀l,aH a [.v (pt p)] l->aH a [.ptr id 0] l:=by rintro l ⟨d,f,e,⟨b,_⟩,c⟩;exact⟨d,f,e,⟨p,h,b⟩,c⟩
theorem WC{a:aI}{id p:Nat}(h:a id=some p):∀l,aH a [.ptr id 0] l->aH a [.v (pt p)] l:=by rintro l ⟨g,i,e,⟨b,c,f⟩,d⟩;rw[h]at c;cases c;exact⟨g,i,e,⟨f,rfl⟩,d⟩
theorem Hm{n r:aA}{x:Nat->aA}{l:cw}{a:St}{G:ak}(id p b:Nat)(g:(id,p)∈E.pins)(e:a.B b=some [.v (pt p)])(d:aR E.P l (GH E N ⟨a.aW,(b,[.ptr id 0])::a.bQ,a.next⟩ G) n r x):aR E.P l (GH E N a G) n r x:=
 qf (λ_ _ f=>OH id p b _ _ g e az (λi h=>ZZ h) f) d
theorem Ck{n r:aA}{x:Nat->aA}{l:cw}{a:St}{G:ak}(id p b:Nat)(g:(id,p)∈E.pins)(e:a.B b=some [.ptr id 0])(d:aR E.P l (GH E N ⟨a.aW,(b,[.v (pt p)])::a.bQ,a.next⟩ G) n r x):aR E.P l (GH E N a G) n r x:=
 qf (λ_ _ f=>OH id p b _ _ g e az (λi h=>WC h) f) d
