import Derived.Maps.RangeRun
import Derived.Maps.Keyed
import Derived.DeepKeys4
import Derived.Test.YtofofalgjibokaaGreatDoorProg
import Derived.Test.YtofofalgjibokaaGreatDoorMLanPA
set_option maxRecDepth 100000
noncomputable section
open Go Go.RowKit Cr
open List(all_eq_true drop length mem_cons mem_map mem_range range replicate take)
open Nat(beq ble blt)
open Option(isSome)
open Int(toNat)
namespace Go.Eng
abbrev HL:List Kd->Type
 |[]=>Unit
 |κ::b=>a6 κ×HL b
def GW:Kd->Bool
 |.fp | .fr | .pair _ _ | .arr _ _=>true
 |_=>false
def gS:Kd->Bool
 |.pair a b=>gS a&&gS b
 |.arr _ e=>gS e
 |.sl _ | .ptr _ | .cap _ _ | .mp=>false
 |_=>true
def cR(w:World):Mem:=λb=>match w.heap[b]? with
 |some (.cells c _ _)=>match c.toList with
  |[]=>none
  |v::l=>some (v::l)
 |some (.map f _)=>match f.toList with
  |[]=>some []
  |_=>none
 |_=>none
def sh(M:Mem)(b:Kd)(x:a6 b)(v:Value):Prop:=
 match GW b with
 |true=>∃l,v=.agg ⟨l⟩/\Rd M b x l
 |false=>Rd M b x [v]
def wG(M:Mem):(c:List Kd)->HL c->bn->Prop
 |[],_,d=>d=[]
 |κ::c,x,d=>∃u b,d=u::b/\sh M κ x.1 u/\wG M c x.2 b
def yU:(f:Kd)->a6 f->Prop
 |.pair a b,x=>yU a x.1/\yU b x.2
 |.arr n e,d=>d.length=n/\∀x∈d,yU e x
 |.sl e,d=>∀x∈d,yU e x
 |.ptr e,x=>yU e x
 |.cap c e,x=>yU c x.1/\yU e x.2
 |_,_=>True
def J2:(b:List Kd)->HL b->Prop
 |[],_=>True
 |κ::b,x=>yU κ x.1/\J2 b x.2
inductive dH where
 |own (e:Kd)
 |val (κ:Kd)
 |box (κ:Kd)
abbrev dH.kd:dH->Kd
 |.own e=>.sl e
 |.val b=>b
 |.box b=>b
abbrev HO:List dH->Type
 |[]=>Unit
 |o::b=>a6 o.kd×HO b
def eC(N:Nat)(M:Mem)(c:Option Nat)(w':World):Mem:=λb=>
 if c=some b then none else if N<=b then cR w' b else M b
def ajE(N:Nat)(M:Mem)(d:Option Nat)(w':World):(o:dH)->a6 o.kd->Value->Prop
 |.val g,x,v=>sh (eC N M d w') g x v
 |.own e,f,v=>(f=[]/\v=.slice none 0 0)\/∃b o c n l,d=some b/\N<=b/\v=.slice (some ⟨b,o,none⟩) f.length c/\f.length<=c/\(o=0\/c=0)/\o+c*aC e<=n/\cN w' b n l/\eQ (Rd (eC N M d w') e) f l
 |.box g,x,v=>∃b n l,d=some b/\N<=b/\v=.pointer (some ⟨b,0,none⟩)/\cN w' b n l/\Rd (eC N M d w') g x l
def jB(N:Nat)(M:Mem)(e:Option Nat)(w':World):(c:List dH)->HO c->bn->Prop
 |[],_,d=>d=[]
 |o::c,x,d=>∃v b,d=v::b/\ajE N M e w' o x.1 v/\jB N M e w' c x.2 b
def oL:bn->Value
 |[v]=>v
 |vs=>.tuple ⟨vs⟩
abbrev hU:=dF
def cx:hU:=λ_=>none
def tC(G:hU)(M:Mem):Prop:=∀g e x,G g=some ⟨e,x⟩->n9 (Rd M e) (aC e) M g 0 [x]
def bu(P:Program)(f:FuncId)(b:List Kd)(d:List dH)(G:hU)(pre:HL b->Prop)(F:HL b->HO d):Prop:=
 ∀(w:World)(M:Mem)(us:bn)(xs:HL b),Mem.le M (cR w)->tC G M->wG M b xs us->pre xs ->
  pW P f ⟨us⟩ w λv w'=>∃vs e,v=oL vs/\jB w.heap.size M e w' d (F xs) vs/\Below w.heap.size w w'
def adi(P:Program)(f:FuncId)(b:List Kd)(i:bn)(c:List dH)(G:hU)(pre:HL b->Prop)(F:HL b->HO c):Prop:=
 ∀(w:World)(M:Mem)(e:bn)(d:HL b),Mem.le M (cR w)->tC G M->wG M b d e->pre d ->
  pW P f ⟨e++i⟩ w λv w'=>∃g h,v=oL g/\jB w.heap.size M h w' c (F d) g/\Below w.heap.size w w'
theorem bu.toT{P:Program}{f:FuncId}{c:List Kd}{b:List dH}{G:hU}{pre:HL c->Prop}{F:HL c->HO b}(h:bu P f c b G pre F):adi P f c [] b G pre F:=by intro w M d e;rw[bF];exact h w M d e
def QX(B:b8)(b:Kd):SV->Option (a6 b×gi)
 |.is (.agg cs)=>match GW b,iB B b cs with
  |true,some (x,d,[])=>some (x,d)
  |_,_=>none
 |.is (.one c)=>match GW b,iB B b [c]with
  |false,some (x,d,[])=>some (x,d)
  |_,_=>none
 |_=>none
def xm(B:b8):(b:List Kd)->dq->Option (HL b×gi)
 |[],[]=>some ((),[])
 |κ::b,v::e=>match QX B κ v with
  |some (x,c)=>match xm B b e with
   |some (f,d)=>some ((x,f),c++d)
   |none=>none
  |none=>none
 |_,_=>none
def Jj(id:Nat):(o:dH)->a6 o.kd->TV
 |.val b,x=>match GW b with
  |true=>.agg (cellsOf b x)
  |false=>match cellsOf b x with
   |c::_=>.one c
   |[]=>.agg []
 |.own e,d=>.one (.sl id 0 0 d.length (aC e))
 |.box _,_=>.one (.ptr id 0)
def kF(id:Nat):(b:List dH)->HO b->List TV
 |[],_=>[]
 |o::b,x=>Jj id o x.1::kF id b x.2
def wN(id:Nat):(b:List dH)->HO b->e5
 |[],_=>[]
 |.own e::_,x=>[(id,[mc e x.1.length x.1])]
 |.val _::b,x=>wN id b x.2
 |.box c::_,x=>[(id,cellsOf c x.1)]
def AQ:List TV->SV
 |[x]=>.is x
 |l=>.tup l
def fx:List dH->Nat
 |[]=>0
 |.own _::b=>fx b+1
 |.val _::b=>fx b
 |.box _::b=>fx b+1
def gC:List dH->Bool
 |[]=>true
 |.own e::b=>gS e&&gC b
 |.val c::b=>gS c&&gC b
 |.box c::b=>gS c&&gC b
def isLive(B:b8)(i:Nat):Bool:=match B i with
 |some (_::_)=>true
 |_=>false
def rB(B:b8)(b:List dH)(ids:List Nat):e5:=
 match gC b with
 |true=>[]
 |false=>(ids.filter (isLive B)).map λi=>(i,[])
def mJ(c:List Kd)(b:List dH)(pre:HL c->Prop)(F:HL c->HO b):Spec:=λ_ id args B=>
 match xm (nE (jb B args) B) c args with
 |some (d,e)=>some {val:=AQ (kF id b (F d)),new:=wN id b (F d),wr:=rB B b (jb B args),pre:=e++[pre d]}
 |none=>none
def Fy(G:hU)(c:List Kd)(b:List dH)(pre:HL c->Prop)(F:HL c->HO b):Spec:=λW id args B=>
 match mJ c b pre F W id args B with
 |some o=>some {o with pre:=(∀g s,G g=some s->W.gl g=some s)::o.pre}
 |none=>none
section
variable {P:Program}
theorem pW.mono{f:FuncId}{i:Array Value}{w:World}{R d:Value->World->Prop}(h:pW P f i w R)(g:∀v w',R v w'->d v w'):pW P f i w d:=by rcases h with ⟨b,c⟩|⟨v,w',b,c⟩;exact .inl ⟨b,c.mono λe w' ⟨v,j,k⟩=>⟨v,j,g v w' k⟩⟩;exact .inr ⟨v,w',b,g v w' c⟩
theorem NK{M p:Mem}:∀{e:Kd}{x:a6 e}{d:bn},gS e=true->Rd M e x d->Rd p e x d:=by
 intro e;induction e with
 |int k=>intro x d _ h;exact h
 |bool=>intro x d _ h;exact h
 |str=>intro x d _ h;exact h
 |fp=>intro x d _ h;exact h
 |fr=>intro x d _ h;exact h
 |pair a b m o=>intro x d g⟨s,t,e,i,j⟩;simp[gS]at g;exact⟨s,t,e,m g.1 i,o g.2 j⟩
 |arr n e l=>intro x d g⟨i,j⟩;exact⟨i,fe (λ_ _=>l g) j⟩
 |sl e l=>intro x d g;simp[gS]at g
 |ptr e l=>intro x d g;simp[gS]at g
 |fn f=>intro x d _ h;exact h
 |cap c e q r=>intro x d g;simp[gS]at g
 |pq=>intro x d _ h;exact h
 |mp=>intro x d g;simp[gS]at g
theorem C2{M d:Mem}{b:Kd}{x:a6 b}{v:Value}(h:∀l,Rd M b x l->Rd d b x l)(c:sh M b x v):sh d b x v:=by
 unfold sh at c⊢;cases f:GW b with
 |true=>rw[f]at c;obtain⟨l,e,g⟩:=c;exact⟨l,e,h l g⟩
 |false=>simp_all
theorem yT{B:b8}{ρ:aI}{M:Mem}(k:Sees B ρ M){j:Kd}{s:SV}{x:a6 j}{q:gi}{v:Value}(h:QX B j s=some (x,q))(m:∀p∈q,p)(o:s.rel ρ v):sh M j x v:=by unfold QX at h;split at h;rename_i cs;split at h;rename_i y w g i;obtain⟨rfl,rfl⟩:=h;obtain⟨l,e,r⟩:=o;obtain⟨t,u,d,f,b⟩:=lT k _ _ _ _ _ _ i m r;have b:=b;subst b;rw[bF]at d;subst d;unfold sh;rw[g];exact⟨_,e,f⟩;simp at h;rename_i c;split at h;rename_i y w g i;obtain⟨rfl,rfl⟩:=h;obtain⟨t,u,d,f,b⟩:=lT k _ _ _ _ _ _ i m (ct o);have b:=b;subst b;rw[bF]at d;unfold sh;rw[g,d];exact f;simp at h;simp at h
theorem LO{B:b8}{ρ:aI}{M:Mem}(q:Sees B ρ M):∀{d:List Kd}{c:dq}{i:HL d}{f:gi}{g:bn},xm B d c=some (i,f)->(∀p∈f,p)->bW ρ c g->wG M d i g:=by
 intro d;induction d with
 |nil=>intro c i f g h j k;cases c with
  |nil=>exact k
  |cons _ _=>simp[xm]at h
 |cons C d r=>intro c i f g h j k;cases c with
  |nil=>simp[xm]at h
  |cons s c=>simp[xm]at h;split at h;rename_i x y m;split at h;rename_i A z o;obtain⟨rfl,rfl⟩:=h;obtain⟨u,l,e,t,w⟩:=k;exact⟨u,l,e,yT q m (λp b=>j p (jN _ b)) t,r o (λp b=>j p (kH _ b)) w⟩;simp at h;simp at h
theorem mu{w:World}{b:Nat}{l:bn}{el:TypeId}{fr:Nat×Nat}(h:w.heap[b]?=some (.cells ⟨l⟩ el fr))(c:l≠[]):cR w b=some l:=by
 cases l with
 |nil=>simp_all
 |cons v l=>simp[cR,h]
theorem lQ{w:World}{b:Nat}{l:bn}{el:TypeId}{fr:Nat×Nat}(h:w.heap[b]?=some (qv l el fr)):cR w b=some l:=by
 cases l with
 |nil=>simp[cR,h,qv]
 |cons v l=>simp[cR,h,qv]
theorem jA{w:World}{b:Nat}{l:bn}(h:cR w b=some l):∃el fr,w.heap[b]?=some (qv l el fr):=by unfold cR at h;split at h;rename_i c el fr e;split at h;cases h;rename_i v g d;simp at h;subst h;exact⟨el,fr,by rw[e,qv,<-d]⟩;rename_i f ck e;split at h;rename_i d;simp at h;subst h;exact⟨ck,(0,0),by rw[e,qv,<-Array.toList_inj.1 (show f.toList=#[].toList from d)]⟩;cases h;cases h
theorem su{w:World}{b:Nat}{l:bn}(h:cR w b=some l):b<w.heap.size:=by obtain⟨el,fr,h⟩:=jA h;rcases cG b w.heap.size with h'|h';exact h';simp_all
theorem Fj{b:Kd}{ρ:aI}{id:Nat}{x:a6 b}{v:Value}(h:sh ρ.M b x v):(Jj id (.val b) x).rel ρ v:=by
 unfold sh at h;cases d:GW b with
 |true=>
  rw[d]at h;obtain⟨l,e,g⟩:=h;have:Jj id (.val b) x=.agg (cellsOf b x):=by simp[Jj,d]
  rw[this];exact⟨l,e,jL g⟩
 |false=>
  rw[d]at h;have:=jL h;cases b with
  |int k=>exact dP this
  |bool=>exact dP this
  |str=>exact dP this
  |sl e=>exact dP this
  |ptr e=>exact dP this
  |fn f=>exact dP this
  |cap c e=>exact dP this
  |pq=>exact dP this
  |mp=>exact dP this
  |_=>simp[GW]at d
theorem F9{ρ:aI}{l:List TV}{d:bn}(h:gh ρ l d):(AQ l).rel ρ (oL d):=by
 match l,d,h with
 |[],_,h=>have e:=h;subst e;exact⟨[],rfl,rfl⟩
 |[x],_,⟨y,k,e,b,c⟩=>have i:=c;subst i;subst e;exact b
 |x::m::l,_,⟨y,k,e,b,j,f,g,c⟩=>subst g e;exact⟨_,rfl,y,_,rfl,b,j,f,rfl,c⟩
theorem UB:∀(c:Kd)(x:a6 c),cellsOf c x≠[]:=by
 intro c;induction c with
 |pair a b d e=>intro x h;exact d x.1 (List.append_eq_nil_iff.1 h).1
 |_=>intro x h;simp[cellsOf]at h
theorem PR{b:aI}{N:Nat}{M:Mem}{d:Option Nat}{w':World}{id:Nat}(s:∀(e:Kd)(x:a6 e) l,Rd (eC N M d w') e x l->(gS e=true\/Mem.le (eC N M d w') b.M)->Rd b.M e x l)
  : ∀{c:List dH}{f:HO c}{g:bn},fx c=0->(gC c=true\/Mem.le (eC N M d w') b.M)->jB N M d w' c f g->wN id c f=[]/\gh b (kF id c f) g:=by
 intro c;induction c with
 |nil=>intro f g _ _ h;exact⟨rfl,h⟩
 |cons o c u=>
  intro f g i hp h;cases o with
  |own e=>simp[fx]at i
  |box e=>simp[fx]at i
  |val p=>
   obtain⟨v,m,e,q,r⟩:=h;have k:gC c=true\/Mem.le (eC N M d w') b.M:=by rcases hp with hp|hp;simp[gC]at hp;exact .inl hp.2;exact .inr hp
   have j:gS p=true\/Mem.le (eC N M d w') b.M:=by rcases hp with hp|hp;simp[gC]at hp;exact .inl hp.1;exact .inr hp
   obtain⟨w,y⟩:=u i k r;exact⟨w,v,m,e,Fj (C2 (λl t=>s p _ l t j) q),y⟩
theorem Cy{c:aI}{N:Nat}{M:Mem}{k:Option Nat}{w':World}{id:Nat}(u:∀(e:Kd)(x:a6 e) l,Rd (eC N M k w') e x l->(gS e=true\/Mem.le (eC N M k w') c.M)->Rd c.M e x l)
  : ∀{d:List dH}{m:HO d}{s:bn},fx d<=1->(gC d=true\/Mem.le (eC N M k w') c.M)->jB N M k w' d m s ->
   (wN id d m=[]/\gh c (kF id d m) s)\/
   (∃cs,cs≠[]/\wN id d m=[(id,cs)]/\(gh c (kF id d m) s\/∃b n l,k=some b/\N<=b/\cN w' b n l/\aH c cs l/\(c id=some b->c.n id=n->gh c (kF id d m) s))):=by
 intro d;induction d with
 |nil=>intro m s _ _ h;exact .inl ⟨rfl,h⟩
 |cons o d U=>
  intro m s A hp h;obtain⟨v,f,e,C,D⟩:=h;cases o with
  |val t=>
   have j:gC d=true\/Mem.le (eC N M k w') c.M:=by rcases hp with hp|hp;simp[gC]at hp;exact .inl hp.2;exact .inr hp
   have i:gS t=true\/Mem.le (eC N M k w') c.M:=by rcases hp with hp|hp;simp[gC]at hp;exact .inl hp.1;exact .inr hp
   have p:=Fj (id:=id) (C2 (λl F=>u t _ l F i) C);rcases U A j D with ⟨y,q⟩|⟨cs,O,y,q|⟨b,n,l,V,W,X,Y,Z⟩⟩;exact .inl ⟨y,v,f,e,p,q⟩;exact .inr ⟨cs,O,y,.inl ⟨v,f,e,p,q⟩⟩;exact .inr ⟨cs,O,y,.inr ⟨b,n,l,V,W,X,Y,λw G=>⟨v,f,e,p,Z w G⟩⟩⟩
  |own L=>
   have j:gC d=true\/Mem.le (eC N M k w') c.M:=by rcases hp with hp|hp;simp[gC]at hp;exact .inl hp.2;exact .inr hp
   have i:gS L=true\/Mem.le (eC N M k w') c.M:=by rcases hp with hp|hp;simp[gC]at hp;exact .inl hp.1;exact .inr hp
   have K:=by simp[fx]at A;omega
   obtain⟨_,q⟩:=PR u K j D;refine .inr ⟨_,az,rfl,?_⟩;rcases C with ⟨T,p⟩|⟨b,o,z,n,l,r,E,p,Q,R,G,g,I⟩;refine .inl ⟨v,f,e,.inl ⟨?_,by rw[p]⟩,q⟩;rw[T];rfl;refine .inr ⟨b,n,l,r,E,g,ct (ib rfl (fe (λx l F=>u L x l F i) I)),λw H=>⟨v,f,e,.inr ⟨b,o,z,w,Q,by simpa using R,by rw[H];exact G,by rw[p]⟩,q⟩⟩
  |box t=>
   have j:gC d=true\/Mem.le (eC N M k w') c.M:=by rcases hp with hp|hp;simp[gC]at hp;exact .inl hp.2;exact .inr hp
   have i:gS t=true\/Mem.le (eC N M k w') c.M:=by rcases hp with hp|hp;simp[gC]at hp;exact .inl hp.1;exact .inr hp
   have K:=by simp[fx]at A;omega
   obtain⟨_,q⟩:=PR u K j D;obtain⟨b,n,l,r,E,p,g,I⟩:=C;exact .inr ⟨_,UB t m.1,rfl,.inr ⟨b,n,l,r,E,g,jL (u t m.1 l I i),λw _=>⟨v,f,e,⟨b,w,by rw[p]⟩,q⟩⟩⟩
theorem zP{B:b8}{b:List dH}{ids:List Nat}{p:Nat×cb}(h:p∈rB B b ids):p.2=[]/\p.1∈ids/\∃cs,B p.1=some cs/\cs≠[]:=by
 unfold rB at h;split at h;cases h
 ·obtain⟨i,e,rfl⟩:=mem_map.1 h;obtain⟨d,c⟩:=List.mem_filter.1 e;refine⟨rfl,d,?_⟩;unfold isLive at c;split at c;·simp_all
  cases c
theorem UY{f:FuncId}{O:List Kd}{tl:bn}{k:List dH}{G:hU}{pre:HL O->Prop}{F:HL O->HO k}(h:adi P f O tl k G pre F)(h1:fx k<=1){w0:dn}{id:Nat}{args:dq}{B:b8}{out:Out}(hF:mJ O k pre F w0 id args B=some out) (hp:∀p∈out.pre,p) (hG:∀g s,G g=some s->w0.gl g=some s) {ρ:aI} {us:bn} {w:World} (hv:bW ρ args us) (Q:Ctx w0 id ρ B w):
  pW P f ⟨us++tl⟩ w λv w'=>∃r,out.val.rel r v/\Eff id B out ρ r w w':=by
 classical
 unfold mJ at hF;split at hF
 ·rename_i xs ps z3;simp at hF;subst hF
  -- y3 z4 y5 z8 z9
  let own:Nat->Prop:=λb=>∃i cs,i∈jb B args/\B i=some cs/\cs≠[]/\ρ i=some b;let C:Mem:=λb=>if own b then cR w b else ρ.M b;have x2:∀b l,C b=some l->cR w b=some l:=by intro b l j;simp[C]at j;split at j;exact j;obtain⟨el,fr,X⟩:=Q.mem b l j;exact lQ X
  have K:Mem.le ρ.M C:=by intro b l j;simp[C];split;obtain⟨el,fr,X⟩:=Q.mem b l j;exact lQ X;exact j
  have x0:Sees (nE (jb B args) B) ρ C:=by
   refine⟨K,λi cs b y x6 j=>?_⟩;have x5:=by unfold nE at y;split at y;rename_i hm;exact yt hm;cases y
   have x1:=pR y;obtain⟨l,⟨y2,el,fr,V,k2,_⟩,k3⟩:=Q.bQ i cs x1 x6 b j;refine⟨l,y2,k3,λhn=>?_,k2⟩;simp[C];rw[ah ⟨i,cs,x5,x1,x6,j⟩];exact mu V hn
  have x3:=LO x0 z3 (λp d=>hp p (by simp[d])) hv;have y6:tC G C:=λg e x hg=>l7 K (Q.glob g e x (hG g _ hg));refine(h w C us xs x2 y6 x3 (hp _ az)).mono ?_;rintro v w' ⟨vs,ob,rfl,U,o⟩
  -- y3 is known y4 z4 z5
  let Mx:Mem:=if gC k=true then ρ.M else C;let u:aI:=⟨ρ.m,ρ.n,λb=>if ob=some b/\w.heap.size<=b then none else if w.heap.size<=b then cR w' b else Mx b⟩;have z1:∀b l,ρ.M b=some l->b<w.heap.size:=by intro b l j;obtain⟨el,fr,X⟩:=Q.mem b l j;exact su (lQ X)
  have z2:Mem.le ρ.M Mx:=by intro b l j;simp[Mx];split;exact j;exact K b l j
  have R:Mem.le ρ.M u.M:=by intro b l j;have:=z1 b l j;simp only[u];rw[ai (λh=>aa),ai aa];exact z2 b l j
  have T:gC k=true\/Mem.le (eC w.heap.size C ob w') u.M:=by by_cases N:gC k=true;exact .inl N;refine .inr λb l j=>?_;simp only[eC]at j;simp only[u];split at j;cases j;rename_i Z;rw[ai (λh=>Z h.1)];split at j;rename_i W;rw[ah W];exact j;rename_i W;rw[ai W];simp[Mx,N];exact j
  have conv:∀(r:aI),r.M=u.M->∀(e:Kd)(x:a6 e) l,Rd (eC w.heap.size C ob w') e x l->(gS e=true\/Mem.le (eC w.heap.size C ob w') r.M)->Rd r.M e x l:=by intro r _ e x l hr hor;rcases hor with hor|hor;exact NK hor hr;exact dT hor hr
  have H:∀(r:aI)(new:e5),r.M=u.M->(∀p∈new,∀b,r p.1=some b->ob=some b/\w.heap.size<=b)->∀b l,r.M b=some l->ρ.M b=some l\/((∀p∈new,r p.1≠some b)/\(w.heap.size<=b\/∃q∈rB B k (jb B args),ρ q.1=some b/\q.2=[])/\∃el fr,w'.heap[b]?=some (qv l el fr)):=by
   intro r new y0 z b l j;rw[y0]at j;simp only[u]at j;split at j;cases j
   ·rename_i Z;split at j;rename_i W;exact .inr ⟨λp d e=>Z (z p d b e),.inl W,jA j⟩
    ·rename_i W;simp[Mx]at j;split at j;exact .inl j
     ·rename_i N;have hm:=x2 b l j;obtain⟨el,fr,X⟩:=jA hm;simp[C]at j;split at j
      ·rename_i x7;obtain⟨i,cs,y7,y8,y9,z0⟩:=x7;refine .inr ⟨λp d e=>W (z p d b e).2,.inr ⟨(i,[]),?_,z0,rfl⟩,el,fr,by rw[o.block b aa];exact X⟩;unfold rB;have:=by simpa using N
       rw[this];refine mem_map.2 ⟨i,List.mem_filter.2 ⟨y7,?_⟩,rfl⟩;unfold isLive;rw[y8];cases cs with
       |nil=>exact absurd rfl y9
       |cons c cs=>rfl
      exact .inl j
  have x8:∀(r:aI)(p:Nat×cb),p∈rB B k (jb B args)->(∃cs,B p.1=some cs/\cs≠[])/\∀b,ρ p.1=some b->p.2≠[]->∃l,cN w' b (ρ.n p.1) l/\aH r p.2 l:=by intro r p d;obtain⟨V,k2,k3⟩:=zP d;exact⟨k3,λ_ _ h=>absurd V h⟩
  have x9:∀p∈rB B k (jb B args),∀q∈rB B k (jb B args),p.1=q.1->p=q:=by intro p d q I e;exact iP e ((zP d).1.trans (zP I).1.symm)
  have E:=Q.free id (aQ _) aa
  -- y1 in a block of z7 own
  have L:∀(new:e5),(∀p∈new,p.1=id)->gh u (kF id k (F xs)) vs->∃r,(AQ (kF id k (F xs))).rel r (oL vs)/\Eff id B {val:=AQ (kF id k (F xs)),new:=new,wr:=rB B k (jb B args),pre:=ps++[pre xs]} ρ r w w':=by
   intro new z ht;have A:∀p∈new,u p.1=none:=λp d=>by rw[z p d];exact E
   refine⟨u,F9 ht,⟨⟨λ_ _ h=>⟨h,rfl⟩,R⟩,λ_ _ h=>.inl h,λi b y=>gJ (Q.bound i b y) o.size,o.os,o.tape,o.output,o.size,λb j _=>o.block b j,?_,?_,x9,x8 u,H u new rfl (λp d b j=>by rw[A p d]at j;cases j)⟩⟩;intro p d;have:=z p d;exact⟨aa,aa,λb j=>by rw[A p d]at j;cases j⟩;intro p d q I b j;rw[A p d]at j;cases j
  rcases Cy (conv u rfl) h1 T U with ⟨V,k2⟩|⟨cs,k0,V,k2|⟨b,n,l,k3,k4,k5,k6,k7⟩⟩;rw[V];exact L [] (λ_ h=>nomatch h) k2;rw[V];exact L [(id,cs)] (λp d=>by simp at d;rw[d]) k2
  ·rw[V];let t:aI:=⟨λi=>if i=id then some b else ρ i,λi=>if i=id then n else ρ.n i,u.M⟩;have x4:aI.le ρ t:=by
    refine⟨λi c y=>?_,R⟩;by_cases e:i=id;subst e;rw[E]at y;cases y;simp[t,e,y]
   have Y:aI.le u t:=⟨λi c y=>x4.id i c y,Mem.le_refl _⟩;have ht:gh t (kF id k (F xs)) vs:=by
    rcases Cy (conv t rfl) h1 T U with ⟨_,j2⟩|⟨z6,_,_,j2|⟨b',n',l',j3,j4,j5,j6,j7⟩⟩;exact j2;exact j2
    ·have e:b'=b:=by rw[k3]at j3;simpa using j3.symm
     subst e;have en:=k5.size_eq j5;subst en;exact j7 (by simp[t]) (by simp[t])
   refine⟨t,F9 ht,⟨x4,?_,?_,o.os,o.tape,o.output,o.size,λb j _=>o.block b j,?_,?_,x9,x8 t,H t _ rfl ?_⟩⟩;intro i b' y;by_cases e:i=id;simp[t,e]at y;subst y;exact .inr ⟨aa,aa,⟨(id,cs),az,by simp[e]⟩,.inl k4⟩;simp[t,e]at y;exact .inl y;intro i b' y;by_cases e:i=id;simp[t,e]at y;subst y;exact k5.lt;simp[t,e]at y;exact gJ (Q.bound i b' y) o.size;intro p d;simp at d;subst d;refine⟨aQ _,aa,λb' D _=>?_⟩;simp[t]at D;subst D;exact⟨.inl k4,l,by simp[t];exact k5,fi Y k6⟩;intro p d q I _ _ _;simp at d I;rw[d,I];intro p d b' D;simp at d;subst d;simp[t]at D;subst D;exact⟨k3,k4⟩
 simp at hF
theorem IF{f:FuncId}{c:List Kd}{b:List dH}{G:hU}{pre:HL c->Prop}{F:HL c->HO b}(h:bu P f c b G pre F)(i:fx b<=1){w0:dn}{id:Nat}{args:dq}{B:b8}{out:Out}(j:mJ c b pre F w0 id args B=some out) (m:∀p∈out.pre,p) (k:∀g s,G g=some s->w0.gl g=some s) {ρ:aI} {e:bn} {w:World} (o:bW ρ args e) (l:Ctx w0 id ρ B w):
  pW P f ⟨e⟩ w λv w'=>∃d,out.val.rel d v/\Eff id B out ρ d w w':=by
 have:=UY h.toT i j m k o l
 rwa [bF]at this
def s6(g:FuncId):Value:=.func (.func g) #[] #[]
abbrev aZ{P:Program}{f:FuncId}{c:List Kd}{b:List dH}{G:hU}{pre:HL c->Prop}{F:HL c->HO b}(_:bu P f c b G pre F):Nat×Spec:=(f,mJ c b pre F)
theorem a2{f:FuncId}{d:List Kd}{b:List dH}{pre:HL d->Prop}{F:HL d->HO b}(h:bu P f d b cx pre F)(e:fx b<=1:=by decide):pY P f (mJ d b pre F):=by intro w0 id args B out i k ρ us w l j;exact IF h e i k (λg s o=>by trivial) l j
theorem fgk{f:FuncId}{e:List Kd}{b:List dH}{G:hU}{pre:HL e->Prop}{F:HL e->HO b}(h:bu P f e b G pre F)(m:fx b<=1:=by decide):pY P f (Fy G e b pre F):=by intro w0 id args B out g l ρ t w s q;unfold Fy at g;split at g;rename_i o r;simp at g;subst g;have:=IF h m r (λp i=>l p (by simp[i])) (l _ az) s q;refine this.mono λv w' ⟨k,j,d⟩=>⟨k,j,?_⟩;exact⟨d.le,d.dom,d.bound,d.os,d.tape,d.output,d.size,d.same,d.new,d.newinj,d.wruniq,d.wr,d.mem⟩;simp at g
def aF(P:Program)(f:FuncId)(fn:Func):Prop:=P.funcs[f]?=some fn/\∀b w,(callFunc f b).run P w=.ok (.enter f b) w
theorem wz {f : FuncId} {fn : Func} (h : P.funcs[f]? = some fn) (c : (fn.name == "runtime.NumGoroutine") = false) (b : fn.body.isNone = false) : aF P f fn := by refine⟨h,fun d w=>?_⟩;unfold callFunc;simp only[cf,run_program,cn,h,c,b];rfl
theorem ek {f : FuncId} {fn : Func} (h : P.funcs[f]? = some fn := by kernel_rfl) (c : (fn.name == "runtime.NumGoroutine") = false := by kernel_rfl) (b : fn.body.isNone = false := by kernel_rfl) : aF P f fn := wz h c b
def ak1:(b:Kd)->a6 b->TV:=λb x=>Jj 0 (.val b) x
def oq:(b:List Kd)->HL b->dq
 |[],_=>[]
 |κ::b,x=>.is (ak1 κ x.1)::oq b x.2
theorem tK{ρ:aI}:∀{b:List Kd}{d:HL b}{c:bn},wG ρ.M b d c->bW ρ (oq b d) c:=by
 intro b;induction b with
 |nil=>intro d c h;exact h
 |cons k b j=>intro d c⟨u,f,e,g,i⟩;exact⟨u,f,e,Fj g,j i⟩
theorem xl:∀{b:List Kd}{c:HL b},(oq b c).length=b.length:=by
 intro b;induction b with
 |nil=>intro c;rfl
 |cons e b d=>intro c;simp[oq,d]
theorem Us{M:Mem}:∀{e:Kd}{x:a6 e}{d:bn},Rd M e x d->yU e x:=by
 intro e;have z:∀(e:Kd),(∀{x:a6 e}{d:bn},Rd M e x d->yU e x)->∀(p:List (a6 e))(d:bn),eQ (Rd M e) p d->∀x∈p,yU e x:=by
  intro e j p;induction p with
  |nil=>intro d _ x hx;cases hx
  |cons y F u=>intro d⟨E,C,_,m,i⟩x hx;rcases mem_cons.1 hx with rfl|hx;exact j m;exact u C i x hx
 induction e with
 |pair a b q r=>intro x d⟨E,C,e,m,i⟩;exact⟨q m,r i⟩
 |arr n e j=>intro x d⟨m,i⟩;exact⟨m,z e j x d i⟩
 |sl e j=>intro x d h;rcases h with ⟨h,_⟩|⟨b,o,cap,_,_,l,_,_,D⟩;intro y A;rw[h]at A;cases A;exact z e j x _ D
 |int k=>intro x d _;trivial
 |bool=>intro x d _;trivial
 |str=>intro x d _;trivial
 |fp=>intro x d _;trivial
 |fr=>intro x d _;trivial
 |ptr e j=>intro x d⟨b,o,_,l,_,_,h⟩;exact j (qb h)
 |fn f=>intro x d _;trivial
 |cap c e s t=>intro x d⟨g,w,b,o,_,i,l,_,_,h⟩;exact⟨s i,t (qb h)⟩
 |pq=>intro x d _;trivial
 |mp=>intro x d _;trivial
theorem zN{M:Mem}:∀{b:List Kd}{d:HL b}{f:bn},wG M b d f->J2 b d:=by
 intro b;induction b with
 |nil=>intro d f _;trivial
 |cons k b i=>intro d f ⟨u,j,e,c,g⟩;refine⟨?_,i g⟩;unfold sh at c;split at c;obtain⟨l,_,h⟩:=c;exact Us h;exact Us c
def E2(nt:Bool)(B:b8):(o:dH)->TV->Option (a6 o.kd×gi)
 |.val f,x=>QX (match nt with|true=>tg|false=>B) f (.is x)
 |.own e,x=>match x with
  |.one (.sl id 0 0 len c)=>match B id with
   |some (d::b)=>match xw e (d::b) 0 0 len c with
    |some (g,p)=>some (g,p)
    |none=>xv (iB tg e) (aC e) (d::b) 0 0 len c
   |_=>none
  |.one (.v (.slice none 0 0))=>some ([],[])
  |_=>none
 |.box f,x=>match x with
  |.one (.ptr id 0)=>match B id with
   |some (d::b)=>match iB tg f (d::b)with
    |some (y,p,[])=>some (y,p)
    |_=>none
   |_=>none
  |_=>none
def kD(nt:Bool)(B:b8):(b:List dH)->List TV->Option (HO b×gi)
 |[],[]=>some ((),[])
 |o::b,x::d=>match E2 nt B o x with
  |some (y,p)=>match kD nt B b d with
   |some (e,c)=>some ((y,e),p++c)
   |none=>none
  |none=>none
 |_,_=>none
def JQ:SV->List TV
 |.is x=>[x]
 |.tup l=>l
 |_=>[]
def Fb:SV->Bool
 |.is _=>true
 |.tup []=>true
 |.tup (_::_::_)=>true
 |_=>false
def nt(b:List dH):Bool:=match fx b with
 |0=>false
 |_=>true
def post(b:List dH)(e:HO b)(c:SV)(σ:St):Prop:=
 match Fb c,kD (nt b) σ.B b (JQ c)with
 |true,some (f,d)=>G3 d (f=e)
 |_,_=>False
theorem Zt{ρ:aI}{d:SV}{v:Value}(f:d.rel ρ v)(j:Fb d=true):∃c,gh ρ (JQ d) c/\v=oL c:=by
 match d,j with
 |.is x,_=>exact⟨[v],⟨v,[],rfl,f,rfl⟩,rfl⟩
 |.tup [],_=>obtain⟨c,e,h⟩:=f;have i:=h;subst i;exact⟨[],rfl,e⟩
 |.tup (x::y::l),_=>obtain⟨c,e,h⟩:=f;refine⟨c,h,?_⟩;obtain⟨a,g,rfl,_,b,k,rfl,_⟩:=h;exact e
variable {w0:dn}{n:Nat}{σ:St}{ρ:aI}{a:Act}{w':World}
theorem CG{M:Mem}(e:dJ w0 n σ.S σ.B ρ a w')(i:w0.ids=[])(j:w0.M=M){f:Option Nat}(d:∀b,f=some b->∀l,ρ.M b≠some l):Mem.le ρ.M (eC w0.w.heap.size M f w'):=by intro b l c;unfold eC;rw[ai (λh=>d b h l c)];obtain⟨_,el,fr,g⟩:=e.mem b l c;split;exact lQ g;·rcases e.bJ b l c aa with h|h;simp[dn.own,i]at h;·simp_all
theorem ab0{M:Mem}(e:dJ w0 n σ.S σ.B ρ a w')(g:w0.ids=[])(k:w0.M=M):Sees σ.B ρ (eC w0.w.heap.size M none w'):=by refine⟨CG e g k (λb h=>(nomatch h)),λi cs b j d f=>?_⟩;obtain⟨l,⟨c,el,fr,o,p,_⟩,q⟩:=e.bQ i cs j d b f;refine⟨l,c,q,λm=>?_,p⟩;unfold eC;rcases (e.bound i b f).1 with h|h;rw[ah h];exact mu o m;simp[dn.own,g]at h
theorem E3{M:Mem}{s:Option Nat}{B:b8}(A:Sees B ρ (eC w0.w.heap.size M s w')){m:Bool}(z:(match m with|true=>tg|false=>σ.B)=B):
  ∀{c:List dH}{d:List TV}{i:HO c}{f:gi}{g:bn},fx c=0->kD m σ.B c d=some (i,f)->(∀p∈f,p)->gh ρ d g->jB w0.w.heap.size M s w' c i g:=by
 intro c;induction c with
 |nil=>intro d i f g _ h _ k;cases d with
  |nil=>exact k
  |cons _ _=>simp[kD]at h
 |cons o c D=>intro d i f g j h q k;cases d with
  |nil=>simp[kD]at h
  |cons x d=>
   cases o with
   |own e=>simp[fx]at j
   |box e=>simp[fx]at j
   |val G=>simp[kD]at h;split at h;rename_i y p r;split at h;rename_i F E C;obtain⟨rfl,rfl⟩:=h;obtain⟨v,l,e,t,u⟩:=k;simp[E2,z]at r;exact⟨v,l,e,yT A r (λp b=>q p (jN _ b)) t,D j C (λp b=>q p (kH _ b)) u⟩;simp at h;simp at h
theorem ab2{e:Kd}{z:Bool}{x:TV}{y:List (a6 e)}{t:gi}{v:Value}(A:dJ w0 n σ.S σ.B ρ a w')(h:E2 z σ.B (.own e) x=some (y,t))(D:∀p∈t,p)(E:x.rel ρ v):
  (y=[]/\v=.slice none 0 0)\/∃b o f n l,(∀l,ρ.M b≠some l)/\w0.bB b/\v=.slice (some ⟨b,o,none⟩) y.length f/\y.length<=f/\(o=0\/f=0)/\o+f*aC e<=n/\cN w' b n l/\eQ (Rd ρ.M e) y l:=by
 simp[E2]at h;split at h
 ·rename_i id len c;split at h
  ·rename_i d F C;have s:∀{y:List (a6 e)},(∀l,aH ρ (d::F) l->y.length=len/\c=aC e/\0+0*c+len*c<=l.length/\eQ (Rd ρ.M e) y ((l.drop (0+0*c)).take (len*c)))->(len=0->y=[]) ->
     (y=[]/\v=.slice none 0 0)\/∃b o f n l,(∀l,ρ.M b≠some l)/\w0.bB b/\v=.slice (some ⟨b,o,none⟩) y.length f/\y.length<=f/\(o=0\/f=0)/\o+f*aC e<=n/\cN w' b n l/\eQ (Rd ρ.M e) y l:=by
    intro y I G;rcases p9 E with ⟨i,ev⟩|⟨b,o,f,u,i,z,H,ev⟩;exact .inl ⟨G i,ev⟩;obtain⟨l,k,w⟩:=A.bQ _ _ C az b u;obtain⟨K,L,N,O⟩:=I l w;subst K L;refine .inr ⟨b,o,f,_,_,λl m=>(A.mem b l m).1 _ _ C az u,(A.bound _ _ u).1,ev,i,by simpa using z,H,?_,O⟩;simp at N⊢;have j:=k;rw[<-ff (y.length*aC e) l]at j;exact j.pre
   split at h;rename_i Q p g;obtain⟨rfl,rfl⟩:=h;refine s (λl i=>Ah g D i) (λm=>?_);subst m;unfold xw at g;split at g;split at g;simp only[cd,cp]at g;rw[<-g.1];simp;simp at g;simp at g;refine s (λl i=>Ag (λ_ _=>cK) (λcs x t r l=>lT (rk ρ) e cs x t r l) h D i) (λm=>?_);subst m;unfold xv at h;split at h;split at h;rename_i q;simp[pN]at h q;rw[<-h.1,<-q.1];simp at h;simp at h
  simp at h
 obtain⟨rfl,rfl⟩:=h;exact .inl ⟨rfl,cY (ρ:=ρ) E⟩;simp at h
theorem Qn{S:dr}{B:b8}{g:Kd}{t:Bool}{x:TV}{y:a6 g}{o:gi}{v:Value}(k:dJ w0 n S B ρ a w')(h:E2 t B (.box g) x=some (y,o))(u:∀p∈o,p)(A:x.rel ρ v):
  ∃i cs b m l,B i=some cs/\cs≠[]/\ρ i=some b/\(∀l,ρ.M b≠some l)/\v=.pointer (some ⟨b,0,none⟩)/\cN w' b m l/\Rd ρ.M g y l:=by
 simp[E2]at h;split at h;rename_i id;split at h;rename_i d E e;split at h;rename_i z q w;obtain⟨rfl,rfl⟩:=h;obtain⟨b,f,ev⟩:=A;obtain⟨l,c,r⟩:=k.bQ _ _ e az b f;obtain⟨F,G,j,C,D⟩:=lT (rk ρ) _ _ _ _ _ _ w u r;subst D;rw[bF]at j;subst j;exact⟨id,_,b,_,l,e,az,f,λl s=>(k.mem b l s).1 _ _ e az f,by simpa using ev,c,C⟩;simp at h;simp at h;simp at h
theorem YU{M:Mem}(D:dJ w0 n σ.S σ.B ρ a w')(G:w0.ids=[])(L:w0.M=M){V:Bool}:
  ∀{f:List dH}{r:List TV}{z:HO f}{t:gi}{u:bn},fx f<=1->(V=false->fx f=0)->kD V σ.B f r=some (z,t)->(∀p∈t,p)->gh ρ r u->∃k,(∀b,k=some b->∀l,ρ.M b≠some l)/\jB w0.w.heap.size M k w' f z u:=by
 intro f r z t u I U h K H;cases V with
 |false=>exact⟨none,(λb h=>(nomatch h)),E3 (ab0 D G L) rfl (U rfl) h K H⟩
 |true=>
  -- x0 x2 block
  have main:∀{f:List dH}{r:List TV}{z:HO f}{t:gi}{u:bn},fx f<=1->kD true σ.B f r=some (z,t)->(∀p∈t,p)->gh ρ r u ->
    ∃k,(∀b,k=some b->∀l,ρ.M b≠some l)/\(∀d,(∀b,d=some b->∀l,ρ.M b≠some l)->(k=none\/d=k)->jB w0.w.heap.size M d w' f z u):=by
   intro f;induction f with
   |nil=>intro r z t u _ h _ H;cases r with
    |nil=>exact⟨none,(λb h=>(nomatch h)),λ_ _ _=>H⟩
    |cons _ _=>simp[kD]at h
   |cons o f ih=>intro r z t u I h K H;cases r with
    |nil=>simp[kD]at h
    |cons x r=>
     simp[kD]at h;split at h
     ·rename_i y p X;split at h
      ·rename_i zs qs Y;obtain⟨rfl,rfl⟩:=h;obtain⟨v,s,e,Z,k2⟩:=H;have A:=λq W=>K q (jN _ W);have C:=λq W=>K q (kH _ W);have E:∀d,(∀b,d=some b->∀l,ρ.M b≠some l)->Sees tg ρ (eC w0.w.heap.size M d w'):=λd c=>⟨CG D G L c,λ_ _ _ h=>by simp[tg]at h⟩;cases o with
       |val κ=>obtain⟨k,g1,g2⟩:=ih I Y C k2;refine⟨k,g1,λd c hor=>⟨v,s,e,?_,g2 d c hor⟩⟩;exact yT (E d c) X A Z
       |own e0=>
        have F:=by simp[fx]at I;omega
        have g:=λd c=>E3 (E d c) rfl F Y C k2;rcases ab2 D X A Z with ⟨g1,g2⟩|⟨b,o,N,nn,l,g1,g2,O,g4,g5,g6,Q,R⟩;exact⟨none,(λb h=>(nomatch h)),λd c _=>⟨v,s,e,.inl ⟨g1,g2⟩,g d c⟩⟩
        ·have T:w0.w.heap.size<=b:=by
          rcases g2 with h|h;exact h;simp[dn.own,G]at h
         refine⟨some b,λb' j=>by simp at j;subst j;exact g1,λd c hor=>⟨v,s,e,?_,g d c⟩⟩;rcases hor with hor|hor;cases hor;refine .inr ⟨b,o,N,nn,l,hor,T,O,g4,g5,g6,Q,fe (λ_ _=>dT (CG D G L c)) R⟩
       |box κ=>
        have F:=by simp[fx]at I;omega
        have g:=λd c=>E3 (E d c) rfl F Y C k2;obtain⟨i,cs,b,m,l,hB,x1,hb,g1,O,Q,R⟩:=Qn D X A Z;have T:w0.w.heap.size<=b:=by rcases (D.bound _ _ hb).1 with h|h;exact h;simp[dn.own,G]at h
        refine⟨some b,λb' j=>by simp at j;subst j;exact g1,λd c hor=>⟨v,s,e,?_,g d c⟩⟩;rcases hor with hor|hor;cases hor;exact⟨b,m,l,hor,T,O,Q,dT (CG D G L c) R⟩
      simp at h
     simp at h
  obtain⟨k,g1,g2⟩:=main I h K H;exact⟨k,g1,g2 k g1 (.inr rfl)⟩
theorem HF{M:Mem}{b:List dH}{i:HO b}{g:SV}{v:Value}(p:dJ w0 n σ.S σ.B ρ a w')(m:w0.ids=[])(k:w0.M=M)(j:fx b<=1)(h:post b i g σ)(r:g.rel ρ v):
  ∃c f,v=oL c/\jB w0.w.heap.size M f w' b i c:=by
 unfold post at h;split at h;·rename_i u t l s;obtain⟨d,rfl⟩:=xX h;obtain⟨c,q,e⟩:=Zt r l;obtain⟨f,_,o⟩:=YU p m k j (λh=>by unfold nt at h;split at h<;>simp_all) s d q;exact⟨c,f,e,o⟩
 exact h.elim
end
section
variable {P:Program}
theorem H4{G:hU}{w:World}{M:Mem}(f:Mem.le M (cR w))(e:tC G M):Start ⟨w,[],G,M,λp=>eB w p.2,0⟩ [] 0 (aI.start M):=
 ⟨λid cs h=>by trivial,λid g cs d b h=>by trivial,λ_ _ h=>by trivial,λ_ h=>by simp at h,λ_ _ h=>by trivial,
  λb l c=>⟨λi cs h=>by trivial,jA (f b l c)⟩,λb l c _=>.inr c,e,λ_ h=>by simp at h,Mem.le_refl _⟩
theorem bH{sp:FuncId->Option Spec}(i:aS P sp)(r:P.follows .mixedOrders=true){f:FuncId}{fn:Func}(j:aF P f fn){b:List Kd}{c:List dH}{G:hU}{pre:HL b->Prop}{F:HL b->HO c}(s:b.length<=fn.ntmps) (l:fx c<=1)(h:∀(w:World)(M:Mem)(d:HL b),J2 b d->pre d->Wl ⟨P,sp,⟨w,[],G,M,λp=>eB w p.2,0⟩⟩ fn (oq b d) [] 0 (post c (F d))):bu P f b c G pre F:=by
 intro w M us d q o g u;refine .inl ⟨j.2 _ _,?_⟩;refine(aaS i r j.1 (H4 q o) (tK g) (by rw[xl];exact s) (h w M d (zN g) u)).mono ?_;rintro e w' ⟨v,A,σ,ρ,n,a,rfl,y,x,k⟩;obtain⟨vs,z,e,t⟩:=HF k rfl rfl l x y;exact⟨v,rfl,vs,z,e,t,k.below.below rfl⟩
theorem cu{sp:FuncId->Option Spec}{f:FuncId}{fn:Func}(j:aF P f fn){b:List Kd}{d:List dH}{G:hU}{pre:HL b->Prop}{F:HL b->HO d}(q:b.length<=fn.ntmps) (l:fx d<=1) (g:fn.body.isSome=true)(h:∀(w:World)(M:Mem)(xs:HL b),J2 b xs->pre xs->Du ⟨P,sp,⟨w,[],G,M,λp=>eB w p.2,0⟩⟩ fn (oq b xs) [] 0 (post d (F xs))):bu P f b d G pre F:=by
 intro w M C xs o m i s;refine .inl ⟨j.2 _ _,?_⟩;refine(Eo j.1 g (H4 o m) (tK i) (by rw[xl];exact q) (h w M xs (zN i) s)).mono ?_;rintro e w' ⟨v,A,σ,ρ,n,a,rfl,x,u,k⟩;obtain⟨z,y,e,r⟩:=HF k rfl rfl l u x;exact⟨v,rfl,z,y,e,r,k.below.below rfl⟩
end
def bw:List (Nat×Spec)->FuncId->Option Spec
 |[],_=>none
 |(g,F)::l,f=>match beq g f with
  |true=>some F
  |false=>bw l f
theorem bY{P:Program}:aS P (bw []):=by intro f F h;simp[bw]at h
theorem aV{P:Program}{g:Nat}{F:Spec}{l:List (Nat×Spec)}(h:pY P g F)(d:aS P (bw l)):aS P (bw ((g,F)::l)):=by
 intro f G b;simp[bw]at b;split at b;·simp_all
 exact d f G b
theorem X8{K g:Prop}:∀{l m:dq},kQ l m K->(K->g)->K/\kQ l m g:=by
 intro l;induction l with
 |nil=>intro m h a;cases m with
  |nil=>exact⟨h,a h⟩
  |cons y m=>simp[kQ]at h
 |cons x l f=>intro m h a;cases m with
  |nil=>simp[kQ]at h
  |cons y m=>
   cases y with
   |junk=>exact f (m:=m) h a
   |is t=>obtain⟨b,c⟩:=h;obtain⟨d,e⟩:=f c a;exact⟨d,b,e⟩
   |tup t=>obtain⟨b,c⟩:=h;obtain⟨d,e⟩:=f c a;exact⟨d,b,e⟩
   |undef=>obtain⟨b,c⟩:=h;obtain⟨d,e⟩:=f c a;exact⟨d,b,e⟩
theorem abm{B:b8}{K b:Prop}:∀{l:e5},tU B l K->(K->b)->tU B l b:=by
 intro l;induction l with
 |nil=>intro h a;exact a h
 |cons p l c=>intro h a;obtain⟨i,cs⟩:=p;simp only[tU]at h⊢;split at h;exact⟨h.1,c h.2 a⟩;exact h.elim
theorem EF{W:dn}{a b:St}{K K':Prop}(h:a.le W b K)(e:K->K'):K/\a.le W b K':=by unfold St.le at h⊢;unfold IU at h⊢;split at h;have c:=(yq h).1;have d:=(AH c).1;exact⟨d,(X8 h (λg=>abm g e)).2⟩;exact h.elim
section
variable {E:Env}{N:Nat}{n r:St->Prop}{x:Nat->St->Prop}
theorem il(f:aS E.P E.sp)(y:E.P.follows .mixedOrders=true){α:Type}{l:cw}{c:Code}{o:St}(I:α->St)(G:Nat->α)(m:Nat)(d:α->α)(out:α->St)(w:l.head?=some c) (u:ef c=true) (p:o.le E.w0 (I (G 0)) True) (z:∀k,k<m->d (G k)=G (k+1))(t:∀k,k<=m->VC E (aO c) (I (G k)) (λa=>a.le E.w0 (I (d (G k))) (k<m)) r (λi a=>match beq i (cH c)with|true=>a.le E.w0 (out (G k)) (k=m)|false=>x i a))(s:Tr E N l.tail (out (G m)) n r x):Tr E N l o n r x:=by
 refine LA (α:=Nat) (λk=>I (G k)) (λk=>k<=m) (λk=>m-k) (λk=>out (G k)) (λk=>k=m) 0 w u (EF p (λ_=>aY _)).2 (λk e=>?_) (λk e=>by subst e;exact s);refine BS (cq f y _ _ (t k e)) (λa b=>?_) (λi a b=>?_);obtain⟨q,g⟩:=EF b (K':=k+1<=m/\m-(k+1)<m-k) (λh=>⟨h,aa⟩);rw[z k q]at g;exact⟨k+1,g⟩
 ·cases j:beq i (cH c)with
  |true=>rw[j]at b;exact⟨k,b⟩
  |false=>rw[j]at b;exact b
theorem l5{b:St}(h:n b):Tr E N [] b n r x:=λa w _ d e _ _=>e b a w d h
theorem Ao{α:Type}{l:cw}{c:Code}{j:St}(I:α->St)(G:Nat->α)(m:Nat)(d:α->α)(out:α->St)(u:l.head?=some c) (t:ef c=true) (o:j.le E.w0 (I (G 0)) True) (w:∀k,k<m->d (G k)=G (k+1))(s:∀k,k<=m->Tr E N (aO c) (I (G k)) (λa=>a.le E.w0 (I (d (G k))) (k<m)) r (λi a=>match beq i (cH c)with|true=>a.le E.w0 (out (G k)) (k=m)|false=>x i a))(q:Tr E N l.tail (out (G m)) n r x):Tr E N l j n r x:=by
 refine LA (α:=Nat) (λk=>I (G k)) (λk=>k<=m) (λk=>m-k) (λk=>out (G k)) (λk=>k=m) 0 u t (EF o (λ_=>aY _)).2 (λk e=>?_) (λk e=>by subst e;exact q);refine BS (s k e) (λa b=>?_) (λi a b=>?_);obtain⟨p,f⟩:=EF b (K':=k+1<=m/\m-(k+1)<m-k) (λh=>⟨h,aa⟩);rw[w k p]at f;exact⟨k+1,f⟩
 ·cases g:beq i (cH c)with
  |true=>rw[g]at b;exact⟨k,b⟩
  |false=>rw[g]at b;exact b
end
theorem cM{a b:Int}(h:decide (a<b)=true):a<b:=Odt h
theorem cL{a b:Int}(h:decide (a<b)=false):b<=a:=by have:=Odf h;omega
theorem bC{a:Int}(d : -9223372036854775808<=a)(f:a<9223372036854775808):IntKind.i64.wrap a=a:=by
 have e:IntKind.i64.wrap a=if(9223372036854775808:Int)<=a%18446744073709551616 then a%18446744073709551616-18446744073709551616 else a%18446744073709551616:=by simp[IntKind.wrap,IntKind.signed,IntKind.bits]
 rw[e];split<;>omega
theorem a5{k:Nat}(h:k<9223372036854775807):IntKind.i64.wrap ((k:Int)+1)=((k+1:Nat):Int):=by rw[bC aa aa];omega
def mw(a b i:Nat):Nat:=match beq i a with
 |true=>b
 |false=>match beq i b with
  |true=>a
  |false=>i
theorem Fc(a b i:Nat):mw a b i=if i=a then b else if i=b then a else i:=by
 unfold mw;cases c:beq i a with
 |true=>rw[ah (ca c)]
 |false=>
  have c:i≠a:=λe=>by subst e;simp at c
  rw[ai c];cases d:beq i b with
  |true=>rw[ah (ca d)]
  |false=>
   have d:i≠b:=λe=>by subst e;simp at d
   rw[ai d]
theorem tz(a b i:Nat):mw a b (mw a b i)=i:=by simp only[Fc];by_cases d:i=a;subst d;by_cases c:b=i<;>simp[c];by_cases c:i=b;subst c;simp[d];simp[d,c]
def ax.sw(a b:Nat):ax->ax
 |.ptr i e=>.ptr (mw a b i) e
 |.pe i d j c=>.pe (mw a b i) d j c
 |.sl i d e len c=>.sl (mw a b i) d e len c
 |.clo f l=>.clo f (l.map (mw a b))
 |c=>c
def TV.sw(a b:Nat):TV->TV
 |.one c=>.one (c.sw a b)
 |.agg cs=>.agg (cs.map (ax.sw a b))
def SV.sw(a b:Nat):SV->SV
 |.is x=>.is (x.sw a b)
 |.tup l=>.tup (l.map (TV.sw a b))
 |s=>s
def St.sw(c:St)(a b:Nat):St:=⟨c.aW.map (SV.sw a b),c.bQ.map (λp=>(mw a b p.1,p.2.map (ax.sw a b))),c.next⟩
def St.xk(a:St):List (Nat×Nat)->St
 |[]=>a
 |p::l=>(a.sw p.1 p.2).xk l
def aI.sw(c:aI)(a b:Nat):aI:=⟨λi=>c (mw a b i),λi=>c.n (mw a b i),c.M⟩
theorem aI.NA(c:aI)(a b i:Nat):(c.sw a b) (mw a b i)=c i:=by simp[aI.sw,tz]
theorem aI.apx(c:aI)(a b i:Nat):(c.sw a b).n (mw a b i)=c.n i:=by simp[aI.sw,tz]
theorem UC{d:aI}{a b:Nat}:∀{l:List Nat}{c:bn},kb d l c->kb (d.sw a b) (l.map (mw a b)) c:=by
 intro l;induction l with
 |nil=>intro c h;exact h
 |cons i l j=>intro c⟨x,k,e,f,g⟩;exact⟨x,k,by rw[aI.NA];exact e,j f,g⟩
theorem ax.wW{u:aI}{a b:Nat}{c:ax}{t:bn}(h:c.rel u t):(c.sw a b).rel (u.sw a b) t:=by
 cases c with
 |ptr i p=>obtain⟨x,d,g⟩:=h;exact⟨x,by rw[aI.NA];exact d,g⟩
 |pe i m j c=>obtain⟨x,d,g⟩:=h;exact⟨x,by rw[aI.NA];exact d,g⟩
 |sl i m p len c=>rcases h with h|⟨x,o,s,d,g,w,y,z⟩;exact .inl h;exact .inr ⟨x,o,s,by rw[aI.NA];exact d,g,w,by rw[aI.apx];exact y,z⟩
 |v x=>exact h
 |T=>exact h
 |F=>exact h
 |ints k n q=>exact h
 |row e n q=>exact h
 |ro e q=>exact h
 |rp e q i p=>exact h
 |fv e x=>exact h
 |clo f l=>obtain⟨A,d,g⟩:=h;exact⟨A,UC d,g⟩
 |rn e q=>exact h
 |junk=>exact h
theorem xV{f:aI}{a b:Nat}{cs:cb}:∀{d:bn},aH f cs d->aH (f.sw a b) (cs.map (ax.sw a b)) d:=by
 induction cs with
 |nil=>intro d h;exact h
 |cons c cs j=>intro d⟨k,l,e,g,i⟩;exact⟨k,l,e,ax.wW g,j i⟩
theorem TV.wW{d:aI}{a b:Nat}{x:TV}{v:Value}(h:x.rel d v):(x.sw a b).rel (d.sw a b) v:=by
 cases x with
 |one c=>exact ax.wW h
 |agg cs=>obtain⟨l,e,f⟩:=h;exact⟨l,e,xV f⟩
theorem Wi{d:aI}{a b:Nat}{l:List TV}:∀{c:bn},gh d l c->gh (d.sw a b) (l.map (TV.sw a b)) c:=by
 induction l with
 |nil=>intro c h;exact h
 |cons t k i=>intro c⟨y,j,e,f,g⟩;exact⟨y,j,e,TV.wW f,i g⟩
theorem SV.wW{c:aI}{a b:Nat}{x:SV}{v:Value}(h:x.rel c v):(x.sw a b).rel (c.sw a b) v:=by
 cases x with
 |is x=>exact TV.wW h
 |tup l=>obtain⟨f,e,d⟩:=h;exact⟨f,e,Wi d⟩
 |undef=>exact h
 |junk=>trivial
theorem Ph(a b:Nat):∀(l:e5)(i:Nat),eA (l.map (λp=>(mw a b p.1,p.2.map (ax.sw a b)))) i=(eA l (mw a b i)).map (List.map (ax.sw a b)):=by
 intro l;induction l with
 |nil=>intro i;rfl
 |cons p l c=>
  intro i;obtain⟨j,cs⟩:=p;simp only[eV,eA];have e:beq (mw a b j) i=beq j (mw a b i):=by rw[pv];constructor;intro h;have:=ca h;rw[<-this,tz];exact lh _;intro h;have:=ca h;rw[this,tz];exact lh _
  rw[e];cases beq j (mw a b i)with
  |true=>rfl
  |false=>exact c i
def QI(W:dn)(c a b:Nat):Bool:=blt a c&&blt b c&&(ble W.top a&&ble W.top b)
theorem Holds.sw{W:dn}{n:Nat}{d:St}{H:Act}{w:World}{a b:Nat}(h:Holds W n d H w)(s:QI W d.next a b=true):Holds W n (d.sw a b) H w:=by
 obtain⟨U,G,c,T⟩:=h;simp only[QI,bD]at s;obtain⟨⟨I,K⟩,m⟩:=s;have I:=hX I;have K:=hX K;have u:∀i cs,(d.sw a b).B i=some cs->∃f,d.B (mw a b i)=some f/\cs=f.map (ax.sw a b):=by intro i cs h;have:eA (d.bQ.map (λp=>(mw a b p.1,p.2.map (ax.sw a b)))) i=some cs:=h;rw[Ph]at this;obtain⟨f,g,k⟩:=Option.map_eq_some_iff.1 this;exact⟨f,g,k.symm⟩
 refine⟨by simpa[St.sw]using U,G.sw a b,⟨c.defers,c.size,?_,c.below,?_,?_,?_,?_,?_,c.bJ,c.glob,c.tops,c.memle⟩,?_⟩
 ·intro t;have:=SV.wW (a:=a) (b:=b) (c.aW t);have e:(d.sw a b).S t=(d.S t).sw a b:=by
   show(d.aW.map (SV.sw a b)).getD t .junk=(d.aW.getD t .junk).sw a b;rw[bx,bx,dM];cases d.aW[t]? <;> rfl
  rw[e];exact this
 intro i cs A o x q;obtain⟨f,g,k⟩:=u i cs A;subst k;obtain⟨l,g1,g2⟩:=c.bQ _ f g (by intro e;subst e;exact o rfl) x q;exact⟨l,g1,xV g2⟩
 ·intro i j cs y x g k O P Q R;obtain⟨f,D,F⟩:=u i cs g;obtain⟨z,V,X⟩:=u j y O;have:=c.inj _ _ f z x D (by intro e;subst e;subst F;exact k rfl) V (by intro e;subst e;subst X;exact P rfl) Q R;have:=congrArg (mw a b) this
  rwa [tz,tz]at this
 intro i x q;exact c.bound _ x q
 ·intro p L;have Y:=c.tops p L;have g:p.1≠a:=λe=>by have:=fR m.1;omega
  have k:p.1≠b:=λe=>by have:=fR m.2;omega
  have:mw a b p.1=p.1:=by rw[Fc,ai g,ai k]
  show G (mw a b p.1)=_/\G.n (mw a b p.1)=_;rw[this];exact c.init p L
 intro x l q;obtain⟨g,k⟩:=c.mem x l q;refine⟨λi cs A o C=>?_,k⟩;obtain⟨f,D,F⟩:=u i cs A;exact g _ f D (by intro e;subst e;subst F;exact o rfl) C;intro i x q;have:=T _ x q;show i<d.next;rw[Fc]at this;split at this;omega;split at this<;>omega
def F6(W:dn)(a:Nat):List (Nat×Nat)->Bool
 |[]=>true
 |p::l=>QI W a p.1 p.2&&F6 W a l
theorem Holds.xk{W:dn}{n:Nat}{c:Act}{w:World}:∀{l:List (Nat×Nat)}{b:St},Holds W n b c w->F6 W b.next l=true->Holds W n (b.xk l) c w:=by
 intro l;induction l with
 |nil=>intro b h _;exact h
 |cons p l d=>intro b h a;simp only[F6,bD]at a;exact d (h.sw a.1) a.2
def St.uH(a:St)(W:dn)(sw:List (Nat×Nat))(b:St)(K:Prop):Prop:=IU (F6 W a.next sw) ((a.xk sw).le W b K)
theorem Pa{b c:St}{K:Prop}{W:dn}{sw:List (Nat×Nat)}{n:Nat}{a:Act}{w:World}(h:b.uH W sw c K)(f:Holds W n b a w):K/\Holds W n c a w:=by unfold St.uH at h;obtain⟨d,e⟩:=ss h;exact na e (f.xk d)
theorem adY{W:dn}{a b:St}{sw:List (Nat×Nat)}{K K':Prop}(h:a.uH W sw b K)(g:K->K'):K/\a.uH W sw b K':=by unfold St.uH at h⊢;obtain⟨c,d⟩:=ss h;obtain⟨e,f⟩:=EF d g;rw[c];exact⟨e,f⟩
section
variable {E:Env}{N:Nat}{n r:St->Prop}{x:Nat->St->Prop}
theorem QU{α:Type}{l:cw}{c:Code}{R:St}(sw:List (Nat×Nat))(I:α->St)(J:α->Prop)(q:α->Nat)(out:α->St)(H:α->Prop)(s:α)(D:l.head?=some c) (y:ef c=true) (T:R.le E.w0 (I s) (J s))(u:∀g,J g->Tr E N (aO c) (I g) (λf=>∃j,f.uH E.w0 sw (I j) (J j/\q j<q g)) r (λi f=>match beq i (cH c)with|true=>∃j,f.le E.w0 (out j) (H j)|false=>x i f))(X:∀g,H g->Tr E N l.tail (out g) n r x):Tr E N l R n r x:=by
 intro a w Q hh hn K L;cases l with
 |nil=>simp at D
 |cons d l=>
  simp at D;subst D;unfold ef at y;split at y
  ·rename_i id b;obtain⟨C,z⟩:=na T hh;refine wp_block ?_;refine wp_loop_ghost (λm a w=>∃g,q g=m/\J g/\Holds E.w0 N (I g) a w) (q s) ⟨s,rfl,C,z⟩ ?_;rintro m a w ⟨g,rfl,hj,Z⟩;have G:=u g hj a w (Exit.then (λo p=>∃O,O<q g/\∃g,q g=O/\J g/\Holds E.w0 N (I g) o p) (Exit.inBlock id (Exit.then (ng E.P l Q) Q))) Z ?_ ?_ ?_;have:=lM b [] _ a w (by simpa[aO]using G);refine wp_mono this ?_;intro e o p Y;cases e<;>exact Y;rintro f o p h ⟨j,k⟩;obtain⟨⟨U,V⟩,W⟩:=Pa k h;exact⟨q j,V,j,rfl,U,W⟩;intro f o p h k;exact K f o p h k
   ·intro i f o p h k;show Exit.inBlock id (Exit.then (ng E.P l Q) Q) (.exit i) o p;simp only[Exit.inBlock];by_cases A:i=id;subst A;rw[ah rfl];simp only[cH,lh]at k;obtain⟨j,k⟩:=k;obtain⟨t,F⟩:=na k h;exact X j t o p Q F hn K L
    ·rw[ai A];have:beq i id=false:=by
      cases u:beq i id with
      |false=>rfl
      |true=>exact absurd (ca u) A
     simp only[cH,this]at k;exact L i f o p h k
  cases y
theorem Wd{α:Type}{l:cw}{c:Code}{j:St}(sw:List (Nat×Nat))(I:α->St)(G:Nat->α)(m:Nat)(d:α->α)(out:α->St)(u:l.head?=some c) (t:ef c=true) (o:j.le E.w0 (I (G 0)) True) (w:∀k,k<m->d (G k)=G (k+1))(s:∀k,k<=m->Tr E N (aO c) (I (G k)) (λa=>a.uH E.w0 sw (I (d (G k))) (k<m)) r (λi a=>match beq i (cH c)with|true=>a.le E.w0 (out (G k)) (k=m)|false=>x i a))(q:Tr E N l.tail (out (G m)) n r x):Tr E N l j n r x:=by
 refine QU (α:=Nat) sw (λk=>I (G k)) (λk=>k<=m) (λk=>m-k) (λk=>out (G k)) (λk=>k=m) 0 u t (EF o (λ_=>aY _)).2 (λk e=>?_) (λk e=>by subst e;exact q);refine BS (s k e) (λa b=>?_) (λi a b=>?_);obtain⟨p,f⟩:=adY b (K':=k+1<=m/\m-(k+1)<m-k) (λh=>⟨h,aa⟩);rw[w k p]at f;exact⟨k+1,f⟩
 ·cases g:beq i (cH c)with
  |true=>rw[g]at b;exact⟨k,b⟩
  |false=>rw[g]at b;exact b
theorem ZD(e:aS E.P E.sp)(s:E.P.follows .mixedOrders=true){d:Type}{l:cw}{c:Code}{f:St}(sw:List (Nat×Nat))(I:d->St)(G:Nat->d)(m:Nat)(b:d->d)(out:d->St)(q:l.head?=some c) (o:ef c=true) (g:f.le E.w0 (I (G 0)) True) (t:∀k,k<m->b (G k)=G (k+1))(j:∀k,k<=m->VC E (aO c) (I (G k)) (λa=>a.uH E.w0 sw (I (b (G k))) (k<m)) r (λi a=>match beq i (cH c)with|true=>a.le E.w0 (out (G k)) (k=m)|false=>x i a))(h:Tr E N l.tail (out (G m)) n r x):Tr E N l f n r x:=
 Wd sw I G m b out q o g t (λk p=>cq e s _ _ (j k p)) h
theorem Wc{α:Type}{l:cw}{c:Code}{p:St}(sw:List (Nat×Nat))(I:α->St)(G:Nat->α)(J:Nat->Prop)(m:Nat)(f:α->α)(out:α->St)(z:l.head?=some c) (w:ef c=true) (q:p.le E.w0 (I (G 0)) True) (s:J 0) (A:∀k,k<m->J k->J (k+1)->f (G k)=G (k+1))(u:∀k,k<=m->J k->Tr E N (aO c) (I (G k)) (λa=>a.uH E.w0 sw (I (f (G k))) (k<m/\J (k+1))) r (λi a=>match beq i (cH c)with|true=>a.le E.w0 (out (G k)) (k=m)|false=>x i a))(t:J m->Tr E N l.tail (out (G m)) n r x):Tr E N l p n r x:=by
 refine QU (α:=Nat) sw (λk=>I (G k)) (λk=>k<=m/\J k) (λk=>m-k) (λk=>out (G k)) (λk=>k=m/\J k) 0 z w (EF q (λ_=>⟨aY _,s⟩)).2 (λk d=>?_) (λk d=>by obtain⟨rfl,y⟩:=d;exact t y);refine BS (u k d.1 d.2) (λa b=>?_) (λi a b=>?_);obtain⟨g,j⟩:=adY b (K':=(k+1<=m/\J (k+1))/\m-(k+1)<m-k) (λh=>⟨h,aa⟩);rw[A k g.1 d.2 g.2]at j;exact⟨k+1,j⟩
 ·cases o:beq i (cH c)with
  |true=>rw[o]at b;exact⟨k,(EF b (λe=>⟨e,d.2⟩)).2⟩
  |false=>rw[o]at b;exact b
theorem M4(e:aS E.P E.sp)(u:E.P.follows .mixedOrders=true){d:Type}{l:cw}{c:Code}{f:St}(sw:List (Nat×Nat))(I:d->St)(G:Nat->d)(J:Nat->Prop)(m:Nat)(b:d->d)(out:d->St)(t:l.head?=some c) (p:ef c=true) (g:f.le E.w0 (I (G 0)) True) (h:J 0) (w:∀k,k<m->J k->J (k+1)->b (G k)=G (k+1))(o:∀k,k<=m->J k->VC E (aO c) (I (G k)) (λa=>a.uH E.w0 sw (I (b (G k))) (k<m/\J (k+1))) r (λi a=>match beq i (cH c)with|true=>a.le E.w0 (out (G k)) (k=m)|false=>x i a))(j:J m->Tr E N l.tail (out (G m)) n r x):Tr E N l f n r x:=
 Wc sw I G J m b out t p g h w (λk s q=>cq e u _ _ (o k s q)) j
end
def gA{a:Type}(x:a):a:=Classical.choose (⟨x,rfl⟩:∃y,y=x)
theorem bq{d:Type}(x:d):gA x=x:=Classical.choose_spec (⟨x,rfl⟩:∃y,y=x)
theorem bu.out{P:Program}{f:FuncId}{b:List Kd}{a:List dH}{G:hU}{pre:HL b->Prop}{A B:HL b->HO a}(h:bu P f b a G pre A)(e:∀x,B x=A x):bu P f b a G pre B:=by have:B=A:=funext e;rw[this];exact h
theorem bu.ou{P:Program}{f:FuncId}{b:List Kd}{a:List dH}{G:hU}{pre:HL b->Prop}{A:HL b->HO a}(h:bu P f b a G pre A)(B:HL b->HO a)(e:∀x,B x=A x):bu P f b a G pre B:=h.out e
def apf(a:Kd)(id:Nat)(b:St):Option (a6 a):=match b.B id with
 |some cs=>match iB tg a cs with
  |some (x,_,_)=>some x
  |none=>none
 |none=>none
def apl(a:Kd)(t:Nat)(b:St):Option (a6 a):=match b.S t with
 |.is x=>match iB tg a x.cells with
  |some (x,_,_)=>some x
  |none=>none
 |_=>none
def apk(a:Kd)(id:Nat)(d:St):Option (List (a6 a)):=match d.B id with
 |some [c]=>match mW c with
  |some ⟨e,_,b⟩=>match e.eq? a with
   |some ⟨h⟩=>some (qo h b)
   |none=>none
  |none=>none
 |none=>some []
 |_=>none
def api(id:Nat)(a:St):Option Nat:=match a.B id with
 |some [c]=>match mW c with
  |some ⟨_,n,_⟩=>some n
  |none=>none
 |_=>none
def aph(t:Nat)(a:St):Option Nat:=match a.S t with
 |.is (.one (.sl _ _ _ n _))=>some n
 |.is (.one (.v (.slice none 0 0)))=>some 0
 |_=>none
def apj(a:Kd)(t:Nat)(c:St):Option (List (a6 a)):=match c.S t with
 |.is (.one (.ro e b))=>match e.eq? a with
  |some ⟨h⟩=>some (qo h b)
  |none=>none
 |_=>none
def apg(t:Nat)(a:St):Option Bool:=match a.S t with
 |.is (.one (.v (.slice none 0 0)))=>some true
 |.is (.one (.sl _ _ _ _ _))=>some false
 |_=>none
def Qi(t:Nat)(a:St):Nat:=match a.S t with
 |.is (.one (.sl i _ _ _ _))=>i
 |.is (.one (.ptr i _))=>i
 |_=>0
def jH:St->List (Nat×Nat):=λ_=>[]
def MC{a:Type}(d:a):Option a->a
 |some x=>x
 |none=>d
def rS(b:Kd)(id:Nat)(d:St):a6 b:=MC (gn b) (apf b id d)
def bL(κ:Kd)(t:Nat)(d:St):a6 κ:=MC (gn κ) (apl κ t d)
def dO(d:Kd)(id:Nat)(e:St):List (a6 d):=MC [] (apk d id e)
def rdN(id:Nat)(a:St):Nat:=MC 0 (api id a)
def TH(t:Nat)(a:St):Bool:=MC false (apg t a)
def qy(t:Nat)(a:St):Nat:=MC 0 (aph t a)
def Jt(a:Kd)(t:Nat)(b:St):List (a6 a):=MC [] (apj a t b)
section
variable {E:Env}{N:Nat}{n r:St->Prop}{x:Nat->St->Prop}
theorem lL(e:aS E.P E.sp)(z:E.P.follows .mixedOrders=true){l:cw}{m:St}{h:Type}(k:Nat)(f:St->h)(o:h->St)(K:h->Prop)(s:VC E (l.take k) m (λb=>b.le E.w0 (o (f b)) (K (f b))) r x)(t:∀a,K a->Tr E N (l.drop k) (o a) n r x):Tr E N l m n r x:=by intro a w Q y A i j;rw[<-ff k l];refine B1 _ _ a w ?_;refine cq e z _ _ s a w _ y (λb p C d q=>?_) i j;obtain⟨u,g⟩:=na q d;exact t _ u p C Q g A i j
theorem rq{s K:Type}{l:cw}{c:Code}{V:St}(sw:St->List (Nat×Nat))(f:St->s)(I:s->St)(J:s->Prop)(q:s->Nat)(O:St->K)(out:K->St)(L:K->Prop)(t:s)(F:l.head?=some c) (z:ef c=true) (W:V.le E.w0 (I t) (J t))(y:∀g,J g->Tr E N (aO c) (I g) (λh=>h.uH E.w0 (sw h) (I (f (h.xk (sw h)))) (J (f (h.xk (sw h)))/\q (f (h.xk (sw h)))<q g)) r (λi h=>match beq i (cH c)with|true=>h.le E.w0 (out (O h)) (L (O h))|false=>x i h))(ha:∀g,L g->Tr E N l.tail (out g) n r x):Tr E N l V n r x:=by
 intro a w Q hh hn R T;cases l with
 |nil=>simp at F
 |cons d l=>
  simp at F;subst F;unfold ef at z;split at z
  ·rename_i id b;obtain⟨D,A⟩:=na W hh;refine wp_block ?_;refine wp_loop_ghost (λm a w=>∃g,q g=m/\J g/\Holds E.w0 N (I g) a w) (q t) ⟨t,rfl,D,A⟩ ?_;rintro m a w ⟨g,rfl,hj,hg⟩;have H:=y g hj a w (Exit.then (λk o=>∃U,U<q g/\∃g,q g=U/\J g/\Holds E.w0 N (I g) k o) (Exit.inBlock id (Exit.then (ng E.P l Q) Q))) hg ?_ ?_ ?_;have:=lM b [] _ a w (by simpa[aO]using H);refine wp_mono this ?_;intro e k o he;cases e<;>exact he;rintro h k o j p;obtain⟨⟨Y,Z⟩,h3⟩:=Pa p j;exact⟨_,Z,_,rfl,Y,h3⟩;intro h k o j p;exact R h k o j p
   ·intro i h k o j p;show Exit.inBlock id (Exit.then (ng E.P l Q) Q) (.exit i) k o;simp only[Exit.inBlock];by_cases C:i=id;subst C;rw[ah rfl];simp only[cH,lh]at p;obtain⟨u,G⟩:=na p j;exact ha _ u k o Q G hn R T
    ·rw[ai C];have:beq i id=false:=by
      cases y:beq i id with
      |false=>rfl
      |true=>exact absurd (ca y) C
     simp only[cH,this]at p;exact T i h k o j p
  cases z
theorem c2(k:aS E.P E.sp)(A:E.P.follows .mixedOrders=true){d m:Type}{l:cw}{c:Code}{p:St}(sw:St->List (Nat×Nat))(f:St->d)(I:d->St)(J:d->Prop)(o:d->Nat)(h:St->m)(out:m->St)(e:m->Prop)(j:d)(z:l.head?=some c) (w:ef c=true) (q:p.le E.w0 (I j) (J j))(u:∀g,J g->VC E (aO c) (I g) (λb=>b.uH E.w0 (sw b) (I (f (b.xk (sw b)))) (J (f (b.xk (sw b)))/\o (f (b.xk (sw b)))<o g)) r (λi b=>match beq i (cH c)with|true=>b.le E.w0 (out (h b)) (e (h b))|false=>x i b))(s:∀g,e g->Tr E N l.tail (out g) n r x):Tr E N l p n r x:=
 rq sw f I J o h out e j z w q (λg y=>cq k A _ _ (u g y)) s
end
inductive Hd where
 |ptr
 |sl (n c:Nat)
def Hd.cell(i:Nat):Hd->ax
 |.ptr=>.ptr i 0
 |.sl n c=>.sl i 0 0 n c
def Hd.val(b N:Nat):Hd->Value->Prop
 |.ptr,u=>u=.pointer (some ⟨b,0,none⟩)
 |.sl n c,u=>∃d,n<=d/\d*c<=N/\u=.slice (some ⟨b,0,none⟩) n d
def Nj(P:Program)(f:FuncId)(m:Hd)(e:Kd)(c:List Kd)(d:List dH)(G:hU)(pre:a6 e×HL c->Prop)(F:a6 e×HL c->a6 e×HO d):Prop:=
 ∀(w:World)(M:Mem)(j:bn)(g:HL c)(b n:Nat)(l:bn)(x:a6 e)(u:Value),Mem.le M (cR w)->M b=none->tC G M->wG M c g j->cN w b n l->Rd M e x l->pre (x,g)->m.val b n u ->
  pW P f ⟨u::j⟩ w λv w'=>∃k i h,v=oL k/\jB w.heap.size M i w' d (F (x,g)).2 k/\cN w' b n h/\Rd (eC w.heap.size M i w') e (F (x,g)).1 h/\mV ⟨w,[(0,b)],G,M,λp=>eB w p.2,1⟩ w'
abbrev Ft(P:Program)(f:FuncId)(e:Kd)(d:List Kd)(b:List dH)(G:hU)(pre:a6 e×HL d->Prop)(F:a6 e×HL d->a6 e×HO b):Prop:=Nj P f .ptr e d b G pre F
def Ib(P:Program)(f:FuncId)(e:Kd)(d:List Kd)(b:List dH)(G:hU)(pre:List (a6 e)×HL d->Prop)(F:List (a6 e)×HL d->List (a6 e)×HO b):Prop:=
 ∀n,0<n->Nj P f (.sl n (aC e)) (.arr n e) d b G pre F
def GG(i:Nat)(l:List Nat):List Nat:=l.filter λj=> !beq j i
def oz(B:b8)(c:Kd)(b:List dH)(ids:List Nat):e5:=
 match gS c with
 |true=>rB B b ids
 |false=>(ids.filter (isLive B)).map λi=>(i,[])
def KF(g:Kd)(e:List Kd)(b:List dH)(pre:a6 g×HL e->Prop)(F:a6 g×HL e->a6 g×HO b):Spec:=λ_ id args B=>
 match args with
 |.is (.one (.ptr f 0))::c=>match B f,dQ f (jb B c)with
  |some (d::i),false=>match iB (nE (GG f (jb B args)) B) g (d::i),xm (nE (GG f (jb B args)) B) e c with
   |some (x,j,[]),some (h,k)=>some {val:=AQ (kF id b (F (x,h)).2),new:=wN id b (F (x,h)).2,wr:=(f,cellsOf g (F (x,h)).1)::oz B g b (GG f (jb B args)),pre:=j++(k++[pre (x,h)])}
   |_,_=>none
  |_,_=>none
 |_=>none
def Bb(e:Kd)(f:List Kd)(b:List dH)(pre:List (a6 e)×HL f->Prop)(F:List (a6 e)×HL f->List (a6 e)×HO b):Spec:=λ_ id args B=>
 match args with
 |.is (.one (.sl g 0 0 n c))::d=>match B g,dQ g (jb B d),beq c (aC e)with
  |some [k],false,true=>match mW k with
   |some ⟨l,m,i⟩=>match l.eq? e,xm (nE (GG g (jb B args)) B) f d with
    |some ⟨h⟩,some (j,o)=>some {val:=AQ (kF id b (F (qo h i,j)).2),new:=wN id b (F (qo h i,j)).2,wr:=(g,[mc e n (F (qo h i,j)).1])::oz B (.arr n e) b (GG g (jb B args)),pre:=[m=n,0<n]++(o++[pre (qo h i,j)])}
    |_,_=>none
   |none=>none
  |_,_,_=>none
 |_=>none
def yf(G:hU)(d:Kd)(c:List Kd)(b:List dH)(pre:a6 d×HL c->Prop)(F:a6 d×HL c->a6 d×HO b):Spec:=λW id args B=>
 match KF d c b pre F W id args B with
 |some o=>some {o with pre:=(∀g s,G g=some s->W.gl g=some s)::o.pre}
 |none=>none
theorem Lk{i j:Nat}{l:List Nat}(h:j∈GG i l):j∈l/\j≠i:=by obtain⟨b,c⟩:=List.mem_filter.1 h;refine⟨b,λe=>?_⟩;subst e;simp at c
theorem tT{B:b8}{f:Kd}{b:List dH}{ids:List Nat}{p:Nat×cb}(h:p∈oz B f b ids):p.2=[]/\p.1∈ids/\∃cs,B p.1=some cs/\cs≠[]:=by
 unfold oz at h;split at h;exact zP h
 ·obtain⟨i,e,rfl⟩:=mem_map.1 h;obtain⟨d,c⟩:=List.mem_filter.1 e;refine⟨rfl,d,?_⟩;unfold isLive at c;split at c;·simp_all
  cases c
theorem Vj{B:b8}{d:Kd}{b:List dH}{ids:List Nat}(g:(gS d&&gC b)=false){i:Nat}(h:i∈ids){cs:cb}(e:B i=some cs)(f:cs≠[]):(i,[])∈oz B d b ids:=by
 have j:isLive B i=true:=by
  unfold isLive;rw[e];cases cs with
  |nil=>trivial
  |cons c cs=>rfl
 unfold oz;split;·unfold rB;simp_all
 simp_all
section
variable {P:Program}
theorem adq{f:FuncId}{hd:Hd}{z:Kd}{Y:List Kd}{k:List dH}{G:hU}{pre:a6 z×HL Y->Prop}{F:a6 z×HL Y->a6 z×HO k}(h:Nj P f hd z Y k G pre F)(h1:fx k<=1){w0:dn}{id D b0:Nat}{s0:SV}{y:dq}{B:b8}{ρ:aI}{u0:Value}{y2:bn}{w:World}{d:ax}{ds:cb}{x:a6 z}{E:HL Y}{qs pp:gi}(x0:B D=some (d::ds)) (v3:∀C l0,Sees (nE (GG D (jb B (s0::y))) B) ρ C->aH ρ (d::ds) l0->Rd C z x l0) (v6:xm (nE (GG D (jb B (s0::y))) B) Y y=some (E,qs)) (v2:∀p∈qs,p) (z0:pre (x,E)) (hG:∀g s,G g=some s->w0.gl g=some s) (O:ρ D=some b0) (v4:hd.val b0 (ρ.n D) u0) (z4:bW ρ y y2) (R:Ctx w0 id ρ B w):
  pW P f ⟨u0::y2⟩ w λv w'=>∃o,(AQ (kF id k (F (x,E)).2)).rel o v/\Eff id B {val:=AQ (kF id k (F (x,E)).2),new:=wN id k (F (x,E)).2,wr:=(D,cellsOf z (F (x,E)).1)::oz B z k (GG D (jb B (s0::y))),pre:=pp} ρ o w w':=by
 classical
 -- z9 v7 u2 w2 w3
 let ids:=GG D (jb B (s0::y));let own:Nat->Prop:=λb=>∃i cs,i∈ids/\B i=some cs/\cs≠[]/\ρ i=some b;let C:Mem:=λb=>if own b then cR w b else ρ.M b;have x6:∀b,own b->b≠b0:=by rintro b ⟨i,cs,A,x1,L,j⟩ rfl;exact(Lk A).2 (R.inj i D cs (d::ds) b x1 L x0 az j O)
 have y4:C b0=none:=by
  simp[C];rw[ai (λho=>x6 _ ho rfl)];cases hq:ρ.M b0 with
  |none=>rfl
  |some l=>exact absurd O (R.apart b0 l hq D (d::ds) x0 az)
 have y3:∀b l,C b=some l->cR w b=some l:=by intro b l j;simp[C]at j;split at j;exact j;obtain⟨el,fr,hh⟩:=R.mem b l j;exact lQ hh
 have X:Mem.le ρ.M C:=by intro b l j;simp[C];split;obtain⟨el,fr,hh⟩:=R.mem b l j;exact lQ hh;exact j
 have W:Sees (nE ids B) ρ C:=by
  refine⟨X,λi cs b A L j=>?_⟩;have y9:i∈ids:=by unfold nE at A;split at A;rename_i hm;exact yt hm;cases A
  have x1:=pR A;obtain⟨l,⟨z8,el,fr,k1,k2,_⟩,k3⟩:=R.bQ i cs x1 L b j;refine⟨l,z8,k3,λhn=>?_,k2⟩;simp[C];rw[ah ⟨i,cs,y9,x1,L,j⟩];exact mu k1 hn
 have y6:=LO W v6 v2 z4;obtain⟨l0,Q,y5⟩:=R.bQ D (d::ds) x0 az b0 O;have z2:Rd C z x l0:=v3 C l0 W y5;have u5:tC G C:=λg e x hg=>l7 X (R.glob g e x (hG g _ hg));refine(h w C y2 E b0 _ l0 x u0 y3 y4 u5 y6 Q z2 z0 v4).mono ?_;rintro v w' ⟨vs,ob,l',rfl,x7,x9,z1,t⟩;have u3:b0<w.heap.size:=Q.lt;have V:∀b,b<w.heap.size->b≠b0->w'.heap[b]?=w.heap[b]?:=by intro b j L;refine t.block b j ?_;simp[dn.own,List.any_cons,List.any_nil,Bool.or_false];simpa usingλe=>L e.symm
 -- z9 is known u1 v7 v8
 let pl:Bool:=gS z&&gC k;let Mx:Mem:=if pl=true then ρ.M else C;let r:aI:=⟨ρ.m,ρ.n,λb=>if ob=some b/\w.heap.size<=b then none else if w.heap.size<=b then cR w' b else Mx b⟩;have v0:∀b l,ρ.M b=some l->b<w.heap.size:=by intro b l j;obtain⟨el,fr,hh⟩:=R.mem b l j;exact su (lQ hh)
 have v5:Mem.le ρ.M Mx:=by intro b l j;simp[Mx];split;exact j;exact X b l j
 have x3:Mem.le ρ.M r.M:=by intro b l j;have:=v0 b l j;simp only[r];rw[ai (λh=>aa),ai aa];exact v5 b l j
 have x4:pl=true\/Mem.le (eC w.heap.size C ob w') r.M:=by by_cases x2:pl=true;exact .inl x2;refine .inr λb l j=>?_;simp only[eC]at j;simp only[r];split at j;cases j;rename_i y1;rw[ai (λh=>y1 h.1)];split at j;rename_i hN;rw[ah hN];exact j;rename_i hN;rw[ai hN];simp[Mx];rw[ai x2];exact j
 have x5:gC k=true\/Mem.le (eC w.heap.size C ob w') r.M:=by rcases x4 with h|h;simp[pl,bD]at h;exact .inl h.2;exact .inr h
 have y8:gS z=true\/Mem.le (eC w.heap.size C ob w') r.M:=by rcases x4 with h|h;simp[pl,bD]at h;exact .inl h.1;exact .inr h
 have conv:∀(o:aI),o.M=r.M->∀(e:Kd)(x:a6 e) l,Rd (eC w.heap.size C ob w') e x l->(gS e=true\/Mem.le (eC w.heap.size C ob w') o.M)->Rd o.M e x l:=by intro o _ e x l hr hor;rcases hor with hor|hor;exact NK hor hr;exact dT hor hr
 have U:∀(o:aI)(new:e5),o.M=r.M->(∀p∈new,∀b,o p.1=some b->ob=some b/\w.heap.size<=b)->∀b l,o.M b=some l->ρ.M b=some l\/((∀p∈new,o p.1≠some b)/\(w.heap.size<=b\/∃q∈(D,cellsOf z (F (x,E)).1)::oz B z k ids,ρ q.1=some b/\q.2=[])/\∃el fr,w'.heap[b]?=some (qv l el fr)):=by intro o new K H b l j;rw[K]at j;simp only[r]at j;split at j;cases j;rename_i y1;split at j;rename_i hN;exact .inr ⟨λp hp' e=>y1 (H p hp' b e),.inl hN,jA j⟩;rename_i hN;simp[Mx]at j;split at j;exact .inl j;rename_i x2;have hm:=y3 b l j;obtain⟨el,fr,hh⟩:=jA hm;simp[C]at j;split at j;rename_i x8;have u4:=x6 b x8;obtain⟨i,cs,u6,u7,u8,u9⟩:=x8;refine .inr ⟨λp hp' e=>hN (H p hp' b e).2,.inr ⟨(i,[]),zf _ (Vj (by simpa[pl]using x2) u6 u7 u8),u9,rfl⟩,el,fr,by rw[V b aa u4];exact hh⟩;exact .inl j
 have z5:∀(o:aI),o.M=r.M->∀(p:Nat×cb),p∈(D,cellsOf z (F (x,E)).1)::oz B z k ids->(∃cs,B p.1=some cs/\cs≠[])/\∀b,ρ p.1=some b->p.2≠[]->∃l,cN w' b (ρ.n p.1) l/\aH o p.2 l:=by intro o K p hp';rcases mem_cons.1 hp' with rfl|hp';refine⟨⟨_,x0,az⟩,λb j _=>?_⟩;have j:ρ D=some b:=j;rw[O]at j;simp at j;subst j;exact⟨l',x9,jL (conv o K z _ l' z1 (by rcases y8 with h|h;exact .inl h;exact .inr (by rw[K];exact h)))⟩;obtain⟨k1,k2,k3⟩:=tT hp';exact⟨k3,λ_ _ h=>absurd k1 h⟩
 have z6:∀p∈(D,cellsOf z (F (x,E)).1)::oz B z k ids,∀q∈(D,cellsOf z (F (x,E)).1)::oz B z k ids,p.1=q.1->p=q:=by intro p hp' q hq' e;rcases mem_cons.1 hp' with rfl|hp'<;>rcases mem_cons.1 hq' with rfl|hq';rfl;exact absurd e.symm (Lk (tT hq').2.1).2;exact absurd e (Lk (tT hp').2.1).2;exact iP e ((tT hp').1.trans (tT hq').1.symm)
 have z3:∀b,b<w.heap.size->(∀p∈(D,cellsOf z (F (x,E)).1)::oz B z k ids,ρ p.1≠some b)->w'.heap[b]?=w.heap[b]?:=by intro b j v1;refine V b j (λe=>?_);subst e;exact v1 (D,cellsOf z (F (x,E)).1) (DP ..) O
 have T:=R.free id (aQ _) aa
 -- z7 in a block of w1 own
 have Z:∀(new:e5),(∀p∈new,p.1=id)->gh r (kF id k (F (x,E)).2) vs->∃o,(AQ (kF id k (F (x,E)).2)).rel o (oL vs)/\Eff id B {val:=AQ (kF id k (F (x,E)).2),new:=new,wr:=(D,cellsOf z (F (x,E)).1)::oz B z k ids,pre:=pp} ρ o w w':=by
  intro new H ht;have I:∀p∈new,r p.1=none:=λp hp'=>by rw[H p hp'];exact T
  refine⟨r,F9 ht,⟨⟨λ_ _ h=>⟨h,rfl⟩,x3⟩,λ_ _ h=>.inl h,λi b A=>gJ (R.bound i b A) t.size,t.os,t.tape,t.output,t.size,z3,?_,?_,z6,z5 r rfl,U r new rfl (λp hp' b j=>by rw[I p hp']at j;cases j)⟩⟩;intro p hp';have:=H p hp';exact⟨aa,aa,λb j=>by rw[I p hp']at j;cases j⟩;intro p hp' q hq' b j;rw[I p hp']at j;cases j
 rcases Cy (conv r rfl) h1 x5 x7 with ⟨k1,k2⟩|⟨cs,k0,k1,k2|⟨b,n,l,k3,k4,k5,k6,k7⟩⟩;rw[k1];exact Z [] (λ_ h=>nomatch h) k2;rw[k1];exact Z [(id,cs)] (λp hp'=>by simp at hp';rw[hp']) k2
 ·rw[k1];let u:aI:=⟨λi=>if i=id then some b else ρ i,λi=>if i=id then n else ρ.n i,r.M⟩;have y7:aI.le ρ u:=by
   refine⟨λi c A=>?_,x3⟩;by_cases e:i=id;subst e;rw[T]at A;cases A;simp[u,e,A]
  have y0:aI.le r u:=⟨λi c A=>y7.id i c A,Mem.le_refl _⟩;have ht:gh u (kF id k (F (x,E)).2) vs:=by
   rcases Cy (conv u rfl) h1 x5 x7 with ⟨_,j2⟩|⟨v9,_,_,j2|⟨b',n',l',j3,j4,j5,j6,j7⟩⟩;exact j2;exact j2
   ·have e:b'=b:=by rw[k3]at j3;simpa using j3.symm
    subst e;have en:=k5.size_eq j5;subst en;exact j7 (by simp[u]) (by simp[u])
  refine⟨u,F9 ht,⟨y7,?_,?_,t.os,t.tape,t.output,t.size,z3,?_,?_,z6,z5 u rfl,U u _ rfl ?_⟩⟩;intro i b' A;by_cases e:i=id;simp[u,e]at A;subst A;exact .inr ⟨aa,aa,⟨(id,cs),az,by simp[e]⟩,.inl k4⟩;simp[u,e]at A;exact .inl A;intro i b' A;by_cases e:i=id;simp[u,e]at A;subst A;exact k5.lt;simp[u,e]at A;exact gJ (R.bound i b' A) t.size;intro p hp';simp at hp';subst hp';refine⟨aQ _,aa,λb' N _=>?_⟩;simp[u]at N;subst N;exact⟨.inl k4,l,by simp[u];exact k5,fi y0 k6⟩;intro p hp' q hq' _ _ _;simp at hp' hq';rw[hp',hq'];intro p hp' b' N;simp at hp';subst hp';simp[u]at N;subst N;exact⟨k3,k4⟩
theorem Rl{f:FuncId}{m:Kd}{e:List Kd}{b:List dH}{G:hU}{pre:a6 m×HL e->Prop}{F:a6 m×HL e->a6 m×HO b}(h:Ft P f m e b G pre F)(H:fx b<=1){w0:dn}{id:Nat}{args:dq}{B:b8}{out:Out}(c:KF m e b pre F w0 id args B=some out) (u:∀p∈out.pre,p) (I:∀g s,G g=some s->w0.gl g=some s) {ρ:aI} {D:bn} {w:World} (N:bW ρ args D) (K:Ctx w0 id ρ B w):
  pW P f ⟨D⟩ w λv w'=>∃o,out.val.rel o v/\Eff id B out ρ o w w':=by
 unfold KF at c;split at c;split at c;rename_i d V r L;split at c;rename_i x Z xs qs O z;simp at c;subst c;obtain⟨u0,R,E,y,l⟩:=N;obtain⟨U,t,q⟩:=qi y;subst q E;refine adq h H r (λT W j k=>?_) z (λp i=>u p (by simp[i])) (u _ az) I t rfl l K;obtain⟨X,Y,C,Q,A⟩:=lT j _ _ _ _ _ _ O (λp i=>u p (by simp[i])) k;have A:=A;subst A;rw[bF]at C;rw[C];exact Q;simp at c;simp at c;simp at c
theorem Ce{f:FuncId}{e:Kd}{i:List Kd}{b:List dH}{pre:List (a6 e)×HL i->Prop}{F:List (a6 e)×HL i->List (a6 e)×HO b}(h:Ib P f e i b cx pre F)(N:fx b<=1:=by decide):pY P f (Bb e i b pre F):=by
 intro w0 id args B out d t ρ us w W Q;unfold Bb at d;split at d
 ·rename_i i0 n c u;split at d
  ·rename_i c0 z U j;split at d
   ·rename_i e' m xs q;split at d
    ·rename_i C ys qs R H;subst C;simp only[cd]at d;subst d;have D:m=n:=t _ az;have V:0<n:=t _ az;subst D;have j:=ji j;subst j;obtain⟨u0,Z,L,G,r⟩:=W;subst L;rcases p9 G with ⟨K,_⟩|⟨b0,o,x,A,K,ho,O,y⟩;omega;have ho:o=0:=by
      rcases ho with ho|ho;simpa using ho;omega
     subst ho y;refine adq (h m V) N z (λM0 l0 k l=>?_) H (λp E=>t p (by simp[E])) (t (pre (xs,ys)) (kH _ (kH _ (List.mem_singleton.2 rfl)))) (λg s T=>by simp[cx]at T) A ⟨x,K,by simpa using O,rfl⟩ r Q;obtain⟨v1,v2,ev,Y,I⟩:=l;have I:v2=[]:=I;subst I ev;rw[bF];obtain⟨g1,g2,_⟩:=mr q Y;exact⟨g1,fe (λ_ _=>dT k.mem) g2⟩
    simp at d
   simp at d
  simp at d
 simp at d
theorem vE{f:FuncId}{i:Kd}{e:List Kd}{b:List dH}{G:hU}{pre:a6 i×HL e->Prop}{F:a6 i×HL e->a6 i×HO b}(h:Ft P f i e b G pre F)(q:fx b<=1:=by decide):pY P f (yf G i e b pre F):=by intro w0 id args B out g m ρ u w t r;unfold yf at g;split at g;rename_i o s;simp at g;subst g;have:=Rl h q s (λp j=>m p (by simp[j])) (m _ az) t r;refine this.mono λv w' ⟨l,k,d⟩=>⟨l,k,?_⟩;exact⟨d.le,d.dom,d.bound,d.os,d.tape,d.output,d.size,d.same,d.new,d.newinj,d.wruniq,d.wr,d.mem⟩;simp at g
def Ax(B:b8):b8:=λi=>match beq i 0 with
 |true=>none
 |false=>B i
def VB(f:Kd)(b:List dH)(y:a6 f×HO b)(e:SV)(c:St):Prop:=
 match Fb e,kD (nt b) (Ax c.B) b (JQ e),c.B 0 with
 |true,some (j,h),some (d::g)=>match iB (match nt b with|true=>tg|false=>Ax c.B) f (d::g)with
  |some (z,i,[])=>G3 h (G3 i ((z,j)=y))
  |_=>False
 |_,_,_=>False
def VD(e:Kd)(n:Nat)(b:List dH)(y:List (a6 e)×HO b)(c:SV)(d:St):Prop:=
 match Fb c,kD (nt b) (Ax d.B) b (JQ c),d.B 0 with
 |true,some (k,i),some [f]=>match mW f with
  |some ⟨g,m,j⟩=>match g.eq? e with
   |some ⟨h⟩=>G3 i (m=n/\(qo h j,k)=y)
   |none=>False
  |none=>False
 |_,_,_=>False
variable {w0:dn}{n:Nat}{S:dr}{B:b8}{ρ:aI}{a:Act}{w':World}
theorem wS{M:Mem}(e:dJ w0 n S B ρ a w')(j:∀b l,w0.own b=true->ρ.M b≠some l)(i:w0.M=M){f:Option Nat}(d:∀b,f=some b->∀l,ρ.M b≠some l):Mem.le ρ.M (eC w0.w.heap.size M f w'):=by
 intro b l c;unfold eC;rw[ai (λh=>d b h l c)];obtain⟨_,el,fr,g⟩:=e.mem b l c;split;exact lQ g
 ·rcases e.bJ b l c aa with h|h;·simp_all
  ·simp_all
theorem CH{M:Mem}{u:Option Nat}{r j:b8}(D:Sees j ρ (eC w0.w.heap.size M u w')){s:Bool}(C:(match s with|true=>tg|false=>r)=j):
  ∀{c:List dH}{d:List TV}{i:HO c}{f:gi}{g:bn},fx c=0->kD s r c d=some (i,f)->(∀p∈f,p)->gh ρ d g->jB w0.w.heap.size M u w' c i g:=by
 intro c;induction c with
 |nil=>intro d i f g _ h _ l;cases d with
  |nil=>exact l
  |cons _ _=>simp[kD]at h
 |cons o c F=>intro d i f g k h t l;cases d with
  |nil=>simp[kD]at h
  |cons x d=>
   cases o with
   |own e=>simp[fx]at k
   |box e=>simp[fx]at k
   |val G=>
    simp[kD]at h;split at h
    ·rename_i y p m;split at h
     ·rename_i I H E;obtain⟨rfl,rfl⟩:=h;obtain⟨v,q,e,z,A⟩:=l;have m:QX j G (.is x)=some (y,p):=by rw[<-C];exact m
      exact⟨v,q,e,yT D m (λp b=>t p (jN _ b)) z,F k E (λp b=>t p (kH _ b)) A⟩
     simp at h
    simp at h
theorem YT{e:Kd}{D:Bool}{x:TV}{y:List (a6 e)}{u:gi}{v:Value}(F:dJ w0 n S B ρ a w')(K:∀i cs b,B i=some cs->cs≠[]->ρ i=some b->w0.w.heap.size<=b)(h:E2 D B (.own e) x=some (y,u))(E:∀p∈u,p)(G:x.rel ρ v):
  (y=[]/\v=.slice none 0 0)\/∃b o f n l,(∀l,ρ.M b≠some l)/\w0.w.heap.size<=b/\v=.slice (some ⟨b,o,none⟩) y.length f/\y.length<=f/\(o=0\/f=0)/\o+f*aC e<=n/\cN w' b n l/\eQ (Rd ρ.M e) y l:=by
 simp[E2]at h;split at h
 ·rename_i id len c;split at h
  ·rename_i d H z;have t:∀{y:List (a6 e)},(∀l,aH ρ (d::H) l->y.length=len/\c=aC e/\0+0*c+len*c<=l.length/\eQ (Rd ρ.M e) y ((l.drop (0+0*c)).take (len*c)))->(len=0->y=[]) ->
     (y=[]/\v=.slice none 0 0)\/∃b o f n l,(∀l,ρ.M b≠some l)/\w0.w.heap.size<=b/\v=.slice (some ⟨b,o,none⟩) y.length f/\y.length<=f/\(o=0\/f=0)/\o+f*aC e<=n/\cN w' b n l/\eQ (Rd ρ.M e) y l:=by
    intro y N I;rcases p9 G with ⟨j,ev⟩|⟨b,o,f,A,j,D,L,ev⟩;exact .inl ⟨I j,ev⟩;obtain⟨l,m,C⟩:=F.bQ _ _ z az b A;obtain⟨O,Q,R,T⟩:=N l C;subst O Q;refine .inr ⟨b,o,f,_,_,λl q=>(F.mem b l q).1 _ _ z az A,K _ _ _ z az A,ev,j,by simpa using D,L,?_,T⟩;simp at R⊢;have k:=m;rw[<-ff (y.length*aC e) l]at k;exact k.pre
   split at h;rename_i U p g;obtain⟨rfl,rfl⟩:=h;refine t (λl j=>Ah g E j) (λq=>?_);subst q;unfold xw at g;split at g;split at g;simp only[cd,cp]at g;rw[<-g.1];simp;simp at g;simp at g;refine t (λl j=>Ag (λ_ _=>cK) (λcs x u r l=>lT (rk ρ) e cs x u r l) h E j) (λq=>?_);subst q;unfold xv at h;split at h;split at h;rename_i s;simp[pN]at h s;rw[<-h.1,<-s.1];simp at h;simp at h
  simp at h
 obtain⟨rfl,rfl⟩:=h;exact .inl ⟨rfl,cY (ρ:=ρ) G⟩;simp at h
theorem VS{M:Mem}(C:dJ w0 n S B ρ a w')(R:∀b l,w0.own b=true->ρ.M b≠some l)(A:∀i cs b,B i=some cs->cs≠[]->ρ i=some b->w0.w.heap.size<=b)(O:w0.M=M):
  ∀{u:List dH}{z:List TV}{G:HO u}{E:gi}{F:bn},fx u<=1->kD true B u z=some (G,E)->(∀p∈E,p)->gh ρ z F ->
   ∃D,(∀b,D=some b->∀l,ρ.M b≠some l)/\(∀d,(∀b,d=some b->∀l,ρ.M b≠some l)->(D=none\/d=D)->jB w0.w.heap.size M d w' u G F):=by
 intro u;induction u with
 |nil=>intro z G E F _ h _ V;cases z with
  |nil=>exact⟨none,(λb h=>(nomatch h)),λ_ _ _=>V⟩
  |cons _ _=>simp[kD]at h
 |cons o u ih=>intro z G E F N h hp V;cases z with
  |nil=>simp[kD]at h
  |cons x z=>
   simp[kD]at h;split at h
   ·rename_i y p W;split at h
    ·rename_i zs qs X;obtain⟨rfl,rfl⟩:=h;obtain⟨v,j,e,Y,Z⟩:=V;have k:=λq U=>hp q (jN _ U);have r:=λq U=>hp q (kH _ U);have s:∀d,(∀b,d=some b->∀l,ρ.M b≠some l)->Sees tg ρ (eC w0.w.heap.size M d w'):=λd c=>⟨wS C R O c,λ_ _ _ h=>by simp[tg]at h⟩;cases o with
     |val κ=>obtain⟨D,g1,g2⟩:=ih N X r Z;refine⟨D,g1,λd c hor=>⟨v,j,e,?_,g2 d c hor⟩⟩;exact yT (s d c) W k Y
     |own e0=>
      have t:=by simp[fx]at N;omega
      have f:=λd c=>CH (s d c) rfl t X r Z;rcases YT C A W k Y with ⟨g1,g2⟩|⟨b,o,H,nn,l,g1,Q,I,g4,g5,g6,K,L⟩;exact⟨none,(λb h=>(nomatch h)),λd c _=>⟨v,j,e,.inl ⟨g1,g2⟩,f d c⟩⟩;refine⟨some b,λb' g=>by simp at g;subst g;exact g1,λd c hor=>⟨v,j,e,?_,f d c⟩⟩;rcases hor with hor|hor;cases hor;refine .inr ⟨b,o,H,nn,l,hor,Q,I,g4,g5,g6,K,fe (λ_ _=>dT (wS C R O c)) L⟩
     |box κ=>
      have t:=by simp[fx]at N;omega
      have f:=λd c=>CH (s d c) rfl t X r Z;obtain⟨i,cs,b,m,l,hB,T,hb,g1,I,K,L⟩:=Qn C W k Y;have Q:=A i cs b hB T hb;refine⟨some b,λb' g=>by simp at g;subst g;exact g1,λd c hor=>⟨v,j,e,?_,f d c⟩⟩;rcases hor with hor|hor;cases hor;exact⟨b,m,l,hor,Q,I,K,dT (wS C R O c) L⟩
    simp at h
   simp at h
end
section
variable {P:Program}
theorem MI{w:World}{G:hU}{M:Mem}{m n0 n:Nat}{r:St}{ρ:aI}{a:Act}{w':World}{U:Kd}{c:List dH}{z:a6 U}{zs:HO c}{ps:gi}{d:ax}{W:cb}{T:SV}{v:Value}(x1:m<w.heap.size)(x0:M m=none)(R:ρ.n 0=n0)(f:dJ ⟨w,[(0,m)],G,M,λp=>eB w p.2,1⟩ n r.S r.B ρ a w') (O:fx c<=1) (hf:Fb T=true) (L:kD (nt c) (Ax r.B) c (JQ T)=some (zs,ps)) (D:∀p∈ps,p) (x:r.B 0=some (d::W)) (u:∀V l,Sees (match nt c with|true=>tg|false=>Ax r.B) ρ V->aH ρ (d::W) l->Rd V U z l) (hv:T.rel ρ v):
  ∃I F E,v=oL I/\jB w.heap.size M F w' c zs I/\cN w' m n0 E/\Rd (eC w.heap.size M F w') U z E:=by
 obtain⟨I,Z,e⟩:=Zt hv hf;have q:ρ 0=some m:=(f.init (0,m) az).1;obtain⟨E,o,A⟩:=f.bQ 0 _ x az m q;rw[R]at o;have t:∀b,(⟨w,[(0,m)],G,M,λp=>eB w p.2,1⟩:dn).own b=true->b=m:=by intro b k;simp[dn.own]at k;exact k.symm
 have j:∀b l,(⟨w,[(0,m)],G,M,λp=>eB w p.2,1⟩:dn).own b=true->ρ.M b≠some l:=by intro b l k hm;have:=t b k;subst this;exact(f.mem b l hm).1 0 _ x az q
 have g:∀i cs,Ax r.B i=some cs->r.B i=some cs/\i≠0:=by intro i cs j;unfold Ax at j;split at j;cases j;rename_i u;exact⟨j,λe=>by subst e;simp at u⟩
 have C:∀i cs b,Ax r.B i=some cs->cs≠[]->ρ i=some b->w.heap.size<=b:=by intro i cs b j s k;obtain⟨Q,N⟩:=g i cs j;rcases (f.bound i b k).1 with h|h;exact h;have:=t b h;subst this;exact absurd (f.inj i 0 cs _ b Q s x az k q) N
 have hrB:dJ ⟨w,[(0,m)],G,M,λp=>eB w p.2,1⟩ n r.S (Ax r.B) ρ a w' :=
  ⟨f.defers,f.size,f.aW,f.below,λi cs j=>f.bQ i cs (g i cs j).1,λi i' cs y b O h2 h3 h4=>f.inj i i' cs y b (g i cs O).1 h2 (g i' y h3).1 h4,f.bound,f.init,λb l k=>⟨λi cs j=>(f.mem b l k).1 i cs (g i cs j).1,(f.mem b l k).2⟩,f.bJ,f.glob,f.tops,f.memle⟩
 cases K:nt c with
 |false=>
  rw[K]at L u;simp only at u;have N:fx c=0:=by unfold nt at K;split at K<;>simp_all
  have Y:Sees (Ax r.B) ρ (eC w.heap.size M none w'):=by refine⟨wS f j rfl (λb h=>(nomatch h)),λi cs b X s k=>?_⟩;obtain⟨l,⟨H,el,fr,k1,k2,_⟩,k3⟩:=hrB.bQ i cs X s b k;refine⟨l,H,k3,λhn=>?_,k2⟩;unfold eC;rw[ai (λh=>nomatch h),ah (C i cs b X s k)];exact mu k1 hn
  exact⟨I,none,E,e,CH (w0:=⟨w,[(0,m)],G,M,λp=>eB w p.2,1⟩) Y rfl N L D Z,o,u _ _ Y A⟩
 |true=>rw[K]at L u;simp only at u;obtain⟨F,g1,g2⟩:=VS hrB j C rfl O L D Z;exact⟨I,F,E,e,g2 F g1 (.inr rfl),o,u _ _ ⟨wS f j rfl g1,λ_ _ _ h=>by simp[tg]at h⟩ A⟩
theorem Yy{w:World}{G:hU}{M:Mem}{c t n:Nat}{q:St}{ρ:aI}{a:Act}{w':World}{o:Kd}{b:List dH}{y:a6 o×HO b}{x:SV}{v:Value}(i:c<w.heap.size)(f:M c=none)(j:ρ.n 0=t)(H:dJ ⟨w,[(0,c)],G,M,λp=>eB w p.2,1⟩ n q.S q.B ρ a w') (C:fx b<=1) (h:VB o b y x q) (I:x.rel ρ v):
  ∃A u s,v=oL A/\jB w.heap.size M u w' b y.2 A/\cN w' c t s/\Rd (eC w.heap.size M u w') o y.1 s:=by
 unfold VB at h;split at h;rename_i W U d Q E K e;split at h;rename_i z V F;obtain⟨k,h⟩:=xX h;obtain⟨m,rfl⟩:=xX h;refine MI i f j H C E K k e (λO l D g=>?_) I;obtain⟨R,T,r,L,N⟩:=lT D _ _ _ _ _ _ F m g;subst N;rw[bF]at r;rw[r];exact L;exact h.elim;exact h.elim
theorem Yz{w:World}{G:hU}{M:Mem}{d u n k:Nat}{s:St}{ρ:aI}{a:Act}{w':World}{e:Kd}{b:List dH}{y:List (a6 e)×HO b}{z:SV}{v:Value}(o:d<w.heap.size)(g:M d=none)(q:ρ.n 0=u)(H:dJ ⟨w,[(0,d)],G,M,λp=>eB w p.2,1⟩ n s.S s.B ρ a w') (C:fx b<=1) (h:VD e k b y z s) (I:z.rel ρ v):
  ∃A x t,v=oL A/\jB w.heap.size M x w' b y.2 A/\cN w' d u t/\Rd (eC w.heap.size M x w') (.arr k e) y.1 t:=by
 unfold VD at h;split at h;rename_i X T Q F K f;split at h;rename_i R m W c;split at h;rename_i j E;subst j;obtain⟨r,rfl,rfl⟩:=xX h;refine MI o g q H C F K r f (λO l D i=>?_) I;obtain⟨U,V,ev,L,N⟩:=i;subst N ev;rw[bF];obtain⟨g1,g2,_⟩:=mr c L;exact⟨g1,fe (λ_ _=>dT D.mem) g2⟩;exact h.elim;exact h.elim;exact h.elim
theorem JG{w:World}{b n:Nat}{l:bn}(h:cN w b n l):eB w b=n:=by obtain⟨c,el,fr,d,e,_⟩:=h;simp only[eB,d];exact e
theorem Zr{G:hU}{w:World}{M:Mem}{b n:Nat}{l:bn}{g:Kd}{x:a6 g}(z:Mem.le M (cR w))(m:M b=none)(y:tC G M)(o:cN w b n l)(C:Rd M g x l):Start ⟨w,[(0,b)],G,M,λp=>eB w p.2,1⟩ [(0,cellsOf g x)] 1 ⟨λi=>if i=0 then some b else none,λ_=>n,M⟩:=by
 have j:∀id d,(if id=0 then some b else none)=some d->id=0/\d=b:=by simp_all
 have q:∀id cs,eA [(0,cellsOf g x)] id=some cs->id=0/\cs=cellsOf g x:=by intro id cs h;have:=jz h;simp at this;exact this
 refine⟨?_,?_,?_,?_,?_,?_,?_,y,λp f=>by simp at f;subst f;exact oV,Mem.le_refl _⟩;intro id cs h _ d c;obtain⟨rfl,rfl⟩:=q id cs h;obtain⟨_,rfl⟩:=j 0 d c;exact⟨l,o,jL C⟩;intro id r cs k d h _ u _ _ _;rw[(q id cs h).1,(q r k u).1];intro id d h;obtain⟨_,rfl⟩:=j _ d h;exact⟨.inr (by simp[dn.own]),o.lt⟩;intro p f;simp at f;subst f;exact⟨rfl,(JG o).symm⟩;intro id d h;obtain⟨rfl,_⟩:=j _ d h;omega;intro d s c;refine⟨λi cs h A e=>?_,jA (z d s c)⟩;obtain⟨_,t⟩:=j i d e;rw[t]at c;have c:M b=some s:=c;rw[m]at c;cases c;intro d s c _;exact .inr c
theorem L8{sp:FuncId->Option Spec}{f:FuncId}{fn:Func}(U:aF P f fn){t:Hd}{k:Kd}{g:List Kd}{d:List dH}{G:hU}{pre:a6 k×HL g->Prop}{F:a6 k×HL g->a6 k×HO d}(hn:g.length+1<=fn.ntmps) (o:fn.body.isSome=true) {X:a6 k×HO d->SV->St->Prop}(Q:∀{w:World}{M:Mem}{D W n:Nat}{K:St}{ρ:aI}{a:Act}{w':World}{y:a6 k×HO d}{T:SV}{v:Value},D<w.heap.size->M D=none->ρ.n 0=W->dJ ⟨w,[(0,D)],G,M,λp=>eB w p.2,1⟩ n K.S K.B ρ a w'->X y T K->T.rel ρ v->∃I H E,v=oL I/\jB w.heap.size M H w' d y.2 I/\cN w' D W E/\Rd (eC w.heap.size M H w') k y.1 E)(h:∀(w:World)(M:Mem)(b:Nat)(x:a6 k)(r:HL g),yU k x->J2 g r->pre (x,r)->Du ⟨P,sp,⟨w,[(0,b)],G,M,λp=>eB w p.2,1⟩⟩ fn (ag (t.cell 0)::oq g r) [(0,cellsOf k x)] 1 (X (F (x,r)))):Nj P f t k g d G pre F:=by
 intro w M us r b n l x u Z s Y z j A hp V;refine .inl ⟨U.2 _ _,?_⟩;have q:(t.cell 0).rel ⟨λi=>if i=0 then some b else none,λ_=>n,M⟩ [u]:=by
  cases t with
  |ptr=>exact⟨b,rfl,by rw[show u=_ from V]⟩
  |sl m c=>obtain⟨L,g1,g2,e⟩:=V;exact .inr ⟨b,0,L,rfl,g1,.inl az,by simpa using g2,by rw[e]⟩
 refine(Eo U.1 o (Zr Z s Y j A) (M7 (v:=ag (t.cell 0)) q (tK z)) (by simp[xl];exact hn) (h w M b x r (Us A) (zN z) hp)).mono ?_;rintro e w' ⟨v,T,K,ρ,m,a,rfl,hv,hq,R⟩;have O:=((R.init (0,b) az).2).trans (JG j);obtain⟨I,H,E,e,ho,N,C⟩:=Q j.lt s O R hq hv;exact⟨v,rfl,I,H,E,e,ho,N,C,R.below⟩
theorem Ek{sp:FuncId->Option Spec}{f:FuncId}{fn:Func}(l:aF P f fn){g:Kd}{d:List Kd}{e:List dH}{G:hU}{pre:a6 g×HL d->Prop}{F:a6 g×HL d->a6 g×HO e}(m:d.length+1<=fn.ntmps) (k:fx e<=1) (i:fn.body.isSome=true)(h:∀(w:World)(M:Mem)(b:Nat)(x:a6 g)(j:HL d),yU g x->J2 d j->pre (x,j)->Du ⟨P,sp,⟨w,[(0,b)],G,M,λp=>eB w p.2,1⟩⟩ fn (al 0 0::oq d j) [(0,cellsOf g x)] 1 (VB g e (F (x,j)))):Ft P f g d e G pre F:=L8 l m i (λo q r s t u=>Yy o q r s k t u) h
theorem El{sp:FuncId->Option Spec}{f:FuncId}{fn:Func}(s:aF P f fn){e:Kd}{d:List Kd}{g:List dH}{G:hU}{pre:List (a6 e)×HL d->Prop}{F:List (a6 e)×HL d->List (a6 e)×HO g}(t:d.length+1<=fn.ntmps) (r:fx g<=1) (j:fn.body.isSome=true)(h:∀(w:World)(M:Mem)(b:Nat)(i:List (a6 e))(l:HL d),0<i.length->(∀x∈i,yU e x)->J2 d l->pre (i,l)->Du ⟨P,sp,⟨w,[(0,b)],G,M,λp=>eB w p.2,1⟩⟩ fn (ag (.sl 0 0 0 i.length (aC e))::oq d l) [(0,[mc e i.length i])] 1 (VD e i.length g (F (i,l)))):Ib P f e d g G pre F:=by
 intro n u;refine L8 (sp:=sp) s t j (λo q A C D E=>Yz o q A C r D E) λw M b x i z m y=>?_;obtain⟨o,q⟩:=z;have k:=h w M b x i (by simp_all) q m y;rw[o]at k;exact k
theorem zL{sp:FuncId->Option Spec}{f:FuncId}{fn:Func}(D:aF P f fn){e:Kd}{c:List Kd}{d:List dH}{G:hU}{pre:HL (.sl e::c)->Prop}{F:HL (.sl e::c)->HO d}(T:c.length+1<=fn.ntmps) (O:fx d<=1) (l:fn.body.isSome=true)(N:∀(w:World)(M:Mem)(g:HL c),J2 c g->pre ([],g)->Du ⟨P,sp,⟨w,[],G,M,λp=>eB w p.2,0⟩⟩ fn (ag (.v (.slice none 0 0))::oq c g) [] 0 (post d (F ([],g))))(h:∀(w:World)(M:Mem)(i:List (a6 e))(g:HL c),(∀x∈i,yU e x)->J2 c g->pre (i,g)->Du ⟨P,sp,⟨w,[],G,M,λp=>eB w p.2,0⟩⟩ fn (ag (.rn e i)::oq c g) [] 0 (post d (F (i,g)))):bu P f (.sl e::c) d G pre F:=by
 intro w M us i R Q q y;obtain⟨i,g⟩:=i;have j:=zN q;obtain⟨u,C,L,I,z⟩:=q;subst L;refine .inl ⟨D.2 _ _,?_⟩;have fin:∀(s:SV),s.rel (aI.start M) u->Du ⟨P,sp,⟨w,[],G,M,λp=>eB w p.2,0⟩⟩ fn (s::oq c g) [] 0 (post d (F (i,g))) ->
   Calls P f ⟨u::C⟩ w λe w'=>∃v,e=.returned v/\∃t A,v=oL t/\jB w.heap.size M A w' d (F (i,g)) t/\Below w.heap.size w w':=by
  intro s W Y;refine(Eo D.1 l (H4 R Q) (M7 W (tK z)) (by simp[xl];exact T) Y).mono ?_;rintro e w' ⟨v,sv,σ,ρ,n,a,rfl,Z,V,E⟩;obtain⟨t,A,e,U⟩:=HF E rfl rfl O V Z;exact⟨v,rfl,t,A,e,U,E.below.below rfl⟩
 have r:=I;rcases I with ⟨hx,a,k,ev,m⟩|⟨b,o,k,ev,hc,H⟩
 ·simp at ev;cases a with
  |none=>have:=m rfl;subst this ev;subst hx;exact fin (ag (.v (.slice none 0 0))) ⟨rfl,rfl⟩ (N w M g j.2 y)
  |some K=>exact fin (ag (.rn e i)) ⟨r,K,0,k,by rw[ev]⟩ (h w M i g j.1 j.2 y)
 exact fin (ag (.rn e i)) ⟨r,⟨b,o,none⟩,_,k,by rw[ev]⟩ (h w M i g j.1 j.2 y)
end
def mark:Spec:=λ_ _ _ _=>none
theorem HB{N:Nat}{M:Mem}{c:Option Nat}{a:World}:Mem.le (eC N M c a) (eC N M none a):=by intro b l h;unfold eC at h⊢;rw[ai az];split at h;cases h;exact h
def rdJ(d t:Nat)(a:St):Nat:=match a.S t with
 |.is (.one (.sl i _ _ _ _))=>i
 |_=>d
theorem bu.Bd{P:Program}{f:FuncId}{a:List Kd}{e:Kd}{G:hU}{pre:HL a->Prop}{F:HL a->HO [.own e]}(h:bu P f a [.own e] G pre F):bu P f a [.val (.sl e)] G pre F:=by intro w M O s y x k I;refine(h w M O s y x k I).mono ?_;rintro v R ⟨Q,T,L,⟨r,p,t,m,u⟩,A⟩;refine⟨Q,none,L,⟨r,p,t,?_,u⟩,A⟩;show Rd (eC w.heap.size M none R) (.sl e) _ [r];rcases m with ⟨N,rfl⟩|⟨b,o,j,n,l,H,z,rfl,C,m,K,d,g⟩;exact .inl ⟨N,none,0,rfl,λ_=>rfl⟩;rcases m with rfl|rfl;have q:=iu (λ_ _=>cK) g;obtain⟨i,el,fr,D,_⟩:=d;refine .inr ⟨b,0,j,rfl,C,l++i,λE=>?_,by rw[bA,q];omega,?_⟩;unfold eC;rw[ai az,ah z];exact mu D E;rw[jU,<-q,px];exact fe (λ_ _ h=>dT HB h) g;rfl;exact .inl ⟨eL aa,some ⟨b,o,none⟩,0,by rw[show(F s).1.length=0 by omega],λh=>by cases h⟩
theorem BB(e:Kd):dE (ag (.v (.slice none 0 0))) (ag (.ro e [])):=by rintro f v ⟨a,d⟩;simp only[dS,fW]at a;subst a;exact .inl ⟨rfl,none,0,rfl,λ_=>rfl⟩
theorem T8{E:Env}{N:Nat}{n r:St->Prop}{x:Nat->St->Prop}{l:cw}{C:St}(t id k c:Nat)(e:Kd)(T:List (a6 e))(cell:ax)(O:∀(A:aI)(vs:bn),cell.rel A vs->T.length=k/\eQ (Rd A.M e) T vs)(hS:C.S t=ag (.sl id 0 0 k c))(hB:C.B id=some [cell])(hx:T.length=k)(h2:Tr E N l ⟨C.aW.set t (ag (.ro e T)),(id,[])::C.bQ,C.next⟩ n r x):Tr E N l C n r x:=by
 classical
 intro a w Q hh hn hr hx;refine h2 a w Q ?_ hn hr hx;obtain⟨x0,A,d,Y⟩:=hh;refine⟨by show(C.aW.set t _).length=N;rw[jT];exact x0,?_⟩;have q:∀i cs,St.B ⟨C.aW.set t (ag (.ro e T)),(id,[])::C.bQ,C.next⟩ i=some cs->cs≠[]->i≠id/\C.B i=some cs:=by
  intro i cs h f;simp only[St.B,eA]at h;cases I:beq id i with
  |true=>rw[I]at h;simp only[cd]at h;exact absurd h.symm f
  |false=>rw[I]at h;refine⟨λe=>?_,h⟩;subst e;rw[lh]at I;cases I
 have K:∀(p:aI)(s:SV),(∀u,(C.S u).rel p (a.tmps.getD u Go.undef))->s.rel p (a.tmps.getD t Go.undef)->∀u,(St.S ⟨C.aW.set t s,(id,[])::C.bQ,C.next⟩ u).rel p (a.tmps.getD u Go.undef):=by intro p s h hs u;show((C.aW.set t s).getD u .junk).rel p _;rw[bx,pn];split;rename_i x8;subst x8;split;exact hs;trivial;rw[<-bx];exact h u
 have ht:=d.aW t;rw[hS]at ht;rcases ht with ⟨hz,hv⟩|⟨b,o,x3,I,y1,ho,y2,hv⟩;simp only[dS,fW]at hv;refine⟨A,{d with aW:=K A _ d.aW ?_,bQ:=?_,inj:=?_,mem:=?_},Y⟩;rw[hv];have x9:T=[]:=eL aa;subst x9;exact .inl ⟨rfl,none,0,rfl,λ_=>rfl⟩;intro i cs h f;exact d.bQ i cs (q i cs h f).2 f;intro i i' cs G b h f h' z;exact d.inj i i' cs G b (q i cs h f).2 f (q i' G h' z).2 z;intro b l D;obtain⟨V,W⟩:=d.mem b l D;exact⟨λi cs h f=>V i cs (q i cs h f).2 f,W⟩
 ·simp only[dS,fW]at hv;obtain⟨l0,X,v1,v2,e1,x5,e2⟩:=d.bQ id _ hB az b I;obtain⟨y0,x2⟩:=O A v1 x5;have e2:v2=[]:=e2;subst e2;rw[bF]at e1;subst e1;have R:A.M b=none:=by
   cases D:A.M b with
   |none=>rfl
   |some l=>exact absurd I ((d.mem b l D).1 id _ hB az)
  obtain⟨H,el,fr,P,x7,_⟩:=X;have x1:=λhn=>mu P hn;let p:aI:=⟨A.m,A.n,λj=>if j=b then cR w b else A.M j⟩;have F:Mem.le A.M p.M:=by intro j l U;show(if j=b then cR w b else A.M j)=some l;by_cases e:j=b;subst e;rw[R]at U;cases U;rw[ai e];exact U
  have Z:aI.le A p:=⟨λ_ _ h=>⟨h,rfl⟩,F⟩;have x4:l0++H≠[]->p.M b=some (l0++H):=λhn=>by show(if b=b then cR w b else _)=_;rw[ah rfl,x1 hn]
  refine⟨p,{d with aW:=K p _ (λu=>SV.gM Z (d.aW u)) ?_,bQ:=?_,inj:=?_,mem:=?_,bJ:=?_,glob:=?_,bound:=d.bound,init:=d.init,memle:=λj l' L=>F j l' (d.memle j l' L)},Y⟩;rw[hv];show Rd p.M (.sl e) T _;rcases ho with rfl|rfl;have U:=iu (λ_ _=>cK) x2;refine .inr ⟨b,0+0*c,x3,by rw[y0],aa,l0++H,x4,by rw[bA,U];omega,?_⟩;rw[show 0+0*c=0 by omega,jU,<-U,px rfl];exact fe (λ_ _ h=>dT F h) x2;exact .inl ⟨eL aa,some ⟨b,o,none⟩,0,by rw[show k=0 by omega],λh=>by cases h⟩;intro i cs h f j L;obtain⟨l,V,W⟩:=d.bQ i cs (q i cs h f).2 f j L;exact⟨l,V,fi Z W⟩;intro i i' cs G j h f h' z;exact d.inj i i' cs G j (q i cs h f).2 f (q i' G h' z).2 z;intro j l D;have D:(if j=b then cR w b else A.M j)=some l:=D;by_cases e:j=b;subst e;rw[ah rfl]at D;refine⟨λi cs h f hi=>(q i cs h f).1 (d.inj i id cs _ j (q i cs h f).2 f hB az hi I),?_⟩;obtain⟨el,fr,hh⟩:=jA D;exact⟨el,fr,hh⟩;rw[ai e]at D;obtain⟨V,W⟩:=d.mem j l D;exact⟨λi cs h f=>V i cs (q i cs h f).2 f,W⟩;intro j l D x6;have D:(if j=b then cR w b else A.M j)=some l:=D;by_cases e:j=b;subst e;rcases (d.bound id j I).1 with h|h;omega;exact .inl h;rw[ai e]at D;exact d.bJ j l D x6;intro g κ y hg;exact l7 F (d.glob g κ y hg)
theorem ZE{E:Env}{N:Nat}{n r:St->Prop}{x:Nat->St->Prop}{l:cw}{a:St}(t id k c:Nat)(e:Kd)(b:List (a6 e))(g:a.S t=ag (.sl id 0 0 k c))(f:a.B id=some [.row e k b])(i:b.length=k)(d:Tr E N l ⟨a.aW.set t (ag (.ro e b)),(id,[])::a.bQ,a.next⟩ n r x):Tr E N l a n r x:=
 T8 t id k c e b (.row e k b) (λ_ _ h=>h) g f i d
theorem T9{E:Env}{N:Nat}{n r:St->Prop}{x:Nat->St->Prop}{l:cw}{a:St}(t id k c:Nat)(d:IntKind)(b:LI)(g:a.S t=ag (.sl id 0 0 k c))(f:a.B id=some [.ints d k b])(i:b.length=k)(e:Tr E N l ⟨a.aW.set t (ag (.ro (.int d) b)),(id,[])::a.bQ,a.next⟩ n r x):Tr E N l a n r x:=
 T8 t id k c (.int d) b (.ints d k b) (λ_ _ h=>⟨h.1,xC.2 h.2⟩) g f i e
section
variable {E:Env}{ops:Array Oper}{n base:Nat}{Q:Exit->aA}
theorem V2(A:aS E.P E.sp){G:List Nat}:∀(l:List (Oper×Rec))(i:Nat)(S:dr)(B:b8)(e:aI)(a:Act)(w:World),Ka E ops n base i l S B ->
  (∀k p,l[k]?=some p->ops[i+k]?=some p.1)->dJ E.w0 n S B e a w->(∀id b,e id=some b->id<base+8*i) ->
  (∀m t c,dJ E.w0 n (tH n l S) (tG l B) c m t->(∀id b,c id=some b->id<base+8*(i+l.length))->wpOps E.P ops Q G m t) ->
  wpOps E.P ops Q (List.range' i l.length++G) a w:=by
 intro l;induction l with
 |nil=>intro i S B e a w _ _ y s x;exact x a w e y (by simpa using s)
 |cons p l N=>
  intro i S B e a w C d y s x;obtain⟨o,r⟩:=p;obtain⟨L,C⟩:=C;have F:=d 0 (o,r) rfl;simp only[lf]at F;simp only[cP,vW,po];unfold wpOps;simp only[F];refine uv A y L (λj R _=>?_) (λm t c z f=>?_)
  ·cases g:e j with
   |none=>rfl
   |some b=>have:=s j b g;omega
  refine N (i+1) _ _ c m t C (λk q K=>?_) z (λj b g=>?_) (λH O D I u=>?_);have:=d (k+1) q (by simpa using K);rw[show i+1+k=i+(k+1)from by omega];exact this;rcases f j b g with h|h;have:=s j b h;omega;omega;refine x H O D ?_ (λj b g=>?_);unfold tH tG at *;simp only[dm,ee];rw[AE n l (0+1) 0,AD l (0+1) 0];exact I;have:=u j b g;simp only[cP];omega
theorem agh(r:aS E.P E.sp){z:List Nat}{d:List Oper}{i N:Nat}{e:St}{K:St->List Rec->Prop}{a:Act}{w:World}{s:aI}(h:xe E ops i d e [] K)(g:∀k o,d[k]?=some o->ops[i+k]?=some o)(I:e.aW.length=N) (U:dJ E.w0 N e.S e.B s a w) (L:∀id b,s id=some b->id<e.next+8*i)(T:∀c rs j l,Holds E.w0 N {c with next:=c.next+8*(i+d.length)} j l->K c rs->wpOps E.P ops Q z j l):wpOps E.P ops Q (List.range' i d.length++z) a w:=by
 obtain⟨rs,c,D,u,x,F,G,y,H⟩:=CJ _ _ _ _ _ h;have f:(d.zip rs).length=d.length:=by simp[D]
 rw[I]at u x y;rw[<-f];refine V2 r (d.zip rs) i e.S e.B s a w u (λk p R=>?_) U L (λj l t q m=>?_);have:=List.getElem?_zip_eq_some.1 R;exact g k p.1 this.1
 ·refine T c _ j l ⟨y,t,?_,?_⟩ H
  ·have A:({c with next:=c.next+8*(i+d.length)}:St).S=tH N (d.zip rs) e.S:=by
    show c.S=_;rw[x];unfold tH;exact AE N _ i 0 e.S
   have C:({c with next:=c.next+8*(i+d.length)}:St).B=tG (d.zip rs) e.B:=by show c.B=_;rw[F];unfold tG;exact AD _ i 0 e.B
   rw[A,C];exact q
  intro id b O;show id<c.next+8*(i+d.length);have:=m id b O;rw[f]at this;rw[G];exact this
end
section
variable {E:Env}
def Bl(c:aI)(a:Nat):List (Nat×Nat):=(range a).filterMap λi=>(c i).map λb=>(i,b)
theorem bI{ρ:aI}{c:Nat}{p:Nat×Nat}:p∈Bl ρ c↔p.1<c/\ρ p.1=some p.2:=by unfold Bl;rw[List.mem_filterMap];constructor;rintro⟨i,g,h⟩;obtain⟨b,f,rfl⟩:=Option.map_eq_some_iff.1 h;exact⟨mem_range.1 g,f⟩;rintro⟨d,e⟩;exact⟨p.1,mem_range.2 d,by rw[e];rfl⟩
end
namespace Ob
structure rX(S:Nat->Prop)(w w':World):Prop where
 os:w'.os=w.os
 tape:w'.tape=w.tape
 output:w'.output=w.output
 size:w.heap.size<=w'.heap.size
 block:∀k,k<w.heap.size->¬S k->w'.heap[k]?=w.heap[k]?
structure ak where
 P:World->Mem->(Nat->Prop)->Prop
 mono:∀w M M' F,Mem.le M M'->P w M F->P w M' F
 stable:∀w w' M F,P w M F->(∀b,F b->w'.heap[b]?=w.heap[b]?)->P w' M F
 lt:∀w M F,P w M F->∀b,F b->b<w.heap.size
def ak.none:ak:=⟨λ_ _ F=>∀b,¬F b,λ_ _ _ _ _ h=>h,λ_ _ _ _ h _=>h,λ_ _ _ h b e=>(h b e).elim⟩
structure cJ where
 P:Program
 sp:FuncId->Option Spec
 gl:dF
 w:World
 S:Nat->Prop
 M:Mem
 pins:List (Nat×Nat):=[]
 ptop:Nat:=0
structure GOk(E:cJ)(W:dn)(F:Nat->Prop):Prop where
 gl:W.gl=E.gl
 kep:rX E.S E.w W.w
 ids:∀p∈W.ids,E.S p.2\/E.w.heap.size<=p.2
 foot:∀b,F b->E.S b\/E.w.heap.size<=b
 own:∀b,F b->W.own b=false
 mem:∀b,F b->∀l,W.M b≠some l
 bJ:∀b l,W.M b=some l->b<E.w.heap.size->E.S b\/E.M b=some l
 zY:∀p∈E.pins,p∈W.ids
 plt:∀p∈E.pins,p.1<E.ptop
 mle:Mem.le E.M W.M
def GH(E:cJ)(N:Nat)(d:St)(G:ak)(a:Act)(w:World):Prop:=
 ∃W F,GOk E W F/\G.P W.w W.M F/\Holds W N d a w
abbrev lI(w:World)(d:dF)(ρ:aI)(c:Nat):dn:=⟨w,Bl ρ c,d,ρ.M,λp=>ρ.n p.1,c⟩
theorem fZ{w:World}{f:dF}{ρ:aI}{d:Nat}{b:Nat}:(lI w f ρ d).own b=true↔∃id,id<d/\ρ id=some b:=by
 simp only[dn.own,vY];constructor
 ·rintro⟨p,c,e⟩;have e:=by simpa using e
  exact⟨p.1,(bI.1 c).1,by rw[<-e];exact(bI.1 c).2⟩
 rintro⟨id,g,h⟩;exact⟨(id,b),bI.2 ⟨g,h⟩,az⟩
theorem agF{W:dn}{N:Nat}{S:dr}{B:b8}{d:aI}{a:Act}{w:World}{f:Nat}(c:dJ W N S B d a w)(g:∀id b,d id=some b->id<f):dJ (lI w W.gl d f) N S B d a w:=
 ⟨c.defers,c.size,c.aW,mV.refl (lI w W.gl d f),c.bQ,c.inj,λid b h=>⟨.inr (fZ.2 ⟨id,g id b h,h⟩),(c.bound id b h).2⟩,
  λp e=>⟨(bI.1 e).2,rfl⟩,c.mem,λb l h _=>.inr h,c.glob,λp e=>(bI.1 e).1,Mem.le_refl _⟩
theorem afE{E:cJ}{W:dn}{F:Nat->Prop}{N:Nat}{S:dr}{B:b8}{o:aI}{a:Act}{w:World}{u:Nat}(h:GOk E W F)(q:∀b,F b->b<W.w.heap.size)(f:dJ W N S B o a w)(A:∀id b,o id=some b->id<u):GOk E (lI w E.gl o u) F/\∀b,F b->w.heap[b]?=W.w.heap[b]?:=by
 have g:∀k,E.w.heap.size>k->¬E.S k->W.own k=false:=by
  intro k s j;cases m:W.own k with
  |false=>rfl
  |true=>
   simp only[dn.own,vY]at m;obtain⟨p,i,e⟩:=m;have e:=by simpa using e
   rcases h.ids p i with h'|h';exact absurd (e▸h') j;omega
 have d:=λid b c=>(f.bound id b c).1;refine⟨⟨rfl,⟨f.below.os.trans h.kep.os,f.below.tape.trans h.kep.tape,f.below.output.trans h.kep.output,fw h.kep.size f.below.size,λk s j=>?_⟩,λp i=>?_,h.foot,λb c=>?_,λb c l C=>?_,λb l c t=>?_,λp i=>?_,h.plt,λb l c=>f.memle b l (h.mle b l c)⟩,λb c=>f.below.block b (q b c) (h.own b c)⟩;have:=h.kep.size;exact(f.below.block k aa (g k s j)).trans (h.kep.block k s j);have:=h.kep.size;rcases d p.1 p.2 (bI.1 i).2 with h'|h';exact .inr aa;grind
 ·cases m:(lI w E.gl o u).own b with
  |false=>rfl
  |true=>obtain⟨id,_,y⟩:=fZ.1 m;rcases d id b y with h'|h';have:=q b c;omega;rw[h.own b c]at h';cases h'
 rcases f.bJ b l C (q b c)with h'|h';rw[h.own b c]at h';cases h';exact h.mem b c l h'
 ·have j:=h.kep.size;rcases f.bJ b l c aa with h'|h';·by_cases z:E.S b;exact .inl z;·simp_all
  exact h.bJ b l h' t
 have:=(f.init p (h.zY p i)).1;exact bI.2 ⟨A _ _ this,this⟩
theorem GH.mP{E:cJ}{N:Nat}{c:St}{G:ak}{a:Act}{w:World}(h:GH E N c G a w):
  ∃F ρ,GOk E (lI w E.gl ρ c.next) F/\G.P w ρ.M F/\c.aW.length=N/\dJ (lI w E.gl ρ c.next) N c.S c.B ρ a w/\∀id b,ρ id=some b->id<c.next:=by
 obtain⟨W,F,g,f,k,ρ,e,d⟩:=h;obtain⟨i,j⟩:=afE g (G.lt _ _ _ f) e d;refine⟨F,ρ,i,G.mono _ _ _ _ e.memle (G.stable _ _ _ _ f j),k,?_,d⟩;have:=agF e d;rw[g.gl]at this;exact this
abbrev cS(E:cJ):dn:=⟨E.w,[],E.gl,λ_=>Option.none,λ_=>0,E.ptop⟩
theorem GH.le{E:cJ}{N:Nat}{σ τ:St}{G:ak}{a:Act}{w:World}{K:Prop}(hh:GH E N σ G a w)(h:σ.le (cS E) τ K):K/\GH E N τ G a w:=by
 obtain⟨F,ρ,m,hG,hN,z,hd⟩:=hh.mP;unfold St.le at h;obtain⟨k,h⟩:=ss h;simp at k;obtain⟨⟨U,L⟩,I⟩:=k;obtain⟨h,H,q⟩:=yq h;obtain⟨hK,f⟩:=AH h;simp only[St.wf,bD,sM]at L;obtain⟨W,Y⟩:=L;have d:∀i b,(ρ.cut τ.next) i=some b->ρ i=some b:=by intro i b h;simp[aI.cut]at h;by_cases o:i<τ.next;simpa[o]using h;simp[o]at h
 have u:∀i b,(ρ.cut τ.next) i=some b->i<τ.next:=by intro i b h;simp[aI.cut]at h;by_cases o:i<τ.next;exact o;simp[o]at h
 refine⟨hK,lI w E.gl (ρ.cut τ.next) τ.next,F,⟨rfl,m.kep,λp g=>?_,m.foot,λb k=>?_,λb k l hl=>m.mem b k l hl,m.bJ,λp g=>?_,m.plt,m.mle⟩,hG,by rw[<-H];exact hN,ρ.cut τ.next,
  ⟨z.defers,z.size,?_,mV.refl _,?_,?_,?_,λp g=>⟨(bI.1 g).2,rfl⟩,?_,λb l h _=>.inr h,z.glob,λp g=>(bI.1 g).1,Mem.le_refl _⟩,u⟩
 have g:=(bI.1 g).2;refine m.ids p (bI.2 ⟨hd _ _ (d _ _ g),d _ _ g⟩)
 ·cases R:(lI w E.gl (ρ.cut τ.next) τ.next).own b with
  |false=>rfl
  |true=>obtain⟨id,_,s⟩:=fZ.1 R;have:=m.own b k;rw[fZ.2 ⟨id,hd _ _ (d _ _ s),d _ _ s⟩]at this;cases this
 have D:=m.plt p g;have s:=(bI.1 (m.zY p g)).2;have C:=gJ D I;exact bI.2 ⟨C,by simp[aI.cut,C];exact s⟩
 ·intro t;rcases q t with h|h;show(τ.aW.getD t .junk).rel _ _;rw[h];trivial
  ·have:=z.aW t;show(τ.aW.getD t .junk).rel _ _;have this:=h _ _ this;refine SV.o8 this ?_;cases V:τ.aW[t]? with
   |none=>simp[V,SV.below,SV.ids]
   |some v=>simpa[V]using W v (ft V)
 intro id cs T A b k;have y:=jz T;obtain⟨l,C,Q⟩:=z.bQ id cs (f _ y) A b (d _ _ k);have hw:=Y _ y;refine⟨l,C,uU Q (λc R i o=>?_)⟩;have:=hw.2 c R i o;simpa[sW]using this;intro i j cs O b D s C Q h5 h6;exact z.inj i j cs O b (f _ (jz D)) s (f _ (jz C)) Q (d _ _ h5) (d _ _ h6);intro i b h;exact⟨.inr (fZ.2 ⟨i,u _ _ h,h⟩),(z.bound i b (d _ _ h)).2⟩;intro b l k;obtain⟨D,s⟩:=z.mem b l k;exact⟨λi cs o A Z=>D i cs (f _ (jz o)) A (d _ _ Z),s⟩
theorem akF{a b i m:Nat}(c:a<m)(d:b<m)(h:mw a b i<m):i<m:=by rw[Fc]at h;split at h;omega;split at h<;>omega
theorem GH.sw{E:cJ}{N:Nat}{d:St}{G:ak}{W:Act}{w:World}{a b:Nat}(hh:GH E N d G W w)(z:QI (cS E) d.next a b=true):GH E N (d.sw a b) G W w:=by
 obtain⟨F,D,m,hG,hn,u,I⟩:=hh.mP;simp only[QI,bD]at z;obtain⟨⟨O,Q⟩,A,C⟩:=z;have A:=by simpa[Nat.ble_eq]using A
 have C:=by simpa[Nat.ble_eq]using C
 have O:=hX O;have Q:=hX Q;have H:∀i cs,(d.sw a b).B i=some cs->∃k,d.B (mw a b i)=some k/\cs=k.map (ax.sw a b):=by intro i cs h;have:eA (d.bQ.map (λp=>(mw a b p.1,p.2.map (ax.sw a b)))) i=some cs:=h;rw[Ph]at this;obtain⟨k,q,f⟩:=Option.map_eq_some_iff.1 this;exact⟨k,q,f.symm⟩
 have s:∀id x,(D.sw a b) id=some x->id<d.next:=λid x o=>akF O Q (I _ x o);refine⟨lI w E.gl (D.sw a b) d.next,F,⟨rfl,m.kep,λp g=>?_,m.foot,λc hc=>?_,m.mem,m.bJ,λp g=>?_,m.plt,m.mle⟩,hG,by simpa[St.sw]using hn,D.sw a b,⟨u.defers,u.size,?_,mV.refl _,?_,?_,?_,λp g=>⟨(bI.1 g).2,rfl⟩,?_,λc l h _=>.inr h,u.glob,λp g=>(bI.1 g).1,Mem.le_refl _⟩,s⟩;have g:=(bI.1 g).2;exact m.ids (mw a b p.1,p.2) (bI.2 ⟨I _ _ g,g⟩)
 ·cases hq:(lI w E.gl (D.sw a b) d.next).own c with
  |false=>rfl
  |true=>obtain⟨id,_,f⟩:=fZ.1 hq;have:=m.own c hc;rw[fZ.2 ⟨_,I _ _ f,f⟩]at this;cases this
 ·have q:=m.plt p g;have f:=(bI.1 (m.zY p g)).2;have e:mw a b p.1=p.1:=by rw[Fc,ai aa,ai aa]
  exact bI.2 ⟨I _ _ f,by show D (mw a b p.1)=_;rw[e];exact f⟩
 ·intro t;have:=SV.wW (a:=a) (b:=b) (u.aW t);have e:(d.sw a b).S t=(d.S t).sw a b:=by
   show(d.aW.map (SV.sw a b)).getD t .junk=(d.aW.getD t .junk).sw a b;rw[bx,bx,dM];cases d.aW[t]? <;> rfl
  rw[e];exact this
 intro i cs R y x o;obtain⟨k,q,f⟩:=H i cs R;subst f;obtain⟨l,g1,g2⟩:=u.bQ _ k q (by intro e;subst e;exact y rfl) x o;exact⟨l,g1,xV g2⟩
 ·intro i j cs K x q f X Y Z h6;obtain⟨k,U,V⟩:=H i cs q;obtain⟨L,k3,k4⟩:=H j K X;have:=u.inj _ _ k L x U (by intro e;subst e;subst V;exact f rfl) k3 (by intro e;subst e;subst k4;exact Y rfl) Z h6;have:=congrArg (mw a b) this
  rwa [tz,tz]at this
 intro i x o;exact⟨.inr (fZ.2 ⟨i,s i x o,o⟩),(u.bound _ x o).2⟩;intro x l o;obtain⟨q,f⟩:=u.mem x l o;refine⟨λi cs R y T=>?_,f⟩;obtain⟨k,U,V⟩:=H i cs R;exact q _ k U (by intro e;subst e;subst V;exact y rfl) T
theorem GH.xk{E:cJ}{N:Nat}{G:ak}{c:Act}{w:World}:∀{l:List (Nat×Nat)}{b:St},GH E N b G c w->F6 (cS E) b.next l=true->GH E N (b.xk l) G c w:=by
 intro l;induction l with
 |nil=>intro b h _;exact h
 |cons p l d=>intro b h a;simp[F6]at a;exact d (h.sw a.1) a.2
theorem GH.uH{E:cJ}{N:Nat}{b c:St}{G:ak}{a:Act}{w:World}{K:Prop}{sw:List (Nat×Nat)}(f:GH E N b G a w)(h:b.uH (cS E) sw c K):K/\GH E N c G a w:=by unfold St.uH at h;obtain⟨d,e⟩:=ss h;exact(f.xk d).le e
theorem GH.mono{E:cJ}{N:Nat}{c:St}{G b:ak}{a:Act}{w:World}(h:GH E N c G a w)(g:∀w M F,G.P w M F->b.P w M F):GH E N c b a w:=by obtain⟨W,F,d,e,f⟩:=h;exact⟨W,F,d,g _ _ _ e,f⟩
def aR(P:Program)(l:cw)(Pre n r:aA)(x:Nat->aA):Prop:=
 ∀(a:Act)(w:World)(Q:Exit->aA),Pre a w->(∀a w,n a w->Q .normal a w)->(∀a w,r a w->Q .ret a w)->(∀i a w,x i a w->Q (.exit i) a w)->ng P l Q a w
section
variable {P:Program}{Pre n r:aA}{x:Nat->aA}
theorem cv(h:∀a w,Pre a w->n a w):aR P [] Pre n r x:=λa w _ e d _ _=>d a w (h a w e)
theorem qf{l:cw}{b:aA}(h:∀a w,Pre a w->b a w)(c:aR P l b n r x):aR P l Pre n r x:=λa w Q d=>c a w Q (h a w d)
theorem p4{f:Type}{l:cw}{Pre':f->aA}(h:∀a w,Pre a w->∃g,Pre' g a w)(b:∀g,aR P l (Pre' g) n r x):aR P l Pre n r x:=λa w Q e=>by obtain⟨g,d⟩:=h a w e;exact b g a w Q d
theorem m8{l1 l2:cw}(c:aA)(g:aR P l1 Pre c r x)(j:aR P l2 c n r x):aR P (l1++l2) Pre n r x:=by intro a w Q m l e f;refine B1 _ _ a w (g a w _ m (λb d k=>?_) (λb d h=>e b d h) (λi b d h=>f i b d h));exact j b d Q k l e f
theorem ym{α β:Type}{l:cw}{c:Code}(I:α->aA)(k:α->Nat)(out:β->aA)(z:l.head?=some c)(u:ef c=true)(s:∀a w,Pre a w->∃g,I g a w)(t:∀g,aR P (aO c) (I g) (λa w=>∃q,I q a w/\k q<k g) r (λi a w=>match beq i (cH c)with|true=>∃o,out o a w|false=>x i a w))(O:∀o,aR P l.tail (out o) n r x):aR P l Pre n r x:=by
 intro a w Q V U D F;cases l with
 |nil=>simp at z
 |cons d l=>
  simp at z;subst z;unfold ef at u;split at u
  ·rename_i id b;obtain⟨C,s⟩:=s a w V;refine wp_block ?_;refine wp_loop_ghost (λm a w=>∃g,k g=m/\I g a w) (k C) ⟨C,rfl,s⟩ ?_;rintro m a w ⟨g,rfl,T⟩;have A:=t g a w (Exit.then (λf h=>∃H,H<k g/\∃g,k g=H/\I g f h) (Exit.inBlock id (Exit.then (ng P l Q) Q))) T ?_ ?_ ?_;have:=lM b [] _ a w (by simpa[aO]using A);refine wp_mono this ?_;intro e f h R;cases e<;>exact R;rintro f h ⟨q,K,L⟩;exact⟨k q,L,q,rfl,K⟩;intro f h j;exact D f h j
   ·intro i f h j;show Exit.inBlock id (Exit.then (ng P l Q) Q) (.exit i) f h;simp[Exit.inBlock];by_cases y:i=id;subst y;rw[ah rfl];simp[cH]at j;obtain⟨o,j⟩:=j;exact O o f h Q j U D F
    ·rw[ai y];have:beq i id=false:=by
      cases t:beq i id with
      |false=>rfl
      |true=>exact absurd (ca t) y
     simp[cH,this]at j;exact F i f h j
  cases u
end
section
variable {E:cJ}{N:Nat}{n r:aA}{x:Nat->aA}
theorem yn{l:cw}{k:St}{G:ak}(nn q:St->Prop)(s:Nat->St->Prop)(h:∀(w:World)(ids:List (Nat×Nat))(M:Mem)(num:Nat×Nat->Nat),Tr ⟨E.P,E.sp,⟨w,ids,E.gl,M,num,k.next⟩⟩ N l k nn q s)(z:∀b a w,nn b->GH E N b G a w->n a w) (A:∀b a w,q b->GH E N b G a w->r a w) (C:∀i b a w,s i b->GH E N b G a w->x i a w):aR E.P l (GH E N k G) n r x:=by
 intro a w Q y D H I;obtain⟨F,j,o,m,t,g,u⟩:=y.mP;exact h w (Bl j k.next) j.M (λp=>j.n p.1) a w Q ⟨t,j,g,u⟩ (λb d e c f=>D d e (z b d e f ⟨_,F,o,m,c⟩))
  (λb d e c f=>H d e (A b d e f ⟨_,F,o,m,c⟩)) (λi b d e c f=>I i d e (C i b d e f ⟨_,F,o,m,c⟩))
theorem lY(f:aS E.P E.sp)(k:E.P.follows .mixedOrders=true){l:cw}{e:St}{G:ak}(nn g:St->Prop)(j:Nat->St->Prop)(h:∀(w:World)(ids:List (Nat×Nat))(M:Mem)(num:Nat×Nat->Nat),VC ⟨E.P,E.sp,⟨w,ids,E.gl,M,num,e.next⟩⟩ l e nn g j)(m:∀d a w,nn d->GH E N d G a w->n a w) (o:∀d a w,g d->GH E N d G a w->r a w) (q:∀i d a w,j i d->GH E N d G a w->x i a w):aR E.P l (GH E N e G) n r x:=
 yn nn g j (λw ids M num=>cq f k l e (h w ids M num)) m o q
theorem va(j:aS E.P E.sp)(z:E.P.follows .mixedOrders=true){l:cw}{s:St}{G:ak}{p:Type}(k:Nat)(f:St->p)(d:p->St)(K:p->Prop)(m:St->Prop)(o:Nat->St->Prop)(h:∀(w:World)(ids:List (Nat×Nat))(M:Mem)(num:Nat×Nat->Nat),VC ⟨E.P,E.sp,⟨w,ids,E.gl,M,num,s.next⟩⟩ (l.take k) s (λb=>b.le (cS E) (d (f b)) (K (f b))) m o)(u:∀g,K g->aR E.P (l.drop k) (GH E N (d g) G) n r x) (A:∀b a w,m b->GH E N b G a w->r a w) (C:∀i b a w,o i b->GH E N b G a w->x i a w):aR E.P l (GH E N s G) n r x:=by
 rw[<-ff k l];refine m8 (λa w=>∃g,K g/\GH E N (d g) G a w) (lY j z _ m o h (λb a w t e=>⟨_,e.le t⟩) A C) ?_;exact p4 (Pre':=λ(g:{g // K g})=>GH E N (d g.1) G) (λa w ⟨g,y,e⟩=>⟨⟨g,y⟩,e⟩) (λg=>u g.1 g.2)
theorem lP(j:aS E.P E.sp)(y:E.P.follows .mixedOrders=true){l:cw}{q:St}{G:ak}{p:Type}(k:Nat)(sw:List (Nat×Nat))(f:St->p)(d:p->St)(K:p->Prop)(m:St->Prop)(o:Nat->St->Prop)(h:∀(w:World)(ids:List (Nat×Nat))(M:Mem)(num:Nat×Nat->Nat),VC ⟨E.P,E.sp,⟨w,ids,E.gl,M,num,q.next⟩⟩ (l.take k) q (λb=>b.uH (cS E) sw (d (f (b.xk sw))) (K (f (b.xk sw)))) m o)(t:∀g,K g->aR E.P (l.drop k) (GH E N (d g) G) n r x) (z:∀b a w,m b->GH E N b G a w->r a w) (A:∀i b a w,o i b->GH E N b G a w->x i a w):aR E.P l (GH E N q G) n r x:=by
 rw[<-ff k l];refine m8 (λa w=>∃g,K g/\GH E N (d g) G a w) (lY j y _ m o h (λb a w s e=>⟨_,e.uH s⟩) z A) ?_;exact p4 (Pre':=λ(g:{g // K g})=>GH E N (d g.1) G) (λa w ⟨g,u,e⟩=>⟨⟨g,u⟩,e⟩) (λg=>t g.1 g.2)
theorem OI{l:cw}{c:Code}{e:St}{G:ak}(t:Bool)(i:l.head?=some c)(g:p6 c=true)(o:lD e.S (pZ c)=ag (.v (.bool t)))(y:t=true->aR E.P (fC c++l.tail) (GH E N e G) n r x) (z:t=false->aR E.P (tM c++l.tail) (GH E N e G) n r x):aR E.P l (GH E N e G) n r x:=by
 intro a w Q h k m s;cases l with
 |nil=>simp at i
 |cons d l=>simp at i;subst i;unfold p6 at g;split at g;rename_i c p q;obtain⟨F,u,H,A,C,f,D⟩:=h.mP;have b:(lD e.S c).rel u (a.eval c):=dJ.fG (E:=⟨E.P,E.sp,lI w E.gl u e.next⟩) f c;simp[pZ]at o;rw[o]at b;refine wp_cond_split (cY b) (λj=>?_) (λj=>?_);exact lM p l Q a w (y j a w Q h k m s);exact lM q l Q a w (z j a w Q h k m s);cases g
theorem dC{l:cw}{c:Code}{Pre:aA}(h:aA)(s:l.head?=some c)(o:FD c=true)(F:aR E.P (cg c) Pre h r (λi a w=>match beq i (cH c)with|true=>h a w|false=>x i a w)) (A:aR E.P l.tail h n r x):aR E.P l Pre n r x:=by
 intro a w Q I D u y;cases l with
 |nil=>simp at s
 |cons d l=>
  simp at s;subst s;unfold FD at o;split at o
  ·rename_i id b;refine wp_block ?_;have z:=F a w (Exit.inBlock id (Exit.then (ng E.P l Q) Q)) I (λg j f=>A g j Q f D u y) (λg j f=>u g j f) ?_;have:=lM b [] _ a w (by simpa[cg]using z);refine wp_mono this ?_;intro e g j G;cases e<;>exact G
   ·intro i g j f;simp[Exit.inBlock];by_cases C:i=id;subst C;rw[ah rfl];simp[cH]at f;exact A g j Q f D u y
    ·rw[ai C];have:beq i id=false:=by
      cases K:beq i id with
      |false=>rfl
      |true=>simp_all
     simp[cH,this]at f;exact y i g j f
  cases o
def lV(P:Program)(b:Array Oper)(i:Nat)(l:cw)(Pre n r:aA)(x:Nat->aA):Prop:=
 ∀(a:Act)(w:World)(Q:Exit->aA),Pre a w->(∀a w,n a w->Q .normal a w)->(∀a w,r a w->Q .ret a w)->(∀i a w,x i a w->Q (.exit i) a w)->wpOps P b (Exit.then (ng P l Q) Q) (List.range' i (b.size-i)) a w
theorem U6{l:cw}{rid:Nat}{b:Array Oper}{Pre:aA}(d:l.head?=some (.region rid b false))(h:lV E.P b 0 l.tail Pre n r x):aR E.P l Pre n r x:=by
 intro a w Q f e g i;cases l with
 |nil=>simp at d
 |cons c l=>simp at d;subst d;refine wp_region ?_;have:=h a w Q f e g i;rw[<-List.range_eq_range']at this;exact this
theorem KN{l:cw}{b:Array Oper}{i:Nat}{Pre:aA}(c:b.size<=i)(h:aR E.P l Pre n r x):lV E.P b i l Pre n r x:=by intro a w Q e d f g;rw[Nat.sub_eq_zero_of_le c];exact h a w Q e d f g
theorem jx{l:cw}{ops:Array Oper}{i:Nat}{Pre b:aA}(h:∀a w,Pre a w->b a w)(c:lV E.P ops i l b n r x):lV E.P ops i l Pre n r x:=λa w Q d=>c a w Q (h a w d)
theorem SH(D:aS E.P E.sp){l:cw}{c:Array Oper}{i:Nat}{I:St}{G:ak}{H:Type}(j:Nat)(f:St->H)(L:H->St)(K:H->Prop)(X:i<=j)(hj:j<=c.size)(R:∀(w:World)(ids:List (Nat×Nat))(M:Mem)(num:Nat×Nat->Nat),xe ⟨E.P,E.sp,⟨w,ids,E.gl,M,num,I.next⟩⟩ c i ((c.toList.drop i).take (j-i)) I [] (λd _=>({d with next:=d.next+8*j}:St).le (cS E) (L (f {d with next:=d.next+8*j})) (K (f {d with next:=d.next+8*j}))))(T:∀g,K g->lV E.P c j l (GH E N (L g) G) n r x):lV E.P c i l (GH E N I G) n r x:=by
 intro a w Q W A C Y;have m:((c.toList.drop i).take (j-i)).length=j-i:=by rw[c6,gu,mE];omega
 have e:List.range' i (c.size-i)=List.range' i ((c.toList.drop i).take (j-i)).length++List.range' j (c.size-j):=by
  rw[m];conv=>rhs;arg 2;rw[show j=i+1*(j-i)from by omega]
  rw[List.range'_append];congr 1;omega
 rw[e];obtain⟨F,ρ,z,U,V,s,p⟩:=W.mP;refine agh D (R _ _ _ _) (λk o t=>?_) V s (λid b h=>?_) (λd rs O Z q u=>?_);rw[gI,zj]at t;split at t;simpa using t;cases t;have:=p id b h;omega;rw[m,show i+(j-i)=j from by omega]at q;obtain⟨u,y⟩:=GH.le ⟨_,F,z,U,q⟩ u;exact T _ u O Z Q y A C Y
def nD(a:Array Oper)(k:Nat):Option Tmp:=match a[k]? with
 |some o=>o.dst
 |none=>none
def BA(a:Array Oper)(k:Nat):List Operand:=match a[k]? with
 |some ⟨_,.call c,_,_,_,_⟩=>c.args.toList
 |_=>[]
def nr(S:dr)(b:Array Oper):Option (Nat×Bool)->Bool
 |none=>true
 |some (j,a)=>match (b[j]?).bind (·.dst)with
  |some d=>match S d,a with
   |.is (.one .T),true=>true
   |.is (.one .F),false=>true
   |_,_=>false
  |none=>false
def Np(S:dr)(a:Array Oper)(k:Nat)(f:FuncId):Bool:=match a[k]? with
 |some ⟨_,.call ⟨.value o,_,_⟩,_,_,_,g⟩=>nr S a g&&match fG S o with
  |.is (.one (.v (.func (.func g) ⟨[]⟩ ⟨[]⟩)))=>beq g f
  |_=>false
 |_=>false
theorem ajT{A:Array Oper}{k:Nat}{L:St}{G:ak}{f:FuncId}{fn:Func}
  {α:Type} (sv:α->SV) (G2:α->ak) (J:α->Prop)
  (s:Np L.S A k f=true) (hf:aF E.P f fn)
  (h2:∀(O:World)(ρ:aI)(us:bn)(F:Nat->Prop),G.P O ρ.M F->Mem.le ρ.M (cR O)->tC E.gl ρ.M->(∀b,F b->∀l,ρ.M b≠some l)->bW ρ ((BA A k).map (fG L.S)) us ->
   Calls E.P f ⟨us⟩ O λe W=>∃g v F2 M2,J g/\e=.returned v/\(G2 g).P W M2 F2/\(∀b,F2 b->F b\/O.heap.size<=b)/\rX F O W/\Mem.le ρ.M M2/\(∀b l,M2 b=some l->cR W b=some l/\¬F2 b/\(O.heap.size<=b\/F b\/ρ.M b=some l))/\∀ρ':aI,aI.le ρ ρ'->ρ'.M=M2->(sv g).rel ρ' v)
  {C:aA} {Q:Exit->aA} (h4:∀g,J g->∀a w,GH E N (L.put (nD A k) (sv g)) (G2 g) a w->C a w) {V:Act} {O:World} (y9:GH E N L G V O):∃o,A[k]?=some o/\Region.wanted o (yielded A V.tmps)=true/\o.wp E.P V O C Q:=by
 obtain⟨y,o,args,ts,ty,pos,af,gd,ho,z1,R⟩:∃y o args ts ty pos af gd,A[k]?=some ⟨y,.call ⟨.value o,args,ts⟩,ty,pos,af,gd⟩/\fG L.S o=ag (.v (.func (.func f) ⟨[]⟩ ⟨[]⟩))/\nr L.S A gd=true:=by unfold Np at s;split at s;rename_i h;simp at s;obtain⟨y8,s⟩:=s;split at s;rename_i z2;have:=ca s;subst this;exact⟨_,_,_,_,_,_,_,_,h,z2,y8⟩;cases s;cases s
 have x9:nD A k=y:=by unfold nD;rw[ho]
 have x1:BA A k=args.toList:=by unfold BA;rw[ho]
 rw[x9]at h4;rw[x1]at h2;obtain⟨F,D,q,y3,Z,c,H⟩:=y9.mP;refine⟨_,ho,?_,?_⟩
 ·unfold Region.wanted;cases gd with
  |none=>rfl
  |some p=>obtain⟨j,z5⟩:=p;unfold nr at R;simp only at R;split at R;rename_i d hd;have I:=c.aW d;split at R;rename_i hT;rw[hT]at I;have I:=I;have I:=(oZ I).1;simp only[pV hd I];rfl;rename_i hF;rw[hF]at I;have I:=I;have I:=(oZ I).1;simp only[pV hd I];rfl;cases R;cases R
 have y7:=by have h:=dJ.fG (E:=⟨E.P,E.sp,lI O E.gl D L.next⟩) c o;rw[z1]at h;exact cY h
 have ex:execOp V.eval ⟨y,.call ⟨.value o,args,ts⟩,ty,pos,af,gd⟩=(callFunc f ((#[]++args.map V.eval) ++ #[])):=by show(do let d <-Deferred.ofValue (V.eval o) (args.map V.eval);invoke d.target d.args)=_;rw[y7];rfl
 have x6:(#[]++args.map V.eval) ++ #[]=(⟨args.toList.map V.eval⟩:Array Value):=by apply lk;simp
 unfold Oper.wp;rw[ex,x6,hf.2];have x8:Mem.le D.M (cR O):=λb l u=>by obtain⟨_,el,fr,h⟩:=c.mem b l u;exact lQ h
 have x4:=dJ.akN (E:=⟨E.P,E.sp,lI O E.gl D L.next⟩) c args.toList;refine(h2 O D _ F y3 x8 (λg e x hg=>c.glob g e x hg) (λb u l hl=>q.mem b u l hl) x4).mono ?_;rintro e W ⟨g,v,F2,M2,hJ,rfl,y4,x7,z,X,x0,z3⟩;have z4:=λb l u=>su (x8 b l u);let K:aI:=⟨D.m,D.n,M2⟩;have U:aI.le D K:=⟨λi b h=>⟨h,rfl⟩,X⟩;have ox:∀id b,D id=some b->¬F b:=λid b u hF=>by have h:=q.own b hF;rw[fZ.2 ⟨id,H id b u,u⟩]at h;cases h
 have Y:=z.block;have x3:dJ (lI W E.gl K L.next) N (gW N y (sv g) L.S) L.B K (V.put y v) W:=by
  refine⟨by rw[put_defers];exact c.defers,by rw[CD];exact c.size,?_,mV.refl _,?_,c.inj,λid b h=>⟨.inr (fZ.2 ⟨id,H id b h,h⟩),gJ (c.bound id b h).2 z.size⟩,λp hp=>⟨(bI.1 hp).2,rfl⟩,?_,λb l h _=>.inr h,?_,λp hp=>(bI.1 hp).1,Mem.le_refl _⟩
  ·intro t;rw[FT y v t c.size];cases y with
   |none=>exact SV.gM U (c.aW t)
   |some d=>simp only[gW];by_cases hc:t=d/\d<N;simp[hc,and_self,jo];exact z3 K U rfl;simp only[hc,mq];exact SV.gM U (c.aW t)
  intro id cs T x2 b u;obtain⟨l,y5,y6⟩:=c.bQ id cs T x2 b u;refine⟨l,?_,fi U y6⟩;obtain⟨y2,el,fr,k1,k2⟩:=y5;exact⟨y2,el,fr,(Y b (c.bound id b u).2 (ox id b u)).trans k1,k2⟩;intro b l u;obtain⟨h1,h2,h3⟩:=x0 b l u;refine⟨λi cs hi x2 x5=>?_,jA h1⟩;rcases h3 with h3|h3|h3;have:=(c.bound i b x5).2;omega;exact ox i b x5 h3;exact(c.mem b l h3).1 i cs hi x2 x5;intro gg e x hg;exact l7 U.mem (c.glob gg e x hg)
 have y0:GOk E (lI W E.gl K L.next) F2:=by
  refine⟨rfl,⟨z.os.trans q.kep.os,z.tape.trans q.kep.tape,z.output.trans q.kep.output,fw q.kep.size z.size,λb u I=>?_⟩,λp hp=>q.ids p (bI.2 (bI.1 hp)),λb u=>?_,λb u=>?_,λb u l hl=>?_,λb l u z0=>?_,λp hp=>bI.2 (bI.1 (q.zY p hp)),q.plt,λb l u=>X b l (q.mle b l u)⟩;have:=q.kep.size;refine(Y b (gJ u this) (λhF=>?_)).trans (q.kep.block b u I);rcases q.foot b hF with h|h;exact I h;omega;have:=q.kep.size;rcases x7 b u with h|h;exact q.foot b h;exact .inr (fw this h)
  ·cases hc:(lI W E.gl K L.next).own b with
   |false=>rfl
   |true=>obtain⟨id,_,T⟩:=fZ.1 hc;have T:=T;rcases x7 b u with h|h;exact(ox id b T h).elim;have:=(c.bound id b T).2;omega
  exact(x0 b l hl).2.1 u;rcases (x0 b l u).2.2 with h|h|h;have:=q.kep.size;have h6:E.w.heap.size<=O.heap.size:=this;omega;rcases q.foot b h with h|h;exact .inl h;omega;exact q.bJ b l h z0
 have y1:((L.put y (sv g)).S=gW N y (sv g) L.S):=by rw[Jr,Z]
 refine h4 g hJ _ W ⟨_,F2,y0,y4,by rw[By];exact Z,K,?_,λid b h=>by rw[CC];exact H id b h⟩;rw[y1,Nu];exact x3
theorem Ry{P:Program}{a:FuncId->Option Spec}{W c:dn}{b:St}:∀rs:List ResultVar,uj ⟨P,a,W⟩ b rs=uj ⟨P,a,c⟩ b rs:=by
 intro rs;induction rs with
 |nil=>rfl
 |cons r rs d=>
  have h:FW ⟨P,a,W⟩ b r=FW ⟨P,a,c⟩ b r:=by cases r<;>rfl
  simp[uj,d,h]
theorem YW{P:Program}{a:FuncId->Option Spec}{W c:dn}{b:St}{fn:Func}{Q:SV->St->Prop}(h:m6 ⟨P,a,W⟩ fn Q b):m6 ⟨P,a,c⟩ fn Q b:=by unfold m6 Jv at h⊢;rw[Ry]at h;exact h
def du(E:cJ)(fn:Func)(Q:SV->ak->Prop)(a:Act)(w:World):Prop:=
 ∃b G W,GH E fn.ntmps b G a w/\m6 ⟨E.P,E.sp,W⟩ fn (λsv _=>Q sv G) b
theorem gfn{f:FuncId}{fn:Func}(hf:E.P.funcs[f]?=some fn)(t:fn.body.isSome=true){args:dq}{A:bn}{M:Mem}{C:Nat->Prop}{R:ak}{Q:SV->ak->Prop}(H:E.M=M) (hM:Mem.le M (cR E.w)) (K:tC E.gl M) (hv:bW (aI.start M) args A) (hn:args.length<=fn.ntmps) (hG:R.P E.w M C) (o:E.pins=[]) (T:∀b,C b->E.S b/\∀l,M b≠some l)(h:aR E.P (aq fn) (GH E fn.ntmps (lK fn args [] 0) R) (du E fn Q) (du E fn Q) (λ_ _ _=>False)):
  Calls E.P f ⟨A⟩ E.w λe s=>∃v d G F ρ,e=.returned v/\d.rel ρ v/\Q d G/\G.P s ρ.M F/\rX E.S E.w s/\Mem.le ρ.M (cR s)/\(∀b,F b->E.S b\/E.w.heap.size<=b)/\(∀b,F b->∀l,ρ.M b≠some l)/\(∀b l,ρ.M b=some l->b<E.w.heap.size->E.S b\/M b=some l)/\Mem.le M ρ.M:=by
 subst H;obtain⟨c,U⟩:=Option.isSome_iff_exists.1 t;have L:Start ⟨E.w,[],E.gl,E.M,λ_=>0,0⟩ [] 0 (aI.start E.M):=
  ⟨λid cs h=>by simp[eA]at h,λid x0 cs Z b h=>by simp[eA]at h,λ_ _ h=>by simp[aI.start]at h,λ_ h=>by simp at h,λ_ _ h=>by simp[aI.start]at h,
   λb l g=>⟨λi cs h=>by simp[eA]at h,jA (hM b l g)⟩,λb l g _=>.inr g,K,λ_ h=>by simp at h,Mem.le_refl _⟩
 have hh:=AP (E:=⟨E.P,E.sp,⟨E.w,[],E.gl,E.M,λ_=>0,0⟩⟩) L hv hn;refine calls_of_wp hf U ?_;have q:∀a w,du E fn Q a w->a.defers=[]/\∃v,(results fn a.tmps).run E.P w=.ok v w/\∃X d G F ρ,(Ending.returned v)=.returned X/\SV.rel ρ d X/\Q d G/\G.P w ρ.M F/\rX E.S E.w w/\Mem.le ρ.M (cR w)/\(∀b,F b->E.S b\/E.w.heap.size<=b)/\(∀b,F b->∀l,ρ.M b≠some l)/\(∀b l,ρ.M b=some l->b<E.w.heap.size->E.S b\/E.M b=some l)/\Mem.le E.M ρ.M:=by
  rintro a w ⟨Y,G,W,I,u⟩;obtain⟨F,ρ,j,D,hN,k,V⟩:=I.mP;have m:m6 ⟨E.P,E.sp,lI w E.gl ρ Y.next⟩ fn (λd _=>Q d G) Y:=YW u;unfold m6 at m;split at m
  ·rename_i d O;obtain⟨v,g1,g2⟩:=E1 k O
   exact⟨k.defers,v,g1,v,d,G,F,ρ,rfl,g2,m,D,j.kep,λb l g=>by
    obtain⟨_,el,fr,h⟩:=k.mem b l g
    exact lQ h,j.foot,λb g l z=>j.mem b g l z,j.bJ,j.mle⟩
  exact m.elim
 have z:flat c++[]=aq fn:=by simp[aq,U]
 suffices hw:ng E.P (aq fn) (bodyPost E.P fn λe s=>∃v d G F ρ,e=.returned v/\SV.rel ρ d v/\Q d G/\G.P s ρ.M F/\rX E.S E.w s/\Mem.le ρ.M (cR s)/\(∀b,F b->E.S b\/E.w.heap.size<=b)/\(∀b,F b->∀l,ρ.M b≠some l)/\(∀b l,ρ.M b=some l->b<E.w.heap.size->E.S b\/E.M b=some l)/\Mem.le E.M ρ.M) {tmps:=⟨A⟩++Array.replicate (fn.ntmps-(⟨A⟩:Array Value).size) undef,defers:=[]} E.w by refine wp_mono (lM c [] _ _ _ (z▸hw)) ?_;intro e a' s he;cases e<;>exact he
 refine h _ _ _ ⟨⟨E.w,[],E.gl,E.M,λ_=>0,0⟩,C,⟨rfl,⟨rfl,rfl,rfl,aQ _,λ_ _ _=>rfl⟩,λp y=>by simp at y,λb g=>.inl (T b g).1,λb _=>by simp[dn.own],λb g l z=>(T b g).2 l z,λb l h _=>.inr h,λp y=>(by rw[o]at y;cases y),λp y=>(by rw[o]at y;cases y),Mem.le_refl _⟩,hG,hh⟩ (λa w u=>q a w u) (λa w u=>q a w u) (λi a w u=>u.elim)
end
theorem Rf{d a:aI}:∀{l:List Nat}{c:bn},kb d l c->(∀i∈l,a i=d i)->kb a l c:=by
 intro l;induction l with
 |nil=>intro c h _;exact h
 |cons i l m=>intro c⟨b,o,p,e,f⟩g;exact⟨b,o,by simp_all,m e (λj k=>g j (by simp[k])),f⟩
theorem ax.tv{ρ ρ':aI}(d:ρ'.M=ρ.M){c:ax}{w:bn}(h:c.rel ρ w)(g:∀i∈c.ids,ρ' i=ρ i/\ρ'.n i=ρ.n i):c.rel ρ' w:=by
 cases c with
 |ptr id p=>obtain⟨b,m,e⟩:=h;exact⟨b,by rw[(g id (by simp[ax.ids])).1];exact m,e⟩
 |pe id a j c=>obtain⟨b,m,e⟩:=h;exact⟨b,by rw[(g id (by simp[ax.ids])).1];exact m,e⟩
 |sl id a p len c=>rcases h with h|⟨b,o,s,m,t,u,y,e⟩;exact .inl h;exact .inr ⟨b,o,s,by rw[(g id (by simp[ax.ids])).1];exact m,t,u,by rw[(g id (by simp[ax.ids])).2];exact y,e⟩
 |clo f l=>obtain⟨A,t,u⟩:=h;exact⟨A,Rf t (λi z=>(g i z).1),u⟩
 |row e n q=>simp[ax.rel,d];exact h
 |ro e q=>simp[ax.rel,d];exact h
 |rp e q i p=>simp[ax.rel,d];exact h
 |fv e x=>simp[ax.rel,d];exact h
 |rn e q=>simp[ax.rel,d];exact h
 |v x=>exact h
 |T=>exact h
 |F=>exact h
 |ints k n q=>exact h
 |junk=>exact h
theorem D0{ρ ρ':aI}(j:ρ'.M=ρ.M){cs:cb}:∀{a:bn},aH ρ cs a->(∀c∈cs,∀i∈c.ids,ρ' i=ρ i/\ρ'.n i=ρ.n i)->aH ρ' cs a:=by
 induction cs with
 |nil=>intro a h _;exact h
 |cons c cs l=>intro a h b;obtain⟨m,o,e,f,g⟩:=h;exact⟨m,o,e,ax.tv j f (b c az),l g (λd k=>b d (by simp[k]))⟩
theorem TV.tv{ρ ρ':aI}(a:ρ'.M=ρ.M){x:TV}{v:Value}(h:x.rel ρ v)(b:∀i∈x.ids,ρ' i=ρ i/\ρ'.n i=ρ.n i):x.rel ρ' v:=by
 cases x with
 |one c=>exact ax.tv a h b
 |agg cs=>obtain⟨l,e,g⟩:=h;exact⟨l,e,D0 a g (λc d i f=>b i (List.mem_flatMap.2 ⟨c,d,f⟩))⟩
theorem Wh{c a:aI}(j:a.M=c.M){l:List TV}:∀{b:bn},gh c l b->(∀x∈l,∀i∈x.ids,a i=c i/\a.n i=c.n i)->gh a l b:=by
 induction l with
 |nil=>intro b h _;exact h
 |cons x l m=>intro b h d;obtain⟨v,o,e,f,g⟩:=h;exact⟨v,o,e,TV.tv j f (d x az),m g (λy k=>d y (by simp[k]))⟩
theorem SV.tv{ρ ρ':aI}(a:ρ'.M=ρ.M){x:SV}{v:Value}(h:x.rel ρ v)(b:∀i∈x.ids,ρ' i=ρ i/\ρ'.n i=ρ.n i):x.rel ρ' v:=by
 cases x with
 |is x=>exact TV.tv a h b
 |tup l=>obtain⟨g,e,d⟩:=h;exact⟨g,e,Wh a d (λy f i c=>b i (List.mem_flatMap.2 ⟨y,f,c⟩))⟩
 |undef=>exact h
 |junk=>trivial
abbrev pt(p:Nat):Value:=.pointer (some ⟨p,0,none⟩)
def ur(s:SV):List Nat->dq->dq
 |[],l=>l
 |t::a,l=>ur s a (l.set t s)
theorem JA(s:SV):∀(a:List Nat)(l:dq),(ur s a l).length=l.length
 |[],_=>rfl
 |t::a,l=>by rw[ur,JA s a,jT]
theorem Jz(s:SV):∀(a:List Nat)(l:dq)(u:Nat),(ur s a l).getD u .junk=l.getD u .junk\/(u∈a/\(ur s a l).getD u .junk=s)
 |[],_,_=>.inl rfl
 |t::a,l,u=>by rw[ur];rcases Jz s a (l.set t s) u with h|⟨b,c⟩;grind;·simp_all
def FC:Nat->List cb->e5
 |_,[]=>[]
 |i,c::l=>(i,c)::FC (i+1) l
theorem Gy:∀(l:List cb)(i id:Nat),eA (FC i l) id=if i<=id then l[id-i]? else none
 |[],i,id=>by simp[FC,eA]
 |c::l,i,id=>by
  rw[FC,eA,Gy l (i+1) id];by_cases h:i=id;subst h;simp
  ·have:beq i id=false:=by
    cases b:beq i id with
    |false=>rfl
    |true=>exact absurd (ca b) h
   rw[this];by_cases a:i<=id;rw[ah aa,ah a,show id-i=(id-(i+1))+1 from by omega,zc];rw[ai aa,ai a]
def ua(a:St)(c:List Nat)(b:List cb):St:=⟨ur (al a.next 0) c a.aW,FC a.next b++a.bQ,a.next+b.length⟩
abbrev cJ.cV(E:cJ)(id p:Nat):cJ:={E with pins:=(id,p)::E.pins,ptop:=id+1}
theorem GH.opened{E:cJ}{N:Nat}{d:St}{G:ak}{a:Act}{w:World}(hh:GH E N d G a w){α:Type}(G2:α->ak)(H:α->List cb)(J:α->Prop)(ts:List Nat)(p:Nat)(x6:∀t∈ts,d.S t=ag (.v (pt p)))(ho:∀M F,G.P w M F->∃(g:α)(F2:Nat->Prop)(k:List (Option Nat)),J g/\(G2 g).P w M F2/\(∀b,F2 b->F b)/\k.length=(H g).length/\k[0]?=some (some p)/\(∀(i b:Nat),k[i]?=some (some b)->F b/\¬F2 b)/\(∀(i j b:Nat),k[i]?=some (some b)->k[j]?=some (some b)->i=j)/\
   ∀Q:aI,Q.M=M->(∀(i:Nat)(c:Option Nat),k[i]?=some c->Q (d.next+i)=c)->(∀(i b:Nat),k[i]?=some (some b)->Q.n (d.next+i)=eB w b)->∀(i:Nat)(cs:cb)(b:Nat),(H g)[i]?=some cs->k[i]?=some (some b)->∃l,cN w b (eB w b) l/\aH Q cs l):
  ∃g,J g/\GH (E.cV d.next p) N (ua d ts (H g)) (G2 g) a w:=by
 obtain⟨F,O,z,hG,hN,L,hd⟩:=hh.mP;obtain⟨g,F2,k,hJ,x1,U,x8,h0,s,x2,x3⟩:=ho O.M F hG;refine⟨g,hJ,?_⟩;let m:aI:=⟨λid=>if d.next<=id/\id<d.next+k.length then(k[id-d.next]?).join else O id,λid=>if d.next<=id/\id<d.next+k.length then(match (k[id-d.next]?).join with|some b=>eB w b|none=>0)else O.n id,O.M⟩;have A:∀i c,k[i]?=some c->m (d.next+i)=c:=λi c h=>by
  have u:i<k.length:=by rcases cG i k.length with h'|h';exact h';rw[fQ h']at h;cases h
  show(if _ then _ else _)=c;rw[ah ⟨aa,aa⟩,show d.next+i-d.next=i from by omega,h];rfl
 have D:∀i b,k[i]?=some (some b)->m.n (d.next+i)=eB w b:=λi b h=>by
  have u:i<k.length:=by rcases cG i k.length with h'|h';exact h';rw[fQ h']at h;cases h
  show(if _ then _ else _)=_;rw[ah ⟨aa,aa⟩,show d.next+i-d.next=i from by omega,h];rfl
 have T:∀id,¬(d.next<=id/\id<d.next+k.length)->m id=O id/\m.n id=O.n id:=λid h=>⟨by show(if _ then _ else _)=_;rw[ai h],by show(if _ then _ else _)=_;rw[ai h]⟩;have f:∀id b,m id=some b->(∃i,id=d.next+i/\i<k.length/\k[i]?=some (some b))\/(id<d.next/\O id=some b):=by grind
 have V:aI.le O m:=⟨λid b h=>by
  have x5:=hd id b h;obtain⟨I,K⟩:=T id aa
  exact⟨I.trans h,K⟩,λb l h=>h⟩
 have ox:∀id b,O id=some b->¬F b:=λid b o hF=>by have h:=z.own b hF;rw[fZ.2 ⟨id,hd id b o,o⟩]at h;cases h
 have R:∀id b,m id=some b->id<d.next+(H g).length:=λid b h=>by rcases f id b h with ⟨i,rfl,u,_⟩|⟨u,_⟩<;>omega
 have hB:∀id cs,(ua d ts (H g)).B id=some cs->(∃i,id=d.next+i/\(H g)[i]?=some cs)\/(¬(d.next<=id/\id<d.next+k.length)/\d.B id=some cs):=by
  intro id cs h;have h:eA (FC d.next (H g)++d.bQ) id=some cs:=h;rw[EH,Gy]at h;by_cases hc:d.next<=id
  ·rw[ah hc]at h;cases hq:(H g)[id-d.next]? with
   |some c=>rw[hq]at h;exact .inl ⟨id-d.next,aa,hq.trans h⟩
   |none=>rw[hq]at h;have:=List.getElem?_eq_none_iff.1 hq;exact .inr ⟨aa,h⟩
  rw[ai hc]at h;exact .inr ⟨aa,h⟩
 refine⟨lI w E.gl m (d.next+(H g).length),F2,⟨rfl,z.kep,λq hq=>?_,λb o=>z.foot b (U b o),λb o=>?_,λb o l hl=>z.mem b (U b o) l hl,z.bJ,λq hq=>?_,λq hq=>?_,z.mle⟩,x1,?_,m,
  ⟨L.defers,L.size,?_,mV.refl _,?_,?_,λid b h=>⟨.inr (fZ.2 ⟨id,R id b h,h⟩),?_⟩,λq hq=>⟨(bI.1 hq).2,rfl⟩,?_,λb l h _=>.inr h,L.glob,λq hq=>(bI.1 hq).1,Mem.le_refl _⟩,R⟩
 rcases f q.1 q.2 (bI.1 hq).2 with ⟨i,_,_,h⟩|⟨I,K⟩;exact z.foot q.2 (s i q.2 h).1;exact z.ids q (bI.2 ⟨I,K⟩)
 ·cases hc:(lI w E.gl m (d.next+(H g).length)).own b with
  |false=>rfl
  |true=>obtain⟨id,_,h⟩:=fZ.1 hc;rcases f id b h with ⟨i,_,_,h⟩|⟨_,h⟩;exact((s i b h).2 o).elim;exact(ox id b h (U b o)).elim
 ·have x9:0<k.length:=by
   rcases cG 0 k.length with h'|h';exact h';rw[fQ h']at h0;cases h0
  rcases mem_cons.1 hq with rfl|hq
  ·refine bI.2 ⟨aa,?_⟩;have:=A 0 _ h0
   rwa [lf]at this
  have h:=bI.1 (z.zY q hq);exact bI.2 ⟨gJ h.1 (vX _ _),(V.id _ _ h.2).1⟩
 rcases mem_cons.1 hq with rfl|hq;exact Nat.lt_succ_self _;have h:=bI.1 (z.zY q hq);exact DQ h.1;show(ur _ ts d.aW).length=N;rw[JA];exact hN;intro t;show((ur (al d.next 0) ts d.aW).getD t .junk).rel m _;rcases Jz (al d.next 0) ts d.aW t with h|⟨I,K⟩;rw[h];exact SV.gM V (L.aW t);rw[K];have hv:=L.aW t;rw[x6 t I]at hv;have hv:=cY hv;rw[hv];have:=A 0 _ h0;rw[lf]at this;exact⟨p,this,rfl⟩
 ·intro id cs x4 W b o;rcases hB id cs x4 with ⟨i,rfl,u⟩|⟨hc,u⟩
  ·rcases f _ b o with ⟨j,e,_,h⟩|⟨I,_⟩
   ·have:i=j:=by omega
    subst this;obtain⟨l,Y,Z⟩:=x3 m rfl A D i cs b u h;exact⟨l,by rw[D i b h];exact Y,Z⟩
   omega
  obtain⟨I,K⟩:=T id hc;rw[I]at o;obtain⟨l,Y,Z⟩:=L.bQ id cs u W b o;exact⟨l,by rw[K];exact Y,fi V Z⟩
 intro i j cs x0 b I K h3 h4 h5 h6;rcases f i b h5 with ⟨x,e1,_,g1⟩|⟨e1,g1⟩<;>rcases f j b h6 with ⟨y,e2,_,g2⟩|⟨e2,g2⟩;rw[e1,e2,x2 x y b g1 g2];exact(ox j b g2 (s x b g1).1).elim;exact(ox i b g1 (s y b g2).1).elim;rcases hB i cs I with ⟨x,rfl,_⟩|⟨_,Y⟩;omega;rcases hB j x0 h3 with ⟨y,rfl,_⟩|⟨_,Z⟩;omega;exact L.inj i j cs x0 b Y K Z h4 g1 g2;rcases f id b h with ⟨i,_,_,h⟩|⟨_,h⟩;exact G.lt _ _ _ hG b (s i b h).1;exact(L.bound id b h).2;intro b l o;obtain⟨Y,Z⟩:=L.mem b l o;refine⟨λi cs u W x7=>?_,Z⟩;rcases f i b x7 with ⟨x,_,_,h⟩|⟨x5,h⟩;exact z.mem b (s x b h).1 l o;rcases hB i cs u with ⟨x,rfl,_⟩|⟨_,u⟩;omega;exact Y i cs u W h
def I0(K:List Nat)(v:SV):SV:=match v.ids.all (λi=>dQ i K)with
 |true=>v
 |false=>.junk
def A3(K:List Nat)(id p:Nat):SV->SV
 |.is (.one (.ptr i 0))=>match beq i id with
  |true=>ag (.v (pt p))
  |false=>I0 K (al i 0)
 |v=>I0 K v
def ahx(K:List Nat)(B:b8)(i:Nat):cb:=match B i with
 |some cs=>match cs.all λc=>c.ids.all λj=>dQ j K with
  |true=>cs
  |false=>[]
 |none=>[]
def mA(a:St)(K:List Nat)(id p:Nat):St:=⟨a.aW.map (A3 K id p),K.map (λi=>(i,ahx K a.B i)),a.next⟩
def iA(B:b8)(K:List Nat):Bool:=K.all λi=>match B i with
 |some (_::_)=>true
 |_=>false
theorem Mt(f:Nat->cb):∀(K:List Nat)(i:Nat)(cs:cb),eA (K.map λi=>(i,f i)) i=some cs->i∈K/\cs=f i
 |[],_,_,h=>by simp[eA]at h
 |k::K,i,cs,h=>by
  rw[eV,eA]at h;cases c:beq k i with
  |true=>simp_all
  |false=>rw[c]at h;obtain⟨a,b⟩:=Mt f K i cs h;exact⟨zf _ a,b⟩
theorem GH.closed{Y:cJ}{N:Nat}{f:St}{G2:ak}{a:Act}{w:World}(hh:GH Y N f G2 a w){α:Type}(G:α->ak)(J:α->Prop)(K L:List Nat)(id p:Nat)(pins:List (Nat×Nat))(ptop:Nat)(x2:(id,p)∈Y.pins) (R:∀q∈pins,q∈Y.pins/\dQ q.1 K=true/\q.1<ptop) (x4:∀i∈L,dQ i K=false) (X:iA f.B K=true) (d:iA f.B L=true)(hc:∀(ρ:aI)(F:Nat->Prop),G2.P w ρ.M F->ρ id=some p->(∀i∈L,∀cs b,f.B i=some cs->ρ i=some b->∃l,cN w b (ρ.n i) l/\aH ρ cs l)->(∀i∈L,∀j∈L,∀b,ρ i=some b->ρ j=some b->i=j)->(∀i∈L,∀b,ρ i=some b->¬F b/\b<w.heap.size/\∀l,ρ.M b≠some l) ->
   ∃g F',J g/\(G g).P w ρ.M F'/\∀b,F' b->F b\/∃i∈L,ρ i=some b):
  ∃g,J g/\GH {Y with pins:=pins,ptop:=ptop} N (mA f K id p) (G g) a w:=by
 obtain⟨F,ρ,T,hG,hN,A,hd⟩:=hh.mP;have y:∀(Q:List Nat),iA f.B Q=true->∀i∈Q,∃cs,f.B i=some cs/\cs≠[]:=by
  intro Q hQ i o;have:=all_eq_true.1 hQ i o;revert this;cases k:f.B i with
  |none=>intro h;cases h
  |some cs=>
   cases cs with
   |nil=>intro h;cases h
   |cons c cs=>intro _;exact⟨_,rfl,az⟩
 have ox:∀i b,ρ i=some b->¬F b:=λi b k hF=>by have h:=T.own b hF;rw[fZ.2 ⟨i,hd i b k,k⟩]at h;cases h
 have x1:=(bI.1 (T.zY _ x2)).2;obtain⟨g,F',hJ,x3,W⟩:=hc ρ F hG x1
  (λi o cs b x0 k=>by
   obtain⟨u,I,D⟩:=y L d i o;rw[x0]at I;cases I
   exact A.bQ i cs x0 D b k)
  (λi o j hj b I D=>by
   obtain⟨cs,H,C⟩:=y L d i o;obtain⟨u,k3,Z⟩:=y L d j hj
   exact A.inj i j cs u b H C k3 Z I D)
  (λi o b k=>⟨ox i b k,(A.bound i b k).2,λl hl=>by
   obtain⟨cs,H,C⟩:=y L d i o
   exact(A.mem b l hl).1 i cs H C k⟩)
 refine⟨g,hJ,?_⟩;let m:aI:=⟨λi=>match dQ i K with|true=>ρ i|false=>none,ρ.n,ρ.M⟩;have U:∀i b,m i=some b->dQ i K=true/\ρ i=some b:=λi b h=>by
  have h:(match dQ i K with|true=>ρ i|false=>none)=some b:=h;cases s:dQ i K with
  |true=>rw[s]at h;exact⟨rfl,h⟩
  |false=>rw[s]at h;cases h
 have V:∀i,dQ i K=true->m i=ρ i/\m.n i=ρ.n i:=λi h=>⟨by show(match dQ i K with|true=>ρ i|false=>none)=_;rw[h],rfl⟩;have O:∀(v:SV)(x:Value),v.rel ρ x->(I0 K v).rel m x:=λv x h=>by
  unfold I0;cases s:v.ids.all (λi=>dQ i K)with
  |true=>exact SV.tv (ρ:=ρ) (ρ':=m) rfl h (λi o=>V i (all_eq_true.1 s i o))
  |false=>trivial
 have hB:∀i cs,(mA f K id p).B i=some cs->cs≠[]->dQ i K=true/\f.B i=some cs/\∀c∈cs,∀j∈c.ids,dQ j K=true:=by intro i cs h z;obtain⟨I,D⟩:=Mt _ K i cs h;refine⟨Hw I,?_⟩;unfold ahx at D;split at D;grind;exact(z D).elim
 refine⟨lI w Y.gl m f.next,F',⟨rfl,T.kep,λq s=>?_,λb k=>?_,λb k=>?_,λb k l hl=>?_,T.bJ,λq s=>?_,λq s=>(R q s).2.2,T.mle⟩,x3,?_,m,
  ⟨A.defers,A.size,?_,mV.refl _,?_,?_,λi b h=>⟨.inr (fZ.2 ⟨i,hd i b (U i b h).2,h⟩),(A.bound i b (U i b h).2).2⟩,λq s=>⟨(bI.1 s).2,rfl⟩,?_,λb l h _=>.inr h,A.glob,λq s=>(bI.1 s).1,Mem.le_refl _⟩,λi b h=>hd i b (U i b h).2⟩
 have h:=(U _ _ (bI.1 s).2).2;exact T.ids q (bI.2 ⟨hd _ _ h,h⟩);rcases W b k with h|⟨i,_,h⟩;exact T.foot b h;exact T.ids (i,b) (bI.2 ⟨hd _ _ h,h⟩)
 ·cases s:(lI w Y.gl m f.next).own b with
  |false=>rfl
  |true=>obtain⟨j,_,hj⟩:=fZ.1 s;obtain⟨j1,j2⟩:=U j b hj;rcases W b k with h|⟨i,o,h⟩;exact(ox j b j2 h).elim;obtain⟨cs,H,C⟩:=y L d i o;obtain⟨u,k3,Z⟩:=y K X j (yt j1);have:=A.inj i j cs u b H C k3 Z h j2;subst this;rw[x4 i o]at j1;cases j1
 rcases W b k with h|⟨i,o,h⟩;exact T.mem b h l hl;obtain⟨cs,H,C⟩:=y L d i o;exact(A.mem b l hl).1 i cs H C h;obtain⟨I,D,_⟩:=R q s;have h:=bI.1 (T.zY q I);exact bI.2 ⟨h.1,by rw[(V _ D).1];exact h.2⟩;show(f.aW.map _).length=N;rw[b5];exact hN
 ·intro t;have hv:=A.aW t;have e:(mA f K id p).S t=match f.aW[t]? with|some v=>A3 K id p v|none=>.junk:=by
   show(f.aW.map (A3 K id p)).getD t .junk=_;rw[bx,dM];cases f.aW[t]? <;> rfl
  have e2:f.S t=match f.aW[t]? with|some v=>v|none=>.junk:=by show f.aW.getD t .junk=_;rw[bx];cases f.aW[t]? <;> rfl
  rw[e];rw[e2]at hv;cases s:f.aW[t]? with
  |none=>trivial
  |some v=>
   rw[s]at hv;show(A3 K id p v).rel m _;unfold A3;split
   ·rename_i i;cases k:beq i id with
    |true=>have:=ca k;subst this;obtain⟨b,I,D⟩:=hv;rw[x1]at I;cases I;exact⟨D,rfl⟩
    |false=>exact O _ _ hv
   exact O _ _ hv
 intro i cs o z b k;obtain⟨I,D,h4⟩:=hB i cs o z;obtain⟨l,H,C⟩:=A.bQ i cs D z b (U i b k).2;exact⟨l,H,D0 (ρ:=ρ) (ρ':=m) rfl C (λc hc j hj=>V j (h4 c hc j hj))⟩;intro i j cs u b H C k3 Z k5 k6;exact A.inj i j cs u b (hB i cs H C).2.1 C (hB j u k3 Z).2.1 Z (U i b k5).2 (U j b k6).2;intro b l k;obtain⟨H,C⟩:=A.mem b l k;exact⟨λi cs o z x5=>H i cs (hB i cs o z).2.1 z (U i b x5).2,C⟩
def ax.ui(f:Nat->Nat):ax->ax
 |.ptr i o=>.ptr (f i) o
 |.pe i b j c=>.pe (f i) b j c
 |.sl i b o l c=>.sl (f i) b o l c
 |.clo g l=>.clo g (l.map f)
 |c=>c
theorem Rh{e a:aI}{f:Nat->Nat}:∀{l:List Nat}{c:bn},kb e l c->(∀i∈l,∀b,e i=some b->a (f i)=some b)->kb a (l.map f) c:=by
 intro l;induction l with
 |nil=>intro c h _;exact h
 |cons i l p=>intro c⟨b,q,g,k,m⟩d;exact⟨b,q,d i az b g,p k (λj o=>d j (by simp[o])),m⟩
theorem agA{y a:aI}{f:Nat->Nat}(q:Mem.le y.M a.M){c:ax}{A:bn}(h:c.rel y A)(u:∀i∈c.ids,∀b,y i=some b->a (f i)=some b/\a.n (f i)=y.n i):(ax.ui f c).rel a A:=by
 cases c with
 |ptr id t=>obtain⟨b,s,e⟩:=h;exact⟨b,(u id (by simp[ax.ids]) b s).1,e⟩
 |pe id d j c=>obtain⟨b,s,e⟩:=h;exact⟨b,(u id (by simp[ax.ids]) b s).1,e⟩
 |sl id d t len c=>rcases h with h|⟨b,o,z,s,m,p,C,e⟩;exact .inl h;obtain⟨H,I⟩:=u id (by simp[ax.ids]) b s;exact .inr ⟨b,o,z,H,m,p,by rw[I];exact C,e⟩
 |clo g l=>obtain⟨K,m,p⟩:=h;exact⟨K,Rh m (λi G b D=>(u i G b D).1),p⟩
 |row e n w=>exact⟨h.1,fe (λ_ _=>dT q) h.2⟩
 |ro e w=>exact dT q h
 |rp e w i t=>obtain⟨b,o,m,p⟩:=h;exact⟨b,o,l7 q m,p⟩
 |fv e x=>exact⟨dT q h.1,h.2⟩
 |rn e w=>exact⟨dT q h.1,h.2⟩
 |v x=>exact h
 |T=>exact h
 |F=>exact h
 |ints k n w=>exact h
 |junk=>exact h
theorem Qm{ρ ρ':aI}{f:Nat->Nat}(l:Mem.le ρ.M ρ'.M):∀{cs:cb}{a:bn},aH ρ cs a->(∀c∈cs,∀i∈c.ids,∀b,ρ i=some b->ρ' (f i)=some b/\ρ'.n (f i)=ρ.n i)->aH ρ' (cs.map (ax.ui f)) a:=by
 intro cs;induction cs with
 |nil=>intro a h _;exact h
 |cons c cs o=>intro a⟨p,q,e,j,k⟩g;exact⟨p,q,e,agA l j (g c az),o k (λd m=>g d (by simp[m]))⟩
def GB(a:List (Option Nat))(w:World)(M:Mem):aI:=⟨λi=>(a[i]?).join,λi=>match (a[i]?).join with|some b=>eB w b|none=>0,M⟩
theorem join_some{a:List (Option Nat)}{i b:Nat}:(a[i]?).join=some b↔a[i]?=some (some b):=by
 cases h:a[i]? with
 |none=>simp
 |some c=>simp
def ak.obj(bl:List cb)(p:Nat)(sub:ak):ak where
 P w M F:=∃(bs:List (Option Nat))(F2:Nat->Prop),sub.P w M F2/\bs.length=bl.length/\bs[0]?=some (some p)/\(∀b,F b↔(F2 b\/∃i:Nat,bs[i]?=some (some b)))/\(∀(i:Nat)(b:Nat),bs[i]?=some (some b)->¬F2 b/\b<w.heap.size)/\
  (∀(i j b:Nat),bs[i]?=some (some b)->bs[j]?=some (some b)->i=j)/\∀(i:Nat)(cs:cb)(b:Nat),bl[i]?=some cs->bs[i]?=some (some b)->∃l,cN w b (eB w b) l/\aH (GB bs w M) cs l
 mono w M M' F hM h:=by obtain⟨bs,F2,h1,h2,h3,h4,h5,h6,h7⟩:=h;refine⟨bs,F2,sub.mono _ _ _ _ hM h1,h2,h3,h4,h5,h6,λi cs b hi hb=>?_⟩;obtain⟨l,k1,k2⟩:=h7 i cs b hi hb;exact⟨l,k1,fi (ρ:=GB bs w M) (ρ':=GB bs w M') ⟨λ_ _ h=>⟨h,rfl⟩,hM⟩ k2⟩
 stable w w' M F h hs:=by
  obtain⟨bs,F2,h1,h2,h3,h4,h5,h6,h7⟩:=h;have hheap:∀(i b:Nat),bs[i]?=some (some b)->w'.heap[b]?=w.heap[b]?:=λi b hb=>hs b ((h4 b).2 (.inr ⟨i,hb⟩));have hsz:∀(i b:Nat),bs[i]?=some (some b)->eB w' b=eB w b:=λi b hb=>by unfold eB;rw[hheap i b hb]
  have hobr:GB bs w' M=GB bs w M:=by
   unfold GB;congr 1;funext i;cases hq:(bs[i]?).join with
   |none=>rfl
   |some b=>exact hsz i b (join_some.1 hq)
  refine⟨bs,F2,sub.stable _ _ _ _ h1 (λb hb=>hs b ((h4 b).2 (.inl hb))),h2,h3,h4,λi b hb=>⟨(h5 i b hb).1,?_⟩,h6,λi cs b hi hb=>?_⟩;have hlt:=(h5 i b hb).2;rcases cG b w'.heap.size with h'|h';exact h';have:=hheap i b hb;rw[gH h',Array.getElem?_eq_getElem hlt]at this;cases this;obtain⟨l,⟨rest,el,fr,k1,k2⟩,k3⟩:=h7 i cs b hi hb;exact⟨l,⟨rest,el,fr,(hheap i b hb).trans k1,by rw[hsz i b hb];exact k2⟩,by rw[hobr];exact k3⟩
 lt w M F h b hb:=by obtain⟨bs,F2,h1,h2,h3,h4,h5,h6,h7⟩:=h;rcases (h4 b).1 hb with h|⟨i,h⟩;exact sub.lt _ _ _ h1 b h;exact(h5 i b h).2
theorem GH.Vu{E:cJ}{N:Nat}{g:St}{k:List cb}{p:Nat}{e:ak}{a:Act}{w:World}(T:GH E N g (ak.obj k p e) a w)(s:List Nat)(q:∀t∈s,g.S t=ag (.v (pt p))):
  GH (E.cV g.next p) N (ua g s (k.map λcs=>cs.map (ax.ui (g.next + ·)))) e a w:=by
 obtain⟨_,_,h⟩:=T.opened (λ_=>e) (λ_=>k.map λcs=>cs.map (ax.ui (g.next + ·))) (λ_=>True) s p q (λM F R=>by
  obtain⟨u,F2,G,H,I,y,K,L,O⟩:=R;refine⟨(),F2,u,trivial,G,λb f=>(y b).2 (.inl f),by rw[b5];exact H,I,λi b f=>⟨(y b).2 (.inr ⟨i,f⟩),(K i b f).1⟩,L,?_⟩;intro X Q o U i cs b z f;rw[dM]at z;obtain⟨m,C,D⟩:=Option.map_eq_some_iff.1 z;subst D;obtain⟨l,V,W⟩:=O i m b C f;refine⟨l,V,Qm (by rw[Q];exact Mem.le_refl _) W (λc _ j _ A d=>?_)⟩;have d:=join_some.1 d;refine⟨o j _ d,?_⟩;rw[U j A d];show _=(match (u[j]?).join with|some b=>eB w b|none=>0)
  rw[d];rfl)
 exact h
def pos(L:List Nat)(i:Nat):Nat:=match L with
 |[]=>0
 |j::L=>match beq j i with
  |true=>0
  |false=>pos L i+1
theorem K6:∀(L:List Nat)(i:Nat),dQ i L=true->L[pos L i]?=some i
 |[],_,h=>by cases h
 |j::L,i,h=>by
  unfold pos;cases b:beq j i with
  |true=>simp_all
  |false=>
   have:=by
    unfold dQ at h;have a:beq i j=false:=by
     cases c:beq i j with
     |false=>rfl
     |true=>simp_all
    rw[a]at h;exact h
   exact K6 L i this
def uh(B:b8)(i:Nat):cb:=match B i with
 |some cs=>cs
 |none=>[]
def zM(B:b8)(L:List Nat):Bool:=L.all λi=>(uh B i).all λc=>c.ids.all λj=>dQ j L
def mN:List Nat->Bool
 |[]=>true
 |i::L=> !dQ i L&&mN L
theorem zT:∀(L:List Nat),mN L=true->∀(i j x:Nat),L[i]?=some x->L[j]?=some x->i=j
 |[],_,i,j,x,h,_=>by simp at h
 |y::L,a,i,j,x,b,c=>by
  simp[mN]at a;have e:∀(k:Nat),L[k]?=some y->False:=λk d=>by have:=Hw (ft d);rw[a.1]at this;cases this
  cases i with
  |zero=>grind
  |succ i=>
   cases j with
   |zero=>simp_all
   |succ j=>rw[zT L a.2 i j x b c]
theorem GH.ahE{U:cJ}{N:Nat}{f:St}{D:ak}{a:Act}{w:World}(hh:GH U N f D a w)(bl:List cb)(K L:List Nat)(id p:Nat)(pins:List (Nat×Nat))(ptop:Nat)(R:(id,p)∈U.pins) (C:∀q∈pins,q∈U.pins/\dQ q.1 K=true/\q.1<ptop) (W:∀i∈L,dQ i K=false) (A:iA f.B K=true) (d:iA f.B L=true)(h0:L[0]?=some id) (x0:mN L=true) (I:zM f.B L=true) (X:(L.map λi=>(uh f.B i).map (ax.ui (pos L)))=bl):
  GH {U with pins:=pins,ptop:=ptop} N (mA f K id p) (ak.obj bl p D) a w:=by
 subst X
 obtain⟨_,_,h⟩:=hh.closed (λ_=>ak.obj (L.map λi=>(uh f.B i).map (ax.ui (pos L))) p D) (λ_=>True) K L id p pins ptop R C W A d (λρ F hG hp u O z=>by
  have g:∀(i b:Nat),(L.map ρ.m)[i]?=some (some b)->∃j,L[i]?=some j/\ρ j=some b:=λi b h=>by simp_all
  refine⟨(),λb=>F b\/∃i:Nat,(L.map ρ.m)[i]?=some (some b),trivial,⟨L.map ρ.m,F,hG,by rw[b5,b5],by simp_all,λb=>kk,λi b G=>?_,λi j b V Z=>?_,λi cs b V G=>?_⟩,λb G=>G.imp (λq=>q) λ⟨i,h⟩=>?_⟩;obtain⟨j,o,t⟩:=g i b G;obtain⟨k1,k2,_⟩:=z j (ft o) b t;exact⟨k1,k2⟩;obtain⟨x,o,t⟩:=g i b V;obtain⟨y,h3,h4⟩:=g j b Z;have:=O x (ft o) y (ft h3) b t h4;subst this;exact zT L x0 i j x o h3
  ·obtain⟨x,o,t⟩:=g i b G;rw[dM,o]at V;cases V;have s:=ft o;have k:f.B x=some (uh f.B x):=by
    have:=all_eq_true.1 d x s;unfold uh;revert this;cases f.B x with
    |none=>intro h;cases h
    |some cs=>intro _;rfl
   obtain⟨l,k1,k2⟩:=u x s _ b k t;have T:∀(y c:Nat),y∈L->ρ y=some c->ρ.n y=eB w c:=λy c hy Y=>by
    have k:f.B y=some (uh f.B y):=by
     have:=all_eq_true.1 d y hy;unfold uh;revert this;cases f.B y with
     |none=>intro h;cases h
     |some cs=>intro _;rfl
    obtain⟨l,⟨x1,el,fr,g1,g2,_⟩,_⟩:=u y hy _ c k Y;unfold eB;rw[g1];exact g2.symm
   refine⟨l,by rw[<-T x b s t];exact k1,Qm (ρ:=ρ) (ρ':=GB (L.map ρ.m) w ρ.M) (Mem.le_refl _) k2 (λc Y j Z b' H=>?_)⟩;have Q:=all_eq_true.1 (all_eq_true.1 (all_eq_true.1 I x s) c Y) j Z;have hg:=K6 L j Q;have e:(L.map ρ.m)[pos L j]?=some (some b'):=by rw[dM,hg];exact congrArg some H
   refine⟨join_some.2 e,?_⟩;show(match ((L.map ρ.m)[pos L j]?).join with|some b=>eB w b|none=>0)=_;rw[e,T j b' (yt Q) H];rfl
  ·obtain⟨j,o,t⟩:=g i b h
   exact⟨j,ft o,t⟩)
 exact h
theorem GH.zY{E:cJ}{N:Nat}{e:St}{G:ak}{a:Act}{w:World}(s:GH E N e G a w)(t id:Nat)(o:e.S t=al id 0)(d:Nat)(j:id<d)(k:E.ptop<=d):
  ∃p,GH {E with pins:=(id,p)::E.pins,ptop:=d} N e G a w:=by
 obtain⟨F,ρ,c,l,m,h,f⟩:=s.mP;have i:=h.aW t;rw[o]at i;obtain⟨p,g,_⟩:=i;refine⟨p,lI w E.gl ρ e.next,F,⟨rfl,c.kep,c.ids,c.foot,c.own,c.mem,c.bJ,λq hq=>?_,λq hq=>?_,c.mle⟩,l,m,ρ,h,f⟩;rcases mem_cons.1 hq with rfl|hq;exact bI.2 ⟨f _ _ g,g⟩;exact c.zY q hq;rcases mem_cons.1 hq with rfl|hq;exact j;exact gJ (c.plt q hq) k
theorem ri{ρ ρ':aI}(a:ρ'.M=ρ.M){x:SV}{v:Value}(h:x.rel ρ v)(c:x.ids=[]):x.rel ρ' v:=SV.tv a h (λi b=>by simp_all)
def Jb(l:dq):Bool:=l.all λv=>v.ids.isEmpty
theorem ZI{ρ ρ':aI}(g:ρ'.M=ρ.M):∀{l:dq}{a:bn},bW ρ l a->Jb l=true->bW ρ' l a:=by
 intro l;induction l with
 |nil=>intro a h _;exact h
 |cons x l i=>intro a⟨v,c,e,d,f⟩b;simp[Jb]at b;exact⟨v,c,e,ri g d b.1,i f (by simpa[Jb]using b.2)⟩
def fk(P:Program)(j:dF)(f:FuncId){α β:Type}(args:α->dq)(pre:α->Prop)(i:α->ak)(sv:α->β->SV)(G2:α->β->ak)(J:α->β->Prop):Prop:=
 ∀x,pre x->∀(w:World)(M:Mem)(h:bn)(F:Nat->Prop),(i x).P w M F->Mem.le M (cR w)->tC j M->(∀b,F b->∀l,M b≠some l)->bW (aI.start M) (args x) h ->
  Calls P f ⟨h⟩ w λe g=>∃y v F2 d,J x y/\e=.returned v/\(G2 x y).P g d F2/\(∀b,F2 b->F b\/w.heap.size<=b)/\rX F w g/\Mem.le M d/\(∀b l,d b=some l->cR g b=some l/\¬F2 b/\(w.heap.size<=b\/F b\/M b=some l))/\(sv x y).rel (aI.start d) v
abbrev obE(P:Program)(b:FuncId->Option Spec)(a:dF)(w:World)(M:Mem)(F:Nat->Prop):cJ:=⟨P,b,a,w,F,M,[],0⟩
class W3 where
 w:World
 m:Mem
 f:Nat->Prop
abbrev mO[W3](P:Program)(b:FuncId->Option Spec)(a:dF):cJ:=obE P b a W3.w W3.m W3.f
theorem aju{P:Program}{sp:FuncId->Option Spec}{k:dF}{f:FuncId}{fn:Func}{d A:Type}{args:d->dq}{pre:d->Prop}{C:d->ak}{m:d->A->SV}{o:d->A->ak}{J:d->A->Prop}(Q:aF P f fn) (a:fn.body.isSome=true) (T:∀x,(args x).length<=fn.ntmps) (z:∀x y,(m x y).ids=[])(h:∀x,pre x->∀[W3],aR P (aq fn) (GH (mO P sp k) fn.ntmps (lK fn (args x) [] 0) (C x)) (du (mO P sp k) fn λs G=>∃y,J x y/\s=m x y/\G=o x y) (du (mO P sp k) fn λs G=>∃y,J x y/\s=m x y/\G=o x y) (λ_ _ _=>False)):
  fk P k f args pre C m o J:=by
 intro x W w M Y F I O u p V;refine(gfn Q.1 a rfl O u V (T x) I rfl (λb j=>⟨j,p b j⟩) (@h x W ⟨w,M,F⟩)).mono ?_;rintro e Z ⟨v,s,G,F2,ρ,rfl,U,⟨y,K,rfl,rfl⟩,q,L,t,c,g,D,i⟩;refine⟨y,v,F2,ρ.M,K,rfl,q,c,L,i,λb l j=>⟨t b l j,λH=>g b H l j,?_⟩,ri (ρ:=ρ) (ρ':=aI.start ρ.M) rfl U (z x y)⟩;by_cases R:b<w.heap.size;·simp_all
 exact .inl aa
section
variable {E:cJ}{N:Nat}{n r:aA}{x:Nat->aA}
theorem air{l:cw}{c d:St}{G:ak}{K:Prop}(h:c.le (cS E) d K)(e:K->aR E.P l (GH E N d G) n r x):aR E.P l (GH E N c G) n r x:=by intro a w Q g;obtain⟨f,b⟩:=g.le h;exact e f a w Q b
theorem OT{b:St}{p:Nat}{a:List Nat}(h:a.map b.S=a.map λ_=>SV.is (.one (.v (pt p)))):∀t∈a,b.S t=ag (.v (pt p)):=by simp_all
theorem aaZ{l:cw}{a:St}{f:List cb}{p:Nat}{b:ak}(c:List Nat)(d:c.map a.S=c.map λ_=>SV.is (.one (.v (pt p))))(g:St)(e:(ua a c (f.map λcs=>cs.map (ax.ui (a.next + ·)))).le (cS (E.cV a.next p)) g True)(h:aR E.P l (GH (E.cV a.next p) N g b) n r x):aR E.P l (GH E N a (ak.obj f p b)) n r x:=
 qf (λ_ _ i=>((i.Vu c (OT d)).le e).2) h
theorem so{l:cw}{d:Array Oper}{i:Nat}{a:St}{bl:List cb}{p:Nat}{e:ak}(f:List Nat)(g:f.map a.S=f.map λ_=>SV.is (.one (.v (pt p))))(k:St)(j:(ua a f (bl.map λcs=>cs.map (ax.ui (a.next + ·)))).le (cS (E.cV a.next p)) k True)(h:lV E.P d i l (GH (E.cV a.next p) N k e) n r x):lV E.P d i l (GH E N a (ak.obj bl p e)) n r x:=
 jx (λ_ _ o=>((o.Vu f (OT g)).le j).2) h
theorem aaV{a:Act}{w:World}{c:St}{g:List cb}{id p:Nat}{f:ak}(K L:List Nat)(y:E.pins=[])(t:(L.all λi=> !dQ i K)=true)(b:(iA c.B K&&iA c.B L&&mN L&&zM c.B L)=true)(k:L[0]?=some id)(j:(L.map λi=>(uh c.B i).map (ax.ui (pos L)))=g)(d:Nat)(u:GH {E with pins:=[(id,p)],ptop:=d} N c f a w):GH E N (mA c K id p) (ak.obj g p f) a w:=by
 simp at b;obtain⟨⟨⟨l,m⟩,o⟩,s⟩:=b;have h:=u.ahE g K L id p [] E.ptop az (λq z=>by cases z) (λi A=>by simp_all) l m k o s j;have e:({ {E with pins:=[(id,p)],ptop:=d}with pins:=[],ptop:=E.ptop}:cJ)=E:=by cases E;subst y;rfl
 rw[e]at h;exact h
end
def jm(k n:Nat):Array Bool:=⟨replicate k true++replicate (n-k) false⟩
theorem ku{k n:Nat}(h:k<=n):(jm k n).size=n:=by simp[jm];omega
theorem gO{k n:Nat}(j:Nat):(jm k n).getD j false=decide (j<k):=by
 have e:(jm k n)[j]?=(replicate k true++replicate (n-k) false)[j]?:=by simp[jm]
 rw[eh,e];by_cases h:j<k;rw[uS (by simpa using h)];simp[h];rw[vP (by simp;omega),DC];split<;>simp[h]
theorem Cj{a b:Array Bool}(c:a.size=b.size)(h:∀j,a.getD j false=b.getD j false):a=b:=by refine Array.ext c (λi d e=>?_);have:=h i;simp_all
theorem CZ(k n:Nat):Dm (jm k n).toList=n-k:=by unfold Dm jm;simp[List.countP_replicate]
theorem mC{a:Array Bool}{i:Nat}(b:i<a.size)(j:Nat):(a.setIfInBounds i true).getD j false=if j=i then true else a.getD j false:=by
 rw[eh];by_cases h:j=i;·simp_all
 rw[yZ (λe=>h e.symm)];simp[h]
theorem tt{ops:Array Oper}(b:rv ops.toList=true){a:Array Bool}(q:a.size=ops.size)(p:Region.ready .any ops a=[]):∀i,i<ops.size->a.getD i false=true:=by
 have:∀N i,i<N->i<ops.size->a.getD i false=true:=by
  intro N;induction N with
  |zero=>intro i h;omega
  |succ N k=>
   intro i l d;cases s:a.getD i false with
   |true=>rfl
   |false=>
    exfalso;have c:i∈Region.ready .any ops a:=by
     unfold Region.ready;refine List.mem_filter.2 ⟨mem_range.2 d,?_⟩;have j:ops[i]?=some ops[i]:=by simp[d]
     have g:a.getD i true=false:=by grind
     rw[g,j];simp only[wb,fU,c7,mn];rw[qQ];intro e m;cases f:Region.binds .any e with
     |false=>rfl
     |true=>have o:=ln b (by simp[d]:ops.toList[i]?=some ops[i]) e (by simpa using m) f;simp[k e.on aa aa]
    rw[p]at c;cases c
 exactλi l=>this (i+1) i aa l
theorem lx{ops:Array Oper}{a:Array Bool}(j:a.size=ops.size){i:Nat}:i∈Region.ready .any ops a↔∃o,ops[i]?=some o/\a.getD i false=false/\∀d∈o.after.toList,Region.binds .any d=true->a.getD d.on false=true:=by
 unfold Region.ready;rw[zq,mem_range];constructor
 ·rintro⟨f,h⟩;have b:ops[i]?=some ops[i]:=by simp[f]
  simp only[bD,b,fU,c7]at h;obtain⟨k,g⟩:=h;refine⟨_,b,?_,λd c e=>?_⟩;·simp_all
  rw[qQ]at g;have:=g d (by simpa using c);simpa[e]using this
 grind
def QLe(Q1 Q:Exit->aA):Prop:=∀e a w,e≠.normal->Q1 e a w->Q e a w
theorem ZJ{P:Program}{o:Oper}{a:Act}{w:World}{K i:aA}{f Q:Exit->aA}(g:QLe f Q)(h:∀a w,K a w->i a w)(b:o.wp P a w K f):o.wp P a w i Q:=by
 have d:LetsOut f->LetsOut Q:=λ⟨a,w,h⟩=>⟨a,w,g _ _ _ (λe=>by cases e) h⟩;unfold Oper.wp at *;generalize (execOp a.eval o).run P w=r at *;cases r with
 |ok n j=>
  cases n<;>simp[Oper.upon]at b⊢ <;>
   first
    |exact h _ _ b
    |exact Calls.mono b (λe k c=>by
      cases e;exact h _ _ c;exact g _ _ _ (λe=>by cases e) c
      ·exact d c)
    |exact Rows.mono b (λ_ _ c=>h _ _ c)
 |halt x j=>cases x<;>simp[Oper.upon]at b⊢ <;> first|exact b|exact g _ _ _ (λe=>by cases e) b
theorem Q0{P:Program}{c ops:Array Oper}{i:Nat}{o:Oper}{a:Act}{w:World}{K g:aA}{k Q:Exit->aA}(m:c[i]?=some o)(q:ops[i]?=some o)(s:∀j b,o.guard=some (j,b)->(c[j]?).bind (·.dst)=(ops[j]?).bind (·.dst))(l:QLe k Q) (h:∀a w,K a w->g a w) (d:wpOp P c k i K a w):wpOp P ops Q i g a w:=by
 have t:Region.wanted o (yielded c a.tmps)=Region.wanted o (yielded ops a.tmps):=by
  unfold Region.wanted;cases f:o.guard with
  |none=>rfl
  |some p=>
   obtain⟨j,b⟩:=p;have:yielded c a.tmps j=yielded ops a.tmps j:=by unfold yielded;rw[s j b f]
   simp[this]
 unfold wpOp at *;simp[m]at d;simp[q];rw[t]at d;split;rename_i f;rw[ah f]at d;exact d.imp (ZJ l h) λ⟨g1,a,w,g2⟩=>⟨g1,a,w,l _ _ _ (λe=>by cases e) g2⟩;·simp_all
theorem Wm{P:Program}{y ops:Array Oper}{Q1 Q:Exit->aA}{k:Nat}(lo:Nat)(p5:y.size=k)(hk:k<=ops.size)(K:∀i,i<k->y[i]?=ops[i]?)(hg:∀i o,i<k->ops[i]?=some o->∀j b,o.guard=some (j,b)->j<k)(W:rv ops.toList=true) (V:∀j,k<=j->j<ops.size->∀i,lo<=i->i<k->((kB ops.toList []).getD j 0).testBit i=true) (hQ:QLe Q1 Q)(hC:∀a w,Q1 .normal a w->∀g,ops.size-k<=g->wpAny P .any ops Q g (jm k ops.size) a w):
  ∀(s:Nat)(f c:Array Bool)(g:Nat)(a:Act)(w:World),f.size=k->c.size=ops.size->(∀j,j<lo->c.getD j false=true)->(∀j,j<k->c.getD j false=f.getD j false)->(∀j,k<=j->c.getD j false=false) ->
   Dq ops (λj=>c.getD j false)->Dm c.toList<=g->wpAny P .any y Q1 s f a w->wpAny P .any ops Q g c a w:=by
 have x7:∀(f c:Array Bool),f.size=k->c.size=ops.size->(∀j,j<k->c.getD j false=f.getD j false)->∀i,i<k->(i∈Region.ready .any ops c↔i∈Region.ready .any y f):=by intro f c R I H i O;rw[lx I,lx (by rw[R,p5]),K i O,H i O];constructor;rintro⟨o,z,g1,g2⟩;refine⟨o,z,g1,λd p q=>?_⟩;have F:=ln W (by simpa using z:ops.toList[i]?=some o) d p q;rw[<-H d.on aa];exact g2 d p q;rintro⟨o,z,g1,g2⟩;refine⟨o,z,g1,λd p q=>?_⟩;have F:=ln W (by simpa using z:ops.toList[i]?=some o) d p q;rw[H d.on aa];exact g2 d p q
 intro s;induction s with
 |zero=>
  intro f c g a w R I T H h4 hc L hh;obtain⟨u,hn⟩:=hh;have t:∀j,j<k->f.getD j false=true:=by
   intro j m;cases U:f.getD j false with
   |true=>rfl
   |false=>
    exfalso;have:∀N i,i<N->i<k->f.getD i false=true:=by
     intro N;induction N with
     |zero=>intro i h;omega
     |succ N x9=>
      intro i O D;cases U:f.getD i false with
      |true=>rfl
      |false=>
       exfalso;have x3:i<ops.size:=aa;have x6:ops[i]?=some ops[i]:=by simp[x3]
       have:=(lx (by rw[R,p5])).2 ⟨ops[i],by rw[K i D];exact x6,U,λd p q=>by
        have F:=ln W (by simp:ops.toList[i]?=some ops[i]) d p q
        exact x9 d.on aa aa⟩
       rw[u]at this;cases this
    rw[this (j+1) j aa m]at U;cases U
  have e:c=jm k ops.size:=Cj (by rw[I,ku hk]) (λj=>by
   rw[gO];by_cases m:j<k;rw[H j m,t j m];simp[m]
   ·rw[h4 j aa];simp[m])
  rw[e]at L⊢;rw[CZ]at L;exact hC a w hn g L
 |succ s ih=>
  intro f c g a w R I T H h4 hc L hh;by_cases t:∀j,j<k->f.getD j false=true
  ·have u:Region.ready .any y f=[]:=by
    rw[Dw];intro i O;obtain⟨o,z,g1,_⟩:=(lx (by rw[R,p5])).1 O;have:i<k:=by rcases cG i k with h|h;exact h;rw[gH aa]at z;cases z
    rw[t i this]at g1;cases g1
   have hn:=hh.1 u
   have e:c=jm k ops.size:=Cj (by rw[I,ku hk]) (λj=>by
    rw[gO];by_cases m:j<k;rw[H j m,t j m];simp[m]
    ·rw[h4 j aa];simp[m])
   rw[e]at L⊢;rw[CZ]at L;exact hC a w hn g L
  ·have x8:∃j,j<k/\f.getD j false=false:=iH λx5=>t λj m=>by
    cases U:f.getD j false with
    |true=>rfl
    |false=>exact(x5 ⟨j,m,U⟩).elim
   obtain⟨G,X,x0⟩:=x8;have l:=(H G X).trans x0;cases g with
   |zero=>
    exfalso;have:=H6 (Nat.le_zero.1 L) G;rw[eh]at l;have F:=aa;have e2:c[G]?=some c[G]:=by simp[F]
    rw[e2]at l;rw[bx]at this;have e3:c.toList[G]?=some c[G]:=by simp[F]
    rw[e3]at this;simp at l this;rw[l]at this;cases this
   |succ g=>
    refine⟨λu=>?_,λi O=>?_⟩;have:=tt W I u G aa;rw[l]at this;cases this
    ·obtain⟨o,z,g1,g2⟩:=(lx I).1 O;have x4:i<ops.size:=by
      rcases cG i ops.size with h|h;exact h;rw[gH h]at z;cases z
     have D:i<k:=by
      rcases cG i k with h|h;exact h
      ·exfalso
       have:=qc W hc (i+1) i o aa z g2 G (V i h x4 G (by
        rcases cG G lo with h'|h';rw[T G h']at l;cases l
        ·exact h') X)
       rw[l]at this;cases this
     have x2:=(x7 f c R I H i D).1 O;have A:i<c.size:=aa;have Z:i<f.size:=aa;refine Q0 (by rw[K i D];exact z) z (λj b x1=>by rw[K j (hg i o D z j b x1)]) hQ (λa w hK=>?_) (hh.2 i x2);refine ih (f.setIfInBounds i true) (c.setIfInBounds i true) g a w (by simpa using R) (by simpa using I) (λj m=>?_) (λj m=>?_) (λj m=>?_) ?_ ?_ hK;rw[mC A];split;rfl;exact T j m;rw[mC A,mC Z,H j m];rw[mC A,ai aa];exact h4 j m
     ·intro j oj m C d p q;have C:(c.setIfInBounds i true).getD j false=true:=C;show(c.setIfInBounds i true).getD d.on false=true;rw[mC A]at C⊢;by_cases Y:j=i
      ·subst Y;have:oj=o:=by rw[z]at m;simpa using m.symm
       subst this;have:=g2 d p q;simp[this]
      simp only[Y,mq]at C;have:=hc j oj m C d p q;have this:=this;simp[this]
     ·have e2:c.toList[i]?=some false:=by
       rw[eh]at g1;have e1:c[i]?=some c[i]:=by simp[A]
       rw[e1]at g1;have e3:c.toList[i]?=some c[i]:=by simp[A]
       rw[e3];simpa using g1
      have:=LB c.toList i e2;simp;omega
section
variable {E:Env}{ops:Array Oper}{n base:Nat}{Q:Exit->aA}
theorem UF(u2:aS E.P E.sp)(lo:Nat){l:List (Oper×Rec)}{S:dr}{B:b8}(hl:l.map (·.1)=ops.toList)(ht:∀i o r,lo<=i->l[i]?=some (o,r)->xR E ops (dm n (λj=>decide (j<i)) 0 l S) (ee (λj=>decide (j<i)) 0 l B) (base+8*i) o r)(y9:indep ops l=true)(hq:∀a w I,dJ E.w0 n (tH n l S) (tG l B) I a w->(∀id b,I id=some b->id<base+8*ops.size)->Q .normal a w):
  ∀(C:Nat)(c:Array Bool)(a:Act)(w:World)(I:aI),c.size=ops.size->Dm c.toList<=C->Dq ops (λj=>c.getD j false)->(∀j,j<lo->c.getD j false=true) ->
   dJ E.w0 n (dm n (λj=>c.getD j false) 0 l S) (ee (λj=>c.getD j false) 0 l B) I a w ->
   (∀id b,I id=some b->id<base\/∃j,c.getD j false=true/\base+8*j<=id/\id<base+8*j+8) ->
   wpAny E.P .any ops Q C c a w:=by
 simp[indep,bD]at y9;obtain⟨z,x4⟩:=y9;have x7:l.length=ops.size:=by have:=congrArg length hl;simpa using this
 have V:∀(j:Nat)(p:Oper×Rec),l[j]?=some p->ops[j]?=some p.1:=by intro j p T;have:=congrArg (λm:List Oper=>m[j]?) hl;simp[dM,T,fU]at this;simpa using this.symm
 have y2:l.length<=(kB ops.toList []).length:=by rw[(Cp ops.toList []).2.1];simp[x7]
 have A:∀(j:Nat)(p:Oper×Rec)(k:Nat)(q:Oper×Rec),l[j]?=some p->l[k]?=some q->j<k->((kB ops.toList []).getD k 0).testBit j=true\/r9 ops p q=false:=by intro j p k q g hk x2;exact EU l 0 [] _ x4 y2 j p k q (by simpa using g) hk (by simpa using x2)
 -- u6 c
 have K:∀(c:Array Bool)(a:Act)(w:World)(I:aI),c.size=ops.size->(∀i,i<ops.size->c.getD i false=true) ->
   dJ E.w0 n (dm n (λj=>c.getD j false) 0 l S) (ee (λj=>c.getD j false) 0 l B) I a w ->
   (∀id b,I id=some b->id<base\/∃j,c.getD j false=true/\base+8*j<=id/\id<base+8*j+8)->Q .normal a w:=by
  intro c a w I u D hr hd;refine hq a w I ?_ (λid b u0=>?_)
  ·have e1:dm n (λj=>c.getD j false) 0 l S=tH n l S:=by
    funext t;refine nT l 0 S S rfl (λj p g _=>?_);simp only[cy];refine D j ?_;rcases cG j l.length with h|h;omega;simp[fQ h]at g
   have e2:ee (λj=>c.getD j false) 0 l B=tG l B:=by funext t;refine nS l 0 B B rfl (λj p g _=>?_);simp only[cy];refine D j ?_;rcases cG j l.length with h|h;omega;simp[fQ h]at g
   rw[<-e1,<-e2];exact hr
  ·rcases hd id b u0 with h|⟨j,Y,O,Z⟩;omega
   ·have:j<ops.size:=by
     rcases cG j ops.size with h|h;exact h;rw[eh,gH aa]at Y;cases Y
    omega
 have tt:∀c:Array Bool,c.size=ops.size->Region.ready .any ops c=[]->∀i,i<ops.size->c.getD i false=true:=by
  intro c u hr;have:∀N i,i<N->i<ops.size->c.getD i false=true:=by
   intro N;induction N with
   |zero=>intro i h;omega
   |succ N u4=>
    intro i R F;cases hb:c.getD i false with
    |true=>rfl
    |false=>
     exfalso;have x8:i∈Region.ready .any ops c:=by
      unfold Region.ready;refine List.mem_filter.2 ⟨mem_range.2 F,?_⟩;have x3:ops[i]?=some ops[i]:=by simp[F]
      have z8:c.getD i true=false:=by
       rw[eh]at hb⊢;have:c[i]?=some c[i]:=by simp[u,F]
       rw[this]at hb⊢;simpa using hb
      rw[z8,x3];simp only[wb,fU,c7,mn];rw[qQ];intro e he;cases z6:Region.binds .any e with
      |false=>rfl
      |true=>have x2:=ln z (by simp[F]:ops.toList[i]?=some ops[i]) e (by simpa using he) z6;simp[u4 e.on aa aa]
     rw[hr]at x8;cases x8
  exactλi R=>this (i+1) i aa R
 intro C;induction C with
 |zero=>
  intro c a w I u hf hc y1 hr hd;have D:∀i,i<ops.size->c.getD i false=true:=by
   intro i R;have:=H6 (Nat.le_zero.1 hf) i;rw[eh];have O:c[i]?=some c[i]:=by simp[u,R]
   rw[O];have Z:c.toList[i]?=some c[i]:=by simp[u,R]
   rw[bx,Z]at this;simpa using this
  refine⟨?_,K c a w I u D hr hd⟩;unfold Region.ready;rw[List.filter_eq_nil_iff];intro i R;have R:=mem_range.1 R;have:=D i R;rw[eh]at this;have O:c[i]?=some c[i]:=by simp[u,R]
  rw[O]at this;rw[eh,O];simp at this⊢;simp[this]
 |succ C ih=>
  intro c a w I u hf hc y1 hr hd;refine⟨λh0=>K c a w I u (tt c u h0) hr hd,λi R=>?_⟩;obtain⟨z9,y6⟩:=List.mem_filter.1 R;have F:=mem_range.1 z9;have x3:ops[i]?=some ops[i]:=by simp[F]
  have y0:c[i]?=some c[i]:=by simp[u,F]
  simp only[bD,zl,x3,fU,c7]at y6;obtain⟨y7,y8⟩:=y6;have z0:c[i]=false:=by rw[eh,y0]at y7;simpa using y7
  have L:c.getD i false=false:=by rw[eh,y0];simpa using z0
  obtain⟨⟨o,r⟩,T⟩:∃p,l[i]?=some p:=⟨l[i],by simp[x7,F]⟩;have W:=V i _ T;have eo:ops[i]=o:=by rw[x3]at W;simpa using W
  have U:∀d∈o.after.toList,Region.binds .any d=true->c.getD d.on false=true:=by intro d x0 x1;rw[qQ]at y8;have:=y8 d (by rw[eo];simpa using x0);simpa[x1]using this
  have early:∀k,((kB ops.toList []).getD i 0).testBit k=true->c.getD k false=true:=qc z hc (i+1) i o aa W U;have x9:∀j oj,ops[j]?=some oj->((kB ops.toList []).getD j 0).testBit i=true->c.getD j false=false:=by
   intro j oj g hb;cases H:c.getD j false with
   |false=>rfl
   |true=>have:=qc z hc (j+1) j oj aa g (hc j oj g H) i hb;rw[L]at this;cases this
  -- y4 is not z5 from i is z4 with it
  have X:∀(t j:Nat)(p:Oper×Rec),l[j]?=some p->p.1.dst=some t->(t∈o.looksAt ops\/o.dst=some t)->(decide (j<i)=c.getD j false\/j=i):=by intro t j p g f hto;rcases zn j i with h|h|h;left;rcases A j p i (o,r) g T h with hb|hb;rw[early j hb];simpa using h;exfalso;simp[r9,qR,bD]at hb;obtain⟨s1,s2,s3⟩:=Oper.apart_spec hb.1.1.1;rcases hto with hto|hto;exact s1 t f hto;exact s2 t f hto;right;exact h;left;rcases A i (o,r) j p T g h with hb|hb;rw[x9 j p.1 (V j p g) hb];simp;omega;exfalso;simp[r9,qR,bD]at hb;obtain⟨s1,s2,s3⟩:=Oper.apart_spec hb.1.1.1;rcases hto with hto|hto;exact s3 t f hto;exact s2 t hto f
  have x5:∀(t j:Nat)(p:Oper×Rec),l[j]?=some p->kh p.2 t=true->(t∈r.ids\/kh r t=true)->(decide (j<i)=c.getD j false\/j=i):=by intro t j p g f hto;have f:=qk f;rcases zn j i with h|h|h;left;rcases A j p i (o,r) g T h with hb|hb;rw[early j hb];simpa using h;exfalso;simp[r9,qR,bD]at hb;obtain⟨⟨⟨_,b1⟩,b2⟩,b3⟩:=hb;rcases hto with hto|hto;exact o4 b1 t f hto;exact o4 b3 t f (qk hto);right;exact h;left;rcases A i (o,r) j p T g h with hb|hb;rw[x9 j p.1 (V j p g) hb];simp;omega;exfalso;simp[r9,qR,bD]at hb;obtain⟨⟨⟨_,b1⟩,b2⟩,b3⟩:=hb;rcases hto with hto|hto;exact o4 b2 t f hto;exact o4 b3 t (qk hto) f
  have z1:lo<=i:=by rcases cG i lo with h|h;rw[y1 i h]at L;cases L;exact h
  have u3:=ht i o r z1 T;have x6:∀t∈o.looksAt ops,dm n (λj=>decide (j<i)) 0 l S t=dm n (λj=>c.getD j false) 0 l S t:=by intro t hto;refine nT l 0 S S rfl (λj p g f=>?_);simp only[cy];rcases X t j p g f (.inl hto)with h|h;exact h;subst h;rw[L];simp
  have z2:xR E ops (dm n (λj=>c.getD j false) 0 l S) (ee (λj=>c.getD j false) 0 l B) (base+8*i) o r:=by rcases u3 with ⟨Y,O⟩|⟨out,ids,Y,O,Z,h4,h5,h6⟩;exact .inl ⟨yO x6 Y,O⟩;refine .inr ⟨out,ids,?_,O,Z,h4,h5,h6⟩;rw[<-GL x6 ?_];exact Y;intro t z3;rw[<-MY Y,<-h6]at z3;refine nS l 0 B B rfl (λj p g f=>?_);simp only[cy];rcases x5 t j p g f (.inl z3)with h|h;exact h;subst h;rw[L];simp
  have s:∀j,(c.setIfInBounds i true).getD j false=if j=i then true else c.getD j false:=by intro j;rw[eh,eh];by_cases h:j=i;subst h;rw[B2 aa];simp;rw[yZ (λe=>h e.symm)];simp[h]
  unfold wpOp;simp[W];refine uv u2 hr z2 (λk Y O=>?_) (λa' w' u5 u1 y5=>?_)
  ·cases hk:I k with
   |none=>rfl
   |some b=>
    exfalso;rcases hd k b hk with h|⟨j,Z,h4,h5⟩;omega
    ·have:j=i:=by omega
     subst this;rw[L]at Z;cases Z
  ·have e1:dm n (λj=>(c.setIfInBounds i true).getD j false) 0 l S=gW n o.dst r.val (dm n (λj=>c.getD j false) 0 l S):=by
    funext t;by_cases y3:t<n
    ·by_cases y:o.dst=some t
     ·rw[IL y y3 l 0 i S T (by simp only[cy];rw[s];simp) (λj p g x2 f=>by
       simp only[cy];rw[s,ai aa];rcases X t j p g f (.inr y)with h|h;rw[<-h];simp;omega
       ·omega)]
      simp[gW,y,y3]
     ·have:gW n o.dst r.val (dm n (λj=>c.getD j false) 0 l S) t=dm n (λj=>c.getD j false) 0 l S t:=by
       unfold gW;split;rename_i d z7;rw[ai];rintro⟨rfl,_⟩;exact y z7;rfl
      rw[this];refine nT l 0 S S rfl (λj p g f=>?_);simp only[cy];rw[s];by_cases G:j=i;subst G;rw[T]at g;simp at g;subst g;exact absurd f y;simp[G]
    rw[s7 n _ aa];unfold gW;split;rw[ai (by rintro⟨rfl,h⟩;exact y3 h),s7 n _ aa];rw[s7 n _ aa]
   have e2:ee (λj=>(c.setIfInBounds i true).getD j false) 0 l B=kN r (ee (λj=>c.getD j false) 0 l B):=by
    funext t;cases y:kh r t with
    |true=>
     exact IK y _ l 0 i B T (by simp only[cy];rw[s];simp) (λj p g x2 f=>by
       simp only[cy];rw[s,ai aa];rcases x5 t j p g f (.inr y)with h|h;rw[<-h];simp;omega
       ·omega)
    |false=>rw[Kh y];refine nS l 0 B B rfl (λj p g f=>?_);simp only[cy];rw[s];by_cases G:j=i;subst G;rw[T]at g;simp at g;subst g;rw[y]at f;cases f;simp[G]
   refine ih (c.setIfInBounds i true) a' w' u5 (by simpa using u) ?_ ?_ (λj g=>by rw[s];split<;>first|rfl|exact y1 j g) (by rw[e1,e2];exact u1) ?_;have:=LB c.toList i (by simpa[z0]using y0);simp[Array.toList_setIfInBounds];omega
   ·intro j oj g H d x0 x1;have H:(c.setIfInBounds i true).getD j false=true:=H;show(c.setIfInBounds i true).getD d.on false=true;rw[s]at H⊢;by_cases G:j=i
    ·subst G;have:oj=o:=by rw[W]at g;simpa using g.symm
     subst this;have:=U d x0 x1;simp[this]
    simp only[G,mq]at H;have:=hc j oj g H d x0 x1;simp[this]
   intro k b hk;rcases y5 k b hk with h|⟨Y,O⟩;rcases hd k b h with h|⟨j,Z,h4⟩;exact .inl h;exact .inr ⟨j,by rw[s];simp[Z],h4⟩;exact .inr ⟨i,by rw[s];simp,Y,O⟩
end
def rL(P:Program)(ops:Array Oper)(i:Nat)(l:cw)(Pre n r:aA)(x:Nat->aA):Prop:=
 ∀(a:Act)(w:World)(Q:Exit->aA),Pre a w->(∀a w,n a w->Q .normal a w)->(∀a w,r a w->Q .ret a w)->(∀i a w,x i a w->Q (.exit i) a w)->∀b,ops.size-i<=b->wpAny P .any ops (Exit.then (ng P l Q) Q) b (jm i ops.size) a w
def xS(ops:Array Oper)(lo k:Nat):Bool:=
 rv ops.toList&&(ble k ops.size&&((range ops.size).all λj=>blt j k||(range k).all λi=>blt i lo||((kB ops.toList []).getD j 0).testBit i)) &&
 (ops.toList.zipIdx.all λ(o,i)=>match o.guard with
  |none=>true
  |some (j,_)=>blt j i)
theorem B5{ops:Array Oper}{lo k:Nat}(h:xS ops lo k=true):rv ops.toList=true:=by simp[xS]at h;exact h.1.1
theorem RU{ops:Array Oper}{lo k:Nat}(h:xS ops lo k=true):k<=ops.size:=by simp[xS]at h;simp_all
theorem LQ{ops:Array Oper}{lo k:Nat}(h:xS ops lo k=true):∀j,k<=j->j<ops.size->∀i,lo<=i->i<k->((kB ops.toList []).getD j 0).testBit i=true:=by simp only[xS,bD]at h;intro j d a i c b;have:=all_eq_true.1 h.1.2.2 j (mem_range.2 a);simp only[sO]at this;rcases this with h|h;have:=hX h;omega;have:=all_eq_true.1 h i (mem_range.2 b);simp only[sO]at this;rcases this with h|h;have:=hX h;omega;exact h
theorem Uy{ops:Array Oper}{lo k:Nat}(h:xS ops lo k=true){i:Nat}{o:Oper}(c:ops[i]?=some o){j:Nat}{b:Bool}(a:o.guard=some (j,b)):j<i:=by simp only[xS,bD]at h;have:=all_eq_true.1 h.2 (o,i) (List.mem_zipIdx_iff_getElem?.2 (by simp_all));simp only[a]at this;exact hX this
theorem Az{ops:Array Oper}(h:rv ops.toList=true)(k n:Nat):Dq ops (λj=>(jm k n).getD j false):=by intro j g e a d b c;have a:(jm k n).getD j false=true:=a;show(jm k n).getD d.on false=true;rw[gO]at a⊢;have f:=ln h (by simpa using e) d b c;simp at a⊢;omega
theorem GH.drew{E:cJ}{N:Nat}{d:St}{G:ak}{a:Act}{w:World}(h:GH E N d G a w):GH E N d G a {w with drawn:=w.drawn+1}:=by obtain⟨W,F,e,f,g⟩:=h;exact⟨W,F,e,f,g.drew⟩
def rh(ops:Array Oper)(k:Nat):Array Oper:=⟨ops.toList.take k⟩
def zX(a:St)(ops:Array Oper)(i:Nat):List (Oper×Rec):=(ops.toList.take i).map λo=>(o,⟨match o.dst with|some d=>a.S d|none=>.junk,[],[],[]⟩)
theorem Hj{N:Nat}{e:Nat->Bool}{S:dr}:∀(l:List (Oper×Rec))(i:Nat),(∀p∈l,∀d,p.1.dst=some d->p.2.val=S d)->dm N e i l S=S
 |[],_,_=>rfl
 |(o,r)::l,i,h=>by
  have b:gW N o.dst r.val S=S:=by
   funext t;unfold gW;cases c:o.dst with
   |none=>rfl
   |some d=>simp_all
  simp[dm];cases e i with
  |true=>simp[b];exact Hj l (i+1) (λp a=>h p (by simp[a]))
  |false=>exact Hj l (i+1) (λp a=>h p (by simp[a]))
theorem Hi{e:Nat->Bool}{B:b8}:∀(l:List (Oper×Rec))(i:Nat),(∀p∈l,p.2.new=[]/\p.2.wr=[])->ee e i l B=B
 |[],_,_=>rfl
 |(o,r)::l,i,h=>by
  obtain⟨a,b⟩:=h (o,r) az;have a:r.new=[]:=a;have b:r.wr=[]:=b;have d:kN r B=B:=by funext t;simp[kN,a,b,eA]
  simp[ee];cases e i with
  |true=>simp[d];exact Hi l (i+1) (λp c=>h p (by simp[c]))
  |false=>exact Hi l (i+1) (λp c=>h p (by simp[c]))
theorem Me{N:Nat}{e:Nat->Bool}:∀(l m:List (Oper×Rec))(i:Nat)(S:dr),dm N e i (l++m) S=dm N e (i+l.length) m (dm N e i l S)
 |[],_,_,_=>rfl
 |(o,r)::l,m,i,S=>by simp only[po,dm];rw[Me l m (i+1) _,show i+1+l.length=i+((o,r)::l).length from by simp;omega]
theorem Mb{e:Nat->Bool}:∀(l m:List (Oper×Rec))(i:Nat)(B:b8),ee e i (l++m) B=ee e (i+l.length) m (ee e i l B)
 |[],_,_,_=>rfl
 |(o,r)::l,m,i,B=>by simp only[po,ee];rw[Mb l m (i+1) _,show i+1+l.length=i+((o,r)::l).length from by simp;omega]
theorem Mf{N:Nat}{e:Nat->Bool}{S:dr}:∀(l:List (Oper×Rec))(i:Nat),(∀j,i<=j->e j=false)->dm N e i l S=S
 |[],_,_=>rfl
 |(o,r)::l,i,h=>by simp[dm,h i (aQ _)];exact Mf l (i+1) (λj a=>h j aa)
theorem Mc{e:Nat->Bool}{B:b8}:∀(l:List (Oper×Rec))(i:Nat),(∀j,i<=j->e j=false)->ee e i l B=B
 |[],_,_=>rfl
 |(o,r)::l,i,h=>by simp[ee,h i (aQ _)];exact Mc l (i+1) (λj a=>h j aa)
theorem Tt(a:St)(ops:Array Oper)(i:Nat)(b:i<=ops.size):(zX a ops i).length=i:=by simp[zX];omega
theorem Vz{N:Nat}{e:Nat->Bool}(a:St)(ops:Array Oper)(i:Nat)(b:i<=ops.size)(l:List (Oper×Rec)):dm N e 0 (zX a ops i++l) a.S=dm N e i l a.S:=by rw[Me,Tt a ops i b,cy];congr 1;refine Hj _ 0 (λp c d f=>?_);obtain⟨o,_,rfl⟩:=mem_map.1 c;simp_all
theorem Vy{e:Nat->Bool}(a:St)(ops:Array Oper)(i:Nat)(b:i<=ops.size)(l:List (Oper×Rec)):ee e 0 (zX a ops i++l) a.B=ee e i l a.B:=by rw[Mb,Tt a ops i b,cy];congr 1;refine Hi _ 0 (λp c=>?_);obtain⟨o,_,rfl⟩:=mem_map.1 c;exact⟨rfl,rfl⟩
theorem PW{E:cJ}{N:Nat}(I:aS E.P E.sp){ops:Array Oper}{d:St}{G:ak}{i:Nat}{Kf:St->Prop}{Q1:Exit->aA}(m:i<=ops.size)(Z:∀(w:World)(ids:List (Nat×Nat))(M:Mem)(num:Nat×Nat->Nat),xe ⟨E.P,E.sp,⟨w,ids,E.gl,M,num,d.next⟩⟩ ops i (ops.toList.drop i) d [] (λc tr=>IU (indep ops (zX d ops i++(ops.toList.drop i).zip tr)) (Kf {c with next:=c.next+8*ops.size}))){a:Act} {w:World} (hh:GH E N d G a w) (hq:∀c a w,Kf c->GH E N c G a w->Q1 .normal a w) (e:Nat) (l:ops.size-i<=e):wpAny E.P .any ops Q1 e (jm i ops.size) a w:=by
 obtain⟨F,s,A,hG,hN,z,t⟩:=hh.mP;obtain⟨rs,c,q1,T,U,q4,q5,V,L⟩:=CJ _ _ _ _ _ (Z w (Bl s d.next) s.M (λp=>s.n p.1));obtain⟨f,L⟩:=ss L;rw[hN]at T U V;have g:=by simp[indep]at f;exact f.1
 have q:(zX d ops i).length=i:=by simp[zX];omega
 have D:(zX d ops i).map (·.1)=ops.toList.take i:=by unfold zX;rw[fu];exact List.map_id' _
 have u:((zX d ops i)++(ops.toList.drop i).zip rs).map (·.1)=ops.toList:=by rw[cE,D,List.map_fst_zip (by simp[q1])];exact ff i ops.toList
 have K:(λj=>(jm i ops.size).getD j false)=λj=>decide (j<i):=funext λj=>gO j;refine UF (E:=⟨E.P,E.sp,lI w E.gl s d.next⟩) (n:=N) I i (S:=d.S) (B:=d.B) u (λk o r hk y=>?_) f (λR W O H x0=>?_) e (jm i ops.size) a w s (ku m) (by rw[CZ];exact l) (Az g i ops.size) (λj C=>by rw[gO];simpa using C) ?_ (λid b h=>.inl (t id b h));rw[vP aa,q]at y;have:=NM _ i (k-i) d.S d.B o r T y;rw[show i+(k-i)=k from by omega]at this;rw[Vz d ops i m,Vy d ops i m];exact this
 ·have hK:Holds (lI w E.gl s d.next) N {c with next:=c.next+8*ops.size} R W:=by
   refine⟨V,O,?_,λid b h=>?_⟩
   ·have X:({c with next:=c.next+8*ops.size}:St).S=tH N ((zX d ops i)++(ops.toList.drop i).zip rs) d.S:=by
     show c.S=_;rw[U,tH,Vz d ops i m]
    have Y:({c with next:=c.next+8*ops.size}:St).B=tG ((zX d ops i)++(ops.toList.drop i).zip rs) d.B:=by show c.B=_;rw[q4,tG,Vy d ops i m]
    rw[X,Y];exact H
   ·simp_all
  exact hq _ R W L ⟨_,F,A,hG,hK⟩
 rw[K,Vz d ops i m,Vy d ops i m,Mf _ i (λj C=>by simp;omega),Mc _ i (λj C=>by simp;omega)];exact z
section
variable {E:cJ}{N:Nat}{n r:aA}{x:Nat->aA}
theorem ko(g:E.P.follows .mixedOrders=true){l:cw}{rid:Nat}{ops:Array Oper}{f:St}{G:ak}(d:l.head?=some (.region rid ops true))(h:rL E.P ops 0 l.tail (GH E N f G) n r x):aR E.P l (GH E N f G) n r x:=by
 intro a w Q j i k o;cases l with
 |nil=>simp at d
 |cons c l=>
  simp at d;subst d;refine wp_region_any g ?_;have e:Array.replicate ops.size false=jm 0 ops.size:=by trivial
  rw[e];exact h a _ Q j.drew i k o ops.size aa
theorem fY(W:aS E.P E.sp){l:cw}{ops:Array Oper}{D:St}{G:ak}{Y:Type}{i:Nat}(k:Nat)(f:St->Y)(τ:Y->St)(K:Y->Prop)(O:i<=k)(q:xS ops i k=true)(Z:∀(w:World)(ids:List (Nat×Nat))(M:Mem)(num:Nat×Nat->Nat),xe ⟨E.P,E.sp,⟨w,ids,E.gl,M,num,D.next⟩⟩ (rh ops k) i ((rh ops k).toList.drop i) D [] (λd tr=>IU (indep (rh ops k) (zX D (rh ops k) i++((rh ops k).toList.drop i).zip tr)) (({d with next:=d.next+8*(rh ops k).size}:St).le (cS E) (τ (f {d with next:=d.next+8*(rh ops k).size})) (K (f {d with next:=d.next+8*(rh ops k).size})))))(h2:∀g,K g->rL E.P ops k l (GH E N (τ g) G) n r x):rL E.P ops i l (GH E N D G) n r x:=by
 intro a w Q hh T V hx p y;have R:=RU q;have C:(rh ops k).size=k:=by simp[rh];omega
 let F:=Exit.then (ng E.P l Q) Q;let Q1:Exit->aA:=λe a w=>match e with
  |.normal=>∀p,ops.size-k<=p->wpAny E.P .any ops F p (jm k ops.size) a w
  |e=>F e a w
 have hQ:QLe Q1 F:=λe a w U h=>by
  cases e with
  |normal=>exact absurd rfl U
  |_=>exact h
 have s:=PW (Q1:=Q1) (Kf:=λd=>d.le (cS E) (τ (f d)) (K (f d))) W aa Z hh (λd a w hk I=>by
  intro p hf;obtain⟨H,L⟩:=I.le hk
  exact h2 _ H a w Q L T V hx p hf) (k-i) aa
 rw[C]at s;refine Wm (lo:=i) C R (λj A=>by simp[rh,A]) (λj o A ho g b I=>Nat.lt_trans (Uy q ho I) A) (B5 q) (LQ q) hQ (λa w h=>h) (k-i) (jm i k) (jm i ops.size) p a w (ku O) (ku aa) (λj A=>by rw[gO];simpa using A) (λj _=>by rw[gO,gO]) (λj A=>by rw[gO];simp;omega) (Az (B5 q) i ops.size) (by rw[CZ];exact y) s
theorem jw(s:aS E.P E.sp){l:cw}{ops:Array Oper}{j:St}{G:ak}{y:Type}{i:Nat}(f:St->y)(τ:y->St)(K:y->Prop)(H:i<=ops.size)(A:∀(w:World)(ids:List (Nat×Nat))(M:Mem)(num:Nat×Nat->Nat),xe ⟨E.P,E.sp,⟨w,ids,E.gl,M,num,j.next⟩⟩ ops i (ops.toList.drop i) j [] (λd tr=>IU (indep ops (zX j ops i++(ops.toList.drop i).zip tr)) (({d with next:=d.next+8*ops.size}:St).le (cS E) (τ (f {d with next:=d.next+8*ops.size})) (K (f {d with next:=d.next+8*ops.size})))))(C:∀g,K g->aR E.P l (GH E N (τ g) G) n r x):rL E.P ops i l (GH E N j G) n r x:=by
 intro a w Q F p q L h e
 exact PW (Kf:=λd=>d.le (cS E) (τ (f d)) (K (f d))) s H A F (λd a w I D=>by
  obtain⟨k,o⟩:=D.le I
  exact C _ k a w Q o p q L) h e
theorem wE{l:cw}{ops:Array Oper}{i:Nat}{c τ:St}{G:ak}{K:Prop}(h:c.le (cS E) τ K)(d:K->rL E.P ops i l (GH E N τ G) n r x):rL E.P ops i l (GH E N c G) n r x:=by intro a w Q f;obtain⟨e,b⟩:=f.le h;exact d e a w Q b
theorem sn{l:cw}{ops:Array Oper}{i:Nat}{b:St}{bl:List cb}{p:Nat}{c:ak}(d:List Nat)(e:d.map b.S=d.map λ_=>SV.is (.one (.v (pt p))))(τ:St)(f:(ua b d (bl.map λcs=>cs.map (ax.ui (b.next + ·)))).le (cS (E.cV b.next p)) τ True)(h:rL E.P ops i l (GH (E.cV b.next p) N τ c) n r x):rL E.P ops i l (GH E N b (ak.obj bl p c)) n r x:=by
 intro a w Q g;exact h a w Q ((g.Vu d (OT e)).le f).2
end
theorem ak.ext{G H:ak}(h:∀w M F,G.P w M F↔H.P w M F):G=H:=by obtain⟨P,a,b,c⟩:=G;obtain⟨d,e,f,g⟩:=H;have:P=d:=funext λw=>funext λM=>funext λF=>propext (h w M F);subst this;rfl
def ak.sep(G H:ak):ak where
 P w M F:=∃F1 F2,G.P w M F1/\H.P w M F2/\(∀b,F1 b->¬F2 b)/\∀b,F b↔(F1 b\/F2 b)
 mono w M M' F hM h:=by obtain⟨F1,F2,h1,h2,h3⟩:=h;exact⟨F1,F2,G.mono _ _ _ _ hM h1,H.mono _ _ _ _ hM h2,h3⟩
 stable w w' M F h hs:=by obtain⟨F1,F2,h1,h2,h3,h4⟩:=h;exact⟨F1,F2,G.stable _ _ _ _ h1 (λb hb=>hs b ((h4 b).2 (.inl hb))),H.stable _ _ _ _ h2 (λb hb=>hs b ((h4 b).2 (.inr hb))),h3,h4⟩
 lt w M F h b hb:=by obtain⟨F1,F2,h1,h2,h3,h4⟩:=h;rcases (h4 b).1 hb with h|h;exact G.lt _ _ _ h1 b h;exact H.lt _ _ _ h2 b h
theorem gf(G H:ak):ak.sep G H=ak.sep H G:=by
 have a:∀(G H:ak) w M F,(ak.sep G H).P w M F->(ak.sep H G).P w M F:=by rintro G H w M F ⟨e,F2,f,g,h,i⟩;exact⟨F2,e,g,f,λb j d=>h b d j,λb=>(i b).trans or_comm⟩
 exact ak.ext λw M F=>⟨a G H w M F,a H G w M F⟩
theorem lA(G H K:ak):ak.sep (ak.sep G H) K=ak.sep G (ak.sep H K):=by refine ak.ext λw M F=>⟨?_,?_⟩;rintro⟨k,f,⟨e,F2,g,h,i,a⟩,c,d,j⟩;refine⟨e,λb=>F2 b\/f b,g,⟨F2,f,h,c,λb hb=>d b ((a b).2 (.inr hb)),λ_=>kk⟩,λb hb hc=>?_,λb=>?_⟩;rcases hc with hc|hc;exact i b hb hc;exact d b ((a b).2 (.inl hb)) hc;rw[j b,a b,or_assoc];rintro⟨e,l,g,⟨F2,f,h,i,a,c⟩,d,j⟩;refine⟨λb=>e b\/F2 b,f,⟨e,F2,g,h,λb hb hc=>d b hb ((c b).2 (.inl hc)),λ_=>kk⟩,i,λb hb hc=>?_,λb=>?_⟩;rcases hb with hb|hb;exact d b hb ((c b).2 (.inr hc));exact a b hb hc;rw[j b,c b,or_assoc]
theorem kT(G:ak):ak.sep G ak.none=G:=by refine ak.ext λw M F=>⟨?_,λh=>⟨F,λ_=>False,h,λ_ h=>h,λ_ _ h=>h,λ_=>⟨.inl,λh=>h.elim id False.elim⟩⟩⟩;rintro⟨a,F2,d,e,g,f⟩;have:F=a:=funext λb=>propext ((f b).trans ⟨λh=>h.elim id λq=>(e b q).elim,.inl⟩);rw[this];exact d
theorem bZ(bl:List cb)(p:Nat)(d:ak):ak.obj bl p d=ak.sep (ak.obj bl p ak.none) d:=by refine ak.ext λw M F=>⟨?_,?_⟩;rintro⟨e,F2,k,o,s,f,g,u,y⟩;refine⟨λb=>∃i:Nat,e[i]?=some (some b),F2,⟨e,λ_=>False,λ_ h=>h,o,s,λb=>⟨.inr,λh=>h.elim False.elim id⟩,λi b j=>⟨λh=>h,(g i b j).2⟩,u,y⟩,k,λb ⟨i,D⟩=>(g i b D).1,λb=>(f b).trans or_comm⟩;rintro⟨I,F2,⟨e,K,k,o,s,f,g,u,y⟩,G,C,A⟩;refine⟨e,F2,G,o,s,λb=>?_,λi b j=>⟨C b ((f b).2 (.inr ⟨i,j⟩)),(g i b j).2⟩,u,y⟩;rw[A b,f b];exact⟨λh=>h.elim (λq=>q.elim (λq=>(k b q).elim) .inr) .inl,λh=>h.elim .inr λq=>.inl (.inr q)⟩
instance : Std.Associative ak.sep:=⟨lA⟩
instance : Std.Commutative ak.sep:=⟨gf⟩
theorem cT{P:Program}{T:dF}{f:FuncId}{i I:Type}{args:i->dq}{pre:i->Prop}{O:i->ak}{Y:i->I->SV}{Q:i->I->ak}{J:i->I->Prop}(R:i->ak)(h:fk P T f args pre O Y Q J):fk P T f args pre (λx=>ak.sep (O x) (R x)) Y (λx y=>ak.sep (Q x y) (R x)) J:=by
 rintro x hx w M us F ⟨Z,L,hG,U,C,j⟩ hM D s hv;refine(h x hx w M us Z hG hM D (λb hb=>s b ((j b).2 (.inl hb))) hv).mono ?_;rintro e w2 ⟨y,v,F2,M2,hJ,rfl,t,p,o,g,A,G⟩;have d:=(R x).lt _ _ _ U;refine⟨y,v,λb=>F2 b\/L b,M2,hJ,rfl,⟨F2,L,t,(R x).mono _ _ _ _ g ((R x).stable _ _ _ _ U (λb hb=>o.block b (d b hb) (λq=>C b q hb))),λb hb V=>?_,λ_=>kk⟩,λb hb=>?_,⟨o.os,o.tape,o.output,o.size,λk hk G=>o.block k hk (λq=>G ((j k).2 (.inl q)))⟩,g,λb l hb=>?_,G⟩;rcases p b hb with q|q;exact C b q V;have:=d b V;omega;rcases hb with hb|hb;exact(p b hb).imp (λq=>(j b).2 (.inl q)) id;exact .inl ((j b).2 (.inr hb));obtain⟨k1,k2,W⟩:=A b l hb;refine⟨k1,λq=>q.elim k2 λq=>?_,W.imp id (λq=>q.imp (λq=>(j b).2 (.inl q)) id)⟩;rcases W with k|k|k;have:=d b q;omega;exact C b k q;exact s b ((j b).2 (.inr q)) l k
theorem OG{E:cJ}{N:Nat}{q:St}{G2:ak}{Y:Act}{y z:World}{F F2:Nat->Prop}{f:aI}{Q:Mem}{v:Value}{W:SV}{dst:Option Tmp}(c:GOk E (lI y E.gl f q.next) F) (D:q.aW.length=N) (a:dJ (lI y E.gl f q.next) N q.S q.B f Y y) (k:∀id b,f id=some b->id<q.next) (x1:Mem.le f.M (cR y))(x0:G2.P z Q F2) (R:∀b,F2 b->F b\/y.heap.size<=b) (j:rX F y z) (A:Mem.le f.M Q) (G:∀b l,Q b=some l->cR z b=some l/\¬F2 b/\(y.heap.size<=b\/F b\/f.M b=some l)) (x5:∀O:aI,aI.le f O->O.M=Q->W.rel O v):GH E N (q.put dst W) G2 (Y.put dst v) z:=by
 have x6:∀b l,f.M b=some l->b<y.heap.size:=λb l g=>su (x1 b l g);let o:aI:=⟨f.m,f.n,Q⟩;have u:aI.le f o:=⟨λi b h=>⟨h,rfl⟩,A⟩;have ox:∀id b,f id=some b->¬F b:=λid b g Z=>by have h:=c.own b Z;rw[fZ.2 ⟨id,k id b g,g⟩]at h;cases h
 have C:∀b,b<y.heap.size->¬F b->z.heap[b]?=y.heap[b]?:=j.block;have K:dJ (lI z E.gl o q.next) N (gW N dst W q.S) q.B o (Y.put dst v) z:=by
  refine⟨by rw[put_defers];exact a.defers,by rw[CD];exact a.size,?_,mV.refl _,?_,a.inj,λid b h=>⟨.inr (fZ.2 ⟨id,k id b h,h⟩),gJ (a.bound id b h).2 j.size⟩,λp I=>⟨(bI.1 I).2,rfl⟩,?_,λb l h _=>.inr h,?_,λp I=>(bI.1 I).1,Mem.le_refl _⟩
  ·intro t;rw[FT dst v t a.size];cases dst with
   |none=>exact SV.gM u (a.aW t)
   |some d=>simp only[gW];by_cases X:t=d/\d<N;simp only[X,and_self,jo];exact x5 o u rfl;simp only[X,mq];exact SV.gM u (a.aW t)
  intro id cs s H b g;obtain⟨l,x2,x3⟩:=a.bQ id cs s H b g;refine⟨l,?_,fi u x3⟩;obtain⟨V,el,fr,k1,k2⟩:=x2;exact⟨V,el,fr,(C b (a.bound id b g).2 (ox id b g)).trans k1,k2⟩;intro b l g;obtain⟨h1,h2,h3⟩:=G b l g;refine⟨λi cs hi H L=>?_,jA h1⟩;rcases h3 with h3|h3|h3;have:=(a.bound i b L).2;omega;exact ox i b L h3;exact(a.mem b l h3).1 i cs hi H L;intro gg e x hg;exact l7 u.mem (a.glob gg e x hg)
 have T:GOk E (lI z E.gl o q.next) F2:=by
  refine⟨rfl,⟨j.os.trans c.kep.os,j.tape.trans c.kep.tape,j.output.trans c.kep.output,fw c.kep.size j.size,λb g hs=>?_⟩,λp I=>c.ids p (bI.2 (bI.1 I)),λb g=>?_,λb g=>?_,λb g l hl=>?_,λb l g x4=>?_,λp I=>bI.2 (bI.1 (c.zY p I)),c.plt,λb l g=>A b l (c.mle b l g)⟩;have:=c.kep.size;refine(C b (gJ g this) (λZ=>?_)).trans (c.kep.block b g hs);rcases c.foot b Z with h|h;exact hs h;omega;have:=c.kep.size;rcases R b g with h|h;exact c.foot b h;exact .inr (fw this h)
  ·cases X:(lI z E.gl o q.next).own b with
   |false=>rfl
   |true=>obtain⟨id,_,s⟩:=fZ.1 X;have s:f id=some b:=s;rcases R b g with h|h;exact(ox id b s h).elim;have:=(a.bound id b s).2;omega
  exact(G b l hl).2.1 g;rcases (G b l g).2.2 with h|h|h;have:=c.kep.size;have h6:E.w.heap.size<=y.heap.size:=this;omega;rcases c.foot b h with h|h;exact .inl h;omega;exact c.bJ b l h x4
 have U:((q.put dst W).S=gW N dst W q.S):=by rw[Jr,D]
 refine⟨_,F2,T,x0,by rw[By];exact D,o,?_,λid b h=>by rw[CC];exact k id b h⟩;rw[U,Nu];exact K
def BZ(E:cJ)(c:Array Oper)(k:Nat)(Pre:aA){f:Type}(J:f->Prop)(b:f->aA):Prop:=
 ∀(C:aA)(Q:Exit->aA),(∀g,J g->∀a w,b g a w->C a w)->∀d e,Pre d e->∃o,c[k]?=some o/\Region.wanted o (yielded c d.tmps)=true/\o.wp E.P d e C Q
theorem jZ{E:cJ}{N:Nat}{ops:Array Oper}{k:Nat}{τ:St}{f:FuncId}{fn:Func}{b t:Type}{args:b->dq}{pre:b->Prop}{w:b->ak}{sv:b->t->SV}{G2:b->t->ak}{J:b->t->Prop}(q:fk E.P E.gl f args pre w sv G2 J) (z:b) (W:pre z) (d:Np τ.S ops k f=true) (T:aF E.P f fn) (a:(BA ops k).map (fG τ.S)=args z) (o:Jb (args z)=true) (s:∀y,(sv z y).ids=[]):
  BZ E ops k (GH E N τ (w z)) (J z) (λy=>GH E N (τ.put (nD ops k) (sv z y)) (G2 z y)):=λC Q H Y D U=>
 ajT (C:=C) (Q:=Q) (sv z) (G2 z) (J z) d T (λD ρ X F I R l h A=>by
  rw[a]at A;refine(q z W D ρ.M X F I R l h (ZI (ρ:=ρ) (ρ':=aI.start ρ.M) rfl A o)).mono ?_;rintro e Z ⟨y,v,F2,G,L,rfl,i,g,O,c,j,V⟩
  exact⟨y,v,F2,G,L,rfl,i,g,O,c,j,λρ' _ e=>ri e V (s y)⟩) H U
def j8(ops:Array Oper)(k:Nat):Op:=match ops[k]? with
 |some o=>o.op
 |_=>.move (.const undef)
def rG(ops:Array Oper)(k:Nat):TypeId:=match ops[k]? with
 |some o=>o.type
 |_=>0
def isStep(S:dr)(a:Array Oper)(k:Nat):Bool:=match a[k]? with
 |some o=>nr S a o.guard
 |_=>false
def BY(P:Program)(ev:Operand->Value)(b:Op)(ty:TypeId)(w:World)(v:Value)(a:World):Prop:=
 ∀o:Oper,o.op=b->o.type=ty->(execOp ev o).run P w=.ok (.value v) a\/(v=undef/\(execOp ev o).run P w=.ok .skip a)
theorem abY{E:cJ}{N:Nat}{c:Array Oper}{k:Nat}{H:St}{G:ak}{α:Type}(sv:α->SV)(G2:α->ak)(J:α->Prop)(m:isStep H.S c k=true)(h2:∀(s:World)(w:aI)(ev:Operand->Value)(F:Nat->Prop),G.P s w.M F->Mem.le w.M (cR s)->tC E.gl w.M->(∀b,F b->∀l,w.M b≠some l)->(∀o,(fG H.S o).rel w (ev o)) ->
   ∃g v U F2 I,J g/\BY E.P ev (j8 c k) (rG c k) s v U/\(G2 g).P U I F2/\(∀b,F2 b->F b\/s.heap.size<=b)/\rX F s U/\Mem.le w.M I/\(∀b l,I b=some l->cR U b=some l/\¬F2 b/\(s.heap.size<=b\/F b\/w.M b=some l))/\∀z:aI,aI.le w z->z.M=I->(sv g).rel z v):
  BZ E c k (GH E N H G) J (λg=>GH E N (H.put (nD c k) (sv g)) (G2 g)):=by
 intro C Q V a1 s x0;obtain⟨o,D,f⟩:∃o,c[k]?=some o/\nr H.S c o.guard=true:=by unfold isStep at m;split at m;rename_i o D;exact⟨o,D,m⟩;cases m
 have O:nD c k=o.dst:=by unfold nD;rw[D]
 have x1:o.op=j8 c k:=by unfold j8;rw[D]
 have x3:o.type=rG c k:=by unfold rG;rw[D]
 rw[O]at V;obtain⟨F,A,u,X,T,a,y⟩:=x0.mP;refine⟨o,D,?_,?_⟩
 ·unfold Region.wanted;cases hq:o.guard with
  |none=>rfl
  |some p=>obtain⟨j,x4⟩:=p;rw[hq]at f;unfold nr at f;simp only at f;split at f;rename_i d hd;have q:=a.aW d;split at f;rename_i hT;rw[hT]at q;have q:[_]=[Value.bool true]:=q;have q:=(oZ q).1;simp only[pV hd q];rfl;rename_i hF;rw[hF]at q;have q:[_]=[Value.bool false]:=q;have q:=(oZ q).1;simp only[pV hd q];rfl;cases f;cases f
 have L:Mem.le A.M (cR s):=λb l hb=>by obtain⟨_,el,fr,h⟩:=a.mem b l hb;exact lQ h
 obtain⟨g,v,U,F2,I,hJ,t,Y,W,R,K,Z,x2⟩:=h2 s A a1.eval F X L (λg e x hg=>a.glob g e x hg) (λb hb l hl=>u.mem b hb l hl) (λo=>dJ.fG (E:=⟨E.P,E.sp,lI s E.gl A H.next⟩) a o);have i:=OG (dst:=o.dst) u T a y L Y W R K Z x2;unfold Oper.wp;rcases t o x1 x3 with h|⟨rfl,h⟩;rw[h];exact V g hJ _ _ i;rw[h];exact V g hJ _ _ i
section
variable {E:cJ}{N:Nat}{n r:aA}{x:Nat->aA}
theorem hZ{l:cw}{ops:Array Oper}{k:Nat}{Pre:aA}{C:Type}{J:C->Prop}{e:C->aA}(H:BZ E ops k Pre J e)(h:∀g,J g->lV E.P ops (k+1) l (e g) n r x):lV E.P ops k l Pre n r x:=by
 intro D K Q j m t I;obtain⟨o,s,f,A⟩:=H (wpOps E.P ops (Exit.then (ng E.P l Q) Q) (List.range' (k+1) (ops.size-(k+1)))) (Exit.then (ng E.P l Q) Q) (λg F a w G=>h g F a w Q G m t I) D K j;have L:k<ops.size:=by rcases cG k ops.size with h|h;exact h;rw[gH h]at s;cases s
 have d:List.range' k (ops.size-k)=k::List.range' (k+1) (ops.size-(k+1)):=by rw[show ops.size-k=(ops.size-(k+1))+1 from by omega,vW]
 rw[d];unfold wpOps;simp only[s];rw[ah f];exact .inl A
theorem qW{l:cw}{ops:Array Oper}{k:Nat}{Pre:aA}{Y:Type}{J:Y->Prop}{s:Y->aA}(hr:BZ E ops k Pre J s)(F:xS ops k k=true)(p:xS ops k (k+1)=true)(h:∀g,J g->rL E.P ops (k+1) l (s g) n r x):rL E.P ops k l Pre n r x:=by
 intro a w Q hh T U hx f H;have d:=B5 F;have y:k<ops.size:=RU p;obtain⟨o,ho,I,V⟩:=hr (wpAny E.P .any ops (Exit.then (ng E.P l Q) Q) (f-1) (jm (k+1) ops.size)) (Exit.then (ng E.P l Q) Q) (λg Z a w hg=>h g Z a w Q hg T U hx (f-1) aa) a w hh;cases f with
 |zero=>omega
 |succ f=>
  have D:=ku (wi y);have q:=Az d k ops.size;have C:∀i,i∈Region.ready .any ops (jm k ops.size)->i=k:=by
   intro i L;obtain⟨oi,A,g1,g2⟩:=(lx D).1 L;rw[gO]at g1;have R:k<=i:=by simpa using g1
   rcases Nat.eq_or_lt_of_le R with h|hlt;exact h.symm
   ·exfalso;have O:i<ops.size:=by
     rcases cG i ops.size with h|h;exact h;rw[gH h]at A;cases A
    have:=qc d q (i+1) i oi aa A g2 k (LQ p i hlt O k (aQ _) aa);rw[gO]at this;simp at this
  refine⟨λG=>?_,λi L=>?_⟩;have:=tt d D G k y;rw[gO]at this;simp at this
  ·have:=C i L;subst this;unfold wpOp;simp only[ho];rw[ah I]
   have e:(jm i ops.size).setIfInBounds i true=jm (i+1) ops.size:=Cj (by simp[D,ku (show i+1<=ops.size from y)]) (λj=>by
    rw[mC aa,gO,gO];by_cases W:j=i;subst W;simp
    ·simp only[W,mq];congr 1
     exact propext ⟨λ_=>aa,λ_=>aa⟩)
   rw[e];exact .inl V
theorem iM{l:cw}{a:Array Oper}{i:Nat}{d:St}{G G':ak}(e:G=G')(h:lV E.P a i l (GH E N d G') n r x):lV E.P a i l (GH E N d G) n r x:=by rw[e];exact h
theorem qX{l:cw}{ops:Array Oper}{i:Nat}{a:St}{G G':ak}(e:G=G')(h:rL E.P ops i l (GH E N a G') n r x):rL E.P ops i l (GH E N a G) n r x:=by rw[e];exact h
theorem a7{l:cw}{d:St}{G G':ak}(e:G=G')(h:aR E.P l (GH E N d G') n r x):aR E.P l (GH E N d G) n r x:=by rw[e];exact h
end
open Go.ChangeMaps
def jM(P:Program)(gl:dF)(S:dr)(i:Op)(ty:TypeId)(G:ak){f:Type}(j:f->SV)(h:f->ak)(J:f->Prop):Prop:=
 ∀(a:World)(ρ:aI)(ev:Operand->Value)(F:Nat->Prop),G.P a ρ.M F->Mem.le ρ.M (cR a)->tC gl ρ.M->(∀b,F b->∀l,ρ.M b≠some l)->(∀o,(fG S o).rel ρ (ev o)) ->
  ∃g v e F2 d,J g/\BY P ev i ty a v e/\(h g).P e d F2/\(∀b,F2 b->F b\/a.heap.size<=b)/\rX F a e/\Mem.le ρ.M d/\(∀b l,d b=some l->cR e b=some l/\¬F2 b/\(a.heap.size<=b\/F b\/ρ.M b=some l))/\∀ρ':aI,aI.le ρ ρ'->ρ'.M=d->(j g).rel ρ' v
theorem fJ{E:cJ}{N:Nat}{ops:Array Oper}{k:Nat}{d:St}{G:ak}{e:Type}{sv:e->SV}{G2:e->ak}{J:e->Prop}(a:isStep d.S ops k=true)(h:jM E.P E.gl d.S (j8 ops k) (rG ops k) G sv G2 J):
  BZ E ops k (GH E N d G) J (λg=>GH E N (d.put (nD ops k) (sv g)) (G2 g)):=abY sv G2 J a h
theorem q7{P:Program}{gl:dF}{S:dr}{op:Op}{K:TypeId}{G:ak}{A:Type}{sv:A->SV}{G2:A->ak}{J:A->Prop}(R:ak)(h:jM P gl S op K G sv G2 J):
  jM P gl S op K (ak.sep G R) sv (λg=>ak.sep (G2 g) R) J:=by
 rintro w Z ev F ⟨L,C,Q,D,I,j⟩ U s m p;obtain⟨g,v,Y,F2,O,T,u,o,i,f,d,V,z⟩:=h w Z ev L Q U s (λb hb=>m b ((j b).2 (.inl hb))) p;have e:=R.lt _ _ _ D;refine⟨g,v,Y,λb=>F2 b\/C b,O,T,u,⟨F2,C,o,R.mono _ _ _ _ d (R.stable _ _ _ _ D (λb hb=>f.block b (e b hb) (λq=>I b q hb))),λb hb H=>?_,λ_=>kk⟩,λb hb=>?_,⟨f.os,f.tape,f.output,f.size,λk W z=>f.block k W (λq=>z ((j k).2 (.inl q)))⟩,d,λb l hb=>?_,z⟩;rcases i b hb with q|q;exact I b q H;have:=e b H;omega;·rcases hb with hb|hb;exact(i b hb).imp (λq=>(j b).2 (.inl q)) id;·simp_all
 grind
def rY(M:Mem):Nat->List (Value×ax)->List MapEntry->Prop
 |_,[],[]=>True
 |i,p::l,e::a=>e.key=p.1/\e.born=i/\p.2.rel (aI.start M) [e.val]/\rY M (i+1) l a
 |_,_,_=>False
theorem xp{M:Mem}:∀{i:Nat}{l:List (Value×ax)}{a:List MapEntry},rY M i l a->a.length=l.length
 |_,[],[],_=>rfl
 |_,_::_,_::_,h=>by simp;rw[xp h.2.2.2]
 |_,[],_::_,h=>h.elim
 |_,_::_,[],h=>h.elim
theorem pF{M:Mem}:∀{i:Nat}{l:List (Value×ax)}{b:List MapEntry},rY M i l b->∀(j:Nat)(e:MapEntry),b[j]?=some e->∃p,l[j]?=some p/\e.key=p.1/\e.born=i+j/\p.2.rel (aI.start M) [e.val]
 |_,[],[],_,_,_,h=>by simp at h
 |i,p::l,e::b,h,0,c,a=>by
  have a:=by simpa using a
  subst a;exact⟨p,rfl,h.1,h.2.1,h.2.2.1⟩
 |i,p::l,e::b,h,j+1,c,a=>by obtain⟨g,k,d,m,f⟩:=pF h.2.2.2 j c a;exact⟨g,by simp_all,d,aa,f⟩
 |_,[],_::_,h,_,_,_=>h.elim
 |_,_::_,[],h,_,_,_=>h.elim
theorem Gp{M a:Mem}(c:Mem.le M a):∀{i:Nat}{l:List (Value×ax)}{b:List MapEntry},rY M i l b->rY a i l b
 |_,[],[],_=>trivial
 |_,p::_,e::_,h=>⟨h.1,h.2.1,by
   have:=SV.gM (ρ:=aI.start M) (ρ':=aI.start a) ⟨λ_ _ h=>⟨h,rfl⟩,c⟩ (x:=ag p.2) h.2.2.1
   exact this,Gp c h.2.2.2⟩
 |_,[],_::_,h=>h.elim
 |_,_::_,[],h=>h.elim
theorem Gq{M:Mem}{p:Value×ax}{e:MapEntry}:∀{i:Nat}{l:List (Value×ax)}{d:List MapEntry},rY M i l d->e.key=p.1->e.born=i+l.length->p.2.rel (aI.start M) [e.val]->rY M i (l++[p]) (d++[e])
 |_,[],[],_,a,b,c=>⟨a,by simpa using b,c,trivial⟩
 |i,_::l,_::_,h,a,b,c=>⟨h.1,h.2.1,h.2.2.1,Gq h.2.2.2 a (by simp at b;omega) c⟩
 |_,[],_::_,h,_,_,_=>h.elim
 |_,_::_,[],h,_,_,_=>h.elim
def ia(b:Nat)(l:List (Value×ax)):ak where
 P w M F:=(∀x,F x↔x=b)/\∃es:List MapEntry,w.heap[b]?=some (.map es.toArray l.length)/\rY M 0 l es
 mono w M M' F hM h:=by obtain⟨h1,es,h2,h3⟩:=h;exact⟨h1,es,h2,Gp hM h3⟩
 stable w w' M F h hs:=by obtain⟨h1,es,h2,h3⟩:=h;exact⟨h1,es,(hs b ((h1 b).2 rfl)).trans h2,h3⟩
 lt w M F h b' hb:=by obtain⟨h1,es,h2,h3⟩:=h;rw[(h1 b').1 hb];rcases cG b w.heap.size with h|h;exact h;rw[gH h]at h2;cases h2
def qt(r b n:Nat)(seen:List Nat):ak where
 P w _ F:=(∀x,F x↔x=r)/\w.heap[r]?=some (.mapIter (some b) n seen.toArray n)
 mono w M M' F hM h:=h
 stable w w' M F h hs:=by obtain⟨h1,h2⟩:=h;exact⟨h1,(hs r ((h1 r).2 rfl)).trans h2⟩
 lt w M F h b' hb:=by obtain⟨h1,h2⟩:=h;rw[(h1 b').1 hb];rcases cG r w.heap.size with h|h;exact h;rw[gH h]at h2;cases h2
section
variable {P:Program}{gl:dF}{S:dr}
theorem xJ{i:Op}{k:TypeId}{G:ak}{m:Type}{j:m->SV}{J:m->Prop}(h:∀(w:World)(ρ:aI)(ev:Operand->Value)(F:Nat->Prop),G.P w ρ.M F->(∀o,(fG S o).rel ρ (ev o))->∃g v,J g/\BY P ev i k w v w/\∀a:aI,aI.le ρ a->a.M=ρ.M->(j g).rel a v):jM P gl S i k G j (λ_=>G) J:=by
 intro w ρ ev F f u y d e;obtain⟨g,v,p,s,t⟩:=h w ρ ev F f e;exact⟨g,v,w,F,ρ.M,p,s,f,λb c=>.inl c,⟨rfl,rfl,rfl,aQ _,λ_ _ _=>rfl⟩,Mem.le_refl _,λb l c=>⟨u b l c,λq=>d b q l c,.inr (.inr c)⟩,t⟩
theorem jv{ev:Operand->Value}{a:Op}{ty:TypeId}{w b:World}{v:Value}(h:∀o:Oper,o.op=a->o.type=ty->(execOp ev o).run P w=.ok (.value v) b):BY P ev a ty w v b:=λo d e=>.inl (h o d e)
theorem oc{o:Operand}{x:Value}(h:fG S o=ag (.v x)){ρ:aI}{ev:Operand->Value}(a:∀o,(fG S o).rel ρ (ev o)):ev o=x:=by have:=a o;rw[h]at this;exact cY this
theorem Hv{g:TypeId}(K:Maps.Keyed P g){M:Mem}{l:List (Value×ax)}{b:List MapEntry}(i:rY M 0 l b)(y:∀p∈l,∃k,keyOf P g p.1=some k){a:Value}{C:Lit}(u:keyOf P g a=some C)(w:World):
  ((Instr.findKey g a b).run P w=.ok none w/\∀p∈l,p.1≠a)\/∃j e p,(Instr.findKey g a b).run P w=.ok (some (j,e.val)) w/\b[j]?=some e/\l[j]?=some p/\p.1=a/\p.2.rel (aI.start M) [e.val]:=by
 have f:=xp i
 rcases K.find w u b (λe d=>by
  obtain⟨j,c⟩:=List.mem_iff_getElem?.1 d;obtain⟨p,t,o,_⟩:=pF i j e c
  rw[o];exact y p (ft t))with ⟨h,o⟩|⟨j,e,h,c,d⟩
 ·refine .inl ⟨h,λp z e=>?_⟩;obtain⟨j,c⟩:=List.mem_iff_getElem?.1 z;have q:j<l.length:=by
   rcases cG j l.length with h|h;exact h;rw[fQ h]at c;cases c
  have d:b[j]?=some b[j]:=by simp[f,q]
  obtain⟨D,m,s,_⟩:=pF i j _ d;rw[c]at m;cases m;exact o b[j] (de _) (s.trans e)
 obtain⟨p,m,s,_,A⟩:=pF i j e c;exact .inr ⟨j,e,p,h,c,m,s▸d,A⟩
theorem agk{t f I Z:TypeId}{x A:Operand}{b:Nat}{l:List (Value×ax)}{a:Value}{Y:Lit}(O:P.underlying t=some (.map f I))(K:Maps.Keyed P f){z:Value}(W:∀w,(zeroValue I).run P w=.ok z w)(y:z.oneCell'=true)(R:∀p∈l,∃k,keyOf P f p.1=some k) (m:keyOf P f a=some Y) (V:fG S x=ag (.v (.map (some b)))) (i:∀(C:aI) v,(fG S A).rel C v->v=a):
  jM P gl S (.lookup t x A true) Z (ia b l) (λr:Bool=>.tup [.one .junk,.one (.v (.bool r))]) (λ_=>ia b l) (λr=>(r=true↔∃p∈l,p.1=a)):=by
 refine xJ λw C ev F Q c=>?_;obtain⟨_,es,L,U⟩:=Q;have G:=oc V c;have H:=i C _ (c A);rcases Hv K U R m w with ⟨g,T⟩|⟨j,e,p,g,_,s,u,d⟩;refine⟨false,.tuple #[z,.bool false],⟨λh=>(by cases h),λ⟨p,s,e⟩=>absurd e (T p s)⟩,jv λo q _=>?_,λD _ _=>⟨[z,.bool false],rfl,z,[.bool false],rfl,⟨z,rfl,y⟩,.bool false,[],rfl,⟨rfl,rfl⟩,rfl⟩⟩;simp[execOp,q,G,H];simp[Instr.lookup,run_underlying O,MapKept.run_getObj_map L,K.check w _ m,g,W];refine⟨true,.tuple #[e.val,.bool true],⟨λ_=>⟨p,ft s,u⟩,λ_=>rfl⟩,jv λo q _=>?_,λD _ _=>⟨[e.val,.bool true],rfl,e.val,[.bool true],rfl,⟨e.val,rfl,ax.Le d _ az⟩,.bool true,[],rfl,⟨rfl,rfl⟩,rfl⟩⟩;simp[execOp,q,G,H];simp[Instr.lookup,run_underlying O,MapKept.run_getObj_map L,K.check w _ m,g]
theorem ajB{t h H ty:TypeId}{x A:Operand}{b:Nat}{l:List (Value×ax)}{a:Value}{Z:Lit}(L:P.underlying t=some (.map h H))(K:Maps.Keyed P h){z:Value}(Y:∀w,(zeroValue H).run P w=.ok z w)(y:z.oneCell'=true)(R:∀p∈l,∃k,keyOf P h p.1=some k) (c:∀p∈l,p.2.ids=[]) (q:keyOf P h a=some Z) (W:fG S x=ag (.v (.map (some b)))) (m:∀(ρ:aI) v,(fG S A).rel ρ v->v=a):
  jM P gl S (.lookup t x A false) ty (ia b l) (λr:Option (Value×ax)=>ag (match r with|some p=>p.2|none=>.v z)) (λ_=>ia b l) (λr=>match r with|some p=>p∈l/\p.1=a|none=>∀p∈l,p.1≠a):=by
 refine xJ λw ρ ev F O d=>?_;obtain⟨_,es,I,V⟩:=O;have D:=oc W d;have G:=m ρ _ (d A);rcases Hv K V R q w with ⟨i,T⟩|⟨j,e,p,i,_,U,u,g⟩;refine⟨none,z,T,jv λo s _=>?_,λC _ _=>⟨rfl,y⟩⟩;simp[execOp,s,D,G];simp[Instr.lookup,run_underlying L,MapKept.run_getObj_map I,K.check w _ q,i,Y];have f:=ft U;refine⟨some p,e.val,⟨f,u⟩,jv λo s _=>?_,λC _ Q=>?_⟩;simp[execOp,s,D,G];simp[Instr.lookup,run_underlying L,MapKept.run_getObj_map I,K.check w _ q,i];exact ri (ρ:=aI.start ρ.M) Q g (c p f)
theorem SU{w:World}{b:Nat}{o:Obj}{S:Nat->Prop}(d:S b):rX S w (setBlock w b o):=
 ⟨rfl,rfl,rfl,by simp[setBlock],λk _ c=>by
  have a:k≠b:=λe=>c (by simp_all)
  simp[setBlock,Ne.symm a]⟩
theorem abi{w:World}{S:Nat->Prop}:rX S w w.drew:=⟨rfl,rfl,rfl,aQ _,λ_ _ _=>rfl⟩
theorem rX.tr{w c d:World}{S:Nat->Prop}(h:rX S w c)(g:rX S c d):rX S w d:=
 ⟨g.os.trans h.os,g.tape.trans h.tape,g.output.trans h.output,fw h.size g.size,λk a b=>(g.block k (gJ a h.size) b).trans (h.block k a b)⟩
theorem ED{w:World}{o:Obj}{S:Nat->Prop}:rX S w (w.alloc o):=⟨rfl,rfl,rfl,az,λk a _=>Below.heap_alloc _ _ _ a⟩
theorem Mv{w d:World}{S:Nat->Prop}(h:rX S w d){b:Nat}{l:bn}(a:cR w b=some l)(e:¬S b):cR d b=some l:=by have:=h.block b (su a) e;unfold cR at a⊢;rw[this];exact a
theorem Bp{p:Op}{t:TypeId}{G:ak}{f:Type}{s:f->SV}{i:f->ak}{J:f->Prop}(h:∀(w:World)(ρ:aI)(ev:Operand->Value)(F:Nat->Prop),G.P w ρ.M F->(∀o,(fG S o).rel ρ (ev o))->∃g v a F2,J g/\BY P ev p t w v a/\(i g).P a ρ.M F2/\(∀b,F2 b->F b\/w.heap.size<=b)/\rX F w a/\∀ρ':aI,aI.le ρ ρ'->ρ'.M=ρ.M->(s g).rel ρ' v):jM P gl S p t G s i J:=by
 intro w ρ ev F C m D d e;obtain⟨g,v,a,F2,u,y,z,j,k,A⟩:=h w ρ ev F C e;refine⟨g,v,a,F2,ρ.M,u,y,z,j,k,Mem.le_refl _,λb l c=>⟨Mv k (m b l c) (λq=>d b q l c),λq=>?_,.inr (.inr c)⟩,A⟩;rcases j b q with q|q;·simp_all
 have:=su (m b l c);omega
theorem Yn{t g G ty:TypeId}{x ix vx:Operand}{b:Nat}{l:List (Value×ax)}{key:Value}{W:Lit}{c:ax}(T:P.underlying t=some (.map g G))(K:Maps.Keyed P g)(O:∀p∈l,∃k,keyOf P g p.1=some k) (z:keyOf P g key=some W) (d:∀p∈l,p.1≠key) (V:fG S x=ag (.v (.map (some b)))) (m:∀(ρ:aI) v,(fG S ix).rel ρ v->v=key) (U:fG S vx=ag c) (I:c.ids=[]):
  jM P gl S (.mapUpdate t x ix vx) ty (ia b l) (λ_:Unit=>.undef) (λ_=>ia b (l++[(key,c)])) (λ_=>True):=by
 refine Bp λw ρ ev F H a=>?_;obtain⟨y,u,f,A⟩:=H;have C:=oc V a;have D:=m ρ _ (a ix);have i:=by have:=a vx;rw[U]at this;exact ri (ρ:=ρ) (ρ':=aI.start ρ.M) rfl this I
 rcases Hv K A O z w with ⟨L,_⟩|⟨j,e,p,_,_,R,s,_⟩
 ·refine⟨(),undef,setBlock w b (.map (u++[(MapEntry.mk key (ev vx) l.length)]).toArray (l++[(key,c)]).length),F,trivial,λo Q _=>.inr ⟨rfl,?_⟩,⟨y,u++[(MapEntry.mk key (ev vx) l.length)],?_,Gq A rfl az i⟩,λb h=>.inl h,SU ((y b).2 rfl),λ_ _ _=>rfl⟩;simp[execOp,Q,C,D];simp[Instr.mapUpdate,run_underlying T,MapKept.run_getObj_map f,K.check w _ z,L,MapKept.run_setObj_map _ f,setBlock]
  ·have q:b<w.heap.size:=by
    rcases cG b w.heap.size with h|h;exact h;rw[gH h]at f;cases f
   show(w.heap.setIfInBounds b _)[b]?=_;rw[B2 q]
 exact absurd s (d p (ft R))
theorem K1{t e:TypeId}:jM P gl S (.makeMap t none) e ak.none (λb:Nat=>ag (.v (.map (some b)))) (λb=>ia b []) (λ_=>True):=by refine Bp λw h ev F f a=>?_;refine⟨w.heap.size,.map (some w.heap.size),w.alloc (.map #[] 0),λb=>b=w.heap.size,trivial,jv λo d _=>?_,⟨λ_=>kk,[],heap_alloc_new w _,trivial⟩,λb g=>.inr aa,ED,λ_ _ _=>⟨rfl,rfl⟩⟩;simp[execOp,d];simp[Instr.makeMap]
theorem abJ{t g e z:TypeId}{x:Operand}{b:Nat}{l:List (Value×ax)}(u:P.underlying t=some (.map g e))(y:fG S x=ag (.v (.map (some b)))):
  jM P gl S (.range t x) z (ia b l) (λr:Nat=>ag (.v (pt r))) (λr=>ak.sep (qt r b l.length []) (ia b l)) (λ_=>True):=by
 refine Bp λw D ev F m a=>?_;obtain⟨j,d,f,s⟩:=m;have i:=oc y a;have c:b<w.heap.size:=by rcases cG b w.heap.size with h|h;exact h;·simp_all
 refine⟨w.heap.size,pt w.heap.size,w.alloc (.mapIter (some b) l.length #[] l.length),λk=>k=w.heap.size\/k=b,trivial,jv λo q _=>?_,
  ⟨λk=>k=w.heap.size,λk=>k=b,⟨λ_=>kk,heap_alloc_new w _⟩,⟨λ_=>kk,d,(Below.heap_alloc _ _ _ c).trans f,s⟩,λk A C=>aa,λ_=>kk⟩,λk p=>p.elim (λh=>.inr aa) (λh=>.inl ((j k).2 h)),ED,λ_ _ _=>⟨rfl,rfl⟩⟩
 simp[execOp,q,i];simp[run_range_map w t g e b d.toArray l.length u f]
theorem Gn{M:Mem}:∀{i:Nat}{l:List (Value×ax)}{a:List MapEntry},rY M i l a->a.map (·.born)=List.range' i l.length
 |_,[],[],_=>rfl
 |i,_::l,e::a,h=>by rw[eV,cP,vW,h.2.1,Gn h.2.2.2]
 |_,[],_::_,h=>h.elim
 |_,_::_,[],h=>h.elim
theorem agl{ty:TypeId}{it:Operand}{r b:Nat}{l:List (Value×ax)}{seen:List Nat}(x0:fG S it=ag (.v (pt r)))(D:∀p∈l,p.1.oneCell'=true)(y:∀p∈l,p.2.ids=[]):
  jM P gl S (.next it false) ty (ak.sep (qt r b l.length seen) (ia b l)) (λo:Option (Nat×Value×ax)=>match o with|none=>.tup [.one (.v (.bool false))]|some p=>.tup [.one (.v (.bool true)),.one (.v p.2.1),.one p.2.2])
   (λo=>match o with|none=>ak.sep (qt r b l.length seen) (ia b l)|some p=>ak.sep (qt r b l.length (seen++[p.1])) (ia b l))
   (λo=>match o with|none=>∀i,i<l.length->i∈seen|some p=>l[p.1]?=some p.2/\p.1∉seen):=by
 refine Bp λw ρ ev F hG Y=>?_;obtain⟨F1,F2,⟨m,hr⟩,⟨t,k,T,d⟩,W,Q⟩:=hG;have e1:=oc x0 Y;have G:=xp d;have f:∀e∈k,∃j p,l[j]?=some p/\k[j]?=some e/\e.key=p.1/\e.born=j/\p.2.rel (aI.start ρ.M) [e.val]:=λe u=>by obtain⟨j,hj⟩:=List.mem_iff_getElem?.1 u;obtain⟨p,A,h2,O,L⟩:=pF d j e hj;exact⟨j,p,A,hj,h2,aa,L⟩
 have x1:∀(j:Nat)(p:Value×ax),l[j]?=some p->j<l.length:=λj p h=>by rcases cG j l.length with h'|h';exact h';rw[fQ h']at h;cases h
 rcases run_next_at w ty r b l.length l.length seen.toArray k.toArray l.length hr T (λe u=>by
  obtain⟨j,p,A,_,_,O,_⟩:=f e (by simpa using u)
  have:=x1 j p A;omega) (aQ _)with ⟨C,g⟩|⟨e,u,s,hw,g⟩
 ·refine⟨none,.tuple #[.bool false],w,F,λi hi=>?_,jv λo ho z=>?_,⟨F1,F2,⟨m,hr⟩,⟨t,k,T,d⟩,W,Q⟩,λb h=>.inl h,⟨rfl,rfl,rfl,aQ _,λ_ _ _=>rfl⟩,λx3 _ _=>⟨[.bool false],rfl,.bool false,[],rfl,⟨rfl,rfl⟩,rfl⟩⟩
  ·have Z:k[i]?=some k[i]:=by simp[G,hi]
   obtain⟨p,_,_,V,_⟩:=pF d i _ Z;have C:=Dv C;unfold leftOf at C;rw[Array.filter_eq_empty_iff]at C;have:=C k[i] az;simp at this;rw[V,cy]at this;exact this
  simp only[execOp,ho,e1,z];rw[show((do let a <-Instr.next (pt r) false ty;pure (Next.value a)):Sem Next).run P w=(((Instr.next (pt r) false ty).run P w).andThen λa w'=>(pure (Next.value a):Sem Next).run P w')from cf ..,g];rfl
 ·have q:=by
   unfold leftOf at u;simp at u;exact u
  obtain⟨j,p,A,h2,O,L,h5⟩:=f e q.1;have I:s.heap[r]?=some (.mapIter (some b) l.length seen.toArray l.length):=by rcases hw with rfl|rfl<;>exact hr
  have U:s.heap[b]?=some (.map k.toArray l.length):=by rcases hw with rfl|rfl<;>exact T
  have R:rX F w s:=by rcases hw with rfl|rfl;exact⟨rfl,rfl,rfl,aQ _,λ_ _ _=>rfl⟩;exact abi
  have x2:b≠r:=λe=>W b ((m b).2 e) ((t b).2 rfl);have hE:F r:=(Q r).2 (.inl ((m r).2 rfl));have H:=ft A;refine⟨some (j,p),.tuple #[.bool true,e.key,e.val],setBlock s r (.mapIter (some b) l.length (seen.toArray.push e.born) l.length),F,⟨A,by rw[<-L];exact q.2⟩,jv λo ho z=>?_,⟨F1,F2,⟨m,?_⟩,⟨t,k,?_,d⟩,W,Q⟩,λb h=>.inl h,R.tr (SU hE),λx3 _ hM=>?_⟩;simp only[execOp,ho,e1,z];rw[show((do let a <-Instr.next (pt r) false ty;pure (Next.value a)):Sem Next).run P w=(((Instr.next (pt r) false ty).run P w).andThen λa w'=>(pure (Next.value a):Sem Next).run P w')from cf ..,g];rfl
  ·have K:r<s.heap.size:=by
    rcases cG r s.heap.size with h|h;exact h;rw[gH h]at I;cases I
   show(s.heap.setIfInBounds r _)[r]?=_;rw[B2 K,L];simp
  show(s.heap.setIfInBounds r _)[b]?=_;rw[yZ (λe=>x2 e.symm)];exact U;refine⟨[.bool true,e.key,e.val],rfl,.bool true,[e.key,e.val],rfl,⟨rfl,rfl⟩,e.key,[e.val],rfl,⟨by rw[O],D p H⟩,e.val,[],rfl,?_,rfl⟩;exact ri (ρ:=aI.start ρ.M) hM (x:=ag p.2) h5 (y p H)
theorem abI{ty:TypeId}{it:Operand}{r b i:Nat}{l:List (Value×ax)}{seen:List Nat}{p:Value×ax}(q:l[i]?=some p)(u:fG S it=ag (.v (pt r)))(g:p.1.oneCell'=true)(f:p.2.ids=[]):
  jM P gl S (.entry it) ty (ak.sep (qt r b l.length (seen++[i])) (ia b l)) (λ_:Unit=>.tup [.one (.v p.1),.one p.2]) (λ_=>ak.sep (qt r b l.length (seen++[i])) (ia b l)) (λ_=>True):=by
 refine xJ λw ρ ev F D m=>?_;obtain⟨T,F2,⟨A,K⟩,⟨C,d,H,e⟩,V,U⟩:=D;have z:=oc u m;have h:=xp e;have t:i<l.length:=by rcases cG i l.length with h'|h';exact h';rw[fQ h']at q;cases q
 have s:d[i]?=some d[i]:=by simp[h,t]
 obtain⟨Y,y,L,W,O⟩:=pF e i _ s;rw[q]at y;cases y;have k:d[i].born=i:=aa;refine⟨(),.tuple #[d[i].key,d[i].val],trivial,jv λo I _=>?_,λR _ G=>⟨[d[i].key,d[i].val],rfl,d[i].key,[d[i].val],rfl,⟨by rw[L],g⟩,d[i].val,[],rfl,?_,rfl⟩⟩;simp only[execOp,I,z];have j:=run_entry_at (P:=P) w r b l.length seen.toArray d.toArray l.length d[i] (by rw[K];simp[k]) H az (by rw[show d.toArray.toList.map (·.born)=List.range' 0 l.length from Gn e];exact List.nodup_range');rw[show((do let a <-Instr.entry (pt r);pure (Next.value a)):Sem Next).run P w=(((Instr.entry (pt r)).run P w).andThen λa Q=>(pure (Next.value a):Sem Next).run P Q)from cf ..,j];rfl;exact ri (ρ:=aI.start ρ.M) G (x:=ag p.2) O f
end
theorem GH.drop{E:cJ}{N:Nat}{j:St}{G R:ak}{a:Act}{w:World}(h:GH E N j (ak.sep R G) a w):GH E N j G a w:=by obtain⟨W,F,e,⟨C,F2,_,s,_,g⟩,A⟩:=h;exact⟨W,F2,⟨e.gl,e.kep,e.ids,λb f=>e.foot b ((g b).2 (.inr f)),λb f=>e.own b ((g b).2 (.inr f)),λb f=>e.mem b ((g b).2 (.inr f)),e.bJ,e.zY,e.plt,e.mle⟩,s,A⟩
theorem OJ{E:cJ}{N:Nat}{n r:aA}{x:Nat->aA}{l:cw}{a:St}{G R:ak}(h:aR E.P l (GH E N a G) n r x):aR E.P l (GH E N a (ak.sep R G)) n r x:=
 qf (λ_ _ h=>h.drop) h
theorem HR{E:Env}{fn:Func}{Q c:SV->St->Prop}{a:St}(h:m6 E fn Q a)(d:∀b a,Q b a->c b a):m6 E fn c a:=by
 unfold m6 at h⊢;cases e:Jv E a fn.results.toList with
 |some b=>simp_all
 |none=>simp_all
theorem iU{E:cJ}{x:Nat->aA}(i:aS E.P E.sp)(o:E.P.follows .mixedOrders=true){fn:Func}{l:cw}{j:St}{G:ak}{Q:SV->ak->Prop}(q:SV)(h:∀(w:World)(ids:List (Nat×Nat))(M:Mem)(num:Nat×Nat->Nat),VC ⟨E.P,E.sp,⟨w,ids,E.gl,M,num,j.next⟩⟩ l j (m6 ⟨E.P,E.sp,cS E⟩ fn λsv _=>sv=q) (m6 ⟨E.P,E.sp,cS E⟩ fn λsv _=>sv=q) (λ_ _=>False)) (k:Q q G):
  aR E.P l (GH E fn.ntmps j G) (du E fn Q) (du E fn Q) x:=
 lY i o _ _ _ h (λd _ _ g f=>⟨d,G,cS E,f,HR g λ_ _ e=>e▸k⟩) (λd _ _ g f=>⟨d,G,cS E,f,HR g λ_ _ e=>e▸k⟩) (λ_ _ _ _ h _=>h.elim)
theorem dD{P:Program}{sp:FuncId->Option Spec}{gl:dF}{f:FuncId}{fn:Func}{α β:Type}{args:α->dq}{pre:α->Prop}{I:α->ak}{sv:α->β->SV}{G2:α->β->ak}{J:α->β->Prop}(V:aF P f fn) (d:fn.body.isSome=true) (Y:∀x,(args x).length<=fn.ntmps) (D:∀x y,(sv x y).ids=[])(h:∀x,pre x->∀[W3],aR P (aq fn) (GH (mO P sp gl) fn.ntmps (lK fn (args x) [] 0) (I x)) (du (mO P sp gl) fn λs G=>∃y,J x y/\dE s (sv x y)/\G=G2 x y) (du (mO P sp gl) fn λs G=>∃y,J x y/\dE s (sv x y)/\G=G2 x y) (λ_ _ _=>False)):
  fk P gl f args pre I sv G2 J:=by
 intro x hx w M us F O U C o hv;refine(gfn V.1 d rfl U C hv (Y x) O rfl (λb k=>⟨k,o b k⟩) (@h x hx ⟨w,M,F⟩)).mono ?_;rintro e w2 ⟨v,s,G,F2,ρ,rfl,hs,⟨y,Q,Z,rfl⟩,u,T,A,g,i,K,j⟩;refine⟨y,v,F2,ρ.M,Q,rfl,u,g,T,j,λb l k=>⟨A b l k,λL=>i b L l k,?_⟩,ri (ρ:=ρ) (ρ':=aI.start ρ.M) rfl (Z ρ v hs) (D x y)⟩;by_cases W:b<w.heap.size;·simp_all
 exact .inl aa
theorem bR(s:SV):dE s s:=λ_ _ h=>h
theorem Ac:dE (ag .T) (ag (.v (.bool true))):=λ_ _ h=>⟨h,rfl⟩
theorem tu:dE (ag .F) (ag (.v (.bool false))):=λ_ _ h=>⟨h,rfl⟩
def Ja:ax->ax
 |.T=>.v (.bool true)
 |.F=>.v (.bool false)
 |c=>c
theorem af8{b:aI}{c:ax}{a:bn}(h:c.rel b a):(Ja c).rel b a:=by
 cases c<;>first
  |exact h
  |trivial
theorem Pr{b:aI}:∀{cs:cb}{a:bn},aH b cs a->aH b (cs.map Ja) a
 |[],_,h=>h
 |_::_,_,⟨f,g,e,c,d⟩=>⟨f,g,e,af8 c,Pr d⟩
theorem ajt{d:List cb}{p:Nat}{a:ak}(w:World)(M:Mem)(F:Nat->Prop)(h:(ak.obj d p a).P w M F):(ak.obj (d.map λcs=>cs.map Ja) p a).P w M F:=by obtain⟨f,F2,k,A,m,o,q,s,t⟩:=h;refine⟨f,F2,k,by simp_all,m,o,q,s,λi cs b e u=>?_⟩;rw[dM]at e;obtain⟨c,g,j⟩:=Option.map_eq_some_iff.1 e;subst j;obtain⟨l,y,z⟩:=t i c b g u;exact⟨l,y,Pr z⟩
section
variable {P:Program}{gl:dF}{S:dr}
theorem zV{t c j k:TypeId}{x y:Operand}{p:Nat}{G:ak}(g:P.underlying t=some (.pointer c))(h:fG S x=ag (.v (pt p)))(i:fG S y=ag (.v (.pointer none))):
  jM P gl S (.binOp .eql t x y j) k G (λ_:Unit=>ag .F) (λ_=>G) (λ_=>True):=by
 refine xJ λw m ev F l a=>?_;have d:=oc h a;have e:=oc i a;refine⟨(),.bool false,trivial,jv λo f _=>?_,λ_ _ _=>rfl⟩;simp[execOp,f,d,e];simp[kS]
 rw[show(binOp .eql t (pt p) (.pointer none)).run P w=.ok (.bool false) w from by
  show(do let b <-Op.equal t (pt p) (.pointer none);pure (Value.bool b):Sem Value).run P w=_;simp only[cf,mQ g]
  rfl]
 rfl
end
section
variable {E:cJ}{N:Nat}{n r:aA}{x:Nat->aA}
theorem qV{a:Act}{w:World}{c:St}{bl:List cb}{id p:Nat}{e:ak}(K L:List Nat)(l:E.pins=[])(f:(L.all λi=> !dQ i K)=true)(b:(iA c.B K&&iA c.B L&&mN L&&zM c.B L)=true)(j:L[0]?=some id)(g:((L.map λi=>(uh c.B i).map (ax.ui (pos L))).map λcs=>cs.map Ja)=bl)(d:Nat)(k:GH {E with pins:=[(id,p)],ptop:=d} N c e a w):GH E N (mA c K id p) (ak.obj bl p e) a w:=by
 subst g;exact(aaV K L l f b j rfl d k).mono λw M F h=>ajt w M F h
theorem ma{l:cw}{b:St}{bl:List cb}{id p:Nat}{d:ak}(K L:List Nat)(m:E.pins=[])(e:(L.all λi=> !dQ i K)=true)(a:(iA b.B K&&iA b.B L&&mN L&&zM b.B L)=true)(j:L[0]?=some id)(f:((L.map λi=>(uh b.B i).map (ax.ui (pos L))).map λcs=>cs.map Ja)=bl)(c:Nat)
  (τ:St) (g:(mA b K id p).le (cS E) τ True) (h:aR E.P l (GH E N τ (ak.obj bl p d)) n r x):aR E.P l (GH {E with pins:=[(id,p)],ptop:=c} N b d) n r x:=
 qf (λ_ _ k=>((qV K L m e a j f c k).le g).2) h
theorem U3{l:cw}{ops:Array Oper}{i:Nat}{c:St}{bl:List cb}{id p:Nat}{e:ak}(K L:List Nat)(q:E.pins=[])(f:(L.all λi=> !dQ i K)=true)(b:(iA c.B K&&iA c.B L&&mN L&&zM c.B L)=true)(m:L[0]?=some id)(g:((L.map λi=>(uh c.B i).map (ax.ui (pos L))).map λcs=>cs.map Ja)=bl)(d:Nat)(k:St) (j:(mA c K id p).le (cS E) k True) (h:rL E.P ops i l (GH E N k (ak.obj bl p e)) n r x):rL E.P ops i l (GH {E with pins:=[(id,p)],ptop:=d} N c e) n r x:=by
 intro a w Q o;exact h a w Q ((qV K L q f b m g d o).le j).2
theorem Bf{l:cw}{b:St}{bl:List cb}{id:Nat}{G:ak}(t:Nat)(K L:List Nat)(m:E.pins=[])(u:b.S t=al id 0)(d:(blt id b.next&&ble E.ptop b.next)=true)(g:(L.all λi=> !dQ i K)=true)(e:(iA b.B K&&iA b.B L&&mN L&&zM b.B L)=true)(s:L[0]?=some id)(j:((L.map λi=>(uh b.B i).map (ax.ui (pos L))).map λcs=>cs.map Ja)=bl)(o:Nat->St) (k:∀p,(mA b K id p).le (cS E) (o p) True) (h:∀p,aR E.P l (GH E N (o p) (ak.obj bl p G)) n r x):aR E.P l (GH E N b G) n r x:=by
 simp only[bD]at d;refine p4 (λa w f=>?_) h;obtain⟨p,f⟩:=f.zY t id u b.next (hX d.1) (fR d.2);rw[m]at f;exact⟨p,((qV K L m g e s j b.next f).le (k p)).2⟩
theorem XK{l:cw}{c:Code}{f:St}{G:ak}(h:l.head?=some c)(g:p6 c=true)(j:lD f.S (pZ c)=ag .T)(m:aR E.P (fC c++l.tail) (GH E N f G) n r x):aR E.P l (GH E N f G) n r x:=by
 intro a w Q i o s u;cases l with
 |nil=>simp at h
 |cons d l=>simp at h;subst h;unfold p6 at g;split at g;rename_i c p q;obtain⟨F,k,C,y,z,e,A⟩:=i.mP;have b:(lD f.S c).rel k (a.eval c):=dJ.fG (E:=⟨E.P,E.sp,lI w E.gl k f.next⟩) e c;simp[pZ]at j;rw[j]at b;refine wp_cond_split (oZ b).1 (λ_=>?_) (λt=>by cases t);exact lM p l Q a w (m a w Q i o s u);cases g
theorem XJ{l:cw}{c:Code}{f:St}{G:ak}(h:l.head?=some c)(g:p6 c=true)(j:lD f.S (pZ c)=ag .F)(m:aR E.P (tM c++l.tail) (GH E N f G) n r x):aR E.P l (GH E N f G) n r x:=by
 intro a w Q i o s u;cases l with
 |nil=>simp at h
 |cons d l=>simp at h;subst h;unfold p6 at g;split at g;rename_i c p q;obtain⟨F,k,C,y,z,e,A⟩:=i.mP;have b:(lD f.S c).rel k (a.eval c):=dJ.fG (E:=⟨E.P,E.sp,lI w E.gl k f.next⟩) e c;simp[pZ]at j;rw[j]at b;refine wp_cond_split (oZ b).1 (λt=>by cases t) (λ_=>?_);exact lM q l Q a w (m a w Q i o s u);cases g
theorem GH.ref{c:St}{G:ak}{a:Act}{w:World}(t:Nat)(s:SV)(k:dE (c.S t) s)(i:GH E N c G a w):GH E N ⟨c.aW.set t s,c.bQ,c.next⟩ G a w:=by obtain⟨W,F,j,h,g,f,b,d⟩:=i;refine⟨W,F,j,h,by simp_all,f,{b with aW:=?_},d⟩;intro u;have l:=b.aW u;show((c.aW.set t s).getD u .junk).rel f _;rw[bx,pn];split;rename_i e;subst e;split;exact k f _ l;trivial;trivial
theorem iy{l:cw}{a:St}{G:ak}(t:Nat)(s:SV)(c:dE (a.S t) s)(h:aR E.P l (GH E N ⟨a.aW.set t s,a.bQ,a.next⟩ G) n r x):aR E.P l (GH E N a G) n r x:=qf (λ_ _ b=>b.ref t s c) h
theorem s9{l:cw}{ops:Array Oper}{i:Nat}{b:St}{G:ak}(t:Nat)(s:SV)(d:dE (b.S t) s)(h:rL E.P ops i l (GH E N ⟨b.aW.set t s,b.bQ,b.next⟩ G) n r x):rL E.P ops i l (GH E N b G) n r x:=by intro a w Q c;exact h a w Q (c.ref t s d)
theorem jc:dE (ag (.v (.bool true))) (ag .T):=λ_ _ h=>h.1
theorem xu:dE (ag (.v (.bool false))) (ag .F):=λ_ _ h=>h.1
end
section
variable {E:cJ}{N:Nat}{n r:aA}{x:Nat->aA}{l:cw}{σ:St}{G:ak}
theorem e6(e:aS E.P E.sp)(k:Nat)(d:St)(g:aR E.P (l.drop k) (GH E N d G) n r x)(i:E.P.follows .mixedOrders=true:=by kernel_rfl)(h:∀(w:World)(ids:List (Nat×Nat))(M:Mem)(num:Nat×Nat->Nat),d.aj True=VC ⟨E.P,E.sp,⟨w,ids,E.gl,M,num,σ.next⟩⟩ (l.take k) σ (λf=>f.le (cS E) d True) (λ_=>False) (λ_ _=>False):=by intros;kernel_rfl):aR E.P l (GH E N σ G) n r x:=
 va e i k (λ_=>()) (λ_=>d) (λ_=>True) (λ_=>False) (λ_ _=>False) (λw ids M num=>av (h w ids M num) (aw trivial)) (λ_ _=>g) (λ_ _ _ h _=>h.elim) (λ_ _ _ _ h _=>h.elim)
theorem gcd(e:aS E.P E.sp){j:Type}(k:Nat)(f:St->j)(o:j->St)(K:j->Prop)(h:∀(w:World)(ids:List (Nat×Nat))(M:Mem)(num:Nat×Nat->Nat),VC ⟨E.P,E.sp,⟨w,ids,E.gl,M,num,σ.next⟩⟩ (l.take k) σ (λd=>d.le (cS E) (o (f d)) (K (f d))) (λ_=>False) (λ_ _=>False))(s:∀g,K g->aR E.P (l.drop k) (GH E N (o g) G) n r x) (y:E.P.follows .mixedOrders=true:=by kernel_rfl):aR E.P l (GH E N σ G) n r x:=
 va e y k f o K (λ_=>False) (λ_ _=>False) h s (λ_ _ _ h _=>h.elim) (λ_ _ _ _ h _=>h.elim)
theorem Eu(d:aS E.P E.sp)(k:Nat)(sw:List (Nat×Nat))(a:St)(f:aR E.P (l.drop k) (GH E N a G) n r x)(g:E.P.follows .mixedOrders=true:=by kernel_rfl)(h:∀(w:World)(ids:List (Nat×Nat))(M:Mem)(num:Nat×Nat->Nat),a.aj True=VC ⟨E.P,E.sp,⟨w,ids,E.gl,M,num,σ.next⟩⟩ (l.take k) σ (λe=>e.uH (cS E) sw a True) (λ_=>False) (λ_ _=>False):=by intros;kernel_rfl):aR E.P l (GH E N σ G) n r x:=
 lP d g k sw (λ_=>()) (λ_=>a) (λ_=>True) (λ_=>False) (λ_ _=>False) (λw ids M num=>av (h w ids M num) (aw trivial)) (λ_ _=>f) (λ_ _ _ h _=>h.elim) (λ_ _ _ _ h _=>h.elim)
theorem eG(g:aS E.P E.sp){ops:Array Oper}{i:Nat}(j:Nat)(e:St)(k:lV E.P ops j l (GH E N e G) n r x)(f:ble i j=true:=by kernel_rfl)(o:ble j ops.size=true:=by kernel_rfl)(h:∀(w:World)(ids:List (Nat×Nat))(M:Mem)(num:Nat×Nat->Nat),e.aj True=xe ⟨E.P,E.sp,⟨w,ids,E.gl,M,num,σ.next⟩⟩ ops i ((ops.toList.drop i).take (j-i)) σ [] (λd _=>({d with next:=d.next+8*j}:St).le (cS E) e True):=by intros;kernel_rfl):lV E.P ops i l (GH E N σ G) n r x:=
 SH g j (λ_=>()) (λ_=>e) (λ_=>True) (fR f) (fR o) (λw ids M num=>av (h w ids M num) (aw trivial)) (λ_ _=>k)
theorem iS(h:aS E.P E.sp){ops:Array Oper}{i:Nat}{k:Type}(j:Nat)(f:St->k)(o:k->St)(K:k->Prop)(s:∀(w:World)(ids:List (Nat×Nat))(M:Mem)(num:Nat×Nat->Nat),xe ⟨E.P,E.sp,⟨w,ids,E.gl,M,num,σ.next⟩⟩ ops i ((ops.toList.drop i).take (j-i)) σ [] (λd _=>({d with next:=d.next+8*j}:St).le (cS E) (o (f {d with next:=d.next+8*j})) (K (f {d with next:=d.next+8*j}))))(t:∀g,K g->lV E.P ops j l (GH E N (o g) G) n r x) (e:ble i j=true:=by kernel_rfl) (u:ble j ops.size=true:=by kernel_rfl):lV E.P ops i l (GH E N σ G) n r x:=
 SH h j f o K (fR e) (fR u) s t
theorem eK{ops:Array Oper}{i:Nat}(h:aR E.P l (GH E N σ G) n r x)(d:ble ops.size i=true:=by kernel_rfl):lV E.P ops i l (GH E N σ G) n r x:=KN (fR d) h
theorem eX(rid:Nat)(ops:Array Oper)(h:lV E.P ops 0 l.tail (GH E N σ G) n r x)(d:l.head?=some (.region rid ops false):=by kernel_rfl):aR E.P l (GH E N σ G) n r x:=U6 d h
theorem ju{ops:Array Oper}{k:Nat}{g:St}{f:FuncId}{fn:Func}{α β:Type}{args:α->dq}{pre:α->Prop}{q:α->ak}{p:α->β->SV}{s:α->β->ak}{J:α->β->Prop}(j:fk E.P E.gl f args pre q p s J) (z:α) (w:pre z) (u:aF E.P f fn) (h:∀y,J z y->lV E.P ops (k+1) l (GH E N (g.put (nD ops k) (p z y)) (s z y)) n r x)(e:Np g.S ops k f=true:=by kernel_rfl) (d:(BA ops k).map (fG g.S)=args z:=by kernel_rfl) (i:Jb (args z)=true:=by kernel_rfl) (o:∀y,(p z y).ids=[]:=by intros;rfl):lV E.P ops k l (GH E N g (q z)) n r x:=
 hZ (jZ j z w e u d i o) h
theorem fh(d:St)(e:aR E.P l (GH E N d G) n r x)(h:d=σ.proj d:=by kernel_rfl)(f:(ble d.next σ.next&&d.wf&&ble (cS E).top d.next&&beq σ.aW.length d.aW.length)=true:=by kernel_rfl):aR E.P l (GH E N σ G) n r x:=air (K:=True) (aB h f trivial) (λ_=>e)
theorem jX(c:Code)(a:aR E.P (fC c++l.tail) (GH E N σ G) n r x)(e:l.head?=some c:=by kernel_rfl)(d:p6 c=true:=by kernel_rfl)(f:lD σ.S (pZ c)=ag (.v (.bool true)):=by kernel_rfl):aR E.P l (GH E N σ G) n r x:=OI true e d f (λ_=>a) (λh=>by cases h)
theorem fF(c:Code)(d:aR E.P (tM c++l.tail) (GH E N σ G) n r x)(f:l.head?=some c:=by kernel_rfl)(e:p6 c=true:=by kernel_rfl)(g:lD σ.S (pZ c)=ag (.v (.bool false)):=by kernel_rfl):aR E.P l (GH E N σ G) n r x:=OI false f e g (λh=>by cases h) (λ_=>d)
theorem gqT(c:Code)(a:aR E.P (fC c++l.tail) (GH E N σ G) n r x)(d:l.head?=some c:=by kernel_rfl)(b:p6 c=true:=by kernel_rfl)(e:lD σ.S (pZ c)=ag .T:=by kernel_rfl):aR E.P l (GH E N σ G) n r x:=XK d b e a
theorem gqF(c:Code)(a:aR E.P (tM c++l.tail) (GH E N σ G) n r x)(d:l.head?=some c:=by kernel_rfl)(b:p6 c=true:=by kernel_rfl)(e:lD σ.S (pZ c)=ag .F:=by kernel_rfl):aR E.P l (GH E N σ G) n r x:=XJ d b e a
theorem jJ{bl:List cb}{p:Nat}{f:ak}(e:List Nat)(d:St)(i:aR E.P l (GH (E.cV σ.next p) N d f) n r x)(g:e.map σ.S=e.map λ_=>SV.is (.one (.v (pt p))):=by kernel_rfl)(h:d=(ua σ e (bl.map λcs=>cs.map (ax.ui (σ.next + ·)))).proj d:=by kernel_rfl) (j:(ble d.next (ua σ e (bl.map λcs=>cs.map (ax.ui (σ.next + ·)))).next&&d.wf&&ble (cS (E.cV σ.next p)).top d.next&&beq (ua σ e (bl.map λcs=>cs.map (ax.ui (σ.next + ·)))).aW.length d.aW.length)=true:=by kernel_rfl):aR E.P l (GH E N σ (ak.obj bl p f)) n r x:=
 aaZ e g d (aB h j trivial) i
theorem gQ{bl:List cb}{id p:Nat}{g:ak}(K L:List Nat)(f:Nat)(d:St)(h:aR E.P l (GH E N d (ak.obj bl p g)) n r x)(t:E.pins=[]:=by rfl)(j:(L.all λi=> !dQ i K)=true:=by kernel_rfl)(e:(iA σ.B K&&iA σ.B L&&mN L&&zM σ.B L)=true:=by kernel_rfl)(o:L[0]?=some id:=by rfl)(k:((L.map λi=>(uh σ.B i).map (ax.ui (pos L))).map λcs=>cs.map Ja)=bl:=by kernel_rfl)(q:d=(mA σ K id p).proj d:=by kernel_rfl) (s:(ble d.next (mA σ K id p).next&&d.wf&&ble (cS E).top d.next&&beq (mA σ K id p).aW.length d.aW.length)=true:=by kernel_rfl):aR E.P l (GH {E with pins:=[(id,p)],ptop:=f} N σ g) n r x:=
 ma K L t j e o k f d (aB q s trivial) h
theorem Mg(t id k c:Nat)(e:Kd)(b:List (a6 e))(f:aR E.P l (GH E N ⟨σ.aW.set t (ag (.ro e b)),(id,[])::σ.bQ,σ.next⟩ G) n r x)(m:b.length=k:=by rfl)(i:σ.S t=ag (.sl id 0 0 k c):=by kernel_rfl)(g:σ.B id=some [.row e k b]:=by kernel_rfl):aR E.P l (GH E N σ G) n r x:=by refine m8 (P:=E.P) (l1:=[]) (l2:=l) (GH E N ⟨σ.aW.set t (ag (.ro e b)),(id,[])::σ.bQ,σ.next⟩ G) ?_ f;refine yn (λd=>d=⟨σ.aW.set t (ag (.ro e b)),(id,[])::σ.bQ,σ.next⟩) (λ_=>False) (λ_ _=>False) (λw ids M num=>?_) (λd a w e j=>e▸j) (λ_ _ _ h _=>h.elim) (λ_ _ _ _ h _=>h.elim);exact ZE t id k c e b i g m (l5 rfl)
end
theorem tP{E:cJ}{x:Nat->aA}(a:aS E.P E.sp){fn:Func}{l:cw}{σ:St}{G:ak}{Q:SV->ak->Prop}(q:SV)(d:Q q G)(b:E.P.follows .mixedOrders=true:=by kernel_rfl)(h:∀(w:World)(ids:List (Nat×Nat))(M:Mem)(num:Nat×Nat->Nat),(q=q)=VC ⟨E.P,E.sp,⟨w,ids,E.gl,M,num,σ.next⟩⟩ l σ (m6 ⟨E.P,E.sp,cS E⟩ fn λsv _=>sv=q) (m6 ⟨E.P,E.sp,cS E⟩ fn λsv _=>sv=q) (λ_ _=>False):=by intros;kernel_rfl):
  aR E.P l (GH E fn.ntmps σ G) (du E fn Q) (du E fn Q) x:=iU a b q (λw ids M num=>av (h w ids M num) rfl) d
end Ob
end Go.Eng
/- Words of 64 bits: the library's Mul64, Add64, Sub64. -/
section
universe u
theorem ab{α:Sort u}{a b:α}(h:a=b:=by kernel_rfl):a=b:=h
end
open Go.Eng
namespace Go.Proofs.YtofofalgjibokaaGreatDoor
open Go.IntKind(i64 u64)
section
universe u
abbrev au:Program:=Tryz.prog
theorem ao:Tryz.prog.follows .mixedOrders=true:=ab
theorem wrap_u64{a:Int}(b:0<=a)(c:a<18446744073709551616):u64.wrap a=a:=by simp only[IntKind.wrap,IntKind.signed,IntKind.bits];simp only[mG];exact ei b (by simpa using c)
theorem yW(a:Int):u64.wrap a=a%18446744073709551616:=by simp[IntKind.wrap,IntKind.signed,IntKind.bits]
theorem wrap_i64{a:Int}(b : -9223372036854775808<=a)(d:a<9223372036854775808):i64.wrap a=a:=by
 have e:i64.wrap a=if(9223372036854775808:Int)<=a%18446744073709551616 then a%18446744073709551616-18446744073709551616 else a%18446744073709551616:=by simp[IntKind.wrap,IntKind.signed,IntKind.bits]
 rw[e];split<;>omega
theorem Dk(n:Nat)(h:n<18446744073709551616):(BitVec.ofInt 64 (n:Int)).toNat=n:=by rw[show BitVec.ofInt 64 (n:Int)=BitVec.ofNat 64 n from by simp,sL,jQ aa]
theorem aeQ(n m:Nat)(b:n<18446744073709551616)(a:m<18446744073709551616):aN .and .u64 n m=((n &&& m:Nat):Int):=by show u64.wrap ((BitVec.ofInt 64 n &&& BitVec.ofInt 64 m:BitVec 64).toNat:Int)=_;rw[zp,Dk n b,Dk m a,wrap_u64 aa];have:=Nat.and_le_left (n:=n) (m:=m);omega
theorem GX{a:Int}(b:0<=a)(c:a<18446744073709551616):aN .and .u64 a 4294967295=a%4294967296:=by obtain⟨n,rfl⟩:=lN b;have:=aeQ n 4294967295 aa aa;rw[show((4294967295:Nat):Int)=4294967295 from rfl]at this;rw[this];have h:=Dx n 32;rw[show 2^32-1=4294967295 from rfl]at h;rw[h];omega
theorem Yc(c b e d:Int):(c*4294967296+b)*(e*4294967296+d)=c*e*18446744073709551616+(c*d)*4294967296+(b*e)*4294967296+b*d:=by grind
theorem nA{x y m n:Int}(c:0<=x)(d:x<=m)(b:0<=y)(e:y<=n):0<=x*y/\x*y<=m*n:=by refine⟨oX c b,Int.mul_le_mul d e b aa⟩
def aa4(a b:Int):Int:=
 let s:=λx:Int=>Int.fdiv x (2^min (toNat 32) u64.bits);let m:=λx:Int=>aN .and .u64 x 4294967295;let W:=u64.wrap;let t:=W (W (s a*m b)+s (W (m a*m b)))
 W (W (W (s a*s b)+s t)+s (W (m t+W (m a*s b))))
theorem afL{a b:Int}(g:0<=a)(l:a<18446744073709551616)(h:0<=b)(o:b<18446744073709551616):aa4 a b=a*b/18446744073709551616:=by
 have p:∀x:Int,Int.fdiv x (2^min (toNat 32) u64.bits)=x/4294967296:=by intro x;rw[show(2:Int)^min (toNat 32) u64.bits=4294967296 from by decide];exact uQ x ae
 unfold aa4;simp only[p,GX g l,GX h o];have j:a=(a/4294967296)*4294967296+a%4294967296:=aa;have k:b=(b/4294967296)*4294967296+b%4294967296:=aa;have i:=Yc (a/4294967296) (a%4294967296) (b/4294967296) (b%4294967296);rw[<-j,<-k]at i;have d1:=nA (x:=a/4294967296) (y:=b/4294967296) (m:=4294967295) (n:=4294967295) aa aa aa aa;have d2:=nA (x:=a/4294967296) (y:=b%4294967296) (m:=4294967295) (n:=4294967295) aa aa aa aa;have d3:=nA (x:=a%4294967296) (y:=b/4294967296) (m:=4294967295) (n:=4294967295) aa aa aa aa;have d4:=nA (x:=a%4294967296) (y:=b%4294967296) (m:=4294967295) (n:=4294967295) aa aa aa aa;generalize a*b=q at *;generalize (a/4294967296)*(b/4294967296)=f at *;generalize (a/4294967296)*(b%4294967296)=d at *;generalize (a%4294967296)*(b/4294967296)=e at *;generalize (a%4294967296)*(b%4294967296)=c at *;rw[wrap_u64 (a:=c) aa aa,wrap_u64 (a:=d) aa aa,wrap_u64 (a:=e) aa aa,wrap_u64 (a:=f) aa aa];rw[wrap_u64 (a:=d+c/4294967296) aa aa];rw[GX (a:=d+c/4294967296) aa aa];rw[wrap_u64 (a:=(d+c/4294967296)%4294967296+e) aa aa];rw[wrap_u64 (a:=f+(d+c/4294967296)/4294967296) aa aa];rw[wrap_u64 aa aa];omega
theorem W8:aF au 141 Tryz.f141:=ek
abbrev HI:HL [.int .u64,.int .u64]->Prop:=λ(a,b,_)=>jI a/\jI b
abbrev PL:HL [.int .u64,.int .u64]->HO [.val (.int .u64),.val (.int .u64)]:=λ(a,b,_)=>((a:Int)*b/18446744073709551616,(a:Int)*b%18446744073709551616,())
theorem Hc:bu au 141 [.int .u64,.int .u64] [.val (.int .u64),.val (.int .u64)] cx HI PL:=by refine bH bY ao W8 ae ae ?_;rintro w M ⟨a,b,⟨⟩⟩ _ ⟨⟨c,e⟩,d,f⟩;refine av (X:=((0:Int)<=32/\(0:Int)<=32/\(0:Int)<=32/\(0:Int)<=32/\(0:Int)<=32/\(((aa4 a b,u64.wrap (a*b),()):Int×Int×Unit)=PL (a,b,())))) ab ?_;refine⟨ae,ae,ae,ae,ae,?_⟩;rw[afL c e d f,yW]
abbrev rf:HL [.int .u64,.int .u64,.int .u64]->Prop:=λ(a,b,c,_)=>jI a/\jI b/\((c:Int)=0\/(c:Int)=1)
abbrev abK:HL [.int .u64,.int .u64,.int .u64]->HO [.val (.int .u64),.val (.int .u64)]:=λ(a,b,c,_)=>(((a:Int)+b+c)%18446744073709551616,((a:Int)+b+c)/18446744073709551616,())
abbrev abN:HL [.int .u64,.int .u64,.int .u64]->HO [.val (.int .u64),.val (.int .u64)]:=λ(a,b,c,_)=>(((a:Int)-b-c)%18446744073709551616,(if(a:Int)<b+c then(1:Int)else 0),())
theorem run_add64(a b:Int)(w:World):(callFunc 119 #[.int .u64 a,.int .u64 b,.int .u64 0]).run au w=.ok (.value (.tuple #[.int .u64 (Int.ofNat ((a.toNat+b.toNat+0)%18446744073709551616)),.int .u64 (Int.ofNat ((a.toNat+b.toNat+0)/18446744073709551616))])) w/\
  (callFunc 119 #[.int .u64 a,.int .u64 b,.int .u64 1]).run au w=.ok (.value (.tuple #[.int .u64 (Int.ofNat ((a.toNat+b.toNat+1)%18446744073709551616)),.int .u64 (Int.ofNat ((a.toNat+b.toNat+1)/18446744073709551616))])) w:=by
 constructor<;>kernel_rfl
theorem MR(a b:Int)(w:World):(callFunc 120 #[.int .u64 a,.int .u64 b,.int .u64 0]).run au w=.ok (.value (.tuple #[.int .u64 (Int.ofNat ((a.toNat+18446744073709551616-b.toNat-0)%18446744073709551616)),.int .u64 (Int.ofNat (if a.toNat<b.toNat+0 then 1 else 0))])) w/\
  (callFunc 120 #[.int .u64 a,.int .u64 b,.int .u64 1]).run au w=.ok (.value (.tuple #[.int .u64 (Int.ofNat ((a.toNat+18446744073709551616-b.toNat-1)%18446744073709551616)),.int .u64 (Int.ofNat (if a.toNat<b.toNat+1 then 1 else 0))])) w:=by
 constructor<;>kernel_rfl
theorem yg:bu au 119 [.int .u64,.int .u64,.int .u64] [.val (.int .u64),.val (.int .u64)] cx rf abK:=by
 rintro w M us ⟨a,b,c,⟨⟩⟩ _ _ ⟨g,_,rfl,o,h,_,rfl,p,i,_,rfl,q,rfl⟩ ⟨⟨d,s⟩,⟨f,t⟩,r⟩;have j:g=.int .u64 a:=by have:[g]=[Value.int .u64 a]:=o;simpa using this
 have k:h=.int .u64 b:=by have:[h]=[Value.int .u64 b]:=p;simpa using this
 have l:i=.int .u64 c:=by have:[i]=[Value.int .u64 c]:=q;simpa using this
 subst j k l;refine .inr ?_
 ·obtain⟨n,rfl⟩:=lN d;obtain⟨m,rfl⟩:=lN f;have e:∀c:Nat,(Value.tuple #[.int .u64 (Int.ofNat (((n:Int).toNat+(m:Int).toNat+c)%18446744073709551616)),.int .u64 (Int.ofNat (((n:Int).toNat+(m:Int).toNat+c)/18446744073709551616))])=.tuple #[.int .u64 (((n:Int)+m+c)%18446744073709551616),.int .u64 (((n:Int)+m+c)/18446744073709551616)]:=by
   intro c;congr 3
  rcases r with rfl|rfl;exact⟨_,w,(run_add64 n m w).1,[_,_],none,e 0,⟨_,_,rfl,rfl,_,_,rfl,rfl,rfl⟩,Below.refl _ _⟩;exact⟨_,w,(run_add64 n m w).2,[_,_],none,e 1,⟨_,_,rfl,rfl,_,_,rfl,rfl,rfl⟩,Below.refl _ _⟩
theorem Hg:bu au 120 [.int .u64,.int .u64,.int .u64] [.val (.int .u64),.val (.int .u64)] cx rf abN:=by
 rintro w M us ⟨a,b,c,⟨⟩⟩ _ _ ⟨j,_,rfl,p,k,_,rfl,q,l,_,rfl,r,rfl⟩ ⟨⟨g,s⟩,⟨h,t⟩,i⟩;have d:j=.int .u64 a:=by have:[j]=[Value.int .u64 a]:=p;simpa using this
 have f:k=.int .u64 b:=by have:[k]=[Value.int .u64 b]:=q;simpa using this
 have o:l=.int .u64 c:=by have:[l]=[Value.int .u64 c]:=r;simpa using this
 subst d f o;refine .inr ?_
 ·obtain⟨n,rfl⟩:=lN g;obtain⟨m,rfl⟩:=lN h;have e:∀c:Nat,c<=1->(Value.tuple #[.int .u64 (Int.ofNat (((n:Int).toNat+18446744073709551616-(m:Int).toNat-c)%18446744073709551616)),.int .u64 (Int.ofNat (if(n:Int).toNat<(m:Int).toNat+c then 1 else 0))])=.tuple #[.int .u64 (((n:Int)-m-c)%18446744073709551616),.int .u64 (if(n:Int)<m+c then 1 else 0)]:=by
   intro c i;have d:(Int.ofNat (((n:Int).toNat+18446744073709551616-(m:Int).toNat-c)%18446744073709551616))=((n:Int)-m-c)%18446744073709551616:=by simp only[aJ,Int.ofNat_eq_natCast];omega
   have f:(Int.ofNat (if(n:Int).toNat<(m:Int).toNat+c then 1 else 0))=(if(n:Int)<m+c then 1 else 0):=by simp only[aJ,Int.ofNat_eq_natCast];split<;>split<;>omega
   rw[d,f]
  rcases i with rfl|rfl;exact⟨_,w,(MR n m w).1,[_,_],none,e 0 aa,⟨_,_,rfl,rfl,_,_,rfl,rfl,rfl⟩,Below.refl _ _⟩;exact⟨_,w,(MR n m w).2,[_,_],none,e 1 aa,⟨_,_,rfl,rfl,_,_,rfl,rfl,rfl⟩,Below.refl _ _⟩
def TR:=aZ Hc
def FZ:=aZ yg
def TS:=aZ Hg
def JM:LI->LI->Int->Prop->Prop
 |a::us,b::vs,k,K=>rf (a,b,k,())/\JM us vs (if a<b+k then 1 else 0) K
 |_,_,_,K=>K
theorem MZ{K:Prop}:∀(us vs:LI)(k:Int),us.length=vs.length->Ws us->Ws vs->(k=0\/k=1)->K->JM us vs k K:=by
 intro us;induction us with
 |nil=>intro vs k h _ _ _ c;exact c
 |cons a us i=>
  intro vs k h e f g c;cases vs with
  |nil=>simp at h
  |cons b vs=>exact⟨⟨e a az,f b az,g⟩,i vs _ (by simpa using h) (λy d=>e y (by simp[d])) (λy d=>f y (by simp[d])) (by split<;>simp) c⟩
def Ih:LI->LI->Int->Prop->Prop
 |a::us,b::vs,k,K=>rf (a,b,k,())/\Ih us vs ((a+b+k)/18446744073709551616) K
 |_,_,_,K=>K
theorem LN{K:Prop}:∀(us vs:LI)(k:Int),us.length=vs.length->Ws us->Ws vs->(k=0\/k=1)->K->Ih us vs k K:=by
 intro us;induction us with
 |nil=>intro vs k h _ _ _ c;exact c
 |cons a us n=>
  intro vs k h e f m c;cases vs with
  |nil=>simp at h
  |cons b vs=>obtain⟨g,i⟩:=e a az;obtain⟨j,l⟩:=f b az;exact⟨⟨⟨g,i⟩,⟨j,l⟩,m⟩,n vs _ (by simpa using h) (λy d=>e y (by simp[d])) (λy d=>f y (by simp[d])) aa c⟩
end
end Go.Proofs.YtofofalgjibokaaGreatDoor
namespace Cr
open Go.IntKind(i64 u64)
section
universe u
def E5:LI->LI->LI->Int->Int->Int->Int->LI
 |x::e,p::b,t::d,v,m,a,c=>
  (m*p+(x*v+t+a)%18446744073709551616+c)%18446744073709551616 ::
   E5 e b d v m ((x*v+t+a)/18446744073709551616) ((m*p+(x*v+t+a)%18446744073709551616+c)/18446744073709551616)
 |_,_,_,_,_,a,c=>[(a+c)%18446744073709551616]
theorem YY{v m:Int}(E:0<=v)(s:0<=m):∀(d b e:LI)(a c:Int),d.length=b.length->b.length=e.length->Ws d->Ws b->Ws e->0<=a->0<=c ->
  (E5 d b e v m a c).length=d.length+1/\Ws (E5 d b e v m a c)/\
  ∃q,0<=q/\val (E5 d b e v m a c)+pw (d.length+1)*q=val d*v+val e+m*val b+a+c:=by
 intro d;induction d with
 |nil=>
  intro b e a c g h _ _ _ o r;have k:b=[]:=by cases b with|nil=>rfl|cons _ _=>simp at g
  subst k;have l:e=[]:=by cases e with|nil=>rfl|cons _ _=>simp at h
  subst l;refine⟨rfl,?_,(a+c)/18446744073709551616,aa,?_⟩;intro x f;simp only[E5,hV]at f;subst f;exact⟨aa,aa⟩;simp only[E5,val,pw,jj,Int.mul_zero];omega
 |cons x d I=>
  intro b e a c g h f i j o r;cases b with
  |nil=>simp at g
  |cons p b=>
   cases e with
   |nil=>simp at h
   |cons t e=>obtain⟨L,R⟩:=f x az;obtain⟨K,Q⟩:=i p az;obtain⟨t0,t1⟩:=j t az;have F:0<=x*v:=oX L E;have w:0<=m*p:=oX s K;simp only[E5];generalize O:x*v+t+a=u;generalize P:m*p+u%18446744073709551616+c=z;obtain⟨g1,g2,q,n,N⟩:=I b e (u/18446744073709551616) (z/18446744073709551616) (by simpa using g) (by simpa using h) (λy hy=>f y (by simp[hy])) (λy hy=>i y (by simp[hy])) (λy hy=>j y (by simp[hy])) aa aa;refine⟨by simp[g1],?_,q,n,?_⟩;intro y hy;simp only[we]at hy;rcases hy with rfl|hy;exact⟨aa,aa⟩;exact g2 y hy;simp only[val,cP];rw[show pw (d.length+1+1)=18446744073709551616*pw (d.length+1)from rfl,eM];rw[show(x+18446744073709551616*val d)*v=x*v+18446744073709551616*(val d*v)from by rw[sU,eM]];rw[show m*(p+18446744073709551616*val b)=m*p+18446744073709551616*(m*val b)from by rw[sS,zo]];generalize pw (d.length+1)*q=A at *;generalize val d*v=C at *;generalize m*val b=D at *;generalize x*v=G at *;generalize m*p=H at *;omega
def pS(cancel:Int):LI->LI->LI->Int->LI
 |x::xs,p::ps,t::a,v=>
  E5 xs ps a v (((x*v+t+0)%18446744073709551616)*cancel%18446744073709551616) ((x*v+t+0)/18446744073709551616)
   (((((x*v+t+0)%18446744073709551616)*cancel%18446744073709551616)*p+(x*v+t+0)%18446744073709551616+0)/18446744073709551616)
 |_,_,_,_=>[]
theorem V7{cancel v:Int}{c b d:LI}(n:c.length=b.length)(w:b.length=d.length)(I:Ws c)(F:Ws b)(N:Ws d)(E:b≠[])(X:jI v)(K:(b.headD 0*cancel+1)%18446744073709551616=0) (hb:val d<val c+val b) (Z:val c<val b) (R:2*val b<=pw b.length):
  (pS cancel c b d v).length=d.length/\Ws (pS cancel c b d v)/\val (pS cancel c b d v)<val c+val b/\
  ∃m,18446744073709551616*val (pS cancel c b d v)=val c*v+val d+m*val b:=by
 obtain⟨j,Y⟩:=X;cases b with
 |nil=>exact absurd rfl E
 |cons p b=>
 cases c with
 |nil=>simp at n
 |cons x c=>
 cases d with
 |nil=>simp at w
 |cons t d=>
  obtain⟨x0,x1⟩:=I x az;obtain⟨p0,p1⟩:=F p az;obtain⟨t0,t1⟩:=N t az;have x2:0<=x*v:=oX x0 j;simp only[pS];generalize hu:x*v+t+0=u;generalize hs:u%18446744073709551616=s;generalize U:s*cancel%18446744073709551616=m;have i:0<=m/\m<18446744073709551616:=aa;have V:0<=m*p:=oX i.1 p0
  -- m p+s is a f of 2^64
  have L:(m*p+s+0)%18446744073709551616=0:=by
   simp only[List.headD_cons]at K;have Q:(m*p+s)%18446744073709551616=(s*(p*cancel+1))%18446744073709551616:=by have T:=zd (s*cancel) 18446744073709551616;rw[U]at T;rw[show m*p+s=s*(p*cancel+1)+18446744073709551616*(-(s*cancel/18446744073709551616*p))from by grind];exact za _ _ _
   rw[Int.add_zero,Q,eW,K];simp
  generalize hz:m*p+s+0=z at *;obtain⟨g1,g2,q,g3,l⟩:=YY j i.1 c b d (u/18446744073709551616) (z/18446744073709551616) (by simpa using n) (by simpa using w) (λy k=>I y (by simp[k])) (λy k=>F y (by simp[k])) (λy k=>N y (by simp[k])) aa aa;have g:c.length+1=(p::b).length:=by simpa using n
  have n0:=fO g2;have P:=fO I;have O:=fO F
  -- x4 e
  have e:18446744073709551616*(val c*v+val d+m*val b+u/18446744073709551616+z/18446744073709551616)=val (x::c)*v+val (t::d)+m*val (p::b):=by simp only[val];rw[show(x+18446744073709551616*val c)*v=x*v+18446744073709551616*(val c*v)from by rw[sU,eM]];rw[show m*(p+18446744073709551616*val b)=m*p+18446744073709551616*(m*val b)from by rw[sS,zo]];generalize val c*v=C at *;generalize m*val b=D at *;generalize x*v=G at *;generalize m*p=H at *;omega
  -- x3 r
  have b1:val (x::c)*v<=val (x::c)*18446744073709551615:=Dz aa P;have b2:m*val (p::b)<=18446744073709551615*val (p::b):=Dy aa O;generalize val (x::c)*v=XV at *;generalize A:m*val (p::b)=MP at *;have o:val c*v+val d+m*val b+u/18446744073709551616+z/18446744073709551616<val (x::c)+val (p::b):=aa;rw[g]at l;have W:q=0:=by rcases Int.lt_or_le 0 q with h|h;exfalso;have:pw (p::b).length*1<=pw (p::b).length*q:=Dz aa (fV (yI _));omega;omega
  subst W;simp only[Int.mul_zero,Int.add_zero]at l;refine⟨by rw[g1];simp at n w⊢;omega,g2,by rw[l];exact o,m,?_⟩;rw[l,e,A]
def foldM(cancel:Int)(xs ps:LI):LI->LI->LI
 |ts,[]=>ts
 |ts,v::a=>foldM cancel xs ps (pS cancel xs ps ts v) a
theorem Ci{cancel:Int}{xs ps:LI}(n:xs.length=ps.length)(q:Ws xs)(p:Ws ps)(h:ps≠[])(o:(ps.headD 0*cancel+1)%18446744073709551616=0) (j:val xs<val ps) (f:2*val ps<=pw ps.length):∀(b a:LI),Ws b->ps.length=a.length->Ws a->val a<val xs+val ps ->
  (foldM cancel xs ps a b).length=ps.length/\Ws (foldM cancel xs ps a b)/\val (foldM cancel xs ps a b)<val xs+val ps/\
  ∃m,pw b.length*val (foldM cancel xs ps a b)=val xs*val b+val a+m*val ps:=by
 intro b;induction b with
 |nil=>intro a _ e i g;exact⟨e.symm,i,g,0,by simp[foldM,pw,val]⟩
 |cons v b s=>intro a d e i g;obtain⟨g1,g2,k,m,l⟩:=V7 n e q p i h (d v az) o g j f;obtain⟨t,u,w,z,x⟩:=s (pS cancel xs ps a v) (λy r=>d y (by simp[r])) (by rw[g1];exact e) g2 k;refine⟨t,u,w,m+18446744073709551616*z,?_⟩;simp only[foldM,pw,val,cP];rw[eM,x,sS,sS,l];grind
theorem My{cancel:Int}{xs ps ys:LI}(h:xs.length=ps.length)(i:ys.length=ps.length)(a:Ws xs)(k:Ws ps)(o:Ws ys)(d:ps≠[])(j:(ps.headD 0*cancel+1)%18446744073709551616=0) (e:val xs<val ps) (b:2*val ps<=pw ps.length) {c9:Int} (l:(pw ps.length*c9)%val ps=1%val ps):
  (foldM cancel xs ps (replicate ps.length 0) ys).length=ps.length/\Ws (foldM cancel xs ps (replicate ps.length 0) ys)/\val (foldM cancel xs ps (replicate ps.length 0) ys)<2*val ps/\
  val (foldM cancel xs ps (replicate ps.length 0) ys)%val ps=(val xs*val ys*c9)%val ps:=by
 have z:∀n,val (replicate n 0)=0:=by
  intro n;induction n with
  |zero=>rfl
  |succ n p=>simp[qO,val,p]
 have s:Ws (replicate ps.length 0):=by intro x a;rw[(List.mem_replicate.1 a).2];exact⟨aa,aa⟩
 have t:=fO a;obtain⟨q,r,u,m,f⟩:=Ci h a k d j e b ys (replicate ps.length 0) o az s (by rw[z];omega);refine⟨q,r,aa,?_⟩;rw[z,i]at f;generalize val (foldM cancel xs ps (replicate ps.length 0) ys)=T at *;have g:(T*(pw ps.length*c9))%val ps=T%val ps:=by rw[eW,l,<-eW,nk]
 rw[<-g,show T*(pw ps.length*c9)=(pw ps.length*T)*c9 from by rw[jk (pw ps.length) T,eM],f];rw[show(val xs*val ys+0+m*val ps)*c9=val xs*val ys*c9+(m*c9)*val ps from by grind];exact Int.add_mul_emod_self_right _ _ _
end
end Cr
open Go.IntKind(i64 u64)
section
universe u
/- Words of package cresset/fp: muladd, minus, plus, modulus, fit, times. Printed by gen_field.py. -/
end
namespace Go.Proofs.YtofofalgjibokaaGreatDoor
namespace fp
open Go.Proofs.Tryz
section
universe u
abbrev M:Int:=Mp
def ms:LI:=[13402431016077863595,2210141511517208575,7435674573564081700,7239337960414712511,5412103778470702295,1873798617647539866]
abbrev c9:Int:=Md.c9 Mp
theorem im:val ms=M:=ae
theorem rK:Ws ms:=by intro x a;simp[ms]at a;rcases a with rfl|rfl|rfl|rfl|rfl|rfl<;>exact⟨ae,ae⟩
theorem Ic:0<M:=ae
theorem Ie:2*M<=pw 6:=ae
theorem Lc:(pw 6*c9)%M=1%M:=ae
theorem Ca:aF au 168 f168:=ek
abbrev lv:HL [.int .u64,.int .u64,.int .u64,.int .u64]->Prop:=λ(a,b,c,d,_)=>jI a/\jI b/\jI c/\jI d
abbrev q9:HL [.int .u64,.int .u64,.int .u64,.int .u64]->HO [.val (.int .u64),.val (.int .u64)]:=λ(a,b,c,d,_)=>(((a:Int)*b+c+d)/18446744073709551616,(a*b+c+d)%18446744073709551616,())
theorem wA:bu au 168 [.int .u64,.int .u64,.int .u64,.int .u64] [.val (.int .u64),.val (.int .u64)] cx lv q9:=by
 refine bH (sp:=bw [TR,FZ]) (aV (a2 Hc) (aV (a2 yg) bY)) ao Ca ae ae ?_;rintro w p ⟨a,b,c,d,⟨⟩⟩ _ ⟨⟨e,i⟩,⟨f,k⟩,⟨g,l⟩,h,o⟩;have j:=nA (m:=18446744073709551615) (n:=18446744073709551615) e aa f aa
 refine av (X:=(HI (a,b,())/\rf (a*b%18446744073709551616,c,0,())/\rf ((a*b%18446744073709551616+c+0)%18446744073709551616,d,0,())/\
   ((((a*b/18446744073709551616+(a*b%18446744073709551616+c+0)/18446744073709551616)%18446744073709551616+((a*b%18446744073709551616+c+0)%18446744073709551616+d+0)/18446744073709551616)%18446744073709551616,
    ((a*b%18446744073709551616+c+0)%18446744073709551616+d+0)%18446744073709551616,()):Int×Int×Unit)=q9 (a,b,c,d,()))) ab ?_
 refine⟨⟨⟨e,i⟩,f,k⟩,⟨⟨aa,aa⟩,⟨g,l⟩,.inl rfl⟩,⟨⟨aa,aa⟩,⟨h,o⟩,.inl rfl⟩,?_⟩;simp only[q9,cp,fW];generalize (a:Int)*b=q at *;exact⟨aa,aa⟩
def yN:=aZ wA
abbrev uf:HL [(.arr 6 (.int .u64)),(.arr 6 (.int .u64))]->Prop:=λ(a,b,_)=>Ws a/\Ws b
abbrev yz:HL [(.arr 6 (.int .u64)),(.arr 6 (.int .u64))]->HO [.val (.arr 6 (.int .u64)),.val (.int .u64)]:=λ(a,b,_)=>(bp 6 (val a-val b),if val a<val b then(1:Int)else 0,())
abbrev tm:HL [(.arr 6 (.int .u64)),(.arr 6 (.int .u64))]->HO [.val (.arr 6 (.int .u64))]:=λ(a,b,_)=>(bp 6 (val a+val b),())
theorem D8:aF au 130 f130:=ek
theorem nR:bu au 130 [(.arr 6 (.int .u64)),(.arr 6 (.int .u64))] [.val (.arr 6 (.int .u64)),.val (.int .u64)] cx uf yz:=by
 refine bH (sp:=bw [TS]) (aV (a2 Hg) bY) ao D8 ae ae ?_;rintro w t ⟨r,s,⟨⟩⟩ ⟨⟨p,_⟩,⟨q,_⟩,_⟩ ⟨l,m⟩;match r,s,p,q,l,m with
 |[a,b,c,d,e,f],[g,h,i,j,b4,k],_,_,l,m=>refine av (X:=JM [a,b,c,d,e,f] [g,h,i,j,b4,k] 0 (((pT [a,b,c,d,e,f] [g,h,i,j,b4,k] 0).1,(pT [a,b,c,d,e,f] [g,h,i,j,b4,k] 0).2,())=yz ([a,b,c,d,e,f],[g,h,i,j,b4,k],()))) ab ?_;refine MZ _ _ 0 rfl l m (.inl rfl) ?_;obtain⟨n,o⟩:=TT (us:=[a,b,c,d,e,f]) (vs:=[g,h,i,j,b4,k]) rfl l m;rw[n,o];rfl
def tx:=aZ nR
theorem xZ:aF au 171 f171:=ek
theorem qd:bu au 171 [(.arr 6 (.int .u64)),(.arr 6 (.int .u64))] [.val (.arr 6 (.int .u64))] cx uf tm:=by
 refine bH (sp:=bw [FZ]) (aV (a2 yg) bY) ao xZ ae ae ?_;rintro w s ⟨q,r,⟨⟩⟩ ⟨⟨o,_⟩,⟨p,_⟩,_⟩ ⟨m,n⟩;match q,r,o,p,m,n with
 |[a,b,d,e,f,g],[h,i,j,k,b4,l],_,_,m,n=>refine av (X:=Ih [a,b,d,e,f,g] [h,i,j,k,b4,l] 0 (((rV [a,b,d,e,f,g] [h,i,j,k,b4,l] 0).1,())=tm ([a,b,d,e,f,g],[h,i,j,k,b4,l],()))) ab ?_;refine LN _ _ 0 rfl m n (.inl rfl) ?_;rw[RO (us:=[a,b,d,e,f,g]) (vs:=[h,i,j,k,b4,l]) rfl m n];rfl
def wT:=aZ qd
theorem AB:aF au 131 f131:=ek
theorem l9:bu au 131 [] [.val (.arr 6 (.int .u64))] cx (λ_=>True) (λ_=>(ms,())):=by refine bH (sp:=bw []) bY ao AB ae ae ?_;intro w a b _ _;exact av (X:=((ms,()):LI×Unit)=(ms,())) ab rfl
def rl:=aZ l9
abbrev EY:HL [(.arr 6 (.int .u64))]->Prop:=λ(a,_)=>Ws a
abbrev q8:HL [(.arr 6 (.int .u64))]->HO [.val (.arr 6 (.int .u64))]:=λ(a,_)=>(if val a<M then a else bp 6 (val a-M),())
theorem Kt:aF au 169 f169:=ek
theorem yh:bu au 169 [(.arr 6 (.int .u64))] [.val (.arr 6 (.int .u64))] cx EY q8:=by refine bH (sp:=bw [tx,rl]) (aV (a2 nR) (aV (a2 l9) bY)) ao Kt ae ae ?_;rintro w b ⟨xs,⟨⟩⟩ _ a;refine av (X:=(True/\(Ws xs/\Ws ms)/\((((if val xs<val ms then 1 else 0:Int) != 0)=true->((xs,()):LI×Unit)=q8 (xs,()))/\(((if val xs<val ms then 1 else 0:Int) != 0)=false->((bp 6 (val xs-val ms),()):LI×Unit)=q8 (xs,()))))) ab ?_;refine⟨trivial,⟨a,rK⟩,?_⟩;rw[im];by_cases h:val xs<M;simp[h,q8];simp[h,q8]
def CO:=aZ yh
abbrev gw:HL [(.arr 6 (.int .u64)),(.arr 6 (.int .u64))]->Prop:=λ(xs,ys,_)=>Ws xs/\Ws ys/\val xs<M
abbrev nW:HL [(.arr 6 (.int .u64)),(.arr 6 (.int .u64))]->HO [.val (.arr 6 (.int .u64))]:=λ(xs,ys,_)=>(bp 6 (val xs*val ys*c9%M),())
theorem wy:aF au 132 f132:=ek
def uw(xs ys:LI)(g:Int×LI):St:=
 ay f132.ntmps 104 ([(2,al 0 0),(4,al 16 0)]++[(7,sI .u64 (g.2.getD 0 0)),(8,sI .u64 (g.2.getD 1 0)),(9,sI .u64 (g.2.getD 2 0)),(10,sI .u64 (g.2.getD 3 0)),(11,sI .u64 (g.2.getD 4 0)),(12,sI .u64 (g.2.getD 5 0))]++[(16,sA .u64 6 ys),(17,sJ g.1)])
  [(0,[.ints .u64 6 xs]),(16,[.ints .u64 6 (Au 6)])]
def Ff(g:Int×LI):St:=ay f132.ntmps 104 ([(4,al 16 0)]++[(7,sI .u64 (g.2.getD 0 0)),(8,sI .u64 (g.2.getD 1 0)),(9,sI .u64 (g.2.getD 2 0)),(10,sI .u64 (g.2.getD 3 0)),(11,sI .u64 (g.2.getD 4 0)),(12,sI .u64 (g.2.getD 5 0))]) [(16,[.ints .u64 6 (Au 6)])]
def ux(xs ys:LI)(g:Int×LI):Int×LI:=(IntKind.i64.wrap (g.1+1),pS 9940570264628428797 xs ms g.2 (ys.getD g.1.toNat 0))
def uk:LI->LI->LI->Int->Int->Int->Int->Prop->Prop
 |x::e,p::b,t::d,v,m,a,c,K=>
  lv (x,v,t,a,())/\lv (m,p,(x*v+t+a)%18446744073709551616,c,())/\
   uk e b d v m ((x*v+t+a)/18446744073709551616) ((m*p+(x*v+t+a)%18446744073709551616+c)/18446744073709551616) K
 |_,_,_,_,_,_,_,K=>K
theorem E6{K:Prop}{v m:Int}(i:jI v)(h:jI m)(g:K):∀(f b d:LI)(a c:Int),Ws f->Ws b->Ws d->jI a->jI c->uk f b d v m a c K:=by
 intro f;induction f with
 |nil=>intro b d a c _ _ _ _ _;exact g
 |cons x f E=>
  intro b d a c q l o z A;cases b with
  |nil=>exact g
  |cons p b=>
   cases d with
   |nil=>exact g
   |cons t d=>have k:=q x az;have j:=l p az;have t1:=o t az;have D:=nA (m:=18446744073709551615) (n:=18446744073709551615) k.1 (by have:=k.2;omega) i.1 (by have:=i.2;omega);have C:=nA (m:=18446744073709551615) (n:=18446744073709551615) h.1 (by have:=h.2;omega) j.1 (by have:=j.2;omega);obtain⟨t2,t3⟩:=t1;obtain⟨r,s⟩:=z;obtain⟨u,w⟩:=A;simp only[uk];generalize x*v=G at *;generalize m*p=F at *;refine⟨⟨k,i,⟨t2,t3⟩,r,s⟩,⟨h,j,⟨aa,aa⟩,u,w⟩,?_⟩;exact E b d _ _ (λy e=>q y (by simp[e])) (λy e=>l y (by simp[e])) (λy e=>o y (by simp[e])) ⟨aa,aa⟩ ⟨aa,aa⟩
def vy(xs ps a:LI)(v:Int)(K:Prop):Prop:=
 match xs,ps,a with
 |x::xs,p::ps,t::a=>
  lv (x,v,t,(0:Int),())/\lv (((x*v+t+0)%18446744073709551616)*9940570264628428797%18446744073709551616,p,(x*v+t+0)%18446744073709551616,(0:Int),())/\
  uk xs ps a v (((x*v+t+0)%18446744073709551616)*9940570264628428797%18446744073709551616) ((x*v+t+0)/18446744073709551616)
   (((((x*v+t+0)%18446744073709551616)*9940570264628428797%18446744073709551616)*p+(x*v+t+0)%18446744073709551616+0)/18446744073709551616) K
 |_,_,_=>K
theorem CT{K:Prop}{v:Int}(d:jI v)(h:K){xs ps e:LI}(k:Ws xs)(i:Ws ps)(j:Ws e):vy xs ps e v K:=by unfold vy;split;rename_i x xs p ps t e;have g:=k x az;have f:=i p az;have t1:=j t az;have o:=nA (m:=18446744073709551615) (n:=18446744073709551615) g.1 (by have:=g.2;omega) d.1 (by have:=d.2;omega);obtain⟨t2,t3⟩:=t1;generalize x*v=q at *;generalize r:((q+t+0)%18446744073709551616)*9940570264628428797%18446744073709551616=m;have a:jI m:=⟨aa,aa⟩;have l:=nA (m:=18446744073709551615) (n:=18446744073709551615) a.1 (by have:=a.2;omega) f.1 (by have:=f.2;omega);generalize m*p=s at *;refine⟨⟨g,d,⟨t2,t3⟩,aa,aa⟩,⟨a,f,⟨aa,aa⟩,aa,aa⟩,?_⟩;exact E6 d a h xs ps e _ _ (λy b=>k y (by simp[b])) (λy b=>i y (by simp[b])) (λy b=>j y (by simp[b])) ⟨aa,aa⟩ ⟨aa,aa⟩;exact h
def iO(xs ys:LI)(k:Nat):LI:=foldM 9940570264628428797 xs ms (replicate 6 0) (ys.take k)
def yS(xs ys:LI)(g:Int×LI):Prop:=∃k:Nat,k<=6/\g=((k:Int),iO xs ys k)
theorem Ch{a:Int}{xs ps:LI}:∀(b d:LI)(v:Int),foldM a xs ps d (b++[v])=pS a xs ps (foldM a xs ps d b) v:=by
 intro b;induction b with
 |nil=>intro d v;rfl
 |cons u b e=>intro d v;exact e _ _
theorem gL:bu au 132 [(.arr 6 (.int .u64)),(.arr 6 (.int .u64))] [.val (.arr 6 (.int .u64))] cx gw nW:=by
 refine cu (sp:=bw [yN,CO]) wy ae ae ab ?_;have u:aS au (bw [yN,CO]):=aV (a2 wA) (aV (a2 yh) bY);rintro w Y ⟨xs,ys,⟨⟩⟩ ⟨⟨P,_⟩,⟨Q,_⟩,_⟩ ⟨t,E,s⟩;match xs,P,t,s with
 |[a,b,d,f,h,j],_,t,s=>
  have H:length ys=6:=Q;have A:[a,b,d,f,h,j].length=ms.length:=rfl;have p:∀k,(iO [a,b,d,f,h,j] ys k).length=ms.length/\Ws (iO [a,b,d,f,h,j] ys k)/\val (iO [a,b,d,f,h,j] ys k)<val [a,b,d,f,h,j]+val ms:=by
   intro k;have:=Ci (cancel:=9940570264628428797) A t rK (by simp[ms]) ae (by rw[im];exact s) (by rw[im];exact Ie) (ys.take k) (replicate 6 0) (λy G=>E y (kJ G)) (by rfl)
    (by intro x t;rw[(List.mem_replicate.1 t).2];exact⟨aa,aa⟩) (by rw[im,show val (replicate 6 0)=0 from by decide];have:=fO t;have:=Ic;omega)
   exact⟨this.1,this.2.1,this.2.2.1⟩
  have m:=My (cancel:=9940570264628428797) (xs:=[a,b,d,f,h,j]) (ps:=ms) (ys:=ys) (c9:=c9) A H t rK E (by simp[ms]) ae (by rw[im];exact s) (by rw[im];exact Ie) (by rw[im];exact Lc);rw[im]at m
  -- L D at I C K
  have J0:yS [a,b,d,f,h,j] ys (0,replicate 6 0):=⟨0,aa,by simp[iO,foldM]⟩;show Tr _ _ _ _ _ _ _;refine bN u ao 3 (uw [a,b,d,f,h,j] ys (0,replicate 6 0)) True ?_ (λ_=>?_);refine av (X:=(uw [a,b,d,f,h,j] ys (0,replicate 6 0)).aj True) ab (aw trivial);refine QT u ao (uw [a,b,d,f,h,j] ys) (yS [a,b,d,f,h,j] ys) (λg=>(6-g.1).toNat) (ux [a,b,d,f,h,j] ys) Ff (λg=>g.2=iO [a,b,d,f,h,j] ys 6) (0,replicate 6 0) (c:=ar (aq f132) 3) ab ab
   (aB ab ab J0) ?_ ?_
  ·rintro g ⟨k,hk,rfl⟩;obtain⟨f1,f2,f3⟩:=p k;have l:∃t0 t1 t2 t3 t4 t5,iO [a,b,d,f,h,j] ys k=[t0,t1,t2,t3,t4,t5]:=by
    match iO [a,b,d,f,h,j] ys k,f1 with
    |[t0,t1,t2,t3,t4,t5],_=>exact⟨_,_,_,_,_,_,rfl⟩
   obtain⟨t0,t1,t2,t3,t4,t5,l⟩:=l;rw[l]at f2⊢
   refine av (X:=((decide ((k:Int)<6)=true->(0<=(k:Int)/\(k:Int)<6)/\vy [a,b,d,f,h,j] ms [t0,t1,t2,t3,t4,t5] (ys.getD (k:Int).toNat 0) ((uw [a,b,d,f,h,j] ys (ux [a,b,d,f,h,j] ys ((k:Int),[t0,t1,t2,t3,t4,t5]))).aj (yS [a,b,d,f,h,j] ys (ux [a,b,d,f,h,j] ys ((k:Int),[t0,t1,t2,t3,t4,t5]))/\(6-(ux [a,b,d,f,h,j] ys ((k:Int),[t0,t1,t2,t3,t4,t5])).1).toNat<(6-(k:Int)).toNat)))
    /\(decide ((k:Int)<6)=false->(Ff ((k:Int),[t0,t1,t2,t3,t4,t5])).aj ([t0,t1,t2,t3,t4,t5]=iO [a,b,d,f,h,j] ys 6)))) ab ?_
   constructor
   ·intro r;have r:k<6:=by have:=Odt r;omega
    have R:jI (ys.getD (k:Int).toNat 0):=by rw[bx,aJ,bO aa];exact E _ (de _)
    refine⟨⟨aa,aa⟩,CT R (aw ⟨⟨k+1,aa,?_⟩,?_⟩) t rK f2⟩
    ·have N:IntKind.i64.wrap ((k:Int)+1)=((k+1:Nat):Int):=by rw[wrap_i64 aa aa];omega
     have O:iO [a,b,d,f,h,j] ys (k+1)=pS 9940570264628428797 [a,b,d,f,h,j] ms (iO [a,b,d,f,h,j] ys k) (ys.getD (k:Int).toNat 0):=by unfold iO;rw[dA aa,Ch];rw[bx,aJ,bO aa];rfl
     show(IntKind.i64.wrap ((k:Int)+1),pS 9940570264628428797 [a,b,d,f,h,j] ms [t0,t1,t2,t3,t4,t5] (ys.getD (k:Int).toNat 0))=_;rw[N,O,l]
    show(6-IntKind.i64.wrap ((k:Int)+1)).toNat<_;rw[wrap_i64 aa aa];omega
   ·intro q;have q:k=6:=by
     have:=Odf q;omega
    refine aw ?_;rw[<-l,q]
  ·rintro⟨i,W⟩ l;have l:W=iO [a,b,d,f,h,j] ys 6:=l;obtain⟨f1,f2,f3⟩:=p 6;have z:ys.take 6=ys:=cA aa;have o:∃t0 t1 t2 t3 t4 t5,iO [a,b,d,f,h,j] ys 6=[t0,t1,t2,t3,t4,t5]:=by
    match iO [a,b,d,f,h,j] ys 6,f1 with
    |[t0,t1,t2,t3,t4,t5],_=>exact⟨_,_,_,_,_,_,rfl⟩
   obtain⟨t0,t1,t2,t3,t4,t5,o⟩:=o;subst l;rw[o]at f2⊢;refine cq u ao _ _ ?_;refine av (X:=(Ws [t0,t1,t2,t3,t4,t5]/\((if val [t0,t1,t2,t3,t4,t5]<M then [t0,t1,t2,t3,t4,t5]else bp 6 (val [t0,t1,t2,t3,t4,t5]-M),()):LI×Unit)=nW ([a,b,d,f,h,j],ys,()))) ab ?_;refine⟨f2,?_⟩;have e:foldM 9940570264628428797 [a,b,d,f,h,j] ms (replicate ms.length 0) ys=[t0,t1,t2,t3,t4,t5]:=by have:=o;unfold iO at this;rw[z]at this;exact this
   rw[e]at m;obtain⟨m1,U,m3,V⟩:=m;have T:=fO U;have Z:=Ic;simp only[nW,cp,fW];rw[<-V];split;rename_i r;rw[ei T r];exact(vg f2).symm
   ·rename_i q
    rw[show val [t0,t1,t2,t3,t4,t5]%M=val [t0,t1,t2,t3,t4,t5]-M from by
     rw[<-zi,ei aa aa]]
def kg:=aZ gL
end
end fp
end Go.Proofs.YtofofalgjibokaaGreatDoor
namespace Cr
section
universe u
variable {M:Int}[Md M]
theorem Am(x y:Zm M):bp (Md.n M) (val (enc x)*val (enc y)*Md.c9 M%M)=enc (x*y):=by rw[<-ae4,fj,fj]
theorem rJ(x:Zm M):0<=val (enc x)/\val (enc x)<M:=⟨fO (gB x),(dB x).2.2⟩
theorem uA{n:Nat}{a:Int}(b:0<=a)(c:a<pw n):val (bp n a)=a:=by rw[vA,ei b c]
theorem RR(x y:Zm M):(if val (bp (Md.n M) (val (enc x)+val (enc y)))<M then bp (Md.n M) (val (enc x)+val (enc y))else bp (Md.n M) (val (bp (Md.n M) (val (enc x)+val (enc y)))-M))=enc (x+y):=by
 have b:=rJ x;have c:=rJ y;have a:=Md.Ik (M:=M);have e:enc (x+y)=bp (Md.n M) ((val (enc x)+val (enc y))%M):=by rw[<-ae3,fj,fj]
 rw[uA aa aa,e];split;rename_i h;rw[ei aa h];rename_i h;rw[<-zi,ei aa aa]
theorem SX(n:Nat)(a:Int):bp n (a%pw n)=bp n a:=by have c:=vA n a;have b:=vA n (a%pw n);rw[mj]at b;exact val_inj (lr _ _) (lr _ _) (by rw[tV,tV]) (by rw[c,b])
theorem JO{x y:Zm M}(h:val (enc x)<val (enc y)):bp (Md.n M) (val (bp (Md.n M) (val (enc x)-val (enc y)))+M)=enc (x-y):=by
 have a:=rJ x;have b:=rJ y;have e:enc (x-y)=bp (Md.n M) ((val (enc x)-val (enc y))%M):=by rw[<-Se,fj,fj]
 rw[e,vA,<-SX _ (_+M),Int.emod_add_emod,SX];congr 1;rw[<-DO,ei aa aa]
theorem JN{x y:Zm M}(h:¬val (enc x)<val (enc y)):bp (Md.n M) (val (enc x)-val (enc y))=enc (x-y):=by
 have a:=rJ x;have b:=rJ y;have e:enc (x-y)=bp (Md.n M) ((val (enc x)-val (enc y))%M):=by rw[<-Se,fj,fj]
 rw[e,ei aa aa]
theorem MF(x:Zm M){u:LI}(a:val u=1):bp (Md.n M) (val (enc x)*val u*Md.c9 M%M)=bp (Md.n M) x.v:=by
 congr 1;rw[a,nk,Ga];show((x.v*(pw (Md.n M)%M))%M)*Md.c9 M%M=_;have h:=Md.inv (M:=M);have:(x.v*(pw (Md.n M)%M)%M)*Md.c9 M%M=x.v*(pw (Md.n M)*Md.c9 M)%M:=by rw[eW,mj,<-eW,eM,eW,eW (pw (Md.n M)%M),mj,<-eW (pw (Md.n M)),<-eW]
 rw[this,eW,h,nk,mj,Wj]
theorem tw{a:LI}:bp (Md.n M) (val (enc (R2:Zm M))*val a*Md.c9 M%M)=enc (zm (val a):Zm M):=by
 rw[ahQ,Ga];congr 1;have h:=Md.inv (M:=M);show((pw (Md.n M)%M)*(pw (Md.n M)%M)%M)*val a*Md.c9 M%M=_;rw[<-eW];have e:(pw (Md.n M)*pw (Md.n M)%M)*val a*Md.c9 M%M=(pw (Md.n M)*pw (Md.n M))*(val a*Md.c9 M)%M:=by rw[eM,eW,mj,<-eW]
 rw[e,show pw (Md.n M)*pw (Md.n M)*(val a*Md.c9 M)=(val a*pw (Md.n M))*(pw (Md.n M)*Md.c9 M) by
  rw[eM,jk (val a) (pw (Md.n M)),eM,zo (pw (Md.n M)) (val a)],eW,h,nk,mj]
end
end Cr
section
universe u
/- Numbers of package cresset/fp: Mul, Square, Add, Sub, Neg, Zero, one, shift, Of. Printed by gen_el.py. -/
end
namespace Go.Proofs.YtofofalgjibokaaGreatDoor
namespace fp
open Go.Proofs.Tryz
section
universe u
theorem Kv:aF au 137 f137:=ek
abbrev EP:HL [.fp,.fp]->HO [.val .fp]:=λ(x,y,_)=>((x:Fp)*y,())
theorem nq:bu au 137 [.fp,.fp] [.val .fp] cx (λ_=>True) EP:=by refine bH (sp:=bw [kg]) (aV (a2 gL) bY) ao Kv ae ae ?_;rintro w a ⟨x,y,⟨⟩⟩ _ _;refine av (X:=(gw (enc x,enc y,())/\Canon Mp (bp 6 (val (enc x)*val (enc y)*c9%M))/\(dec (bp 6 (val (enc x)*val (enc y)*c9%M)),())=EP (x,y,()))) ab ?_;rw[show bp 6 (val (enc x)*val (enc y)*c9%M)=enc (x*y)from Am x y];exact⟨⟨gB x,gB y,(dB x).2.2⟩,dB _,by rw[fj]⟩
def mh:=aZ nq
theorem Cb:aF au 136 f136:=ek
abbrev wO:HL [.fp]->HO [.val .fp]:=λ(x,_)=>((x:Fp)*x,())
theorem js:bu au 136 [.fp] [.val .fp] cx (λ_=>True) wO:=by refine bH (sp:=bw [kg]) (aV (a2 gL) bY) ao Cb ae ae ?_;rintro w a ⟨x,⟨⟩⟩ _ _;refine av (X:=(gw (enc x,enc x,())/\Canon Mp (bp 6 (val (enc x)*val (enc x)*c9%M))/\(dec (bp 6 (val (enc x)*val (enc x)*c9%M)),())=wO (x,()))) ab ?_;rw[show bp 6 (val (enc x)*val (enc x)*c9%M)=enc (x*x)from Am x x];exact⟨⟨gB x,gB x,(dB x).2.2⟩,dB _,by rw[fj]⟩
def ik:=aZ js
theorem A9:aF au 139 f139:=ek
abbrev p8:HL [.fp,.fp]->HO [.val .fp]:=λ(x,y,_)=>((x:Fp)+y,())
theorem mK:bu au 139 [.fp,.fp] [.val .fp] cx (λ_=>True) p8:=by
 refine bH (sp:=bw [CO,wT]) (aV (a2 yh) (aV (a2 qd) bY)) ao A9 ae ae ?_;rintro w a ⟨x,y,⟨⟩⟩ _ _
 refine av (X:=(uf (enc x,enc y,())/\EY (bp 6 (val (enc x)+val (enc y)),())/\
  Canon Mp (if val (bp 6 (val (enc x)+val (enc y)))<M then bp 6 (val (enc x)+val (enc y))else bp 6 (val (bp 6 (val (enc x)+val (enc y)))-M))/\
  (dec (if val (bp 6 (val (enc x)+val (enc y)))<M then bp 6 (val (enc x)+val (enc y))else bp 6 (val (bp 6 (val (enc x)+val (enc y)))-M)),())=p8 (x,y,()))) ab ?_
 rw[show(if val (bp 6 (val (enc x)+val (enc y)))<M then bp 6 (val (enc x)+val (enc y))else bp 6 (val (bp 6 (val (enc x)+val (enc y)))-M))=enc (x+y)from RR x y];exact⟨⟨gB x,gB y⟩,lr _ _,dB _,by rw[fj]⟩
def lJ:=aZ mK
theorem Kz:aF au 138 f138:=ek
abbrev yB:HL [.fp,.fp]->HO [.val .fp]:=λ(x,y,_)=>((x:Fp)-y,())
theorem yk:bu au 138 [.fp,.fp] [.val .fp] cx (λ_=>True) yB:=by
 refine bH (sp:=bw [tx,wT,rl]) (aV (a2 nR) (aV (a2 qd) (aV (a2 l9) bY))) ao Kz ae ae ?_;rintro w b ⟨x,y,⟨⟩⟩ _ _
 refine av (X:=(uf (enc x,enc y,())/\
  ((((if val (enc x)<val (enc y)then 1 else 0:Int) != 0)=true->True/\uf (bp 6 (val (enc x)-val (enc y)),ms,())/\Canon Mp (bp 6 (val (bp 6 (val (enc x)-val (enc y)))+val ms))/\(dec (bp 6 (val (bp 6 (val (enc x)-val (enc y)))+val ms)),())=yB (x,y,()))/\
   (((if val (enc x)<val (enc y)then 1 else 0:Int) != 0)=false->Canon Mp (bp 6 (val (enc x)-val (enc y)))/\(dec (bp 6 (val (enc x)-val (enc y))),())=yB (x,y,()))))) ab ?_
 rw[im];refine⟨⟨gB x,gB y⟩,?_⟩;by_cases h:val (enc x)<val (enc y);rw[show bp 6 (val (bp 6 (val (enc x)-val (enc y)))+M)=enc (x-y)from JO h];exact⟨λ_=>⟨trivial,⟨lr _ _,rK⟩,dB _,by rw[fj]⟩,λa=>by simp[h]at a⟩;rw[show bp 6 (val (enc x)-val (enc y))=enc (x-y)from JN h];exact⟨λa=>by simp[h]at a,λ_=>⟨dB _,by rw[fj]⟩⟩
def JK:=aZ yk
theorem Kw:aF au 127 f127:=ek
abbrev ER:HL [.fp]->HO [.val .fp]:=λ(x,_)=>(-(x:Fp),())
theorem Fo(x:Fp):0-x=-x:=Zm.ext (by rw[V8,Nr,w4];simp)
theorem wD:bu au 127 [.fp] [.val .fp] cx (λ_=>True) ER:=by refine bH (sp:=bw [JK]) (aV (a2 yk) bY) ao Kw ae ae ?_;rintro w a ⟨x,⟨⟩⟩ _ _;refine av (X:=(True/\((0:Fp)-x,())=ER (x,()))) ab ?_;exact⟨trivial,by rw[Fo]⟩
def CP:=aZ wD
theorem aaK:aF au 135 f135:=ek
abbrev Tl:HL [.fp]->HO [.val .bool]:=λ(x,_)=>(decide ((x:Fp)=0),())
theorem Fz:bu au 135 [.fp] [.val .bool] cx (λ_=>True) Tl:=by refine bH (sp:=bw []) bY ao aaK ae ae ?_;rintro w a ⟨x,⟨⟩⟩ _ _;exact av (X:=((decide (x=(0:Fp)),())=Tl (x,()))) ab rfl
def QF:=aZ Fz
theorem Ky:aF au 170 f170:=ek
theorem yj:bu au 170 [] [.val .fp] cx (λ_=>True) (λ_=>((1:Fp),())):=by refine bH (sp:=bw []) bY ao Ky ae ae ?_;rintro w b ⟨⟩ _ _;refine av (X:=(Canon Mp [8505329371266088957,17002214543764226050,6865905132761471162,8632934651105793861,6631298214892334189,1582556514881692819]/\(dec [8505329371266088957,17002214543764226050,6865905132761471162,8632934651105793861,6631298214892334189,1582556514881692819],())=((1:Fp),()))) ab ?_;refine⟨⟨rfl,?_,ae⟩,?_⟩;intro x a;simp at a;rcases a with rfl|rfl|rfl|rfl|rfl|rfl<;>exact⟨ae,ae⟩;rw[show(dec [8505329371266088957,17002214543764226050,6865905132761471162,8632934651105793861,6631298214892334189,1582556514881692819]:Fp)=1 from Zm.ext ae]
def xx:=aZ yj
end
end fp
end Go.Proofs.YtofofalgjibokaaGreatDoor
section
universe u
/- Words of package cresset/fr: muladd, minus, plus, modulus, fit, times. Printed by gen_field.py. -/
end
namespace Go.Proofs.YtofofalgjibokaaGreatDoor
namespace fr
open Go.Proofs.Tryz
section
universe u
abbrev M:Int:=Mr
def ms:LI:=[18446744069414584321,6034159408538082302,3691218898639771653,8353516859464449352]
abbrev c9:Int:=Md.c9 Mr
theorem im:val ms=M:=ae
theorem rK:Ws ms:=by intro x a;simp[ms]at a;rcases a with rfl|rfl|rfl|rfl<;>exact⟨ae,ae⟩
theorem Ic:0<M:=ae
theorem Ie:2*M<=pw 4:=ae
theorem Lc:(pw 4*c9)%M=1%M:=ae
theorem Ca:aF au 93 f93:=ek
abbrev lv:HL [.int .u64,.int .u64,.int .u64,.int .u64]->Prop:=λ(a,b,c,d,_)=>jI a/\jI b/\jI c/\jI d
abbrev q9:HL [.int .u64,.int .u64,.int .u64,.int .u64]->HO [.val (.int .u64),.val (.int .u64)]:=λ(a,b,c,d,_)=>(((a:Int)*b+c+d)/18446744073709551616,(a*b+c+d)%18446744073709551616,())
theorem wA:bu au 93 [.int .u64,.int .u64,.int .u64,.int .u64] [.val (.int .u64),.val (.int .u64)] cx lv q9:=by
 refine bH (sp:=bw [TR,FZ]) (aV (a2 Hc) (aV (a2 yg) bY)) ao Ca ae ae ?_;rintro w p ⟨a,b,c,d,⟨⟩⟩ _ ⟨⟨e,i⟩,⟨f,k⟩,⟨g,l⟩,h,o⟩;have j:=nA (m:=18446744073709551615) (n:=18446744073709551615) e aa f aa
 refine av (X:=(HI (a,b,())/\rf (a*b%18446744073709551616,c,0,())/\rf ((a*b%18446744073709551616+c+0)%18446744073709551616,d,0,())/\
   ((((a*b/18446744073709551616+(a*b%18446744073709551616+c+0)/18446744073709551616)%18446744073709551616+((a*b%18446744073709551616+c+0)%18446744073709551616+d+0)/18446744073709551616)%18446744073709551616,
    ((a*b%18446744073709551616+c+0)%18446744073709551616+d+0)%18446744073709551616,()):Int×Int×Unit)=q9 (a,b,c,d,()))) ab ?_
 refine⟨⟨⟨e,i⟩,f,k⟩,⟨⟨aa,aa⟩,⟨g,l⟩,.inl rfl⟩,⟨⟨aa,aa⟩,⟨h,o⟩,.inl rfl⟩,?_⟩;simp only[q9,cp,fW];generalize (a:Int)*b=q at *;exact⟨aa,aa⟩
def yN:=aZ wA
abbrev uf:HL [(.arr 4 (.int .u64)),(.arr 4 (.int .u64))]->Prop:=λ(a,b,_)=>Ws a/\Ws b
abbrev yz:HL [(.arr 4 (.int .u64)),(.arr 4 (.int .u64))]->HO [.val (.arr 4 (.int .u64)),.val (.int .u64)]:=λ(a,b,_)=>(bp 4 (val a-val b),if val a<val b then(1:Int)else 0,())
abbrev tm:HL [(.arr 4 (.int .u64)),(.arr 4 (.int .u64))]->HO [.val (.arr 4 (.int .u64))]:=λ(a,b,_)=>(bp 4 (val a+val b),())
theorem D8:aF au 78 f78:=ek
theorem nR:bu au 78 [(.arr 4 (.int .u64)),(.arr 4 (.int .u64))] [.val (.arr 4 (.int .u64)),.val (.int .u64)] cx uf yz:=by
 refine bH (sp:=bw [TS]) (aV (a2 Hg) bY) ao D8 ae ae ?_;rintro w q ⟨o,p,⟨⟩⟩ ⟨⟨m,_⟩,⟨n,_⟩,_⟩ ⟨i,j⟩;match o,p,m,n,i,j with
 |[a,b,c,d],[e,f,g,h],_,_,i,j=>refine av (X:=JM [a,b,c,d] [e,f,g,h] 0 (((pT [a,b,c,d] [e,f,g,h] 0).1,(pT [a,b,c,d] [e,f,g,h] 0).2,())=yz ([a,b,c,d],[e,f,g,h],()))) ab ?_;refine MZ _ _ 0 rfl i j (.inl rfl) ?_;obtain⟨k,l⟩:=TT (us:=[a,b,c,d]) (vs:=[e,f,g,h]) rfl i j;rw[k,l];rfl
def tx:=aZ nR
theorem xZ:aF au 77 f77:=ek
theorem qd:bu au 77 [(.arr 4 (.int .u64)),(.arr 4 (.int .u64))] [.val (.arr 4 (.int .u64))] cx uf tm:=by
 refine bH (sp:=bw [FZ]) (aV (a2 yg) bY) ao xZ ae ae ?_;rintro w p ⟨n,o,⟨⟩⟩ ⟨⟨l,_⟩,⟨m,_⟩,_⟩ ⟨j,k⟩;match n,o,l,m,j,k with
 |[a,b,d,e],[f,g,h,i],_,_,j,k=>refine av (X:=Ih [a,b,d,e] [f,g,h,i] 0 (((rV [a,b,d,e] [f,g,h,i] 0).1,())=tm ([a,b,d,e],[f,g,h,i],()))) ab ?_;refine LN _ _ 0 rfl j k (.inl rfl) ?_;rw[RO (us:=[a,b,d,e]) (vs:=[f,g,h,i]) rfl j k];rfl
def wT:=aZ qd
theorem AB:aF au 79 f79:=ek
theorem l9:bu au 79 [] [.val (.arr 4 (.int .u64))] cx (λ_=>True) (λ_=>(ms,())):=by refine bH (sp:=bw []) bY ao AB ae ae ?_;intro w a b _ _;exact av (X:=((ms,()):LI×Unit)=(ms,())) ab rfl
def rl:=aZ l9
abbrev EY:HL [(.arr 4 (.int .u64))]->Prop:=λ(a,_)=>Ws a
abbrev q8:HL [(.arr 4 (.int .u64))]->HO [.val (.arr 4 (.int .u64))]:=λ(a,_)=>(if val a<M then a else bp 4 (val a-M),())
theorem Kt:aF au 76 f76:=ek
theorem yh:bu au 76 [(.arr 4 (.int .u64))] [.val (.arr 4 (.int .u64))] cx EY q8:=by refine bH (sp:=bw [tx,rl]) (aV (a2 nR) (aV (a2 l9) bY)) ao Kt ae ae ?_;rintro w b ⟨xs,⟨⟩⟩ _ a;refine av (X:=(True/\(Ws xs/\Ws ms)/\((((if val xs<val ms then 1 else 0:Int) != 0)=true->((xs,()):LI×Unit)=q8 (xs,()))/\(((if val xs<val ms then 1 else 0:Int) != 0)=false->((bp 4 (val xs-val ms),()):LI×Unit)=q8 (xs,()))))) ab ?_;refine⟨trivial,⟨a,rK⟩,?_⟩;rw[im];by_cases h:val xs<M;simp[h,q8];simp[h,q8]
def CO:=aZ yh
abbrev gw:HL [(.arr 4 (.int .u64)),(.arr 4 (.int .u64))]->Prop:=λ(xs,ys,_)=>Ws xs/\Ws ys/\val xs<M
abbrev nW:HL [(.arr 4 (.int .u64)),(.arr 4 (.int .u64))]->HO [.val (.arr 4 (.int .u64))]:=λ(xs,ys,_)=>(bp 4 (val xs*val ys*c9%M),())
theorem wy:aF au 53 f53:=ek
def uw(xs ys:LI)(g:Int×LI):St:=
 ay f53.ntmps 88 ([(2,al 0 0),(4,al 16 0)]++[(7,sI .u64 (g.2.getD 0 0)),(8,sI .u64 (g.2.getD 1 0)),(9,sI .u64 (g.2.getD 2 0)),(10,sI .u64 (g.2.getD 3 0))]++[(14,sA .u64 4 ys),(15,sJ g.1)])
  [(0,[.ints .u64 4 xs]),(16,[.ints .u64 4 (Au 4)])]
def Ff(g:Int×LI):St:=ay f53.ntmps 88 ([(4,al 16 0)]++[(7,sI .u64 (g.2.getD 0 0)),(8,sI .u64 (g.2.getD 1 0)),(9,sI .u64 (g.2.getD 2 0)),(10,sI .u64 (g.2.getD 3 0))]) [(16,[.ints .u64 4 (Au 4)])]
def ux(xs ys:LI)(g:Int×LI):Int×LI:=(IntKind.i64.wrap (g.1+1),pS 18446744069414584319 xs ms g.2 (ys.getD g.1.toNat 0))
def uk:LI->LI->LI->Int->Int->Int->Int->Prop->Prop
 |x::e,p::b,t::d,v,m,a,c,K=>
  lv (x,v,t,a,())/\lv (m,p,(x*v+t+a)%18446744073709551616,c,())/\
   uk e b d v m ((x*v+t+a)/18446744073709551616) ((m*p+(x*v+t+a)%18446744073709551616+c)/18446744073709551616) K
 |_,_,_,_,_,_,_,K=>K
theorem E6{K:Prop}{v m:Int}(i:jI v)(h:jI m)(g:K):∀(f b d:LI)(a c:Int),Ws f->Ws b->Ws d->jI a->jI c->uk f b d v m a c K:=by
 intro f;induction f with
 |nil=>intro b d a c _ _ _ _ _;exact g
 |cons x f E=>
  intro b d a c q l o z A;cases b with
  |nil=>exact g
  |cons p b=>
   cases d with
   |nil=>exact g
   |cons t d=>have k:=q x az;have j:=l p az;have t1:=o t az;have D:=nA (m:=18446744073709551615) (n:=18446744073709551615) k.1 (by have:=k.2;omega) i.1 (by have:=i.2;omega);have C:=nA (m:=18446744073709551615) (n:=18446744073709551615) h.1 (by have:=h.2;omega) j.1 (by have:=j.2;omega);obtain⟨t2,t3⟩:=t1;obtain⟨r,s⟩:=z;obtain⟨u,w⟩:=A;simp only[uk];generalize x*v=G at *;generalize m*p=F at *;refine⟨⟨k,i,⟨t2,t3⟩,r,s⟩,⟨h,j,⟨aa,aa⟩,u,w⟩,?_⟩;exact E b d _ _ (λy e=>q y (by simp[e])) (λy e=>l y (by simp[e])) (λy e=>o y (by simp[e])) ⟨aa,aa⟩ ⟨aa,aa⟩
def vy(xs ps a:LI)(v:Int)(K:Prop):Prop:=
 match xs,ps,a with
 |x::xs,p::ps,t::a=>
  lv (x,v,t,(0:Int),())/\lv (((x*v+t+0)%18446744073709551616)*18446744069414584319%18446744073709551616,p,(x*v+t+0)%18446744073709551616,(0:Int),())/\
  uk xs ps a v (((x*v+t+0)%18446744073709551616)*18446744069414584319%18446744073709551616) ((x*v+t+0)/18446744073709551616)
   (((((x*v+t+0)%18446744073709551616)*18446744069414584319%18446744073709551616)*p+(x*v+t+0)%18446744073709551616+0)/18446744073709551616) K
 |_,_,_=>K
theorem CT{K:Prop}{v:Int}(d:jI v)(h:K){xs ps e:LI}(k:Ws xs)(i:Ws ps)(j:Ws e):vy xs ps e v K:=by unfold vy;split;rename_i x xs p ps t e;have g:=k x az;have f:=i p az;have t1:=j t az;have o:=nA (m:=18446744073709551615) (n:=18446744073709551615) g.1 (by have:=g.2;omega) d.1 (by have:=d.2;omega);obtain⟨t2,t3⟩:=t1;generalize x*v=q at *;generalize r:((q+t+0)%18446744073709551616)*18446744069414584319%18446744073709551616=m;have a:jI m:=⟨aa,aa⟩;have l:=nA (m:=18446744073709551615) (n:=18446744073709551615) a.1 (by have:=a.2;omega) f.1 (by have:=f.2;omega);generalize m*p=s at *;refine⟨⟨g,d,⟨t2,t3⟩,aa,aa⟩,⟨a,f,⟨aa,aa⟩,aa,aa⟩,?_⟩;exact E6 d a h xs ps e _ _ (λy b=>k y (by simp[b])) (λy b=>i y (by simp[b])) (λy b=>j y (by simp[b])) ⟨aa,aa⟩ ⟨aa,aa⟩;exact h
def iO(xs ys:LI)(k:Nat):LI:=foldM 18446744069414584319 xs ms (replicate 4 0) (ys.take k)
def yS(xs ys:LI)(g:Int×LI):Prop:=∃k:Nat,k<=4/\g=((k:Int),iO xs ys k)
theorem Ch{a:Int}{xs ps:LI}:∀(b d:LI)(v:Int),foldM a xs ps d (b++[v])=pS a xs ps (foldM a xs ps d b) v:=by
 intro b;induction b with
 |nil=>intro d v;rfl
 |cons u b e=>intro d v;exact e _ _
theorem gL:bu au 53 [(.arr 4 (.int .u64)),(.arr 4 (.int .u64))] [.val (.arr 4 (.int .u64))] cx gw nW:=by
 refine cu (sp:=bw [yN,CO]) wy ae ae ab ?_;have s:aS au (bw [yN,CO]):=aV (a2 wA) (aV (a2 yh) bY);rintro w V ⟨xs,ys,⟨⟩⟩ ⟨⟨N,_⟩,⟨O,_⟩,_⟩ ⟨r,C,q⟩;match xs,N,r,q with
 |[a,b,d,f],_,r,q=>
  have E:length ys=4:=O;have u:[a,b,d,f].length=ms.length:=rfl;have m:∀k,(iO [a,b,d,f] ys k).length=ms.length/\Ws (iO [a,b,d,f] ys k)/\val (iO [a,b,d,f] ys k)<val [a,b,d,f]+val ms:=by
   intro k;have:=Ci (cancel:=18446744069414584319) u r rK (by simp[ms]) ae (by rw[im];exact q) (by rw[im];exact Ie) (ys.take k) (replicate 4 0) (λy D=>C y (kJ D)) (by rfl)
    (by intro x r;rw[(List.mem_replicate.1 r).2];exact⟨aa,aa⟩) (by rw[im,show val (replicate 4 0)=0 from by decide];have:=fO r;have:=Ic;omega)
   exact⟨this.1,this.2.1,this.2.2.1⟩
  have j:=My (cancel:=18446744069414584319) (xs:=[a,b,d,f]) (ps:=ms) (ys:=ys) (c9:=c9) u E r rK C (by simp[ms]) ae (by rw[im];exact q) (by rw[im];exact Ie) (by rw[im];exact Lc);rw[im]at j
  -- I A at G z H
  have J0:yS [a,b,d,f] ys (0,replicate 4 0):=⟨0,aa,by simp[iO,foldM]⟩;show Tr _ _ _ _ _ _ _;refine bN s ao 3 (uw [a,b,d,f] ys (0,replicate 4 0)) True ?_ (λ_=>?_);refine av (X:=(uw [a,b,d,f] ys (0,replicate 4 0)).aj True) ab (aw trivial);refine QT s ao (uw [a,b,d,f] ys) (yS [a,b,d,f] ys) (λg=>(4-g.1).toNat) (ux [a,b,d,f] ys) Ff (λg=>g.2=iO [a,b,d,f] ys 4) (0,replicate 4 0) (c:=ar (aq f53) 3) ab ab
   (aB ab ab J0) ?_ ?_
  ·rintro g ⟨k,Y,rfl⟩;obtain⟨f1,f2,f3⟩:=m k;have h:∃t0 t1 t2 t3,iO [a,b,d,f] ys k=[t0,t1,t2,t3]:=by
    match iO [a,b,d,f] ys k,f1 with
    |[t0,t1,t2,t3],_=>exact⟨_,_,_,_,rfl⟩
   obtain⟨t0,t1,t2,t3,h⟩:=h;rw[h]at f2⊢
   refine av (X:=((decide ((k:Int)<4)=true->(0<=(k:Int)/\(k:Int)<4)/\vy [a,b,d,f] ms [t0,t1,t2,t3] (ys.getD (k:Int).toNat 0) ((uw [a,b,d,f] ys (ux [a,b,d,f] ys ((k:Int),[t0,t1,t2,t3]))).aj (yS [a,b,d,f] ys (ux [a,b,d,f] ys ((k:Int),[t0,t1,t2,t3]))/\(4-(ux [a,b,d,f] ys ((k:Int),[t0,t1,t2,t3])).1).toNat<(4-(k:Int)).toNat)))
    /\(decide ((k:Int)<4)=false->(Ff ((k:Int),[t0,t1,t2,t3])).aj ([t0,t1,t2,t3]=iO [a,b,d,f] ys 4)))) ab ?_
   constructor
   ·intro p;have p:k<4:=by have:=Odt p;omega
    have P:jI (ys.getD (k:Int).toNat 0):=by rw[bx,aJ,bO aa];exact C _ (de _)
    refine⟨⟨aa,aa⟩,CT P (aw ⟨⟨k+1,aa,?_⟩,?_⟩) r rK f2⟩
    ·have K:IntKind.i64.wrap ((k:Int)+1)=((k+1:Nat):Int):=by rw[wrap_i64 aa aa];omega
     have L:iO [a,b,d,f] ys (k+1)=pS 18446744069414584319 [a,b,d,f] ms (iO [a,b,d,f] ys k) (ys.getD (k:Int).toNat 0):=by unfold iO;rw[dA aa,Ch];rw[bx,aJ,bO aa];rfl
     show(IntKind.i64.wrap ((k:Int)+1),pS 18446744069414584319 [a,b,d,f] ms [t0,t1,t2,t3] (ys.getD (k:Int).toNat 0))=_;rw[K,L,h]
    show(4-IntKind.i64.wrap ((k:Int)+1)).toNat<_;rw[wrap_i64 aa aa];omega
   ·intro o;have o:k=4:=by
     have:=Odf o;omega
    refine aw ?_;rw[<-h,o]
  ·rintro⟨i,U⟩ h;have h:U=iO [a,b,d,f] ys 4:=h;obtain⟨f1,f2,f3⟩:=m 4;have t:ys.take 4=ys:=cA aa;have l:∃t0 t1 t2 t3,iO [a,b,d,f] ys 4=[t0,t1,t2,t3]:=by
    match iO [a,b,d,f] ys 4,f1 with
    |[t0,t1,t2,t3],_=>exact⟨_,_,_,_,rfl⟩
   obtain⟨t0,t1,t2,t3,l⟩:=l;subst h;rw[l]at f2⊢;refine cq s ao _ _ ?_;refine av (X:=(Ws [t0,t1,t2,t3]/\((if val [t0,t1,t2,t3]<M then [t0,t1,t2,t3]else bp 4 (val [t0,t1,t2,t3]-M),()):LI×Unit)=nW ([a,b,d,f],ys,()))) ab ?_;refine⟨f2,?_⟩;have e:foldM 18446744069414584319 [a,b,d,f] ms (replicate ms.length 0) ys=[t0,t1,t2,t3]:=by have:=l;unfold iO at this;rw[t]at this;exact this
   rw[e]at j;obtain⟨Z,R,m3,T⟩:=j;have Q:=fO R;have W:=Ic;simp only[nW,cp,fW];rw[<-T];split;rename_i p;rw[ei Q p];exact(vg f2).symm
   ·rename_i o
    rw[show val [t0,t1,t2,t3]%M=val [t0,t1,t2,t3]-M from by
     rw[<-zi,ei aa aa]]
def kg:=aZ gL
end
end fr
end Go.Proofs.YtofofalgjibokaaGreatDoor
section
universe u
/- Numbers of package cresset/fr: Mul, Square, Add, Sub, Neg, Zero, one, shift, Of. Printed by gen_el.py. -/
end
namespace Go.Proofs.YtofofalgjibokaaGreatDoor
namespace fr
open Go.Proofs.Tryz
section
universe u
theorem Kv:aF au 42 f42:=ek
abbrev EP:HL [.fr,.fr]->HO [.val .fr]:=λ(x,y,_)=>((x:Fr)*y,())
theorem nq:bu au 42 [.fr,.fr] [.val .fr] cx (λ_=>True) EP:=by refine bH (sp:=bw [kg]) (aV (a2 gL) bY) ao Kv ae ae ?_;rintro w a ⟨x,y,⟨⟩⟩ _ _;refine av (X:=(gw (enc x,enc y,())/\Canon Mr (bp 4 (val (enc x)*val (enc y)*c9%M))/\(dec (bp 4 (val (enc x)*val (enc y)*c9%M)),())=EP (x,y,()))) ab ?_;rw[show bp 4 (val (enc x)*val (enc y)*c9%M)=enc (x*y)from Am x y];exact⟨⟨gB x,gB y,(dB x).2.2⟩,dB _,by rw[fj]⟩
def mh:=aZ nq
theorem Cb:aF au 95 f95:=ek
abbrev wO:HL [.fr]->HO [.val .fr]:=λ(x,_)=>((x:Fr)*x,())
theorem js:bu au 95 [.fr] [.val .fr] cx (λ_=>True) wO:=by refine bH (sp:=bw [kg]) (aV (a2 gL) bY) ao Cb ae ae ?_;rintro w a ⟨x,⟨⟩⟩ _ _;refine av (X:=(gw (enc x,enc x,())/\Canon Mr (bp 4 (val (enc x)*val (enc x)*c9%M))/\(dec (bp 4 (val (enc x)*val (enc x)*c9%M)),())=wO (x,()))) ab ?_;rw[show bp 4 (val (enc x)*val (enc x)*c9%M)=enc (x*x)from Am x x];exact⟨⟨gB x,gB x,(dB x).2.2⟩,dB _,by rw[fj]⟩
def ik:=aZ js
theorem A9:aF au 43 f43:=ek
abbrev p8:HL [.fr,.fr]->HO [.val .fr]:=λ(x,y,_)=>((x:Fr)+y,())
theorem mK:bu au 43 [.fr,.fr] [.val .fr] cx (λ_=>True) p8:=by
 refine bH (sp:=bw [CO,wT]) (aV (a2 yh) (aV (a2 qd) bY)) ao A9 ae ae ?_;rintro w a ⟨x,y,⟨⟩⟩ _ _
 refine av (X:=(uf (enc x,enc y,())/\EY (bp 4 (val (enc x)+val (enc y)),())/\
  Canon Mr (if val (bp 4 (val (enc x)+val (enc y)))<M then bp 4 (val (enc x)+val (enc y))else bp 4 (val (bp 4 (val (enc x)+val (enc y)))-M))/\
  (dec (if val (bp 4 (val (enc x)+val (enc y)))<M then bp 4 (val (enc x)+val (enc y))else bp 4 (val (bp 4 (val (enc x)+val (enc y)))-M)),())=p8 (x,y,()))) ab ?_
 rw[show(if val (bp 4 (val (enc x)+val (enc y)))<M then bp 4 (val (enc x)+val (enc y))else bp 4 (val (bp 4 (val (enc x)+val (enc y)))-M))=enc (x+y)from RR x y];exact⟨⟨gB x,gB y⟩,lr _ _,dB _,by rw[fj]⟩
def lJ:=aZ mK
theorem Kz:aF au 118 f118:=ek
abbrev yB:HL [.fr,.fr]->HO [.val .fr]:=λ(x,y,_)=>((x:Fr)-y,())
theorem yk:bu au 118 [.fr,.fr] [.val .fr] cx (λ_=>True) yB:=by
 refine bH (sp:=bw [tx,wT,rl]) (aV (a2 nR) (aV (a2 qd) (aV (a2 l9) bY))) ao Kz ae ae ?_;rintro w b ⟨x,y,⟨⟩⟩ _ _
 refine av (X:=(uf (enc x,enc y,())/\
  ((((if val (enc x)<val (enc y)then 1 else 0:Int) != 0)=true->True/\uf (bp 4 (val (enc x)-val (enc y)),ms,())/\Canon Mr (bp 4 (val (bp 4 (val (enc x)-val (enc y)))+val ms))/\(dec (bp 4 (val (bp 4 (val (enc x)-val (enc y)))+val ms)),())=yB (x,y,()))/\
   (((if val (enc x)<val (enc y)then 1 else 0:Int) != 0)=false->Canon Mr (bp 4 (val (enc x)-val (enc y)))/\(dec (bp 4 (val (enc x)-val (enc y))),())=yB (x,y,()))))) ab ?_
 rw[im];refine⟨⟨gB x,gB y⟩,?_⟩;by_cases h:val (enc x)<val (enc y);rw[show bp 4 (val (bp 4 (val (enc x)-val (enc y)))+M)=enc (x-y)from JO h];exact⟨λ_=>⟨trivial,⟨lr _ _,rK⟩,dB _,by rw[fj]⟩,λa=>by simp[h]at a⟩;rw[show bp 4 (val (enc x)-val (enc y))=enc (x-y)from JN h];exact⟨λa=>by simp[h]at a,λ_=>⟨dB _,by rw[fj]⟩⟩
def JK:=aZ yk
theorem Kw:aF au 75 f75:=ek
abbrev ER:HL [.fr]->HO [.val .fr]:=λ(x,_)=>(-(x:Fr),())
theorem Fo(x:Fr):0-x=-x:=Zm.ext (by rw[V8,Nr,w4];simp)
theorem wD:bu au 75 [.fr] [.val .fr] cx (λ_=>True) ER:=by refine bH (sp:=bw [JK]) (aV (a2 yk) bY) ao Kw ae ae ?_;rintro w a ⟨x,⟨⟩⟩ _ _;refine av (X:=(True/\((0:Fr)-x,())=ER (x,()))) ab ?_;exact⟨trivial,by rw[Fo]⟩
def CP:=aZ wD
theorem Ky:aF au 94 f94:=ek
theorem yj:bu au 94 [] [.val .fr] cx (λ_=>True) (λ_=>((1:Fr),())):=by refine bH (sp:=bw []) bY ao Ky ae ae ?_;rintro w b ⟨⟩ _ _;refine av (X:=(Canon Mr [8589934590,6378425256633387010,11064306276430008309,1739710354780652911]/\(dec [8589934590,6378425256633387010,11064306276430008309,1739710354780652911],())=((1:Fr),()))) ab ?_;refine⟨⟨rfl,?_,ae⟩,?_⟩;intro x a;simp at a;rcases a with rfl|rfl|rfl|rfl<;>exact⟨ae,ae⟩;rw[show(dec [8589934590,6378425256633387010,11064306276430008309,1739710354780652911]:Fr)=1 from Zm.ext ae]
def xx:=aZ yj
end
end fr
end Go.Proofs.YtofofalgjibokaaGreatDoor
section
universe u
/- shift and Of of both fields. -/
end
namespace Go.Proofs.YtofofalgjibokaaGreatDoor
namespace fp
open Go.Proofs.Tryz
section
universe u
theorem Eb:aF au 133 f133:=ek
def n8(t:Nat)(g:Int×Fp):St:=ay f133.ntmps 40 [(0,al 0 0),(1,al 16 0),(t,sJ g.1)] [(16,[.row .fp 1 [g.2]]),(0,[.row .fp 1 [(0:Fp)]])]
def tL:Nat->Fp
 |0=>1
 |k+1=>tL k+tL k
def wU(x:Fp):Nat->Fp
 |0=>x
 |k+1=>wU x k*wU x k
theorem qT:bu au 133 [] [.val .fp] cx (λ_=>True) (λ_=>((R2:Fp),())):=by
 have a:aS au (bw [xx,lJ,ik]):=aV (a2 yj) (aV (a2 mK) (aV (a2 js) bY));refine cu (sp:=bw [xx,lJ,ik]) Eb ae ae ab ?_;rintro w d ⟨⟩ _ _;show Tr _ _ _ _ _ _ _;refine bN a ao 3 (n8 3 (0,1)) True ?_ (λ_=>?_);refine av (X:=True/\(n8 3 (0,1)).aj True) ab ⟨trivial,aw trivial⟩;refine il a ao (n8 3) (λk=>((k:Int),tL k)) 3 (λg=>(IntKind.i64.wrap (g.1+1),g.2+g.2)) (n8 3) (c:=ar (aq f133) 3) ab ab (aB ab ab trivial)
  (λk b=>by show(_,_)=(_,_);rw[a5 aa];rfl) ?_ ?_
 intro k b;refine av (X:=((decide ((k:Int)<3)=true->True/\(n8 3 (IntKind.i64.wrap ((k:Int)+1),tL k+tL k)).aj (k<3))/\(decide ((k:Int)<3)=false->(n8 3 ((k:Int),tL k)).aj (k=3)))) ab ?_;exact⟨λh=>⟨trivial,aw (by have:=cM h;omega)⟩,λh=>aw (by have:=cL h;omega)⟩;refine bN a ao 1 (n8 9 (0,tL 3)) True ?_ (λ_=>?_);refine av (X:=(n8 9 (0,tL 3)).aj True) ab (aw trivial);refine il a ao (n8 9) (λk=>((k:Int),wU (tL 3) k)) 7 (λg=>(IntKind.i64.wrap (g.1+1),g.2*g.2)) (n8 9) (c:=ar (aq f133) 5) ab ab (aB ab ab trivial)
  (λk b=>by show(_,_)=(_,_);rw[a5 aa];rfl) ?_ ?_
 intro k b;refine av (X:=((decide ((k:Int)<7)=true->True/\(n8 9 (IntKind.i64.wrap ((k:Int)+1),wU (tL 3) k*wU (tL 3) k)).aj (k<7))/\(decide ((k:Int)<7)=false->(n8 9 ((k:Int),wU (tL 3) k)).aj (k=7)))) ab ?_;exact⟨λh=>⟨trivial,aw (by have:=cM h;omega)⟩,λh=>aw (by have:=cL h;omega)⟩;refine cq a ao _ _ ?_;refine av (X:=(wU (tL 3) 7,())=((R2:Fp),())) ab ?_;rw[show wU (tL 3) 7=R2 from Zm.ext ae]
def vw:=aZ qT
theorem wx:aF au 134 f134:=ek
abbrev Cx:HL [.int .u64]->HO [.val .fp]:=λ(n,_)=>((zm n:Fp),())
theorem se:bu au 134 [.int .u64] [.val .fp] cx (λ(n,_)=>jI n) Cx:=by refine bH (sp:=bw [vw,kg]) (aV (a2 qT) (aV (a2 gL) bY)) ao wx ae ae ?_;rintro w b ⟨n,⟨⟩⟩ _ a;refine av (X:=(True/\gw (enc (R2:Fp),[n,0,0,0,0,0],())/\Canon Mp (bp 6 (val (enc (R2:Fp))*val [n,0,0,0,0,0]*c9%M))/\(dec (bp 6 (val (enc (R2:Fp))*val [n,0,0,0,0,0]*c9%M)),())=Cx (n,()))) ab ?_;rw[show bp 6 (val (enc (R2:Fp))*val [n,0,0,0,0,0]*c9%M)=enc (zm (val [n,0,0,0,0,0]):Fp)from tw (M:=Mp)];refine⟨trivial,⟨gB _,?_,(dB _).2.2⟩,dB _,?_⟩;intro x hx;rcases mem_cons.1 hx with rfl|hx;exact a;simp at hx;subst hx;exact⟨ae,ae⟩;rw[fj];simp[val,Cx]
def vu:=aZ se
end
end fp
namespace fr
open Go.Proofs.Tryz
section
universe u
theorem Eb:aF au 54 f54:=ek
def n8(t:Nat)(g:Int×Fr):St:=ay f54.ntmps 56 [(0,al 0 0),(1,al 32 0),(t,sJ g.1)] [(32,[.row .fr 1 [g.2]]),(0,[.row .fr 1 [(0:Fr)]])]
def wU(x:Fr):Nat->Fr
 |0=>x
 |k+1=>wU x k*wU x k
theorem qT:bu au 54 [] [.val .fr] cx (λ_=>True) (λ_=>((R2:Fr),())):=by
 have a:aS au (bw [xx,lJ,ik]):=aV (a2 yj) (aV (a2 mK) (aV (a2 js) bY));refine cu (sp:=bw [xx,lJ,ik]) Eb ae ae ab ?_;rintro w d ⟨⟩ _ _;show Tr _ _ _ _ _ _ _;refine bN a ao 3 (n8 5 (0,1+1)) True ?_ (λ_=>?_);refine av (X:=True/\True/\True/\(n8 5 (0,1+1)).aj True) ab ⟨trivial,trivial,trivial,aw trivial⟩;refine il a ao (n8 5) (λk=>((k:Int),wU (1+1) k)) 8 (λg=>(IntKind.i64.wrap (g.1+1),g.2*g.2)) (n8 5) (c:=ar (aq f54) 3) ab ab (aB ab ab trivial)
  (λk b=>by show(_,_)=(_,_);rw[a5 aa];rfl) ?_ ?_
 intro k b;refine av (X:=((decide ((k:Int)<8)=true->True/\(n8 5 (IntKind.i64.wrap ((k:Int)+1),wU (1+1) k*wU (1+1) k)).aj (k<8))/\(decide ((k:Int)<8)=false->(n8 5 ((k:Int),wU (1+1) k)).aj (k=8)))) ab ?_;exact⟨λh=>⟨trivial,aw (by have:=cM h;omega)⟩,λh=>aw (by have:=cL h;omega)⟩;refine cq a ao _ _ ?_;refine av (X:=(wU (1+1) 8,())=((R2:Fr),())) ab ?_;rw[show wU (1+1) 8=R2 from Zm.ext ae]
def vw:=aZ qT
theorem wx:aF au 23 f23:=ek
abbrev Cx:HL [.int .u64]->HO [.val .fr]:=λ(n,_)=>((zm n:Fr),())
theorem se:bu au 23 [.int .u64] [.val .fr] cx (λ(n,_)=>jI n) Cx:=by refine bH (sp:=bw [vw,kg]) (aV (a2 qT) (aV (a2 gL) bY)) ao wx ae ae ?_;rintro w b ⟨n,⟨⟩⟩ _ a;refine av (X:=(True/\gw (enc (R2:Fr),[n,0,0,0],())/\Canon Mr (bp 4 (val (enc (R2:Fr))*val [n,0,0,0]*c9%M))/\(dec (bp 4 (val (enc (R2:Fr))*val [n,0,0,0]*c9%M)),())=Cx (n,()))) ab ?_;rw[show bp 4 (val (enc (R2:Fr))*val [n,0,0,0]*c9%M)=enc (zm (val [n,0,0,0]):Fr)from tw (M:=Mr)];refine⟨trivial,⟨gB _,?_,(dB _).2.2⟩,dB _,?_⟩;intro x hx;rcases mem_cons.1 hx with rfl|hx;exact a;simp at hx;subst hx;exact⟨ae,ae⟩;rw[fj];simp[val,Cx]
def vu:=aZ se
end
end fr
end Go.Proofs.YtofofalgjibokaaGreatDoor
namespace Cr
section
universe u
def Bs(l:LI):Prop:=∀x∈l,0<=x/\x<256
def num(l:LI):Int:=l.foldl (λa b=>a*256+b) 0
def b9:Nat->Int
 |0=>1
 |n+1=>256*b9 n
theorem lS(n:Nat):0<b9 n:=by
 induction n with
 |zero=>decide
 |succ n a=>simp only[b9];omega
theorem vl(m n:Nat):b9 (m+n)=b9 m*b9 n:=by
 induction m with
 |zero=>simp[b9]
 |succ m a=>rw[Nat.succ_add];simp only[b9,a,eM]
theorem yE(n:Nat):b9 (8*n)=pw n:=by
 induction n with
 |zero=>rfl
 |succ n a=>rw[zy,mo,vl,a];rfl
theorem yv(l:LI)(b:Int):num (l++[b])=num l*256+b:=by simp[num]
theorem XC(l:LI):∀a:Int,l.foldl (λa b=>a*256+b) a=a*b9 l.length+num l:=by
 induction l with
 |nil=>intro a;simp[num,b9]
 |cons b l c=>intro a;simp only[List.foldl_cons,cP,b9,num];rw[c,c (0*256+b)];simp only[sU,Int.zero_mul,Int.zero_add];rw[show a*256*b9 l.length=a*(256*b9 l.length)from eM _ _ _];omega
theorem Jd(l m:LI):num (l++m)=num l*b9 m.length+num m:=by show(l++m).foldl _ 0=_;rw[List.foldl_append,XC];rfl
theorem EL{l:LI}(h:Bs l):0<=num l/\num l<b9 l.length:=by
 induction l with
 |nil=>simp[num,b9]
 |cons b l f=>
  have c:=h b az;have j:=f (λx d=>h x (by simp[d]));have e:num (b::l)=b*b9 l.length+num l:=Jd [b] l▸by simp[num]
  rw[e,cP];simp only[b9];have a:=lS l.length;have g:=oX c.1 (fV a);have i:b*b9 l.length<=255*b9 l.length:=Dy aa (fV a);omega
theorem Fs{l:LI}(h:Bs l)(n:Nat):Bs (l.take n):=λx a=>h x (kJ a)
theorem AS{l:LI}(h:Bs l)(n:Nat):Bs (l.drop n):=λx a=>h x (DK a)
theorem Nf{l:LI}{k:Nat}(h:k<l.length):num (l.take (k+1))=num (l.take k)*256+l.getD k 0:=by rw[dA h,yv];congr 1;simp[h]
theorem af1:∀(n j:Nat)(A d:Int),j<n->0<=d->(bp n A).getD j 0+d<18446744073709551616 ->
  (bp n A).set j ((bp n A).getD j 0+d)=bp n (A+d*pw j):=by
 intro n;induction n with
 |zero=>intro j A d h;omega
 |succ n g=>
  intro j A d i f a;cases j with
  |zero=>simp only[bp,zg,qF,pw,nk]at a⊢;have b:(A+d)%18446744073709551616=A%18446744073709551616+d:=aa;have c:(A+d)/18446744073709551616=A/18446744073709551616:=aa;rw[b,c]
  |succ j=>
   simp only[bp,List.getD_cons_succ,List.set_cons_succ,pw]at a⊢;rw[g j _ d aa f a];have e:d*(18446744073709551616*pw j)=18446744073709551616*(d*pw j):=by rw[zo]
   have b:(A+18446744073709551616*(d*pw j))%18446744073709551616=A%18446744073709551616:=aa;have c:(A+18446744073709551616*(d*pw j))/18446744073709551616=A/18446744073709551616+d*pw j:=aa;rw[e,b,c]
theorem xI:∀(n j:Nat)(A:Int),j<n->(bp n A).getD j 0=A/pw j%18446744073709551616:=by
 intro n;induction n with
 |zero=>intro j A h;omega
 |succ n a=>
  intro j A b;cases j with
  |zero=>simp[bp,pw]
  |succ j=>simp only[bp,List.getD_cons_succ,pw];rw[a j _ aa,pf ae]
theorem yF(n:Nat):b9 n=((2^(8*n):Nat):Int):=by
 induction n with
 |zero=>rfl
 |succ n a=>rw[b9,a,zy,Nat.pow_add];simp;omega
theorem LF(N:Int)(q:Nat):(N*b9 (q+1))/pw (q/8)%18446744073709551616=N*b9 (q%8+1)%18446744073709551616:=by
 have e:N*b9 (q+1)=N*b9 (q%8+1)*pw (q/8):=by rw[<-yE,eM,<-vl];congr 2;omega
 rw[e,Int.mul_ediv_cancel _ (by have:=yI (q/8);omega)]
theorem PU{m:Nat}(h:m<=8):∃c:Int,(18446744073709551616:Int)=c*b9 m/\0<c:=by refine⟨b9 (8-m),?_,lS _⟩;rw[<-vl,Nat.sub_add_cancel h];rfl
theorem agi{N v:Int}{q:Nat}(d:0<=v)(k:v<256)(l:q<8):
  ∃c:Nat,N*b9 (q+1)%18446744073709551616=((c*2^(8*(q+1)):Nat):Int)/\v*b9 q<b9 (q+1)/\0<=v*b9 q/\N*b9 (q+1)%18446744073709551616+v*b9 q<18446744073709551616:=by
 obtain⟨c,h,a⟩:=PU (m:=q+1) aa;have i:=lS (q+1);have e:N*b9 (q+1)%18446744073709551616=(N%c)*b9 (q+1):=by rw[h,jk N,jk c,Int.mul_emod_mul_of_pos _ _ i,jk]
 have b:=sN N (show c≠0 by omega);have j:=vS N a;have f:v*b9 q<b9 (q+1):=by show _<256*b9 q;exact Int.mul_lt_mul_of_pos_right k (lS q)
 have g:0<=v*b9 q:=oX d (fV (lS q));refine⟨(N%c).toNat,?_,f,g,?_⟩;rw[e,yF];rw[zr,DM b]
 ·rw[e,h];have:(N%c)*b9 (q+1)+b9 (q+1)<=c*b9 (q+1):=by
   have:=Dy (show N%c+1<=c by omega) (fV i);rw[sU,Int.one_mul]at this;exact this
  omega
def eE(n:Nat)(N:Int):LI:=(range n).map λi=>N/b9 (n-1-i)%256
theorem ja(n:Nat)(N:Int):(eE n N).length=n:=by simp[eE]
theorem zB(n:Nat)(N:Int):Bs (eE n N):=by intro x a;simp[eE]at a;obtain⟨i,_,rfl⟩:=a;omega
theorem Cu(n:Nat):∀N:Int,0<=N->N<b9 n->num (eE n N)=N:=by
 induction n with
 |zero=>intro N c a;simp[b9]at a;simp[eE,num];omega
 |succ n d=>
  intro N c a;have e:eE (n+1) N=eE n (N/256)++[N%256]:=by unfold eE;rw[qK,cE];congr 1;apply qE;intro i b;have b:=mem_range.1 b;rw[show n+1-1-i=(n-1-i)+1 by omega];rw[show b9 (n-1-i+1)=256*b9 (n-1-i)from rfl,<-pf ae];simp[b9]
  rw[e,yv,d (N/256) aa (by simp only[b9]at a;omega)];omega
theorem aeS{n:Nat}{N:Int}{i:Nat}(h:i<8*n):((bp n N).getD (n-1-i/8) 0)/b9 (7-i%8)%256=N/b9 (8*n-1-i)%256:=by
 rw[xI _ _ _ aa];obtain⟨c,e,f⟩:=PU (m:=7-i%8+1) aa;have a:b9 (8*n-1-i)=pw (n-1-i/8)*b9 (7-i%8):=by rw[<-yE,<-vl];congr 1;omega
 rw[a,<-pf (fV (yI _))];generalize N/pw (n-1-i/8)=A;have g:=lS (7-i%8);rw[e,show b9 (7-i%8+1)=256*b9 (7-i%8)from rfl];generalize b9 (7-i%8)=P at *;have b:A%(c*(256*P))=A%(P*(256*c)):=by congr 1;rw[jk c,jk 256 P,eM]
 rw[b];have d:A%(P*(256*c))/P=(A/P)%(256*c):=by rw[wh,wh,eM,<-Int.sub_mul_ediv_left _ _ (show P≠0 by omega),<-pf (fV g)]
 rw[d,DL _ ⟨c,rfl⟩]
end
end Cr
namespace Go.Eng
open Go.IntKind(i64 u64 u8)
section
universe u
theorem wrap_u8(a:Int):u8.wrap a=a%256:=by simp[IntKind.wrap,IntKind.signed,IntKind.bits]
theorem Ar(a:Int):u64.wrap a=a%18446744073709551616:=by simp[IntKind.wrap,IntKind.signed,IntKind.bits]
def wk(n i:Int):Int:=i64.wrap (i64.wrap (n-1)-i)
def wj(n i:Int):Int:=i64.wrap ((wk n i).tdiv 8)
def Um(n i:Int):Int:=i64.wrap (8*(wk n i).tmod 8)
def LG(ws:LI)(n i v:Int):LI:=
 ws.set (wj n i).toNat (aN .or .u64 (ws.getD (wj n i).toNat 0) (u64.wrap (u64.wrap v*2^(min (Um n i).toNat u64.bits))))
theorem aeG{len k:Nat}(h:k<len)(b:len<1000000):wk len k=((len-1-k:Nat):Int):=by unfold wk;rw[bC (a:=(len:Int)-1) aa aa,bC aa aa];omega
theorem aeF{len k:Nat}(h:k<len)(a:len<1000000):wj len k=(((len-1-k)/8:Nat):Int):=by unfold wj;rw[aeG h a,uR aa,bC aa aa];omega
theorem ZK{len k:Nat}(h:k<len)(a:len<1000000):Um len k=((8*((len-1-k)%8):Nat):Int):=by unfold Um;rw[aeG h a,pb aa,bC aa aa];omega
theorem ajA(c t y:Nat)(h:y<2^t)(e:c*2^t+y<18446744073709551616):aN .or .u64 ((c*2^t:Nat):Int) (y:Int)=((c*2^t+y:Nat):Int):=by
 show u64.wrap ((BitVec.ofInt 64 ((c*2^t:Nat):Int) ||| BitVec.ofInt 64 (y:Int):BitVec 64).toNat:Int)=_;have b:(BitVec.ofInt 64 ((c*2^t:Nat):Int)).toNat=c*2^t:=by rw[show BitVec.ofInt 64 ((c*2^t:Nat):Int)=BitVec.ofNat 64 (c*2^t)from vQ ..,sL,jQ aa]
 have d:(BitVec.ofInt 64 (y:Int)).toNat=y:=by rw[show BitVec.ofInt 64 (y:Int)=BitVec.ofNat 64 y from vQ ..,sL,jQ aa]
 rw[BitVec.toNat_or,b,d];have a:=Nat.shiftLeft_add_eq_or_of_lt h c;rw[Nat.shiftLeft_eq]at a;rw[<-a,Ar];omega
theorem Uh{n:Nat}{a:LI}(m:Bs a)(x:a.length<=8*n)(o:a.length<1000000){k:Nat}(f:k<a.length):
  LG (bp n (num (a.take k)*b9 (a.length-k))) a.length k (a.getD k 0)=bp n (num (a.take (k+1))*b9 (a.length-(k+1))):=by
 unfold LG;rw[aeF f o,ZK f o];simp only[aJ];have j:0<=a.getD k 0/\a.getD k 0<256:=by have:=m (a.getD k 0) (by simp[f]);exact this
 rw[Nf f];generalize z:a.length-1-k=q at *;generalize a.getD k 0=v at *;have w:=(EL (Fs m k)).1;have r:a.length-k=q+1:=aa;have s:a.length-(k+1)=q:=aa;rw[r,s];generalize num (a.take k)=N at *;have d:q/8<n:=aa;rw[xI _ _ _ d,LF];obtain⟨c,t,u,g,l⟩:=agi (N:=N) (v:=v) (q:=q%8) j.1 j.2 aa;have i:u64.wrap (u64.wrap v*2^min (8*(q%8)) u64.bits)=v*b9 (q%8):=by rw[show u64.bits=64 from rfl,jR aa,Ar v,ei j.1 aa,yF,Ar];have e:((2^(8*(q%8)):Nat):Int)=(2:Int)^(8*(q%8)):=az;rw[<-e,<-yF];exact ei g (by have:=sN (N*b9 (q%8+1)) (show(18446744073709551616:Int)≠0 by decide);omega)
 rw[i];have h:aN .or .u64 (N*b9 (q%8+1)%18446744073709551616) (v*b9 (q%8))=N*b9 (q%8+1)%18446744073709551616+v*b9 (q%8):=by obtain⟨y,p⟩:=lN g;rw[t,p]at l⊢;rw[p,yF]at u;have:=ajA c (8*(q%8+1)) y aa aa;rw[this];omega
 rw[h];have b:=af1 n (q/8) (N*b9 (q+1)) (v*b9 (q%8)) d g (by rw[xI _ _ _ d,LF];exact l);rw[xI _ _ _ d,LF]at b;rw[b];congr 1;rw[sU,eM,eM,<-yE,<-vl];rw[show q%8+8*(q/8)=q by omega];rfl
theorem Ug{n:Nat}{a:LI}(e:a.length<=8*n)(d:a.length<1000000){k:Nat}(b:k<a.length):
  (0<=wj a.length k/\wj a.length k<(n:Int))/\(wj a.length k).toNat<n/\0<=Um a.length k:=by
 rw[aeF b d,ZK b d];exact⟨⟨aa,aa⟩,aa,aa⟩
theorem J3(n:Nat)(a:LI):bp n (num (a.take 0)*b9 (a.length-0))=replicate n 0:=by rw[show num (a.take 0)=0 from rfl,Int.zero_mul,Pb]
def bj(n i:Int):Int:=i64.wrap (n-i64.wrap (i.tdiv 8))
def RX(i:Int):Int:=i64.wrap (56-i64.wrap (8*i.tmod 8))
def Km(n:Int)(ws:LI)(i:Int):Int:=u8.wrap (Int.fdiv (ws.getD (bj n i).toNat 0) (2^min (RX i).toNat u64.bits))
theorem ado{n k:Nat}(h:k<8*(n+1))(b:n<1000):bj n k=((n-k/8:Nat):Int):=by unfold bj;rw[uR aa,bC (a:=(k:Int)/8) aa aa,bC aa aa];omega
theorem WD{k:Nat}:RX k=((8*(7-k%8):Nat):Int):=by unfold RX;rw[pb aa,bC (a:=8*((k:Int)%8)) aa aa,bC aa aa];omega
theorem RW{n k:Nat}{N:Int}(h:k<8*(n+1))(a:n<1000):Km n (bp (n+1) N) k=N/b9 (8*(n+1)-1-k)%256:=by
 unfold Km;rw[ado h a,WD,wrap_u8];simp only[aJ];rw[show u64.bits=64 from rfl,jR aa];have e:(2:Int)^(8*(7-k%8))=b9 (7-k%8):=by rw[yF];simp
 rw[e,uQ _ (fV (lS _))];have:=aeS (n:=n+1) (N:=N) (i:=k) h;rw[show n+1-1-k/8=n-k/8 by omega]at this;exact this
theorem RV{n k:Nat}(h:k<8*(n+1))(a:n<1000):(0<=bj n k/\bj n k<((n+1:Nat):Int))/\(bj n k).toNat<n+1/\0<=RX k:=by rw[ado h a,WD];exact⟨⟨aa,aa⟩,aa,aa⟩
def kO(m:Nat)(N:Int)(k:Nat):LI:=(eE m N).take k++replicate (m-k) 0
theorem DY(m:Nat)(N:Int):kO m N 0=replicate m 0:=by simp[kO]
theorem Gh(m:Nat)(N:Int):kO m N m=eE m N:=by simp[kO,cA,ja]
theorem DX{m:Nat}{N:Int}{k:Nat}(h:k<m):(kO m N k).set k (N/b9 (m-1-k)%256)=kO m N (k+1):=by
 unfold kO;have a:((eE m N).take k).length=k:=by simp[ja];omega
 rw[sj _ _ aa,a,qL];rw[show m-k=(m-(k+1))+1 by omega,qO,qF];rw[dA (by rw[ja];exact h)];simp[eE]
