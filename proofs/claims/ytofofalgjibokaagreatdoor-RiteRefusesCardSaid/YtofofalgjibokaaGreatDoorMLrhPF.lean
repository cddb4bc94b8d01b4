import Derived.Ground.Names2Prog
import Derived.Shelf.Slices.CompactI
import Derived.Shelf.SlGeneric
import Derived.Shelf.Spec.SlicesGrow
import Derived.LaidLaws
import Derived.LaidHandle
import Derived.LaidMore
import Derived.MakeChecks
import Derived.OpenShut
import Derived.Test.YtofofalgjibokaaGreatDoorMLrhPE
set_option maxRecDepth 100000
noncomputable section
open Go Go.Eng Go.RowKit Cr
open List(drop length mem_cons mem_map range replicate take)
open Nat(beq ble blt)
open Int(toNat)
namespace Go.Proofs.YtofofalgjibokaaGreatDoor
namespace law23
open law14
open Go.IntKind(i64 u8)
theorem Vs:enters Tryz.prog 9 Tryz.f9:=ek
def OL (b:List Int) (a n:Int) (g:Int × Nat × List Fr):St:=ar Tryz.f9.ntmps 32 [(0,.is (.one (.ro (.int .u8) b))),(1,sI .i64 a),(2,sI .i64 n),(7,.is (.one (.sl 8 0 0 g.2.1 4))),(8,sI .i64 g.1)] [(8,[.row .fr g.2.1 g.2.2])]
def mdE (b:List Int) (a:Int) (i:Nat):Fr:=scw (b++[u8.wrap a,u8.wrap (i:Int),78])
def fQ (b:List Int) (d:Int) (n:Nat):List Fr:=(range n).map (mdE b d)
abbrev zU:HL [DH,.int .i64,.int .i64]->Prop:=fun (b,_,n,_)=>(Bs b/\length b<=1000)/\0<=(n:Int)/\(n:Int)<=1000
abbrev zQ:HL [DH,.int .i64,.int .i64]->HO [.own .fr]:=fun (b,a,n,_)=>(fQ b a (n:Int).toNat,())
def maJ (b:List Int) (a n:Int) (g:Int × Nat × List Fr):Prop:=g.2.1<=n.toNat/\g.1=(g.2.1:Int)/\g.2.2=fQ b a g.2.1
theorem Z5:aL Tryz.prog 9 [DH,.int .i64,.int .i64] [.own .fr] bx zU zQ:=by
 have e:aD Tryz.prog (aP [ref01.Uh,fr.Us]):=(aJ (aM ref01.ZW) (aJ (aM fr.aae) bp));refine bI (sp:=aP [ref01.Uh,fr.Us]) Vs ae ae ab ?_;rintro w G ⟨b,a,n,⟨⟩⟩;revert b a n;intro (b:List Int) (a:Int) (n:Int) _ F;obtain⟨⟨C,r⟩,f,t⟩:=F;have r:b.length<=1000:=r;have f:0<=n:=f;have t:n<=1000:=t;show Tr _ _ _ _ _ _ _;refine bd e mixed 3 (OL b a n (0,0,[])) True ?_ (fun _=>?_);refine al (X:=((OL b a n (0,0,[])).ag True)) ab ?_;exact ao trivial;refine cd e mixed (fun d=>[(8,Mg 7 d)]) (fun d=>(bg (.int .i64) 8 d,ou 7 d,cU .fr 8 d)) (OL b a n) (maJ b a n) (fun g=>n.toNat-g.1.toNat)
  (fun d=>(bg (.int .i64) 8 d,ou 7 d,cU .fr 8 d)) (OL b a n) (fun g=>g.2.1=n.toNat/\g.2.2=fQ b a n.toNat) (0,0,[]) (c:=aq (ak Tryz.f9) 3) ab ab (aw ab ab ?_) ?_ ?_
 exact⟨a2 _,rfl,rfl⟩
 ·rintro⟨i,m,l⟩ D;revert i l;intro (i:Int) (l:List Fr) ⟨s,o,z⟩;have o:i=(m:Int):=o;have kl:l=fQ b a m:=z;have s:m<=n.toNat:=s;subst o;have E:l.length=m:=by rw[kl,fQ];simp
  refine @al ((decide ((m:Int)<n)=true->ref01.H8 (b,())/\0+3<=3/\b.length<=b.length/\(b.length+3)*1<=140737488355328/\b.length+3<=4611686018427387904/\0+(b.length+3)<=b.length+3/\fr.Ia (take (b.length+3) (take b.length b++take 3 [u8.wrap a,u8.wrap (m:Int),78]),())/\0+1<=1/\m<=m/\(m+1)*32<=140737488355328/\m+1<=4611686018427387904/\(OL b a n (i64.wrap ((m:Int)+1),m+1,take m l++take 1 [jj (num (take (b.length+3) (take b.length b++take 3 [u8.wrap a,u8.wrap (m:Int),78])))])).ag (maJ b a n (i64.wrap ((m:Int)+1),m+1,take m l++take 1 [jj (num (take (b.length+3) (take b.length b++take 3 [u8.wrap a,u8.wrap (m:Int),78])))])/\n.toNat-(i64.wrap ((m:Int)+1)).toNat<n.toNat-(m:Int).toNat))/\(decide ((m:Int)<n)=false->(OL b a n ((m:Int),m,l)).ag (m=n.toNat/\l=fQ b a n.toNat))) _ ?_ ?_;kernel_rfl;have y:take 3 [u8.wrap a,u8.wrap (m:Int),(78:Int)]=[u8.wrap a,u8.wrap (m:Int),(78:Int)]:=rfl;have A:take (b.length+3) (b++[u8.wrap a,u8.wrap (m:Int),(78:Int)])=b++[u8.wrap a,u8.wrap (m:Int),(78:Int)]:=bQ au;rw[y,aV,A,aS aa];have u:∀ x:Int,0<=u8.wrap x/\u8.wrap x<256:=fun x=>by simp only[IntKind.wrap,IntKind.signed,IntKind.bits];simp;omega
  have p:Bs (b++[u8.wrap a,u8.wrap (m:Int),(78:Int)]):=by intro x k;simp only[lu,tL,List.not_mem_nil,or_false] at k;rcases k with k|rfl|rfl|rfl;exact C x k;exact u _;exact u _;decide
  refine⟨fun h=>⟨by show b.length<=_;omega,ae,aa,aa,aa,aa,⟨p,by simp;omega⟩,ae,aa,aa,aa,ao ⟨⟨?_,rfl,?_⟩,?_⟩⟩,fun h=>ao ?_⟩;have:=Odt h;show m+1<=n.toNat;omega;show take m l++[zm (num _)]=fQ b a (m+1);rw[bQ aa,kl,fQ,fQ,qD,de];congr 1;show _=[mdE b a m];rw[mdE,scw,bf];have:=Odt h;rw[aB];omega
  ·have:m=n.toNat:=by have:=Odf h;omega
   exact⟨this,by rw[<- this];exact kl⟩
 rintro⟨i,m,l⟩ D;revert i l;intro (i:Int) (l:List Fr) ⟨q,j⟩;have q:m=n.toNat:=q;have j:l=fQ b a n.toNat:=j;refine bE e mixed _ _ ?_;refine @al (0+m<=m/\(take m l,())=zQ (b,a,n,())) _ ?_ ?_;kernel_rfl;refine⟨aa,?_⟩;show _=(fQ b a n.toNat,());rw[bQ (by rw[j,fQ];simp;omega),j]
theorem VE:enters Tryz.prog 7 Tryz.f7:=ek
def Y6 (n:Int) (g:Int × Nat × List Int):St:=ar Tryz.f7.ntmps 32 [(0,sI .i64 n),(3,.is (.one (.sl 8 0 0 g.2.1 1))),(4,sI .i64 g.1)] [(8,[.ints .i64 g.2.1 g.2.2])]
def eO (n:Nat):List Int:=(range n).map fun i:Nat=>(i:Int)+1
theorem XA (n:Nat):eO (n+1)=eO n++[(n:Int)+1]:=by rw[eO,qD,de];rfl
theorem rj (n:Nat):(eO n).length=n:=by simp[eO]
def upJ (n:Int) (g:Int × Nat × List Int):Prop:=g.2.1<=n.toNat/\g.1=(g.2.1:Int)+1/\g.2.2=eO g.2.1
theorem aad:aL Tryz.prog 7 [.int .i64] [.own (.int .i64)] bx (fun (n,_)=>0<=(n:Int)/\(n:Int)<=1000) (fun (n,_)=>(eO (n:Int).toNat,())):=by
 have b:aD Tryz.prog (aP []):=bp;refine bI (sp:=aP []) VE ae ae ab ?_;rintro w s ⟨n,⟨⟩⟩;revert n;intro (n:Int) _ ⟨d,q⟩;have d:0<=n:=d;have q:n<=1000:=q;show Tr _ _ _ _ _ _ _;refine bd b mixed 3 (Y6 n (1,0,[])) True ?_ (fun _=>?_);refine al (X:=((Y6 n (1,0,[])).ag True)) ab ?_;exact ao trivial;refine cd b mixed (fun a=>[(8,Mg 3 a)]) (fun a=>(bg (.int .i64) 4 a,ou 3 a,cU (.int .i64) 8 a)) (Y6 n) (upJ n) (fun g=>n.toNat+1-g.1.toNat)
  (fun a=>(ou 3 a,cU (.int .i64) 8 a)) (fun g=>ar Tryz.f7.ntmps 32 [(3,.is (.one (.sl 8 0 0 g.1 1)))] [(8,[.ints .i64 g.1 g.2])]) (fun g=>g.1=n.toNat/\g.2=eO n.toNat) (1,0,[]) (c:=aq (ak Tryz.f7) 3) ab ab (aw ab ab ?_) ?_ ?_
 exact⟨a2 _,rfl,rfl⟩
 ·rintro⟨i,m,l⟩ r;revert i l;intro (i:Int) (l:List Int) ⟨p,f,o⟩;have f:i=(m:Int)+1:=f;have kl:l=eO m:=o;have p:m<=n.toNat:=p;clear o;subst f;have k:l.length=m:=by rw[kl,rj]
  refine @al ((decide ((m:Int)+1<=n)=true->0+1<=1/\m<=m/\(m+1)*8<=140737488355328/\m+1<=4611686018427387904/\(Y6 n (i64.wrap ((m:Int)+(1:Int)+1),m+1,take m l++take 1 [(m:Int)+1])).ag (upJ n (i64.wrap ((m:Int)+(1:Int)+1),m+1,take m l++take 1 [(m:Int)+1])/\n.toNat+1-(i64.wrap ((m:Int)+(1:Int)+1)).toNat<n.toNat+1-((m:Int)+1).toNat))/\(decide ((m:Int)+1<=n)=false->(ar Tryz.f7.ntmps 32 [(3,SV.is (TV.one (Cell.sl 8 0 0 (m,l).fst 1)))] [(8,[Cell.ints i64 (m,l).fst (m,l).snd])]).ag (m=n.toNat/\l=eO n.toNat))) _ ?_ ?_;kernel_rfl;rw[ba aa aa];refine⟨fun h=>⟨ae,aa,aa,aa,ao ⟨⟨?_,?_,?_⟩,?_⟩⟩,fun h=>ao ?_⟩;have:=Odt h;show m+1<=n.toNat;omega;show (m:Int)+1+1=((m+1:Nat):Int)+1;omega;show take m l++[(m:Int)+1]=eO (m+1);rw[bQ aa,kl,XA];have:=Odt h;omega
  ·have:m=n.toNat:=by have:=Odf h;omega
   exact⟨this,by rw[<- this];exact kl⟩
 rintro⟨m,l⟩ r;revert l;intro (l:List Int) ⟨j,e⟩;have j:m=n.toNat:=j;have e:l=eO n.toNat:=e;have k:l.length=m:=by rw[e,rj,j]
 refine bE b mixed _ _ ?_;refine @al (0+m<=m/\(take m l,())=(eO n.toNat,())) _ ?_ ?_;kernel_rfl;refine⟨aa,?_⟩;rw[bQ aa,e]
end law23
namespace rite
open Go.IntKind(i64 u8)
set_option maxHeartbeats 4000000
open hub deal
open Go.Hbn(Talk a5 eF)
open law23(eO rj)
structure Lone where
 me:Int
 mem:List Int
 need:Int
 aY:List Fr
 start:Int
 span:Int
structure Lone.Ok (L:Lone):Prop where
 n1:1<=L.mem.length
 n4:L.mem.length<=4
 mm:L.me∈L.mem
 rng:∀ x∈L.mem,1<=x/\x<=9
 k1:1<=L.need
 kn:L.need<=L.mem.length
 len:(L.aY.length:Int)=L.need
 s0:0<=L.start
 s1:L.start<=1099511627776
 p1:1<=L.span
 p2:L.span<=1048576
theorem Iy {n:Nat} {x:Int}:x∈eO n↔1<=x/\x<=n:=by unfold eO;rw[mem_map];constructor;rintro⟨i,a,rfl⟩;have:=List.mem_range.1 a;omega;rintro⟨b,c⟩;exact⟨(x-1).toNat,List.mem_range.2 aa,aa⟩
theorem Lone.Ok.mem {L:Lone} (h:L.Ok):L.me∈L.mem:=h.mm
def bF (L:Lone) (k:Nat) (p hub:Nat):Rt :=
 ⟨p,L.me,L.mem,L.mem,L.need,[],L.aY,L.start,L.span,(k:Int),hub,
  if L.mem.length=1/\1<=k then [(L.me,poly.cn L.aY)] else [],if L.mem.length=1/\2<=k then [(L.me,[0])] else [],[],if 1<=k then [L.me] else [],if 1<=k then [poly.pat L.aY L.me] else [],0⟩
structure Stg (L:Lone) (k p:Nat) (t:fB):Prop where
 R:∃ hub,t.z.R=bF L k p hub
 me:t.z.H.me=L.me
 mem:t.z.H.mem=L.mem
 top:∀ x∈t.z.H.talks,x.bD<=k
 fin:t.fin=decide (k=4)
def nw (L:Lone) (k:Nat):List Int:=if k=0 then law22.cL (poly.cn L.aY) else if k=1/\L.mem.length≠1 then L.mem.map IntKind.u8.wrap else [0]
def QP (L:Lone) (k:Nat):List Hbm.aC:=[(1,0,L.me,L.me,(k:Int)+1,0,nw L k),(2,0,L.me,L.me,(k:Int)+1,0,nw L k)]++if L.mem.length=1 then [(3,0,L.me,L.me,(k:Int)+1,0,nw L k)] else []
def Ly (L:Lone) (k:Nat):List (Int × Hbm.aC):=if k=0 then cm (bF L 0 0 0) L.mem++dN (QP L 0) else if k<3 then dN (QP L k) else []
def JZ (L:Lone):Nat->List (Int × Hbm.aC)
 | 0=>[]
 | k+1=>JZ L k++Ly L k
theorem E1 {z:SayIn} {L:Lone} (l:L.Ok) {k:Nat} (o:k<3) (e:z.H.me=L.me) (f:z.H.mem=L.mem) (j:∀ x∈z.H.talks,x.bD<=k) (d:z.tp=(k:Int)+1) (g:eC z.b=nw L k) (m:(nw L k).length<=4096) (q:Nat × Nat × Nat) :
  ia z q=QP L k/\pF z q=(if L.mem.length=1 then eN z.R ((k:Int)+1,L.me,nw L k) else z.R)/\(qt z q).me=L.me/\(qt z q).mem=L.mem/\∀ x∈(qt z q).talks,x.bD<=((k+1:Nat):Int):=by
 have n:z.H.me∈z.H.mem:=by rw[e,f];exact l.mem
 have h:z.H.mem.length=L.mem.length:=by rw[f]
 have i:=l.n4;have a:=Hbn.alone (H:=z.H) (tp:=z.tp) (b:=eC z.b) n (by rw[d];omega) (by rw[g];exact m) (fun x hx c=>by have:=j x hx;rw[c.1,d] at this;omega) (by rw[h];exact i) q;unfold ia pF qt;rw[a];refine⟨?_,?_,e,f,?_⟩;show Hbn.Ks z.H z.tp (eC z.b)=_;unfold Hbn.Ks QP;rw[e,d,g,h];show iR z.R (Hbn.Kr z.H z.tp (eC z.b))=_;unfold Hbn.Kr;rw[e,d,g,h];split;rfl;rfl
 ·intro x hx;have hx:x∈z.H.talks++[Hbn.Hn z.H z.tp (eC z.b) q]:=hx;rcases List.mem_append.1 hx with hx|hx;have:=j x hx;omega
  ·rw[gk] at hx;subst hx;have:(Hbn.Hn z.H z.tp (eC z.b) q).bD=z.tp:=by unfold Hbn.Hn;split<;>rfl
   rw[this,d];omega
theorem aew {d:List Int} {b:Int} {e:Int} {a:List Pt} (f:∀ p∈a,g1.Sub p) (c:e∈d) (h:((a.length:Nat):Int)=b):m5 d b [] e (law22.cL a)=(a,0):=by rw[m5,bf,law22.cL,bf];have g:(kf a).length=48*a.length:=DD a;rw[o8,aj c,aj ⟨aa,aa⟩,show (kf a).length/48=a.length by omega,acj f,aj rfl,aj (.inl rfl),afQ f]
theorem Zr (p:List Fr):∀ x∈poly.cn p,g1.Sub x:=by intro x a;obtain⟨c,_,rfl⟩:=mem_map.1 a;exact g1.nE g1.mu c
theorem Hx (x:Int) (c:List Pt):ib [(x,c)] x=0:=by rw[ib,bf,du];simp[Bk]
theorem N5 (x:Int):ib [] x=-1:=by rw[ib,bf,du];simp
theorem Em (x:Int) (c:List Pt):cO [(x,c)] x=c:=by rw[cO,Hx];rfl
theorem aaB (x:Int):iu [x] x=0:=by rw[iu,bf,law22.vG];simp
theorem Lone.Ok.one {L:Lone} (h:L.Ok) (e:L.mem.length=1):L.mem=[L.me]/\L.need=1/\L.me≠0:=by
 have g:=h.k1;have j:=h.kn;have n:=h.rng _ h.mm;refine⟨?_,aa,aa⟩;have d:=h.mm;match f:L.mem,e with
 | [x],_=>rw[f] at d;rw[List.mem_singleton.1 d]
theorem JA {L:Lone} (h:L.Ok) (i:L.mem.length=1) {R:Rt} (a:R.deals=[(L.me,poly.cn L.aY)]) (b:R.aW=[L.me]) (c:R.shares=[poly.pat L.aY L.me]) (d:R.me=L.me):cb R L.me=(poly.pat L.aY L.me,true):=by
 have g:fh L.me:=by have:=h.rng _ h.mm;exact⟨aa,aa⟩
 have f:law22.sh (poly.cn L.aY) L.me (poly.pat L.aY L.me)=true:=by rw[law22.sh,bf,poly.ZV g];simp
 unfold cb;rw[a,b,c,d,Hx,aaB,Em];rw[ah ae];have e:(List.getD [poly.pat L.aY L.me] (0:Int).toNat 0)=poly.pat L.aY L.me:=rfl;rw[e,f];rfl
theorem Rz {R:Rt} (a:R.deals=[]) (d:Int):cb R d=(0,false):=by unfold cb;rw[a,N5,aj ae]
theorem ED {L:Lone} (h:L.Ok) (k:Nat):(nw L k).length<=4096:=by unfold nw;have:=h.len;have:=h.kn;have:=h.n4;split;rw[DE,pr];omega;split;rw[bU];omega;decide
theorem Tl {L:Lone} (h:L.Ok) {k:Nat} (Z:k<4) {p:Nat} {t:fB} (Q:Stg L k p t) (q:Nat × Nat × Nat):Stg L (k+1) p (dm t q).1/\(dm t q).2=Ly L k:=by
 obtain⟨⟨R,H⟩,f⟩:=t;obtain⟨⟨hub,E⟩,l,g,i,G⟩:=Q;have E:R=bF L k p hub:=E;have l:H.me=L.me:=l;have g:H.mem=L.mem:=g;have i:∀ x∈H.talks,x.bD<=(k:Int):=i;have j:=h.mem;subst E;have A:(bF L k p hub).phase=(k:Int):=rfl;have K:k=0\/k=1\/k=2\/k=3:=aa;rcases K with rfl|rfl|rfl|rfl
 ·have e:dm ⟨⟨bF L 0 p hub,H⟩,f⟩ q=(⟨kY ⟨aU (bF L 0 p hub) 1,H⟩ q,false⟩,dX ⟨aU (bF L 0 p hub) 1,H⟩ q):=by unfold dm;exact aj rfl
  have m:kY ⟨aU (bF L 0 p hub) 1,H⟩ q=⟨pF (oe ⟨aU (bF L 0 p hub) 1,H⟩) q,qt (oe ⟨aU (bF L 0 p hub) 1,H⟩) q⟩:=aj j;have n:dX ⟨aU (bF L 0 p hub) 1,H⟩ q=cm (aU (bF L 0 p hub) 1) L.mem++dN (ia (oe ⟨aU (bF L 0 p hub) 1,H⟩) q):=aj j;rw[e,m,n];have o:eC (oe ⟨aU (bF L 0 p hub) 1,H⟩).b=nw L 0:=by show eC (law22.cL (poly.cn L.aY))=law22.cL (poly.cn L.aY);unfold eC;rw[ah];intro c;have:=congrArg length c;rw[DE,pr] at this;have a:=h.len;have Y:=h.k1;have C:([]:List Int).length=0:=rfl;rw[C] at this;omega
  obtain⟨r,s,u,w,y⟩:=E1 (z:=oe ⟨aU (bF L 0 p hub) 1,H⟩) h (k:=0) ae l g i rfl o (ED h 0) q;have ek:dj (aU (bF L 0 p hub) 1) L.mem=⟨p,L.me,L.mem,L.mem,L.need,[],L.aY,L.start,L.span,1,hub,[],[],[],[L.me],[poly.pat L.aY L.me],0⟩:=by have W:dj (aU (bF L 0 p hub) 1) L.mem=eY (aU (bF L 0 p hub) 1) L.me (poly.pat L.aY L.me):=aj j;have X:eY (aU (bF L 0 p hub) 1) L.me (poly.pat L.aY L.me)={ aU (bF L 0 p hub) 1 with aW:=(aU (bF L 0 p hub) 1).aW++[L.me],shares:=(aU (bF L 0 p hub) 1).shares++[poly.pat L.aY L.me] }:=ah (by simp[aU,bF]);rw[W,X];simp[aU,bF]
  refine⟨⟨⟨hub,?_⟩,u,w,y,rfl⟩,?_⟩;refine s.trans ?_;show (if L.mem.length=1 then eN (dj (aU (bF L 0 p hub) 1) L.mem) _ else (dj (aU (bF L 0 p hub) 1) L.mem))=_;rw[ek];by_cases a:L.mem.length=1;rw[aj a];refine (aj (show ((0:Nat):Int)+1=1 from rfl)).trans ?_;have I:m5 L.mem L.need [] L.me (nw L 0)=(poly.cn L.aY,0):=aew (Zr _) j (by rw[pr];exact h.len);show (if (m5 L.mem L.need [] L.me (nw L 0)).2=0 then _ else _)=_;rw[I,aj rfl];unfold bF;simp[a];rw[ah a];unfold bF;simp[a];show cm (aU (bF L 0 p hub) 1) L.mem++dN (ia (oe ⟨aU (bF L 0 p hub) 1,H⟩) q)=Ly L 0;rw[r];rfl
 ·have e:dm ⟨⟨bF L 1 p hub,H⟩,f⟩ q=(⟨nk ⟨aU (bF L 1 p hub) 2,H⟩ q,false⟩,eP ⟨aU (bF L 1 p hub) 2,H⟩ q):=by
   unfold dm;exact (ah (show ¬ (((1:Nat):Int)=0) by decide)).trans (aj rfl)
  have m:nk ⟨aU (bF L 1 p hub) 2,H⟩ q=⟨pF (rr ⟨aU (bF L 1 p hub) 2,H⟩) q,qt (rr ⟨aU (bF L 1 p hub) 2,H⟩) q⟩:=aj j;have n:eP ⟨aU (bF L 1 p hub) 2,H⟩ q=dN (ia (rr ⟨aU (bF L 1 p hub) 2,H⟩) q):=aj j;rw[e,m,n];have o:eC (rr ⟨aU (bF L 1 p hub) 2,H⟩).b=nw L 1:=by
   show eC (gJ (aU (bF L 1 p hub) 2) L.mem)=_;unfold gJ;by_cases a:L.mem.length=1;have F:=JA h a (R:=aU (bF L 1 p hub) 2) (by simp[aU,bF,a]) rfl rfl rfl;have T:L.mem=[L.me]:=(h.one a).1;rw[T];simp[F,eC,nw,a]
   ·have F:∀ d,cb (aU (bF L 1 p hub) 2) d=(0,false):=Rz (by simp[aU,bF,a]);have O:L.mem.filter (fun d => !(cb (aU (bF L 1 p hub) 2) d).2)=L.mem:=List.filter_eq_self.2 fun d _=>by rw[F];rfl
    rw[O];unfold eC nw;have:L.mem.length≠0:=by have:=h.n1;omega
    simp[a];intro c;have:=congrArg length c;have a:=h.n1;have C:([]:List Int).length=0:=rfl;rw[C] at this;omega
  obtain⟨r,s,u,w,y⟩:=E1 (z:=rr ⟨aU (bF L 1 p hub) 2,H⟩) h (k:=1) ae l g i rfl o (ED h 1) q;refine⟨⟨⟨hub,?_⟩,u,w,y,rfl⟩,?_⟩
  ·refine s.trans ?_;by_cases a:L.mem.length=1
   ·rw[aj a];have D:nw L 1=[0]:=by unfold nw;simp[a]
    rw[D];unfold eN bF aU rr tZ;simp[a]
   rw[ah a];unfold bF aU rr;simp[a]
  show dN (ia (rr ⟨aU (bF L 1 p hub) 2,H⟩) q)=Ly L 1;rw[r];rfl
 ·have e:dm ⟨⟨bF L 2 p hub,H⟩,f⟩ q=(⟨rX ⟨aU (bF L 2 p hub) 3,H⟩ q,false⟩,gC ⟨aU (bF L 2 p hub) 3,H⟩ q):=by
   unfold dm;exact (ah (show ¬ (((2:Nat):Int)=0) by decide)).trans ((ah (show ¬ (((2:Nat):Int)=1) by decide)).trans (aj rfl))
  have m:rX ⟨aU (bF L 2 p hub) 3,H⟩ q=⟨pF (xn ⟨aU (bF L 2 p hub) 3,H⟩) q,qt (xn ⟨aU (bF L 2 p hub) 3,H⟩) q⟩:=aj j;have n:gC ⟨aU (bF L 2 p hub) 3,H⟩ q=dN (ia (xn ⟨aU (bF L 2 p hub) 3,H⟩) q):=aj j;rw[e,m,n];have o:eC (xn ⟨aU (bF L 2 p hub) 3,H⟩).b=nw L 2:=by
   show eC (kQ (aU (bF L 2 p hub) 3) L.mem)=_;have V:kQ (aU (bF L 2 p hub) 3) L.mem=[]:=by
    unfold kQ;rw[List.flatMap_eq_nil_iff];intro x _;have N:mz (aU (bF L 2 p hub) 3).faults x (aU (bF L 2 p hub) 3).me=false:=by rw[mz,bf];by_cases a:L.mem.length=1;have P:=(h.one a).2.2;simp[aU,bF,a,o3,P];simp[aU,bF,a]
    rw[N];rfl
   rw[V];rfl
  obtain⟨r,s,u,w,y⟩:=E1 (z:=xn ⟨aU (bF L 2 p hub) 3,H⟩) h (k:=2) ae l g i rfl o (ED h 2) q;refine⟨⟨⟨hub,?_⟩,u,w,y,rfl⟩,?_⟩
  ·refine s.trans ?_;by_cases a:L.mem.length=1
   ·rw[aj a];have D:nw L 2=[0]:=by unfold nw;simp
    rw[D];unfold eN bF aU xn;simp[a,eW,pV]
   rw[ah a];unfold bF aU xn;simp[a]
  show dN (ia (xn ⟨aU (bF L 2 p hub) 3,H⟩) q)=Ly L 2;rw[r];rfl
 ·have e:dm ⟨⟨bF L 3 p hub,H⟩,f⟩ q=(⟨⟨aU (bF L 3 p hub) 4,H⟩,true⟩,[]):=by
   unfold dm;exact (ah (show ¬ (((3:Nat):Int)=0) by decide)).trans ((ah (show ¬ (((3:Nat):Int)=1) by decide)).trans (ah (show ¬ (((3:Nat):Int)=2) by decide)))
  rw[e];refine⟨⟨⟨hub,?_⟩,l,g,fun x U=>Int.le_trans (i x U) ae,rfl⟩,rfl⟩;show aU (bF L 3 p hub) 4=_;unfold aU bF;simp
theorem Lz {L:Lone} (h:L.Ok) {k:Nat} (f:k<=4) (p hub:Nat) (e:Int):jV (bF L k p hub) e=(decide ((k:Int)<4)&&decide (e>=L.start+(k:Int)*L.span)):=by have a:=h.s0;have b:=h.s1;have c:=h.p1;have d:=h.p2;have g:0<=(k:Int)*L.span/\(k:Int)*L.span<=4*1048576:=⟨mT aa aa,Int.mul_le_mul aa d aa aa⟩;unfold jV;show (decide ((k:Int)<4)&&decide (e>=IntKind.i64.wrap (L.start+IntKind.i64.wrap ((k:Int)*L.span))))=_;rw[ba (a:=(k:Int)*L.span) aa aa,ba aa aa]
theorem zG {L:Lone} (h:L.Ok) {b:Int} {t u:fB} {o:List (Int × Hbm.aC)} (i:Ticks b t u o):∀ {k p:Nat},k<=4->Stg L k p t->∃ j,k<=j/\j<=4/\Stg L j p u/\JZ L k++o=JZ L j/\(j=4\/b<L.start+(j:Int)*L.span)/\(b<L.start+(k:Int)*L.span->j=k):=by
 induction i with
 | stop t hd =>intro k p e d;refine⟨k,aE _,e,d,bq _,?_,fun _=>rfl⟩;obtain⟨hub,f⟩:=d.R;have hd:jV t.z.R b=false:=hd;rw[f,Lz h e] at hd;by_cases g:k=4;exact .inl g;refine .inr ?_;rw[Bool.and_eq_false_iff] at hd;rcases hd with hd|hd;have:=Odf hd;have:¬ ((k:Int)<4):=this;omega;have:=Odf hd;have:¬ (b>=L.start+(k:Int)*L.span):=this;omega
 | step t q u o hd _ l =>intro k p e d;obtain⟨hub,f⟩:=d.R;have hd:jV t.z.R b=true:=hd;rw[f,Lz h e] at hd;rw[aQ] at hd;have y:(k:Int)<4:=Odt hd.1;have A:b>=L.start+(k:Int)*L.span:=Odt hd.2;obtain⟨w,x⟩:=Tl h aa d q;obtain⟨j,C,m,n,r,s,D⟩:=l (k:=k+1) aa w;refine⟨j,aa,m,n,?_,s,fun c=>aa⟩;rw[<- r,x,<- cB];rfl
theorem Wl {L:Lone} (h:L.Ok) (g:L.mem.length≠1) (p hub:Nat):fN (bF L 4 p hub)=(none,32):=by
 have d:(bF L 4 p hub).deals=[]:=by simp[bF,g]
 have i:cS (bF L 4 p hub)=[]:=by rw[cS,bf,gD];refine List.filter_eq_nil_iff.2 fun x _=>?_;rw[d,om,bf,px,nK,N5];simp
 have l:1<=Ca L.mem []:=by have j:=h.n1;have k:=h.n4;have b:L.mem.length=1\/L.mem.length=2\/L.mem.length=3\/L.mem.length=4:=aa;unfold Ca;rcases b with e|e|e|e<;>rw[e]<;>decide
 have f:fO (bF L 4 p hub)=([],32):=by
  rw[fO,i,law22.rE,bf,nv];have:cK (bF L 4 p hub).dealers (bF L 4 p hub).old []=([],[],32):=by show cK L.mem [] []=_;rw[cK,ah];rintro⟨_,c⟩;simp at c;omega
  rw[this];rfl
 unfold fN;rw[f];rfl
theorem aaZ {l:List Fr} (h:l.length=1):poly.Rf [] l=l:=by obtain⟨c,rfl⟩:=List.length_eq_one_iff.1 h;unfold poly.Rf;have a:max ([]:List Fr).length [c].length=1:=rfl;have d:range 1=[0]:=rfl;rw[a,d,eI,tP];have b:([]:List Fr).getD 0 0=0:=List.getD_nil ..;have e:[c].getD 0 0=c:=wD ..;rw[b,e,Rg.zero_add]
def Wk (L:Lone):List Int × List Pt × Fr × List Int:=([L.me],poly.cn L.aY,poly.pat L.aY L.me,mW [L.me] (poly.cn L.aY))
theorem LA {L:Lone} (h:L.Ok) (c:L.mem.length=1) (p hub:Nat):fN (bF L 4 p hub)=(some (Wk L),0):=by
 obtain⟨u,q,A⟩:=h.one c;have z:=h.rng _ h.mm;have n:(bF L 4 p hub).deals=[(L.me,poly.cn L.aY)]:=by simp[bF,c]
 have x:(bF L 4 p hub).faults=[(L.me,[0])]:=by simp[bF,c]
 have b:(bF L 4 p hub).dealers=[L.me]:=u;have g:(bF L 4 p hub).takers=[L.me]:=u;have d:(bF L 4 p hub).need=1:=q;have f:(bF L 4 p hub).old=[]:=rfl;have j:((poly.cn L.aY).length:Int)=1:=by rw[pr,h.len,q]
 have e:nK [(L.me,poly.cn L.aY)] 1 L.me=true:=by rw[nK,Hx,Em,j];decide
 have r:cS (bF L 4 p hub)=[L.me]:=by
  rw[cS,bf,gD,b,g,d,n,x];have:om [L.me] 1 L.me [(L.me,poly.cn L.aY)] [(L.me,[0])] (bF L 4 p hub).proofs=true:=by
   rw[om,bf,px,e];have w:nm [L.me] L.me [(L.me,[0])]=[]:=by rw[nm,bf];simp[n7,A]
   rw[w];rfl
  simp[this]
 have t:cK [L.me] [] [L.me]=([L.me],[],0):=by rw[cK,aj];exact aj rfl;refine⟨?_,?_⟩;simp[j8];omega;unfold Ca;simp;decide
 have k:L.aY.length=1:=by have:=h.len;omega
 have y:fO (bF L 4 p hub)=(poly.cn L.aY,0):=by rw[fO,r,law22.rE,bf,nv,b,f,n,d,t];show xd 1 [(L.me,poly.cn L.aY)] [L.me] [] 0=_;rw[xd,aj rfl,aj (by simp[e])];show (jS [(L.me,poly.cn L.aY)] [L.me] [] 1,(0:Int))=_;congr 1;show poly.iz (poly.cn []) (jW [] 0 (cO [(L.me,poly.cn L.aY)] L.me))=_;rw[Em];show poly.iz (poly.cn []) (poly.cn L.aY)=_;rw[law22.TH];rw[aaZ k]
 have s:=JA h c (R:=bF L 4 p hub) (by simp[bF,c]) rfl rfl rfl;have i:dV (bF L 4 p hub) [L.me]=[L.me]:=by unfold dV;simp[s]
 have l:ed (bF L 4 p hub) [L.me]=[poly.pat L.aY L.me]:=by unfold ed;rw[i];simp[s]
 have m:gM (bF L 4 p hub) [L.me]=(poly.pat L.aY L.me,0):=by
  rw[gM,i,l,law22.ur,bf,te,b,f,t];show Fb [L.me] [poly.pat L.aY L.me] [L.me] [] 0=_;have o:xw [L.me] L.me=0:=by rw[xw,bf,du];simp
  rw[Fb,aj rfl,aj];show (tS [L.me] [poly.pat L.aY L.me] [L.me] [] 1,(0:Int))=_;congr 1;show 0+tW [] 0 ([poly.pat L.aY L.me].getD (xw [L.me] L.me).toNat 0)=_;rw[o];exact Rg.zero_add _;simp[AL,o]
 unfold fN;rw[y,aj rfl,g,aj (show (bF L 4 p hub).me∈[L.me] by show L.me∈_;simp),r,m,aj rfl];rfl
end rite
end Go.Proofs.YtofofalgjibokaaGreatDoor
namespace Go.Proofs
open Go.Shelf
open Go.IntKind(i64 u8)
def Tryz.vH:Go.Shelf.Ren:=⟨fun|4=>59|n=>n,fun|22=>24|25=>3|3=>3|4=>4|9=>9|20=>20|0=>0|n=>n,fun|n=>n⟩
theorem Tryz.Wi:Go.Proofs.Lays8.n4 Tryz.prog Tryz.vH:={
 mixed:=ab
 f4:=⟨Tryz.f59.name,ae,Tryz.func59.trans (congrArg some ab)⟩
 t0:=Tryz.underlying0
 a0:=Tryz.isAgg0
 z0:=Tryz.sizeOf0
 v0:=Tryz.zeroValue0
 t3:=Tryz.underlying3
 a3:=Tryz.isAgg3
 z3:=Tryz.sizeOf3
 v3:=Tryz.zeroValue3
 t4:=Tryz.underlying4
 a4:=Tryz.isAgg4
 z4:=Tryz.sizeOf4
 v4:=Tryz.zeroValue4
 t9:=Tryz.underlying9
 a9:=Tryz.isAgg9
 z9:=Tryz.sizeOf9
 v9:=Tryz.zeroValue9
 t20:=Tryz.underlying20
 a20:=Tryz.isAgg20
 z20:=Tryz.sizeOf20
 v20:=Tryz.zeroValue20
 t22:=Tryz.underlying24
 a22:=Tryz.isAgg24
 z22:=Tryz.sizeOf24
 v22:=Tryz.zeroValue24 }
def Tryz.JQ:Go.Shelf.Ren:=⟨fun|20=>29|n=>n,fun|22=>24|3=>3|4=>4|0=>0|n=>n,fun|n=>n⟩
theorem Tryz.Je:Go.Proofs.Lays2.n20 Tryz.prog Tryz.JQ:={
 mixed:=ab
 f20:=Tryz.func29.trans (congrArg some ab)
 t0:=Tryz.underlying0
 a0:=Tryz.isAgg0
 z0:=Tryz.sizeOf0
 v0:=Tryz.zeroValue0
 t3:=Tryz.underlying3
 a3:=Tryz.isAgg3
 z3:=Tryz.sizeOf3
 v3:=Tryz.zeroValue3
 t4:=Tryz.underlying4
 a4:=Tryz.isAgg4
 z4:=Tryz.sizeOf4
 v4:=Tryz.zeroValue4
 t22:=Tryz.underlying24
 a22:=Tryz.isAgg24
 z22:=Tryz.sizeOf24
 v22:=Tryz.zeroValue24
 i3:=by kernel_rfl }
open Go.RowKit Go.Lib Go.Sort in
theorem Tryz.slices_Compact_int (a b c:Nat) (d:List Int) (w:World) (h:Holds (Value.int .i64) w a b d.toArray) (g:d.length<=9223372036854775807) (f:d.length<=c) :
  Calls Tryz.prog 29 #[.slice (some ⟨a,b,none⟩) d.length c] w fun e i=>e=.returned (.slice (some ⟨a,b,none⟩) (Lib.compact d).length c)/\∃ q,i=putRow (Value.int .i64) (Sort.ahead w q) a b (Lib.compact d++replicate (d.length-(Lib.compact d).length) 0).toArray:=Any.slices_Compact_int Tryz.Je a b c d w h g f
namespace YtofofalgjibokaaGreatDoor.part
section
variable {α:Type} (z:α) (key:α->Int)
def swp (l:List α) (j:Nat):List α:=(l.set (j+1) (l.getD j z)).set j (l.getD (j+1) z)
def Fu (l:List α):Nat->List α
 | 0=>l
 | j+1=>if key (l.getD (j+1) z)<key (l.getD j z) then Fu (swp z l j) j else l
def yX (l:List α):Nat->List α
 | 0=>l
 | k+1=>Fu z key (yX l k) (k+1)
theorem MF:∀ (l:List α) (j:Nat),j+1<l.length->(swp z l j).Perm l
 | x::y::l,0,_=>List.Perm.swap x y l
 | x::l,j+1,h=>by
  have h:j+1<l.length:=by simpa using h
  exact (MF l j h).cons x
 | [],_,h=>absurd h au
 | [_],0,h=>absurd h au
theorem abx (l:List α) (j:Nat):(swp z l j).length=l.length:=by simp[swp]
theorem Kv:∀ (j:Nat) (l:List α),j<l.length->(Fu z key l j).Perm l
 | 0,l,_=>List.Perm.refl l
 | j+1,l,h=>by unfold Fu;split;exact (Kv j _ (by rw[abx];omega)).trans (MF z l j h);exact List.Perm.refl l
theorem E8 (l:List α):∀ (k:Nat),k<l.length\/k=0->(yX z key l k).Perm l
 | 0,_=>List.Perm.refl l
 | k+1,h=>by have a:=E8 l k aa;exact (Kv z key (k+1) _ (by rw[a.length_eq];omega)).trans a
def Xf (l:List α):List α:=yX z key l (l.length-1)
end
end YtofofalgjibokaaGreatDoor.part
namespace YtofofalgjibokaaGreatDoor.sorti
open Go.IntKind(i64 u64 u8)
def NP:ByteArray:=(ByteArray.mk ((([(0:UInt8),(1:UInt8),(2:UInt8),(2:UInt8),(3:UInt8),(3:UInt8),(3:UInt8),(3:UInt8),(4:UInt8),(4:UInt8),(4:UInt8),(4:UInt8),(4:UInt8),(4:UInt8),(4:UInt8),(4:UInt8),(5:UInt8),(5:UInt8),(5:UInt8),(5:UInt8),(5:UInt8),(5:UInt8),(5:UInt8),(5:UInt8),(5:UInt8),(5:UInt8),(5:UInt8),(5:UInt8),(5:UInt8),(5:UInt8),(5:UInt8),(5:UInt8),(6:UInt8),(6:UInt8),(6:UInt8),(6:UInt8),(6:UInt8),(6:UInt8),(6:UInt8),(6:UInt8),(6:UInt8),(6:UInt8),(6:UInt8),(6:UInt8),(6:UInt8),(6:UInt8),(6:UInt8),(6:UInt8),(6:UInt8),(6:UInt8),(6:UInt8),(6:UInt8),(6:UInt8),(6:UInt8),(6:UInt8),(6:UInt8),(6:UInt8),(6:UInt8),(6:UInt8),(6:UInt8),(6:UInt8),(6:UInt8),(6:UInt8),(6:UInt8)].append [(7:UInt8),(7:UInt8),(7:UInt8),(7:UInt8),(7:UInt8),(7:UInt8),(7:UInt8),(7:UInt8),(7:UInt8),(7:UInt8),(7:UInt8),(7:UInt8),(7:UInt8),(7:UInt8),(7:UInt8),(7:UInt8),(7:UInt8),(7:UInt8),(7:UInt8),(7:UInt8),(7:UInt8),(7:UInt8),(7:UInt8),(7:UInt8),(7:UInt8),(7:UInt8),(7:UInt8),(7:UInt8),(7:UInt8),(7:UInt8),(7:UInt8),(7:UInt8),(7:UInt8),(7:UInt8),(7:UInt8),(7:UInt8),(7:UInt8),(7:UInt8),(7:UInt8),(7:UInt8),(7:UInt8),(7:UInt8),(7:UInt8),(7:UInt8),(7:UInt8),(7:UInt8),(7:UInt8),(7:UInt8),(7:UInt8),(7:UInt8),(7:UInt8),(7:UInt8),(7:UInt8),(7:UInt8),(7:UInt8),(7:UInt8),(7:UInt8),(7:UInt8),(7:UInt8),(7:UInt8),(7:UInt8),(7:UInt8),(7:UInt8),(7:UInt8)]).append ([(8:UInt8),(8:UInt8),(8:UInt8),(8:UInt8),(8:UInt8),(8:UInt8),(8:UInt8),(8:UInt8),(8:UInt8),(8:UInt8),(8:UInt8),(8:UInt8),(8:UInt8),(8:UInt8),(8:UInt8),(8:UInt8),(8:UInt8),(8:UInt8),(8:UInt8),(8:UInt8),(8:UInt8),(8:UInt8),(8:UInt8),(8:UInt8),(8:UInt8),(8:UInt8),(8:UInt8),(8:UInt8),(8:UInt8),(8:UInt8),(8:UInt8),(8:UInt8),(8:UInt8),(8:UInt8),(8:UInt8),(8:UInt8),(8:UInt8),(8:UInt8),(8:UInt8),(8:UInt8),(8:UInt8),(8:UInt8),(8:UInt8),(8:UInt8),(8:UInt8),(8:UInt8),(8:UInt8),(8:UInt8),(8:UInt8),(8:UInt8),(8:UInt8),(8:UInt8),(8:UInt8),(8:UInt8),(8:UInt8),(8:UInt8),(8:UInt8),(8:UInt8),(8:UInt8),(8:UInt8),(8:UInt8),(8:UInt8),(8:UInt8),(8:UInt8)].append [(8:UInt8),(8:UInt8),(8:UInt8),(8:UInt8),(8:UInt8),(8:UInt8),(8:UInt8),(8:UInt8),(8:UInt8),(8:UInt8),(8:UInt8),(8:UInt8),(8:UInt8),(8:UInt8),(8:UInt8),(8:UInt8),(8:UInt8),(8:UInt8),(8:UInt8),(8:UInt8),(8:UInt8),(8:UInt8),(8:UInt8),(8:UInt8),(8:UInt8),(8:UInt8),(8:UInt8),(8:UInt8),(8:UInt8),(8:UInt8),(8:UInt8),(8:UInt8),(8:UInt8),(8:UInt8),(8:UInt8),(8:UInt8),(8:UInt8),(8:UInt8),(8:UInt8),(8:UInt8),(8:UInt8),(8:UInt8),(8:UInt8),(8:UInt8),(8:UInt8),(8:UInt8),(8:UInt8),(8:UInt8),(8:UInt8),(8:UInt8),(8:UInt8),(8:UInt8),(8:UInt8),(8:UInt8),(8:UInt8),(8:UInt8),(8:UInt8),(8:UInt8),(8:UInt8),(8:UInt8),(8:UInt8),(8:UInt8),(8:UInt8),(8:UInt8)])).toArray ))
open part(yX Xf Fu swp E8)
abbrev iK:Kd:=.int .i64
theorem ZM:enters Tryz.prog 147 Tryz.f147:=ek
theorem acM:aL Tryz.prog 147 [iK] [.val .bool] bx (fun _=>True) (fun _=>(false,())):=by refine a8 (sp:=aP []) bp mixed ZM ae ae ?_;rintro w b ⟨a,⟨⟩⟩;revert a;intro (a:Int) _ _;refine @al ((a != a,())=(false,())) _ ?_ ?_;kernel_rfl;simp
def af2:Nat × Eng.Spec:=(147,aH [iK] [.val .bool] (fun _=>True) (fun _=>(false,())))
theorem Vq:enters Tryz.prog 102 Tryz.f102:=ek
theorem Z4:aL Tryz.prog 102 [iK,iK] [.val .bool] bx (fun _=>True) (fun (a,b,_)=>(decide (a<b),())):=by refine a8 (sp:=aP [af2]) (aJ (aM acM) bp) mixed Vq ae ae ?_;rintro w d ⟨a,b,⟨⟩⟩;revert a b;intro (a:Int) (b:Int) _ _;refine @al (True/\(false=true->True/\((!false)=true->(true,())=(decide (a<b),()))/\((!false)=false->(decide (a<b),())=(decide (a<b),())))/\(false=false->(decide (a<b),())=(decide (a<b),()))) _ ?_ ?_;kernel_rfl;exact⟨trivial,fun h=>(by cases h),fun _=>rfl⟩
def Un:Nat × Eng.Spec:=(102,aH [iK,iK] [.val .bool] (fun _=>True) (fun (a,b,_)=>(decide (a<b),())))
abbrev kI:Int->Int:=fun x=>x
theorem ZF:enters Tryz.prog 96 Tryz.f96:=ek
def F5 (n:Nat) (g:Int × List Int):St:=ar Tryz.f96.ntmps 25 [(0,.is (.one (.sl 0 0 0 n 1))),(1,sI .i64 0),(2,sI .i64 n),(6,sI .i64 g.1)] [(0,[.ints .i64 n g.2])]
def QG (n:Nat) (i:Int) (g:Int × List Int):St:=ar Tryz.f96.ntmps 41 [(0,.is (.one (.sl 0 0 0 n 1))),(1,sI .i64 0),(2,sI .i64 n),(6,sI .i64 i),(7,sI .i64 g.1)] [(0,[.ints .i64 n g.2])]
def isO (n:Nat) (a:List Int):St:=ar Tryz.f96.ntmps 25 [] [(0,[.ints .i64 n a])]
abbrev L9:List Int × HL [iK,iK]->Prop:=fun (d,a,b,_)=>(a:Int)=0/\(b:Int)=(length d:Int)/\length d<=12
def gW (a:List Int):List Int:=Xf (0:Int) kI a
def isJ (a:List Int) (g:Int × List Int):Prop:=∃ k:Nat,k+1<=a.length/\g.1=(k:Int)+1/\g.2=yX (0:Int) kI a k
def adQ (n:Nat) (a:List Int) (m:Nat) (g:Int × List Int):Prop:=∃ t:Nat,t<=m/\g.1=(t:Int)/\g.2.length=n/\Fu (0:Int) kI g.2 t=a
theorem acx:Fi Tryz.prog 96 iK [iK,iK] [] bx L9 (fun (d,_)=>(gW d,())):=by
 have m:aD Tryz.prog (aP [Un]):=aJ (aM Z4) bp;refine BQ (sp:=aP [Un]) ZF ae ae ab ?_;rintro w K L d ⟨a,b,⟨⟩⟩;revert d a b;intro (d:List Int) (a:Int) (b:Int) q Q P I;obtain⟨y,z,D⟩:=I;have y:a=0:=y;have z:b=(d.length:Int):=z;have D:d.length<=12:=D;have q:0<d.length:=q;subst y z;show Tr _ _ _ _ _ _ _;refine bd m mixed 1 (F5 d.length (1,d)) True ?_ (fun _=>?_);refine al (X:=((F5 d.length (1,d)).ag True)) ab ?_;exact ao trivial;refine pg h9 (fun o=>(bg iK 6 o,cU iK 0 o)) (F5 d.length) (isJ d) (fun g=>d.length-g.1.toNat)
  (fun o=>cU iK 0 o) (isO d.length) (fun l=>l=gW d) (1,d) (c:=aq (ak Tryz.f96) 1) ab ab (aw ab ab ?_) ?_ ?_
 exact⟨0,q,rfl,rfl⟩
 ·rintro⟨i,l⟩ G;revert i l;intro (i:Int) (l:List Int) ⟨k,N,r,p⟩;have r:i=(k:Int)+1:=r;subst r;have p:l=yX (0:Int) kI d k:=p;have C:l.length=d.length:=by rw[p];exact (E8 (0:Int) kI d k aa).length_eq
  refine bd m mixed 2 (F5 d.length ((k:Int)+1,l)) (k+1<d.length) ?_ (fun H=>?_)
  ·refine al (X:=((decide ((k:Int)+1<(d.length:Int))=true->(F5 d.length ((k:Int)+1,l)).ag (k+1<d.length))/\(decide ((k:Int)+1<(d.length:Int))=false->(isO d.length l).ag (l=gW d)))) ab ?_;refine⟨fun h=>ao (by have:=Odt h;omega),fun h=>ao ?_⟩;have e:d.length-1=k:=by have:=Odf h;omega
   rw[p,gW,Xf,e]
  refine mf (c:=aq (aZ (aq (ak Tryz.f96) 1)) 2) ab ab ?_;refine bd m mixed 1 (QG d.length ((k:Int)+1) ((k:Int)+1,l)) True ?_ (fun _=>?_);refine al (X:=((QG d.length ((k:Int)+1) ((k:Int)+1,l)).ag True)) ab ?_;exact ao trivial;refine cd m mixed h9 (fun o=>(bg iK 7 o,cU iK 0 o)) (QG d.length ((k:Int)+1)) (adQ d.length (yX (0:Int) kI d (k+1)) (k+1)) (fun g=>g.1.toNat)
   (fun o=>cU iK 0 o) (fun f=>F5 d.length ((k:Int)+1,f)) (fun f=>f=yX (0:Int) kI d (k+1)) ((k:Int)+1,l) (c:=aq (da (aq (aZ (aq (ak Tryz.f96) 1)) 2)) 1) ab ab (aw ab ab ?_) ?_ ?_
  exact⟨k+1,aE _,rfl,C,by rw[p];rfl⟩
  ·rintro⟨j,f⟩ G;revert j f;intro (j:Int) (f:List Int) ⟨t,O,s,x,n⟩;have s:j=(t:Int):=s;subst s;have x:f.length=d.length:=x;have n:Fu (0:Int) kI f t=yX (0:Int) kI d (k+1):=n;refine @al ((decide ((t:Int)>0)=true->(0<=(t:Int)/\(t:Int)<(d.length:Int))/\(t:Int).toNat<d.length/\(0<=i64.wrap ((t:Int)-1)/\i64.wrap ((t:Int)-1)<(d.length:Int))/\(i64.wrap ((t:Int)-1)).toNat<d.length/\True/\(decide (f.getD (t:Int).toNat 0<f.getD (i64.wrap ((t:Int)-1)).toNat 0)=true->(0<=i64.wrap ((t:Int)-1)/\i64.wrap ((t:Int)-1)<(d.length:Int))/\(i64.wrap ((t:Int)-1)).toNat<d.length/\(0<=(t:Int)/\(t:Int)<(d.length:Int))/\(t:Int).toNat<d.length/\(0<=(t:Int)/\(t:Int)<(d.length:Int))/\(t:Int).toNat<d.length/\(0<=i64.wrap ((t:Int)-1)/\i64.wrap ((t:Int)-1)<(d.length:Int))/\(i64.wrap ((t:Int)-1)).toNat<d.length/\(QG d.length ((k:Int)+1) (i64.wrap ((t:Int)-1),(f.set (t:Int).toNat (f.getD (i64.wrap ((t:Int)-1)).toNat 0)).set (i64.wrap ((t:Int)-1)).toNat (f.getD (t:Int).toNat 0))).ag (adQ d.length (yX 0 kI d (k+1)) (k+1) (i64.wrap ((t:Int)-1),(f.set (t:Int).toNat (f.getD (i64.wrap ((t:Int)-1)).toNat 0)).set (i64.wrap ((t:Int)-1)).toNat (f.getD (t:Int).toNat 0))/\(i64.wrap ((t:Int)-1)).toNat<(t:Int).toNat))/\(decide (f.getD (t:Int).toNat 0<f.getD (i64.wrap ((t:Int)-1)).toNat 0)=false->(F5 d.length ((k:Int)+1,f)).ag (f=yX 0 kI d (k+1))))/\(decide ((t:Int)>0)=false->(F5 d.length ((k:Int)+1,f)).ag (f=yX 0 kI d (k+1)))) _ ?_ ?_;kernel_rfl;have F:∀ u,Fu (0:Int) kI f (u+1)=if kI (f.getD (u+1) (0:Int))<kI (f.getD u (0:Int)) then Fu (0:Int) kI (swp (0:Int) f u) u else f:=fun u=>rfl;refine⟨fun h=>?_,fun h=>ao ?_⟩
   ·obtain⟨u,rfl⟩:∃ u,t=u+1:=⟨t-1,by have:=Odt h;omega⟩;rw[F] at n;have E:i64.wrap (((u+1:Nat):Int)-1)=(u:Int):=by rw[ba aa aa];omega
    rw[E,aB,aB];refine⟨⟨aa,aa⟩,aa,⟨aa,aa⟩,aa,trivial,fun A=>⟨⟨aa,aa⟩,aa,⟨aa,aa⟩,aa,⟨aa,aa⟩,aa,⟨aa,aa⟩,aa,ao ⟨⟨u,aa,rfl,?_,?_⟩,aa⟩⟩,fun A=>ao ?_⟩;show length _=_;rw[im,im,x];rw[aj (Odt A)] at n;exact n;rw[ah (Odf A)] at n;exact n
   ·have:t=0:=by have:=Odf h;omega
    subst this;exact n
  intro (f:List Int) (n:f=yX (0:Int) kI d (k+1));refine ke ?_;refine bE m mixed _ _ ?_;refine @al ((F5 d.length (i64.wrap ((k:Int)+(1:Int)+1),f)).ag (isJ d (i64.wrap ((k:Int)+(1:Int)+1),f)/\d.length-(i64.wrap ((k:Int)+(1:Int)+1)).toNat<d.length-((k:Int)+1).toNat)) _ ?_ ?_;kernel_rfl;rw[ba aa aa];exact ao ⟨⟨k+1,aa,by show _=((k+1:Nat):Int)+1;omega,n⟩,aa⟩
 intro (l:List Int) (p:l=gW d);refine bE m mixed _ _ ?_;refine @al (d.length=d.length/\(l,())=(gW d,())) _ ?_ ?_;kernel_rfl;exact⟨rfl,by rw[p]⟩
def B7 (n:Int):Int:=[0,1,2,2,3,3,3,3,4,4,4,4,4].getD n.toNat 0
theorem Sq:enters Tryz.prog 106 Tryz.f106:=ek
theorem VO:aL Tryz.prog 106 [.int .u64] [.val iK] bx (fun (n,_)=>0<=(n:Int)/\(n:Int)<=12) (fun (n,_)=>(B7 n,())):=by
 have a:aD Tryz.prog (aP []):=bp;refine bI (sp:=aP []) Sq ae ae ab ?_;rintro w i ⟨n,⟨⟩⟩;revert n;intro (n:Int) _ ⟨c,d⟩;have c:0<=n:=c;have d:n<=12:=d;show Tr _ _ _ _ _ _ _;refine jO a mixed 7 (fun e=>(bg (.int .u64) 0 e,bg iK 2 e)) (fun g=>ar Tryz.f106.ntmps 56 [(0,sI .u64 g.1),(2,sI .i64 g.2)] []) (fun g=>g=(n,0)) ?_ ?_
 ·refine al (X:=((decide (n>=4294967296)=true->(0:Int)<=32/\(decide (n.fdiv (2^min 32 u64.bits)>=65536)=true->(0:Int)<=16/\(decide ((n.fdiv (2^min 32 u64.bits)).fdiv (2^min 16 u64.bits)>=256)=true->(0:Int)<=8/\(ar Tryz.f106.ntmps 56 [(0,sI u64 (((n.fdiv (2^min 32 u64.bits)).fdiv (2^min 16 u64.bits)).fdiv (2^min 8 u64.bits),i64.wrap (i64.wrap ((32:Int)+16)+8)).fst),(2,sI i64 (((n.fdiv (2^min 32 u64.bits)).fdiv (2^min 16 u64.bits)).fdiv (2^min 8 u64.bits),i64.wrap (i64.wrap ((32:Int)+16)+8)).snd)] []).ag ((((n.fdiv (2^min 32 u64.bits)).fdiv (2^min 16 u64.bits)).fdiv (2^min 8 u64.bits),i64.wrap (i64.wrap ((32:Int)+16)+8))=(n,(0:aA iK))))/\(decide ((n.fdiv (2^min 32 u64.bits)).fdiv (2^min 16 u64.bits)>=256)=false->(ar Tryz.f106.ntmps 56 [(0,sI u64 ((n.fdiv (2^min 32 u64.bits)).fdiv (2^min 16 u64.bits),i64.wrap ((32:Int)+16)).fst),(2,sI i64 ((n.fdiv (2^min 32 u64.bits)).fdiv (2^min 16 u64.bits),i64.wrap ((32:Int)+16)).snd)] []).ag (((n.fdiv (2^min 32 u64.bits)).fdiv (2^min 16 u64.bits),i64.wrap ((32:Int)+16))=(n,(0:aA iK)))))/\(decide (n.fdiv (2^min 32 u64.bits)>=65536)=false->(decide (n.fdiv (2^min 32 u64.bits)>=256)=true->(0:Int)<=8/\(ar Tryz.f106.ntmps 56 [(0,sI u64 ((n.fdiv (2^min 32 u64.bits)).fdiv (2^min 8 u64.bits),i64.wrap ((32:Int)+8)).fst),(2,sI i64 ((n.fdiv (2^min 32 u64.bits)).fdiv (2^min 8 u64.bits),i64.wrap ((32:Int)+8)).snd)] []).ag (((n.fdiv (2^min 32 u64.bits)).fdiv (2^min 8 u64.bits),i64.wrap ((32:Int)+8))=(n,(0:aA iK))))/\(decide (n.fdiv (2^min 32 u64.bits)>=256)=false->(ar Tryz.f106.ntmps 56 [(0,sI u64 (n.fdiv (2^min 32 u64.bits),32).fst),(2,sI i64 (n.fdiv (2^min 32 u64.bits),32).snd)] []).ag ((n.fdiv (2^min 32 u64.bits),32)=(n,(0:aA iK))))))/\(decide (n>=4294967296)=false->(decide (n>=65536)=true->(0:Int)<=16/\(decide (n.fdiv (2^min 16 u64.bits)>=256)=true->(0:Int)<=8/\(ar Tryz.f106.ntmps 56 [(0,sI u64 ((n.fdiv (2^min 16 u64.bits)).fdiv (2^min 8 u64.bits),i64.wrap (i64.wrap ((0:Int)+16)+8)).fst),(2,sI i64 ((n.fdiv (2^min 16 u64.bits)).fdiv (2^min 8 u64.bits),i64.wrap (i64.wrap ((0:Int)+16)+8)).snd)] []).ag (((n.fdiv (2^min 16 u64.bits)).fdiv (2^min 8 u64.bits),i64.wrap (i64.wrap ((0:Int)+16)+8))=(n,(0:aA iK))))/\(decide (n.fdiv (2^min 16 u64.bits)>=256)=false->(ar Tryz.f106.ntmps 56 [(0,sI u64 (n.fdiv (2^min 16 u64.bits),i64.wrap ((0:Int)+16)).fst),(2,sI i64 (n.fdiv (2^min 16 u64.bits),i64.wrap ((0:Int)+16)).snd)] []).ag ((n.fdiv (2^min 16 u64.bits),i64.wrap ((0:Int)+16))=(n,(0:aA iK)))))/\(decide (n>=65536)=false->(decide (n>=256)=true->(0:Int)<=8/\(ar Tryz.f106.ntmps 56 [(0,sI u64 (n.fdiv (2^min 8 u64.bits),i64.wrap ((0:Int)+8)).fst),(2,sI i64 (n.fdiv (2^min 8 u64.bits),i64.wrap ((0:Int)+8)).snd)] []).ag ((n.fdiv (2^min 8 u64.bits),i64.wrap ((0:Int)+8))=(n,(0:aA iK))))/\(decide (n>=256)=false->(ar Tryz.f106.ntmps 56 [(0,sI u64 (n,0).fst),(2,sI i64 (n,0).snd)] []).ag ((n,0)=(n,(0:aA iK)))))))) ab ?_;have b:∀ {m:Int} {P:Prop},13<=m->decide (n>=m)=true->P:=fun j h=>by have:=Odt h;omega
  exact⟨b ae,fun _=>⟨b ae,fun _=>⟨b ae,fun _=>ao rfl⟩⟩⟩
 rintro g rfl;refine bE a mixed _ _ ?_;refine @al ((0<=u8.wrap n/\u8.wrap n<(NP.size:Int))/\(i64.wrap (0+i64.wrap ((jE NP).getD (u8.wrap n).toNat 0)),())=(B7 n,())) _ ?_ ?_;kernel_rfl;have f:n=0\/n=1\/n=2\/n=3\/n=4\/n=5\/n=6\/n=7\/n=8\/n=9\/n=10\/n=11\/n=12:=aa;rcases f with rfl|rfl|rfl|rfl|rfl|rfl|rfl|rfl|rfl|rfl|rfl|rfl|rfl<;>exact⟨⟨ae,ae⟩,ae⟩
def Pn:Nat × Eng.Spec:=(106,aH [.int .u64] [.val iK] (fun (n,_)=>0<=(n:Int)/\(n:Int)<=12) (fun (n,_)=>(B7 n,())))
theorem ZL:enters Tryz.prog 61 Tryz.f61:=ek
theorem acL:aL Tryz.prog 61 [.int .u64] [.val iK] bx (fun (n,_)=>0<=(n:Int)/\(n:Int)<=12) (fun (n,_)=>(B7 n,())):=by have a:aD Tryz.prog (aP [Pn]):=aJ (aM VO) bp;refine bI (sp:=aP [Pn]) ZL ae ae ab ?_;rintro w d ⟨n,⟨⟩⟩;revert n;intro (n:Int) _ ⟨b,c⟩;show Tr _ _ _ _ _ _ _;refine bE a mixed _ _ ?_;refine @al ((0<=n/\n<=12)/\(B7 n,())=(B7 n,())) _ ?_ ?_;kernel_rfl;exact⟨⟨b,c⟩,rfl⟩
def YX:Nat × Eng.Spec:=(61,aH [.int .u64] [.val iK] (fun (n,_)=>0<=(n:Int)/\(n:Int)<=12) (fun (n,_)=>(B7 n,())))
def YW:Nat × Eng.Spec:=(96,yv iK [iK,iK] [] L9 (fun (a,_)=>(gW a,())))
theorem ZN:enters Tryz.prog 60 Tryz.f60:=ek
abbrev Ma:List Int × HL [iK,iK,iK]->Prop:=fun (d,a,b,_)=>(a:Int)=0/\(b:Int)=(length d:Int)/\length d<=12
def O3 (a:List Int) (q:Int) (_:Unit):St:=ar Tryz.f60.ntmps 17 [(0,.is (.one (.sl 0 0 0 a.length 1))),(1,sI .i64 0),(2,sI .i64 a.length),(3,sI .i64 q)] [(0,[.ints .i64 a.length a])]
theorem acN:Fi Tryz.prog 60 iK [iK,iK,iK] [] bx Ma (fun (d,_)=>(gW d,())):=by
 have f:aD Tryz.prog (aP [YW]):=aJ (zp acx) bp;refine BQ (sp:=aP [YW]) ZN ae ae ab ?_;rintro w l m d ⟨a,b,q,⟨⟩⟩;revert d a b q;intro (d:List Int) (a:Int) (b:Int) (q:Int) e o n k;obtain⟨g,i,j⟩:=k;have g:a=0:=g;have i:b=(d.length:Int):=i;have j:d.length<=12:=j;have e:0<d.length:=e;subst g i;show Tr _ _ _ _ _ _ _;refine bd f mixed 2 (O3 d q ()) True ?_ (fun _=>?_);refine al (X:=((O3 d q ()).ag True)) ab ?_;exact ao trivial;refine pg h9 (fun _=>()) (O3 d q) (fun _=>True) (fun _=>0)
  (fun _=>()) (O3 d q) (fun _=>False) () (c:=aq (ak Tryz.f60) 2) ab ab (aw ab ab ?_) ?_ ?_
 trivial;rintro⟨⟩ _;refine mf (c:=aq (aZ (aq (ak Tryz.f60) 2)) 0) ab ab ?_;refine bd f mixed 3 (O3 d q ()) False ?_ (fun h=>h.elim);refine @al ((decide (i64.wrap ((d.length:Int)-0)<=12)=true->d.length=d.length/\0<d.length/\L9 (d,0,(d.length:Int),())/\d.length=d.length/\(gW d,())=(gW d,()))/\(decide (i64.wrap ((d.length:Int)-0)<=12)=false->(O3 d q ()).ag False)) _ ?_ ?_;kernel_rfl;refine⟨fun _=>⟨rfl,e,⟨rfl,rfl,j⟩,rfl,rfl⟩,fun h=>?_⟩;rw[ba aa aa] at h;have:=Odf h;omega;rintro _ h;exact absurd h id
def YY:Nat × Eng.Spec:=(60,yv iK [iK,iK,iK] [] Ma (fun (a,_)=>(gW a,())))
theorem VA:enters Tryz.prog 27 Tryz.f27:=ek
abbrev H9:List Int × HL []->Prop:=fun (a,_)=>length a<=12
theorem aaa:Fi Tryz.prog 27 iK [] [] bx H9 (fun (a,_)=>(gW a,())):=by have d:aD Tryz.prog (aP [YX,YY]):=aJ (aM acL) (aJ (zp acN) bp);refine BQ (sp:=aP [YX,YY]) VA ae ae ab ?_;rintro w f g a ⟨⟩;revert a;intro (a:List Int) b i h c;have c:a.length<=12:=c;have b:0<a.length:=b;show Tr _ _ _ _ _ _ _;refine bE d mixed _ _ ?_;refine @al ((0<=u64.wrap (a.length:Int)/\u64.wrap (a.length:Int)<=12)/\a.length=a.length/\0<a.length/\Ma (a,0,(a.length:Int),B7 (u64.wrap (a.length:Int)),())/\a.length=a.length/\(gW a,())=(gW a,())) _ ?_ ?_;kernel_rfl;have e:u64.wrap (a.length:Int)=(a.length:Int):=wrap_u64 aa aa;rw[e];exact⟨⟨aa,aa⟩,rfl,b,⟨rfl,rfl,c⟩,rfl,rfl⟩
def aeX:Nat × Eng.Spec:=(27,yv iK [] [] H9 (fun (a,_)=>(gW a,())))
end YtofofalgjibokaaGreatDoor.sorti
namespace YtofofalgjibokaaGreatDoor.cpg
open Go.IntKind(i64 u64 u8)
set_option maxHeartbeats 2000000
open sorti(iK)
theorem Vi:enters Tryz.prog 59 Tryz.f59:=ek
theorem Vf:enters Tryz.prog 29 Tryz.f29:=ek
def JX:Eng.Spec:=fun _ id args _=>match args with
 | [.is (.one (.v (.slice none 0 0))),.is (.one (.v (.int .i64 n)))]=>some { val:=.is (.one (.sl id 0 0 0 1)),new:=[(id,[.ints .i64 0 []])],pre:=[1<=n/\n<=1000] }
 | _=>none
theorem aao:nI Tryz.prog 59 JX:=by
 intro Q id args B out b G N O w I z;unfold JX at b;split at b
 ·rename_i n;simp only[az] at b;subst b;obtain⟨E,F⟩:1<=n/\n<=1000:=G _ au;obtain⟨p,L,rfl,d,q,o,rfl,f,g⟩:=I;have g:o=[]:=g;have d:[p]=[Value.slice none 0 0]/\_:=d;have f:[q]=[Value.int .i64 n]/\_:=f;have u:p=.slice none 0 0:=by simpa using d.1
  have x:q=.int .i64 n:=by simpa using f.1
  subst g u x;obtain⟨K,C,j,k,l⟩:=info_parts Tryz.Je.i3;obtain⟨m,D⟩:∃ m:Nat,n=(m:Int):=⟨n.toNat,aa⟩;subst D;refine .inl ⟨Vi.2 _ _,(Any8.slices_Grow_grow Tryz.Wi K _ C j (by rw[k];decide) none 0 0 m [] w (aE _) aa (by rw[l];omega) aa au (fun _=>rfl) (fun a h=>by cases h)).mono ?_⟩;rintro e P ⟨rfl,rfl⟩;refine⟨_,rfl,?_⟩;generalize y:(([]:List Value).toArray++Builtin.zeroCells (Value.int .i64 0).cells (0+m-0)++Builtin.zeroCells (Value.int .i64 0).cells (grownCap w (0+m) 0 (Tryz.vH.t 25)-(0+m)))=A;have H:grownCap w (0+m) 0 (Tryz.vH.t 25)<=A.size:=by rw[<- y];simp only[Array.size_append,size_zeroCells,Bf,eG];have:(Value.int .i64 0).cells.size=1:=rfl;rw[this];omega
  obtain⟨r⟩:=A;refine⟨N.push id w.heap.size ([]++r).length,?_,?_⟩;exact .inr ⟨w.heap.size,0,grownCap w (0+m) 0 3,ay.iM,a2 _,.inl rfl,by rw[ay.uj,bH,tQ];exact H,rfl⟩;refine yr z _ _ (.inl (aE _)) rfl rfl rfl ?_ ?_ (Eh w [] r _) ⟨[],[],rfl,⟨rfl,rfl⟩,rfl⟩ (fun _ h=>(nomatch h)) (fun _ h=>(nomatch h));show w.heap.size<=(w.heap.push _).size;simp;intro s i _;exact Below.heap_alloc w.drew _ s i
 cases b
def Qc:Eng.Spec:=fun _ _ args B=>match args with
 | [.is (.one (.sl i 0 0 n 1))]=>match B i with
  | some [.ints .i64 m a]=>some { val:=.is (.one (.ro iK (Lib.compact (a:List Int)))),wr:=[(i,[])],pre:=[m=n,0<n,n<=1000] }
  | _=>none
 | _=>none
theorem Mh {M:Mem}:∀ a:List Int,dY (Rd M iK) a (a.map (Value.int .i64))
 | []=>rfl
 | x::a=>⟨[.int .i64 x],a.map (Value.int .i64),rfl,rfl,Mh a⟩
theorem U5 (a:List Int):(Lib.compact a).length<=a.length:=by unfold Lib.compact Lib.compactUpTo;rw[bU];refine ja (oM _ _) ?_;simp
theorem Zs:nI Tryz.prog 29 Qc:=by
 intro w0 id args B out x t C us w hv R;unfold Qc at x;split at x
 ·rename_i i n;split at x
  ·rename_i m f O;simp only[az] at x;subst x;have T:m=n:=t _ au;have hn:0<n:=t _ au;have x3:n<=1000:=t _ au;subst T;obtain⟨u0,x0,rfl,V,k⟩:=hv;have k:x0=[]:=k;subst k;rcases nR V with ⟨hl,_⟩|⟨b,o,E,K,hl,ho,hN,rfl⟩;omega;have ho:o=0:=by rcases ho with ho|ho<;>omega
   subst ho;obtain⟨l,a,y⟩:=R.blks i _ O au b K;obtain⟨v1,v2,rfl,k1,Y⟩:=y;have Y:v2=[]:=Y;subst Y;obtain⟨W,rfl⟩:f.length=m/\v1=f.map (Value.int .i64):=k1;rw[bq] at a;have H:=a.len;rw[bU] at H;have hH:Go.Sort.Holds (Value.int .i64) w b 0 f.toArray:=by
    intro j s;have s:j<f.length:=by simpa using s
    rw[bH];refine⟨a.cell ?_,a.frozen aa⟩;rw[dw,bz s];simp[s]
   subst W;refine .inl ⟨Vf.2 _ _,(Tryz.slices_Compact_int b 0 E f w hH aa hl).mono ?_⟩;rintro e w' ⟨rfl,q,rfl⟩;refine⟨_,rfl,?_⟩;obtain⟨r,el,fr,h1,h2,h3⟩:=a;have y:=U5 f;generalize X:Lib.compact f=u;rw[X] at y;generalize hD:(u++replicate (f.length-u.length) 0).toArray=D;have x1:D.size=f.length:=by rw[<- hD];simp;omega
   obtain⟨L,P⟩:∃ L,L=(Go.Sort.putCells (Value.int .i64) 0 D ⟨f.map (Value.int .i64)++r⟩).toList:=⟨_,rfl⟩;have z:(Go.Sort.putRow (Value.int .i64) (Go.Sort.ahead w q) b 0 D).heap[b]?=some (.cells ⟨L⟩ el fr):=by show (w.heap.modify b _)[b]?=_;rw[qw,aj rfl,h1];rw[P];rfl
   have F:L.length=f.length+r.length:=by rw[P];simp[Go.Sort.putCells]
   have U:L≠[]:=by intro c;rw[c] at F;simp at F;omega
   have A:L.take u.length=u.map (Value.int .i64):=by
    refine Bj fun j=>?_;rw[fI];split
    ·rename_i s;have G:j<f.length:=aa;rw[P,dw,bz s,Array.getElem?_toList];simp only[Go.Sort.putCells,Array.getElem?_mapIdx]
     rw[show (⟨f.map (Value.int .i64)++r⟩:Array Value)[j]?=some (Value.int .i64 f[j]) by
      rw[tx,oJ (by simpa using G),dw,bz G];rfl]
     rw[cY,aj ⟨a2 _,aa⟩];rw[<- hD];simp;rw[oJ s,bz s];rfl
    rename_i s;rw[dQ (by simpa using s)]
   have Q:C.M b=none:=by
    cases N:C.M b with
    | none=>rfl
    | some l=>exact absurd K (R.apart b l N i _ O au)
   refine⟨⟨C.m,C.n,fun d=>if d=b then some L else C.M d⟩,?_,?_⟩;refine .inr ⟨b,0,E,rfl,aa,L,fun _=>aj rfl,?_,?_⟩;show 0+u.length*1<=_;omega;show dY _ u ((L.drop 0).take (u.length*1));rw[gT,tQ,A];exact Mh u;refine⟨⟨fun _ _ h=>⟨h,rfl⟩,fun d Z h=>?_⟩,fun _ _ h=>.inl h,fun i' d h=>?_,rfl,rfl,rfl,?_,fun d x2 h=>?_,fun _ h=>(nomatch h),fun _ h=>(nomatch h),fun p t q N _=>by simp at t N;rw[t,N],fun p t=>?_,fun d Z h=>?_⟩;show (if d=b then some L else C.M d)=some Z;rw[ah];exact h;intro e;subst e;rw[Q] at h;cases h;show d<(w.heap.modify b _).size;rw[Array.size_modify];exact R.bound i' d h;show w.heap.size<=(w.heap.modify b _).size;rw[Array.size_modify];exact aE _;have I:b≠d:=fun e=>h (i,[]) au (by subst e;exact K);show (w.heap.modify b _)[d]?=_;rw[qw,ah I];simp at t;subst t;exact⟨⟨_,O,au⟩,fun _ _ h=>absurd rfl h⟩;have g:(if d=b then some L else C.M d)=some Z:=h;clear h;by_cases e:d=b;rw[aj e] at g;have g:=jT g;subst e;subst g;refine .inr ⟨fun _ h=>(nomatch h),.inr ⟨(i,[]),au,K,rfl⟩,el,fr,?_⟩;rw[z,xS U];rw[ah e] at g;exact .inl g
  cases x
 cases x
open Go.IntKind(i64)
theorem Qi:enters Tryz.prog 26 Tryz.f26:=ek
abbrev NY:Func:=Tryz.f26
def NZ (a:List (List Int)) (g:Int × Int):St:=ar NY.ntmps 40 [(0,.is (.one (.ro (.sl iK) a))),(3,sI .i64 g.1),(9,.is (.one (.ro (.sl iK) a))),(10,sI .i64 a.length),(11,sI .i64 g.2)] []
def XU (a:List (List Int)) (g:Int × Nat × List Int):St:=ar NY.ntmps 88 [(6,.is (.one (.sl 48 0 0 g.2.1 1))),(25,.is (.one (.ro (.sl iK) a))),(26,sI .i64 a.length),(27,sI .i64 g.1)] [(48,[.ints .i64 g.2.1 g.2.2])]
def ju (a:List (List Int)) (k:Nat):List Int:=(a.take k).flatten
theorem IS {a:List (List Int)} {k:Nat} (h:k<a.length):ju a (k+1)=ju a k++a.getD k []:=by rw[ju,ju,List.take_add_one,bz h,tA,aX,bz h];simp
theorem CT (a:List (List Int)) (k:Nat):(ju a k).length<=a.flatten.length:=by
 have:a.flatten=ju a k++(a.drop k).flatten:=by rw[ju,<- tA,dR]
 rw[this,bb];omega
def ccJ (a:List (List Int)) (g:Int × Int):Prop:=∃ k:Nat,k<=a.length/\g.2=(k:Int)/\g.1=((ju a k).length:Int)
def ccN (a:List (List Int)) (g:Int × Nat × List Int):Prop:=∃ k:Nat,k<=a.length/\g.1=(k:Int)/\g.2.2=ju a k/\g.2.1=(ju a k).length
abbrev H7:HL [.sl (.sl iK)]->Prop:=fun (a,_)=>length a<=1000/\1<=(List.flatten a).length/\(List.flatten a).length<=1000
theorem SF:aL Tryz.prog 26 [.sl (.sl iK)] [.own iK] bx H7 (fun (a,_)=>(List.flatten a,())):=by
 have f:aD Tryz.prog (aP [(59,JX)]):=aJ aao bp;refine bI (sp:=aP [(59,JX)]) Qi ae ae ab ?_;rintro w L ⟨a,⟨⟩⟩;revert a;intro (a:List (List Int)) _ K;obtain⟨G,E,F⟩:=K;have G:a.length<=1000:=G;have E:1<=a.flatten.length:=E;have F:a.flatten.length<=1000:=F;show Tr _ _ _ _ _ _ _;refine bd f mixed 3 (NZ a (0,0)) True ?_ (fun _=>?_);refine al (X:=((NZ a (0,0)).ag True)) ab ?_;exact ao trivial;refine cd f mixed (fun d=>[]) (fun d=>(bg iK 3 d,bg iK 11 d)) (NZ a) (ccJ a) (fun g=>a.length-g.2.toNat)
  (fun d=>(bg iK 3 d,bg iK 11 d)) (NZ a) (fun g=>g.1=(a.flatten.length:Int)) (0,0) (c:=aq (ak NY) 3) ab ab (aw ab ab ?_) ?_ ?_
 exact⟨0,a2 _,rfl,rfl⟩
 ·rintro⟨s,i⟩ C;revert s i;intro (s:Int) (i:Int) ⟨k,H,j,q⟩;have j:i=(k:Int):=j;have q:s=((ju a k).length:Int):=q;subst j q;refine @al ((decide ((k:Int)<(a.length:Int))=true->(0<=(k:Int)/\(k:Int)<(a.length:Int))/\(k:Int).toNat<a.length/\(decide (i64.wrap ((↑(ju a k).length:Int)+(↑(a.getD (k:Int).toNat []).length:Int))<0)=true->False)/\(decide (i64.wrap ((↑(ju a k).length:Int)+(↑(a.getD (k:Int).toNat []).length:Int))<0)=false->(NZ a (i64.wrap ((↑(ju a k).length:Int)+(↑(a.getD (k:Int).toNat []).length:Int)),i64.wrap ((k:Int)+1))).ag (ccJ a (i64.wrap ((↑(ju a k).length:Int)+(↑(a.getD (k:Int).toNat []).length:Int)),i64.wrap ((k:Int)+1))/\a.length-(i64.wrap ((k:Int)+1)).toNat<a.length-(k:Int).toNat)))/\(decide ((k:Int)<(a.length:Int))=false->(NZ a ((↑(ju a k).length:Int),(k:Int))).ag ((↑(ju a k).length:Int)=(a.flatten.length:Int)))) _ ?_ ?_;kernel_rfl;rw[aB,aS aa];have A:=CT a k;refine⟨fun h=>?_,fun h=>ao ?_⟩
  ·have b:k<a.length:=by have:=Odt h;omega
   have x:=congrArg length (IS b);rw[bb] at x;have r:=CT a (k+1);have D:i64.wrap (((ju a k).length:Int)+((a.getD k []).length:Int))=((ju a k).length:Int)+((a.getD k []).length:Int):=ba aa aa;refine⟨⟨aa,aa⟩,b,fun h=>by have h:=Odt h;exact absurd h (by show ¬ i64.wrap (((ju a k).length:Int)+((a.getD k []).length:Int))<0;rw[D];omega),fun _=>ao ⟨⟨k+1,b,rfl,?_⟩,?_⟩⟩;show i64.wrap (((ju a k).length:Int)+((a.getD k []).length:Int))=_;rw[D];omega;show a.length-(((k:Nat):Int)+1).toNat<_;omega
  ·have:k=a.length:=by have:=Odf h;omega
   subst this;rw[ju,aV]
 rintro⟨s,i⟩ C;revert s i;intro (s:Int) (i:Int) (q:s=(a.flatten.length:Int));subst q;refine bd f mixed 2 (XU a (0,0,[])) True ?_ (fun _=>?_);refine al (X:=((1<=(a.flatten.length:Int)/\(a.flatten.length:Int)<=1000)/\(XU a (0,0,[])).ag True)) ab ?_;exact⟨⟨aa,aa⟩,ao trivial⟩;refine cd f mixed (fun d=>[(48,Mg 6 d)]) (fun d=>(bg iK 27 d,ou 6 d,cU iK 48 d)) (XU a) (ccN a) (fun g=>a.length-g.1.toNat)
  (fun d=>(ou 6 d,cU iK 48 d)) (fun g=>ar NY.ntmps 88 [(6,.is (.one (.sl 48 0 0 g.1 1)))] [(48,[.ints .i64 g.1 g.2])]) (fun g=>g.1=a.flatten.length/\g.2=a.flatten) (0,0,[]) (c:=aq (ak NY) 6) ab ab (aw ab ab ?_) ?_ ?_
 exact⟨0,a2 _,rfl,rfl,rfl⟩
 ·rintro⟨i,m,l⟩ C;revert i l;intro (i:Int) (l:List Int) ⟨k,H,n,o,p⟩;have j:i=(k:Int):=n;have t:l=ju a k:=o;have y:m=(ju a k).length:=p;clear n o p;subst j;refine @al ((decide ((k:Int)<(a.length:Int))=true->(0<=(k:Int)/\(k:Int)<(a.length:Int))/\(k:Int).toNat<a.length/\m<=m/\(m+(a.getD (k:Int).toNat []).length)*8<=140737488355328/\m+(a.getD (k:Int).toNat []).length<=4611686018427387904/\(XU a (i64.wrap ((k:Int)+1),m+(a.getD (k:Int).toNat []).length,take m l++a.getD (k:Int).toNat [])).ag (ccN a (i64.wrap ((k:Int)+1),m+(a.getD (k:Int).toNat []).length,take m l++a.getD (k:Int).toNat [])/\a.length-(i64.wrap ((k:Int)+1)).toNat<a.length-(k:Int).toNat))/\(decide ((k:Int)<(a.length:Int))=false->(ar NY.ntmps 88 [(6,SV.is (TV.one (Cell.sl 48 0 0 (m,l).fst 1)))] [(48,[Cell.ints i64 (m,l).fst (m,l).snd])]).ag (m=a.flatten.length/\l=a.flatten))) _ ?_ ?_;kernel_rfl;rw[aB,aS aa];have A:=CT a k;have I:l.length=m:=by rw[t,y]
  refine⟨fun h=>?_,fun h=>ao ?_⟩
  ·have b:k<a.length:=by have:=Odt h;omega
   have x:=IS b;have FY:=congrArg length x;rw[bb] at FY;have r:=CT a (k+1);refine⟨⟨aa,aa⟩,b,aE _,aa,aa,ao ⟨⟨k+1,b,rfl,?_,?_⟩,?_⟩⟩;show take m l++a.getD k []=_;rw[bQ aa,x,t];show m+(a.getD k []).length=_;omega;show a.length-(((k+1:Nat):Int)).toNat<_;omega
  ·have:k=a.length:=by have:=Odf h;omega
   subst this;have e:ju a a.length=a.flatten:=by rw[ju,aV]
   rw[e] at y t;exact⟨y,t⟩
 rintro⟨m,l⟩ C;revert l;intro (l:List Int) ⟨z,u⟩;have z:m=a.flatten.length:=z;have u:l=a.flatten:=u;refine bE f mixed _ _ ?_;refine @al (0+m<=m/\(take m l,())=(a.flatten,())) _ ?_ ?_;kernel_rfl;refine⟨aa,?_⟩;rw[bQ (by rw[u,z];exact aE _),u]
def W7:Nat × Eng.Spec:=(26,aH [.sl (.sl iK)] [.own iK] H7 (fun (a,_)=>(List.flatten a,())))
end YtofofalgjibokaaGreatDoor.cpg
namespace YtofofalgjibokaaGreatDoor.rite
open Go.IntKind(i64 u64 u8)
open Go.IntKind(i64)
set_option maxHeartbeats 4000000
open hub deal
open Go.Hbn(Talk a5 eF)
def iw (mem:List Int) (k:Nat):Int:=if k=0 then 0 else mem.getD (k-1) 0
def lE (mem:List Int) (k:Nat):Prop:=∀ j,j<k->iw mem j<mem.getD j 0/\mem.getD j 0<=9
def vF (a:Int) (mem:List Int):Prop:=lE mem mem.length/\a∈mem
theorem KL:enters Tryz.prog 28 Tryz.f28:=ek
abbrev mG:Func:=Tryz.f28
abbrev V5:=aP [law22.ko,YQ]
theorem lh:aD Tryz.prog V5:=aJ (aM law22.lW) (aJ (aM KQ) bp)
abbrev Yf:Code:=aq (ak mG) 3
abbrev hnB:List Code:=da (aq (aZ Yf) 2)
def yz (b:Int) (mem:List Int) (l k:Int) (a:List (Nat × SV)):St:=ar mG.ntmps 8 ([(0,sI .i64 b),(1,.is (.one (.ro iK mem))),(5,sI .i64 l),(8,.is (.one (.ro iK mem))),(9,sI .i64 mem.length),(10,sI .i64 k)]++a) []
def hnE (b:Int) (mem:List Int) (a:List (Nat × SV)):St:=ar mG.ntmps 8 ([(0,sI .i64 b),(1,.is (.one (.ro iK mem)))]++a) []
def hnG (a:Int) (n:Nat) (mem:List Int):St:=ar mG.ntmps 25 [(27,sI .i64 a),(29,.is (.one (.sl 24 0 0 n 1)))] [(24,[.ints .i64 n mem])]
def hnH (a:Int) (n:Nat) (mem:List Int) (b:Nat):St:=ar mG.ntmps 66 [(4,.is (.one (.ptr 65 0)))] [(65,[.v (.int .i64 a),.sl 24 0 0 n 1,.v (.map (some b))]),(24,[.ints .i64 n mem])]
section
variable (gl:Nat->Option (Sigma aA)) (w0:World) (M0:Mem) (F0:Nat->Prop)
abbrev Yg:Ob.b5:=Ob.kO Tryz.prog V5 gl w0 M0 F0
end
theorem SR {mem:List Int} {k:Nat} (a:k<mem.length) (h:¬ (iw mem k<mem.getD k 0/\mem.getD k 0<=9)):¬ lE mem mem.length:=fun g=>h (g k a)
theorem Qx {mem:List Int} {k:Nat} (a:lE mem k) (h:iw mem k<mem.getD k 0/\mem.getD k 0<=9):lE mem (k+1):=fun j b=>by
 rcases bN j k with h2|h2;exact a j h2
 ·have:j=k:=by omega
  rw[this];exact h
theorem aan {mem:List Int} {k:Nat} {q:Int} (b:lE mem k) (d:q=mem.getD k 0) (a:(decide (q<=iw mem k)||decide (q>9))=false):lE mem (k+1):=by rw[wz] at a;have e:=Odf a.1;have f:=Odf a.2;exact Qx b (by rw[<- d];omega)
theorem aam {mem:List Int} {k:Nat} {q:Int} (a:k<mem.length) (b:q=mem.getD k 0) (hb:(decide (q<=iw mem k)||decide (q>9))=true):¬ lE mem mem.length:=by rw[oD] at hb;refine SR a fun g=>?_;rw[<- b] at g;rcases hb with hb|hb;have:=Odt hb;omega;have:=Odt hb;omega
theorem aaN (gl:Nat->Option (Sigma aA)):Ob.dG Tryz.prog gl 28 (fun z:Int × List Int=>[sI .i64 z.1,.is (.one (.ro iK z.2))]) (fun z=>z.2.length<1000) (fun _=>Ob.ai.none) (fun _ (y:Option (Nat × Nat))=>match y with|some q=>aG q.1|none=>dg) (fun z y=>match y with|some q=>bu ⟨q.1,q.2,z.1,z.2,[]⟩|none=>Ob.ai.none) (fun z y=>match y with|some _=>vF z.1 z.2|none=>¬ vF z.1 z.2):=by
 refine Ob.cA (sp:=V5) KL ab (fun z=>by show 2<=mG.ntmps;exact Odt ab) (fun z y=>by cases y<;>rfl) ?_;rintro⟨d,mem⟩ t w0 M0 F0;have t:mem.length<1000:=t;refine Ob.ee lh 3 (yz d mem (iw mem 0) 0 []) ?_;refine Ob.K9 lh mixed (c:=Yf) (fun k=>yz d mem (iw mem k) (k:Int) []) (fun _=>Ob.ai.none) (fun k=>lE mem k) mem.length ab ab (fun j i=>absurd i (wQ _)) (fun k r w ids M num=>?_) (fun k r i=>?_) (fun i=>?_);refine al (X:=((decide ((k:Int)<(mem.length:Int))=true->(yz d mem (iw mem k) (k:Int) []).ag (k<mem.length))/\(decide ((k:Int)<(mem.length:Int))=false->(yz d mem (iw mem k) (k:Int) []).ag (k=mem.length)))) ab ?_;exact⟨fun h=>ao (by have:=dec_lt h;omega),fun h=>ao (by have:=bW h;omega)⟩
 ·refine Ob.eR (E:=Yg gl w0 M0 F0) (c:=aq (aZ Yf) 2) (fun a w=>lE mem (k+1)/\Ob.GH (Yg gl w0 M0 F0) mG.ntmps (yz d mem (iw mem (k+1)) (k:Int) []) Ob.ai.none a w) ab ab ?_ ?_
  ·refine Ob.gcd lh 1 (fun g=>bg iK 7 g) (fun q=>yz d mem (iw mem k) (k:Int) [(7,sI .i64 q)]) (fun q=>q=mem.getD k 0) ?_ (fun q n=>?_);intro w ids M num;refine @al ((0<=(k:Int)/\(k:Int)<(mem.length:Int))/\(k:Int).toNat<mem.length/\(yz d mem (iw mem k) (k:Int) [(7,sI IntKind.i64 (mem.getD (k:Int).toNat 0))]).ag (mem.getD (k:Int).toNat 0=mem.getD k 0)) _ ?_ ?_;kernel_rfl;rw[aB];exact⟨⟨aa,aa⟩,r,ao rfl⟩;refine Ob.kH lh mixed 1 20 (fun g=>bg .bool 20 g) (fun b=>yz d mem (iw mem k) (k:Int) [(7,sI .i64 q),(20,av b)]) (fun b=>b=(decide (q<=iw mem k)||decide (q>9))) (fun _=>False) (fun _ _=>False) ?_ (fun b f=>?_) (fun _ _ _ h _=>h.elim) (fun _ _ _ _ h _=>h.elim);intro w ids M num;refine @al ((decide (q<=iw mem k)=true->(yz d mem (iw mem k) (k:Int) [(7,sI IntKind.i64 q),(20,av true)]).ag (true=(decide (q<=iw mem k)||decide (q>(9:aA iK)))))/\(decide (q<=iw mem k)=false->(yz d mem (iw mem k) (k:Int) [(7,sI IntKind.i64 q),(20,av (decide (q>9)))]).ag (decide (q>9)=(decide (q<=iw mem k)||decide (q>(9:aA iK)))))) _ ?_ ?_;kernel_rfl;exact⟨fun h=>ao (by rw[h];rfl),fun h=>ao (by rw[h];rfl)⟩;have m:(q:Int)=mem.getD k 0:=n;cases b
   ·have f:=f.symm;refine Ob.eQ (aq hnB 2) ?_;refine Ob.ee lh 1 (yz d mem q (k:Int) []) ?_;refine Ob.cF fun a w o=>⟨aan (q:=q) i m f,?_⟩;have e:iw mem (k+1)=q:=by rw[n];rfl
    rw[e];exact o
   have f:=f.symm;refine Ob.jx (aq hnB 2) ?_;refine Ob.gF lh mixed dg ?_ ⟨none,fun h=>aam (q:=q) r m f h.1,Ob.a7 _,rfl⟩;intro w ids M num;refine @al (SV.is (TV.one (Cell.v (Value.pointer none)))=dg) _ ?_ ?_;kernel_rfl;rfl
  intro a w u o C D F;obtain⟨x,A⟩:=o;refine Ob.vd (l:=(aZ Yf).drop 3) lh mixed 1 (fun g=>bg iK 10 g) (fun q=>yz d mem (iw mem (k+1)) q []) (fun q=>q=((k+1:Nat):Int)) (fun _=>False) (fun _ _=>False) ?_ (fun q n=>?_) (fun _ _ _ h _=>h.elim) (fun _ _ _ _ h _=>h.elim) a w u A C D F;intro w ids M num;refine @al ((yz d mem (iw mem (k+1)) (IntKind.i64.wrap ((k:Int)+1)) []).ag (IntKind.i64.wrap ((k:Int)+1)=(↑(k+1):Int))) _ ?_ ?_;kernel_rfl;exact ao (aS aa);subst n;exact Ob.cF fun _ _ h=>⟨x,h⟩
 refine Ob.gcd lh 1 (fun g=>bg .bool 26 g) (fun b=>hnE d mem [(26,av b)]) (fun b=>b=!decide (d∈mem)) ?_ (fun b f=>?_);intro w ids M num;refine @al (law22.hZ (mem,d,())/\(hnE d mem [(26,av !decide (d∈mem))]).ag ((!decide (d∈mem))=!decide (d∈mem))) _ ?_ ?_;kernel_rfl;exact⟨by show mem.length<_;omega,ao rfl⟩;cases b
 ·have s:d∈mem:=by
   have:decide (d∈mem)=true:=by cases h:decide (d∈mem) with|true=>rfl|false=>rw[h] at f;cases f
   exact Odt this
  refine Ob.eQ (aq (ak mG) 5) ?_;refine Ob.dB 11 (bo (aq (ak mG) 6)) ?_;refine Ob.fD lh 3 (fun _=>()) (fun _=>hnG d mem.length mem) (fun _=>True) ?_ (fun _ _=>?_);intro w ids M num;refine @al (rV (mem,())/\(hnG d mem.length mem).ag True) _ ?_ ?_;kernel_rfl;exact⟨by show mem.length<_;omega,ao trivial⟩;refine Ob.gK (Ob.ft (E:=Yg gl w0 M0 F0) (sv:=fun b:Nat=>.is (.one (.v (.map (some b))))) (G2:=fun b=>Ob.fP b []) (J:=fun _=>True) ab ?_) (fun b _=>?_);rw[show Ob.jo (bo (aq (ak mG) 6)) 3=.makeMap 118 none from by kernel_rfl];exact Ob.HY;refine Ob.c7 lh 7 (hnH d mem.length mem b) (Ob.dv ?_);refine Ob.sM [.v (.int .i64 d)] 65 24 mem.length 1 (.int .i64) mem (.ints .i64 mem.length mem) [.v (.map (some b))] ae Ob.xc rfl rfl rfl ?_;refine Ob.CY (E:=Yg gl w0 M0 F0) (bl:=[c5 d mem b]) 4 [] [65] rfl ab ab rfl ab rfl ab (fun p=>ar mG.ntmps 8 [(4,aG p)] []) (fun p=>aw ab ab trivial) (fun p=>?_);refine Ob.g9 lh mixed (aG p) ?_ ⟨some (p,b),⟨i,s⟩,Ob.a7 _,?_⟩;intro w ids M num;refine @al (SV.is (TV.one (Cell.v (Value.pointer (some { block:=p,off:=0 }))))=aG p) _ ?_ ?_;kernel_rfl;rfl;show Ob.ai.obj [c5 d mem b] p (Ob.fP b [])=bu ⟨p,b,d,mem,[]⟩;rw[Ob.bB];unfold bu;show _=Ob.ai.sep _ (Ob.ai.sep (fm b []) (fu []));rw[show fu []=Ob.ai.none from rfl,Ob.qu];rfl
 ·have s:¬ d∈mem:=by
   have:decide (d∈mem)=false:=by cases h:decide (d∈mem) with|false=>rfl|true=>rw[h] at f;cases f
   exact Odf this
  refine Ob.jx (aq (ak mG) 5) ?_;refine Ob.gF lh mixed dg ?_ ⟨none,fun h=>s h.2,Ob.a7 _,rfl⟩;intro w ids M num;refine @al (SV.is (TV.one (Cell.v (Value.pointer none)))=dg) _ ?_ ?_;kernel_rfl;rfl
set_option maxHeartbeats 4000000
theorem vD {E:Ob.b5} {N:Nat} {n r:Act->World->Prop} {x:Nat->Act->World->Prop} {l:List Code} {b:St} {G:Ob.ai} (id:Nat) (cell:Cell) (f c:List Cell) (o:b.B id=some f) (i:f≠[]) (g:∀ (k:ay) (j:List Value),ax k f j->ax k c j)
  (m:Ob.aK E.P l (Ob.GH E N ⟨b.slots,(id,c)::(b.next,[cell])::b.blks,b.next+1⟩ G) n r x):Ob.aK E.P l (Ob.GH E N b G) n r x:=by
 refine Ob.mE (P:=E.P) (l1:=[]) (l2:=l) (Ob.GH E N ⟨b.slots,(id,c)::(b.next,[cell])::b.blks,b.next+1⟩ G) ?_ m;refine Ob.vE (fun d=>d=⟨b.slots,(id,c)::(b.next,[cell])::b.blks,b.next+1⟩) (fun _=>False) (fun _ _=>False) (fun w ids M num=>?_) (fun d a w e q=>e▸q) (fun _ _ _ h _=>h.elim) (fun _ _ _ _ h _=>h.elim);exact Ob.PI id cell f c o i g (ke rfl)
theorem HD:enters Tryz.prog 8 Tryz.f8:=ek
abbrev vN:Func:=Tryz.f8
theorem acV:aL Tryz.prog 30 [.sl iK] [.val (.sl iK)] bx rV (fun (c,_)=>(c,())):=KQ.AE
def af7:Nat × Eng.Spec:=(30,aH [.sl iK] [.val (.sl iK)] rV (fun (c,_)=>(c,())))
theorem acU:aL Tryz.prog 32 [.sl .fr] [.val (.sl .fr)] bx Gu (fun (c,_)=>(c,())):=acr.AE
def af6:Nat × Eng.Spec:=(32,aH [.sl .fr] [.val (.sl .fr)] Gu (fun (c,_)=>(c,())))
theorem acW:aL Tryz.prog 31 [.sl aN] [.val (.sl aN)] bx o5 (fun (c,_)=>(c,())):=Er.AE
def af8:Nat × Eng.Spec:=(31,aH [.sl aN] [.val (.sl aN)] o5 (fun (c,_)=>(c,())))
theorem VS:aL Tryz.prog 24 [dU] [.val (.int .i64)] bx Gw (fun ((d,t,n,o),_)=>(eS (mi d t n o),())):=VJ.out fun ((d,t,n,o),_)=>by show (eS (mi d t n o),())=(mi d t n o,());rw[bf]
def abl:Nat × Eng.Spec:=(24,aH [dU] [.val (.int .i64)] Gw (fun ((d,t,n,o),_)=>(eS (mi d t n o),())))
abbrev Wt:=aP [abl,law22.ko,cpg.W7,sorti.aeX,(29,cpg.Qc),af7,af8,af6]
theorem iF:aD Tryz.prog Wt:=aJ (aM VS) (aJ (aM law22.lW) (aJ (aM cpg.SF) (aJ (zp sorti.aaa) (aJ cpg.Zs (aJ (aM acV) (aJ (aM acW) (aJ (aM acU) bp)))))))
structure iT where
 me:Int
 d:List Int
 t:List Int
 need:Int
 old:List Pt
 aY:List Fr
 start:Int
 span:Int
def iT.args (z:iT):List SV:=[sI .i64 z.me,.is (.agg [.ro iK z.d,.ro iK z.t,.v (.int .i64 z.need),.ro aN z.old]),.is (.one (.ro .fr z.aY)),sI .i64 z.start,sI .i64 z.span]
def iT.mem (z:iT):List Int:=Lib.compact (sorti.gW (z.d++z.t))
def iT.bad (z:iT):Bool:=(eS (mi z.d z.t z.need z.old) != 0)||decide (z.span<1)||decide (z.span>1048576)||decide (z.start<0)||decide (z.start>1099511627776)
def iT.pT (z:iT):Bool:=decide (z.me∈z.d)&&((z.aY.length:Int) != z.need)
theorem abT {z:iT} (h:decide (z.me∈z.d)=true):((z.aY.length:Int) != z.need)=z.pT:=by unfold iT.pT;rw[h];rfl
theorem abS {z:iT} (h:decide (z.me∈z.d)=false):false=z.pT:=by unfold iT.pT;rw[h];rfl
structure iT.Pre (z:iT):Prop where
 len:z.d.length+z.t.length<=12
 mem:z.mem.length<1000
 old:z.old.length<1000
 aY:z.aY.length<1000
theorem afo {z:iT} (h:z.bad=false):1<=z.d.length:=by unfold iT.bad at h;simp only[wz] at h;have a:(eS (mi z.d z.t z.need z.old) != 0)=false:=h.1.1.1.1;rw[bf] at a;by_cases b:z.d.length=0;unfold mi at a;simp[b] at a;omega
def oo (z:iT) (next:Nat) (a:List (Nat × SV)) (bl:List (Nat × List Cell)):St:=ar vN.ntmps next ([(0,sI .i64 z.me),(2,.is (.one (.ro .fr z.aY))),(3,sI .i64 z.start),(4,sI .i64 z.span),(6,.is (.one (.ptr 0 0)))]++a) ((0,[.ro iK z.d,.ro iK z.t,.v (.int .i64 z.need),.ro aN z.old])::bl)
abbrev nl:Cell:=.v (.slice none 0 0)
abbrev zK:List Cell:=[nl,nl,nl,nl,nl]
abbrev uf (z:iT) (c:Cell) (l t:List Cell):List Cell:=[.v (.int .i64 z.me),.ro iK z.d,.ro iK z.t,.v (.int .i64 z.need),.ro aN z.old,.ro .fr z.aY,.v (.int .i64 z.start),.v (.int .i64 z.span),.v (.int .i64 0),c]++(l++t)
abbrev Ve:List Cell:=[nl,nl]++(replicate 4 (.v (.int .u64 0))++replicate 32 (.v (.int .u8 0)))
def nwT (z:iT) (a:Nat):St:=ar vN.ntmps 177 [(10,.is (.one (.ptr 161 0)))] [(161,uf z (.ptr 96 0) zK (Ve++[.v (.int .i64 0)])),(96,c5 z.me z.mem a)]
def nwU (z:iT) (a:Nat):St:=ar vN.ntmps 177 [(10,.is (.one (.ptr 161 0)))] [(161,uf z (.v (Ob.pt a)) zK (bh++[.v (.int .i64 0)]))]
abbrev kV (id c:Nat):Cell:=.sl id 0 0 0 c
def nwV (z:iT) (a:Nat):St:=ar vN.ntmps 182 [(10,.is (.one (.ptr 161 0)))] [(161,uf z (.v (Ob.pt a)) [kV 177 2,kV 178 2,kV 179 6,kV 180 1,kV 181 4] (bh++[.v (.int .i64 0)])),(177,[.row cl 0 []]),(178,[.row cu 0 []]),(179,[.row cz 0 []]),(180,[.ints .i64 0 []]),(181,[.row .fr 0 []])]
theorem pa {d:ay} {c c':Cell} (h:∀ v,c.rel d v->c'.rel d v) (post:List Cell):∀ (pre:List Cell) (l:List Value),ax d (pre++c::post) l->ax d (pre++c'::post) l
 | [],_,⟨a,b,e,f,g⟩=>⟨a,b,e,h a f,g⟩
 | _::pre,_,⟨a,b,e,f,g⟩=>⟨a,b,e,f,pa h post pre b g⟩
theorem yP {a:ay} (id c:Nat):∀ v,nl.rel a v->(kV id c).rel a v:=fun _ h=>.inl ⟨rfl,h.1⟩
theorem Pc {a:ay} {cs cs':List Cell} (h:∀ l,ax a cs l->ax a cs' l):∀ (pre:List Cell) (l:List Value),ax a (pre++cs) l->ax a (pre++cs') l
 | [],l,g=>h l g
 | _::pre,_,⟨i,b,e,d,f⟩=>⟨i,b,e,d,Pc h pre b f⟩
theorem Ij {b:ay} (k:IntKind) (post:List Cell):∀ (n:Nat) (l:List Value),ax b (replicate n (.v (.int k 0))++post) l->ax b (.ints k n (replicate n 0)::post) l
 | 0,l,h=>⟨[],l,rfl,⟨rfl,rfl⟩,h⟩
 | n+1,l,⟨o,p,e,a,f⟩=>by obtain⟨j,m,d,⟨_,g⟩,i⟩:=Ij k post n p f;have a:o=[.int k 0]:=a.1;refine⟨.int k 0::j,m,?_,⟨au,?_⟩,i⟩;rw[e,a,d];rfl;rw[g];rfl
theorem ad7 (z:iT) (f:Nat) (g:ay) (h:g 96=some f) (l:List Value) (a:ax g (uf z (.ptr 96 0) zK (Ve++[.v (.int .i64 0)])) l):ax g (uf z (.v (Ob.pt f)) zK (bh++[.v (.int .i64 0)])) l:=by
 have a:=pa (c:=.ptr 96 0) (c':=.v (Ob.pt f)) (fun v n=>by
  obtain⟨i,b,m⟩:∃ i,g 96=some i/\v=[.pointer (some ⟨i,0,none⟩)]:=n;rw[h] at b;cases b
  exact⟨m,rfl⟩) (zK++(Ve++[.v (.int .i64 0)])) [.v (.int .i64 z.me),.ro iK z.d,.ro iK z.t,.v (.int .i64 z.need),.ro aN z.old,.ro .fr z.aY,.v (.int .i64 z.start),.v (.int .i64 z.span),.v (.int .i64 0)] l a
 refine Pc (cs:=replicate 4 (.v (.int .u64 0))++(replicate 32 (.v (.int .u8 0))++[.v (.int .i64 0)])) (cs':=.ints .u64 4 [0,0,0,0]::.ints .u8 32 (replicate 32 0)::[.v (.int .i64 0)]) (fun l a=>?_) (uf z (.v (Ob.pt f)) zK [nl,nl]) l a;obtain⟨o,j,e,b,k⟩:=Ij .u64 _ 4 l a;exact⟨o,j,e,b,Ij .u8 _ 32 j k⟩
theorem Li (c a:Nat) (b:Int) (mem:List Int):Ob.ai.obj [c5 b mem a] c (Ob.fP a [])=bu ⟨c,a,b,mem,[]⟩:=by rw[Ob.bB];unfold bu;show _=Ob.ai.sep _ (Ob.ai.sep (fm a []) (fu []));rw[show fu []=Ob.ai.none from rfl,Ob.qu];rfl
section
variable (gl:Nat->Option (Sigma aA)) (w0:World) (M0:Mem) (F0:Nat->Prop)
abbrev DY:Ob.b5:=Ob.kO Tryz.prog Wt gl w0 M0 F0
end
theorem Tt (gl:Nat->Option (Sigma aA)):Ob.dG Tryz.prog gl 8 iT.args iT.Pre (fun _=>Ob.ai.none) (fun _ (y:Option (Nat × Nat × Nat))=>match y with|some q=>aG q.1|none=>dg)
  (fun z y=>match y with|some q=>fB.ef ⟨⟨⟨q.1,z.me,z.d,z.t,z.need,z.old,z.aY,z.start,z.span,0,q.2.1,[],[],[],[],[],0⟩,⟨q.2.1,q.2.2,z.me,z.mem,[]⟩⟩,false⟩|none=>Ob.ai.none)
  (fun z y=>match y with|some _=>z.bad=false/\z.pT=false/\vF z.me z.mem|none=>¬ (z.bad=false/\z.pT=false/\vF z.me z.mem)):=by
 refine Ob.cA (sp:=Wt) HD ab (fun z=>by show 5<=vN.ntmps;exact Odt ab) (fun z y=>by cases y<;>rfl) ?_;rintro z x w0 M0 F0;have I:=x.len;refine Ob.ee iF 1 (oo z 16 [] []) ?_;refine Ob.kH iF mixed 1 31 (fun o=>bg .bool 31 o) (fun b=>oo z 16 [(31,av b)] []) (fun b=>b=z.bad) (fun _=>False) (fun _ _=>False) ?_ (fun b i=>?_) (fun _ _ _ h _=>h.elim) (fun _ _ _ _ h _=>h.elim);intro w ids M num;refine @al (Gw ((z.d,z.t,z.need,z.old),())/\((eS (mi z.d z.t z.need z.old) != 0)=true->(oo z 16 [(31,av true)] []).ag (true=z.bad))/\((eS (mi z.d z.t z.need z.old) != 0)=false->(decide (z.span<1)=true->(oo z 16 [(31,av true)] []).ag (true=z.bad))/\(decide (z.span<1)=false->(decide (z.span>1048576)=true->(oo z 16 [(31,av true)] []).ag (true=z.bad))/\(decide (z.span>1048576)=false->(decide (z.start<0)=true->(oo z 16 [(31,av true)] []).ag (true=z.bad))/\(decide (z.start<0)=false->(oo z 16 [(31,av (decide (z.start>1099511627776)))] []).ag (decide (z.start>1099511627776)=z.bad)))))) _ ?_ ?_;kernel_rfl;refine⟨⟨by show z.d.length<_;omega,by show z.t.length<_;omega⟩,fun h=>ao (by unfold iT.bad;rw[h];simp),fun h=>⟨fun r=>ao (by unfold iT.bad;rw[h,r];simp),fun r=>⟨fun s=>ao (by unfold iT.bad;rw[h,r,s];simp),fun s=>⟨fun D=>ao (by unfold iT.bad;rw[h,r,s,D];simp),fun D=>ao (by unfold iT.bad;rw[h,r,s,D];simp)⟩⟩⟩⟩;have i:b=z.bad:=i;cases b
 ·have i:=i.symm;have K:=afo i;refine Ob.eQ (aq (ak vN) 2) ?_;refine Ob.kH iF mixed 1 42 (fun o=>bg .bool 42 o) (fun b=>oo z 16 [(42,av b)] []) (fun b=>b=z.pT) (fun _=>False) (fun _ _=>False) ?_ (fun H c=>?_) (fun _ _ _ h _=>h.elim) (fun _ _ _ _ h _=>h.elim);intro w ids M num;refine @al (law22.hZ (z.d,z.me,())/\(decide (z.me∈z.d)=true->(oo z 16 [(42,av ((z.aY.length:Int) != z.need))] []).ag (((z.aY.length:Int) != z.need)=z.pT))/\(decide (z.me∈z.d)=false->(oo z 16 [(42,av false)] []).ag (false=z.pT))) _ ?_ ?_;kernel_rfl;exact⟨by show z.d.length<_;omega,fun h=>ao (abT h),fun h=>ao (abS h)⟩;have c:H=z.pT:=c;cases H
  ·have c:=c.symm;refine Ob.eQ (aq (ak vN) 4) ?_;refine Ob.gcd iF 1 (fun o=>(ou 11 o,cU iK 56 o)) (fun g:Nat × List Int=>oo z 72 [(11,.is (.one (.sl 56 0 0 g.1 1)))] [(56,[.ints .i64 g.1 g.2])]) (fun g=>g.1=z.d.length+z.t.length/\g.2=z.d++z.t) ?_ (fun g L=>?_);intro w ids M num;refine @al (0+2<=2/\cpg.H7 (take 2 [z.d,z.t],())/\(oo z 72 [(11,SV.is (TV.one (Cell.sl 56 0 0 (((take 2 [z.d,z.t]).flatten,()).fst.length,((take 2 [z.d,z.t]).flatten,()).fst).fst 1)))] [(56,[Cell.ints IntKind.i64 (((take 2 [z.d,z.t]).flatten,()).fst.length,((take 2 [z.d,z.t]).flatten,()).fst).fst (((take 2 [z.d,z.t]).flatten,()).fst.length,((take 2 [z.d,z.t]).flatten,()).fst).snd])]).ag ((take 2 [z.d,z.t]).flatten.length=z.d.length+z.t.length/\(take 2 [z.d,z.t]).flatten=z.d++z.t)) _ ?_ ?_;kernel_rfl;have e:(take 2 [z.d,z.t]).flatten=z.d++z.t:=au;have C:(z.d++z.t).length=z.d.length+z.t.length:=bb;refine⟨aE _,⟨by show 2<=1000;decide,?_,?_⟩,ao ⟨by rw[e,C],e⟩⟩;show 1<=(take 2 [z.d,z.t]).flatten.length;rw[e,C];omega;show (take 2 [z.d,z.t]).flatten.length<=1000;rw[e,C];omega;obtain⟨m,l⟩:=g;obtain⟨G,u⟩:=L;have G:m=z.d.length+z.t.length:=G;have u:l=z.d++z.t:=u;have O:l.length=m:=by rw[u,G,bb]
   refine Ob.gcd iF 1 (fun _=>()) (fun _=>oo z 72 [(11,.is (.one (.sl 56 0 0 m 1)))] [(56,[.ints .i64 m (sorti.gW l)])]) (fun _=>True) ?_ (fun _ _=>?_);intro w ids M num;refine @al (m=m/\0<m/\sorti.H9 (l,())/\(oo z 72 [(11,SV.is (TV.one (Cell.sl 56 0 0 m 1)))] [(56,[Cell.ints IntKind.i64 m (sorti.gW l)])]).ag True) _ ?_ ?_;kernel_rfl;exact⟨rfl,aa,by show l.length<=12;omega,ao trivial⟩;refine Ob.dB 7 (bo (aq (ak vN) 7)) ?_;refine Ob.fD iF 3 (fun _=>()) (fun _=>oo z 96 [(51,sI .i64 z.me),(53,.is (.one (.ro iK (Lib.compact (sorti.gW l)))))] []) (fun _=>True) ?_ (fun _ _=>?_);intro w ids M num;refine @al (m=m/\0<m/\m<=1000/\(oo z 96 [(51,sI IntKind.i64 z.me),(53,SV.is (TV.one (Cell.ro iK (Lib.compact (sorti.gW l)))))] []).ag True) _ ?_ ?_;kernel_rfl;exact⟨rfl,aa,aa,ao trivial⟩;rw[show Lib.compact (sorti.gW l)=z.mem by rw[u];rfl];refine Ob.gK (Ob.fS (E:=DY gl w0 M0 F0) (aaN gl) (z.me,z.mem) x.mem ab KL ab ab (fun y=>by cases y<;>rfl)) (fun y n=>?_);cases y with
   | none =>have n:¬ vF z.me z.mem:=n;refine Ob.c7 iF 5 (oo z 96 [(12,dg)] []) (Ob.dv ?_);refine Ob.ee iF 1 (oo z 96 [(56,.is (.one .T))] []) ?_;have f:¬ (z.bad=false/\z.pT=false/\vF z.me z.mem):=fun h=>n h.2.2;refine Ob.gqT (aq (ak vN) 9) ?_;refine Ob.gF iF mixed dg ?_ ⟨none,f,Ob.a7 _,rfl⟩;intro w ids M num;refine @al (SV.is (TV.one (Cell.v (Value.pointer none)))=dg) _ ?_ ?_;kernel_rfl;rfl
   | some q =>obtain⟨a,j⟩:=q;have n:vF z.me z.mem:=n;refine Ob.c7 iF 5 (oo z 96 [(12,aG a)] []) (Ob.dv ?_);refine Ob.dB 8 (bo (aq (ak vN) 8)) ?_;refine Ob.c7 iF 1 (oo z 96 [(12,aG a),(55,aG a)] []) ?_;refine Ob.gK (Ob.ft (E:=DY gl w0 M0 F0) (sv:=fun _:Unit=>.is (.one .F)) (G2:=fun _=>bu ⟨a,j,z.me,z.mem,[]⟩) (J:=fun _=>True) ab ?_) (fun _ _=>?_);rw[show Ob.jo (bo (aq (ak vN) 8)) 1=.binOp .eql 78 (.tmp 55) (.const (.pointer none)) 78 from by kernel_rfl];exact Ob.xi (p:=a) MH ab ab;refine Ob.dv ?_;refine Ob.SS (aq (ak vN) 9) ?_;refine Ob.gA (oo z 96 [(12,aG a)] []) ?_;refine Ob.gcd iF 3 (fun _=>()) (fun _=>oo z 96 [(12,aG a)] []) (fun _=>True) ?_ (fun _ _=>?_);intro w ids M num;refine @al (rV (z.d,())/\rV (z.t,())/\o5 (z.old,())/\(oo z 96 [(12,aG a)] []).ag True) _ ?_ ?_;kernel_rfl;exact⟨by show z.d.length<_;omega,by show z.t.length<_;omega,by have:=x.old;show z.old.length<_;omega,ao trivial⟩;refine Ob.aO (G':=Ob.ai.obj [c5 z.me z.mem j] a (Ob.fP j [])) (Li a j z.me z.mem).symm ?_;refine Ob.gZ [12] (oo z 97 [(12,.is (.one (.ptr 96 0)))] [(96,c5 z.me z.mem j)]) ?_;refine Ob.gcd iF 1 (fun _=>()) (fun _=>nwT z j) (fun _=>True) ?_ (fun _ _=>?_);intro w ids M num;refine @al (Gu (z.aY,())/\(nwT z j).ag True) _ ?_ ?_;kernel_rfl;exact⟨by have:=x.aY;show z.aY.length<_;omega,ao trivial⟩;refine Ob.nZ (fun _ _ N=>Ob.K4 (E:=(DY gl w0 M0 F0).pinned 96 a) 96 a 161 _ (uf z (.v (Ob.pt a)) zK (bh++[.v (.int .i64 0)])) au ab au (ad7 z a) N) ?_;refine Ob.fk (E:=DY gl w0 M0 F0) (bl:=[c5 z.me z.mem j]) [161] [96] 97 (nwU z a) ?_;refine vD (E:=DY gl w0 M0 F0) 161 (.row cl 0 []) _ (uf z (.v (Ob.pt a)) [kV 177 2,nl,nl,nl,nl] (bh++[.v (.int .i64 0)])) ab au (fun A k h=>pa (yP _ _) ([nl,nl,nl,nl]++(bh++[.v (.int .i64 0)])) (uf z (.v (Ob.pt a)) [] []) k h) ?_;refine vD (E:=DY gl w0 M0 F0) 161 (.row cu 0 []) _ (uf z (.v (Ob.pt a)) [kV 177 2,kV 178 2,nl,nl,nl] (bh++[.v (.int .i64 0)])) ab au (fun A k h=>pa (yP _ _) ([nl,nl,nl]++(bh++[.v (.int .i64 0)])) (uf z (.v (Ob.pt a)) [kV 177 2] []) k h) ?_;refine vD (E:=DY gl w0 M0 F0) 161 (.row cz 0 []) _ (uf z (.v (Ob.pt a)) [kV 177 2,kV 178 2,kV 179 6,nl,nl] (bh++[.v (.int .i64 0)])) ab au (fun A k h=>pa (yP _ _) ([nl,nl]++(bh++[.v (.int .i64 0)])) (uf z (.v (Ob.pt a)) [kV 177 2,kV 178 2] []) k h) ?_;refine vD (E:=DY gl w0 M0 F0) 161 (.ints .i64 0 []) _ (uf z (.v (Ob.pt a)) [kV 177 2,kV 178 2,kV 179 6,kV 180 1,nl] (bh++[.v (.int .i64 0)])) ab au (fun A k h=>pa (yP _ _) ([nl]++(bh++[.v (.int .i64 0)])) (uf z (.v (Ob.pt a)) [kV 177 2,kV 178 2,kV 179 6] []) k h) ?_;refine vD (E:=DY gl w0 M0 F0) 161 (.row .fr 0 []) _ (uf z (.v (Ob.pt a)) [kV 177 2,kV 178 2,kV 179 6,kV 180 1,kV 181 4] (bh++[.v (.int .i64 0)])) ab au (fun A k h=>pa (yP _ _) (bh++[.v (.int .i64 0)]) (uf z (.v (Ob.pt a)) [kV 177 2,kV 178 2,kV 179 6,kV 180 1] []) k h) ?_;refine Ob.gA (nwV z a) ?_;refine Ob.CY (E:=DY gl w0 M0 F0) (bl:=dF ⟨0,z.me,z.d,z.t,z.need,z.old,z.aY,z.start,z.span,0,a,[],[],[],[],[],0⟩ (bh++[.v (.int .i64 0)])) 10 [] [161,177,178,179,180,181] rfl ab ab rfl ab rfl ab (fun p=>ar vN.ntmps 8 [(10,aG p)] []) (fun p=>aw ab ab trivial) (fun p=>?_);refine Ob.g9 iF mixed (aG p) ?_ ⟨some (p,a,j),⟨i,c,n⟩,Ob.a7 _,?_⟩;intro w ids M num;refine @al (SV.is (TV.one (Cell.v (Value.pointer (some { block:=p,off:=0 }))))=aG p) _ ?_ ?_;kernel_rfl;rfl;rw[Li,Ob.bB];rfl
  ·have c:=c.symm;have f:¬ (z.bad=false/\z.pT=false/\vF z.me z.mem):=fun h=>by rw[c] at h;cases h.2.1
   refine Ob.jx (aq (ak vN) 4) ?_;refine Ob.gF iF mixed dg ?_ ⟨none,f,Ob.a7 _,rfl⟩;intro w ids M num;refine @al (SV.is (TV.one (Cell.v (Value.pointer none)))=dg) _ ?_ ?_;kernel_rfl;rfl
 ·have i:=i.symm;have f:¬ (z.bad=false/\z.pT=false/\vF z.me z.mem):=fun h=>by rw[i] at h;cases h.1
  refine Ob.jx (aq (ak vN) 2) ?_;refine Ob.gF iF mixed dg ?_ ⟨none,f,Ob.a7 _,rfl⟩;intro w ids M num;refine @al (SV.is (TV.one (Cell.v (Value.pointer none)))=dg) _ ?_ ?_;kernel_rfl;rfl
set_option maxHeartbeats 4000000
theorem Xt {t:fB} (l:TOk t) (j:t.z.R.phase<4) (q:Nat × Nat × Nat):TOk (dm t q).1:=by
 obtain⟨⟨R,H⟩,f⟩:=t;have j:R.phase<4:=j;have o:0<=R.phase:=l.lo;have n:f=false:=by cases f;rfl;have:R.phase=4:=l.fin rfl;omega
 subst n;obtain⟨c,i,d⟩:=l.inv;have d:eE c R H:=d;have i:c<=28000+2*R.phase.toNat:=i;have m:R.phase=0\/R.phase=1\/R.phase=2\/R.phase=3:=aa;have p:(0:Int).toNat=0:=rfl;have r:(1:Int).toNat=1:=rfl;have s:(2:Int).toNat=2:=rfl;have u:(3:Int).toNat=3:=rfl;rcases m with k|k|k|k;have e:(dm ⟨⟨R,H⟩,false⟩ q).1=⟨kY ⟨aU R 1,H⟩ q,false⟩:=congrArg Prod.fst (aj k);have b:=d.ph 1;have a:(kY ⟨aU R 1,H⟩ q).R.phase=1:=(w9 ⟨aU R 1,H⟩ q).phase;rw[e];exact⟨⟨c+2,by rw[k] at i;rw[a];omega,Lb b q⟩,by show (0:Int)<=_;rw[a];decide,by show _<=(4:Int);rw[a];decide,fun h=>by cases h⟩
 ·have e:(dm ⟨⟨R,H⟩,false⟩ q).1=⟨nk ⟨aU R 2,H⟩ q,false⟩:=by
   have g:dm ⟨⟨R,H⟩,false⟩ q=(⟨nk ⟨aU R 2,H⟩ q,false⟩,eP ⟨aU R 2,H⟩ q):=(ah (show ¬ R.phase=0 by omega)).trans (aj k);rw[g]
  have b:=d.ph 2;have a:(nk ⟨aU R 2,H⟩ q).R.phase=2:=(zh ⟨aU R 2,H⟩ q).phase;rw[e];exact⟨⟨c+2,by rw[k] at i;rw[a];omega,NI b q⟩,by show (0:Int)<=_;rw[a];decide,by show _<=(4:Int);rw[a];decide,fun h=>by cases h⟩
 ·have e:(dm ⟨⟨R,H⟩,false⟩ q).1=⟨rX ⟨aU R 3,H⟩ q,false⟩:=by
   have g:dm ⟨⟨R,H⟩,false⟩ q=(⟨rX ⟨aU R 3,H⟩ q,false⟩,gC ⟨aU R 3,H⟩ q):=(ah (show ¬ R.phase=0 by omega)).trans ((ah (show ¬ R.phase=1 by omega)).trans (aj k));rw[g]
  have b:=d.ph 3;have a:(rX ⟨aU R 3,H⟩ q).R.phase=3:=(Dn ⟨aU R 3,H⟩ q).phase;rw[e];exact⟨⟨c+2,by rw[k] at i;rw[a];omega,TP b q⟩,by show (0:Int)<=_;rw[a];decide,by show _<=(4:Int);rw[a];decide,fun h=>by cases h⟩
 ·have e:(dm ⟨⟨R,H⟩,false⟩ q).1=⟨⟨aU R 4,H⟩,true⟩:=by
   have g:dm ⟨⟨R,H⟩,false⟩ q=(⟨⟨aU R 4,H⟩,true⟩,[]):=(ah (show ¬ R.phase=0 by omega)).trans ((ah (show ¬ R.phase=1 by omega)).trans (ah (show ¬ R.phase=2 by omega)));rw[g]
  have b:=d.ph 4;rw[e];exact⟨⟨c,by show c<=28000+2*(4:Int).toNat;have:(4:Int).toNat=4:=rfl;omega,b⟩,by show (0:Int)<=4;decide,by show (4:Int)<=4;decide,fun _=>rfl⟩
theorem CJ {b:Int} {t u:fB} {o:List (Int × Hbm.aC)} (h:Ticks b t u o):TOk t->TOk u:=by
 induction h with
 | stop t c=>exact id
 | step t q u o c _ e=>exact fun d=>e (Xt d (KF c) q)
def h8 (z:iT) (q:Nat × Nat × Nat):fB:=⟨⟨⟨q.1,z.me,z.d,z.t,z.need,z.old,z.aY,z.start,z.span,0,q.2.1,[],[],[],[],[],0⟩,⟨q.2.1,q.2.2,z.me,z.mem,[]⟩⟩,false⟩
theorem abA {z:iT} (b:z.Pre) (c:∀ x,x∈z.d\/x∈z.t\/x=z.me->fh x) (g:∀ x∈z.mem,la x) (a:z.me∈z.mem) (i:z.need<1000) (q:Nat × Nat × Nat):TOk (h8 z q):=by have j:=b.len;refine⟨⟨0,a2 _,⟨⟨fun e=>?_,b.mem,g,a,List.nodup_nil,fun t h=>(nomatch h),fun t h=>(nomatch h)⟩,rfl,c _ (.inr (.inr rfl)),?_,?_,fun x f=>c x (.inl f),fun x f=>c x (.inr (.inl f)),b.old,b.aY,i,a2 _,fun d h=>(nomatch h),a2 _,fun d h=>(nomatch h),a2 _,rfl,a2 _⟩⟩,Int.le_refl _,by show (0:Int)<=4;decide,fun h=>by cases h⟩;have e:z.mem=[]:=e;rw[e] at a;cases a;show z.d.length<1000;omega;show z.t.length<1000;omega
def Lone.qY (L:Lone):iT:=⟨L.me,L.mem,L.mem,L.need,[],L.aY,L.start,L.span⟩
structure Lone.Set (L:Lone):Prop where
 ris:j8 0 L.mem=true
 cmp:Lib.compact (sorti.gW (L.mem++L.mem))=L.mem
 good:lE L.mem L.mem.length
theorem LB {L:Lone} (h:L.Ok) (a:L.Set):L.qY.Pre:=by have b:=h.n1;have e:=h.n4;have c:=h.len;have d:=h.kn;refine⟨by show L.mem.length+L.mem.length<=12;omega,?_,by show 0<1000;decide,by show L.aY.length<1000;omega⟩;show (Lib.compact (sorti.gW (L.mem++L.mem))).length<1000;rw[a.cmp];omega
theorem Jf {L:Lone} (h:L.Ok) (f:L.Set):L.qY.bad=false/\L.qY.pT=false/\vF L.qY.me L.qY.mem:=by
 have m:=h.n1;have p:=h.n4;have l:=h.len;have o:=h.kn;have q:=h.k1;refine⟨?_,?_,?_,?_⟩
 ·have e:mi L.mem L.mem L.need []=0:=by
   unfold mi;have g:((L.mem.length:Int)==0)=false:=by simpa using (show ¬ (L.mem.length=0) by omega)
   have i:decide (L.need<1)=false:=cp aa;have j:decide (L.need>(L.mem.length:Int))=false:=cp aa;have k:decide ((([]:List Pt).length:Int)>(L.mem.length:Int))=false:=cp au;simp only[g,i,j,k,f.ris];simp
  unfold iT.bad;have a:=h.s0;have b:=h.s1;have c:=h.p1;have d:=h.p2;show (((eS (mi L.mem L.mem L.need []) != 0)||decide (L.span<1)||decide (L.span>1048576))||decide (L.start<0)||decide (L.start>1099511627776))=false;rw[bf,e,cp (show ¬ L.span<1 by omega),cp (show ¬ L.span>1048576 by omega),cp (show ¬ L.start<0 by omega),cp (show ¬ L.start>1099511627776 by omega)];rfl
 ·unfold iT.pT;have:((L.aY.length:Int) != L.need)=false:=by rw[l];simp
  show (decide (L.me∈L.mem)&&((L.aY.length:Int) != L.need))=false;rw[this,fK]
 show lE (Lib.compact (sorti.gW (L.mem++L.mem))) (Lib.compact (sorti.gW (L.mem++L.mem))).length;rw[f.cmp];exact f.good;show L.me∈Lib.compact (sorti.gW (L.mem++L.mem));rw[f.cmp];exact h.mm
theorem Gb {L:Lone} (h:L.Ok) (b:L.Set) (q:Nat × Nat × Nat):Stg L 0 q.1 (h8 L.qY q)/\TOk (h8 L.qY q):=by
 have d:=h.kn;have e:=h.n4;have c:∀ x,x∈L.mem->fh x:=fun x hx=>by have:=h.rng x hx;exact⟨aa,aa⟩
 refine⟨⟨⟨q.2.1,?_⟩,rfl,?_,fun x hx=>(nomatch hx),rfl⟩,abA (LB h b) ?_ ?_ ?_ (by show L.need<1000;omega) q⟩;show (⟨q.1,L.me,L.mem,L.mem,L.need,[],L.aY,L.start,L.span,0,q.2.1,[],[],[],[],[],0⟩:Rt)=bF L 0 q.1 q.2.1;unfold bF;simp;exact b.cmp;intro x hx;rcases hx with hx|hx|hx;exact c x hx;exact c x hx;have hx:x=L.me:=hx;rw[hx];exact c _ h.mm;intro x hx;have hx:x∈Lib.compact (sorti.gW (L.mem++L.mem)):=hx;rw[b.cmp] at hx;have:=h.rng x hx;exact⟨aa,aa⟩;show L.me∈Lib.compact (sorti.gW (L.mem++L.mem));rw[b.cmp];exact h.mm
end YtofofalgjibokaaGreatDoor.rite
namespace YtofofalgjibokaaGreatDoor.law23
open Go.IntKind(i64 u64 u8)
open Go.IntKind(i64)
set_option maxHeartbeats 4000000
open hub deal rite
abbrev iL:Kd:=.int .i64
theorem jJ {E:Ob.b5} {N:Nat} {c b:St} {G G':Ob.ai} (h:∀ {l:List Code} {n r:Act->World->Prop} {x:Nat->Act->World->Prop},Ob.aK E.P l (Ob.GH E N b G') n r x->Ob.aK E.P l (Ob.GH E N c G) n r x) (a:Act) (w:World) (d:Ob.GH E N c G a w):Ob.GH E N b G' a w:=by have k:=h (l:=[]) (n:=Ob.GH E N b G') (r:=fun _ _=>True) (x:=fun _ _ _=>True) (Ob.cF fun _ _ h=>h) a w (fun e a w=>match e with | .normal=>Ob.GH E N b G' a w|_=>True) d (fun _ _ h=>h) (fun _ _ _=>trivial) (fun _ _ _ _=>trivial);exact k
theorem Mi (p:Nat):cG (aG p) (.is (.one (.fv .pq true))):=fun b v h=>by have h:[v]=[Ob.pt p]/\_:=h;exact⟨⟨some ⟨p,0,none⟩,h.1,rfl⟩,rfl⟩
theorem Pa {a b:List Int} {n:Int}:cG (.is (.agg [.ro iL a,.ro iL b,.v (.int .i64 n),.v (.slice none 0 0)])) (.is (.agg [.ro iL a,.ro iL b,.v (.int .i64 n),.ro aN []])):=fun f v h=>by obtain⟨l,e,h⟩:=h;refine⟨l,e,pa (c:=.v (.slice none 0 0)) (c':=.ro aN []) (fun v d=>?_) [] [.ro iL a,.ro iL b,.v (.int .i64 n)] l h⟩;exact .inl ⟨rfl,none,0,d.1,fun _=>rfl⟩
theorem aiL:poly.pat [jj 9] 2=jj 9:=by rw[poly.Cj];show rR ([]:List Fr) (zm 2)*zm 2+jj 9=jj 9;have:rR ([]:List Fr) (zm 2)=0:=rfl;rw[this,Rg.zero_mul,Rg.zero_add]
theorem KK:enters Tryz.prog 6 Tryz.f6:=ek
abbrev SY:Func:=Tryz.f6
abbrev V1:=aP [fr.ta,g1.J9,g1.Ds]
theorem gH:aD Tryz.prog V1:=aJ (aM fr.ti) (aJ (aM g1.K0) (aJ (aM g1.FQ) bp))
def I8:Lone:=⟨2,[2],1,[jj 9],0,1⟩
theorem FW:I8.Ok:=⟨ae,ae,List.mem_singleton.2 rfl,fun x a=>by rw[List.mem_singleton.1 a];decide,ae,ae,rfl,ae,ae,ae,ae⟩
theorem La:I8.Set:=⟨ae,ab,by unfold lE;decide⟩
def AG (next:Nat) (b:List (Nat × SV)) (a:List (Nat × List Cell)):St:=ar SY.ntmps next b a
def h2B (id p:Nat) (o:List (Int × Hbm.aC)):St:=AG 144 [(1,aG p),(2,.is (.one (.ro cH o))),(3,.is (.one (.ptr id 0))),(4,sI .i64 0),(5,.is (.one .T))] [(id,[.ro iL [2],.ro aN (poly.cn [jj 9]),.row .fr 1 [poly.pat [jj 9] 2],.ints .u8 32 (mW [2] (poly.cn [jj 9]))])]
def uG (o:List (Int × Hbm.aC)) (a:List (Nat × SV)):St:=AG 144 ([(2,.is (.one (.ro cH o))),(3,.is (.one (.ptr 112 0))),(4,sI .i64 0),(5,.is (.one .T))]++a) [(112,[.ro iL [2],.ro aN (poly.cn [jj 9]),.row .fr 1 [poly.pat [jj 9] 2],.ints .u8 32 (mW [2] (poly.cn [jj 9]))])]
theorem qQ {P:Program} {ops:Array Oper} {i:Nat} {l:List Code} {Pre b n r:Act->World->Prop} {x:Nat->Act->World->Prop} (h:∀ a w,Pre a w->b a w) (c:Ob.pJ P ops i l b n r x):Ob.pJ P ops i l Pre n r x:=fun a w Q d=>c a w Q (h a w d)
abbrev h2X (c:World) (b:Mem) (a:Nat->Prop):Ob.b5:=Ob.kO Tryz.prog V1 sha.dE c b a
theorem aaM:Ob.dG Tryz.prog sha.dE 6 (fun _:Unit=>[]) (fun _=>True) (fun _=>Ob.ai.none) (fun _ (_:Unit)=>av true) (fun _ _=>Ob.ai.none) (fun _ _=>True):=by
 refine Ob.cA (sp:=V1) KK ab (fun z=>a2 _) (fun z y=>rfl) ?_;rintro _ _ r i g;refine Ob.ee gH 1 (AG 8 [] []) ?_;refine Ob.dB 1 (bo (aq (ak SY) 1)) ?_;refine Ob.c7 gH 2 (AG 24 [(6,.is (.one (.sl 8 0 0 1 1))),(7,.is (.one (.sl 16 0 0 1 1)))] [(8,[.ints .i64 1 [2]]),(16,[.ints .i64 1 [2]])]) ?_;refine Ob.iD (jJ fun h=>Ob.sN 6 8 1 1 .i64 [2] ab ab rfl h) ?_;refine Ob.iD (jJ fun h=>Ob.sN 7 16 1 1 .i64 [2] ab ab rfl h) ?_;refine Ob.fD gH 5 (fun _=>()) (fun _=>AG 64 [(8,.is (.agg [.ro iL [2],.ro iL [2],.v (.int .i64 1),.v (.slice none 0 0)])),(10,.is (.one (.sl 56 0 0 1 4)))] [(56,[.row .fr 1 [jj 9]])]) (fun _=>True) ?_ (fun _ _=>?_);intro w ids M num;refine @al (gQ 9/\(AG 64 [(8,SV.is (TV.agg [Cell.ro iL [(2:aA iL)],Cell.ro iL [(2:aA iL)],Cell.v (Value.int IntKind.i64 1),Cell.v (Value.slice none 0 0)])),(10,SV.is (TV.one (Cell.sl 56 0 0 1 4)))] [(56,[Cell.row Kd.fr 1 [jj 9]])]).ag True) _ ?_ ?_;kernel_rfl;exact⟨⟨aa,aa⟩,ao trivial⟩;refine Ob.iD (jJ fun h=>Ob.Ow 10 56 1 4 .fr [jj 9] ab ab rfl h) ?_;refine Ob.iD (jJ fun h=>Ob.fE 8 (.is (.agg [.ro iL [2],.ro iL [2],.v (.int .i64 1),.ro aN []])) (by exact Pa) h) ?_;refine Ob.gK (Ob.fS (E:=h2X r i g) (Tt sha.dE) I8.qY (LB FW La) ab HD ab ab (fun y=>by cases y<;>rfl)) (fun y d=>?_);cases y with
 | none=>exact absurd (Jf FW La) d
 | some q =>
  obtain⟨n,f⟩:=Gb FW La q;refine Ob.c7 gH 7 (AG 64 [(1,aG q.1)] []) (Ob.dv ?_);refine Ob.aO (G':=(h8 I8.qY q).ef) rfl ?_;refine Ob.dB 2 (bo (aq (ak SY) 2)) ?_;refine Ob.c7 gH 1 (AG 64 [(1,aG q.1),(12,aG q.1)] []) ?_;refine Ob.gz (E:=h2X r i g) HX (h8 I8.qY q,3) f qk (fun y d=>?_);obtain⟨u,o⟩:=y;have d:Ticks 3 (h8 I8.qY q) u o:=d;have D:=CJ d f;obtain⟨j,_,F,e,m,l,_⟩:=zG FW d (a2 _) n;have l:j=4:=by rcases l with h|h;exact h;have h:(3:Int)<0+(j:Int)*1:=h;omega
  subst l;have m:o=JZ I8 4:=m;obtain⟨hub,k⟩:=e.R;have s:u.z.R.p=q.1:=by rw[k];rfl
  have C:u.fin=true:=e.fin;refine Ob.c7 gH 3 (AG 64 [(1,aG q.1),(2,.is (.one (.ro cH o)))] []) (Ob.dv ?_);refine Ob.aO (G':=u.ef) rfl ?_;refine Ob.dB 3 (bo (aq (ak SY) 3)) ?_;refine Ob.c7 gH 1 (AG 64 [(1,aG q.1),(2,.is (.one (.ro cH o))),(15,aG q.1)] []) ?_;have t:pU u=yt [2] (poly.cn [jj 9]) (.row .fr 1 [poly.pat [jj 9] 2]) (.ints .u8 32 (mW [2] (poly.cn [jj 9]))) 0:=by
   have A:fN u.z.R=(some (Wk I8),0):=by rw[k];exact LA FW rfl q.1 hub
   have x:u.z.R.fault=0:=by rw[k];rfl
   unfold pU;rw[C,A,x];rfl
  refine Ob.gK (Ob.fS (E:=h2X r i g) (C4 sha.dE) u D ab qM (by rw[s];kernel_rfl) (by rw[s];kernel_rfl) (fun y=>by show (pU u).ids=[];rw[t];rfl)) (fun y _=>?_);rw[t];refine Ob.c7 gH 10 (h2B 112 q.1 o) (Ob.dv ?_);refine Ob.fE 1 (.is (.one (.fv .pq true))) (Mi q.1) ?_;refine Ob.jy mixed (rid:=4) (ops:=bo (aq (ak SY) 4)) ab ?_;refine Ob.eV gH 2 (fun c=>bg .bool 21 c) (fun b=>uG o [(21,av b)]) (fun b=>b=true) ae ab ?_ (fun b a=>?_);intro w ids M num;refine @al ((uG o [(21,av true)]).ag (true=true)) _ ?_ ?_;kernel_rfl;exact ao rfl;subst a;refine qQ (jJ fun h=>Ob.fE 21 (.is (.one .T)) Ob.gf h) ?_;refine Ob.eV gH 6 (fun _=>()) (fun _=>uG o [(25,.is (.one .T))]) (fun _=>True) ae ab ?_ (fun _ _=>?_);intro w ids M num;refine @al ((uG o [(25,SV.is (TV.one Cell.T))]).ag True) _ ?_ ?_;kernel_rfl;exact ao trivial;refine Ob.eV gH 10 (fun c=>bg .bool 29 c) (fun b=>uG o [(29,av b)]) (fun b=>b=true) ae ab ?_ (fun b a=>?_);intro w ids M num;refine @al ((uG o [(29,av ((0:Int)==0))]).ag (((0:Int)==0)=true)) _ ?_ ?_;kernel_rfl;exact ao rfl;subst a;refine qQ (jJ fun h=>Ob.fE 29 (.is (.one .T)) Ob.gf h) ?_;refine Ob.eV gH 15 (fun c=>bg .bool 34 c) (fun b=>uG o [(34,av b)]) (fun b=>b=true) ae ab ?_ (fun b a=>?_);intro w ids M num;refine @al ((uG o [(34,av ((o.length:Int)==9))]).ag (((o.length:Int)==9)=true)) _ ?_ ?_;kernel_rfl;exact ao (by rw[m];rfl);subst a;refine qQ (jJ fun h=>Ob.fE 34 (.is (.one .T)) Ob.gf h) ?_;refine Ob.eV gH 21 (fun c=>bg .bool 40 c) (fun b=>uG o [(40,av b)]) (fun b=>b=true) ae ab ?_ (fun b a=>?_);intro w ids M num;refine @al ((uG o [(40,av ((↑[2].length:Int)==1))]).ag (((↑[2].length:Int)==1)=true)) _ ?_ ?_;kernel_rfl;exact ao rfl;subst a;refine qQ (jJ fun h=>Ob.fE 40 (.is (.one .T)) Ob.gf h) ?_;refine Ob.eV gH 28 (fun c=>bg .bool 47 c) (fun b=>uG o [(47,av b)]) (fun b=>b=true) ae ab ?_ (fun b a=>?_);intro w ids M num;refine @al (((0:Int)<=0/\0<(↑[2].length:Int))/\0<[2].length/\(uG o [(47,av ((2:Int)==2))]).ag (((2:Int)==2)=true)) _ ?_ ?_;kernel_rfl;exact⟨⟨ae,ae⟩,ae,ao rfl⟩;subst a;refine qQ (jJ fun h=>Ob.fE 47 (.is (.one .T)) Ob.gf h) ?_;refine Ob.eV gH 34 (fun c=>bg .bool 53 c) (fun b=>uG o [(53,av b)]) (fun b=>b=true) ae ab ?_ (fun b a=>?_);intro w ids M num;refine @al (gQ 9/\(uG o [(53,av (mC Kd.fr (poly.pat [jj 9] 2) (jj 9)))]).ag (mC Kd.fr (poly.pat [jj 9] 2) (jj 9)=true)) _ ?_ ?_;kernel_rfl;exact⟨⟨aa,aa⟩,ao ((CU _ _).2 aiL)⟩;subst a;refine qQ (jJ fun h=>Ob.fE 53 (.is (.one .T)) Ob.gf h) ?_;refine Ob.eV gH 40 (fun c=>bg .bool 59 c) (fun b=>uG o [(59,av b)]) (fun b=>b=true) ae ab ?_ (fun b a=>?_);intro w ids M num;refine @al ((uG o [(59,av ((↑(poly.cn [jj 9]).length:Int)==1))]).ag (((↑(poly.cn [jj 9]).length:Int)==1)=true)) _ ?_ ?_;kernel_rfl;exact ao (by rw[pr];rfl);subst a;refine qQ (jJ fun h=>Ob.fE 59 (.is (.one .T)) Ob.gf h) ?_;refine Ob.g8 gH (fun c=>bg .bool 0 c) (fun b=>AG 8 [(0,av b)] []) (fun b=>b=true) (Odt ab) ?_ (fun b a=>?_);intro w ids M num;refine @al (((0:Int)<=0/\0<(↑(poly.cn [jj 9]).length:Int))/\0<(poly.cn [jj 9]).length/\True/\gQ 9/\True/\(AG 8 [(0,av (mC (Kd.fp.pair Kd.fp) ((poly.cn [jj 9]).getD 0 ((0:Fp),(0:Fp))) (g1.cV g1.gG (jj 9))))] []).ag (mC (Kd.fp.pair Kd.fp) ((poly.cn [jj 9]).getD 0 ((0:Fp),(0:Fp))) (g1.cV g1.gG (jj 9))=true)) _ ?_ ?_;kernel_rfl;exact⟨⟨ae,by rw[pr];decide⟩,by rw[pr];decide,trivial,⟨aa,aa⟩,trivial,ao ((CU _ _).2 rfl)⟩;subst a;refine Ob.aO (G':=Ob.ai.sep u.ef Ob.ai.none) (Ob.qu _).symm ?_;refine Ob.Ew ?_;exact Ob.pM gH (av true) ⟨(),trivial,Ob.a7 _,rfl⟩
end YtofofalgjibokaaGreatDoor.law23
namespace YtofofalgjibokaaGreatDoor.fr
open Go.IntKind(i64 u64 u8)
open Go.IntKind(i64)
theorem Ep:enters Tryz.prog 22 Tryz.f22:=ek
abbrev sY:HL [.fr]->HO [.val .bool]:=fun (x,_)=>(decide ((x:Fr)=0),())
theorem yx:aL Tryz.prog 22 [.fr] [.val .bool] bx (fun _=>True) sY:=by refine a8 (sp:=aP []) bp mixed Ep ae ae ?_;rintro w a ⟨x,⟨⟩⟩;revert x;intro (x:Fr) _ _;refine al (X:=((mC Kd.fr x (0:Fr),())=sY (x,()))) ab ?_;rfl
def CD:Nat × Eng.Spec:=(22,aH [.fr] [.val .bool] (fun _=>True) sY)
end YtofofalgjibokaaGreatDoor.fr
namespace YtofofalgjibokaaGreatDoor.law23
open Go.IntKind(i64 u64 u8)
open Go.IntKind(i64)
set_option maxHeartbeats 4000000
open hub deal rite
theorem VP {P:Program} {G:gi} {f:FuncId} {fn:Func} (p:enters P f fn) {a:List Kd} {pre:HL a->Prop} (h:Ob.dG P G f (fun d:HL a=>mA a d) pre (fun _=>Ob.ai.none) (fun _ (_:Unit)=>av true) (fun _ _=>Ob.ai.none) (fun _ _=>True)):aL P f a [.val .bool] G pre (fun _=>(true,())):=by intro w M t d m j c r;refine .inl ⟨p.2 _ _,(h d r w M t (fun _=>False) (fun _ h=>h) m j (fun _ h=>h.elim) (ry (ρ:=ay.start M) c)).mono ?_⟩;rintro e A ⟨y,v,F2,u,x,rfl,l,i,b,g,o,s⟩;refine⟨v,rfl,[v],none,rfl,⟨v,[],rfl,s.1,rfl⟩,⟨b.os,b.tape,b.output,b.size,fun k q=>b.block k q (fun h=>h)⟩⟩
def aeR:Nat × Eng.Spec:=(7,aH [.int .i64] [.val (.sl iL)] (fun (n,_)=>0<=(n:Int)/\(n:Int)<=1000) (fun (n,_)=>(eO (n:Int).toNat,())))
theorem aaj:aL Tryz.prog 7 [.int .i64] [.val (.sl iL)] bx (fun (n,_)=>0<=(n:Int)/\(n:Int)<=1000) (fun (n,_)=>(eO (n:Int).toNat,())):=aad.AE
def aeO:Nat × Eng.Spec:=(9,aH [DH,.int .i64,.int .i64] [.val (.sl .fr)] zU zQ)
theorem aag:aL Tryz.prog 9 [DH,.int .i64,.int .i64] [.val (.sl .fr)] bx zU zQ:=Z5.AE
abbrev WU:=aP [aeR,aeO,fr.CD]
theorem bR:aD Tryz.prog WU:=aJ (aM aaj) (aJ (aM aag) (aJ (aM fr.yx) bp))
theorem xM:enters Tryz.prog 5 Tryz.f5:=ek
abbrev gE:Func:=Tryz.f5
abbrev m7 (w0:World) (M0:Mem) (F0:Nat->Prop):Ob.b5:=Ob.kO Tryz.prog WU sha.dE w0 M0 F0
structure RIn where
 me:Int
 n:Int
 need:Int
 start:Int
 span:Int
 b:List Int
def dc (z:RIn) (e:Int) (next:Nat) (d:List (Nat × SV)) (c:List (Nat × List Cell)):St:=ar gE.ntmps next ([(0,sI .i64 z.me),(1,sI .i64 e),(2,sI .i64 z.need),(3,sI .i64 z.start),(4,sI .i64 z.span),(5,.is (.one (.ro (.int .u8) z.b)))]++d) c
abbrev Pd:SV->Ob.ai->Prop:=fun s G=>∃ _:Unit,True/\cG s (av true)/\G=Ob.ai.none
theorem UQ (n:Int):0<=aF .and .i64 n 1023/\aF .and .i64 n 1023<=1023:=law22.Zg n
theorem ahM (n:Int):0<=aF .and .i64 n 7/\aF .and .i64 n 7<=7:=by
 have h:((BitVec.ofInt 64 n &&& BitVec.ofInt 64 7:BitVec 64).toNat)<=7:=by rw[tG];exact Nat.and_le_right
 have e:aF .and .i64 n 7=(((BitVec.ofInt 64 n &&& BitVec.ofInt 64 7:BitVec 64).toNat:Nat):Int):=by show i64.wrap (((BitVec.ofInt 64 n &&& BitVec.ofInt 64 7:BitVec 64).toNat:Nat):Int)=_;exact ba aa aa
 rw[e];omega
theorem af9 {x:Int} (h:0<=x):0<=x.tmod 5/\x.tmod 5<=4:=⟨Int.tmod_nonneg _ h,by have:=Int.tmod_lt_of_pos x (show (0:Int)<5 by decide);omega⟩
def dO (z:RIn) (n k:Int):Bool:=decide (n>=1)&&decide (z.need>=1)&&decide (z.need<=n)&&(k==z.need)&&decide (z.me>=1)&&decide (z.me<=n)&&decide (z.span>=1)&&decide (z.span<=1048576)&&decide (z.start>=0)&&decide (z.start<=1099511627776)
def Jx (z:RIn) (n k:Int):iT:=⟨z.me,eO n.toNat,eO n.toNat,z.need,[],fQ z.b 1 k.toNat,z.start,z.span⟩
theorem acb:enc (0:Zm Mr)=[0,0,0,0]:=ab
theorem abY:Canon Mr [0,0,0,0]:=by rw[<- acb];exact cC _
theorem ahO:dec [0,0,0,0]=(0:Zm Mr):=by rw[<- acb];exact dM _
section
variable (z:RIn) (n k:Int) (w0:World) (M0:Mem) (F0:Nat->Prop)
theorem aeA (c:Value) (G:Ob.ai) {m r:Act->World->Prop} {x:Nat->Act->World->Prop} (h:Ob.aK Tryz.prog ((ak gE).drop 10) (Ob.GH (m7 w0 M0 F0) gE.ntmps (dc z n 8 [(15,.is (.one (.v c))),(16,av (dO z n k))] []) G) m r x) :
  Ob.aK Tryz.prog ((ak gE).drop 9) (Ob.GH (m7 w0 M0 F0) gE.ntmps (dc z n 8 [(13,sI .i64 k),(15,.is (.one (.v c)))] []) G) m r x:=by
 refine Ob.kH bR mixed 1 16 (fun q=>bg .bool 16 q) (fun b=>dc z n 8 [(15,.is (.one (.v c))),(16,av b)] []) (fun b=>b=dO z n k) (fun _=>False) (fun _ _=>False) ?_ (fun b p=>by have p:b=dO z n k:=p;rw[p];exact h) (fun _ _ _ h _=>h.elim) (fun _ _ _ _ h _=>h.elim);intro w ids M num;refine @al ((decide (n>=1)=true->(decide (z.need>=1)=true->(decide (z.need<=n)=true->((k==z.need)=true->(decide (z.me>=1)=true->(decide (z.me<=n)=true->(decide (z.span>=1)=true->(decide (z.span<=1048576)=true->(decide (z.start>=0)=true->(dc z n 8 [(15,SV.is (TV.one (Cell.v c))),(16,av (decide (z.start<=1099511627776)))] []).ag (decide (z.start<=1099511627776)=dO z n k))/\(decide (z.start>=0)=false->(dc z n 8 [(15,SV.is (TV.one (Cell.v c))),(16,av false)] []).ag (false=dO z n k)))/\(decide (z.span<=1048576)=false->(dc z n 8 [(15,SV.is (TV.one (Cell.v c))),(16,av false)] []).ag (false=dO z n k)))/\(decide (z.span>=1)=false->(dc z n 8 [(15,SV.is (TV.one (Cell.v c))),(16,av false)] []).ag (false=dO z n k)))/\(decide (z.me<=n)=false->(dc z n 8 [(15,SV.is (TV.one (Cell.v c))),(16,av false)] []).ag (false=dO z n k)))/\(decide (z.me>=1)=false->(dc z n 8 [(15,SV.is (TV.one (Cell.v c))),(16,av false)] []).ag (false=dO z n k)))/\((k==z.need)=false->(dc z n 8 [(15,SV.is (TV.one (Cell.v c))),(16,av false)] []).ag (false=dO z n k)))/\(decide (z.need<=n)=false->(dc z n 8 [(15,SV.is (TV.one (Cell.v c))),(16,av false)] []).ag (false=dO z n k)))/\(decide (z.need>=1)=false->(dc z n 8 [(15,SV.is (TV.one (Cell.v c))),(16,av false)] []).ag (false=dO z n k)))/\(decide (n>=1)=false->(dc z n 8 [(15,SV.is (TV.one (Cell.v c))),(16,av false)] []).ag (false=dO z n k))) _ ?_ ?_;kernel_rfl;clear h;exact⟨fun a=>⟨fun d=>⟨fun e=>⟨fun f=>⟨fun g=>⟨fun i=>⟨fun j=>⟨fun l=>⟨fun o=>ao (by unfold dO;simp only[a,d,e,f,g,i,j,l,o,dp,kF,eH,fK]),fun o=>ao (by unfold dO;simp only[a,d,e,f,g,i,j,l,o,dp,kF,eH,fK])⟩,fun l=>ao (by unfold dO;simp only[a,d,e,f,g,i,j,l,dp,kF,eH,fK])⟩,fun j=>ao (by unfold dO;simp only[a,d,e,f,g,i,j,dp,kF,eH,fK])⟩,fun i=>ao (by unfold dO;simp only[a,d,e,f,g,i,dp,kF,eH,fK])⟩,fun g=>ao (by unfold dO;simp only[a,d,e,f,g,dp,kF,eH,fK])⟩,fun f=>ao (by unfold dO;simp only[a,d,e,f,dp,kF,eH,fK])⟩,fun e=>ao (by unfold dO;simp only[a,d,e,dp,kF,eH,fK])⟩,fun d=>ao (by unfold dO;simp only[a,d,dp,kF,eH,fK])⟩,fun a=>ao (by unfold dO;simp only[a,dp,kF,eH,fK])⟩
theorem aa8:Ob.aK Tryz.prog ((ak gE).drop 10) (Ob.GH (m7 w0 M0 F0) gE.ntmps (dc z n 8 [(15,dg),(16,av false)] []) Ob.ai.none) (Ob.cP (m7 w0 M0 F0) gE Pd) (Ob.cP (m7 w0 M0 F0) gE Pd) (fun _ _ _=>False):=by refine Ob.gcd bR 1 (fun c=>bg .bool 90 c) (fun b=>dc z n 8 [(15,dg),(90,av b)] []) (fun b=>b=false) ?_ (fun b a=>?_);intro w ids M num;refine @al ((dc z n 8 [(15,dg),(90,av !false==false)] []).ag ((!false==false)=false)) _ ?_ ?_;kernel_rfl;exact ao rfl;have a:b=false:=a;subst a;refine Ob.eQ (aq (ak gE) 11) ?_;refine Ob.dB 12 (bo (aq (ak gE) 12)) ?_;refine Ob.c7 bR 1 (dc z n 8 [(15,dg),(92,dg)] []) ?_;refine Ob.gz (E:=m7 w0 M0 F0) (aaK sha.dE) () trivial qM (fun _ _=>?_);refine Ob.c7 bR 10 (dc z n 8 [(15,dg),(19,.is (.one .F))] []) (Ob.dv ?_);refine Ob.dB 13 (bo (aq (ak gE) 13)) ?_;refine Ob.c7 bR 3 (dc z n 8 [(15,dg),(98,.is (.one .F)),(99,dg)] []) ?_;refine Ob.gz (E:=m7 w0 M0 F0) (Tv sha.dE) () trivial oS (fun _ _=>?_);refine Ob.fD bR 6 (fun c=>bg .bool 102 c) (fun b=>dc z n 8 [(15,dg),(102,av b)] []) (fun b=>b=false) ?_ (fun b a=>?_);intro w ids M num;refine @al ((dc z n 8 [(15,dg),(102,av (0 != 0))] []).ag ((0 != 0)=false)) _ ?_ ?_;kernel_rfl;exact ao rfl;have a:b=false:=a;subst a;refine Ob.iD (jJ fun h=>Ob.fE 102 (.is (.one .F)) Ob.lK h) ?_;refine Ob.c7 bR 8 (dc z n 8 [(15,dg),(103,.is (.one .F)),(104,dg)] []) ?_;refine Ob.gz (E:=m7 w0 M0 F0) (LO sha.dE) (-1:Int) trivial qk (fun _ _=>?_);refine Ob.fD bR 12 (fun c=>bg .bool 108 c) (fun b=>dc z n 8 [(15,dg),(108,av b)] []) (fun b=>b=false) ?_ (fun b a=>Ob.dv ?_);intro w ids M num;refine @al ((dc z n 8 [(15,dg),(108,av ((↑(0:Nat):Int) != 0))] []).ag (((↑(0:Nat):Int) != 0)=false)) _ ?_ ?_;kernel_rfl;exact ao rfl;have a:b=false:=a;subst a;refine Ob.eQ (aq (ak gE) 14) ?_;refine Ob.ee bR 1 (dc z n 8 [(15,dg),(110,.is (.one .T))] []) ?_;refine Ob.gqT (aq (ak gE) 16) ?_;refine Ob.dB 16 (bo (aq (fV (aq (ak gE) 16)) 0)) ?_;refine Ob.c7 bR 3 (dc z n 8 [(15,dg),(111,dg),(113,.is (.agg (cZ (1,0,1,1,1,0,z.b))))] []) ?_;refine Ob.gz (E:=m7 w0 M0 F0) (ad9 sha.dE) (1,0,1,1,1,0,z.b) trivial FN (fun _ _=>?_);refine Ob.fD bR 6 (fun c=>bg .bool 116 c) (fun b=>dc z n 8 [(15,dg),(116,av b)] []) (fun b=>b=true) ?_ (fun b a=>?_);intro w ids M num;refine @al ((dc z n 8 [(15,dg),(116,av ((↑(0:Nat):Int)==0))] []).ag (((↑(0:Nat):Int)==0)=true)) _ ?_ ?_;kernel_rfl;exact ao rfl;have a:b=true:=a;subst a;refine Ob.iD (jJ fun h=>Ob.fE 116 (.is (.one .T)) Ob.gf h) ?_;refine Ob.c7 bR 8 (dc z n 8 [(15,dg),(117,.is (.one .T)),(118,dg)] []) ?_;refine Ob.gz (E:=m7 w0 M0 F0) (LO sha.dE) (1125899906842624:Int) trivial qk (fun _ _=>?_);refine Ob.fD bR 13 (fun c=>bg .bool 12 c) (fun b=>dc z n 8 [(12,av b)] []) (fun b=>b=true) ?_ (fun b a=>Ob.dv ?_);intro w ids M num;refine @al ((dc z n 8 [(12,av ((↑(0:Nat):Int)==0))] []).ag (((↑(0:Nat):Int)==0)=true)) _ ?_ ?_;kernel_rfl;exact ao rfl;have a:b=true:=a;subst a;refine Ob.gF bR mixed (av true) ?_ ⟨(),trivial,Ob.a7 _,rfl⟩;intro w ids M num;refine @al (SV.is (TV.one (Cell.v (Value.bool true)))=av true) _ ?_ ?_;kernel_rfl;rfl
def uJ:Lone:=⟨z.me,eO n.toNat,z.need,fQ z.b 1 k.toNat,z.start,z.span⟩
def uC (c:Nat) (y:List Int × List Pt × Cell × Cell) (f:Int) (b:List (Nat × SV)):St:=dc z n 64 ([(15,aG c),(20,.is (.one (.ptr 56 0))),(21,sI .i64 f)]++b) [(56,[.ro iL y.1,.ro aN y.2.1,y.2.2.1,y.2.2.2])]
def rfE (b:Nat) (y:List Int × List Pt × Cell × Cell) (f:Int):St:=dc z n 64 [(15,aG b),(19,.is (.one .T)),(20,.is (.one (.ptr 56 0))),(21,sI .i64 f)] [(56,[.ro iL y.1,.ro aN y.2.1,y.2.2.1,y.2.2.2])]
theorem aa9 (q:Nat × Nat × Nat) (Z:0<=n) (h4:n<=4) (g:(uJ z n k).Ok) (P:(uJ z n k).Set):Ob.aK Tryz.prog ((ak gE).drop 10) (Ob.GH (m7 w0 M0 F0) gE.ntmps (dc z n 8 [(15,aG q.1),(16,av true)] []) (h8 (uJ z n k).qY q).ef) (Ob.cP (m7 w0 M0 F0) gE Pd) (Ob.cP (m7 w0 M0 F0) gE Pd) (fun _ _ _=>False):=by
 obtain⟨H,t⟩:=Gb g P q;refine Ob.dB 10 (bo (aq (ak gE) 10)) ?_;refine Ob.c7 bR 1 (dc z n 8 [(15,aG q.1),(16,av true),(87,aG q.1)] []) ?_;refine Ob.iD (jJ fun h=>Ob.fE 87 (.is (.one (.fv .pq true))) (by exact Mi q.1) h) ?_;refine Ob.fD bR 4 (fun d=>bg .bool 90 d) (fun b=>dc z n 8 [(15,aG q.1),(90,av b)] []) (fun b=>b=false) ?_ (fun b c=>Ob.dv ?_);intro w ids M num;refine @al ((dc z n 8 [(15,aG q.fst),(90,av !true==true)] []).ag ((!true==true)=false)) _ ?_ ?_;kernel_rfl;exact ao rfl;have c:b=false:=c;subst c;refine Ob.eQ (aq (ak gE) 11) ?_;refine Ob.dB 12 (bo (aq (ak gE) 12)) ?_;refine Ob.c7 bR 1 (dc z n 8 [(15,aG q.1),(92,aG q.1)] []) ?_;have C:pU (h8 (uJ z n k).qY q)=DP:=rfl;refine Ob.gK (Ob.fS (E:=m7 w0 M0 F0) (C4 sha.dE) (h8 (uJ z n k).qY q) t ab qM ab ab (fun _=>by rw[C];rfl)) (fun _ _=>?_);rw[C];refine Ob.c7 bR 10 (dc z n 8 [(15,aG q.1),(19,.is (.one .F))] []) (Ob.dv ?_);refine Ob.dB 13 (bo (aq (ak gE) 13)) ?_;refine Ob.c7 bR 3 (dc z n 8 [(15,aG q.1),(98,.is (.one .F)),(99,aG q.1)] []) ?_;refine Ob.gz (E:=m7 w0 M0 F0) (Ce sha.dE) (h8 (uJ z n k).qY q) trivial oS (fun _ _=>?_);refine Ob.fD bR 6 (fun d=>bg .bool 102 d) (fun b=>dc z n 8 [(15,aG q.1),(102,av b)] []) (fun b=>b=false) ?_ (fun b c=>?_);intro w ids M num;refine @al ((dc z n 8 [(15,aG q.fst),(102,av ((rite.h8 (uJ z n k).qY q).z.R.phase != 0))] []).ag (((rite.h8 (uJ z n k).qY q).z.R.phase != 0)=false)) _ ?_ ?_;kernel_rfl;exact ao rfl;have c:b=false:=c;subst c;refine Ob.iD (jJ fun h=>Ob.fE 102 (.is (.one .F)) Ob.lK h) ?_;refine Ob.c7 bR 8 (dc z n 8 [(15,aG q.1),(103,.is (.one .F)),(104,aG q.1)] []) ?_;refine Ob.gz (E:=m7 w0 M0 F0) HX (h8 (uJ z n k).qY q,-1) t qk (fun y i=>?_);obtain⟨u,o⟩:=y;have i:Ticks (-1) (h8 (uJ z n k).qY q) u o:=i;have L:=CJ i t;obtain⟨j,_,_,K,G,_,m⟩:=zG g i (a2 _) H;have m:j=0:=m (by have:=g.s0;omega);subst m;have G:o=[]:=G;subst G;obtain⟨hub,O⟩:=K.R;have U:u.z.R.p=q.1:=by rw[O];rfl
 refine Ob.fD bR 12 (fun d=>bg .bool 108 d) (fun b=>dc z n 8 [(15,aG q.1),(108,av b)] []) (fun b=>b=false) ?_ (fun b c=>Ob.dv ?_);intro w ids M num;refine @al ((dc z n 8 [(15,aG q.fst),(108,av ((↑(0:Nat):Int) != 0))] []).ag (((↑(0:Nat):Int) != 0)=false)) _ ?_ ?_;kernel_rfl;exact ao rfl;have c:b=false:=c;subst c;refine Ob.eQ (aq (ak gE) 14) ?_;refine Ob.dB 15 (bo (aq (ak gE) 15)) ?_;refine Ob.c7 bR 1 (dc z n 8 [(15,aG q.1),(109,aG q.1)] []) ?_;refine Ob.iD (jJ fun h=>Ob.fE 109 (.is (.one (.fv .pq true))) (by exact Mi q.1) h) ?_;refine Ob.fD bR 2 (fun d=>bg .bool 110 d) (fun b=>dc z n 8 [(15,aG q.1),(110,av b)] []) (fun b=>b=false) ?_ (fun b c=>Ob.dv ?_);intro w ids M num;refine @al ((dc z n 8 [(15,aG q.fst),(110,av !true)] []).ag ((!true)=false)) _ ?_ ?_;kernel_rfl;exact ao rfl;have c:b=false:=c;subst c;refine Ob.eQ (aq (ak gE) 16) ?_;refine Ob.aO (G':=u.ef) rfl ?_;refine Ob.dB 17 (bo (aq (ak gE) 17)) ?_;refine Ob.c7 bR 5 (dc z n 8 [(15,aG q.1),(123,aG q.1),(127,sI .i64 (i64.wrap (z.start+i64.wrap (3*z.span))))] []) ?_;refine Ob.gK (Ob.fS (E:=m7 w0 M0 F0) HX (u,i64.wrap (z.start+i64.wrap (3*z.span))) L ab qk (by rw[U];kernel_rfl) ab (fun _=>rfl)) (fun y i=>?_);obtain⟨v,o⟩:=y;have i:Ticks (i64.wrap (z.start+i64.wrap (3*z.span))) u v o:=i;have C:=CJ i L;obtain⟨j,_,j4,FY,_,m,_⟩:=zG g i (a2 _) K;have m:j=4:=by rcases m with h|h;exact h;have V:0<=z.start:=g.s0;have W:z.start<=1099511627776:=g.s1;have X:1<=z.span:=g.p1;have Y:z.span<=1048576:=g.p2;have h:i64.wrap (z.start+i64.wrap (3*z.span))<z.start+(j:Int)*z.span:=h;rw[ba (a:=3*z.span) aa aa,ba aa aa] at h;by_cases Q:j<=3;have:(j:Int)*z.span<=3*z.span:=wv aa aa;omega;omega
 subst m;obtain⟨l,f⟩:=FY.R;have e:v.z.R.p=q.1:=by rw[f];rfl
 have A:v.fin=true:=FY.fin;have s:v.z.R.phase=4:=by rw[f];rfl
 refine Ob.dv ?_;refine Ob.gA (dc z n 8 [(15,aG q.1)] []) ?_;refine Ob.aO (G':=v.ef) rfl ?_;refine Ob.dB 18 (bo (aq (ak gE) 18)) ?_;refine Ob.c7 bR 1 (dc z n 8 [(15,aG q.1),(130,aG q.1)] []) ?_;by_cases I:n.toNat=1
 ·have r:(uJ z n k).mem.length=1:=by show (eO n.toNat).length=1;rw[rj,I]
  have x:pU v=yt [z.me] (poly.cn (fQ z.b 1 k.toNat)) (.row .fr 1 [poly.pat (fQ z.b 1 k.toNat) z.me]) (.ints .u8 32 (mW [z.me] (poly.cn (fQ z.b 1 k.toNat)))) 0:=by
   have D:fN v.z.R=(some (Wk (uJ z n k)),0):=by rw[f];exact LA g r q.1 l
   have N:v.z.R.fault=0:=by rw[f];rfl
   unfold pU;rw[A,D,N];rfl
  refine Ob.gK (Ob.fS (E:=m7 w0 M0 F0) (C4 sha.dE) v C ab qM (by rw[e];kernel_rfl) (by rw[e];kernel_rfl) (fun _=>by show (pU v).ids=[];rw[x];rfl)) (fun _ _=>?_);rw[x];refine Ob.c7 bR 10 (rfE z n q.1 ([z.me],poly.cn (fQ z.b 1 k.toNat),.row .fr 1 [poly.pat (fQ z.b 1 k.toNat) z.me],.ints .u8 32 (mW [z.me] (poly.cn (fQ z.b 1 k.toNat)))) 0) (Ob.dv ?_);refine Ob.dB 19 (bo (aq (ak gE) 19)) ?_;refine Ob.c7 bR 1 (uC z n q.1 ([z.me],poly.cn (fQ z.b 1 k.toNat),.row .fr 1 [poly.pat (fQ z.b 1 k.toNat) z.me],.ints .u8 32 (mW [z.me] (poly.cn (fQ z.b 1 k.toNat)))) 0 [(19,.is (.one .T)),(135,aG q.1)]) ?_;refine Ob.gK (Ob.fS (E:=m7 w0 M0 F0) (Ce sha.dE) v trivial ab oS (by rw[e];kernel_rfl) (by rw[e];kernel_rfl) (fun _=>rfl)) (fun _ _=>?_);rw[s];refine Ob.fD bR 3 (fun d=>bg .bool 137 d) (fun b=>uC z n q.1 ([z.me],poly.cn (fQ z.b 1 k.toNat),.row .fr 1 [poly.pat (fQ z.b 1 k.toNat) z.me],.ints .u8 32 (mW [z.me] (poly.cn (fQ z.b 1 k.toNat)))) 0 [(19,.is (.one .T)),(137,av b)]) (fun b=>b=false) ?_ (fun b c=>?_);intro w ids M num;refine @al ((uC z n q.fst ([z.me],poly.cn (fQ z.b 1 k.toNat),Cell.row Kd.fr 1 [poly.pat (fQ z.b 1 k.toNat) z.me],Cell.ints u8 32 (mW [z.me] (poly.cn (fQ z.b 1 k.toNat)))) 0 [(19,SV.is (TV.one Cell.T)),(137,av (4 != 4))]).ag ((4 != 4)=false)) _ ?_ ?_;kernel_rfl;exact ao rfl;have c:b=false:=c;subst c;refine Ob.iD (jJ fun h=>Ob.fE 137 (.is (.one .F)) Ob.lK h) ?_;refine Ob.c7 bR 7 (uC z n q.1 ([z.me],poly.cn (fQ z.b 1 k.toNat),.row .fr 1 [poly.pat (fQ z.b 1 k.toNat) z.me],.ints .u8 32 (mW [z.me] (poly.cn (fQ z.b 1 k.toNat)))) 0 [(141,.is (.one .F))]) (Ob.dv ?_);refine Ob.SS (aq (ak gE) 20) ?_;refine Ob.gcd bR 1 (fun d=>bg .bool 143 d) (fun b=>uC z n q.1 ([z.me],poly.cn (fQ z.b 1 k.toNat),.row .fr 1 [poly.pat (fQ z.b 1 k.toNat) z.me],.ints .u8 32 (mW [z.me] (poly.cn (fQ z.b 1 k.toNat)))) 0 [(143,av b)]) (fun b=>b=true) ?_ (fun b c=>?_);intro w ids M num;refine @al ((uC z n q.fst ([z.me],poly.cn (fQ z.b 1 k.toNat),Cell.row Kd.fr 1 [poly.pat (fQ z.b 1 k.toNat) z.me],Cell.ints u8 32 (mW [z.me] (poly.cn (fQ z.b 1 k.toNat)))) 0 [(143,av (n==1))]).ag ((n==1)=true)) _ ?_ ?_;kernel_rfl;exact ao (by rw[show n=1 by omega];rfl);have c:b=true:=c;subst c;refine Ob.jx (aq (ak gE) 22) ?_;refine Ob.kH bR mixed 1 12 (fun d=>bg .bool 12 d) (fun b=>dc z n 8 [(12,av b)] []) (fun b=>b=true) (fun _=>False) (fun _ _=>False) ?_ (fun b c=>?_) (fun _ _ _ h _=>h.elim) (fun _ _ _ _ h _=>h.elim);intro w ids M num;refine @al ((((0:Int)==0)=true->(dc z n 8 [(12,av ((↑[z.me].length:Int)==1))] []).ag (((↑[z.me].length:Int)==1)=true))/\(((0:Int)==0)=false->(dc z n 8 [(12,av false)] []).ag (false=true))) _ ?_ ?_;kernel_rfl;exact⟨fun _=>ao rfl,fun h=>by cases h⟩;have c:b=true:=c;subst c;refine Ob.aO (G':=Ob.ai.sep v.ef Ob.ai.none) (Ob.qu _).symm ?_;refine Ob.Ew ?_;refine Ob.gF bR mixed (av true) ?_ ⟨(),trivial,Ob.a7 _,rfl⟩;intro w ids M num;refine @al (SV.is (TV.one (Cell.v (Value.bool true)))=av true) _ ?_ ?_;kernel_rfl;rfl
 ·have r:(uJ z n k).mem.length≠1:=by show (eO n.toNat).length≠1;rw[rj];exact I
  have x:pU v=yt [] [] (.row .fr 1 [0]) zD 32\/True:=.inr trivial;have x:pU v=yt [] [] zF zD 32:=by
   have D:fN v.z.R=(none,32):=by rw[f];exact Wl g r q.1 l
   unfold pU;rw[A,D,s];rfl
  refine Ob.gK (Ob.fS (E:=m7 w0 M0 F0) (C4 sha.dE) v C ab qM (by rw[e];kernel_rfl) (by rw[e];kernel_rfl) (fun _=>by show (pU v).ids=[];rw[x];rfl)) (fun _ _=>?_);rw[x];refine Ob.c7 bR 10 (rfE z n q.1 ([],[],zF,zD) 32) (Ob.dv ?_);refine Ob.dB 19 (bo (aq (ak gE) 19)) ?_;refine Ob.c7 bR 1 (uC z n q.1 ([],[],zF,zD) 32 [(19,.is (.one .T)),(135,aG q.1)]) ?_;refine Ob.gK (Ob.fS (E:=m7 w0 M0 F0) (Ce sha.dE) v trivial ab oS (by rw[e];kernel_rfl) (by rw[e];kernel_rfl) (fun _=>rfl)) (fun _ _=>?_);rw[s];refine Ob.fD bR 3 (fun d=>bg .bool 137 d) (fun b=>uC z n q.1 ([],[],zF,zD) 32 [(19,.is (.one .T)),(137,av b)]) (fun b=>b=false) ?_ (fun b c=>?_);intro w ids M num;refine @al ((uC z n q.fst ([],[],zF,zD) 32 [(19,SV.is (TV.one Cell.T)),(137,av (4 != 4))]).ag ((4 != 4)=false)) _ ?_ ?_;kernel_rfl;exact ao rfl;have c:b=false:=c;subst c;refine Ob.iD (jJ fun h=>Ob.fE 137 (.is (.one .F)) Ob.lK h) ?_;refine Ob.c7 bR 7 (uC z n q.1 ([],[],zF,zD) 32 [(141,.is (.one .F))]) (Ob.dv ?_);refine Ob.SS (aq (ak gE) 20) ?_;refine Ob.gcd bR 1 (fun d=>bg .bool 143 d) (fun b=>uC z n q.1 ([],[],zF,zD) 32 [(143,av b)]) (fun b=>b=false) ?_ (fun b c=>?_);intro w ids M num;refine @al ((uC z n q.fst ([],[],zF,zD) 32 [(143,av (n==1))]).ag ((n==1)=false)) _ ?_ ?_;kernel_rfl;exact ao (by simpa using (show ¬ n=1 by omega));have c:b=false:=c;subst c;refine Ob.eQ (aq (ak gE) 22) ?_;refine Ob.kH bR mixed 1 12 (fun d=>bg .bool 12 d) (fun b=>dc z n 8 [(12,av b)] []) (fun b=>b=true) (fun _=>False) (fun _ _=>False) ?_ (fun b c=>?_) (fun _ _ _ h _=>h.elim) (fun _ _ _ _ h _=>h.elim);intro w ids M num;refine @al ((((32:Int)==32)=true->(((↑(0:Nat):Int)==0)=true->Canon Mr [0,0,0,0]/\True/\(dc z n 8 [(12,av (decide (dec [0,0,0,0]=(0:Zm Mr))))] []).ag (decide (dec [0,0,0,0]=(0:Zm Mr))=true))/\(((↑(0:Nat):Int)==0)=false->(dc z n 8 [(12,av false)] []).ag (false=true)))/\(((32:Int)==32)=false->(dc z n 8 [(12,av false)] []).ag (false=true))) _ ?_ ?_;kernel_rfl;exact⟨fun _=>⟨fun _=>⟨abY,trivial,ao (bX ahO)⟩,fun h=>by cases h⟩,fun h=>by cases h⟩;have c:b=true:=c;subst c;refine Ob.aO (G':=Ob.ai.sep v.ef Ob.ai.none) (Ob.qu _).symm ?_;refine Ob.Ew ?_;exact Ob.pM bR (av true) ⟨(),trivial,Ob.a7 _,rfl⟩
end
set_option maxHeartbeats 4000000
theorem W1 {n:Nat} (a:1<=n) (b:n<=4):j8 0 (eO n)=true/\Lib.compact (sorti.gW (eO n++eO n))=eO n/\lE (eO n) (eO n).length:=by have h:n=1\/n=2\/n=3\/n=4:=aa;rcases h with rfl|rfl|rfl|rfl;exact⟨ab,ab,by unfold lE;decide⟩;exact⟨ab,ab,by unfold lE;decide⟩;exact⟨ab,ab,by unfold lE;decide⟩;exact⟨ab,ab,by unfold lE;decide⟩
theorem U0 {d t:List Int} {n:Int} {o:List Pt} (h:mi d t n o=0):d.length≠0/\1<=n/\n<=t.length:=by refine⟨fun b=>?_,?_,?_⟩;unfold mi at h;simp[b] at h;by_cases a:n<1;unfold mi at h;simp[a] at h;omega;by_cases a:n>(t.length:Int);unfold mi at h;simp[a] at h;omega
theorem UU {z:iT} (h:z.bad=false):mi z.d z.t z.need z.old=0/\1<=z.span/\z.span<=1048576/\0<=z.start/\z.start<=1099511627776:=by unfold iT.bad at h;simp only[wz,decide_eq_false_iff_not] at h;obtain⟨⟨⟨⟨a,b⟩,c⟩,e⟩,f⟩:=h;rw[bf] at a;refine⟨?_,aa,aa,aa,aa⟩;simpa using a
section
variable (z:RIn) (n k:Int)
theorem YI (c:dO z n k=true) (s:0<=n) (t:n<=4) (u:0<=k):(uJ z n k).Ok/\(uJ z n k).Set:=by unfold dO at c;simp only[aQ,jR,tT] at c;obtain⟨⟨⟨⟨⟨⟨⟨⟨⟨o,d⟩,p⟩,q⟩,e⟩,r⟩,f⟩,g⟩,h⟩,a⟩:=c;have w:(eO n.toNat).length=n.toNat:=rj _;obtain⟨j,l,m⟩:=W1 (n:=n.toNat) aa aa;refine⟨⟨?_,?_,Iy.2 ⟨e,by show z.me<=_;omega⟩,fun x i=>?_,d,?_,?_,h,a,f,g⟩,⟨j,l,m⟩⟩;show 1<=(eO n.toNat).length;omega;show (eO n.toNat).length<=4;omega;have:=Iy.1 i;omega;show z.need<=((eO n.toNat).length:Int);omega;show ((fQ z.b 1 k.toNat).length:Int)=z.need;rw[fQ,bU,qA];omega
theorem aeB (a:n<=4) (c:k<=7):(Jx z n k).Pre:=by
 have d:(eO n.toNat).length=n.toNat:=rj _;refine⟨?_,?_,by show 0<1000;decide,?_⟩;show (eO n.toNat).length+(eO n.toNat).length<=12;omega
 ·show (Lib.compact (sorti.gW (eO n.toNat++eO n.toNat))).length<1000;by_cases h:1<=n.toNat;rw[(W1 h aa).2.1];omega
  ·have:n.toNat=0:=by omega
   rw[this];decide
 show (fQ z.b 1 k.toNat).length<1000;rw[fQ,bU,qA];omega
theorem Ml (o:0<=n) (r:n<=4) (s:0<=k):((Jx z n k).bad=false/\(Jx z n k).pT=false/\vF (Jx z n k).me (Jx z n k).mem)↔dO z n k=true:=by
 constructor
 ·rintro⟨p,a,q⟩;obtain⟨m,c,d,f,g⟩:=UU p;obtain⟨j,h,l⟩:=U0 m;have y:(eO n.toNat).length=n.toNat:=rj _;have j:(eO n.toNat).length≠0:=j;have h:1<=z.need:=h;have l:z.need<=((eO n.toNat).length:Int):=l;have c:1<=z.span:=c;have d:z.span<=1048576:=d;have f:0<=z.start:=f;have g:z.start<=1099511627776:=g;have i:z.me∈Lib.compact (sorti.gW (eO n.toNat++eO n.toNat)):=q.2;rw[(W1 (n:=n.toNat) aa aa).2.1] at i;have t:=Iy.1 i;have e:((fQ z.b 1 k.toNat).length:Int)=z.need:=by
   have a:(decide (z.me∈eO n.toNat)&&(((fQ z.b 1 k.toNat).length:Int) != z.need))=false:=a;rw[bX i,dp] at a;simpa using a
  rw[fQ,bU,qA] at e;unfold dO;simp only[aQ,jR,tT];exact⟨⟨⟨⟨⟨⟨⟨⟨⟨aa,h⟩,aa⟩,aa⟩,aa⟩,aa⟩,c⟩,d⟩,f⟩,g⟩
 intro u;obtain⟨w,x⟩:=YI z n k u o r s;have e:(uJ z n k).qY=Jx z n k:=rfl;rw[<- e];exact Jf w x
end
set_option maxHeartbeats 4000000
theorem walk (z:RIn) (x:Bs z.b) (j:World) (f:Mem) (e:Nat->Prop):Ob.aK Tryz.prog (ak gE) (Ob.GH (m7 j f e) gE.ntmps (dc z z.n 0 [] []) Ob.ai.none) (Ob.cP (m7 j f e) gE Pd) (Ob.cP (m7 j f e) gE Pd) (fun _ _ _=>False):=by
 refine Ob.ee bR 1 (dc z z.n 8 [] []) ?_;refine Ob.dB 1 (bo (aq (ak gE) 1)) ?_;refine Ob.gz (E:=m7 j f e) aaM () trivial KK (fun y s=>?_);refine Ob.iD (jJ fun h=>Ob.fE 22 (.is (.one .T)) Ob.gf h) ?_;refine Ob.c7 bR 2 (dc z z.n 8 [(23,.is (.one .F))] []) (Ob.dv ?_);refine Ob.SS (aq (ak gE) 2) ?_;refine Ob.gcd bR 1 (fun p=>bg .bool 26 p) (fun q=>dc z z.n 8 [(26,av q)] []) (fun q=>q=decide ((z.b.length:Int)>100)) ?_ (fun q r=>?_);intro w ids M num;refine @al ((dc z z.n 8 [(26,av (decide ((z.b.length:Int)>100)))] []).ag (decide ((z.b.length:Int)>100)=decide ((z.b.length:Int)>100))) _ ?_ ?_;kernel_rfl;exact ao rfl;cases q
 ·refine Ob.eQ (aq (ak gE) 4) ?_;have G:z.b.length<=100:=by have:=Odf r.symm;omega
  refine Ob.gcd bR 3 (fun p=>(bg iL 1 p,bg iL 13 p)) (fun g:Int × Int=>dc z g.1 128 [(13,sI .i64 g.2),(14,.is (.one (.ptr 112 0)))] [(112,[.ro iL (eO g.1.toNat),.ro iL (eO g.1.toNat),.v (.int .i64 z.need),.v (.slice none 0 0)])]) (fun g=>0<=g.1/\g.1<=4/\0<=g.2/\g.2<=7) ?_ (fun g A=>?_);intro w ids M num;refine @al (((5:Int)=0->False)/\(0<=(aF BinOp.and i64 z.n 1023).tmod 5/\(aF BinOp.and i64 z.n 1023).tmod (5:Int)<=1000)/\(0<=(aF BinOp.and i64 z.n 1023).tmod 5/\(aF BinOp.and i64 z.n 1023).tmod (5:Int)<=1000)/\(dc z ((aF BinOp.and i64 z.n 1023).tmod 5,aF BinOp.and i64 z.need 7).fst 128 [(13,sI i64 ((aF BinOp.and i64 z.n 1023).tmod 5,aF BinOp.and i64 z.need 7).snd),(14,SV.is (TV.one (Cell.ptr 112 0)))] [(112,[Cell.ro iL (eO ((aF BinOp.and i64 z.n 1023).tmod 5,aF BinOp.and i64 z.need 7).fst.toNat),Cell.ro iL (eO ((aF BinOp.and i64 z.n 1023).tmod 5,aF BinOp.and i64 z.need 7).fst.toNat),Cell.v (Value.int i64 z.need),Cell.v (Value.slice none 0 0)])]).ag ((0:aA iL)<=(aF BinOp.and i64 z.n 1023).tmod 5/\(aF BinOp.and i64 z.n 1023).tmod 5<=(4:aA iL)/\(0:aA iL)<=aF BinOp.and i64 z.need 7/\aF BinOp.and i64 z.need 7<=(7:aA iL))) _ ?_ ?_;kernel_rfl;have u:=UQ z.n;have t:=ahM z.need;have m:=af9 u.1;exact⟨ae,⟨m.1,aa⟩,⟨m.1,aa⟩,ao ⟨m.1,m.2,t.1,t.2⟩⟩;obtain⟨n,k⟩:=g;obtain⟨d,a,c,i⟩:=A;have d:0<=(n:Int):=d;have a:(n:Int)<=4:=a;have c:0<=(k:Int):=c;have i:(k:Int)<=7:=i;refine Ob.jy mixed (rid:=8) (ops:=bo (aq (ak gE) 8)) ab ?_;refine Ob.eV bR 7 (fun _=>()) (fun _=>dc z n 184 [(13,sI .i64 k),(38,sI .i64 z.me),(39,.is (.agg [.ro iL (eO n.toNat),.ro iL (eO n.toNat),.v (.int .i64 z.need),.v (.slice none 0 0)])),(42,.is (.one (.ro .fr (fQ z.b 1 k.toNat)))),(43,sI .i64 z.start),(44,sI .i64 z.span)] []) (fun _=>True) ae ab ?_ (fun _ _=>?_);intro w ids M num;refine @al (zU (z.b,1,k,())/\(dc z n 184 [(13,sI i64 k),(38,sI i64 z.me),(39,SV.is (TV.agg [Cell.ro iL (eO (toNat n)),Cell.ro iL (eO (toNat n)),Cell.v (Value.int i64 z.need),Cell.v (Value.slice none 0 0)])),(42,SV.is (TV.one (Cell.ro Kd.fr (fQ z.b 1 (toNat k))))),(43,sI i64 z.start),(44,sI i64 z.span)] []).ag True) _ ?_ ?_;kernel_rfl;exact⟨⟨⟨x,by show z.b.length<=1000;omega⟩,c,Int.le_trans i ae⟩,ao trivial⟩;refine qQ (jJ fun h=>Ob.fE 39 (.is (.agg [.ro iL (eO n.toNat),.ro iL (eO n.toNat),.v (.int .i64 z.need),.ro aN []])) (by exact Pa) h) ?_;have l:(Jx z n k).Pre:=by exact aeB z n k a i
  refine Ob.pZ (Ob.fS (E:=m7 j f e) (Tt sha.dE) (Jx z n k) l ab HD ab ab (fun y=>by cases y<;>rfl)) ab ab (fun y s=>?_);cases y with
  | none =>
   have o:dO z n k=false:=by
    cases r:dO z n k with
    | false=>rfl
    | true=>exact absurd ((Ml z n k d a c).2 r) s
   refine Ob.g8 bR (fun _=>()) (fun _=>dc z n 8 [(13,sI .i64 k),(15,dg)] []) (fun _=>True) (Odt ab) ?_ (fun _ _=>?_);intro w ids M num;refine @al ((dc z n 8 [(13,sI i64 k),(15,dg)] []).ag True) _ ?_ ?_;kernel_rfl;exact ao trivial;refine aeA z n k j f e _ _ ?_;rw[o];exact aa8 z n j f e
  | some q =>have o:dO z n k=true:=(Ml z n k d a c).1 s;obtain⟨C,D⟩:=YI z n k o d a c;refine Ob.g8 bR (fun _=>()) (fun _=>dc z n 8 [(13,sI .i64 k),(15,aG q.1)] []) (fun _=>True) (Odt ab) ?_ (fun _ _=>?_);intro w ids M num;refine @al ((dc z n 8 [(13,sI i64 k),(15,aG q.fst)] []).ag True) _ ?_ ?_;kernel_rfl;exact ao trivial;refine aeA z n k j f e _ _ ?_;rw[o];exact aa9 z n k j f e q d a C D
 refine Ob.jx (aq (ak gE) 4) ?_;refine Ob.gF bR mixed (.is (.one .T)) ?_ ⟨(),trivial,Ob.Cs,rfl⟩;intro w ids M num;refine @al (SV.is (TV.one Cell.T)=SV.is (TV.one Cell.T)) _ ?_ ?_;kernel_rfl;rfl
abbrev Q9:HL [.int .i64,.int .i64,.int .i64,.int .i64,.int .i64,DH]->Prop:=fun (c,n,a,start,span,b,_)=>fh c/\fh n/\fh a/\fh start/\fh span/\preB b
theorem Qt:aL Tryz.prog 5 [.int .i64,.int .i64,.int .i64,.int .i64,.int .i64,DH] [.val .bool] sha.dE Q9 (fun _=>(true,())):=by refine VP xM ?_;refine Ob.cA (sp:=WU) xM ab (fun z=>by show 6<=gE.ntmps;exact Odt ab) (fun z y=>rfl) ?_;rintro⟨c,n,a,start,span,b,⟨⟩⟩ d g f e;revert c n a start span b;intro (c:Int) (n:Int) (a:Int) (start:Int) (span:Int) (b:List Int) d;refine Ob.gA (dc ⟨c,n,a,start,span,b⟩ n 0 [] []) ?_;exact walk ⟨c,n,a,start,span,b⟩ d.2.2.2.2.2.1 g f e
end YtofofalgjibokaaGreatDoor.law23
end Go.Proofs
namespace Go.Eng
open Go.ChangeShapes Go.WideShapes Go.ChangeAt
open Go.IntKind(i64 u8)
open Go.IntKind(i64 u64 u8)
open Go.IntKind(i64)
theorem Jd {P:Program} {t e:TypeId} {n:Nat} {k:IntKind} {H:Type} {enc:TypeId × Value->H} {W:World} {fl:Bool} {b:Nat} {g:List Value} {p:List MemPlace} {j:List Int} (E:P.underlying t=some (.array n e)) (C:P.underlying e=some (.int k)) (q:P.cellsOf e=1) (d:P.cellsOf t=n)
  (h:DataW.trod enc P W 0 (fun _=>true) fl b t g=some (.agg (j.map fun x=>.lit (.int k x)),p)):g=j.map (Value.int k):=by
 obtain⟨F,m,rfl,f,a,D,r⟩:=DataW.trod_array E h;simp only[aI,DataW.agg.injEq] at f;obtain⟨f,_⟩:=f;have u:j.length=n:=by have:=congrArg length f;simpa[D] using this
 refine mQ (by rw[a,d,bU,u]) fun i o G=>?_;have s:i<n:=by rw[a,d] at o;exact o
 have w:=r i s;rw[q,tQ,bz aa] at w;obtain⟨z,l,y,_⟩:=DataW.trod_int C w;have A:(g.drop i).take 1=[g[i]]:=by rw[lS o];rfl
 rw[A] at l;simp only[br,bM] at l;have c:(j.map fun x=>(DataW.lit (.int k x):DataW H))[i]?=(F.map (·.1))[i]?:=by rw[f]
 rw[dw,dw,bz aa,bz aa] at c;simp only[cY,az] at c;rw[y] at c;simp only[DataW.lit.injEq,Lit.int.injEq,true_and] at c;rw[l,wN,c]
theorem Lu {P:Program} {W:World} {m:String} {g n:Nat} {k:IntKind} {f:Array Value} {i:List Int} (o:P.globalNamed m=some g) (d:W.var? P m=some f) (a:f.toList=i.map (Value.int k)) (j:i.length=n):mo (Rd (b8 W) (.arr n (.int k))) (width (.arr n (.int k))) (b8 W) g 0 [i]:=by
 have b:∃ h fr,W.heap[g]?=some (.cells f h fr):=by simp only[World.var?,o,Option.bind_some] at d;split at d;rename_i c h fr b;simp only[az] at d;subst d;exact⟨h,fr,b⟩;cases d
 obtain⟨h,fr,b⟩:=b;obtain⟨l⟩:=f;have a:l=i.map (Value.int k):=a;refine⟨l,fun p=>kB b p,?_,?_⟩;simp[width,a,j];rw[gT,bQ (by simp[width,a,j])];exact pn ⟨j,uZ.2 a⟩
theorem Wh {C:Checked} {f:FuncId} {fn:Func} {s:ChangeSpec} {bt:TypeId} {ts:List TypeId} {L:List Kd} {pre g:HL L->Prop} {H:Type} {enc:TypeId × Value->H} {G:gi}
  (Z:enters C.prog f fn) (hf:aL C.prog f L [.val .bool] G pre (fun _=>(true,()))) (hl:laidOutB C.prog=true) (d:fn.params.toList=ts) (D:fn.resultTypes=#[bt]) (w:C.prog.underlying bt=some .bool)
  (T:OpnL C.prog ts L g) (m:∀ r,g r->pre r) (F:s.vars=[]) (E:∀ ds:List (DataW H),ds.length=ts.length->s.fn H ds={ results:=[.lit (.bool true)],args:=ds })
  (W:World) (V:rk G (b8 W)) (base:Nat) (args:Array Value) (ds O:List (DataW H)) (a:List MemPlace)
  (A:∀ (j:Nat) t v,fn.params[j]?=some t->args[j]?=some v->Value.okWide C.prog W .any base t v)
  (Q:DataW.Whole enc C.prog fn.params.toList s.vars false W args.toList ds O a)
  (o:(DataW.weightsEach C.prog (fn.params.toList++s.plain.varTypes C.prog) (ds++O)).all (· <= reachBytes)=true) :
  Calls C.prog f args W fun e N=>∃ v,e=.returned v/\s.post enc C.prog fn false true false false W args v N:=by
 have k:=Q;have z:∀ x∈a,x.block<W.heap.size:=fun x K=>by simpa using k.lt x K
 obtain⟨p,q,u,P,rfl,x0,x1⟩:=Q;rw[F] at P;obtain⟨rfl,rfl⟩:=trodVars_none P;rw[d] at u;have c:ds.length=ts.length:=by exact ND u
 have I:∀ n∈DataW.weightsEach C.prog ts ds,n<=reachBytes:=by
  intro n hn;have e:s.plain.varTypes C.prog=[]:=by simp[DataSpec.varTypes,ChangeSpec.plain,F]
  rw[e,d,bq,bq,mR] at o;simpa using o n hn
 obtain⟨r,y,hp⟩:=Ty T (enc:=enc) (W:=W) (base:=base) (vs:=args.toList) (ds:=ds) (p:=p) (fun j t v U hj=>A j t v (by rw[<- d] at U;simpa using U) (by simpa using hj)) u I;have Y:=hf W (b8 W) args.toList r (fun b l h=>h) V y (m r hp);refine (Kx Z Y).mono ?_;rintro e N ⟨v,rfl,vs,ob,rfl,⟨v,x2,rfl,i,rfl⟩,R⟩;have i:v=.bool true:=by have h:[v]=[Value.bool true]:=i;simpa using h
 subst i;refine⟨_,rfl,ds,[],p++[],[],p,[],k,?_,?_,?_,?_,fun h=>by cases h⟩;rw[D,bq,E ds c];exact trodAll_mk1 (shut_bool w true);rw[d,bq,E ds c];exact QY hl T R u (fun x K=>z x (by simpa using K));rw[F,bq,E ds c];rfl;exact R.frame _
end Go.Eng
namespace Go.Proofs.YtofofalgjibokaaGreatDoor
namespace sha
open Go.IntKind(i64 u8)
open Go.IntKind(i64 u64 u8)
open Go.IntKind(i64)
abbrev yT : List (String × DataW Unit) := [("cresset/sha.first", Rows.laid_cresset_sha_first), ("cresset/sha.roots", Rows.laid_cresset_sha_roots)]
theorem ac5 : Tryz.prog.globalNamed "cresset/sha.first" = some 0 := by kernel_rfl
theorem ac7 : Tryz.prog.globalNamed "cresset/sha.roots" = some 1 := by kernel_rfl
theorem ae4:(Tryz.prog.globals[0]?).map (·.type)=some 227:=ab
theorem ae5:(Tryz.prog.globals[1]?).map (·.type)=some 252:=ab
theorem W3 {W:World} (h:laidMetH Tryz.prog yT W):rk dE (b8 W):=by rw[MakeChecks.laidMetH_plain _ _ _ ab] at h;obtain⟨G,⟨D,K,r,z,E,H,d,j,m,b,⟨g1,L,s,A,F,I,f,l,o,c,_,_⟩,_⟩,_,_⟩:=h;obtain rfl:=jT (ac5.symm.trans d);obtain rfl:=jT (ac7.symm.trans f);obtain rfl:=jT (ae4.symm.trans j);obtain rfl:=jT (ae5.symm.trans l);have t:(Rows.laid_cresset_sha_first:DataW Unit)=.agg (ep.map fun x=>.lit (.int .u32 x)):=rfl;have u:(Rows.laid_cresset_sha_roots:DataW Unit)=.agg (jD.map fun x=>.lit (.int .u32 x)):=rfl;rw[t] at b;rw[u] at c;have p:=Jd (e:=174) (n:=8) (k:=.u32) ab ab ab ab b;have q:=Jd (e:=174) (n:=64) (k:=.u32) ab ab ab ab c;have w:=Lu d m p (n:=8) rfl;have y:=Lu f o q (n:=64) rfl;intro g e x a;unfold dE at a;split at a;rename_i i;subst i;simp only[az] at a;cases a;exact w;split at a;rename_i i;subst i;simp only[az] at a;cases a;exact y;cases a
theorem Vd (os:Os) (args:Array Value):laidMetH Tryz.prog yT ((World.doorLaid Tryz.prog 400 os).forCall (fun _ _=>0) ⟨#[],args,[]⟩).memory :=
 laidMetH_of_parts3 (fuel:=8) (laidMet_of_run' 8 ab ab) ab ab
