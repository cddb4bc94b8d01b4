import Derived.Test.YtofofalgjibokaaGreatDoorRows
import Derived.ProofKit
import Derived.SizedLaws
import Derived.Test.YtofofalgjibokaaGreatDoorMLrhPB
set_option maxRecDepth 100000
noncomputable section
open Go Go.Eng Go.RowKit Cr
open List(drop length mem_cons mem_map range replicate take)
open Nat(beq ble blt)
open Int(toNat)
namespace Go.Proofs.YtofofalgjibokaaGreatDoor
namespace fp
abbrev M:Int:=Mp
def ms:List Int:=[13402431016077863595,2210141511517208575,7435674573564081700,7239337960414712511,5412103778470702295,1873798617647539866]
abbrev rinv:Int:=Md.rinv Mp
theorem fX:val ms=M:=ae
theorem pH:Ws ms:=by intro x a;simp[ms] at a;rcases a with rfl|rfl|rfl|rfl|rfl|rfl<;>exact⟨ae,ae⟩
theorem Fk:0<M:=ae
theorem Fl:2*M<=pw 6:=ae
theorem Ic:(pw 6*rinv)%M=1%M:=ae
theorem zn:enters Tryz.prog 168 Tryz.f168:=ek
abbrev hU:HL [.int .u64,.int .u64,.int .u64,.int .u64]->Prop:=fun (a,b,c,d,_)=>gQ a/\gQ b/\gQ c/\gQ d
abbrev lJ:HL [.int .u64,.int .u64,.int .u64,.int .u64]->HO [.val (.int .u64),.val (.int .u64)]:=fun (a,b,c,d,_)=>(((a:Int)*b+c+d)/18446744073709551616,(a*b+c+d)%18446744073709551616,())
theorem BO:aL Tryz.prog 168 [.int .u64,.int .u64,.int .u64,.int .u64] [.val (.int .u64),.val (.int .u64)] bx hU lJ:=by
 refine a8 (sp:=aP [Pp,Dt]) (aJ (aM KU) (aJ (aM zq) bp)) mixed zn ae ae ?_;rintro w p ⟨a,b,c,d,⟨⟩⟩ _ ⟨⟨e,i⟩,⟨f,k⟩,⟨g,l⟩,h,o⟩;have j:=lI (m:=18446744073709551615) (n:=18446744073709551615) e aa f aa
 refine al (X:=(zV (a,b,())/\l7 (a*b%18446744073709551616,c,0,())/\l7 ((a*b%18446744073709551616+c+0)%18446744073709551616,d,0,()) /\
   ((((a*b/18446744073709551616+(a*b%18446744073709551616+c+0)/18446744073709551616)%18446744073709551616+((a*b%18446744073709551616+c+0)%18446744073709551616+d+0)/18446744073709551616)%18446744073709551616,
    ((a*b%18446744073709551616+c+0)%18446744073709551616+d+0)%18446744073709551616,()):Int × Int × Unit)=lJ (a,b,c,d,()))) ab ?_
 refine⟨⟨⟨e,i⟩,f,k⟩,⟨⟨aa,aa⟩,⟨g,l⟩,.inl rfl⟩,⟨⟨aa,aa⟩,⟨h,o⟩,.inl rfl⟩,?_⟩;simp only[lJ,aI,bM];generalize (a:Int)*b=q at *;exact⟨aa,aa⟩
def wc:Nat × Eng.Spec:=(168,aH [.int .u64,.int .u64,.int .u64,.int .u64] [.val (.int .u64),.val (.int .u64)] hU lJ)
abbrev n9:HL [(.arr 6 (.int .u64)),(.arr 6 (.int .u64))]->Prop:=fun (a,b,_)=>Ws a/\Ws b
abbrev qo:HL [(.arr 6 (.int .u64)),(.arr 6 (.int .u64))]->HO [.val (.arr 6 (.int .u64)),.val (.int .u64)]:=fun (a,b,_)=>(aT 6 (val a-val b),if val a<val b then (1:Int) else 0,())
abbrev mJ:HL [(.arr 6 (.int .u64)),(.arr 6 (.int .u64))]->HO [.val (.arr 6 (.int .u64))]:=fun (a,b,_)=>(aT 6 (val a+val b),())
theorem BE:enters Tryz.prog 130 Tryz.f130:=ek
theorem oT:aL Tryz.prog 130 [(.arr 6 (.int .u64)),(.arr 6 (.int .u64))] [.val (.arr 6 (.int .u64)),.val (.int .u64)] bx n9 qo:=by
 refine a8 (sp:=aP [Pq]) (aJ (aM KX) bp) mixed BE ae ae ?_;rintro w t ⟨r,s,⟨⟩⟩ ⟨⟨p,_⟩,⟨q,_⟩,_⟩ ⟨l,m⟩;match r,s,p,q,l,m with
 | [a,b,c,d,e,f],[g,h,i,j,b4,k],_,_,l,m =>refine al (X:=GS [a,b,c,d,e,f] [g,h,i,j,b4,k] 0 (((nD [a,b,c,d,e,f] [g,h,i,j,b4,k] 0).1,(nD [a,b,c,d,e,f] [g,h,i,j,b4,k] 0).2,())=qo ([a,b,c,d,e,f],[g,h,i,j,b4,k],()))) ab ?_;refine JE _ _ 0 rfl l m (.inl rfl) ?_;obtain⟨n,o⟩:=Pr (us:=[a,b,c,d,e,f]) (vs:=[g,h,i,j,b4,k]) rfl l m;rw[n,o];rfl
def re:Nat × Eng.Spec:=(130,aH [(.arr 6 (.int .u64)),(.arr 6 (.int .u64))] [.val (.arr 6 (.int .u64)),.val (.int .u64)] n9 qo)
theorem vv:enters Tryz.prog 171 Tryz.f171:=ek
theorem sG:aL Tryz.prog 171 [(.arr 6 (.int .u64)),(.arr 6 (.int .u64))] [.val (.arr 6 (.int .u64))] bx n9 mJ:=by
 refine a8 (sp:=aP [Dt]) (aJ (aM zq) bp) mixed vv ae ae ?_;rintro w s ⟨q,r,⟨⟩⟩ ⟨⟨o,_⟩,⟨p,_⟩,_⟩ ⟨m,n⟩;match q,r,o,p,m,n with
 | [a,b,d,e,f,g],[h,i,j,k,b4,l],_,_,m,n =>refine al (X:=Fq [a,b,d,e,f,g] [h,i,j,k,b4,l] 0 (((pS [a,b,d,e,f,g] [h,i,j,k,b4,l] 0).1,())=mJ ([a,b,d,e,f,g],[h,i,j,k,b4,l],()))) ab ?_;refine IJ _ _ 0 rfl m n (.inl rfl) ?_;rw[NK (us:=[a,b,d,e,f,g]) (vs:=[h,i,j,k,b4,l]) rfl m n];rfl
def um:Nat × Eng.Spec:=(171,aH [(.arr 6 (.int .u64)),(.arr 6 (.int .u64))] [.val (.arr 6 (.int .u64))] n9 mJ)
theorem xL:enters Tryz.prog 131 Tryz.f131:=ek
theorem nr:aL Tryz.prog 131 [] [.val (.arr 6 (.int .u64))] bx (fun _=>True) (fun _=>(ms,())):=by refine a8 (sp:=aP []) bp mixed xL ae ae ?_;intro w a b _ _;exact al (X:=((ms,()):List Int × Unit)=(ms,())) ab rfl
def pd:Nat × Eng.Spec:=(131,aH [] [.val (.arr 6 (.int .u64))] (fun _=>True) (fun _=>(ms,())))
abbrev vV:HL [(.arr 6 (.int .u64))]->Prop:=fun (a,_)=>Ws a
abbrev mI:HL [(.arr 6 (.int .u64))]->HO [.val (.arr 6 (.int .u64))]:=fun (a,_)=>(if val a<M then a else aT 6 (val a-M),())
theorem Hz:enters Tryz.prog 169 Tryz.f169:=ek
theorem BN:aL Tryz.prog 169 [(.arr 6 (.int .u64))] [.val (.arr 6 (.int .u64))] bx vV mI:=by refine a8 (sp:=aP [re,pd]) (aJ (aM oT) (aJ (aM nr) bp)) mixed Hz ae ae ?_;rintro w b ⟨xs,⟨⟩⟩ _ a;refine al (X:=(True/\(Ws xs/\Ws ms)/\((((if val xs<val ms then 1 else 0:Int) != 0)=true->((xs,()):List Int × Unit)=mI (xs,()))/\(((if val xs<val ms then 1 else 0:Int) != 0)=false->((aT 6 (val xs-val ms),()):List Int × Unit)=mI (xs,()))))) ab ?_;refine⟨trivial,⟨a,pH⟩,?_⟩;rw[fX];by_cases h:val xs<M;simp[h,mI];simp[h,mI]
def Ai:Nat × Eng.Spec:=(169,aH [(.arr 6 (.int .u64))] [.val (.arr 6 (.int .u64))] vV mI)
abbrev dA:HL [(.arr 6 (.int .u64)),(.arr 6 (.int .u64))]->Prop:=fun (xs,ys,_)=>Ws xs/\Ws ys/\val xs<M
abbrev jd:HL [(.arr 6 (.int .u64)),(.arr 6 (.int .u64))]->HO [.val (.arr 6 (.int .u64))]:=fun (xs,ys,_)=>(aT 6 (val xs*val ys*rinv%M),())
theorem tY:enters Tryz.prog 132 Tryz.f132:=ek
def sa (xs ys:List Int) (g:Int × List Int):St :=
 ar Tryz.f132.ntmps 104 ([(2,.is (.one (.ptr 0 0))),(4,.is (.one (.ptr 16 0)))]++[(7,sI .u64 (g.2.getD 0 0)),(8,sI .u64 (g.2.getD 1 0)),(9,sI .u64 (g.2.getD 2 0)),(10,sI .u64 (g.2.getD 3 0)),(11,sI .u64 (g.2.getD 4 0)),(12,sI .u64 (g.2.getD 5 0))]++[(16,sA .u64 6 ys),(17,sI .i64 g.1)])
  [(0,[.ints .u64 6 xs]),(16,[.ints .u64 6 (xH 6)])]
def CH (g:Int × List Int):St:=ar Tryz.f132.ntmps 104 ([(4,.is (.one (.ptr 16 0)))]++[(7,sI .u64 (g.2.getD 0 0)),(8,sI .u64 (g.2.getD 1 0)),(9,sI .u64 (g.2.getD 2 0)),(10,sI .u64 (g.2.getD 3 0)),(11,sI .u64 (g.2.getD 4 0)),(12,sI .u64 (g.2.getD 5 0))]) [(16,[.ints .u64 6 (xH 6)])]
def sb (xs ys:List Int) (g:Int × List Int):Int × List Int:=(IntKind.i64.wrap (g.1+1),nC 9940570264628428797 xs ms g.2 (ys.getD g.1.toNat 0))
def r4:List Int->List Int->List Int->Int->Int->Int->Int->Prop->Prop
 | x::e,p::b,t::d,v,m,a,c,K =>
  hU (x,v,t,a,())/\hU (m,p,(x*v+t+a)%18446744073709551616,c,()) /\
   r4 e b d v m ((x*v+t+a)/18446744073709551616) ((m*p+(x*v+t+a)%18446744073709551616+c)/18446744073709551616) K
 | _,_,_,_,_,_,_,K=>K
theorem Cz {K:Prop} {v m:Int} (i:gQ v) (h:gQ m) (g:K):∀ (f b d:List Int) (a c:Int),Ws f->Ws b->Ws d->gQ a->gQ c->r4 f b d v m a c K:=by
 intro f;induction f with
 | nil=>intro b d a c _ _ _ _ _;exact g
 | cons x f E =>
  intro b d a c q l o z A;cases b with
  | nil=>exact g
  | cons p b =>
   cases d with
   | nil=>exact g
   | cons t d =>have k:=q x au;have j:=l p au;have F:=o t au;have D:=lI (m:=18446744073709551615) (n:=18446744073709551615) k.1 (by have:=k.2;omega) i.1 (by have:=i.2;omega);have C:=lI (m:=18446744073709551615) (n:=18446744073709551615) h.1 (by have:=h.2;omega) j.1 (by have:=j.2;omega);obtain⟨G,H⟩:=F;obtain⟨r,s⟩:=z;obtain⟨u,w⟩:=A;simp only[r4];generalize x*v=L at *;generalize m*p=I at *;refine⟨⟨k,i,⟨G,H⟩,r,s⟩,⟨h,j,⟨aa,aa⟩,u,w⟩,?_⟩;exact E b d _ _ (fun y e=>q y (by simp[e])) (fun y e=>l y (by simp[e])) (fun y e=>o y (by simp[e])) ⟨aa,aa⟩ ⟨aa,aa⟩
def tc (xs ps a:List Int) (v:Int) (K:Prop):Prop :=
 match xs,ps,a with
 | x::xs,p::ps,t::a =>
  hU (x,v,t,(0:Int),())/\hU (((x*v+t+0)%18446744073709551616)*9940570264628428797%18446744073709551616,p,(x*v+t+0)%18446744073709551616,(0:Int),()) /\
  r4 xs ps a v (((x*v+t+0)%18446744073709551616)*9940570264628428797%18446744073709551616) ((x*v+t+0)/18446744073709551616)
   (((((x*v+t+0)%18446744073709551616)*9940570264628428797%18446744073709551616)*p+(x*v+t+0)%18446744073709551616+0)/18446744073709551616) K
 | _,_,_=>K
theorem An {K:Prop} {v:Int} (d:gQ v) (h:K) {xs ps e:List Int} (k:Ws xs) (i:Ws ps) (j:Ws e):tc xs ps e v K:=by unfold tc;split;rename_i x xs p ps t e;have g:=k x au;have f:=i p au;have q:=j t au;have o:=lI (m:=18446744073709551615) (n:=18446744073709551615) g.1 (by have:=g.2;omega) d.1 (by have:=d.2;omega);obtain⟨r,s⟩:=q;generalize x*v=u at *;generalize w:((u+t+0)%18446744073709551616)*9940570264628428797%18446744073709551616=m;have a:gQ m:=⟨aa,aa⟩;have l:=lI (m:=18446744073709551615) (n:=18446744073709551615) a.1 (by have:=a.2;omega) f.1 (by have:=f.2;omega);generalize m*p=z at *;refine⟨⟨g,d,⟨r,s⟩,aa,aa⟩,⟨a,f,⟨aa,aa⟩,aa,aa⟩,?_⟩;exact Cz d a h xs ps e _ _ (fun y b=>k y (by simp[b])) (fun y b=>i y (by simp[b])) (fun y b=>j y (by simp[b])) ⟨aa,aa⟩ ⟨aa,aa⟩;exact h
def gq (xs ys:List Int) (k:Nat):List Int:=foldM 9940570264628428797 xs ms (replicate 6 0) (ys.take k)
def wi (xs ys:List Int) (g:Int × List Int):Prop:=∃ k:Nat,k<=6/\g=((k:Int),gq xs ys k)
theorem zw {a:Int} {xs ps:List Int}:∀ (b d:List Int) (v:Int),foldM a xs ps d (b++[v])=nC a xs ps (foldM a xs ps d b) v:=by
 intro b;induction b with
 | nil=>intro d v;rfl
 | cons u b e=>intro d v;exact e _ _
theorem gV:aL Tryz.prog 132 [(.arr 6 (.int .u64)),(.arr 6 (.int .u64))] [.val (.arr 6 (.int .u64))] bx dA jd:=by
 refine bI (sp:=aP [wc,Ai]) tY ae ae ab ?_;have G:aD Tryz.prog (aP [wc,Ai]):=aJ (aM BO) (aJ (aM BN) bp);rintro w M0 ⟨xs,ys,⟨⟩⟩ ⟨⟨Z,_⟩,⟨h2,_⟩,_⟩ ⟨E,O,D⟩;match xs,Z,E,D with
 | [a,b,d,f,h,j],_,E,D =>
  have Q:length ys=6:=h2;have I:[a,b,d,f,h,j].length=ms.length:=rfl;have z:∀ k,(gq [a,b,d,f,h,j] ys k).length=ms.length/\Ws (gq [a,b,d,f,h,j] ys k)/\val (gq [a,b,d,f,h,j] ys k)<val [a,b,d,f,h,j]+val ms:=by
   intro k;have:=zx (cancel:=9940570264628428797) I E pH (by simp[ms]) ae (by rw[fX];exact D) (by rw[fX];exact Fl) (ys.take k) (replicate 6 0) (fun y P=>O y (ng P)) (by rfl)
    (by intro x E;rw[(List.mem_replicate.1 E).2];exact⟨aa,aa⟩) (by rw[fX,show val (replicate 6 0)=0 from by decide];have:=eD E;have:=Fk;omega)
   exact⟨this.1,this.2.1,this.2.2.1⟩
  have t:=Jh (cancel:=9940570264628428797) (xs:=[a,b,d,f,h,j]) (ps:=ms) (ys:=ys) (rinv:=rinv) I Q E pH O (by simp[ms]) ae (by rw[fX];exact D) (by rw[fX];exact Fl) (by rw[fX];exact Ic);rw[fX] at t
  -- U N at R K T
  have J0:wi [a,b,d,f,h,j] ys (0,replicate 6 0):=⟨0,aa,by simp[gq,foldM]⟩;show Tr _ _ _ _ _ _ _;refine bd G mixed 3 (sa [a,b,d,f,h,j] ys (0,replicate 6 0)) True ?_ (fun _=>?_);refine al (X:=(sa [a,b,d,f,h,j] ys (0,replicate 6 0)).ag True) ab (ao trivial);refine MQ G mixed (sa [a,b,d,f,h,j] ys) (wi [a,b,d,f,h,j] ys) (fun g=>(6-g.1).toNat) (sb [a,b,d,f,h,j] ys) CH (fun g=>g.2=gq [a,b,d,f,h,j] ys 6) (0,replicate 6 0) (c:=aq (ak Tryz.f132) 3) ab ab
   (aw ab ab J0) ?_ ?_
  ·rintro g ⟨k,hk,rfl⟩;obtain⟨L,f2,Y⟩:=z k;have s:∃ l m o p q r,gq [a,b,d,f,h,j] ys k=[l,m,o,p,q,r]:=by
    match gq [a,b,d,f,h,j] ys k,L with
    | [l,m,o,p,q,r],_=>exact⟨_,_,_,_,_,_,rfl⟩
   obtain⟨l,m,o,p,q,r,s⟩:=s;rw[s] at f2 ⊢
   refine al (X:=((decide ((k:Int)<6)=true->(0<=(k:Int)/\(k:Int)<6)/\tc [a,b,d,f,h,j] ms [l,m,o,p,q,r] (ys.getD (k:Int).toNat 0) ((sa [a,b,d,f,h,j] ys (sb [a,b,d,f,h,j] ys ((k:Int),[l,m,o,p,q,r]))).ag (wi [a,b,d,f,h,j] ys (sb [a,b,d,f,h,j] ys ((k:Int),[l,m,o,p,q,r]))/\(6-(sb [a,b,d,f,h,j] ys ((k:Int),[l,m,o,p,q,r])).1).toNat<(6-(k:Int)).toNat)))
    /\ (decide ((k:Int)<6)=false->(CH ((k:Int),[l,m,o,p,q,r])).ag ([l,m,o,p,q,r]=gq [a,b,d,f,h,j] ys 6)))) ab ?_
   constructor
   ·intro C;have C:k<6:=by have:=Odt C;omega
    have hv:gQ (ys.getD (k:Int).toNat 0):=by rw[aX,aB,bz aa];exact O _ (dx _)
    refine⟨⟨aa,aa⟩,An hv (ao ⟨⟨k+1,aa,?_⟩,?_⟩) E pH f2⟩
    ·have V:IntKind.i64.wrap ((k:Int)+1)=((k+1:Nat):Int):=by rw[wrap_i64 aa aa];omega
     have W:gq [a,b,d,f,h,j] ys (k+1)=nC 9940570264628428797 [a,b,d,f,h,j] ms (gq [a,b,d,f,h,j] ys k) (ys.getD (k:Int).toNat 0):=by unfold gq;rw[cr aa,zw];rw[aX,aB,bz aa];rfl
     show (IntKind.i64.wrap ((k:Int)+1),nC 9940570264628428797 [a,b,d,f,h,j] ms [l,m,o,p,q,r] (ys.getD (k:Int).toNat 0))=_;rw[V,W,s]
    show (6-IntKind.i64.wrap ((k:Int)+1)).toNat<_;rw[wrap_i64 aa aa];omega
   ·intro A;have A:k=6:=by
     have:=Odf A;omega
    refine ao ?_;rw[<- s,A]
  ·rintro⟨i,ts⟩ s;have s:ts=gq [a,b,d,f,h,j] ys 6:=s;obtain⟨L,f2,Y⟩:=z 6;have H:ys.take 6=ys:=bQ aa;have u:∃ l m o p q r,gq [a,b,d,f,h,j] ys 6=[l,m,o,p,q,r]:=by
    match gq [a,b,d,f,h,j] ys 6,L with
    | [l,m,o,p,q,r],_=>exact⟨_,_,_,_,_,_,rfl⟩
   obtain⟨l,m,o,p,q,r,u⟩:=u;subst s;rw[u] at f2 ⊢;refine bE G mixed _ _ ?_;refine al (X:=(Ws [l,m,o,p,q,r]/\((if val [l,m,o,p,q,r]<M then [l,m,o,p,q,r] else aT 6 (val [l,m,o,p,q,r]-M),()):List Int × Unit)=jd ([a,b,d,f,h,j],ys,()))) ab ?_;refine⟨f2,?_⟩;have e:foldM 9940570264628428797 [a,b,d,f,h,j] ms (replicate ms.length 0) ys=[l,m,o,p,q,r]:=by have:=u;unfold gq at this;rw[H] at this;exact this
   rw[e] at t;obtain⟨m1,m2,m3,m4⟩:=t;have m0:=eD m2;have hM:=Fk;simp only[jd,aI,bM];rw[<- m4];split;rename_i C;rw[dd m0 C];exact (sQ f2).symm
   ·rename_i A
    rw[show val [l,m,o,p,q,r]%M=val [l,m,o,p,q,r]-M from by
     rw[<- wF,dd aa aa]]
def iI:Nat × Eng.Spec:=(132,aH [(.arr 6 (.int .u64)),(.arr 6 (.int .u64))] [.val (.arr 6 (.int .u64))] dA jd)
end fp
end Go.Proofs.YtofofalgjibokaaGreatDoor
namespace Cr
section
variable {M:Int} [Md M]
theorem xy (x y:Zm M):aT (Md.n M) (val (enc x)*val (enc y)*Md.rinv M%M)=enc (x*y):=by rw[<- Zx,dM,dM]
theorem pG (x:Zm M):0<=val (enc x)/\val (enc x)<M:=⟨eD (e5 x),(cC x).2.2⟩
theorem sc {n:Nat} {a:Int} (b:0<=a) (c:a<pw n):val (aT n a)=a:=by rw[tf,dd b c]
theorem NN (x y:Zm M):(if val (aT (Md.n M) (val (enc x)+val (enc y)))<M then aT (Md.n M) (val (enc x)+val (enc y)) else aT (Md.n M) (val (aT (Md.n M) (val (enc x)+val (enc y)))-M))=enc (x+y):=by
 have b:=pG x;have c:=pG y;have a:=Md.IQ (M:=M);have e:enc (x+y)=aT (Md.n M) ((val (enc x)+val (enc y))%M):=by rw[<- Zw,dM,dM]
 rw[sc aa aa,e];split;rename_i h;rw[dd aa h];rename_i h;rw[<- wF,dd aa aa]
theorem OJ (n:Nat) (a:Int):aT n (a%pw n)=aT n a:=by have c:=tf n a;have b:=tf n (a%pw n);rw[kx] at b;exact val_inj (jB _ _) (jB _ _) (by rw[rH,rH]) (by rw[c,b])
theorem GV {x y:Zm M} (h:val (enc x)<val (enc y)):aT (Md.n M) (val (aT (Md.n M) (val (enc x)-val (enc y)))+M)=enc (x-y):=by
 have a:=pG x;have b:=pG y;have e:enc (x-y)=aT (Md.n M) ((val (enc x)-val (enc y))%M):=by rw[<- Oa,dM,dM]
 rw[e,tf,<- OJ _ (_+M),Int.emod_add_emod,OJ];congr 1;rw[<- Bb,dd aa aa]
theorem GU {x y:Zm M} (h:¬ val (enc x)<val (enc y)):aT (Md.n M) (val (enc x)-val (enc y))=enc (x-y):=by
 have a:=pG x;have b:=pG y;have e:enc (x-y)=aT (Md.n M) ((val (enc x)-val (enc y))%M):=by rw[<- Oa,dM,dM]
 rw[e,dd aa aa]
theorem Jo (x:Zm M) {u:List Int} (a:val u=1):aT (Md.n M) (val (enc x)*val u*Md.rinv M%M)=aT (Md.n M) x.v:=by
 congr 1;rw[a,lA,DB];show ((x.v*(pw (Md.n M)%M))%M)*Md.rinv M%M=_;have h:=Md.inv (M:=M);have:(x.v*(pw (Md.n M)%M)%M)*Md.rinv M%M=x.v*(pw (Md.n M)*Md.rinv M)%M:=by rw[dJ,kx,<- dJ,dy,dJ,dJ (pw (Md.n M)%M),kx,<- dJ (pw (Md.n M)),<- dJ]
 rw[this,dJ,h,lA,kx,RN]
theorem rb {a:List Int}:aT (Md.n M) (val (enc (R2:Zm M))*val a*Md.rinv M%M)=enc (zm (val a):Zm M):=by
 rw[acd,DB];congr 1;have h:=Md.inv (M:=M);show ((pw (Md.n M)%M)*(pw (Md.n M)%M)%M)*val a*Md.rinv M%M=_;rw[<- dJ];have e:(pw (Md.n M)*pw (Md.n M)%M)*val a*Md.rinv M%M=(pw (Md.n M)*pw (Md.n M))*(val a*Md.rinv M)%M:=by rw[dy,dJ,kx,<- dJ]
 rw[e,show pw (Md.n M)*pw (Md.n M)*(val a*Md.rinv M)=(val a*pw (Md.n M))*(pw (Md.n M)*Md.rinv M) by
  rw[dy,gU (val a) (pw (Md.n M)),dy,wM (pw (Md.n M)) (val a)],dJ,h,lA,kx]
end
end Cr
namespace Go.Proofs.YtofofalgjibokaaGreatDoor
namespace fp
theorem HB:enters Tryz.prog 137 Tryz.f137:=ek
abbrev vP:HL [.fp,.fp]->HO [.val .fp]:=fun (x,y,_)=>((x:Fp)*y,())
theorem nM:aL Tryz.prog 137 [.fp,.fp] [.val .fp] bx (fun _=>True) vP:=by refine a8 (sp:=aP [iI]) (aJ (aM gV) bp) mixed HB ae ae ?_;rintro w a ⟨x,y,⟨⟩⟩ _ _;refine al (X:=(dA (enc x,enc y,())/\Canon Mp (aT 6 (val (enc x)*val (enc y)*rinv%M))/\(dec (aT 6 (val (enc x)*val (enc y)*rinv%M)),())=vP (x,y,()))) ab ?_;rw[show aT 6 (val (enc x)*val (enc y)*rinv%M)=enc (x*y) from xy x y];exact⟨⟨e5 x,e5 y,(cC x).2.2⟩,cC _,by rw[dM]⟩
def kq:Nat × Eng.Spec:=(137,aH [.fp,.fp] [.val .fp] (fun _=>True) vP)
theorem zo:enters Tryz.prog 136 Tryz.f136:=ek
abbrev o0:HL [.fp]->HO [.val .fp]:=fun (x,_)=>((x:Fp)*x,())
theorem jw:aL Tryz.prog 136 [.fp] [.val .fp] bx (fun _=>True) o0:=by refine a8 (sp:=aP [iI]) (aJ (aM gV) bp) mixed zo ae ae ?_;rintro w a ⟨x,⟨⟩⟩ _ _;refine al (X:=(dA (enc x,enc x,())/\Canon Mp (aT 6 (val (enc x)*val (enc x)*rinv%M))/\(dec (aT 6 (val (enc x)*val (enc x)*rinv%M)),())=o0 (x,()))) ab ?_;rw[show aT 6 (val (enc x)*val (enc x)*rinv%M)=enc (x*x) from xy x x];exact⟨⟨e5 x,e5 x,(cC x).2.2⟩,cC _,by rw[dM]⟩
def fT:Nat × Eng.Spec:=(136,aH [.fp] [.val .fp] (fun _=>True) o0)
theorem yu:enters Tryz.prog 139 Tryz.f139:=ek
abbrev kP:HL [.fp,.fp]->HO [.val .fp]:=fun (x,y,_)=>((x:Fp)+y,())
theorem nL:aL Tryz.prog 139 [.fp,.fp] [.val .fp] bx (fun _=>True) kP:=by
 refine a8 (sp:=aP [Ai,um]) (aJ (aM BN) (aJ (aM sG) bp)) mixed yu ae ae ?_;rintro w a ⟨x,y,⟨⟩⟩ _ _
 refine al (X:=(n9 (enc x,enc y,())/\vV (aT 6 (val (enc x)+val (enc y)),()) /\
  Canon Mp (if val (aT 6 (val (enc x)+val (enc y)))<M then aT 6 (val (enc x)+val (enc y)) else aT 6 (val (aT 6 (val (enc x)+val (enc y)))-M)) /\
  (dec (if val (aT 6 (val (enc x)+val (enc y)))<M then aT 6 (val (enc x)+val (enc y)) else aT 6 (val (aT 6 (val (enc x)+val (enc y)))-M)),())=kP (x,y,()))) ab ?_
 rw[show (if val (aT 6 (val (enc x)+val (enc y)))<M then aT 6 (val (enc x)+val (enc y)) else aT 6 (val (aT 6 (val (enc x)+val (enc y)))-M))=enc (x+y) from NN x y];exact⟨⟨e5 x,e5 y⟩,jB _ _,cC _,by rw[dM]⟩
def jM:Nat × Eng.Spec:=(139,aH [.fp,.fp] [.val .fp] (fun _=>True) kP)
theorem HF:enters Tryz.prog 138 Tryz.f138:=ek
abbrev rP:HL [.fp,.fp]->HO [.val .fp]:=fun (x,y,_)=>((x:Fp)-y,())
theorem BT:aL Tryz.prog 138 [.fp,.fp] [.val .fp] bx (fun _=>True) rP:=by
 refine a8 (sp:=aP [re,um,pd]) (aJ (aM oT) (aJ (aM sG) (aJ (aM nr) bp))) mixed HF ae ae ?_;rintro w b ⟨x,y,⟨⟩⟩ _ _
 refine al (X:=(n9 (enc x,enc y,()) /\
  ((((if val (enc x)<val (enc y) then 1 else 0:Int) != 0)=true->True/\n9 (aT 6 (val (enc x)-val (enc y)),ms,())/\Canon Mp (aT 6 (val (aT 6 (val (enc x)-val (enc y)))+val ms))/\(dec (aT 6 (val (aT 6 (val (enc x)-val (enc y)))+val ms)),())=rP (x,y,())) /\
   (((if val (enc x)<val (enc y) then 1 else 0:Int) != 0)=false->Canon Mp (aT 6 (val (enc x)-val (enc y)))/\(dec (aT 6 (val (enc x)-val (enc y))),())=rP (x,y,()))))) ab ?_
 rw[fX];refine⟨⟨e5 x,e5 y⟩,?_⟩;by_cases h:val (enc x)<val (enc y);rw[show aT 6 (val (aT 6 (val (enc x)-val (enc y)))+M)=enc (x-y) from GV h];exact⟨fun _=>⟨trivial,⟨jB _ _,pH⟩,cC _,by rw[dM]⟩,fun a=>by simp[h] at a⟩;rw[show aT 6 (val (enc x)-val (enc y))=enc (x-y) from GU h];exact⟨fun a=>by simp[h] at a,fun _=>⟨cC _,by rw[dM]⟩⟩
def GR:Nat × Eng.Spec:=(138,aH [.fp,.fp] [.val .fp] (fun _=>True) rP)
theorem HC:enters Tryz.prog 127 Tryz.f127:=ek
abbrev vQ:HL [.fp]->HO [.val .fp]:=fun (x,_)=>(-(x:Fp),())
theorem CO (x:Fp):0-x=-x:=Zm.ext (by rw[RE,J1,uv];simp)
theorem yw:aL Tryz.prog 127 [.fp] [.val .fp] bx (fun _=>True) vQ:=by refine a8 (sp:=aP [GR]) (aJ (aM BT) bp) mixed HC ae ae ?_;rintro w a ⟨x,⟨⟩⟩ _ _;refine al (X:=(True/\((0:Fp)-x,())=vQ (x,()))) ab ?_;exact⟨trivial,by rw[CO]⟩
def Aj:Nat × Eng.Spec:=(127,aH [.fp] [.val .fp] (fun _=>True) vQ)
theorem Ep:enters Tryz.prog 135 Tryz.f135:=ek
abbrev sY:HL [.fp]->HO [.val .bool]:=fun (x,_)=>(decide ((x:Fp)=0),())
theorem yx:aL Tryz.prog 135 [.fp] [.val .bool] bx (fun _=>True) sY:=by refine a8 (sp:=aP []) bp mixed Ep ae ae ?_;rintro w a ⟨x,⟨⟩⟩ _ _;exact al (X:=((decide (x=(0:Fp)),())=sY (x,()))) ab rfl
def CD:Nat × Eng.Spec:=(135,aH [.fp] [.val .bool] (fun _=>True) sY)
theorem HE:enters Tryz.prog 170 Tryz.f170:=ek
theorem BR:aL Tryz.prog 170 [] [.val .fp] bx (fun _=>True) (fun _=>((1:Fp),())):=by refine a8 (sp:=aP []) bp mixed HE ae ae ?_;rintro w b ⟨⟩ _ _;refine al (X:=(Canon Mp [8505329371266088957,17002214543764226050,6865905132761471162,8632934651105793861,6631298214892334189,1582556514881692819]/\(dec [8505329371266088957,17002214543764226050,6865905132761471162,8632934651105793861,6631298214892334189,1582556514881692819],())=((1:Fp),()))) ab ?_;refine⟨⟨rfl,?_,ae⟩,?_⟩;intro x a;simp at a;rcases a with rfl|rfl|rfl|rfl|rfl|rfl<;>exact⟨ae,ae⟩;rw[show (dec [8505329371266088957,17002214543764226050,6865905132761471162,8632934651105793861,6631298214892334189,1582556514881692819]:Fp)=1 from Zm.ext ae]
def uW:Nat × Eng.Spec:=(170,aH [] [.val .fp] (fun _=>True) (fun _=>((1:Fp),())))
end fp
namespace fr
abbrev M:Int:=Mr
def ms:List Int:=[18446744069414584321,6034159408538082302,3691218898639771653,8353516859464449352]
abbrev rinv:Int:=Md.rinv Mr
theorem fX:val ms=M:=ae
theorem pH:Ws ms:=by intro x a;simp[ms] at a;rcases a with rfl|rfl|rfl|rfl<;>exact⟨ae,ae⟩
theorem Fk:0<M:=ae
theorem Fl:2*M<=pw 4:=ae
theorem Ic:(pw 4*rinv)%M=1%M:=ae
theorem zn:enters Tryz.prog 93 Tryz.f93:=ek
abbrev hU:HL [.int .u64,.int .u64,.int .u64,.int .u64]->Prop:=fun (a,b,c,d,_)=>gQ a/\gQ b/\gQ c/\gQ d
abbrev lJ:HL [.int .u64,.int .u64,.int .u64,.int .u64]->HO [.val (.int .u64),.val (.int .u64)]:=fun (a,b,c,d,_)=>(((a:Int)*b+c+d)/18446744073709551616,(a*b+c+d)%18446744073709551616,())
theorem BO:aL Tryz.prog 93 [.int .u64,.int .u64,.int .u64,.int .u64] [.val (.int .u64),.val (.int .u64)] bx hU lJ:=by
 refine a8 (sp:=aP [Pp,Dt]) (aJ (aM KU) (aJ (aM zq) bp)) mixed zn ae ae ?_;rintro w p ⟨a,b,c,d,⟨⟩⟩ _ ⟨⟨e,i⟩,⟨f,k⟩,⟨g,l⟩,h,o⟩;have j:=lI (m:=18446744073709551615) (n:=18446744073709551615) e aa f aa
 refine al (X:=(zV (a,b,())/\l7 (a*b%18446744073709551616,c,0,())/\l7 ((a*b%18446744073709551616+c+0)%18446744073709551616,d,0,()) /\
   ((((a*b/18446744073709551616+(a*b%18446744073709551616+c+0)/18446744073709551616)%18446744073709551616+((a*b%18446744073709551616+c+0)%18446744073709551616+d+0)/18446744073709551616)%18446744073709551616,
    ((a*b%18446744073709551616+c+0)%18446744073709551616+d+0)%18446744073709551616,()):Int × Int × Unit)=lJ (a,b,c,d,()))) ab ?_
 refine⟨⟨⟨e,i⟩,f,k⟩,⟨⟨aa,aa⟩,⟨g,l⟩,.inl rfl⟩,⟨⟨aa,aa⟩,⟨h,o⟩,.inl rfl⟩,?_⟩;simp only[lJ,aI,bM];generalize (a:Int)*b=q at *;exact⟨aa,aa⟩
def wc:Nat × Eng.Spec:=(93,aH [.int .u64,.int .u64,.int .u64,.int .u64] [.val (.int .u64),.val (.int .u64)] hU lJ)
abbrev n9:HL [(.arr 4 (.int .u64)),(.arr 4 (.int .u64))]->Prop:=fun (a,b,_)=>Ws a/\Ws b
abbrev qo:HL [(.arr 4 (.int .u64)),(.arr 4 (.int .u64))]->HO [.val (.arr 4 (.int .u64)),.val (.int .u64)]:=fun (a,b,_)=>(aT 4 (val a-val b),if val a<val b then (1:Int) else 0,())
abbrev mJ:HL [(.arr 4 (.int .u64)),(.arr 4 (.int .u64))]->HO [.val (.arr 4 (.int .u64))]:=fun (a,b,_)=>(aT 4 (val a+val b),())
theorem BE:enters Tryz.prog 78 Tryz.f78:=ek
theorem oT:aL Tryz.prog 78 [(.arr 4 (.int .u64)),(.arr 4 (.int .u64))] [.val (.arr 4 (.int .u64)),.val (.int .u64)] bx n9 qo:=by
 refine a8 (sp:=aP [Pq]) (aJ (aM KX) bp) mixed BE ae ae ?_;rintro w q ⟨o,p,⟨⟩⟩ ⟨⟨m,_⟩,⟨n,_⟩,_⟩ ⟨i,j⟩;match o,p,m,n,i,j with
 | [a,b,c,d],[e,f,g,h],_,_,i,j =>refine al (X:=GS [a,b,c,d] [e,f,g,h] 0 (((nD [a,b,c,d] [e,f,g,h] 0).1,(nD [a,b,c,d] [e,f,g,h] 0).2,())=qo ([a,b,c,d],[e,f,g,h],()))) ab ?_;refine JE _ _ 0 rfl i j (.inl rfl) ?_;obtain⟨k,l⟩:=Pr (us:=[a,b,c,d]) (vs:=[e,f,g,h]) rfl i j;rw[k,l];rfl
def re:Nat × Eng.Spec:=(78,aH [(.arr 4 (.int .u64)),(.arr 4 (.int .u64))] [.val (.arr 4 (.int .u64)),.val (.int .u64)] n9 qo)
theorem vv:enters Tryz.prog 77 Tryz.f77:=ek
theorem sG:aL Tryz.prog 77 [(.arr 4 (.int .u64)),(.arr 4 (.int .u64))] [.val (.arr 4 (.int .u64))] bx n9 mJ:=by
 refine a8 (sp:=aP [Dt]) (aJ (aM zq) bp) mixed vv ae ae ?_;rintro w p ⟨n,o,⟨⟩⟩ ⟨⟨l,_⟩,⟨m,_⟩,_⟩ ⟨j,k⟩;match n,o,l,m,j,k with
 | [a,b,d,e],[f,g,h,i],_,_,j,k =>refine al (X:=Fq [a,b,d,e] [f,g,h,i] 0 (((pS [a,b,d,e] [f,g,h,i] 0).1,())=mJ ([a,b,d,e],[f,g,h,i],()))) ab ?_;refine IJ _ _ 0 rfl j k (.inl rfl) ?_;rw[NK (us:=[a,b,d,e]) (vs:=[f,g,h,i]) rfl j k];rfl
def um:Nat × Eng.Spec:=(77,aH [(.arr 4 (.int .u64)),(.arr 4 (.int .u64))] [.val (.arr 4 (.int .u64))] n9 mJ)
theorem xL:enters Tryz.prog 79 Tryz.f79:=ek
theorem nr:aL Tryz.prog 79 [] [.val (.arr 4 (.int .u64))] bx (fun _=>True) (fun _=>(ms,())):=by refine a8 (sp:=aP []) bp mixed xL ae ae ?_;intro w a b _ _;exact al (X:=((ms,()):List Int × Unit)=(ms,())) ab rfl
def pd:Nat × Eng.Spec:=(79,aH [] [.val (.arr 4 (.int .u64))] (fun _=>True) (fun _=>(ms,())))
abbrev vV:HL [(.arr 4 (.int .u64))]->Prop:=fun (a,_)=>Ws a
abbrev mI:HL [(.arr 4 (.int .u64))]->HO [.val (.arr 4 (.int .u64))]:=fun (a,_)=>(if val a<M then a else aT 4 (val a-M),())
theorem Hz:enters Tryz.prog 76 Tryz.f76:=ek
theorem BN:aL Tryz.prog 76 [(.arr 4 (.int .u64))] [.val (.arr 4 (.int .u64))] bx vV mI:=by refine a8 (sp:=aP [re,pd]) (aJ (aM oT) (aJ (aM nr) bp)) mixed Hz ae ae ?_;rintro w b ⟨xs,⟨⟩⟩ _ a;refine al (X:=(True/\(Ws xs/\Ws ms)/\((((if val xs<val ms then 1 else 0:Int) != 0)=true->((xs,()):List Int × Unit)=mI (xs,()))/\(((if val xs<val ms then 1 else 0:Int) != 0)=false->((aT 4 (val xs-val ms),()):List Int × Unit)=mI (xs,()))))) ab ?_;refine⟨trivial,⟨a,pH⟩,?_⟩;rw[fX];by_cases h:val xs<M;simp[h,mI];simp[h,mI]
def Ai:Nat × Eng.Spec:=(76,aH [(.arr 4 (.int .u64))] [.val (.arr 4 (.int .u64))] vV mI)
abbrev dA:HL [(.arr 4 (.int .u64)),(.arr 4 (.int .u64))]->Prop:=fun (xs,ys,_)=>Ws xs/\Ws ys/\val xs<M
abbrev jd:HL [(.arr 4 (.int .u64)),(.arr 4 (.int .u64))]->HO [.val (.arr 4 (.int .u64))]:=fun (xs,ys,_)=>(aT 4 (val xs*val ys*rinv%M),())
theorem tY:enters Tryz.prog 53 Tryz.f53:=ek
def sa (xs ys:List Int) (g:Int × List Int):St :=
 ar Tryz.f53.ntmps 88 ([(2,.is (.one (.ptr 0 0))),(4,.is (.one (.ptr 16 0)))]++[(7,sI .u64 (g.2.getD 0 0)),(8,sI .u64 (g.2.getD 1 0)),(9,sI .u64 (g.2.getD 2 0)),(10,sI .u64 (g.2.getD 3 0))]++[(14,sA .u64 4 ys),(15,sI .i64 g.1)])
  [(0,[.ints .u64 4 xs]),(16,[.ints .u64 4 (xH 4)])]
def CH (g:Int × List Int):St:=ar Tryz.f53.ntmps 88 ([(4,.is (.one (.ptr 16 0)))]++[(7,sI .u64 (g.2.getD 0 0)),(8,sI .u64 (g.2.getD 1 0)),(9,sI .u64 (g.2.getD 2 0)),(10,sI .u64 (g.2.getD 3 0))]) [(16,[.ints .u64 4 (xH 4)])]
def sb (xs ys:List Int) (g:Int × List Int):Int × List Int:=(IntKind.i64.wrap (g.1+1),nC 18446744069414584319 xs ms g.2 (ys.getD g.1.toNat 0))
def r4:List Int->List Int->List Int->Int->Int->Int->Int->Prop->Prop
 | x::e,p::b,t::d,v,m,a,c,K =>
  hU (x,v,t,a,())/\hU (m,p,(x*v+t+a)%18446744073709551616,c,()) /\
   r4 e b d v m ((x*v+t+a)/18446744073709551616) ((m*p+(x*v+t+a)%18446744073709551616+c)/18446744073709551616) K
 | _,_,_,_,_,_,_,K=>K
theorem Cz {K:Prop} {v m:Int} (i:gQ v) (h:gQ m) (g:K):∀ (f b d:List Int) (a c:Int),Ws f->Ws b->Ws d->gQ a->gQ c->r4 f b d v m a c K:=by
 intro f;induction f with
 | nil=>intro b d a c _ _ _ _ _;exact g
 | cons x f E =>
  intro b d a c q l o z A;cases b with
  | nil=>exact g
  | cons p b =>
   cases d with
   | nil=>exact g
   | cons t d =>have k:=q x au;have j:=l p au;have F:=o t au;have D:=lI (m:=18446744073709551615) (n:=18446744073709551615) k.1 (by have:=k.2;omega) i.1 (by have:=i.2;omega);have C:=lI (m:=18446744073709551615) (n:=18446744073709551615) h.1 (by have:=h.2;omega) j.1 (by have:=j.2;omega);obtain⟨G,H⟩:=F;obtain⟨r,s⟩:=z;obtain⟨u,w⟩:=A;simp only[r4];generalize x*v=L at *;generalize m*p=I at *;refine⟨⟨k,i,⟨G,H⟩,r,s⟩,⟨h,j,⟨aa,aa⟩,u,w⟩,?_⟩;exact E b d _ _ (fun y e=>q y (by simp[e])) (fun y e=>l y (by simp[e])) (fun y e=>o y (by simp[e])) ⟨aa,aa⟩ ⟨aa,aa⟩
def tc (xs ps a:List Int) (v:Int) (K:Prop):Prop :=
 match xs,ps,a with
 | x::xs,p::ps,t::a =>
  hU (x,v,t,(0:Int),())/\hU (((x*v+t+0)%18446744073709551616)*18446744069414584319%18446744073709551616,p,(x*v+t+0)%18446744073709551616,(0:Int),()) /\
  r4 xs ps a v (((x*v+t+0)%18446744073709551616)*18446744069414584319%18446744073709551616) ((x*v+t+0)/18446744073709551616)
   (((((x*v+t+0)%18446744073709551616)*18446744069414584319%18446744073709551616)*p+(x*v+t+0)%18446744073709551616+0)/18446744073709551616) K
 | _,_,_=>K
theorem An {K:Prop} {v:Int} (d:gQ v) (h:K) {xs ps e:List Int} (k:Ws xs) (i:Ws ps) (j:Ws e):tc xs ps e v K:=by unfold tc;split;rename_i x xs p ps t e;have g:=k x au;have f:=i p au;have q:=j t au;have o:=lI (m:=18446744073709551615) (n:=18446744073709551615) g.1 (by have:=g.2;omega) d.1 (by have:=d.2;omega);obtain⟨r,s⟩:=q;generalize x*v=u at *;generalize w:((u+t+0)%18446744073709551616)*18446744069414584319%18446744073709551616=m;have a:gQ m:=⟨aa,aa⟩;have l:=lI (m:=18446744073709551615) (n:=18446744073709551615) a.1 (by have:=a.2;omega) f.1 (by have:=f.2;omega);generalize m*p=z at *;refine⟨⟨g,d,⟨r,s⟩,aa,aa⟩,⟨a,f,⟨aa,aa⟩,aa,aa⟩,?_⟩;exact Cz d a h xs ps e _ _ (fun y b=>k y (by simp[b])) (fun y b=>i y (by simp[b])) (fun y b=>j y (by simp[b])) ⟨aa,aa⟩ ⟨aa,aa⟩;exact h
def gq (xs ys:List Int) (k:Nat):List Int:=foldM 18446744069414584319 xs ms (replicate 4 0) (ys.take k)
def wi (xs ys:List Int) (g:Int × List Int):Prop:=∃ k:Nat,k<=4/\g=((k:Int),gq xs ys k)
theorem zw {a:Int} {xs ps:List Int}:∀ (b d:List Int) (v:Int),foldM a xs ps d (b++[v])=nC a xs ps (foldM a xs ps d b) v:=by
 intro b;induction b with
 | nil=>intro d v;rfl
 | cons u b e=>intro d v;exact e _ _
theorem gV:aL Tryz.prog 53 [(.arr 4 (.int .u64)),(.arr 4 (.int .u64))] [.val (.arr 4 (.int .u64))] bx dA jd:=by
 refine bI (sp:=aP [wc,Ai]) tY ae ae ab ?_;have A:aD Tryz.prog (aP [wc,Ai]):=aJ (aM BO) (aJ (aM BN) bp);rintro w M0 ⟨xs,ys,⟨⟩⟩ ⟨⟨U,_⟩,⟨V,_⟩,_⟩ ⟨z,I,u⟩;match xs,U,z,u with
 | [a,b,d,f],_,z,u =>
  have L:length ys=4:=V;have D:[a,b,d,f].length=ms.length:=rfl;have r:∀ k,(gq [a,b,d,f] ys k).length=ms.length/\Ws (gq [a,b,d,f] ys k)/\val (gq [a,b,d,f] ys k)<val [a,b,d,f]+val ms:=by
   intro k;have:=zx (cancel:=18446744069414584319) D z pH (by simp[ms]) ae (by rw[fX];exact u) (by rw[fX];exact Fl) (ys.take k) (replicate 4 0) (fun y K=>I y (ng K)) (by rfl)
    (by intro x z;rw[(List.mem_replicate.1 z).2];exact⟨aa,aa⟩) (by rw[fX,show val (replicate 4 0)=0 from by decide];have:=eD z;have:=Fk;omega)
   exact⟨this.1,this.2.1,this.2.2.1⟩
  have p:=Jh (cancel:=18446744069414584319) (xs:=[a,b,d,f]) (ps:=ms) (ys:=ys) (rinv:=rinv) D L z pH I (by simp[ms]) ae (by rw[fX];exact u) (by rw[fX];exact Fl) (by rw[fX];exact Ic);rw[fX] at p
  -- P H at N E O
  have J0:wi [a,b,d,f] ys (0,replicate 4 0):=⟨0,aa,by simp[gq,foldM]⟩;show Tr _ _ _ _ _ _ _;refine bd A mixed 3 (sa [a,b,d,f] ys (0,replicate 4 0)) True ?_ (fun _=>?_);refine al (X:=(sa [a,b,d,f] ys (0,replicate 4 0)).ag True) ab (ao trivial);refine MQ A mixed (sa [a,b,d,f] ys) (wi [a,b,d,f] ys) (fun g=>(4-g.1).toNat) (sb [a,b,d,f] ys) CH (fun g=>g.2=gq [a,b,d,f] ys 4) (0,replicate 4 0) (c:=aq (ak Tryz.f53) 3) ab ab
   (aw ab ab J0) ?_ ?_
  ·rintro g ⟨k,hk,rfl⟩;obtain⟨G,f2,T⟩:=r k;have o:∃ h j l m,gq [a,b,d,f] ys k=[h,j,l,m]:=by
    match gq [a,b,d,f] ys k,G with
    | [h,j,l,m],_=>exact⟨_,_,_,_,rfl⟩
   obtain⟨h,j,l,m,o⟩:=o;rw[o] at f2 ⊢
   refine al (X:=((decide ((k:Int)<4)=true->(0<=(k:Int)/\(k:Int)<4)/\tc [a,b,d,f] ms [h,j,l,m] (ys.getD (k:Int).toNat 0) ((sa [a,b,d,f] ys (sb [a,b,d,f] ys ((k:Int),[h,j,l,m]))).ag (wi [a,b,d,f] ys (sb [a,b,d,f] ys ((k:Int),[h,j,l,m]))/\(4-(sb [a,b,d,f] ys ((k:Int),[h,j,l,m])).1).toNat<(4-(k:Int)).toNat)))
    /\ (decide ((k:Int)<4)=false->(CH ((k:Int),[h,j,l,m])).ag ([h,j,l,m]=gq [a,b,d,f] ys 4)))) ab ?_
   constructor
   ·intro t;have t:k<4:=by have:=Odt t;omega
    have W:gQ (ys.getD (k:Int).toNat 0):=by rw[aX,aB,bz aa];exact I _ (dx _)
    refine⟨⟨aa,aa⟩,An W (ao ⟨⟨k+1,aa,?_⟩,?_⟩) z pH f2⟩
    ·have Q:IntKind.i64.wrap ((k:Int)+1)=((k+1:Nat):Int):=by rw[wrap_i64 aa aa];omega
     have R:gq [a,b,d,f] ys (k+1)=nC 18446744069414584319 [a,b,d,f] ms (gq [a,b,d,f] ys k) (ys.getD (k:Int).toNat 0):=by unfold gq;rw[cr aa,zw];rw[aX,aB,bz aa];rfl
     show (IntKind.i64.wrap ((k:Int)+1),nC 18446744069414584319 [a,b,d,f] ms [h,j,l,m] (ys.getD (k:Int).toNat 0))=_;rw[Q,R,o]
    show (4-IntKind.i64.wrap ((k:Int)+1)).toNat<_;rw[wrap_i64 aa aa];omega
   ·intro s;have s:k=4:=by
     have:=Odf s;omega
    refine ao ?_;rw[<- o,s]
  ·rintro⟨i,ts⟩ o;have o:ts=gq [a,b,d,f] ys 4:=o;obtain⟨G,f2,T⟩:=r 4;have C:ys.take 4=ys:=bQ aa;have q:∃ h j l m,gq [a,b,d,f] ys 4=[h,j,l,m]:=by
    match gq [a,b,d,f] ys 4,G with
    | [h,j,l,m],_=>exact⟨_,_,_,_,rfl⟩
   obtain⟨h,j,l,m,q⟩:=q;subst o;rw[q] at f2 ⊢;refine bE A mixed _ _ ?_;refine al (X:=(Ws [h,j,l,m]/\((if val [h,j,l,m]<M then [h,j,l,m] else aT 4 (val [h,j,l,m]-M),()):List Int × Unit)=jd ([a,b,d,f],ys,()))) ab ?_;refine⟨f2,?_⟩;have e:foldM 18446744069414584319 [a,b,d,f] ms (replicate ms.length 0) ys=[h,j,l,m]:=by have:=q;unfold gq at this;rw[C] at this;exact this
   rw[e] at p;obtain⟨m1,Z,m3,m4⟩:=p;have Y:=eD Z;have hM:=Fk;simp only[jd,aI,bM];rw[<- m4];split;rename_i t;rw[dd Y t];exact (sQ f2).symm
   ·rename_i s
    rw[show val [h,j,l,m]%M=val [h,j,l,m]-M from by
     rw[<- wF,dd aa aa]]
def iI:Nat × Eng.Spec:=(53,aH [(.arr 4 (.int .u64)),(.arr 4 (.int .u64))] [.val (.arr 4 (.int .u64))] dA jd)
theorem HB:enters Tryz.prog 42 Tryz.f42:=ek
abbrev vP:HL [.fr,.fr]->HO [.val .fr]:=fun (x,y,_)=>((x:Fr)*y,())
theorem nM:aL Tryz.prog 42 [.fr,.fr] [.val .fr] bx (fun _=>True) vP:=by refine a8 (sp:=aP [iI]) (aJ (aM gV) bp) mixed HB ae ae ?_;rintro w a ⟨x,y,⟨⟩⟩ _ _;refine al (X:=(dA (enc x,enc y,())/\Canon Mr (aT 4 (val (enc x)*val (enc y)*rinv%M))/\(dec (aT 4 (val (enc x)*val (enc y)*rinv%M)),())=vP (x,y,()))) ab ?_;rw[show aT 4 (val (enc x)*val (enc y)*rinv%M)=enc (x*y) from xy x y];exact⟨⟨e5 x,e5 y,(cC x).2.2⟩,cC _,by rw[dM]⟩
def kq:Nat × Eng.Spec:=(42,aH [.fr,.fr] [.val .fr] (fun _=>True) vP)
theorem zo:enters Tryz.prog 95 Tryz.f95:=ek
abbrev o0:HL [.fr]->HO [.val .fr]:=fun (x,_)=>((x:Fr)*x,())
theorem jw:aL Tryz.prog 95 [.fr] [.val .fr] bx (fun _=>True) o0:=by refine a8 (sp:=aP [iI]) (aJ (aM gV) bp) mixed zo ae ae ?_;rintro w a ⟨x,⟨⟩⟩ _ _;refine al (X:=(dA (enc x,enc x,())/\Canon Mr (aT 4 (val (enc x)*val (enc x)*rinv%M))/\(dec (aT 4 (val (enc x)*val (enc x)*rinv%M)),())=o0 (x,()))) ab ?_;rw[show aT 4 (val (enc x)*val (enc x)*rinv%M)=enc (x*x) from xy x x];exact⟨⟨e5 x,e5 x,(cC x).2.2⟩,cC _,by rw[dM]⟩
def fT:Nat × Eng.Spec:=(95,aH [.fr] [.val .fr] (fun _=>True) o0)
theorem yu:enters Tryz.prog 43 Tryz.f43:=ek
abbrev kP:HL [.fr,.fr]->HO [.val .fr]:=fun (x,y,_)=>((x:Fr)+y,())
theorem nL:aL Tryz.prog 43 [.fr,.fr] [.val .fr] bx (fun _=>True) kP:=by
 refine a8 (sp:=aP [Ai,um]) (aJ (aM BN) (aJ (aM sG) bp)) mixed yu ae ae ?_;rintro w a ⟨x,y,⟨⟩⟩ _ _
 refine al (X:=(n9 (enc x,enc y,())/\vV (aT 4 (val (enc x)+val (enc y)),()) /\
  Canon Mr (if val (aT 4 (val (enc x)+val (enc y)))<M then aT 4 (val (enc x)+val (enc y)) else aT 4 (val (aT 4 (val (enc x)+val (enc y)))-M)) /\
  (dec (if val (aT 4 (val (enc x)+val (enc y)))<M then aT 4 (val (enc x)+val (enc y)) else aT 4 (val (aT 4 (val (enc x)+val (enc y)))-M)),())=kP (x,y,()))) ab ?_
 rw[show (if val (aT 4 (val (enc x)+val (enc y)))<M then aT 4 (val (enc x)+val (enc y)) else aT 4 (val (aT 4 (val (enc x)+val (enc y)))-M))=enc (x+y) from NN x y];exact⟨⟨e5 x,e5 y⟩,jB _ _,cC _,by rw[dM]⟩
def jM:Nat × Eng.Spec:=(43,aH [.fr,.fr] [.val .fr] (fun _=>True) kP)
theorem HF:enters Tryz.prog 118 Tryz.f118:=ek
abbrev rP:HL [.fr,.fr]->HO [.val .fr]:=fun (x,y,_)=>((x:Fr)-y,())
theorem BT:aL Tryz.prog 118 [.fr,.fr] [.val .fr] bx (fun _=>True) rP:=by
 refine a8 (sp:=aP [re,um,pd]) (aJ (aM oT) (aJ (aM sG) (aJ (aM nr) bp))) mixed HF ae ae ?_;rintro w b ⟨x,y,⟨⟩⟩ _ _
 refine al (X:=(n9 (enc x,enc y,()) /\
  ((((if val (enc x)<val (enc y) then 1 else 0:Int) != 0)=true->True/\n9 (aT 4 (val (enc x)-val (enc y)),ms,())/\Canon Mr (aT 4 (val (aT 4 (val (enc x)-val (enc y)))+val ms))/\(dec (aT 4 (val (aT 4 (val (enc x)-val (enc y)))+val ms)),())=rP (x,y,())) /\
   (((if val (enc x)<val (enc y) then 1 else 0:Int) != 0)=false->Canon Mr (aT 4 (val (enc x)-val (enc y)))/\(dec (aT 4 (val (enc x)-val (enc y))),())=rP (x,y,()))))) ab ?_
 rw[fX];refine⟨⟨e5 x,e5 y⟩,?_⟩;by_cases h:val (enc x)<val (enc y);rw[show aT 4 (val (aT 4 (val (enc x)-val (enc y)))+M)=enc (x-y) from GV h];exact⟨fun _=>⟨trivial,⟨jB _ _,pH⟩,cC _,by rw[dM]⟩,fun a=>by simp[h] at a⟩;rw[show aT 4 (val (enc x)-val (enc y))=enc (x-y) from GU h];exact⟨fun a=>by simp[h] at a,fun _=>⟨cC _,by rw[dM]⟩⟩
def GR:Nat × Eng.Spec:=(118,aH [.fr,.fr] [.val .fr] (fun _=>True) rP)
theorem HC:enters Tryz.prog 75 Tryz.f75:=ek
abbrev vQ:HL [.fr]->HO [.val .fr]:=fun (x,_)=>(-(x:Fr),())
theorem CO (x:Fr):0-x=-x:=Zm.ext (by rw[RE,J1,uv];simp)
theorem yw:aL Tryz.prog 75 [.fr] [.val .fr] bx (fun _=>True) vQ:=by refine a8 (sp:=aP [GR]) (aJ (aM BT) bp) mixed HC ae ae ?_;rintro w a ⟨x,⟨⟩⟩ _ _;refine al (X:=(True/\((0:Fr)-x,())=vQ (x,()))) ab ?_;exact⟨trivial,by rw[CO]⟩
def Aj:Nat × Eng.Spec:=(75,aH [.fr] [.val .fr] (fun _=>True) vQ)
theorem HE:enters Tryz.prog 94 Tryz.f94:=ek
theorem BR:aL Tryz.prog 94 [] [.val .fr] bx (fun _=>True) (fun _=>((1:Fr),())):=by refine a8 (sp:=aP []) bp mixed HE ae ae ?_;rintro w b ⟨⟩ _ _;refine al (X:=(Canon Mr [8589934590,6378425256633387010,11064306276430008309,1739710354780652911]/\(dec [8589934590,6378425256633387010,11064306276430008309,1739710354780652911],())=((1:Fr),()))) ab ?_;refine⟨⟨rfl,?_,ae⟩,?_⟩;intro x a;simp at a;rcases a with rfl|rfl|rfl|rfl<;>exact⟨ae,ae⟩;rw[show (dec [8589934590,6378425256633387010,11064306276430008309,1739710354780652911]:Fr)=1 from Zm.ext ae]
def uW:Nat × Eng.Spec:=(94,aH [] [.val .fr] (fun _=>True) (fun _=>((1:Fr),())))
end fr
namespace fp
theorem BH:enters Tryz.prog 133 Tryz.f133:=ek
def mn (t:Nat) (g:Int × Fp):St:=ar Tryz.f133.ntmps 40 [(0,.is (.one (.ptr 0 0))),(1,.is (.one (.ptr 16 0))),(t,sI .i64 g.1)] [(16,[.row .fp 1 [g.2]]),(0,[.row .fp 1 [(0:Fp)]])]
def rz:Nat->Fp
 | 0=>1
 | k+1=>rz k+rz k
def uo (x:Fp):Nat->Fp
 | 0=>x
 | k+1=>uo x k*uo x k
theorem sH:aL Tryz.prog 133 [] [.val .fp] bx (fun _=>True) (fun _=>((R2:Fp),())):=by
 have a:aD Tryz.prog (aP [uW,jM,fT]):=aJ (aM BR) (aJ (aM nL) (aJ (aM jw) bp));refine bI (sp:=aP [uW,jM,fT]) BH ae ae ab ?_;rintro w d ⟨⟩ _ _;show Tr _ _ _ _ _ _ _;refine bd a mixed 3 (mn 3 (0,1)) True ?_ (fun _=>?_);refine al (X:=True/\(mn 3 (0,1)).ag True) ab ⟨trivial,ao trivial⟩;refine fW a mixed (mn 3) (fun k=>((k:Int),rz k)) 3 (fun g=>(IntKind.i64.wrap (g.1+1),g.2+g.2)) (mn 3) (c:=aq (ak Tryz.f133) 3) ab ab (aw ab ab trivial)
  (fun k b=>by show (_,_)=(_,_);rw[aS aa];rfl) ?_ ?_
 intro k b;refine al (X:=((decide ((k:Int)<3)=true->True/\(mn 3 (IntKind.i64.wrap ((k:Int)+1),rz k+rz k)).ag (k<3))/\(decide ((k:Int)<3)=false->(mn 3 ((k:Int),rz k)).ag (k=3)))) ab ?_;exact⟨fun h=>⟨trivial,ao (by have:=dec_lt h;omega)⟩,fun h=>ao (by have:=bW h;omega)⟩;refine bd a mixed 1 (mn 9 (0,rz 3)) True ?_ (fun _=>?_);refine al (X:=(mn 9 (0,rz 3)).ag True) ab (ao trivial);refine fW a mixed (mn 9) (fun k=>((k:Int),uo (rz 3) k)) 7 (fun g=>(IntKind.i64.wrap (g.1+1),g.2*g.2)) (mn 9) (c:=aq (ak Tryz.f133) 5) ab ab (aw ab ab trivial)
  (fun k b=>by show (_,_)=(_,_);rw[aS aa];rfl) ?_ ?_
 intro k b;refine al (X:=((decide ((k:Int)<7)=true->True/\(mn 9 (IntKind.i64.wrap ((k:Int)+1),uo (rz 3) k*uo (rz 3) k)).ag (k<7))/\(decide ((k:Int)<7)=false->(mn 9 ((k:Int),uo (rz 3) k)).ag (k=7)))) ab ?_;exact⟨fun h=>⟨trivial,ao (by have:=dec_lt h;omega)⟩,fun h=>ao (by have:=bW h;omega)⟩;refine bE a mixed _ _ ?_;refine al (X:=(uo (rz 3) 7,())=((R2:Fp),())) ab ?_;rw[show uo (rz 3) 7=R2 from Zm.ext ae]
def tb:Nat × Eng.Spec:=(133,aH [] [.val .fp] (fun _=>True) (fun _=>((R2:Fp),())))
theorem tX:enters Tryz.prog 134 Tryz.f134:=ek
abbrev uS:HL [.int .u64]->HO [.val .fp]:=fun (n,_)=>((zm n:Fp),())
theorem ti:aL Tryz.prog 134 [.int .u64] [.val .fp] bx (fun (n,_)=>gQ n) uS:=by refine a8 (sp:=aP [tb,iI]) (aJ (aM sH) (aJ (aM gV) bp)) mixed tX ae ae ?_;rintro w b ⟨n,⟨⟩⟩ _ a;refine al (X:=(True/\dA (enc (R2:Fp),[n,0,0,0,0,0],())/\Canon Mp (aT 6 (val (enc (R2:Fp))*val [n,0,0,0,0,0]*rinv%M))/\(dec (aT 6 (val (enc (R2:Fp))*val [n,0,0,0,0,0]*rinv%M)),())=uS (n,()))) ab ?_;rw[show aT 6 (val (enc (R2:Fp))*val [n,0,0,0,0,0]*rinv%M)=enc (zm (val [n,0,0,0,0,0]):Fp) from rb (M:=Mp)];refine⟨trivial,⟨e5 _,?_,(cC _).2.2⟩,cC _,?_⟩;intro x hx;rcases mem_cons.1 hx with rfl|hx;exact a;simp at hx;subst hx;exact⟨ae,ae⟩;rw[dM];simp[val,uS]
def ta:Nat × Eng.Spec:=(134,aH [.int .u64] [.val .fp] (fun (n,_)=>gQ n) uS)
end fp
namespace fr
theorem BH:enters Tryz.prog 54 Tryz.f54:=ek
def mn (t:Nat) (g:Int × Fr):St:=ar Tryz.f54.ntmps 56 [(0,.is (.one (.ptr 0 0))),(1,.is (.one (.ptr 32 0))),(t,sI .i64 g.1)] [(32,[.row .fr 1 [g.2]]),(0,[.row .fr 1 [(0:Fr)]])]
def uo (x:Fr):Nat->Fr
 | 0=>x
 | k+1=>uo x k*uo x k
theorem sH:aL Tryz.prog 54 [] [.val .fr] bx (fun _=>True) (fun _=>((R2:Fr),())):=by
 have a:aD Tryz.prog (aP [uW,jM,fT]):=aJ (aM BR) (aJ (aM nL) (aJ (aM jw) bp));refine bI (sp:=aP [uW,jM,fT]) BH ae ae ab ?_;rintro w d ⟨⟩ _ _;show Tr _ _ _ _ _ _ _;refine bd a mixed 3 (mn 5 (0,1+1)) True ?_ (fun _=>?_);refine al (X:=True/\True/\True/\(mn 5 (0,1+1)).ag True) ab ⟨trivial,trivial,trivial,ao trivial⟩;refine fW a mixed (mn 5) (fun k=>((k:Int),uo (1+1) k)) 8 (fun g=>(IntKind.i64.wrap (g.1+1),g.2*g.2)) (mn 5) (c:=aq (ak Tryz.f54) 3) ab ab (aw ab ab trivial)
  (fun k b=>by show (_,_)=(_,_);rw[aS aa];rfl) ?_ ?_
 intro k b;refine al (X:=((decide ((k:Int)<8)=true->True/\(mn 5 (IntKind.i64.wrap ((k:Int)+1),uo (1+1) k*uo (1+1) k)).ag (k<8))/\(decide ((k:Int)<8)=false->(mn 5 ((k:Int),uo (1+1) k)).ag (k=8)))) ab ?_;exact⟨fun h=>⟨trivial,ao (by have:=dec_lt h;omega)⟩,fun h=>ao (by have:=bW h;omega)⟩;refine bE a mixed _ _ ?_;refine al (X:=(uo (1+1) 8,())=((R2:Fr),())) ab ?_;rw[show uo (1+1) 8=R2 from Zm.ext ae]
def tb:Nat × Eng.Spec:=(54,aH [] [.val .fr] (fun _=>True) (fun _=>((R2:Fr),())))
theorem tX:enters Tryz.prog 23 Tryz.f23:=ek
abbrev uS:HL [.int .u64]->HO [.val .fr]:=fun (n,_)=>((zm n:Fr),())
theorem ti:aL Tryz.prog 23 [.int .u64] [.val .fr] bx (fun (n,_)=>gQ n) uS:=by refine a8 (sp:=aP [tb,iI]) (aJ (aM sH) (aJ (aM gV) bp)) mixed tX ae ae ?_;rintro w b ⟨n,⟨⟩⟩ _ a;refine al (X:=(True/\dA (enc (R2:Fr),[n,0,0,0],())/\Canon Mr (aT 4 (val (enc (R2:Fr))*val [n,0,0,0]*rinv%M))/\(dec (aT 4 (val (enc (R2:Fr))*val [n,0,0,0]*rinv%M)),())=uS (n,()))) ab ?_;rw[show aT 4 (val (enc (R2:Fr))*val [n,0,0,0]*rinv%M)=enc (zm (val [n,0,0,0]):Fr) from rb (M:=Mr)];refine⟨trivial,⟨e5 _,?_,(cC _).2.2⟩,cC _,?_⟩;intro x hx;rcases mem_cons.1 hx with rfl|hx;exact a;simp at hx;subst hx;exact⟨ae,ae⟩;rw[dM];simp[val,uS]
def ta:Nat × Eng.Spec:=(23,aH [.int .u64] [.val .fr] (fun (n,_)=>gQ n) uS)
end fr
end Go.Proofs.YtofofalgjibokaaGreatDoor
namespace Cr
def Bs (l:List Int):Prop:=∀ x∈l,0<=x/\x<256
def num (l:List Int):Int:=l.foldl (fun a b=>a*256+b) 0
def bC:Nat->Int
 | 0=>1
 | n+1=>256*bC n
theorem j0 (n:Nat):0<bC n:=by
 induction n with
 | zero=>decide
 | succ n a=>simp only[bC];omega
theorem sZ (m n:Nat):bC (m+n)=bC m*bC n:=by
 induction m with
 | zero=>simp[bC]
 | succ m a=>rw[Nat.succ_add];simp only[bC,a,dy]
theorem vS (n:Nat):bC (8*n)=pw n:=by
 induction n with
 | zero=>rfl
 | succ n a =>rw[wT,oG,sZ,a];rfl
theorem vM (l:List Int) (b:Int):num (l++[b])=num l*256+b:=by simp[num]
theorem SM (l:List Int):∀ a:Int,l.foldl (fun a b=>a*256+b) a=a*bC l.length+num l:=by
 induction l with
 | nil=>intro a;simp[num,bC]
 | cons b l c =>intro a;simp only[List.foldl_cons,bG,bC,num];rw[c,c (0*256+b)];simp only[qH,Int.zero_mul,Int.zero_add];rw[show a*256*bC l.length=a*(256*bC l.length) from dy _ _ _];omega
theorem Gi (l m:List Int):num (l++m)=num l*bC m.length+num m:=by show (l++m).foldl _ 0=_;rw[Bh,SM];rfl
theorem Cc {l:List Int} (h:Bs l):0<=num l/\num l<bC l.length:=by
 induction l with
 | nil=>simp[num,bC]
 | cons b l f =>
  have c:=h b au;have j:=f (fun x d=>h x (by simp[d]));have e:num (b::l)=b*bC l.length+num l:=Gi [b] l▸by simp[num]
  rw[e,bG];simp only[bC];have a:=j0 l.length;have g:=mT c.1 (eJ a);have i:b*bC l.length<=255*bC l.length:=wv aa (eJ a);omega
theorem CQ {l:List Int} (h:Bs l) (n:Nat):Bs (l.take n):=fun x a=>h x (ng a)
theorem yb {l:List Int} (h:Bs l) (n:Nat):Bs (l.drop n):=fun x a=>h x (A7 a)
theorem JR {l:List Int} {k:Nat} (h:k<l.length):num (l.take (k+1))=num (l.take k)*256+l.getD k 0:=by rw[cr h,vM];congr 1;simp[h]
theorem aaD:∀ (n j:Nat) (A d:Int),j<n->0<=d->(aT n A).getD j 0+d<18446744073709551616 ->
  (aT n A).set j ((aT n A).getD j 0+d)=aT n (A+d*pw j):=by
 intro n;induction n with
 | zero=>intro j A d h;omega
 | succ n g =>
  intro j A d i f a;cases j with
  | zero =>simp only[aT,wD,oy,pw,lA] at a ⊢;have b:(A+d)%18446744073709551616=A%18446744073709551616+d:=aa;have c:(A+d)/18446744073709551616=A/18446744073709551616:=aa;rw[b,c]
  | succ j =>
   simp only[aT,List.getD_cons_succ,Be,pw] at a ⊢;rw[g j _ d aa f a];have e:d*(18446744073709551616*pw j)=18446744073709551616*(d*pw j):=by rw[wM]
   have b:(A+18446744073709551616*(d*pw j))%18446744073709551616=A%18446744073709551616:=aa;have c:(A+18446744073709551616*(d*pw j))/18446744073709551616=A/18446744073709551616+d*pw j:=aa;rw[e,b,c]
theorem vf:∀ (n j:Nat) (A:Int),j<n->(aT n A).getD j 0=A/pw j%18446744073709551616:=by
 intro n;induction n with
 | zero=>intro j A h;omega
 | succ n a =>
  intro j A b;cases j with
  | zero=>simp[aT,pw]
  | succ j =>simp only[aT,List.getD_cons_succ,pw];rw[a j _ aa,na ae]
theorem vT (n:Nat):bC n=((2^(8*n):Nat):Int):=by
 induction n with
 | zero=>rfl
 | succ n a=>rw[bC,a,wT,Nat.pow_add];simp;omega
theorem IB (N:Int) (q:Nat):(N*bC (q+1))/pw (q/8)%18446744073709551616=N*bC (q%8+1)%18446744073709551616:=by
 have e:N*bC (q+1)=N*bC (q%8+1)*pw (q/8):=by rw[<- vS,dy,<- sZ];congr 2;omega
 rw[e,Int.mul_ediv_cancel _ (by have:=vX (q/8);omega)]
theorem L2 {m:Nat} (h:m<=8):∃ c:Int,(18446744073709551616:Int)=c*bC m/\0<c:=by refine⟨bC (8-m),?_,j0 _⟩;rw[<- sZ,Nat.sub_add_cancel h];rfl
theorem aaR {N v:Int} {q:Nat} (d:0<=v) (k:v<256) (l:q<8) :
  ∃ c:Nat,N*bC (q+1)%18446744073709551616=((c*2^(8*(q+1)):Nat):Int)/\v*bC q<bC (q+1)/\0<=v*bC q/\N*bC (q+1)%18446744073709551616+v*bC q<18446744073709551616:=by
 obtain⟨c,h,a⟩:=L2 (m:=q+1) aa;have i:=j0 (q+1);have e:N*bC (q+1)%18446744073709551616=(N%c)*bC (q+1):=by rw[h,gU N,gU c,Int.mul_emod_mul_of_pos _ _ i,gU]
 have b:=qC N (show c≠0 by omega);have j:=tB N a;have f:v*bC q<bC (q+1):=by show _<256*bC q;exact Int.mul_lt_mul_of_pos_right k (j0 q)
 have g:0<=v*bC q:=mT d (eJ (j0 q));refine⟨(N%c).toNat,?_,f,g,?_⟩;rw[e,vT];rw[wO,A9 b]
 ·rw[e,h];have:(N%c)*bC (q+1)+bC (q+1)<=c*bC (q+1):=by
   have:=wv (show N%c+1<=c by omega) (eJ i);rw[qH,Int.one_mul] at this;exact this
  omega
def dt (n:Nat) (N:Int):List Int:=(range n).map fun i=>N/bC (n-1-i)%256
theorem gO (n:Nat) (N:Int):(dt n N).length=n:=by simp[dt]
theorem wV (n:Nat) (N:Int):Bs (dt n N):=by intro x a;simp[dt] at a;obtain⟨i,_,rfl⟩:=a;omega
theorem Gj (n:Nat):∀ N:Int,0<=N->N<bC n->num (dt n N)=N:=by
 induction n with
 | zero=>intro N c a;simp[bC] at a;simp[dt,num];omega
 | succ n d =>
  intro N c a;have e:dt (n+1) N=dt n (N/256)++[N%256]:=by unfold dt;rw[qD,de];congr 1;apply Ba;intro i b;have b:=List.mem_range.1 b;rw[show n+1-1-i=(n-1-i)+1 by omega];rw[show bC (n-1-i+1)=256*bC (n-1-i) from rfl,<- na ae];simp[bC]
  rw[e,vM,d (N/256) aa (by simp only[bC] at a;omega)];omega
theorem Zl {n:Nat} {N:Int} {i:Nat} (h:i<8*n):((aT n N).getD (n-1-i/8) 0)/bC (7-i%8)%256=N/bC (8*n-1-i)%256:=by
 rw[vf _ _ _ aa];obtain⟨c,e,f⟩:=L2 (m:=7-i%8+1) aa;have a:bC (8*n-1-i)=pw (n-1-i/8)*bC (7-i%8):=by rw[<- vS,<- sZ];congr 1;omega
 rw[a,<- na (eJ (vX _))];generalize N/pw (n-1-i/8)=A;have g:=j0 (7-i%8);rw[e,show bC (7-i%8+1)=256*bC (7-i%8) from rfl];generalize bC (7-i%8)=P at *;have b:A%(c*(256*P))=A%(P*(256*c)):=by congr 1;rw[gU c,gU 256 P,dy]
 rw[b];have d:A%(P*(256*c))/P=(A/P)%(256*c):=by rw[tN,tN,dy,<- Int.sub_mul_ediv_left _ _ (show P≠0 by omega),<- na (eJ g)]
 rw[d,A8 _ ⟨c,rfl⟩]
end Cr
namespace Go.Eng
open Go.IntKind(i64 u64 u8)
theorem wrap_u8 (a:Int):u8.wrap a=a%256:=by simp[IntKind.wrap,IntKind.signed,IntKind.bits]
theorem xD (a:Int):u64.wrap a=a%18446744073709551616:=by simp[IntKind.wrap,IntKind.signed,IntKind.bits]
def wk (n i:Int):Int:=i64.wrap (i64.wrap (n-1)-i)
def wj (n i:Int):Int:=i64.wrap ((wk n i).tdiv 8)
def PV (n i:Int):Int:=i64.wrap (8*(wk n i).tmod 8)
def IC (a:List Int) (n i v:Int):List Int :=
 a.set (wj n i).toNat (aF .or .u64 (a.getD (wj n i).toNat 0) (u64.wrap (u64.wrap v*2^(min (PV n i).toNat u64.bits))))
theorem Y9 {len k:Nat} (h:k<len) (b:len<1000000):wk len k=((len-1-k:Nat):Int):=by unfold wk;rw[ba (a:=(len:Int)-1) aa aa,ba aa aa];omega
theorem Y8 {len k:Nat} (h:k<len) (a:len<1000000):wj len k=(((len-1-k)/8:Nat):Int):=by unfold wj;rw[Y9 h a,ss aa,ba aa aa];omega
theorem UG {len k:Nat} (h:k<len) (a:len<1000000):PV len k=((8*((len-1-k)%8):Nat):Int):=by unfold PV;rw[Y9 h a,m9 aa,ba aa aa];omega
theorem aeh (c t y:Nat) (h:y<2^t) (e:c*2^t+y<18446744073709551616):aF .or .u64 ((c*2^t:Nat):Int) (y:Int)=((c*2^t+y:Nat):Int):=by
 show u64.wrap ((BitVec.ofInt 64 ((c*2^t:Nat):Int) ||| BitVec.ofInt 64 (y:Int):BitVec 64).toNat:Int)=_;have b:(BitVec.ofInt 64 ((c*2^t:Nat):Int)).toNat=c*2^t:=by rw[show BitVec.ofInt 64 ((c*2^t:Nat):Int)=BitVec.ofNat 64 (c*2^t) from tz ..,qy,il aa]
 have d:(BitVec.ofInt 64 (y:Int)).toNat=y:=by rw[show BitVec.ofInt 64 (y:Int)=BitVec.ofNat 64 y from tz ..,qy,il aa]
 rw[BitVec.toNat_or,b,d];have a:=Nat.shiftLeft_add_eq_or_of_lt h c;rw[Nat.shiftLeft_eq] at a;rw[<- a,xD];omega
theorem PQ {n:Nat} {a:List Int} (m:Bs a) (x:a.length<=8*n) (o:a.length<1000000) {k:Nat} (f:k<a.length) :
  IC (aT n (num (a.take k)*bC (a.length-k))) a.length k (a.getD k 0)=aT n (num (a.take (k+1))*bC (a.length-(k+1))):=by
 unfold IC;rw[Y8 f o,UG f o];simp only[aB];have j:0<=a.getD k 0/\a.getD k 0<256:=by have:=m (a.getD k 0) (by simp[f]);exact this
 rw[JR f];generalize z:a.length-1-k=q at *;generalize a.getD k 0=v at *;have w:=(Cc (CQ m k)).1;have r:a.length-k=q+1:=aa;have s:a.length-(k+1)=q:=aa;rw[r,s];generalize num (a.take k)=N at *;have d:q/8<n:=aa;rw[vf _ _ _ d,IB];obtain⟨c,t,u,g,l⟩:=aaR (N:=N) (v:=v) (q:=q%8) j.1 j.2 aa;have i:u64.wrap (u64.wrap v*2^min (8*(q%8)) u64.bits)=v*bC (q%8):=by rw[show u64.bits=64 from rfl,iY aa,xD v,dd j.1 aa,vT,xD];have e:((2^(8*(q%8)):Nat):Int)=(2:Int)^(8*(q%8)):=au;rw[<- e,<- vT];exact dd g (by have:=qC (N*bC (q%8+1)) (show (18446744073709551616:Int)≠0 by decide);omega)
 rw[i];have h:aF .or .u64 (N*bC (q%8+1)%18446744073709551616) (v*bC (q%8))=N*bC (q%8+1)%18446744073709551616+v*bC (q%8):=by obtain⟨y,p⟩:=jQ g;rw[t,p] at l ⊢;rw[p,vT] at u;have:=aeh c (8*(q%8+1)) y aa aa;rw[this];omega
 rw[h];have b:=aaD n (q/8) (N*bC (q+1)) (v*bC (q%8)) d g (by rw[vf _ _ _ d,IB];exact l);rw[vf _ _ _ d,IB] at b;rw[b];congr 1;rw[qH,dy,dy,<- vS,<- sZ];rw[show q%8+8*(q/8)=q by omega];rfl
theorem PO {n:Nat} {a:List Int} (e:a.length<=8*n) (d:a.length<1000000) {k:Nat} (b:k<a.length) :
  (0<=wj a.length k/\wj a.length k<(n:Int))/\(wj a.length k).toNat<n/\0<=PV a.length k:=by
 rw[Y8 b d,UG b d];exact⟨⟨aa,aa⟩,aa,aa⟩
theorem Ha (n:Nat) (a:List Int):aT n (num (a.take 0)*bC (a.length-0))=replicate n 0:=by rw[show num (a.take 0)=0 from rfl,Int.zero_mul,Lx]
def bj (n i:Int):Int:=i64.wrap (n-i64.wrap (i.tdiv 8))
def NT (i:Int):Int:=i64.wrap (56-i64.wrap (8*i.tmod 8))
def Hr (n:Int) (a:List Int) (i:Int):Int:=u8.wrap (Int.fdiv (a.getD (bj n i).toNat 0) (2^min (NT i).toNat u64.bits))
theorem XR {n k:Nat} (h:k<8*(n+1)) (b:n<1000):bj n k=((n-k/8:Nat):Int):=by unfold bj;rw[ss aa,ba (a:=(k:Int)/8) aa aa,ba aa aa];omega
theorem R6 {k:Nat}:NT k=((8*(7-k%8):Nat):Int):=by unfold NT;rw[m9 aa,ba (a:=8*((k:Int)%8)) aa aa,ba aa aa];omega
theorem NS {n k:Nat} {N:Int} (h:k<8*(n+1)) (a:n<1000):Hr n (aT (n+1) N) k=N/bC (8*(n+1)-1-k)%256:=by
 unfold Hr;rw[XR h a,R6,wrap_u8];simp only[aB];rw[show u64.bits=64 from rfl,iY aa];have e:(2:Int)^(8*(7-k%8))=bC (7-k%8):=by rw[vT];simp
 rw[e,sr _ (eJ (j0 _))];have:=Zl (n:=n+1) (N:=N) (i:=k) h;rw[show n+1-1-k/8=n-k/8 by omega] at this;exact this
theorem NR {n k:Nat} (h:k<8*(n+1)) (a:n<1000):(0<=bj n k/\bj n k<((n+1:Nat):Int))/\(bj n k).toNat<n+1/\0<=NT k:=by rw[XR h a,R6];exact⟨⟨aa,aa⟩,aa,aa⟩
def jb (m:Nat) (N:Int) (k:Nat):List Int:=(dt m N).take k++replicate (m-k) 0
theorem Bt (m:Nat) (N:Int):jb m N 0=replicate m 0:=by simp[jb]
theorem DJ (m:Nat) (N:Int):jb m N m=dt m N:=by simp[jb,bQ,gO]
theorem Br {m:Nat} {N:Int} {k:Nat} (h:k<m):(jb m N k).set k (N/bC (m-1-k)%256)=jb m N (k+1):=by
 unfold jb;have a:((dt m N).take k).length=k:=by simp[gO];omega
 rw[qg _ _ aa,a,oH];rw[show m-k=(m-(k+1))+1 by omega,oN,oy];rw[cr (by rw[gO];exact h)];simp[dt]
end Go.Eng
namespace Go.Proofs.YtofofalgjibokaaGreatDoor
namespace fp
open Go.IntKind(i64 u64 u8)
open Go.IntKind(i64)
theorem BJ:enters Tryz.prog 129 Tryz.f129:=ek
def mN (a:List Int) (g:Int × List Int):St:=ar Tryz.f129.ntmps 40 [(0,.is (.one (.ro (.int .u8) a))),(2,.is (.one (.ptr 0 0))),(3,.is (.one (.ptr 8 0))),(7,.is (.one (.ro (.int .u8) a))),(8,sI .i64 a.length),(9,sI .i64 g.1)] [(8,[.ints .u64 6 g.2]),(0,[.ints .u64 6 (xH 6)])]
abbrev o7:HL [.sl (.int .u8)]->Prop:=fun (a,_)=>Bs a/\length a<=48
abbrev qq:HL [.sl (.int .u8)]->HO [.val (.arr 6 (.int .u64))]:=fun (a,_)=>(aT 6 (num a),())
theorem zu:aL Tryz.prog 129 [.sl (.int .u8)] [.val (.arr 6 (.int .u64))] bx o7 qq:=by
 refine bI (sp:=aP []) BJ ae ae ab ?_;have b:aD Tryz.prog (aP []):=bp;rintro w o ⟨a,⟨⟩⟩ _ ⟨f,e⟩;have f:Bs a:=f;have e:length a<=48:=e;show Tr _ _ _ _ _ _ _;refine bd b mixed 3 (mN a (0,replicate 6 0)) True ?_ (fun _=>?_);refine al (X:=(mN a (0,replicate 6 0)).ag True) ab (ao trivial);rw[<- Ha 6 a];refine fW b mixed (mN a) (fun k=>((k:Int),aT 6 (num (take k a)*bC (length a-k)))) a.length (fun g=>(i64.wrap (g.1+1),IC g.2 a.length g.1 (a.getD g.1.toNat 0))) (mN a) (c:=aq (ak Tryz.f129) 3) ab ab (aw ab ab trivial)
  (fun k l=>by
   show (_,_)=(_,_)
   rw[aS aa,aB,PQ f e aa l]) ?_ ?_
 ·intro k l
  refine al (X:=((decide ((k:Int)<(a.length:Int))=true->(0<=(k:Int)/\(k:Int)<(a.length:Int))/\(k:Int).toNat<a.length/\(8:Int)≠0/\(0<=wj a.length k/\wj a.length k<(6:Int))/\(wj a.length k).toNat<6/\(8:Int)≠0/\0<=PV a.length k/\(0<=wj a.length k/\wj a.length k<(6:Int))/\(wj a.length k).toNat<6 /\
    (mN a (i64.wrap ((k:Int)+1),IC (aT 6 (num (take k a)*bC (length a-k))) a.length k (a.getD (k:Int).toNat 0))).ag (k<a.length)) /\
   (decide ((k:Int)<(a.length:Int))=false->(mN a ((k:Int),aT 6 (num (take k a)*bC (length a-k)))).ag (k=a.length)))) ab ?_
  refine⟨fun h=>?_,fun h=>ao (by have:=bW h;omega)⟩;have d:k<a.length:=by have:=dec_lt h;omega
  obtain⟨i,j,m⟩:=PO (n:=6) e aa d;exact⟨⟨aa,aa⟩,aa,ae,i,j,ae,m,i,j,ao d⟩
 refine bE b mixed _ _ ?_;refine al (X:=((aT 6 (num (take a.length a)*bC (length a-a.length)),()):List Int × Unit)=qq (a,())) ab ?_;rw[aV,oH,bC,lA]
def yW:Nat × Eng.Spec:=(129,aH [.sl (.int .u8)] [.val (.arr 6 (.int .u64))] o7 qq)
theorem Ss:enters Tryz.prog 174 Tryz.f174:=ek
abbrev EN:HL [.fp]->HO [.val (.arr 6 (.int .u64))]:=fun (x,_)=>(aT 6 (Zm.v (x:Fp)),())
theorem KV:aL Tryz.prog 174 [.fp] [.val (.arr 6 (.int .u64))] bx (fun _=>True) EN:=by refine a8 (sp:=aP [iI]) (aJ (aM gV) bp) mixed Ss ae ae ?_;rintro w b ⟨x,⟨⟩⟩ _ _;refine al (X:=(dA (enc x,[1,0,0,0,0,0],())/\((aT 6 (val (enc x)*val [1,0,0,0,0,0]*rinv%M),()):List Int × Unit)=EN (x,()))) ab ?_;refine⟨⟨e5 x,by intro y a;simp at a;rcases a with rfl|rfl<;>exact⟨ae,ae⟩,(cC x).2.2⟩,?_⟩;rw[show aT 6 (val (enc x)*val [1,0,0,0,0,0]*rinv%M)=aT 6 x.v from Jo x ae]
def Ir:Nat × Eng.Spec:=(174,aH [.fp] [.val (.arr 6 (.int .u64))] (fun _=>True) EN)
theorem tV:enters Tryz.prog 149 Tryz.f149:=ek
def mB (a:List Int) (g:Int × List Int):St:=ar Tryz.f149.ntmps 64 [(2,.is (.one (.ptr 8 0))),(3,.is (.one (.ptr 16 0))),(4,.is (.one (.ptr 40 0))),(8,sI .i64 g.1)] [(8,[.ints .u8 48 (xH 48)]),(16,[.ints .u8 48 g.2]),(40,[.ints .u64 6 a])]
abbrev jY:HL [.fp]->HO [.val (.arr 48 (.int .u8))]:=fun (x,_)=>(dt 48 (Zm.v (x:Fp)),())
theorem sF:aL Tryz.prog 149 [.fp] [.val (.arr 48 (.int .u8))] bx (fun _=>True) jY:=by
 have a:aD Tryz.prog (aP [Ir]):=aJ (aM KV) bp;refine bI (sp:=aP [Ir]) tV ae ae ab ?_;rintro w j ⟨x,⟨⟩⟩ _ _;show Tr _ _ _ _ _ _ _;refine bd a mixed 4 (mB (aT 6 x.v) (0,replicate 48 0)) True ?_ (fun _=>?_);refine al (X:=True/\(mB (aT 6 x.v) (0,replicate 48 0)).ag True) ab ⟨trivial,ao trivial⟩;rw[<- Bt 48 x.v];refine fW a mixed (mB (aT 6 x.v)) (fun k=>((k:Int),jb 48 x.v k)) 48 (fun g=>(i64.wrap (g.1+1),g.2.set g.1.toNat (Hr (5:Nat) (aT 6 x.v) g.1))) (mB (aT 6 x.v)) (c:=aq (ak Tryz.f149) 4) ab ab (aw ab ab trivial)
  (fun k d=>by
   show (_,_)=(_,_)
   rw[aS aa,aB,NS (n:=5) d aa,Br d]) ?_ ?_
 ·intro k d
  refine al (X:=((decide ((k:Int)<48)=true->(8:Int)≠0/\(0<=bj 5 k/\bj 5 k<(6:Int))/\(bj 5 k).toNat<6/\(8:Int)≠0/\0<=NT k/\(0<=(k:Int)/\(k:Int)<(48:Int))/\(k:Int).toNat<48 /\
    (mB (aT 6 x.v) (i64.wrap ((k:Int)+1),(jb 48 x.v k).set (k:Int).toNat (Hr (5:Nat) (aT 6 x.v) k))).ag (k<48)) /\
   (decide ((k:Int)<48)=false->(mB (aT 6 x.v) ((k:Int),jb 48 x.v k)).ag (k=48)))) ab ?_
  refine⟨fun h=>?_,fun h=>ao (by have:=bW h;omega)⟩;have b:k<48:=by have:=dec_lt h;omega
  obtain⟨e,f,i⟩:=NR (n:=5) b aa;exact⟨ae,e,f,ae,i,⟨aa,aa⟩,aa,ao b⟩
 refine bE a mixed _ _ ?_;refine al (X:=((jb 48 x.v 48,()):List Int × Unit)=jY (x,())) ab ?_;rw[DJ]
def vk:Nat × Eng.Spec:=(149,aH [.fp] [.val (.arr 48 (.int .u8))] (fun _=>True) jY)
end fp
namespace fr
open Go.IntKind(i64 u64 u8)
open Go.IntKind(i64)
theorem BJ:enters Tryz.prog 62 Tryz.f62:=ek
def mN (a:List Int) (g:Int × List Int):St:=ar Tryz.f62.ntmps 40 [(0,.is (.one (.ro (.int .u8) a))),(2,.is (.one (.ptr 0 0))),(3,.is (.one (.ptr 8 0))),(7,.is (.one (.ro (.int .u8) a))),(8,sI .i64 a.length),(9,sI .i64 g.1)] [(8,[.ints .u64 4 g.2]),(0,[.ints .u64 4 (xH 4)])]
abbrev o7:HL [.sl (.int .u8)]->Prop:=fun (a,_)=>Bs a/\length a<=32
abbrev qq:HL [.sl (.int .u8)]->HO [.val (.arr 4 (.int .u64))]:=fun (a,_)=>(aT 4 (num a),())
theorem zu:aL Tryz.prog 62 [.sl (.int .u8)] [.val (.arr 4 (.int .u64))] bx o7 qq:=by
 refine bI (sp:=aP []) BJ ae ae ab ?_;have b:aD Tryz.prog (aP []):=bp;rintro w o ⟨a,⟨⟩⟩ _ ⟨f,e⟩;have f:Bs a:=f;have e:length a<=32:=e;show Tr _ _ _ _ _ _ _;refine bd b mixed 3 (mN a (0,replicate 4 0)) True ?_ (fun _=>?_);refine al (X:=(mN a (0,replicate 4 0)).ag True) ab (ao trivial);rw[<- Ha 4 a];refine fW b mixed (mN a) (fun k=>((k:Int),aT 4 (num (take k a)*bC (length a-k)))) a.length (fun g=>(i64.wrap (g.1+1),IC g.2 a.length g.1 (a.getD g.1.toNat 0))) (mN a) (c:=aq (ak Tryz.f62) 3) ab ab (aw ab ab trivial)
  (fun k l=>by
   show (_,_)=(_,_)
   rw[aS aa,aB,PQ f e aa l]) ?_ ?_
 ·intro k l
  refine al (X:=((decide ((k:Int)<(a.length:Int))=true->(0<=(k:Int)/\(k:Int)<(a.length:Int))/\(k:Int).toNat<a.length/\(8:Int)≠0/\(0<=wj a.length k/\wj a.length k<(4:Int))/\(wj a.length k).toNat<4/\(8:Int)≠0/\0<=PV a.length k/\(0<=wj a.length k/\wj a.length k<(4:Int))/\(wj a.length k).toNat<4 /\
    (mN a (i64.wrap ((k:Int)+1),IC (aT 4 (num (take k a)*bC (length a-k))) a.length k (a.getD (k:Int).toNat 0))).ag (k<a.length)) /\
   (decide ((k:Int)<(a.length:Int))=false->(mN a ((k:Int),aT 4 (num (take k a)*bC (length a-k)))).ag (k=a.length)))) ab ?_
  refine⟨fun h=>?_,fun h=>ao (by have:=bW h;omega)⟩;have d:k<a.length:=by have:=dec_lt h;omega
  obtain⟨i,j,m⟩:=PO (n:=4) e aa d;exact⟨⟨aa,aa⟩,aa,ae,i,j,ae,m,i,j,ao d⟩
 refine bE b mixed _ _ ?_;refine al (X:=((aT 4 (num (take a.length a)*bC (length a-a.length)),()):List Int × Unit)=qq (a,())) ab ?_;rw[aV,oH,bC,lA]
def yW:Nat × Eng.Spec:=(62,aH [.sl (.int .u8)] [.val (.arr 4 (.int .u64))] o7 qq)
theorem tV:enters Tryz.prog 51 Tryz.f51:=ek
def mB (a:List Int) (g:Int × List Int):St:=ar Tryz.f51.ntmps 80 [(2,.is (.one (.ptr 8 0))),(3,.is (.one (.ptr 16 0))),(4,.is (.one (.ptr 56 0))),(10,sI .i64 g.1)] [(8,[.ints .u8 32 (xH 32)]),(16,[.ints .u8 32 g.2]),(56,[.ints .u64 4 a])]
abbrev jY:HL [.fr]->HO [.val (.arr 32 (.int .u8))]:=fun (x,_)=>(dt 32 (Zm.v (x:Fr)),())
theorem sF:aL Tryz.prog 51 [.fr] [.val (.arr 32 (.int .u8))] bx (fun _=>True) jY:=by
 have a:aD Tryz.prog (aP [iI]):=aJ (aM gV) bp;refine bI (sp:=aP [iI]) tV ae ae ab ?_;rintro w l ⟨x,⟨⟩⟩ _ _;show Tr _ _ _ _ _ _ _;refine bd a mixed 4 (mB (aT 4 (val (enc x)*val [1,0,0,0]*rinv%M)) (0,replicate 32 0)) True ?_ (fun _=>?_);refine al (X:=dA (enc x,[1,0,0,0],())/\(mB (aT 4 (val (enc x)*val [1,0,0,0]*rinv%M)) (0,replicate 32 0)).ag True) ab ⟨⟨e5 x,by intro y e;simp at e;rcases e with rfl|rfl<;>exact⟨ae,ae⟩,(cC x).2.2⟩,ao trivial⟩;rw[show aT 4 (val (enc x)*val [1,0,0,0]*rinv%M)=aT 4 x.v from Jo x ae];rw[<- Bt 32 x.v];refine fW a mixed (mB (aT 4 x.v)) (fun k=>((k:Int),jb 32 x.v k)) 32 (fun g=>(i64.wrap (g.1+1),g.2.set g.1.toNat (Hr (3:Nat) (aT 4 x.v) g.1))) (mB (aT 4 x.v)) (c:=aq (ak Tryz.f51) 4) ab ab (aw ab ab trivial)
  (fun k d=>by
   show (_,_)=(_,_)
   rw[aS aa,aB,NS (n:=3) d aa,Br d]) ?_ ?_
 ·intro k d
  refine al (X:=((decide ((k:Int)<32)=true->(8:Int)≠0/\(0<=bj 3 k/\bj 3 k<(4:Int))/\(bj 3 k).toNat<4/\(8:Int)≠0/\0<=NT k/\(0<=(k:Int)/\(k:Int)<(32:Int))/\(k:Int).toNat<32 /\
    (mB (aT 4 x.v) (i64.wrap ((k:Int)+1),(jb 32 x.v k).set (k:Int).toNat (Hr (3:Nat) (aT 4 x.v) k))).ag (k<32)) /\
   (decide ((k:Int)<32)=false->(mB (aT 4 x.v) ((k:Int),jb 32 x.v k)).ag (k=32)))) ab ?_
  refine⟨fun h=>?_,fun h=>ao (by have:=bW h;omega)⟩;have b:k<32:=by have:=dec_lt h;omega
  obtain⟨f,i,j⟩:=NR (n:=3) b aa;exact⟨ae,f,i,ae,j,⟨aa,aa⟩,aa,ao b⟩
 refine bE a mixed _ _ ?_;refine al (X:=((jb 32 x.v 32,()):List Int × Unit)=jY (x,())) ab ?_;rw[DJ]
def vk:Nat × Eng.Spec:=(51,aH [.fr] [.val (.arr 32 (.int .u8))] (fun _=>True) jY)
end fr
namespace fp
open Go.IntKind(i64 u64 u8)
open Go.IntKind(i64)
theorem vw:enters Tryz.prog 88 Tryz.f88:=ek
abbrev s9:HL [.sl (.int .u8)]->Prop:=fun (a,_)=>Bs a
def cI (a:List Int):Fp × Int:=if a.length=48 then (if num a<Mp then (zm (num a),0) else (0,12)) else (0,10)
abbrev iH:HL [.sl (.int .u8)]->HO [.val .fp,.val (.int .i64)]:=fun (a,_)=>((cI a).1,(cI a).2,())
theorem va:aL Tryz.prog 88 [.sl (.int .u8)] [.val .fp,.val (.int .i64)] bx s9 iH:=by
 refine a8 (sp:=aP [yW,pd,re,tb,iI]) (aJ (aM zu) (aJ (aM nr) (aJ (aM oT) (aJ (aM sH) (aJ (aM gV) bp))))) mixed vw ae ae ?_;rintro w k ⟨a,⟨⟩⟩ _ d;have d:Bs a:=d
 refine al (X:=(((((a.length:Int) != 48)=true->(((0:Fp),(10:Int),())=iH (a,()))) /\
  (((a.length:Int) != 48)=false->o7 (a,())/\True/\n9 (aT 6 (num a),ms,()) /\
   ((((if val (aT 6 (num a))<val ms then (1:Int) else 0)==0)=true->(((0:Fp),(12:Int),())=iH (a,()))) /\
    (((if val (aT 6 (num a))<val ms then (1:Int) else 0)==0)=false->True/\dA (enc (R2:Fp),aT 6 (num a),())/\Canon Mp (aT 6 (val (enc (R2:Fp))*val (aT 6 (num a))*rinv%M))/\((dec (aT 6 (val (enc (R2:Fp))*val (aT 6 (num a))*rinv%M)),(0:Int),())=iH (a,())))))))) ab ?_
 refine⟨fun h=>?_,fun h=>?_⟩
 ·have:¬ a.length=48:=by intro e;rw[e] at h;exact absurd h ae
  simp[iH,cI,this]
 ·have g:a.length=48:=by
   have:¬ ((a.length:Int)≠48):=by simpa using h
   omega
  have b:=Cc d;rw[g] at b;have j:bC 48=pw 6:=vS 6;have i:val (aT 6 (num a))=num a:=sc b.1 (by rw[<- j];exact b.2);refine⟨⟨d,by show length a<=48;omega⟩,trivial,⟨jB _ _,pH⟩,fun h=>?_,fun h=>⟨trivial,⟨e5 _,jB _ _,(cC _).2.2⟩,?_⟩⟩
  ·rw[i,fX] at h;have:¬ num a<Mp:=by intro f;rw[aj f] at h;exact absurd h ae
   simp[iH,cI,g,this]
  ·rw[i,fX] at h;have:num a<Mp:=Decidable.byContradiction fun f=>by rw[ah f] at h;exact absurd h ae
   rw[show aT 6 (val (enc (R2:Fp))*val (aT 6 (num a))*rinv%M)=enc (zm (val (aT 6 (num a))):Fp) from rb (M:=Mp),i];refine⟨cC _,?_⟩;rw[dM];simp[iH,cI,g,this]
def Mz:Nat × Eng.Spec:=(88,aH [.sl (.int .u8)] [.val .fp,.val (.int .i64)] s9 iH)
theorem JI (x:Fp):val (aT 6 x.v)=x.v:=sc x.nn (by have:=x.lt;have:Mp<pw 6:=ae;omega)
theorem Sn:enters Tryz.prog 151 Tryz.f151:=ek
abbrev zP:HL [.fp]->HO [.val .bool]:=fun (x,_)=>(decide (Zm.v (-(x:Fp))<Zm.v (x:Fp)),())
theorem KT:aL Tryz.prog 151 [.fp] [.val .bool] bx (fun _=>True) zP:=by refine a8 (sp:=aP [Ir,Aj,re]) (aJ (aM KV) (aJ (aM yw) (aJ (aM oT) bp))) mixed Sn ae ae ?_;rintro w a ⟨x,⟨⟩⟩ _ _;refine al (X:=(True/\True/\True/\n9 (aT 6 (-x).v,aT 6 x.v,())/\(((if val (aT 6 (-x).v)<val (aT 6 x.v) then (1:Int) else 0)==1,()):Bool × Unit)=zP (x,()))) ab ⟨trivial,trivial,trivial,⟨jB _ _,jB _ _⟩,?_⟩;rw[JI,JI];simp only[zP,aI,bM];by_cases h:(-x).v<x.v;simp[h];simp[h]
def Iq:Nat × Eng.Spec:=(151,aH [.fp] [.val .bool] (fun _=>True) zP)
end fp
namespace fr
open Go.IntKind(i64 u64 u8)
open Go.IntKind(i64)
theorem VF:enters Tryz.prog 33 Tryz.f33:=ek
def DC (g:List Int × Fr):St:=ar Tryz.f33.ntmps 40 [(0,.is (.one (.ro (.int .u8) g.1))),(2,.is (.one (.ptr 0 0))),(3,.is (.one (.ptr 8 0))),(4,.is (.one (.ptr 24 0)))] [(0,[.row .fr 1 [(0:Fr)]]),(8,[.row .fr 1 [g.2]]),(24,[.row .fr 1 [(R2:Fr)]])]
def wn (len:Int):Int:=IntKind.i64.wrap ((IntKind.i64.wrap (len-1)).tmod 32+1)
def AP (a:List Int):List Int:=take (wn a.length-0).toNat (drop (toNat 0) a)
def Kg (g:List Int × Fr):List Int × Fr:=(take ((g.1.length:Int)-wn g.1.length).toNat (drop (wn g.1.length).toNat g.1),g.2*R2+dec (aT 4 (val (enc (R2:Fr))*val (aT 4 (num (AP g.1)))*rinv%M)))
def wp (len k:Nat):Nat:=len-32*((len+31)/32-k)
def k8 (a:List Int) (k:Nat):List Int × Fr:=(a.drop (wp a.length k),zm (num (a.take (wp a.length k))))
theorem Za {L:Nat} (b:0<L) (d:L<4611686018427387904):wn L=(((L-1)%32+1:Nat):Int):=by unfold wn;rw[ba (a:=(L:Int)-1) aa aa,m9 aa,ba aa aa];omega
theorem CM {a:List Int} (p:Bs a) (x:a.length<4611686018427387904) {k:Nat} (w:k<(a.length+31)/32) :
  0<a.length-wp a.length k/\Kg (k8 a k)=k8 a (k+1)/\(AP (a.drop (wp a.length k))).length<=32/\1<=(a.length-wp a.length k-1)%32+1/\(a.length-wp a.length k-1)%32+1<=a.length-wp a.length k:=by
 have o:0<a.length-wp a.length k:=by unfold wp;omega
 have s:(a.length-wp a.length k-1)%32+1=wp a.length (k+1)-wp a.length k:=by unfold wp;omega
 have q:wp a.length (k+1)<=a.length:=by unfold wp;omega
 have r:wp a.length k<wp a.length (k+1):=by unfold wp;omega
 have f:(a.drop (wp a.length k)).length=a.length-wp a.length k:=gm;have h:wn (a.drop (wp a.length k)).length=((wp a.length (k+1)-wp a.length k:Nat):Int):=by rw[Za aa aa,f,s]
 have d:AP (a.drop (wp a.length k))=(a.drop (wp a.length k)).take (wp a.length (k+1)-wp a.length k):=by unfold AP;rw[h];congr 1
 refine⟨o,?_,?_,aa,aa⟩
 ·unfold Kg k8;simp only;rw[h,d];have m:take (((a.drop (wp a.length k)).length:Int)-((wp a.length (k+1)-wp a.length k:Nat):Int)).toNat (drop ((wp a.length (k+1)-wp a.length k:Nat):Int).toNat (a.drop (wp a.length k)))=a.drop (wp a.length (k+1)):=by
   rw[aB,fJ,show wp a.length k+(wp a.length (k+1)-wp a.length k)=wp a.length (k+1) by omega];exact bQ (by simp;omega)
  rw[m];congr 1;have i:Bs ((a.drop (wp a.length k)).take (wp a.length (k+1)-wp a.length k)):=CQ (yb p _) _;have e:((a.drop (wp a.length k)).take (wp a.length (k+1)-wp a.length k)).length=wp a.length (k+1)-wp a.length k:=by simp;omega
  have l:wp a.length (k+1)-wp a.length k<=32:=aa;have g:=Cc i;rw[e] at g;have t:bC (wp a.length (k+1)-wp a.length k)<=pw 4:=by rw[<- vS,show 8*4=(wp a.length (k+1)-wp a.length k)+(32-(wp a.length (k+1)-wp a.length k)) by omega,sZ];have n:=j0 (wp a.length (k+1)-wp a.length k);have u:=j0 (32-(wp a.length (k+1)-wp a.length k));have:=AY (show 1<=bC (32-(wp a.length (k+1)-wp a.length k)) by omega) (eJ n);omega
  rw[show aT 4 (val (enc (R2:Fr))*val (aT 4 (num ((a.drop (wp a.length k)).take (wp a.length (k+1)-wp a.length k))))*rinv%M)=enc (zm (val (aT 4 (num ((a.drop (wp a.length k)).take (wp a.length (k+1)-wp a.length k))))):Fr) from rb (M:=Mr),sc g.1 aa,dM];show zm _*zm (pw 4)+zm _=zm _;rw[ux,uw];congr 1;have b:a.take (wp a.length (k+1))=a.take (wp a.length k)++(a.drop (wp a.length k)).take (wp a.length (k+1)-wp a.length k):=by rw[<- List.take_add,show wp a.length k+(wp a.length (k+1)-wp a.length k)=wp a.length (k+1) by omega]
  rw[b,Gi,e];by_cases j:wp a.length k=0;rw[j];simp[num];rw[show wp a.length (k+1)-wp a.length k=32 by unfold wp at j ⊢;omega,<- vS]
 rw[d];simp;omega
abbrev Ia:HL [.sl (.int .u8)]->Prop:=fun (a,_)=>Bs a/\length a<4611686018427387904
abbrev H4:HL [.sl (.int .u8)]->HO [.val .fr]:=fun (a,_)=>((zm (num a):Fr),())
theorem aae:aL Tryz.prog 33 [.sl (.int .u8)] [.val .fr] bx Ia H4:=by
 have i:aD Tryz.prog (aP [yW,kq,jM,tb,iI]):=aJ (aM zu) (aJ (aM nM) (aJ (aM nL) (aJ (aM sH) (aJ (aM gV) bp))));refine bI (sp:=aP [yW,kq,jM,tb,iI]) VF ae ae ab ?_;rintro w y ⟨a,⟨⟩⟩ _ ⟨j,n⟩;have j:Bs a:=j;have n:a.length<4611686018427387904:=n;show Tr _ _ _ _ _ _ _;refine bd i mixed 3 (DC (a,0)) True ?_ (fun _=>?_);refine al (X:=True/\(DC (a,0)).ag True) ab ⟨trivial,ao trivial⟩;have u:(a,(0:Fr))=k8 a 0:=by unfold k8;rw[show wp a.length 0=0 by unfold wp;omega];rfl
 rw[u];refine fW i mixed DC (k8 a) ((a.length+31)/32) Kg DC (c:=aq (ak Tryz.f33) 3) ab ab (aw ab ab trivial)
  (fun k s=>(CM j n s).2.1) ?_ ?_
 ·intro k s;have d:(k8 a k).1.length=a.length-wp a.length k:=by unfold k8;simp
  have m:Bs (k8 a k).1:=yb j _;have p:k<(a.length+31)/32->(AP (k8 a k).1).length<=32:=fun h=>(CM j n h).2.2.1;have l:k<(a.length+31)/32->1<=((k8 a k).1.length-1)%32+1/\((k8 a k).1.length-1)%32+1<=(k8 a k).1.length:=fun h=>by rw[d];exact (CM j n h).2.2.2
  have e:k<(a.length+31)/32↔0<(k8 a k).1.length:=by rw[d];unfold wp;omega
  have o:(k8 a k).1.length<4611686018427387904:=aa;clear d;generalize k8 a k=g at *;obtain⟨b,x⟩:=g;simp only at m p l e o
  refine al (X:=((decide ((b.length:Int)>0)=true->(32:Int)≠0/\True/\(0<=wn b.length/\wn b.length<=(b.length:Int))/\o7 (AP b,())/\dA (enc (R2:Fr),aT 4 (num (AP b)),())/\Canon Mr (aT 4 (val (enc (R2:Fr))*val (aT 4 (num (AP b)))*rinv%M))/\True/\(0<=wn b.length/\wn b.length<=(b.length:Int))/\(DC (Kg (b,x))).ag (k<(a.length+31)/32)) /\
   (decide ((b.length:Int)>0)=false->(DC (b,x)).ag (k=(a.length+31)/32)))) ab ?_
  refine⟨fun h=>?_,fun h=>ao ?_⟩
  ·have r:0<b.length:=by have:=Odt h;omega
   have f:=e.2 r;have z:=l f;have t:=Za r o;have q:Bs (AP b):=by unfold AP;exact CQ (yb m _) _
   refine⟨ae,trivial,by rw[t];omega,⟨q,p f⟩,⟨e5 _,jB _ _,(cC _).2.2⟩,?_,trivial,by rw[t];omega,ao f⟩;rw[show aT 4 (val (enc (R2:Fr))*val (aT 4 (num (AP b)))*rinv%M)=enc (zm (val (aT 4 (num (AP b)))):Fr) from rb (M:=Mr)];exact cC _
  have:=Odf h;omega
 refine bE i mixed _ _ ?_;refine al (X:=((k8 a ((a.length+31)/32)).2,())=H4 (a,())) ab ?_;unfold k8;rw[show wp a.length ((a.length+31)/32)=a.length by unfold wp;omega,aV]
def Us:Nat × Eng.Spec:=(33,aH [.sl (.int .u8)] [.val .fr] Ia H4)
end fr
end Go.Proofs.YtofofalgjibokaaGreatDoor
namespace Go.Hbm
open Go.IntKind(i64 u64 u8)
open Go.IntKind(i64)
abbrev aC:=Int × Int × Int × Int × Int × Int × List Int
abbrev Told:=Int × Int × List Int
abbrev aC.kind (m:aC):Int:=m.1
abbrev aC.aW (m:aC):Int:=m.2.2.1
abbrev aC.bO (m:aC):Int:=m.2.2.2.1
abbrev aC.bD (m:aC):Int:=m.2.2.2.2.1
abbrev aC.body (m:aC):List Int:=m.2.2.2.2.2.2
abbrev gI:=List (Int × List Int)
structure Talk where
 bD:Int
 bO:Int
 begun:Bool
 ready:Bool
 told:Bool
 ech:gI
 rdy:gI
structure a5 where
 me:Int
 mem:List Int
 talks:List Talk
abbrev UK:=List aC × List Told
def ka (s:gI) (b:List Int):Int:=(((s.filter fun x=>x.2==b).length:Nat):Int)
def di (s:gI) (f:Int):Bool:=s.any fun x=>x.1==f
end Go.Hbm
namespace Go.Proofs.YtofofalgjibokaaGreatDoor
namespace hub
open Go.IntKind(i64 u64 u8)
open Go.IntKind(i64)
abbrev D9:Kd:=.sl (.int .u8)
theorem Qf:enters Tryz.prog 148 Tryz.f148:=ek
abbrev o4:HL [D9]->Prop:=fun (c,_)=>length c<1048576
theorem SB:aL Tryz.prog 148 [D9] [.own (.int .u8)] bx o4 (fun (c,_)=>(c,())):=by have a:aD Tryz.prog (aP []):=bp;refine w8 (sp:=aP []) Qf ae ae ab ?_ ?_;rintro w M0 ⟨⟩ _ b;show Tr _ _ _ _ _ _ _;refine bE a mixed _ _ ?_;refine al (X:=((([]:List Int),())=(([]:List Int),()))) ab rfl;rintro w M0 c ⟨⟩ _ _ b;revert c;intro (c:List Int) _ b;have b:c.length<1048576:=b;show Tr _ _ _ _ _ _ _;refine bE a mixed _ _ ?_;refine al (X:=(0<=0/\(0+c.length)*1<=140737488355328/\0+c.length<=4611686018427387904/\0+(0+c.length)<=0+c.length/\(take (0+c.length) (take 0 []++c),())=(c,()))) ab ?_;rw[tK,dH,bH,aV];exact⟨aE _,aa,aa,aa,rfl⟩
def qv:Nat × Eng.Spec:=(148,aH [D9] [.val D9] o4 (fun (c,_)=>(c,())))
theorem ug:nI Tryz.prog qv.1 qv.2:=aM SB.AE
theorem Qg:enters Tryz.prog 178 Tryz.f178:=ek
abbrev Ck:HL [D9,D9]->Prop:=fun (a,b,_)=>Bs a/\Bs b/\length a<1048576/\length b<1048576
theorem str_inj {a b:List Int} (d:Bs a) (f:Bs b) (h:strOfNums a=strOfNums b):a=b:=by
 have h:a.map (fun n=>UInt8.ofNat n.toNat)=b.map (fun n=>UInt8.ofNat n.toNat):=by have:=congrArg (fun x=>x.data.toList) h;exact this
 induction a generalizing b with
 | nil=>cases b with
  | nil=>rfl
  | cons y b=>simp at h
 | cons x a g=>cases b with
  | nil=>simp at h
  | cons y b =>
   simp only[eI,br] at h;have i:=d x au;have j:=f y au;have e:x=y:=by have:=congrArg UInt8.toNat h.1;simp only[UInt8.toNat_ofNat'] at this;omega
   rw[e,g (fun v c=>d v (by simp[c])) (fun v c=>f v (by simp[c])) (by unfold strOfNums;rw[h.2]) h.2]
theorem SC:aL Tryz.prog 178 [D9,D9] [.val .bool] bx Ck (fun (a,b,_)=>(decide (a=b),())):=by
 refine a8 (sp:=aP []) bp mixed Qg ae ae ?_;rintro w M0 ⟨a,b,⟨⟩⟩;revert a b;intro (a:List Int) (b:List Int) _ c;refine al (X:=((decide (strOfNums a=strOfNums b),())=(decide (a=b),()))) ab ?_;have e:decide (strOfNums a=strOfNums b)=decide (a=b):=by by_cases h:a=b;rw[h];simp;rw[cp h,cp (fun q=>h (str_inj c.1 c.2.1 q))]
 exact congrArg (·,()) e
def E5:Nat × Eng.Spec:=(178,aH [D9,D9] [.val .bool] Ck (fun (a,b,_)=>(decide (a=b),())))
theorem Tw:nI Tryz.prog E5.1 E5.2:=aM SC
abbrev bo:Code->Array Oper
 | .region _ ops _=>ops
 | _ => #[]
abbrev ny (b:Nat):SV:=.is (.one (.v (.map (some b))))
abbrev lM (l:List Int):SV:=.is (.one (.ro (.int .u8) l))
def lN (s:Hbm.gI):List (Value × Cell):=s.map fun x=>(.int .i64 x.1,.ro (.int .u8) x.2)
def bP (b:Nat) (s:Hbm.gI):Ob.ai:=Ob.fP b (lN s)
theorem xq (s:Hbm.gI):(lN s).length=s.length:=by simp[lN]
theorem Ru (s:Hbm.gI):∀ p∈lN s,p.2.ids=[]:=by intro p a;obtain⟨x,_,rfl⟩:=mem_map.1 a;rfl
theorem T3 (s:Hbm.gI):∀ p∈lN s,p.1.oneCell'=true:=by intro p a;obtain⟨x,_,rfl⟩:=mem_map.1 a;rfl
theorem MI:Tryz.prog.underlying 193=some (.map 3 22):=ab
theorem Y1:Tryz.prog.underlying 3=some (.int .i64):=ab
theorem Tg:Maps.Keyed Tryz.prog 3:=Maps.int_keyed Y1
def la (x:Int):Prop:=-9223372036854775808<=x/\x<=9223372036854775807
theorem HT {x:Int} (h:la x):keyOf Tryz.prog 3 (.int .i64 x)=some (.int .i64 x):=Maps.keyOf_int_mk Y1 (by unfold Lit.wf;rw[aQ];exact⟨bX h.1,bX h.2⟩)
def nH (s:Hbm.gI):Prop:=(∀ x∈s,la x.1/\Bs x.2/\x.2.length<1048576)/\s.length<1000
theorem GG {s:Hbm.gI} (h:nH s):∀ p∈lN s,∃ k,keyOf Tryz.prog 3 p.1=some k:=by intro p a;obtain⟨x,d,rfl⟩:=mem_map.1 a;exact⟨_,HT (h.1 x d).1⟩
theorem w6:enters Tryz.prog 163 Tryz.f163:=ek
abbrev pX:Func:=Tryz.f163
def ctA (b:Nat) (body:List Int):St:=ar pX.ntmps 16 [(0,ny b),(1,lM body),(5,sI .i64 0)] []
def ctB (b:Nat) (body:List Int):St:=ar pX.ntmps 24 [(1,lM body),(5,sI .i64 0),(8,ny b)] []
def AA (body:List Int) (r:Nat) (n:Int):St:=ar pX.ntmps 24 [(1,lM body),(5,sI .i64 n),(9,.is (.one (.v (Ob.pt r))))] []
def Sd (body:List Int) (r:Nat) (n:Int) (t:Bool):St:=ar pX.ntmps 24 [(1,lM body),(5,sI .i64 n),(9,.is (.one (.v (Ob.pt r)))),(11,.is (.one (.v (.bool t))))] []
def ctD (body:List Int) (r:Nat) (n:Int) (y:List Int):St:=ar pX.ntmps 24 [(1,lM body),(5,sI .i64 n),(7,lM y),(9,.is (.one (.v (Ob.pt r))))] []
abbrev Va:=aP [E5]
theorem qL:aD Tryz.prog Va:=aJ Tw bp
theorem HM {P:Program} {l:List Code} {K:Prop} {Pre n r:Act->World->Prop} {x:Nat->Act->World->Prop} (h:K->Ob.aK P l Pre n r x):Ob.aK P l (fun a w=>K/\Pre a w) n r x:=fun a w Q d=>h d.1 a w Q d.2
def DM:Code:=aq (ak pX) 3
def od (s:Hbm.gI) (body:List Int) (seen:List Nat):Int:=(((seen.filter fun i=>(s.getD i (0,[])).2==body).length:Nat):Int)
theorem ud {g:List Nat} {n:Nat} (h:g.Nodup) (d:∀ i∈g,i<n):g.length<=n:=by
 have e:g.Perm ((range n).filter fun i=>decide (i∈g)):=(List.perm_ext_iff_of_nodup h (List.nodup_range.filter _)).2 fun i=>by rw[List.mem_filter,List.mem_range];exact⟨fun a=>⟨d i a,bX a⟩,fun a=>Odt a.2⟩
 rw[e.length_eq];have:=oM (fun i=>decide (i∈g)) (range n);rw[qA] at this;exact this
theorem QS {g:List Nat} {i:Nat} (h:g.Nodup) (j:i∉g):(g++[i]).Nodup:=by rw[Bi];exact⟨h,au,fun a d b f=>by rw[List.mem_singleton.1 f];exact fun e=>j (e▸d)⟩
theorem U3 (s:Hbm.gI) (body:List Int) (g:List Nat):0<=od s body g/\od s body g<=g.length:=by unfold od;have:=oM (fun i=>(s.getD i (0,[])).2==body) g;omega
theorem Qb (s:Hbm.gI) (body:List Int) (g:List Nat) {i:Nat} {y:Int × List Int} (a:s[i]?=some y):od s body (g++[i])=if y.2=body then od s body g+1 else od s body g:=by
 unfold od;have e:s.getD i (0,[])=y:=by rw[aX,a];rfl
 rw[qz,bb];by_cases h:y.2=body;rw[aj h,List.filter_cons_of_pos (by rw[e];simpa using h)];simp;rw[ah h,List.filter_cons_of_neg (by rw[e];simpa using h)];simp
theorem Sc (s:Hbm.gI) (body:List Int) (g:List Nat) (a:g.Nodup) (d:∀ i∈g,i<s.length) (e:∀ i,i<s.length->i∈g):od s body g=Hbm.ka s body:=by
 unfold od Hbm.ka;have f:g.Perm (range s.length):=(List.perm_ext_iff_of_nodup a List.nodup_range).2 fun i=>⟨fun h=>List.mem_range.2 (d i h),fun h=>e i (List.mem_range.1 h)⟩;rw[(f.filter _).length_eq];congr 1;have:s=(range s.length).map fun i=>s.getD i (0,[]):=by refine mQ au fun i a d=>?_;simp[a]
 conv=>rhs;rw[this]
 rw[List.filter_map,bU];rfl
section
variable (gl:Nat->Option (Sigma aA)) (w0:World) (M0:Mem) (F0:Nat->Prop)
abbrev FF:Ob.b5:=Ob.kO Tryz.prog Va gl w0 M0 F0
theorem Zt (b:Nat) (s:Hbm.gI) (body:List Int) {n r:Act->World->Prop} {x:Nat->Act->World->Prop}
  (h:∀ it,Ob.aK Tryz.prog ((ak pX).drop 3) (Ob.GH (FF gl w0 M0 F0) pX.ntmps (AA body it 0) (Ob.ai.sep (Ob.oh it b s.length []) (bP b s))) n r x) :
  Ob.aK Tryz.prog (ak pX) (Ob.GH (FF gl w0 M0 F0) pX.ntmps (ln pX [ny b,lM body] [] 0) (bP b s)) n r x:=by
 refine Ob.gcd qL 2 (fun _=>()) (fun _=>ctA b body) (fun _=>True) ?_ (fun _ _=>?_);intro w ids M num;refine al (X:=((ctA b body).ag True)) ab ?_;exact ao trivial;refine Ob.dB 2 (bo (aq (ak pX) 2)) ?_;refine Ob.fD qL 1 (fun _=>()) (fun _=>ctB b body) (fun _=>True) ?_ (fun _ _=>?_);intro w ids M num;refine al (X:=((ctB b body).ag True)) ab ?_;exact ao trivial;refine Ob.gK (Ob.ft (sv:=fun q:Nat=>.is (.one (.v (Ob.pt q)))) (G2:=fun q=>Ob.ai.sep (Ob.oh q b (lN s).length []) (bP b s)) (J:=fun _=>True) ab ?_) (fun it _=>?_);rw[show Ob.jo (bo (aq (ak pX) 2)) 1=.range 193 (.tmp 8) from by kernel_rfl];exact Ob.WC MI ab;refine Ob.dv ?_;rw[xq];refine Ob.gA (AA body it 0) ?_;exact h it
theorem Zu (b:Nat) (s:Hbm.gI) (Q:nH s) (body:List Int) (V:Bs body) (H:body.length<1048576) (it:Nat) {n r:Act->World->Prop} {x:Nat->Act->World->Prop}
  (h:∀ m,m=Hbm.ka s body->Ob.aK Tryz.prog ((ak pX).drop 4) (Ob.GH (FF gl w0 M0 F0) pX.ntmps (AA body it m) (bP b s)) n r x) :
  Ob.aK Tryz.prog ((ak pX).drop 3) (Ob.GH (FF gl w0 M0 F0) pX.ntmps (AA body it 0) (Ob.ai.sep (Ob.oh it b s.length []) (bP b s))) n r x:=by
 have G:b7 DM=0:=ab;refine Ob.zB (c:=DM) (fun (g:List Nat) a w=>(g.Nodup/\∀ i∈g,i<s.length)/\Ob.GH (FF gl w0 M0 F0) pX.ntmps (AA body it (od s body g)) (Ob.ai.sep (Ob.oh it b s.length g) (bP b s)) a w)
  (fun g=>s.length-g.length) (fun (_:Unit) a w=>Ob.GH (FF gl w0 M0 F0) pX.ntmps (AA body it (Hbm.ka s body)) (bP b s) a w) ab ab (fun a w A=>⟨[],⟨List.nodup_nil,fun _ h=>(by cases h)⟩,A⟩) ?_ (fun _=>h _ rfl)
 intro g;refine HM fun k=>?_;have W:g.length<=s.length:=ud k.1 k.2;have R:=Q.2;have K:0<=od s body g/\od s body g<=g.length:=U3 s body g;generalize N:od s body g=m at K;refine Ob.dB 3 (bo (aq (aZ DM) 0)) ?_
 refine Ob.gK (Ob.ft (sv:=fun o:Option (Nat × Value × Cell)=>match o with|none=>.tup [.one (.v (.bool false))]|some p=>.tup [.one (.v (.bool true)),.one (.v p.2.1),.one p.2.2])
  (G2:=fun o:Option (Nat × Value × Cell)=>match o with|none=>Ob.ai.sep (Ob.oh it b s.length g) (bP b s)|some p=>Ob.ai.sep (Ob.oh it b s.length (g++[p.1])) (bP b s))
  (J:=fun o:Option (Nat × Value × Cell)=>match o with|none=>∀ i,i<(lN s).length->i∈g|some p=>(lN s)[p.1]?=some p.2/\p.1∉g) ab ?_) ?_
 rw[show Ob.jo (bo (aq (aZ DM) 0)) 0=.next (.tmp 9) false from by kernel_rfl,<- xq];exact Ob.aaU ab (T3 s) (Ru s);rintro (_|⟨i,p⟩) O
 ·have u:∀ i,i<s.length->i∈g:=by
   rw[<- xq];exact O
  have z:m=Hbm.ka s body:=N▸Sc s body g k.1 k.2 u;refine Ob.fD qL 2 (fun _=>()) (fun _=>Sd body it m false) (fun _=>True) ?_ (fun _ _=>?_);intro w ids M num;refine al (X:=((Sd body it m false).ag True)) ab ?_;exact ao trivial;refine Ob.dv ?_;refine Ob.eQ (aq (aZ DM) 1) ?_;refine Ob.kK qL mixed (fun _=>False) (fun _=>False) (fun i D=>i=0/\D.le (Ob.cj (FF gl w0 M0 F0)) (AA body it m) True) ?_ (fun _ _ _ h _=>h.elim) (fun _ _ _ h _=>h.elim) (fun i D a w L A=>?_);intro w ids M num;refine al (X:=(0=0/\(AA body it m).ag True)) ab ?_;exact⟨rfl,ao trivial⟩;obtain⟨rfl,L⟩:=L;rw[G];rw[<- z];exact⟨(),(A.le L).2.drop⟩
 ·obtain⟨t,Y⟩:=O;obtain⟨y,F,rfl⟩:∃ y,s[i]?=some y/\p=(.int .i64 y.1,.ro (.int .u8) y.2):=by
   have t:(lN s)[i]?=some p:=t;unfold lN at t;rw[dw] at t;obtain⟨y,T,U⟩:=Option.map_eq_some_iff.1 t;exact⟨y,T,U.symm⟩
  have I:i<s.length:=by rcases bN i s.length with h'|h';exact h';rw[dQ h'] at F;cases F
  have C:=Q.1 y (dS F);have f:od s body (g++[i])=if y.2=body then m+1 else m:=N▸Qb s body g F
  have e:(g++[i]).Nodup/\∀ j∈g++[i],j<s.length:=⟨QS k.1 Y,fun j hj=>by
   rcases List.mem_append.1 hj with hj|hj;exact k.2 j hj
   ·rw[List.mem_singleton.1 hj];exact I⟩
  have d:=ud e.1 e.2;rw[bb] at d;have d:g.length+1<=s.length:=d;refine Ob.fD qL 2 (fun _=>()) (fun _=>Sd body it m true) (fun _=>True) ?_ (fun _ _=>?_);intro w ids M num;refine al (X:=((Sd body it m true).ag True)) ab ?_;exact ao trivial;refine Ob.dv ?_;refine Ob.jx (aq (aZ DM) 1) ?_;refine Ob.eR (E:=FF gl w0 M0 F0) (c:=aq (aZ DM) 2) (fun a w=>Ob.GH (FF gl w0 M0 F0) pX.ntmps (AA body it (if y.2=body then m+1 else m)) (Ob.ai.sep (Ob.oh it b s.length (g++[i])) (bP b s)) a w) ab ab ?_ ?_;refine Ob.dB 4 (bo (aq (da (aq (aZ DM) 2)) 0)) ?_;refine Ob.gK (Ob.ft (sv:=fun _:Unit=>.tup [.one (.v (.int .i64 y.1)),.one (.ro (.int .u8) y.2)]) (G2:=fun _=>Ob.ai.sep (Ob.oh it b s.length (g++[i])) (bP b s)) (J:=fun _=>True) ab ?_) (fun _ _=>?_);rw[show Ob.jo (bo (aq (da (aq (aZ DM) 2)) 0)) 0=.entry (.tmp 9) from by kernel_rfl];have:=Ob.WB (P:=Tryz.prog) (gl:=gl) (S:=(Sd body it m true).S) (ty:=Ob.pD (bo (aq (da (aq (aZ DM) 2)) 0)) 0) (it:=.tmp 9) (r:=it) (b:=b) (i:=i) (l:=lN s) (seen:=g) (p:=(.int .i64 y.1,.ro (.int .u8) y.2)) t ab rfl rfl;rw[xq] at this;exact this;refine Ob.fD qL 3 (fun _=>()) (fun _=>ctD body it m y.2) (fun _=>True) ?_ (fun _ _=>?_);intro w ids M num;refine al (X:=((ctD body it m y.snd).ag True)) ab ?_;exact ao trivial;refine Ob.dv ?_;refine Ob.gcd qL 2 (fun σ=>bg (.int .i64) 5 σ) (fun q=>AA body it q) (fun q=>q=if y.2=body then m+1 else m) ?_ (fun q Z=>?_);intro w ids M num;refine al (X:=(Ck (y.snd,body,())/\(decide (y.snd=body)=true->(AA body it (IntKind.i64.wrap (m+1))).ag (IntKind.i64.wrap (m+1)=if y.snd=body then m+1 else m))/\(decide (y.snd=body)=false->(AA body it m).ag (m=if y.snd=body then m+1 else m)))) ab ?_;refine⟨⟨C.2.1,V,C.2.2,H⟩,fun h=>ao ?_,fun h=>ao ?_⟩;rw[aj (Odt h),ba aa aa];rw[ah (Odf h)];subst Z;exact Ob.cF fun a w h=>h;refine Ob.cF fun a w A=>⟨g++[i],⟨e,?_⟩,?_⟩;rw[f];exact A;show s.length-(g++[i]).length<s.length-g.length;rw[bb,A5];omega
end
theorem EH (gl:Nat->Option (Sigma aA)):Ob.dG Tryz.prog gl 163 (fun z:Nat × Hbm.gI × List Int=>[ny z.1,lM z.2.2]) (fun z=>nH z.2.1/\Bs z.2.2/\z.2.2.length<1048576) (fun z=>bP z.1 z.2.1) (fun z (_:Unit)=>sI .i64 (Hbm.ka z.2.1 z.2.2)) (fun z _=>bP z.1 z.2.1) (fun _ _=>True):=by refine Ob.aeb (sp:=Va) w6 ab (fun z=>by show 2<=pX.ntmps;exact Odt ab) (fun z _=>rfl) ?_;rintro⟨b,s,body⟩ ⟨f,d,c⟩ w M F;refine Zt gl w M F b s body fun it=>Zu gl w M F b s f body d c it fun m e=>?_;refine Ob.g9 qL mixed (sI .i64 m) ?_ ⟨(),trivial,by rw[e],rfl⟩;intro w ids M num;refine al (X:=(SV.is (TV.one (Cell.v (Value.int IntKind.i64 m)))=SV.is (TV.one (Cell.v (Value.int IntKind.i64 m))))) ab ?_;rfl
abbrev cZ (m:Hbm.aC):List Cell:=[.v (.int .i64 m.1),.v (.int .i64 m.2.1),.v (.int .i64 m.2.2.1),.v (.int .i64 m.2.2.2.1),.v (.int .i64 m.2.2.2.2.1),.v (.int .i64 m.2.2.2.2.2.1),.ro (.int .u8) m.2.2.2.2.2.2]
abbrev l5 (m:Hbm.aC):SV:=.is (.agg (cZ m))
abbrev av (t:Bool):SV:=.is (.one (.v (.bool t)))
theorem Eo:enters Tryz.prog 124 Tryz.f124:=ek
abbrev qZ:Func:=Tryz.f124
def ntA (b:Nat) (m:Hbm.aC):St:=ar qZ.ntmps 16 [(0,ny b),(3,.is (.one (.ptr 0 0)))] [(0,cZ m)]
def ntB (b:Nat) (m:Hbm.aC):St:=ar qZ.ntmps 40 [(0,ny b),(3,.is (.one (.ptr 0 0))),(8,ny b),(10,sI .i64 m.2.2.1)] [(0,cZ m)]
def OO (b:Nat) (m:Hbm.aC) (r:Bool):St:=ar qZ.ntmps 40 [(0,ny b),(3,.is (.one (.ptr 0 0))),(6,av r)] [(0,cZ m)]
def ntD (b:Nat) (m:Hbm.aC):St:=ar qZ.ntmps 40 [(15,ny b),(17,sI .i64 m.2.2.1),(20,lM m.2.2.2.2.2.2)] []
def ntE:St:=ar qZ.ntmps 40 [] []
abbrev Wq:=aP [qv]
theorem q0:aD Tryz.prog Wq:=aJ ug bp
section
variable (gl:Nat->Option (Sigma aA)) (w0:World) (M0:Mem) (F0:Nat->Prop)
abbrev Yw:Ob.b5:=Ob.kO Tryz.prog Wq gl w0 M0 F0
theorem ad3 (b:Nat) (s:Hbm.gI) (t:nH s) (m:Hbm.aC) (l:la m.2.2.1) {n r:Act->World->Prop} {x:Nat->Act->World->Prop}
  (h:∀ q,q=Hbm.di s m.aW->Ob.aK Tryz.prog ((ak qZ).drop 2) (Ob.GH (Yw gl w0 M0 F0) qZ.ntmps (OO b m q) (bP b s)) n r x) :
  Ob.aK Tryz.prog (ak qZ) (Ob.GH (Yw gl w0 M0 F0) qZ.ntmps (ln qZ [ny b,l5 m] [] 0) (bP b s)) n r x:=by
 obtain⟨mk,d,a,g,mt,f,c⟩:=m;refine Ob.gcd q0 1 (fun _=>()) (fun _=>ntA b (mk,d,a,g,mt,f,c)) (fun _=>True) ?_ (fun _ _=>?_);intro w ids M num;refine al (X:=((ntA b (mk,d,a,g,mt,f,c)).ag True)) ab ?_;exact ao trivial;refine Ob.dB 1 (bo (aq (ak qZ) 1)) ?_;refine Ob.fD q0 3 (fun _=>()) (fun _=>ntB b (mk,d,a,g,mt,f,c)) (fun _=>True) ?_ (fun _ _=>?_);intro w ids M num;refine al (X:=((ntB b (mk,d,a,g,mt,f,c)).ag True)) ab ?_;exact ao trivial;refine Ob.gK (Ob.ft (sv:=fun q:Bool=>.tup [.one .junk,.one (.v (.bool q))]) (G2:=fun _=>bP b s) (J:=fun q=>(q=true↔∃ p∈lN s,p.1=.int .i64 a)) ab ?_) (fun q i=>?_)
 ·rw[show Ob.jo (bo (aq (ak qZ) 1)) 3=.lookup 193 (.tmp 8) (.tmp 10) true from by kernel_rfl]
  exact Ob.aaT MI Tg (z:=.slice none 0 0) (fun w=>ab) rfl (GG t) (HT l) ab (fun u v j=>by
   have j:SV.rel u (sI .i64 a) v:=j
   exact b9 j)
 have i:q=Hbm.di s a:=by
  have e:(∃ p∈lN s,p.1=.int .i64 a)↔Hbm.di s a=true:=by
   unfold Hbm.di;rw[qB];constructor;rintro⟨p,o,e⟩;obtain⟨y,k,rfl⟩:=mem_map.1 o;have e:(Value.int .i64 y.1)=.int .i64 a:=e;injection e with _ e;exact⟨y,k,by simp[e]⟩
   ·rintro⟨y,k,e⟩;have e:y.1=a:=by simpa using e
    exact⟨_,mem_map.2 ⟨y,k,rfl⟩,by rw[e]⟩
  rw[e] at i;cases q<;>cases A:Hbm.di s a<;>simp_all
 refine Ob.fD q0 9 (fun _=>()) (fun _=>OO b (mk,d,a,g,mt,f,c) q) (fun _=>True) ?_ (fun _ _=>Ob.HK (Odt ab) (h q i));intro w ids M num;refine al (X:=((OO b (mk,d,a,g,mt,f,c) q).ag True)) ab ?_;exact ao trivial
theorem ad4 (b:Nat) (s:Hbm.gI) (u:nH s) (m:Hbm.aC) (q:la m.2.2.1) (o:m.2.2.2.2.2.2.length<1048576) (f:Hbm.di s m.aW=false) {n r:Act->World->Prop} {x:Nat->Act->World->Prop}
  (h:Ob.aK Tryz.prog ((ak qZ).drop 5) (Ob.GH (Yw gl w0 M0 F0) qZ.ntmps ntE (bP b (s++[(m.2.2.1,m.2.2.2.2.2.2)]))) n r x) :
  Ob.aK Tryz.prog ((ak qZ).drop 2) (Ob.GH (Yw gl w0 M0 F0) qZ.ntmps (OO b m false) (bP b s)) n r x:=by
 obtain⟨mk,g,a,j,mt,i,d⟩:=m;refine Ob.gcd q0 2 (fun _=>()) (fun _=>OO b (mk,g,a,j,mt,i,d) false) (fun _=>True) ?_ (fun _ _=>?_);intro w ids M num;refine al (X:=((false=true->False)/\(false=false->(OO b (mk,g,a,j,mt,i,d) false).ag True))) ab ?_;exact⟨fun h=>(by cases h),fun _=>ao trivial⟩;refine Ob.jy mixed (rid:=4) (ops:=bo (aq (ak qZ) 4)) ab ?_;refine Ob.eV q0 6 (fun _=>()) (fun _=>ntD b (mk,g,a,j,mt,i,d)) (fun _=>True) ae ab ?_ (fun _ _=>?_);intro w ids M num;refine al (X:=(o4 (d,())/\(ntD b (mk,g,a,j,mt,i,d)).ag True)) ab ?_;exact⟨o,ao trivial⟩;refine Ob.pZ (Ob.ft (sv:=fun _:Unit=>.undef) (G2:=fun _=>bP b (s++[(a,d)])) (J:=fun _=>True) ab ?_) ab ab (fun _ _=>?_)
 ·rw[show Ob.jo (bo (aq (ak qZ) 4)) 6=.mapUpdate 193 (.tmp 15) (.tmp 17) (.tmp 20) from by kernel_rfl]
  have:=Ob.TA (P:=Tryz.prog) (gl:=gl) (S:=(ntD b (mk,g,a,j,mt,i,d)).S) (ty:=Ob.pD (bo (aq (ak qZ) 4)) 6) (x:=.tmp 15) (ix:=.tmp 17) (vx:=.tmp 20) (b:=b) (l:=lN s) (key:=.int .i64 a) (c:=.ro (.int .u8) d) MI Tg (GG u) (HT q) (fun p t e=>?_) ab (fun A v k=>by
   have k:SV.rel A (sI .i64 a) v:=k
   exact b9 k) ab rfl
  rw[show bP b (s++[(a,d)])=Ob.fP b (lN s++[(.int .i64 a,.ro (.int .u8) d)]) from by unfold bP lN;rw[de];rfl];exact this
  ·obtain⟨y,z,rfl⟩:=mem_map.1 t;have e:(Value.int .i64 y.1)=.int .i64 a:=e;injection e with _ e;have:Hbm.di s a=true:=by
    unfold Hbm.di;rw[qB];exact⟨y,z,by simp[e]⟩
   have f:Hbm.di s a=false:=f;rw[this] at f;cases f
 refine Ob.g8 q0 (fun _=>()) (fun _=>ntE) (fun _=>True) (Odt ab) ?_ (fun _ _=>h);intro w ids M num;refine al (X:=(ntE.ag True)) ab ?_;exact ao trivial
end
theorem OR (gl:Nat->Option (Sigma aA)):Ob.dG Tryz.prog gl 124 (fun z:Nat × Hbm.gI × Hbm.aC=>[ny z.1,l5 z.2.2]) (fun z=>nH z.2.1/\la z.2.2.2.2.1/\z.2.2.2.2.2.2.2.2.length<1048576) (fun z=>bP z.1 z.2.1) (fun z (_:Unit)=>av (!Hbm.di z.2.1 z.2.2.aW))
  (fun z _=>bP z.1 (if Hbm.di z.2.1 z.2.2.aW then z.2.1 else z.2.1++[(z.2.2.2.2.1,z.2.2.2.2.2.2.2.2)])) (fun _ _=>True):=by
 refine Ob.cA (sp:=Wq) Eo ab (fun z=>by show 2<=qZ.ntmps;exact Odt ab) (fun z _=>rfl) ?_;rintro⟨b,s,m⟩ ⟨e,c,g⟩ w M F;refine ad3 gl w M F b s e m c fun q d=>?_;show Ob.aK _ _ _ (Ob.cP _ _ fun a G=>∃ y:Unit,True/\cG a (av (!Hbm.di s m.aW))/\G=bP b (if Hbm.di s m.aW then s else s++[(m.2.2.1,m.2.2.2.2.2.2)])) (Ob.cP _ _ fun a G=>∃ y:Unit,True/\cG a (av (!Hbm.di s m.aW))/\G=bP b (if Hbm.di s m.aW then s else s++[(m.2.2.1,m.2.2.2.2.2.2)])) _;rw[<- d];obtain⟨mk,i,j,l,mt,k,f⟩:=m;cases q;refine ad4 gl w M F b s e (mk,i,j,l,mt,k,f) c g d.symm ?_;refine Ob.g9 q0 mixed (.is (.one .T)) ?_ ⟨(),trivial,Ob.Cs,rfl⟩;intro w ids M num;refine al (X:=(SV.is (TV.one Cell.T)=SV.is (TV.one Cell.T))) ab ?_;rfl;refine Ob.g9 q0 mixed (.is (.one .F)) ?_ ⟨(),trivial,Ob.q9,rfl⟩;intro w ids M num;refine al (X:=((true=true->SV.is (TV.one Cell.F)=SV.is (TV.one Cell.F))/\(true=false->o4 (f,())/\False))) ab ?_;exact⟨fun _=>rfl,fun h=>by cases h⟩
abbrev zC (t:Int × Int):Value:=.agg #[.int .i64 t.1,.int .i64 t.2]
theorem Pu:Tryz.prog.underlying 118=some (.map 233 191):=ab
theorem OG:Maps.Keyed Tryz.prog 233:=Maps.Keyed.of_law (deep_law_laid (m:=9) ab ae (Odt ab) ab ab)
theorem EC {t:Int × Int} (a:la t.1) (b:la t.2):∃ k,keyOf Tryz.prog 233 (zC t)=some k:=by
 have d:(Lit.int .i64 t.1).wf=true:=by unfold Lit.wf;rw[aQ];exact⟨bX a.1,bX a.2⟩
 have f:(Lit.int .i64 t.2).wf=true:=by unfold Lit.wf;rw[aQ];exact⟨bX b.1,bX b.2⟩
 have e:keyOf Tryz.prog 233 (zC t)=(((if IntKind.i64=IntKind.i64/\(Lit.int .i64 t.1).wf=true then some [Lit.int .i64 t.1] else none:Option (List Lit)).bind fun x=>(if IntKind.i64=IntKind.i64/\(Lit.int .i64 t.2).wf=true then some [Lit.int .i64 t.2] else none:Option (List Lit)).bind fun y=>some [x,y]).map List.flatten).map fun c=>.string (keyBytes c):=ab;rw[e,aj ⟨rfl,d⟩,aj ⟨rfl,f⟩];exact⟨_,rfl⟩
abbrev aG (p:Nat):SV:=.is (.one (.v (Ob.pt p)))
abbrev c5 (b:Int) (mem:List Int) (d:Nat):List Cell:=[.v (.int .i64 b),.ro (.int .i64) mem,.v (.map (some d))]
abbrev bY (a b c:Bool) (e r:Nat):List Cell:=[.v (.bool a),.v (.bool b),.v (.bool c),.v (.map (some e)),.v (.map (some r))]
def zE (a:List ((Int × Int) × Nat)):List (Value × Cell):=a.map fun t=>(zC t.1,.v (Ob.pt t.2))
def fm (a:Nat) (b:List ((Int × Int) × Nat)):Ob.ai:=Ob.fP a (zE b)
theorem QN (b):∀ p∈zE b,p.2.ids=[]:=by intro p a;obtain⟨x,_,rfl⟩:=mem_map.1 a;rfl
def AT (a:List ((Int × Int) × Nat)):Prop:=∀ t∈a,la t.1.1/\la t.1.2
theorem F8 {b} (h:AT b):∀ p∈zE b,∃ k,keyOf Tryz.prog 233 p.1=some k:=by intro p c;obtain⟨x,a,rfl⟩:=mem_map.1 c;exact EC (h x a).1 (h x a).2
theorem Lt {a b:Int × Int} (h:zC a=zC b):a=b:=by injection h with h;have h:=congrArg Array.toList h;simp at h;exact gu h.1 h.2
theorem tX:enters Tryz.prog 122 Tryz.f122:=ek
abbrev fF:Func:=Tryz.f122
abbrev mb (m:Hbm.aC):List Cell:=[.v (.int .i64 m.2.2.2.2.1),.v (.int .i64 m.2.2.2.1)]
def ofA (p:Nat) (m:Hbm.aC):St:=ar fF.ntmps 72 [(0,aG p),(3,.is (.one (.ptr 0 0))),(5,.is (.one (.ptr 56 0)))] [(0,cZ m),(56,mb m)]
def aiE (m:Hbm.aC) (a:Int) (mem:List Int) (b:Nat):St:=ar fF.ntmps 73 [(0,.is (.one (.ptr 72 0))),(3,.is (.one (.ptr 0 0))),(5,.is (.one (.ptr 56 0)))] [(72,c5 a mem b),(0,cZ m),(56,mb m)]
def ofB (m:Hbm.aC) (b:Int) (mem:List Int) (a:Nat):St:=ar fF.ntmps 73 [(0,.is (.one (.ptr 72 0))),(3,.is (.one (.ptr 0 0))),(5,.is (.one (.ptr 56 0))),(15,ny a),(16,.is (.agg (mb m)))] [(72,c5 b mem a),(0,cZ m),(56,mb m)]
def Yx (m:Hbm.aC) (a:Int) (mem:List Int) (b:Nat) (q:Value):St:=ar fF.ntmps 73 [(0,.is (.one (.ptr 72 0))),(3,.is (.one (.ptr 0 0))),(5,.is (.one (.ptr 56 0))),(6,.is (.one (.v q)))] [(72,c5 a mem b),(0,cZ m),(56,mb m)]
def OS (p:Nat) (m:Hbm.aC) (q:Value):St:=ar fF.ntmps 73 [(0,aG p),(3,.is (.one (.ptr 0 0))),(5,.is (.one (.ptr 56 0))),(6,.is (.one (.v q)))] [(0,cZ m),(56,mb m)]
abbrev LQ:FuncId->Option Eng.Spec:=aP []
theorem iG:aD Tryz.prog LQ:=bp
section
variable (gl:Nat->Option (Sigma aA)) (w0:World) (M0:Mem) (F0:Nat->Prop)
abbrev oq:Ob.b5:=Ob.kO Tryz.prog LQ gl w0 M0 F0
theorem aiF (p d:Nat) (j:Int) (mem:List Int) (i:List ((Int × Int) × Nat)) (y:AT i) (m:Hbm.aC) (I:la m.bD) (K:la m.bO) {n r:Act->World->Prop} {x:Nat->Act->World->Prop}
  (O:∀ o,((m.bD,m.bO),o)∈i->Ob.aK Tryz.prog ((ak fF).drop 3) (Ob.GH (oq gl w0 M0 F0) fF.ntmps (OS p m (Ob.pt o)) (Ob.ai.obj [c5 j mem d] p (fm d i))) n r x)
  (N:(∀ t∈i,t.1≠(m.bD,m.bO))->Ob.aK Tryz.prog ((ak fF).drop 3) (Ob.GH (oq gl w0 M0 F0) fF.ntmps (OS p m (.pointer none)) (Ob.ai.obj [c5 j mem d] p (fm d i))) n r x) :
  Ob.aK Tryz.prog (ak fF) (Ob.GH (oq gl w0 M0 F0) fF.ntmps (ln fF [aG p,l5 m] [] 0) (Ob.ai.obj [c5 j mem d] p (fm d i))) n r x:=by
 obtain⟨mk,a,g,b,mt,h,f⟩:=m;refine Ob.gcd iG 2 (fun _=>()) (fun _=>ofA p (mk,a,g,b,mt,h,f)) (fun _=>True) ?_ (fun _ _=>?_);intro w ids M num;refine al (X:=((ofA p (mk,a,g,b,mt,h,f)).ag True)) ab ?_;exact ao trivial;refine Ob.jy mixed (rid:=2) (ops:=bo (aq (ak fF) 2)) ab ?_;refine Ob.ql (E:=oq gl w0 M0 F0) [0] ab (aiE (mk,a,g,b,mt,h,f) j mem d) (aw ab ab trivial) ?_;refine Ob.eV iG 5 (fun _=>()) (fun _=>ofB (mk,a,g,b,mt,h,f) j mem d) (fun _=>True) ae ab ?_ (fun _ _=>?_);intro w ids M num;refine al (X:=((ofB (mk,a,g,b,mt,h,f) j mem d).ag True)) ab ?_;exact ao trivial;obtain⟨Q,q⟩:=EC (t:=(mt,b)) I K;refine Ob.pZ (Ob.ft (sv:=fun r:Option (Value × Cell)=>.is (.one (match r with|some p=>p.2|none=>.v (.pointer none)))) (G2:=fun _=>fm d i) (J:=fun r:Option (Value × Cell)=>match r with|some p=>p∈zE i/\p.1=zC (mt,b)|none=>∀ p∈zE i,p.1≠zC (mt,b)) ab ?_) ab ab ?_
 ·rw[show Ob.jo (bo (aq (ak fF) 2)) 5=.lookup 118 (.tmp 15) (.tmp 16) false from by kernel_rfl]
  exact Ob.aei Pu OG (z:=.pointer none) (fun w=>ab) rfl (F8 y) (QN i) q ab (fun P v A=>by
   have A:SV.rel P (.is (.agg (mb (mk,a,g,b,mt,h,f)))) v:=A;obtain⟨l,rfl,R,T,rfl,⟨rfl,_⟩,U,V,rfl,⟨rfl,_⟩,rfl⟩:=A
   rfl)
 rintro (_|⟨k,c⟩) C;refine Ob.g8 iG (fun _=>()) (fun _=>Yx (mk,a,g,b,mt,h,f) j mem d (.pointer none)) (fun _=>True) (Odt ab) ?_ (fun _ _=>?_);intro w ids M num;refine al (X:=((Yx (mk,a,g,b,mt,h,f) j mem d (Value.pointer none)).ag True)) ab ?_;exact ao trivial;exact Ob.kj (E:=oq gl w0 M0 F0) [0,56] [72] rfl ab ab rfl ab 73 (OS p (mk,a,g,b,mt,h,f) (.pointer none)) (aw ab ab trivial) (N fun t s e=>C (zC t.1,.v (Ob.pt t.2)) (mem_map.2 ⟨t,s,rfl⟩) (by rw[e]))
 ·obtain⟨o,u,rfl⟩:∃ o,((mt,b),o)∈i/\c=.v (Ob.pt o):=by
   obtain⟨L,e⟩:=C;obtain⟨t,s,D⟩:=mem_map.1 L;injection D with F G;have H:t.1=(mt,b):=Lt (F.trans e);exact⟨t.2,by rw[<- H];exact s,G.symm⟩
  refine Ob.g8 iG (fun _=>()) (fun _=>Yx (mk,a,g,b,mt,h,f) j mem d (Ob.pt o)) (fun _=>True) (Odt ab) ?_ (fun _ _=>?_);intro w ids M num;refine al (X:=((Yx (mk,a,g,b,mt,h,f) j mem d (Ob.pt o)).ag True)) ab ?_;exact ao trivial;exact Ob.kj (E:=oq gl w0 M0 F0) [0,56] [72] rfl ab ab rfl ab 73 (OS p (mk,a,g,b,mt,h,f) (Ob.pt o)) (aw ab ab trivial) (O o u)
theorem aby:Tryz.prog.underlying 191=some (.pointer 195):=ab
def ofY (a:Nat):St:=ar fF.ntmps 73 [(6,aG a),(18,aG a)] []
def Yz (a:Nat):St:=ar fF.ntmps 73 [(6,aG a)] []
theorem aed (a:Nat) (G:Ob.ai) {Q:SV->Ob.ai->Prop} (b:Q (aG a) G):Ob.aK Tryz.prog ((ak fF).drop 5) (Ob.GH (oq gl w0 M0 F0) fF.ntmps (Yz a) G) (Ob.cP (oq gl w0 M0 F0) fF Q) (Ob.cP (oq gl w0 M0 F0) fF Q) (fun _ _ _=>False):=by refine Ob.g9 iG mixed (aG a) ?_ b;intro w ids M num;refine al (X:=(SV.is (TV.one (Cell.v (Value.pointer (some { block:=a,off:=0 }))))=aG a)) ab ?_;rfl
theorem aiJ (p:Nat) (m:Hbm.aC) (a:Nat) (G:Ob.ai) {Q:SV->Ob.ai->Prop} (b:Q (aG a) G):Ob.aK Tryz.prog ((ak fF).drop 3) (Ob.GH (oq gl w0 M0 F0) fF.ntmps (OS p m (Ob.pt a)) G) (Ob.cP (oq gl w0 M0 F0) fF Q) (Ob.cP (oq gl w0 M0 F0) fF Q) (fun _ _ _=>False):=by obtain⟨mk,c,e,g,mt,f,d⟩:=m;refine Ob.dB 3 (bo (aq (ak fF) 3)) ?_;refine Ob.fD iG 1 (fun _=>()) (fun _=>ofY a) (fun _=>True) ?_ (fun _ _=>?_);intro w ids M num;refine al (X:=((ofY a).ag True)) ab ?_;exact ao trivial;refine Ob.gK (Ob.ft (sv:=fun _:Unit=>.is (.one .F)) (G2:=fun _=>G) (J:=fun _=>True) ab ?_) (fun _ _=>?_);rw[show Ob.jo (bo (aq (ak fF) 3)) 1=.binOp .eql 191 (.tmp 18) (.const (.pointer none)) 191 from by kernel_rfl];exact Ob.xi (p:=a) aby ab ab;refine Ob.dv ?_;refine Ob.SS (aq (ak fF) 4) ?_;refine Ob.gA (Yz a) ?_;exact aed gl w0 M0 F0 a G b
def Yy (p:Nat) (m:Hbm.aC):St:=ar fF.ntmps 73 [(0,aG p),(3,.is (.one (.ptr 0 0))),(5,.is (.one (.ptr 56 0))),(19,.is (.one .T))] [(0,cZ m),(56,mb m)]
theorem aiH (p:Nat) (m:Hbm.aC) (G:Ob.ai) {n r:Act->World->Prop} {x:Nat->Act->World->Prop} (h:Ob.aK Tryz.prog ((ak fF).drop 4) (Ob.GH (oq gl w0 M0 F0) fF.ntmps (Yy p m) G) n r x):Ob.aK Tryz.prog ((ak fF).drop 3) (Ob.GH (oq gl w0 M0 F0) fF.ntmps (OS p m (.pointer none)) G) n r x:=by obtain⟨mk,a,c,e,mt,d,b⟩:=m;refine Ob.gcd iG 1 (fun _=>()) (fun _=>Yy p (mk,a,c,e,mt,d,b)) (fun _=>True) ?_ (fun _ _=>h);intro w ids M num;refine al (X:=((Yy p (mk,a,c,e,mt,d,b)).ag True)) ab ?_;exact ao trivial
abbrev LR:List Code:=fV (aq (ak fF) 4)
def ofG (p:Nat) (m:Hbm.aC) (e r:Nat):St:=ar fF.ntmps 113 [(0,aG p),(3,.is (.one (.ptr 0 0))),(5,.is (.one (.ptr 56 0))),(6,.is (.one (.ptr 97 0)))] [(0,cZ m),(56,mb m),(97,[.F,.F,.F,.v (.map (some e)),.v (.map (some r))])]
def ofH (p:Nat) (m:Hbm.aC) (a:Nat):St:=ar fF.ntmps 113 [(0,aG p),(5,.is (.one (.ptr 56 0))),(6,aG a)] [(56,mb m)]
theorem aiG (p:Nat) (m:Hbm.aC) (G:Ob.ai) {n r:Act->World->Prop} {x:Nat->Act->World->Prop}
  (h:∀ b e c,Ob.aK Tryz.prog (LR.tail++(ak fF).drop 5) (Ob.GH (oq gl w0 M0 F0) fF.ntmps (ofH p m b) (Ob.ai.obj [bY false false false e c] b (Ob.ai.sep (Ob.fP c []) (Ob.ai.sep (Ob.fP e []) G)))) n r x) :
  Ob.aK Tryz.prog ((ak fF).drop 4) (Ob.GH (oq gl w0 M0 F0) fF.ntmps (Yy p m) G) n r x:=by
 obtain⟨mk,a,f,i,mt,g,d⟩:=m;refine Ob.gqT (aq (ak fF) 4) ?_;refine Ob.dB 4 (bo (aq LR 0)) ?_;refine Ob.vB (G':=Ob.ai.sep Ob.ai.none G) (by rw[Ob.wb,Ob.qu]) ?_;refine Ob.gK (Ob.ft (sv:=fun e:Nat=>ny e) (G2:=fun e=>Ob.ai.sep (Ob.fP e []) G) (J:=fun _=>True) ab ?_) (fun e _=>?_);rw[show Ob.jo (bo (aq LR 0)) 0=.makeMap 193 none from by kernel_rfl];exact Ob.EJ G Ob.HY;refine Ob.vB (G':=Ob.ai.sep Ob.ai.none (Ob.ai.sep (Ob.fP e []) G)) (by rw[Ob.wb Ob.ai.none,Ob.qu]) ?_;refine Ob.gK (Ob.ft (sv:=fun r:Nat=>ny r) (G2:=fun r=>Ob.ai.sep (Ob.fP r []) (Ob.ai.sep (Ob.fP e []) G)) (J:=fun _=>True) ab ?_) (fun c _=>?_);rw[show Ob.jo (bo (aq LR 0)) 1=.makeMap 193 none from by kernel_rfl];exact Ob.EJ (Ob.ai.sep (Ob.fP e []) G) Ob.HY;refine Ob.fD iG 5 (fun _=>()) (fun _=>ofG p (mk,a,f,i,mt,g,d) e c) (fun _=>True) ?_ (fun _ _=>?_);intro w ids M num;refine al (X:=((ofG p (mk,a,f,i,mt,g,d) e c).ag True)) ab ?_;exact ao trivial;refine Ob.dv ?_;exact Ob.CY (E:=oq gl w0 M0 F0) 6 [0,56] [97] rfl ab ab ab ab rfl ab (fun b=>ofH p (mk,a,f,i,mt,g,d) b) (fun b=>aw ab ab trivial) (fun b=>h b e c)
def ofI (m:Hbm.aC) (c:Nat) (a:Int) (mem:List Int) (b:Nat):St:=ar fF.ntmps 114 [(0,.is (.one (.ptr 113 0))),(5,.is (.one (.ptr 56 0))),(6,aG c)] [(113,c5 a mem b),(56,mb m)]
def ofJ (m:Hbm.aC) (b:Nat) (c:Int) (mem:List Int) (a:Nat):St:=ar fF.ntmps 114 [(0,.is (.one (.ptr 113 0))),(6,aG b),(27,ny a),(28,.is (.agg (mb m))),(29,aG b)] [(113,c5 c mem a)]
def ofK (c:Nat) (a:Int) (mem:List Int) (b:Nat):St:=ar fF.ntmps 114 [(0,.is (.one (.ptr 113 0))),(6,aG c)] [(113,c5 a mem b)]
abbrev Cb (tp e r:Nat):Ob.ai:=Ob.ai.obj [bY false false false e r] tp (Ob.ai.sep (Ob.fP r []) (Ob.fP e []))
theorem aiI (p b:Nat) (c:Int) (mem:List Int) (d:List ((Int × Int) × Nat)) (y:AT d) (m:Hbm.aC) (C:la m.bD) (D:la m.bO) (j:∀ t∈d,t.1≠(m.bD,m.bO)) (a e i:Nat) {n r:Act->World->Prop} {x:Nat->Act->World->Prop}
  (h:Ob.aK Tryz.prog ((ak fF).drop 5) (Ob.GH (oq gl w0 M0 F0) fF.ntmps (Yz a) (Ob.ai.obj [c5 c mem b] p (Ob.ai.sep (fm b (d++[((m.bD,m.bO),a)])) (Cb a e i)))) n r x) :
  Ob.aK Tryz.prog (LR.tail++(ak fF).drop 5) (Ob.GH (oq gl w0 M0 F0) fF.ntmps (ofH p m a) (Ob.ai.obj [bY false false false e i] a (Ob.ai.sep (Ob.fP i []) (Ob.ai.sep (Ob.fP e []) (Ob.ai.obj [c5 c mem b] p (fm b d)))))) n r x:=by
 obtain⟨mk,f,o,g,mt,s,k⟩:=m;refine Ob.aO (G':=Ob.ai.obj [c5 c mem b] p (Ob.ai.sep (fm b d) (Cb a e i))) ?_ ?_;rw[Ob.bB [bY false false false e i] a (Ob.ai.sep _ (Ob.ai.sep _ _)),Ob.bB [c5 c mem b] p (fm b d),Ob.bB [c5 c mem b] p (Ob.ai.sep _ _),Cb,Ob.bB [bY false false false e i] a (Ob.ai.sep (Ob.fP i []) (Ob.fP e []))];ac_rfl;refine Ob.jy mixed (rid:=5) (ops:=bo (aq LR 1)) ab ?_;refine Ob.ql (E:=oq gl w0 M0 F0) [0] ab (ofI (mk,f,o,g,mt,s,k) a c mem b) (aw ab ab trivial) ?_;refine Ob.eV iG 6 (fun _=>()) (fun _=>ofJ (mk,f,o,g,mt,s,k) a c mem b) (fun _=>True) ae ab ?_ (fun _ _=>?_);intro w ids M num;refine al (X:=((ofJ (mk,f,o,g,mt,s,k) a c mem b).ag True)) ab ?_;exact ao trivial;obtain⟨I,u⟩:=EC (t:=(mt,g)) C D;refine Ob.pZ (Ob.ft (sv:=fun _:Unit=>.undef) (G2:=fun _=>Ob.ai.sep (fm b (d++[((mt,g),a)])) (Cb a e i)) (J:=fun _=>True) ab ?_) ab ab (fun _ _=>?_)
 ·rw[show Ob.jo (bo (aq LR 1)) 6=.mapUpdate 118 (.tmp 27) (.tmp 28) (.tmp 29) from by kernel_rfl];refine Ob.EJ (Cb a e i) (G2:=fun _=>fm b (d++[((mt,g),a)])) ?_;rw[show fm b (d++[((mt,g),a)])=Ob.fP b (zE d++[(zC (mt,g),.v (Ob.pt a))]) from by unfold fm zE;rw[de];rfl]
  exact Ob.TA Pu OG (F8 y) u (fun q F A=>by
   obtain⟨t,G,rfl⟩:=mem_map.1 F;exact j t G (Lt A)) ab (fun H v z=>by
   have z:SV.rel H (.is (.agg (mb (mk,f,o,g,mt,s,k)))) v:=z;obtain⟨l,rfl,K,L,rfl,⟨rfl,_⟩,N,O,rfl,⟨rfl,_⟩,rfl⟩:=z
   rfl) ab rfl
 refine Ob.g8 iG (fun _=>()) (fun _=>ofK a c mem b) (fun _=>True) (Odt ab) ?_ (fun _ _=>?_);intro w ids M num;refine al (X:=((ofK a c mem b).ag True)) ab ?_;exact ao trivial;exact Ob.kj (E:=oq gl w0 M0 F0) [] [113] rfl ab ab rfl ab 114 (Yz a) (aw ab ab trivial) h
end
structure OfIn where
 p:Nat
 mp:Nat
 me:Int
 mem:List Int
 ts:List ((Int × Int) × Nat)
 m:Hbm.aC
theorem afK (gl:Nat->Option (Sigma aA)):Ob.dG Tryz.prog gl 122 (fun z:OfIn=>[aG z.p,l5 z.m]) (fun z=>AT z.ts/\la z.m.bD/\la z.m.bO) (fun z=>Ob.ai.obj [c5 z.me z.mem z.mp] z.p (fm z.mp z.ts)) (fun _ (y:Nat × Option (Nat × Nat))=>aG y.1)
  (fun z y=>match y.2 with|none=>Ob.ai.obj [c5 z.me z.mem z.mp] z.p (fm z.mp z.ts)|some q=>Ob.ai.obj [c5 z.me z.mem z.mp] z.p (Ob.ai.sep (fm z.mp (z.ts++[((z.m.bD,z.m.bO),y.1)])) (Cb y.1 q.1 q.2)))
  (fun z y=>match y.2 with|none=>((z.m.bD,z.m.bO),y.1)∈z.ts|some _=>∀ t∈z.ts,t.1≠(z.m.bD,z.m.bO)):=by
 refine Ob.cA (sp:=LQ) tX ab (fun z=>by show 2<=fF.ntmps;exact Odt ab) (fun z _=>rfl) ?_;rintro⟨p,h,g,mem,i,m⟩ ⟨b,d,f⟩ w M F;refine aiF gl w M F p h g mem i b m d f (fun tp c=>?_) (fun a=>?_);exact aiJ gl w M F p m tp _ ⟨(tp,none),c,Ob.a7 _,rfl⟩;refine aiH gl w M F p m _ (aiG gl w M F p m _ fun tp e r=>?_);refine aiI gl w M F p h g mem i b m d f a tp e r ?_;exact aed gl w M F tp _ ⟨(tp,some (e,r)),a,Ob.a7 _,rfl⟩
end hub
open Go.IntKind(i64 u64 u8)
open Go.IntKind(i64)
theorem Rv (s:ByteArray):(jE s).length=s.size:=by simp only[jE,bU,nh];rfl
theorem T5 (s:ByteArray):Bs (jE s):=by intro x a;simp only[jE,mem_map] at a;obtain⟨b,_,rfl⟩:=a;have:=b.toNat_lt;omega
abbrev aN:Kd:=.pair .fp .fp
namespace g1
theorem Ql:enters Tryz.prog 50 Tryz.f50:=ek
abbrev Cg:HL [.str]->HO [.val .fp]:=fun (s,_)=>((fp.cI (jE s)).1,())
theorem SH:aL Tryz.prog 50 [.str] [.val .fp] bx (fun _=>True) Cg:=by refine a8 (sp:=aP [fp.Mz]) (aJ (aM fp.va) bp) mixed Ql ae ae ?_;rintro w a ⟨s,⟨⟩⟩ _ _;refine al (X:=(0+s.size<=s.size/\fp.s9 ((jE s).take s.size,())/\((fp.cI ((jE s).take s.size)).1,())=Cg (s,()))) ab ?_;rw[bQ (by rw[Rv];exact aE _)];exact⟨aa,T5 s,rfl⟩
def W9:Nat × Eng.Spec:=(50,aH [.str] [.val .fp] (fun _=>True) Cg)
def gx:Fp:=zm 0x17f1d3a73197d7942695638c4fa9ac0fc3688c4f9774b905a14e3a3f171bac586c55e83ff97a1aeffb3af00adb22c6bb
def gy:Fp:=zm 0x08b3f481e3aaa0f1a09e30ed741d8ae4fcf5e095d5d00af600db18cb2c04b3edd03cc744a2888ae40caa232946c5e7e1
theorem ZE:enters Tryz.prog 19 Tryz.f19:=ek
abbrev TB:HL []->HO [.val aN]:=fun _=>((gx,gy),())
theorem acw:aL Tryz.prog 19 [] [.val aN] bx (fun _=>True) TB:=by refine a8 (sp:=aP [W9]) (aJ (aM SH) bp) mixed ZE ae ae ?_;rintro w a ⟨⟩ _ _;exact al (X:=(True/\True/\(((gx,gy),()):(Fp × Fp) × Unit)=TB ())) ab ⟨trivial,trivial,rfl⟩
end g1
namespace codec
theorem Vt:enters Tryz.prog 150 Tryz.f150:=ek
abbrev yG:HL [.bool,.bool]->HO [.val (.int .u8)]:=fun (a,b,_)=>((if a=true then (192:Int) else if b=true then 160 else 128),())
theorem Z6:aL Tryz.prog 150 [.bool,.bool] [.val (.int .u8)] bx (fun _=>True) yG:=by refine a8 (sp:=aP []) bp mixed Vt ae ae ?_;rintro w d ⟨a,b,⟨⟩⟩ _ _;refine al (X:=((a=true->(192,())=yG (a,b,()))/\(a=false->(b=true->(160,())=yG (a,b,()))/\(b=false->(128,())=yG (a,b,()))))) ab ?_;refine⟨fun h=>by subst h;rfl,fun h=>⟨fun c=>by subst h c;rfl,fun c=>by subst h c;rfl⟩⟩
def aeU:Nat × Eng.Spec:=(150,aH [.bool,.bool] [.val (.int .u8)] (fun _=>True) yG)
theorem acf:enters Tryz.prog 108 Tryz.f108:=ek
def AF (p:Fp × Fp):List Int:=(dt 48 p.1.v).set 0 (aF .or .u8 ((dt 48 p.1.v).getD 0 0) (if (decide (p.1=0)&&decide (p.2=0))=true then (192:Int) else if decide ((-p.2).v<p.2.v)=true then 160 else 128))
abbrev Q2:HL [aN]->HO [.val (.arr 48 (.int .u8))]:=fun (p,_)=>(AF p,())
theorem afz:aL Tryz.prog 108 [aN] [.val (.arr 48 (.int .u8))] bx (fun _=>True) Q2:=by refine a8 (sp:=aP [fp.vk,fp.Iq,aeU]) (aJ (aM fp.sF) (aJ (aM fp.KT) (aJ (aM Z6) bp))) mixed acf ae ae ?_;rintro w a ⟨⟨x,y⟩,⟨⟩⟩ _ _;refine al (X:=(True/\True/\True/\0<48/\((AF (x,y),()):List Int × Unit)=Q2 ((x,y),()))) ab ⟨trivial,trivial,trivial,ae,rfl⟩
def aeT:Nat × Eng.Spec:=(108,aH [aN] [.val (.arr 48 (.int .u8))] (fun _=>True) Q2)
end codec
namespace deal
def j8:Int->List Int->Bool
 | _,[]=>true
 | a,x::b=>if x<=a\/x>9 then false else j8 x b
def ahead (a:List Int):Nat->Int
 | 0=>0
 | k+1=>a.getD k 0
theorem TX {a:List Int} {k:Nat} (h:k<a.length):j8 (ahead a k) (a.drop k)=if a.getD k 0<=ahead a k\/a.getD k 0>9 then false else j8 (ahead a (k+1)) (a.drop (k+1)):=by rw[lS h];simp[j8,ahead,h]
theorem Qo:enters Tryz.prog 55 Tryz.f55:=ek
def Ik (a:List Int) (g:Int × Int):St:=ar Tryz.f55.ntmps 40 [(6,.is (.one (.ro (.int .i64) a))),(7,sI .i64 a.length),(3,sI .i64 g.1),(8,sI .i64 g.2)] []
abbrev Cn:HL [.sl (.int .i64)]->Prop:=fun (a,_)=>length a<4611686018427387904
abbrev mY:HL [.sl (.int .i64)]->HO [.val .bool]:=fun (a,_)=>(j8 0 a,())
theorem I1:aL Tryz.prog 55 [.sl (.int .i64)] [.val .bool] bx Cn mY:=by
 have d:aD Tryz.prog (aP []):=bp;refine bI (sp:=aP []) Qo ae ae ab ?_;rintro w o ⟨a,⟨⟩⟩ _ l;have l:length a<4611686018427387904:=l;show Tr _ _ _ _ _ _ _;refine bd d mixed 3 (Ik a (0,0)) True ?_ (fun _=>?_);refine al (X:=(Ik a (0,0)).ag True) ab (ao trivial);refine JH d mixed [] (Ik a) (fun k=>(ahead a k,(k:Int))) (fun k=>j8 0 a=j8 (ahead a k) (a.drop k)) a.length (fun g=>(a.getD g.2.toNat 0,IntKind.i64.wrap (g.2+1))) (Ik a) (c:=aq (ak Tryz.f55) 3) ab ab (aw ab ab trivial) rfl
  (fun k n _ _=>by show (_,_)=(_,_);rw[aS aa];rfl) ?_ ?_
 ·intro k n f
  refine al (X:=((decide ((k:Int)<(a.length:Int))=true->(0<=(k:Int)/\(k:Int)<(a.length:Int))/\(k:Int).toNat<a.length /\
    (decide (a.getD (k:Int).toNat 0<=ahead a k)=true->(false,())=mY (a,())) /\
    (decide (a.getD (k:Int).toNat 0<=ahead a k)=false ->
     (decide (a.getD (k:Int).toNat 0>9)=true->(false,())=mY (a,())) /\
     (decide (a.getD (k:Int).toNat 0>9)=false->(Ik a (a.getD (k:Int).toNat 0,IntKind.i64.wrap ((k:Int)+1))).ag (k<a.length/\j8 0 a=j8 (ahead a (k+1)) (a.drop (k+1)))))) /\
   (decide ((k:Int)<(a.length:Int))=false->(Ik a (ahead a k,(k:Int))).ag (k=a.length)))) ab ?_
  refine⟨fun h=>?_,fun h=>ao (by have:=bW h;omega)⟩;have b:k<a.length:=by have:=dec_lt h;omega
  have e:=TX b;rw[aB];refine⟨⟨aa,aa⟩,b,fun i=>?_,fun i=>⟨fun j=>?_,fun j=>ao ⟨b,?_⟩⟩⟩;rw[aj (.inl (Odt i))] at e;simp[mY,f,e];rw[aj (.inr (Odt j))] at e;simp[mY,f,e];rw[ah (fun m=>m.elim (Odf i) (Odf j))] at e;rw[f,e]
 intro f;refine bE d mixed _ _ ?_;refine al (X:=((true,())=mY (a,()))) ab ?_;rw[show mY (a,())=(j8 0 a,()) from rfl,f,oC];rfl
def MA:Nat × Eng.Spec:=(55,aH [.sl (.int .i64)] [.val .bool] Cn mY)
theorem Sj:enters Tryz.prog 57 Tryz.f57:=ek
def Od (a b:List Int) (i:Int):St:=ar Tryz.f57.ntmps 56 [(0,.is (.one (.ro (.int .i64) a))),(1,.is (.one (.ro (.int .i64) b))),(12,sI .i64 a.length),(13,sI .i64 i)] []
abbrev ET:HL [.sl (.int .i64),.sl (.int .i64)]->Prop:=fun (a,_,_)=>length a<4611686018427387904
abbrev oZ:HL [.sl (.int .i64),.sl (.int .i64)]->HO [.val .bool]:=fun (a,b,_)=>(decide ((a:List Int)=b),())
theorem Uz {a b:List Int} {k:Nat} (d:k<a.length) (e:k<b.length):a.take (k+1)=b.take (k+1)↔a.take k=b.take k/\a.getD k 0=b.getD k 0:=by
 rw[cr d,cr e];constructor;intro h;have:=List.append_inj h (by simp;omega);exact⟨this.1,by simpa[d,e] using this.2⟩
 ·rintro⟨f,g⟩;rw[f];have:a[k]=b[k]:=by simpa[d,e] using g
  rw[this]
theorem VK:aL Tryz.prog 57 [.sl (.int .i64),.sl (.int .i64)] [.val .bool] bx ET oZ:=by
 have g:aD Tryz.prog (aP []):=bp;refine bI (sp:=aP []) Sj ae ae ab ?_;rintro w p ⟨a,b,⟨⟩⟩ _ m;have m:length a<4611686018427387904:=m;show Tr _ _ _ _ _ _ _;refine bd g mixed 4 (Od a b 0) (a.length=b.length) ?_ (fun n=>?_)
 ·refine al (X:=((((a.length:Int) != (b.length:Int))=true->(false,())=oZ (a,b,()))/\(((a.length:Int) != (b.length:Int))=false->(Od a b 0).ag (a.length=b.length)))) ab ?_;refine⟨fun h=>?_,fun h=>ao ?_⟩
  ·have:¬ ((a:List Int)=b):=by intro e;subst e;simp at h
   simp[oZ,this]
  ·have:¬ ((a.length:Int)≠(b.length:Int)):=by simpa using h
   omega
 refine JH g mixed [] (Od a b) (fun k=>(k:Int)) (fun k=>take k a=take k b) a.length (fun i=>IntKind.i64.wrap (i+1)) (Od a b) (c:=aq (ak Tryz.f57) 4) ab ab (aw ab ab trivial) rfl
  (fun k o _ _=>by show IntKind.i64.wrap _=_;rw[aS aa]) ?_ ?_
 ·intro k o j
  refine al (X:=((decide ((k:Int)<(a.length:Int))=true->(0<=(k:Int)/\(k:Int)<(a.length:Int))/\(k:Int).toNat<a.length/\(0<=(k:Int)/\(k:Int)<(b.length:Int))/\(k:Int).toNat<b.length /\
    ((a.getD (k:Int).toNat 0 != b.getD (k:Int).toNat 0)=true->(false,())=oZ (a,b,())) /\
    ((a.getD (k:Int).toNat 0 != b.getD (k:Int).toNat 0)=false->(Od a b (IntKind.i64.wrap ((k:Int)+1))).ag (k<a.length/\take (k+1) a=take (k+1) b))) /\
   (decide ((k:Int)<(a.length:Int))=false->(Od a b (k:Int)).ag (k=a.length)))) ab ?_
  refine⟨fun h=>?_,fun h=>ao (by have:=bW h;omega)⟩;have f:k<a.length:=by have:=dec_lt h;omega
  have d:k<b.length:=aa;rw[aB];refine⟨⟨aa,aa⟩,f,⟨aa,aa⟩,d,fun l=>?_,fun l=>ao ⟨f,(Uz f d).2 ⟨j,?_⟩⟩⟩
  ·have:¬ ((a:List Int)=b):=by intro e;subst e;simp at l
   simp[oZ,this]
  simpa using l
 ·intro j;refine bE g mixed _ _ ?_;refine al (X:=((true,())=oZ (a,b,()))) ab ?_;have:(a:List Int)=b:=by
   rw[aV,bQ aa] at j;exact j
  simp[oZ,this]
def abp:Nat × Eng.Spec:=(57,aH [.sl (.int .i64),.sl (.int .i64)] [.val .bool] ET oZ)
abbrev dU:Kd:=.pair (.sl (.int .i64)) (.pair (.sl (.int .i64)) (.pair (.int .i64) (.sl aN)))
theorem Sl:enters Tryz.prog 56 Tryz.f56:=ek
abbrev EK:HL [dU]->HO [.val .bool]:=fun ((_,_,_,o),_)=>((length o:Int)==0,())
theorem zr:aL Tryz.prog 56 [dU] [.val .bool] bx (fun _=>True) EK:=by refine a8 (sp:=aP []) bp mixed Sl ae ae ?_;rintro w a ⟨⟨d,t,n,o⟩,⟨⟩⟩ _ _;exact al (X:=((((length o:Int)==0,()):Bool × Unit)=EK ((d,t,n,o),()))) ab rfl
def yU:Nat × Eng.Spec:=(56,aH [dU] [.val .bool] (fun _=>True) EK)
def mi (d t:List Int) (n:Int) (o:List (Fp × Fp)):Int :=
 if ((d.length:Int)==0)=true then 1 else if (!j8 0 d)=true then 1 else if ((t.length:Int)==0)=true then 1 else if (!j8 0 t)=true then 1
 else if decide (n<1)=true then 1 else if decide (n>(t.length:Int))=true then 1 else if decide ((o.length:Int)>(d.length:Int))=true then 1
 else if ((o.length:Int)==0)=true then (if (!decide (d=t))=true then 1 else 0) else 0
theorem Sh:enters Tryz.prog 24 Tryz.f24:=ek
abbrev Gw:HL [dU]->Prop:=fun ((d,t,_,_),_)=>length d<4611686018427387904/\length t<4611686018427387904
abbrev jZ:HL [dU]->HO [.val (.int .i64)]:=fun ((d,t,n,o),_)=>(mi d t n o,())
theorem VJ:aL Tryz.prog 24 [dU] [.val (.int .i64)] bx Gw jZ:=by
 refine a8 (sp:=aP [MA,abp,yU]) (aJ (aM I1) (aJ (aM VK) (aJ (aM zr) bp))) mixed Sh ae ae ?_;rintro w m ⟨⟨d,t,n,o⟩,⟨⟩⟩ _ ⟨a,b⟩;have a:length d<4611686018427387904:=a;have b:length t<4611686018427387904:=b;let d:List Int:=d;let t:List Int:=t;let n:Int:=n;let o:List (Fp × Fp):=o
 refine al (X:=((((d.length:Int)==0)=true->((1:Int),())=jZ ((d,t,n,o),())) /\
  (((d.length:Int)==0)=false->Cn (d,())/\((!j8 0 d)=true->((1:Int),())=jZ ((d,t,n,o),())) /\
   ((!j8 0 d)=false->(((t.length:Int)==0)=true->((1:Int),())=jZ ((d,t,n,o),())) /\
    (((t.length:Int)==0)=false->Cn (t,())/\((!j8 0 t)=true->((1:Int),())=jZ ((d,t,n,o),())) /\
     ((!j8 0 t)=false->(decide (n<1)=true->((1:Int),())=jZ ((d,t,n,o),())) /\
      (decide (n<1)=false->(decide (n>(t.length:Int))=true->((1:Int),())=jZ ((d,t,n,o),())) /\
       (decide (n>(t.length:Int))=false->(decide ((o.length:Int)>(d.length:Int))=true->((1:Int),())=jZ ((d,t,n,o),())) /\
        (decide ((o.length:Int)>(d.length:Int))=false->True/\(((o.length:Int)==0)=true->ET (d,t,())/\((!decide (d=t))=true->((1:Int),())=jZ ((d,t,n,o),()))/\((!decide (d=t))=false->((0:Int),())=jZ ((d,t,n,o),()))) /\
         (((o.length:Int)==0)=false->((0:Int),())=jZ ((d,t,n,o),()))))))))))) ab ?_
 refine⟨fun c=>?_,fun c=>⟨a,fun e=>?_,fun e=>⟨fun f=>?_,fun f=>⟨b,fun g=>?_,fun g=>⟨fun h=>?_,fun h=>⟨fun i=>?_,fun i=>⟨fun j=>?_,fun j=>⟨trivial,fun k=>⟨a,fun l=>?_,fun l=>?_⟩,fun k=>?_⟩⟩⟩⟩⟩⟩⟩⟩;all_goals (simp_all [jZ,mi])
 all_goals (rw[ah aa,ah aa,ah aa])
theorem Sp:enters Tryz.prog 156 Tryz.f156:=ek
def Ca (d:List Int) (o:List (Fp × Fp)):Int:=if (!((o.length:Int)==0))=true then o.length else i64.wrap ((d.length:Int)-i64.wrap ((i64.wrap ((d.length:Int)-1)).tdiv 3))
abbrev sV:HL [dU]->HO [.val (.int .i64)]:=fun ((d,_,_,o),_)=>(Ca d o,())
theorem VN:aL Tryz.prog 156 [dU] [.val (.int .i64)] bx (fun _=>True) sV:=by
 refine a8 (sp:=aP [yU]) (aJ (aM zr) bp) mixed Sp ae ae ?_;rintro w a ⟨⟨d,t,n,o⟩,⟨⟩⟩ _ _;let d:List Int:=d;let o:List (Fp × Fp):=o
 refine al (X:=(True/\((!((o.length:Int)==0))=true->((o.length:Int),())=sV ((d,t,n,o),())) /\
  ((!((o.length:Int)==0))=false->(3:Int)≠0/\(i64.wrap ((d.length:Int)-i64.wrap ((i64.wrap ((d.length:Int)-1)).tdiv 3)),())=sV ((d,t,n,o),())))) ab ?_
 refine⟨trivial,fun h=>?_,fun h=>⟨ae,?_⟩⟩;simp only[sV,Ca,h,eA];simp only[sV,Ca,h];rfl
def abt:Nat × Eng.Spec:=(156,aH [dU] [.val (.int .i64)] (fun _=>True) sV)
theorem BK:enters Tryz.prog 65 Tryz.f65:=ek
def PS (a:List (Fp × Fp)) (g:Int × Nat × Nat × List Int):St:=ar Tryz.f65.ntmps 72 [(11,.is (.one (.ro aN a))),(12,sI .i64 a.length),(3,.is (.one (.sl 32 0 0 g.2.1 1))),(13,sI .i64 g.1)] [(32,[.ints .u8 g.2.2.1 g.2.2.2])]
def kf (a:List (Fp × Fp)):List Int:=(a.map codec.AF).flatten
def zc (a:List (Fp × Fp)):Nat->Int × Nat × Nat × List Int
 | 0=>(0,0,(i64.wrap ((a.length:Int)*48)).toNat,replicate (i64.wrap ((a.length:Int)*48)).toNat 0)
 | k+1=>(((k+1:Nat):Int),48*(k+1),48*(k+1),kf (a.take (k+1)))
def wrN (a:List (Fp × Fp)) (g:Int × Nat × Nat × List Int):Int × Nat × Nat × List Int:=(i64.wrap (g.1+1),g.2.1+48,g.2.1+48,g.2.2.2.take g.2.1++(codec.AF (a.getD g.1.toNat (0,0))).take 48)
theorem Oq (p:Fp × Fp):(codec.AF p).length=48:=by simp[codec.AF,gO]
theorem DD (a:List (Fp × Fp)):(kf a).length=48*a.length:=by
 unfold kf;induction a with
 | nil=>rfl
 | cons p a b=>simp only[eI,tE,bb,b,Oq,bG];omega
theorem MY {a:List (Fp × Fp)} {k:Nat} (h:k<a.length):kf (a.take (k+1))=kf (a.take k)++codec.AF (a.getD k (0,0)):=by unfold kf;rw[cr h,de,tA];simp[h]
theorem PR (a:List (Fp × Fp)) (k:Nat):(zc a k).1=(k:Int)/\(zc a k).2.1=48*k/\(zc a k).2.1<=(zc a k).2.2.1:=by
 cases k with
 | zero=>exact⟨rfl,rfl,a2 _⟩
 | succ k=>exact⟨rfl,rfl,aE _⟩
theorem abE {a:List (Fp × Fp)} (d:a.length<=1000000) {k:Nat} (h:k<a.length):wrN a (zc a k)=zc a (k+1):=by
 have b:=bQ (l:=codec.AF (a.getD k (0,0))) (i:=48) (by rw[Oq];exact aE _);cases k with
 | zero =>show (i64.wrap (0+1),0+48,0+48,take 0 _++take 48 (codec.AF (a.getD 0 (0,0))))=(((0+1:Nat):Int),48*(0+1),48*(0+1),kf (a.take (0+1)));rw[b,MY h,show i64.wrap (0+1)=((0+1:Nat):Int) from by decide];rfl
 | succ k =>show (i64.wrap (((k+1:Nat):Int)+1),48*(k+1)+48,48*(k+1)+48,take (48*(k+1)) (kf (a.take (k+1)))++take 48 (codec.AF (a.getD (((k+1:Nat):Int)).toNat (0,0))))=(((k+1+1:Nat):Int),48*(k+1+1),48*(k+1+1),kf (a.take (k+1+1)));rw[aS aa,aB,b,MY h,bQ (by rw[DD];simp;omega)];rfl
abbrev vW:HL [.sl aN]->Prop:=fun (a,_)=>length a<=1000000
abbrev LZ:HL [.sl aN]->HO [.own (.int .u8)]:=fun (a,_)=>(kf a,())
theorem zv:aL Tryz.prog 65 [.sl aN] [.own (.int .u8)] bx vW LZ:=by
 have f:aD Tryz.prog (aP [codec.aeT]):=aJ (aM codec.afz) bp;refine bI (sp:=aP [codec.aeT]) BK ae ae ab ?_;rintro w u ⟨b,⟨⟩⟩ _ l;have l:length b<=1000000:=l;have o:i64.wrap ((length b:Int)*48)=(length b:Int)*48:=ba aa aa;show Tr _ _ _ _ _ _ _;refine bd f mixed 3 (PS b (zc b 0)) True ?_ (fun _=>?_);refine al (X:=(((0:Int)<=0/\(0:Int)<=i64.wrap ((length b:Int)*48)/\(1:Int)*i64.wrap ((length b:Int)*48)<=281474976710656/\i64.wrap ((length b:Int)*48)<=9223372036854775807)/\(PS b (zc b 0)).ag True)) ab ?_;rw[o];exact⟨⟨aa,aa,aa,aa⟩,ao trivial⟩;refine UB f mixed [(160,32)] (PS b) (zc b) (length b) (wrN b) (PS b) (c:=aq (ak Tryz.f65) 3) ab ab (aw ab ab trivial) (fun k r=>abE l r) ?_ ?_
 ·intro k r;obtain⟨p,t,q⟩:=PR b k;generalize zc b k=g at *;obtain⟨i,len,n,j⟩:=g;simp only at p t q;subst p
  refine al (X:=((decide ((k:Int)<(length b:Int))=true->(0<=(k:Int)/\(k:Int)<(length b:Int))/\(k:Int).toNat<length b/\True/\(0+48:Nat)<=48/\len<=n/\(len+48)*1<=140737488355328/\len+48<=4611686018427387904/\(PS b (wrN b ((k:Int),len,n,j))).ag (k<length b)) /\
   (decide ((k:Int)<(length b:Int))=false->(PS b ((k:Int),len,n,j)).ag (k=length b)))) ab ?_
  refine⟨fun h=>?_,fun h=>ao (by have:=bW h;omega)⟩;have m:k<length b:=by have:=dec_lt h;omega
  exact⟨⟨aa,aa⟩,aa,trivial,aa,q,aa,aa,ao m⟩
 have e:=PR b (length b);have d:(zc b (length b)).2.2.2.take (zc b (length b)).2.1=kf b:=by
  cases s:length b with
  | zero=>have:b=[]:=dP s;subst this;rfl
  | succ k =>show take (48*(k+1)) (kf (b.take (k+1)))=_;rw[<- s,aV,bQ (by rw[DD];exact aE _)]
 generalize zc b (length b)=g at *;obtain⟨i,len,n,j⟩:=g;simp only at e d;refine bE f mixed _ _ ?_;refine al (X:=(0+len<=n/\((j.take len,()):List Int × Unit)=LZ (b,()))) ab ⟨aa,?_⟩;rw[d]
end deal
end Go.Proofs.YtofofalgjibokaaGreatDoor
namespace Cr
open Go.IntKind(i64 u64 u8)
open Go.IntKind(i64)
section
variable {M:Int} [Md M]
theorem Wy (a:Zm M):1*a=a:=by rw[xf,zJ]
def zpow (x:Zm M):Nat->Zm M
 | 0=>1
 | n+1=>zpow x n*x
theorem zpow_add (x:Zm M) (m n:Nat):zpow x (m+n)=zpow x m*zpow x n:=by
 induction n with
 | zero=>rw[zpow,zJ];rfl
 | succ n a=>rw[<- tM,zpow,a,zpow,rK]
theorem XJ (x:Zm M) (m:Nat):zpow x m*zpow x m=zpow x (2*m):=by rw[<- zpow_add,Nat.two_mul]
def p5 (x:Zm M):Nat->Zm M
 | 0=>x
 | k+1=>p5 x k*p5 x k
theorem MC (x:Zm M) (m:Nat):∀ k,p5 (zpow x m) k=zpow x (2^k*m):=by
 intro k;induction k with
 | zero=>simp[p5]
 | succ k a=>rw[p5,a,XJ,lz];congr 1;rw[ly (2^k) 2,Nat.mul_assoc]
def mO (x:Zm M) (E:Int):Zm M:=Classical.choose (⟨zpow x E.toNat,rfl⟩:∃ y,y=zpow x E.toNat)
theorem zd (x:Zm M) (E:Int):mO x E=zpow x E.toNat:=Classical.choose_spec (⟨zpow x E.toNat,rfl⟩:∃ y,y=zpow x E.toNat)
end
def gL:Nat->Int
 | 0=>1
 | n+1=>16*gL n
theorem vh (n:Nat):0<gL n:=by
 induction n with
 | zero=>decide
 | succ n a=>simp only[gL];omega
theorem H5 (m n:Nat):gL (m+n)=gL m*gL n:=by
 induction m with
 | zero=>simp[gL]
 | succ m a=>rw[Nat.succ_add];simp only[gL,a,dy]
theorem L1 (n:Nat):gL (16*n)=pw n:=by
 induction n with
 | zero=>rfl
 | succ n a=>rw[wT,oG,H5,a];rfl
theorem aaV {m:Nat} (h:m<=16):∃ c:Int,(18446744073709551616:Int)=c*gL m/\0<c:=by refine⟨gL (16-m),?_,vh _⟩;rw[<- H5,Nat.sub_add_cancel h];rfl
theorem aaW (n:Nat):gL n=(2:Int)^(4*n):=by
 induction n with
 | zero=>rfl
 | succ n a=>rw[gL,a,wT,Int.pow_add];rw[gU];rfl
theorem Vc {n:Nat} {N:Int} {i:Nat} (h:i<16*n):((aT n N).getD (n-1-i/16) 0)/gL (15-i%16)%16=N/gL (16*n-1-i)%16:=by
 rw[vf _ _ _ aa];obtain⟨c,e,f⟩:=aaV (m:=15-i%16+1) aa;have a:gL (16*n-1-i)=pw (n-1-i/16)*gL (15-i%16):=by rw[<- L1,<- H5];congr 1;omega
 rw[a,<- na (eJ (vX _))];generalize N/pw (n-1-i/16)=A;have g:=vh (15-i%16);rw[e,show gL (15-i%16+1)=16*gL (15-i%16) from rfl];generalize gL (15-i%16)=P at *;have b:A%(c*(16*P))=A%(P*(16*c)):=by congr 1;rw[gU c,gU 16 P,dy]
 rw[b];have d:A%(P*(16*c))/P=(A/P)%(16*c):=by rw[tN,tN,dy,<- Int.sub_mul_ediv_left _ _ (show P≠0 by omega),<- na (eJ g)]
 rw[d,A8 _ ⟨c,rfl⟩]
theorem FG {N:Int} (h:0<=N) (k:Nat):(N/gL k).toNat=16*(N/gL (k+1)).toNat+(N/gL k%16).toNat:=by
 have e:N/gL (k+1)=N/gL k/16:=by rw[show gL (k+1)=gL k*16 from by rw[gL,gU],na (eJ (vh k))]
 have a:0<=N/gL k:=wP h (eJ (vh k));rw[e];omega
end Cr
namespace Go.Eng
open Go.IntKind(i64 u64 u8)
open Go.IntKind(i64)
def pj (n i:Int):Int:=IntKind.i64.wrap (n-IntKind.i64.wrap (i.tdiv 16))
def O4 (i:Int):Int:=IntKind.i64.wrap (60-IntKind.i64.wrap (4*i.tmod 16))
def mK (n:Int) (a:List Int) (i:Int):Int:=aF .and .u64 (Int.fdiv (a.getD (pj n i).toNat 0) (2^min (O4 i).toNat IntKind.u64.bits)) 15
theorem UR (n m:Nat) (d:n<18446744073709551616) (c:m<18446744073709551616):aF .and .u64 n m=((n &&& m:Nat):Int):=by
 show IntKind.u64.wrap ((BitVec.ofInt 64 n &&& BitVec.ofInt 64 m:BitVec 64).toNat:Int)=_;have a:(BitVec.ofInt 64 (n:Int)).toNat=n:=by rw[show BitVec.ofInt 64 (n:Int)=BitVec.ofNat 64 n from tz ..,qy,il aa]
 have b:(BitVec.ofInt 64 (m:Int)).toNat=m:=by rw[show BitVec.ofInt 64 (m:Int)=BitVec.ofNat 64 m from tz ..,qy,il aa]
 rw[tG,a,b,xD];have:=Nat.and_le_left (n:=n) (m:=m);omega
theorem abR {a:Int} (b:0<=a) (c:a<18446744073709551616):aF .and .u64 a 15=a%16:=by obtain⟨n,rfl⟩:=jQ b;have:=UR n 15 aa aa;rw[show ((15:Nat):Int)=15 from rfl] at this;rw[this];have h:=AX n 4;rw[show 2^4-1=15 from rfl] at h;rw[h];omega
theorem YE {n k:Nat} (h:k<16*(n+1)) (b:n<1000):pj n k=((n-k/16:Nat):Int):=by unfold pj;rw[ss aa,ba (a:=(k:Int)/16) aa aa,ba aa aa];omega
theorem TL {k:Nat}:O4 k=((4*(15-k%16):Nat):Int):=by unfold O4;rw[m9 aa,ba (a:=4*((k:Int)%16)) aa aa,ba aa aa];omega
theorem Dd {n k:Nat} {N:Int} (h:k<16*(n+1)) (d:n<1000):mK n (aT (n+1) N) k=N/gL (16*(n+1)-1-k)%16:=by
 unfold mK;rw[YE h d,TL];simp only[aB];rw[show IntKind.u64.bits=64 from rfl,iY aa,<- aaW,sr _ (eJ (vh _))];have a:0<=(aT (n+1) N).getD (n-k/16) 0/\(aT (n+1) N).getD (n-k/16) 0<18446744073709551616:=by rw[vf _ _ _ aa];omega
 have e:=vh (15-k%16);have b:=wP a.1 (eJ e);have f:=Int.ediv_le_self (gL (15-k%16)) a.1;rw[abR b aa];have:=Vc (n:=n+1) (N:=N) (i:=k) h;rw[show n+1-1-k/16=n-k/16 by omega] at this;exact this
theorem OZ {n k:Nat} (h:k<16*(n+1)) (a:n<1000):(0<=pj n k/\pj n k<((n+1:Nat):Int))/\(pj n k).toNat<n+1/\0<=O4 k:=by rw[YE h a,TL];exact⟨⟨aa,aa⟩,aa,aa⟩
def eZ {a:Type} (f:Nat->a) (z:a) (k:Nat):List a:=(range 16).map fun j=>if j<=k then f j else z
theorem rh {a:Type} (f:Nat->a) (z d:a) {k j:Nat} (h:j<=k) (b:j<16):(eZ f z k).getD j d=f j:=by simp[eZ,b,h]
theorem CG {a:Type} (f:Nat->a) (z:a) {k:Nat}:(eZ f z k).set (k+1) (f (k+1))=eZ f z (k+1):=by apply mQ;simp[eZ];intro i b d;rw[List.getElem_set];split;rename_i e;subst e;simp[eZ];rename_i e;simp only[eZ,wN,Bc];by_cases h:i<=k;rw[aj h,aj aa];rw[ah h,ah aa]
end Go.Eng
namespace Go.Proofs.YtofofalgjibokaaGreatDoor
namespace fp
open Go.IntKind(i64 u64 u8)
open Go.IntKind(i64)
theorem BF:enters Tryz.prog 172 Tryz.f172:=ek
def s7 (x:Fp) (a:List Int) (g:Int × List Fp):St:=ar Tryz.f172.ntmps 64 [(2,.is (.one (.ptr 0 0))),(3,.is (.one (.ptr 8 0))),(4,.is (.one (.ptr 16 0))),(5,.is (.one (.ptr 24 0))),(11,sI .i64 g.1)] [(0,[.row .fp 1 [x]]),(8,[.ints .u64 6 a]),(16,[.row .fp 1 [(0:Fp)]]),(24,[.row .fp 16 g.2])]
def o1 (a:List Int) (b:List Fp) (g:Int × Fp):St:=ar Tryz.f172.ntmps 96 [(3,.is (.one (.ptr 8 0))),(4,.is (.one (.ptr 16 0))),(5,.is (.one (.ptr 24 0))),(7,.is (.one (.ptr 72 0))),(24,sI .i64 g.1)] [(8,[.ints .u64 6 a]),(16,[.row .fp 1 [(0:Fp)]]),(24,[.row .fp 16 b]),(72,[.row .fp 1 [g.2]])]
def s8 (a:List Int) (b:List Fp) (i:Int) (g:Int × Fp):St:=ar Tryz.f172.ntmps 128 [(3,.is (.one (.ptr 8 0))),(4,.is (.one (.ptr 16 0))),(5,.is (.one (.ptr 24 0))),(7,.is (.one (.ptr 72 0))),(8,sI .i64 i),(24,sI .i64 i),(27,sI .i64 g.1)] [(8,[.ints .u64 6 a]),(16,[.row .fp 1 [(0:Fp)]]),(24,[.row .fp 16 b]),(72,[.row .fp 1 [g.2]])]
def L8 (a:List Int) (b:List Fp) (i:Int) (y:Fp):St:=ar Tryz.f172.ntmps 104 [(3,.is (.one (.ptr 8 0))),(4,.is (.one (.ptr 16 0))),(5,.is (.one (.ptr 24 0))),(7,.is (.one (.ptr 72 0))),(24,sI .i64 i)] [(8,[.ints .u64 6 a]),(16,[.row .fp 1 [(0:Fp)]]),(24,[.row .fp 16 b]),(72,[.row .fp 1 [y]])]
abbrev o6:HL [.fp,(.arr 6 (.int .u64))]->Prop:=fun (_,a,_)=>Ws a
abbrev qp:HL [.fp,(.arr 6 (.int .u64))]->HO [.val .fp]:=fun (x,a,_)=>(mO (x:Fp) (val a),())
theorem zt:aL Tryz.prog 172 [.fp,(.arr 6 (.int .u64))] [.val .fp] bx o6 qp:=by
 have d:aD Tryz.prog (aP [uW,kq,fT]):=aJ (aM BR) (aJ (aM nM) (aJ (aM jw) bp));refine bI (sp:=aP [uW,kq,fT]) BF ae ae ab ?_;rintro w D ⟨x,a,⟨⟩⟩ ⟨_,⟨p,_⟩,_⟩ l;have p:length a=6:=p;have l:Ws a:=l;have s:=eD l;have q:val a<gL 96:=by have:=zb l;rw[p] at this;rw[show 96=16*6 from rfl,L1];exact this
 have f:a=aT 6 (val a):=by have:=sQ l;rw[p] at this;exact this.symm
 show Tr _ _ _ _ _ _ _;refine bd d mixed 4 (s7 x a (0,(replicate 16 (0:Fp)).set 0 1)) True ?_ (fun _=>?_);refine al (X:=True/\(0:Nat)<16/\(s7 x a (0,(replicate 16 (0:Fp)).set 0 1)).ag True) ab ⟨trivial,ae,ao trivial⟩;rw[show (replicate 16 (0:Fp)).set 0 1=eZ (zpow x) 0 0 from rfl];refine fW d mixed (s7 x a) (fun k=>((k:Int),eZ (zpow x) 0 k)) 15 (fun g=>(i64.wrap (g.1+1),g.2.set (i64.wrap (g.1+1)).toNat (g.2.getD g.1.toNat 0*x))) (s7 x a) (c:=aq (ak Tryz.f172) 4) ab ab (aw ab ab trivial)
  (fun k C=>by
   show (_,_)=(_,_)
   rw[aS aa,aB,aB,rh _ _ _ (aE k) aa,show zpow x k*x=zpow x (k+1) from rfl,CG]) ?_ ?_
 ·intro k C
  refine al (X:=((decide ((k:Int)<15)=true->(0<=(k:Int)/\(k:Int)<((16:Nat):Int))/\(k:Int).toNat<16/\True/\(0<=i64.wrap ((k:Int)+1)/\i64.wrap ((k:Int)+1)<((16:Nat):Int))/\(i64.wrap ((k:Int)+1)).toNat<16 /\
    (s7 x a (i64.wrap ((k:Int)+1),(eZ (zpow x) 0 k).set (i64.wrap ((k:Int)+1)).toNat ((eZ (zpow x) 0 k).getD (k:Int).toNat 0*x))).ag (k<15)) /\
   (decide ((k:Int)<15)=false->(s7 x a ((k:Int),eZ (zpow x) 0 k)).ag (k=15)))) ab ?_
  refine⟨fun h=>?_,fun h=>ao (by have:=bW h;omega)⟩;have e:k<15:=by have:=dec_lt h;omega
  rw[aS aa];exact⟨⟨aa,aa⟩,aa,trivial,⟨aa,aa⟩,aa,ao e⟩
 generalize o:eZ (zpow x) 0 15=b;have m:∀ j,j<16->b.getD j 0=zpow x j:=fun j r=>by rw[<- o];exact rh _ _ _ aa r
 clear o;refine bd d mixed 2 (o1 a b (0,1)) True ?_ (fun _=>?_);refine al (X:=True/\(o1 a b (0,1)).ag True) ab ⟨trivial,ao trivial⟩
 rw[show ((0:Int),(1:Fp))=(((0:Nat):Int),zpow x (val a/gL (96-0)).toNat) by
  rw[Nat.sub_zero,A3 s q];rfl]
 refine xA (o1 a b) (fun i=>((i:Int),zpow x (val a/gL (96-i)).toNat)) 96 (fun g=>(i64.wrap (g.1+1),p5 g.2 4*b.getD (mK (5:Nat) a g.1).toNat 0)) (o1 a b) (c:=aq (ak Tryz.f172) 7) ab ab (aw ab ab trivial)
  (fun i t=>by
   show (_,_)=(_,_);rw[aS aa,f,Dd (n:=5) t aa,<- f];rw[m _ aa,MC,<- zpow_add];congr 2;have:=FG s (96-1-i)
   rw[show 96-(i+1)=96-1-i by omega,this,show 96-1-i+1=96-i by omega]) ?_ ?_
 ·intro i t;generalize zpow x (val a/gL (96-i)).toNat=y;refine bd d mixed 2 (L8 a b (i:Int) y) (i<96) ?_ (fun e=>?_);refine al (X:=((decide ((i:Int)<96)=true->(L8 a b (i:Int) y).ag (i<96))/\(decide ((i:Int)<96)=false->(o1 a b ((i:Int),y)).ag (i=96)))) ab ?_;exact⟨fun h=>ao (by have:=dec_lt h;omega),fun h=>ao (by have:=bW h;omega)⟩;refine mf (c:=aq (aZ (aq (ak Tryz.f172) 7)) 2) ab ab ?_;refine bd d mixed 2 (s8 a b (i:Int) (0,y)) True ?_ (fun _=>?_);refine al (X:=(s8 a b (i:Int) (0,y)).ag True) ab (ao trivial);refine fW d mixed (s8 a b (i:Int)) (fun j=>((j:Int),p5 y j)) 4 (fun g=>(i64.wrap (g.1+1),g.2*g.2)) (s8 a b (i:Int)) (c:=aq (da (aq (aZ (aq (ak Tryz.f172) 7)) 2)) 2) ab ab (aw ab ab trivial)
   (fun j r=>by show (_,_)=(_,_);rw[aS aa];rfl) ?_ ?_
  intro j r;refine al (X:=((decide ((j:Int)<4)=true->True/\(s8 a b (i:Int) (i64.wrap ((j:Int)+1),p5 y j*p5 y j)).ag (j<4))/\(decide ((j:Int)<4)=false->(s8 a b (i:Int) ((j:Int),p5 y j)).ag (j=4)))) ab ?_;exact⟨fun h=>⟨trivial,ao (by have:=dec_lt h;omega)⟩,fun h=>ao (by have:=bW h;omega)⟩;refine bd d mixed 1 (o1 a b ((i:Int),p5 y 4*b.getD (mK (5:Nat) a i).toNat 0)) True ?_ (fun _=>?_)
  ·refine al (X:=((16:Int)≠0/\(0<=pj (5:Nat) i/\pj (5:Nat) i<((6:Nat):Int))/\(pj (5:Nat) i).toNat<6/\(16:Int)≠0/\0<=O4 i/\(0<=mK (5:Nat) a i/\mK (5:Nat) a i<((16:Nat):Int))/\(mK (5:Nat) a i).toNat<16/\True/\(o1 a b ((i:Int),p5 y 4*b.getD (mK (5:Nat) a i).toNat 0)).ag True)) ab ?_;obtain⟨u,z,A⟩:=OZ (n:=5) e aa;have b4:0<=mK (5:Nat) a i/\mK (5:Nat) a i<16:=by
    rw[f,Dd (n:=5) e aa];omega
   exact⟨ae,u,z,ae,A,b4,aa,trivial,ao trivial⟩
  refine ke ?_;refine bE d mixed _ _ ?_;refine al (X:=(o1 a b (i64.wrap ((i:Int)+1),p5 y 4*b.getD (mK (5:Nat) a i).toNat 0)).ag (i<96)) ab (ao e)
 refine bE d mixed _ _ ?_;refine al (X:=(zpow x (val a/gL (96-96)).toNat,())=qp (x,a,())) ab ?_;rw[oH,gL,Int.ediv_one,<- zd]
def yV:Nat × Eng.Spec:=(172,aH [.fp,(.arr 6 (.int .u64))] [.val .fp] o6 qp)
theorem HA:enters Tryz.prog 140 Tryz.f140:=ek
def sf (x:Fp):Fp:=mO x 4002409555221667393417789825735904156556882819939007885332058136124031650490837864442687629129015664037894272559785
abbrev vO:HL [.fp]->HO [.val .fp]:=fun (x,_)=>(sf (x:Fp),())
theorem Iz:val [13402431016077863593,2210141511517208575,7435674573564081700,7239337960414712511,5412103778470702295,1873798617647539866]=4002409555221667393417789825735904156556882819939007885332058136124031650490837864442687629129015664037894272559785:=ae
theorem KS:aL Tryz.prog 140 [.fp] [.val .fp] bx (fun _=>True) vO:=by refine a8 (sp:=aP [yV]) (aJ (aM zt) bp) mixed HA ae ae ?_;rintro w b ⟨x,⟨⟩⟩ _ _;refine al (X:=(o6 (x,[13402431016077863593,2210141511517208575,7435674573564081700,7239337960414712511,5412103778470702295,1873798617647539866],())/\(mO x (val [13402431016077863593,2210141511517208575,7435674573564081700,7239337960414712511,5412103778470702295,1873798617647539866]),())=vO (x,()))) ab ?_;refine⟨?_,?_⟩;intro y a;simp at a;rcases a with rfl|rfl|rfl|rfl|rfl|rfl<;>exact⟨ae,ae⟩;rw[Iz];rfl
def Ka:Nat × Eng.Spec:=(140,aH [.fp] [.val .fp] (fun _=>True) vO)
end fp
end Go.Proofs.YtofofalgjibokaaGreatDoor
namespace Cr
open Go.IntKind(i64 u64 u8)
open Go.IntKind(i64)
class Rg (F:Type) extends Add F,Mul F,Neg F,Sub F,Zero F,One F where
 add_comm:∀ a b:F,a+b=b+a
 add_assoc:∀ a b c:F,a+b+c=a+(b+c)
 zero_add:∀ a:F,0+a=a
 neg_add:∀ a:F,-a+a=0
 sub_def:∀ a b:F,a-b=a + -b
 mul_comm:∀ a b:F,a*b=b*a
 mul_assoc:∀ a b c:F,a*b*c=a*(b*c)
 one_mul:∀ a:F,1*a=a
 add_mul:∀ a b c:F,(a+b)*c=a*c+b*c
namespace Rg
section
variable {F:Type} [Rg F]
theorem add_zero (a:F):a+0=a:=by rw[add_comm,zero_add]
theorem add_neg (a:F):a + -a=0:=by rw[add_comm,neg_add]
theorem mul_one (a:F):a*1=a:=by rw[mul_comm,one_mul]
theorem mul_add (a b c:F):a*(b+c)=a*b+a*c:=by rw[mul_comm,add_mul,mul_comm b,mul_comm c]
theorem UP {a b c:F} (h:a+b=a+c):b=c:=by have:=congrArg (fun x => -a+x) h;simpa only[<- add_assoc,neg_add,zero_add] using this
theorem zero_mul (a:F):0*a=0:=by
 have h:0*a+0*a=0*a+0:=by rw[<- add_mul,add_zero,add_zero]
 exact UP h
theorem mul_zero (a:F):a*0=0:=by rw[mul_comm,zero_mul]
theorem neg_eq {a b:F} (h:a+b=0) : -a=b:=by
 have : -a+(a+b)=-a+0:=by rw[h]
 rw[<- add_assoc,neg_add,zero_add,add_zero] at this;exact this.symm
theorem neg_mul (a b:F) : -a*b=-(a*b):=by refine (neg_eq ?_).symm;rw[<- add_mul,add_neg,zero_mul]
theorem mul_neg (a b:F):a * -b=-(a*b):=by rw[mul_comm,neg_mul,mul_comm]
theorem neg_neg (a:F) : - -a=a:=neg_eq (neg_add a)
theorem neg_zero : -(0:F)=0:=neg_eq (zero_add 0)
theorem DX (a b:F) : -(a+b)=-a + -b:=by refine neg_eq ?_;rw[add_assoc,<- add_assoc b,add_comm b,add_assoc (-a),add_neg,add_zero,add_neg]
theorem sub_self (a:F):a-a=0:=by rw[sub_def,add_neg]
theorem c6 {a b:F} (h:a-b=0):a=b:=by rw[sub_def,add_comm] at h;have:=neg_eq h;rw[neg_neg] at this;exact this.symm
theorem eU {a b:F} (h:a=b):a-b=0:=by rw[h,sub_self]
theorem DG (a b c d:F):a+b+(c+d)=a+c+(b+d):=by rw[add_assoc,add_assoc,<- add_assoc b,add_comm b c,add_assoc c]
def nc:Nat->F
 | 0=>0
 | n+1=>nc n+1
theorem vL (m n:Nat):nc (m+n)=(nc m+nc n:F):=by
 induction n with
 | zero=>exact (add_zero _).symm
 | succ n b=>show nc (m+n)+1=nc m+(nc n+1);rw[b,add_assoc]
theorem Gf (m n:Nat):nc (m*n)=(nc m*nc n:F):=by
 induction n with
 | zero=>exact (mul_zero _).symm
 | succ n a=>show nc (m*n+m)=nc m*(nc n+1);rw[vL,a,mul_add,mul_one]
def ic (a:Int):F:=nc a.toNat + -nc (-a).toNat
theorem Yl {a:Int} {x y:Nat} (h:a=(x:Int)-y):ic a=(nc x + -nc y:F):=by
 unfold ic;have e:a.toNat+y=x+(-a).toNat:=aa;have b:(nc a.toNat+nc y:F)=nc x+nc (-a).toNat:=by rw[<- vL,<- vL,e]
 generalize (nc a.toNat:F)=p at *;generalize (nc (-a).toNat:F)=q at *;generalize (nc x:F)=u at *;generalize (nc y:F)=v at *;have:p=u+q + -v:=by rw[<- b,add_assoc,add_neg,add_zero]
 rw[this,add_assoc,add_assoc,add_comm (-v),<- add_assoc q,add_neg,zero_add]
theorem Lj (a:Int):a=(a.toNat:Int)-((-a).toNat:Nat):=aa
theorem adN (a b:Int):ic (a+b)=(ic a+ic b:F):=by rw[Yl (a:=a+b) (x:=a.toNat+b.toNat) (y:=(-a).toNat+(-b).toNat) aa,vL,vL,DX];exact DG _ _ _ _
theorem Ta (a b:Int):ic (a*b)=(ic a*ic b:F):=by
 have h:a*b=((a.toNat*b.toNat+(-a).toNat*(-b).toNat:Nat):Int)-((a.toNat*(-b).toNat+(-a).toNat*b.toNat:Nat):Int):=by
  conv=>lhs;rw[Lj a,Lj b]
  simp only[Int.natCast_add,wO,Int.sub_mul,Int.mul_sub];omega
 rw[Yl h];unfold ic;generalize c:(nc a.toNat:F)=p;generalize d:(nc (-a).toNat:F)=q;generalize e:(nc b.toNat:F)=u;generalize f:(nc (-b).toNat:F)=v;rw[vL,vL,Gf,Gf,Gf,Gf,c,d,e,f,add_mul,mul_add,mul_add,mul_neg,neg_mul,neg_mul,mul_neg,neg_neg,DX];rw[DG (p*u) (q*v),add_comm (q*v)]
theorem Tb:ic 1=(1:F):=by show (0+1:F) + -0=1;rw[zero_add,neg_zero,add_zero]
theorem aaw:ic 0=(0:F):=by show (0:F) + -0=0;rw[zero_add,neg_zero]
theorem FZ:ic (-1)=(-1:F):=by show (0:F) + -(0+1)=-1;rw[zero_add,zero_add]
end
end Rg
inductive PE
 | v (i:Nat)
 | one
 | zero
 | add (a b:PE)
 | mul (a b:PE)
 | sub (a b:PE)
 | neg (a:PE)
instance : Add PE := ⟨.add⟩
instance : Mul PE := ⟨.mul⟩
instance : Sub PE := ⟨.sub⟩
instance : Neg PE := ⟨.neg⟩
instance : One PE := ⟨.one⟩
instance : Zero PE := ⟨.zero⟩
def nth {F:Type} [Zero F]:List F->Nat->F
 | [],_=>0
 | x::_,0=>x
 | _::l,n+1=>nth l n
def PE.ev {F:Type} [Rg F] (l:List F):PE->F
 | .v i=>nth l i
 | .one=>1
 | .zero=>0
 | .add a b=>a.ev l+b.ev l
 | .mul a b=>a.ev l*b.ev l
 | .sub a b=>a.ev l-b.ev l
 | .neg a => -a.ev l
abbrev Mo:=List Nat
abbrev Po:=List (Mo × Int)
def HP (i:Nat):Mo->Mo
 | []=>[i]
 | j::l=>match ble i j with
  | true=>i::j::l
  | false=>j::HP i l
def mulM:Mo->Mo->Mo
 | [],m=>m
 | i::l,m=>HP i (mulM l m)
def Of:Mo->Mo->Bool
 | [],[]=>true
 | i::l,j::m=>match beq i j with
  | true=>Of l m
  | false=>false
 | _,_=>false
def ltM:Mo->Mo->Bool
 | [],[]=>false
 | [],_=>true
 | _,[]=>false
 | i::l,j::m=>match beq i j with
  | true=>ltM l m
  | false=>blt i j
def Bn (m:Mo) (c:Int):Po->Po
 | []=>[(m,c)]
 | t::p=>match Of m t.1 with
  | true=>(m,c+t.2)::p
  | false=>match ltM m t.1 with
   | true=>(m,c)::t::p
   | false=>t::Bn m c p
def Ee:Po->Po->Po
 | [],q=>q
 | t::p,q=>Bn t.1 t.2 (Ee p q)
def LG (m:Mo) (c:Int):Po->Po->Po
 | [],a=>a
 | t::q,a=>Bn (mulM m t.1) (c*t.2) (LG m c q a)
def LF:Po->Po->Po
 | [],_=>[]
 | t::p,q=>LG t.1 t.2 q (LF p q)
def Ms (c:Int):Po->Po
 | []=>[]
 | t::p=>(t.1,c*t.2)::Ms c p
def PE.nf:PE->Po
 | .v i=>[([i],1)]
 | .one=>[([],1)]
 | .zero=>[]
 | .add a b=>Ee a.nf b.nf
 | .mul a b=>LF a.nf b.nf
 | .sub a b=>Ee (Ms (-1) b.nf) a.nf
 | .neg a=>Ms (-1) a.nf
def Ym:Po->Bool
 | []=>true
 | t::p=>match t.2 with
  | .ofNat 0=>Ym p
  | _=>false
open Rg
section
variable {F:Type} [Rg F] (l:List F)
def lC:Mo->F
 | []=>1
 | i::m=>nth l i*lC m
def jh:Po->F
 | []=>0
 | t::p=>ic t.2*lC l t.1+jh p
theorem aaz (i:Nat):∀ m:Mo,lC l (HP i m)=nth l i*lC l m:=by
 intro m;induction m with
 | nil=>rfl
 | cons j m a =>unfold HP;split;rfl;show nth l j*lC l (HP i m)=nth l i*(nth l j*lC l m);rw[a,<- mul_assoc,<- mul_assoc,mul_comm (nth l j)]
theorem aaE:∀ a m:Mo,lC l (mulM a m)=lC l a*lC l m:=by
 intro a;induction a with
 | nil=>intro m;exact (one_mul _).symm
 | cons i a b=>intro m;show lC l (HP i (mulM a m))=nth l i*lC l a*lC l m;rw[aaz,b,mul_assoc]
theorem ach:∀ {a b:Mo},Of a b=true->a=b:=by
 intro a;induction a with
 | nil=>intro b h;cases b with
  | nil=>rfl
  | cons j m=>simp[Of] at h
 | cons i a d=>intro b h;cases b with
  | nil=>simp[Of] at h
  | cons j m =>unfold Of at h;split at h;rename_i c;rw[fa c,d h];cases h
theorem NM (m:Mo) (c:Int):∀ p:Po,jh l (Bn m c p)=ic c*lC l m+jh l p:=by
 intro p;induction p with
 | nil=>rfl
 | cons t p a =>unfold Bn;split;rename_i h;show ic (c+t.2)*lC l m+jh l p=ic c*lC l m+(ic t.2*lC l t.1+jh l p);rw[ach h,adN,add_mul,add_assoc];split;rfl;show ic t.2*lC l t.1+jh l (Bn m c p)=ic c*lC l m+(ic t.2*lC l t.1+jh l p);rw[a,<- add_assoc,<- add_assoc,add_comm (ic t.2*lC l t.1)]
theorem NL:∀ p q:Po,jh l (Ee p q)=jh l p+jh l q:=by
 intro p;induction p with
 | nil=>intro q;exact (zero_add _).symm
 | cons t p a=>intro q;show jh l (Bn t.1 t.2 (Ee p q))=_;rw[NM,a];exact (add_assoc _ _ _).symm
theorem aaG (m:Mo) (c:Int):∀ q a:Po,jh l (LG m c q a)=ic c*lC l m*jh l q+jh l a:=by
 intro q;induction q with
 | nil=>intro a;show jh l a=ic c*lC l m*0+jh l a;rw[mul_zero,zero_add]
 | cons t q b =>intro a;show jh l (Bn (mulM m t.1) (c*t.2) (LG m c q a))=ic c*lC l m*(ic t.2*lC l t.1+jh l q)+jh l a;rw[NM,b,aaE,Ta,mul_add,add_assoc];congr 1;rw[mul_assoc,mul_assoc,<- mul_assoc (ic t.2),mul_comm (ic t.2),mul_assoc (lC l m)]
theorem aaF:∀ p q:Po,jh l (LF p q)=jh l p*jh l q:=by
 intro p;induction p with
 | nil=>intro q;exact (zero_mul _).symm
 | cons t p a=>intro q;show jh l (LG t.1 t.2 q (LF p q))=(ic t.2*lC l t.1+jh l p)*jh l q;rw[aaG,a,add_mul]
theorem T6 (c:Int):∀ p:Po,jh l (Ms c p)=ic c*jh l p:=by
 intro p;induction p with
 | nil=>exact (mul_zero _).symm
 | cons t p a=>show ic (c*t.2)*lC l t.1+jh l (Ms c p)=ic c*(ic t.2*lC l t.1+jh l p);rw[a,Ta,mul_add,mul_assoc]
theorem afJ:∀ e:PE,jh l e.nf=e.ev l:=by
 intro e;induction e with
 | v i=>show ic 1*(nth l i*1)+0=nth l i;rw[Tb,add_zero,one_mul,mul_one]
 | one=>show ic 1*1+0=(1:F);rw[Tb,add_zero,one_mul]
 | zero=>rfl
 | add a b c d=>show jh l (Ee a.nf b.nf)=a.ev l+b.ev l;rw[NL,c,d]
 | mul a b c d=>show jh l (LF a.nf b.nf)=a.ev l*b.ev l;rw[aaF,c,d]
 | sub a b c d=>show jh l (Ee (Ms (-1) b.nf) a.nf)=a.ev l-b.ev l;rw[NL,T6,c,d,FZ,neg_mul,one_mul,sub_def,add_comm]
 | neg a c=>show jh l (Ms (-1) a.nf)=-a.ev l;rw[T6,c,FZ,neg_mul,one_mul]
theorem adR:∀ {p:Po},Ym p=true->jh l p=0:=by
 intro p;induction p with
 | nil=>intro _;rfl
 | cons t p b =>intro h;obtain⟨m,c⟩:=t;unfold Ym at h;split at h;rename_i a;have a:c=0:=a;show ic c*lC l m+jh l p=0;rw[a,aaw,zero_mul,zero_add,b h];cases h
theorem rid (a b:PE) (h:Ym (PE.nf (.sub a b))=true):a.ev l=b.ev l:=by have:=adR l h;rw[afJ] at this;exact c6 this
end
class Fd (F:Type) extends Rg F where
 deq:DecidableEq F
 inv:F->F
 mul_inv:∀ a:F,a≠0->a*inv a=1
 one_ne:(1:F)≠0
 two_ne:(1+1:F)≠0
 three_ne:(1+1+1:F)≠0
attribute [instance_reducible,instance] Fd.deq
namespace Fd
section
variable {F:Type} [Fd F]
theorem mul_eq_zero {a b:F} (h:a*b=0):a=0\/b=0:=by
 by_cases c:a=0;exact .inl c
 ·right;have:inv a*(a*b)=0:=by rw[h,mul_zero]
  rwa [<- mul_assoc,mul_comm (inv a),mul_inv a c,one_mul] at this
theorem oW {a b:F} (c:a≠0) (d:b≠0):a*b≠0:=fun h=>(mul_eq_zero h).elim c d
theorem mul_left {a b c:F} (d:a≠0) (h:a*b=a*c):b=c:=by
 have:inv a*(a*b)=inv a*(a*c):=by rw[h]
 rwa [<- mul_assoc,<- mul_assoc,mul_comm (inv a),mul_inv a d,one_mul,one_mul] at this
theorem yq {a:F} (h:a+a=0):a=0:=by
 have:(1+1)*a=0:=by rw[add_mul,one_mul];exact h
 exact (mul_eq_zero this).resolve_left two_ne
theorem GX {a b:F} (h:a≠b):a-b≠0:=fun e=>h (c6 e)
end
end Fd
open Fd
def On {F:Type} [Rg F] (b x y:F):Prop:=y*y=x*x*x+b
def Ln {F:Type} [Rg F] (a d c e l:F):Prop:=l*(c-a)=e-d/\l*(d+e)=a*a+a*c+c*c
def sx {F:Type} [Rg F] (a c l:F):F:=l*l-a-c
def sy {F:Type} [Rg F] (a d c l:F):F:=-(d+l*(sx a c l-a))
section
variable {F:Type} [Rg F]
theorem B5 {a b p q:F} (c:F) (h:a-b=c*(p-q)) (d:p=q):a=b:=by rw[eU d,mul_zero] at h;exact c6 h
theorem Lv {a b p q d e:F} (c f:F) (h:a-b=c*(p-q)+f*(d-e)) (g:p=q) (i:d=e):a=b:=by rw[eU g,eU i,mul_zero,mul_zero,zero_add] at h;exact c6 h
theorem lc3 {a b p q g i d e:F} (c j f:F) (h:a-b=c*(p-q)+j*(g-i)+f*(d-e)) (k:p=q) (l:g=i) (m:d=e):a=b:=by rw[eU k,eU l,eU m,mul_zero,mul_zero,mul_zero,zero_add,zero_add] at h;exact c6 h
theorem lc4 {a b p q i j e f u v:F} (c k g d:F) (h:a-b=c*(p-q)+k*(i-j)+g*(e-f)+d*(u-v)) (l:p=q) (m:i=j) (n:e=f) (o:u=v):a=b:=by rw[eU l,eU m,eU n,eU o,mul_zero,mul_zero,mul_zero,mul_zero,zero_add,zero_add,zero_add] at h;exact c6 h
end
theorem adH {F:Type} [Rg F] (a d c e l x b:F):(d+l*(x-a))*(d+l*(x-a))-(x*x*x+b)=1*(d*d-(a*a*a+b))+(x-a)*(l*(d+e)-(a*a+a*c+c*c))+(x-a)*l*(l*(c-a)-(e-d))+(x-a)*(x-c)*((l*l-a-c)-x) :=
 rid [a,d,c,e,l,x,b] ((fun (a d c e l x b:PE)=>((d+l*(x-a))*(d+l*(x-a))-(x*x*x+b))) (.v 0) (.v 1) (.v 2) (.v 3) (.v 4) (.v 5) (.v 6)) ((fun (a d c e l x b:PE)=>(1*(d*d-(a*a*a+b))+(x-a)*(l*(d+e)-(a*a+a*c+c*c))+(x-a)*l*(l*(c-a)-(e-d))+(x-a)*(x-c)*((l*l-a-c)-x))) (.v 0) (.v 1) (.v 2) (.v 3) (.v 4) (.v 5) (.v 6)) ab
theorem S9 {F:Type} [Rg F] (a:F):(- a)*(- a)=a*a :=
 rid [a] ((fun (a:PE)=>((- a)*(- a))) (.v 0)) ((fun (a:PE)=>(a*a)) (.v 0)) ab
theorem aav {F:Type} [Rg F] (a d c e l:F):l*(d + - -(d+l*((l*l-a-c)-a)))-(a*a+a*(l*l-a-c)+(l*l-a-c)*(l*l-a-c))=1*(l*(d+e)-(a*a+a*c+c*c))+l*(l*(c-a)-(e-d)) :=
 rid [a,d,c,e,l] ((fun (a d c e l:PE)=>(l*(d + - -(d+l*((l*l-a-c)-a)))-(a*a+a*(l*l-a-c)+(l*l-a-c)*(l*l-a-c)))) (.v 0) (.v 1) (.v 2) (.v 3) (.v 4)) ((fun (a d c e l:PE)=>(1*(l*(d+e)-(a*a+a*c+c*c))+l*(l*(c-a)-(e-d)))) (.v 0) (.v 1) (.v 2) (.v 3) (.v 4)) ab
theorem V8 {F:Type} [Rg F] (a d c l:F):l*((l*l-a-c)-a)=- -(d+l*((l*l-a-c)-a))-d :=
 rid [a,d,c,l] ((fun (a d c l:PE)=>(l*((l*l-a-c)-a))) (.v 0) (.v 1) (.v 2) (.v 3)) ((fun (a d c l:PE)=>(- -(d+l*((l*l-a-c)-a))-d)) (.v 0) (.v 1) (.v 2) (.v 3)) ab
theorem adL {F:Type} [Rg F] (a c l:F):l*l-a-c=l*l-c-a :=
 rid [a,c,l] ((fun (a c l:PE)=>(l*l-a-c)) (.v 0) (.v 1) (.v 2)) ((fun (a c l:PE)=>(l*l-c-a)) (.v 0) (.v 1) (.v 2)) ab
theorem adM {F:Type} [Rg F] (a d c e l:F) : -(d+l*((l*l-a-c)-a)) - -(e+l*((l*l-c-a)-c))=(-1)*(l*(c-a)-(e-d)) :=
 rid [a,d,c,e,l] ((fun (a d c e l:PE)=>(-(d+l*((l*l-a-c)-a)) - -(e+l*((l*l-c-a)-c)))) (.v 0) (.v 1) (.v 2) (.v 3) (.v 4)) ((fun (a d c e l:PE)=>((-1)*(l*(c-a)-(e-d)))) (.v 0) (.v 1) (.v 2) (.v 3) (.v 4)) ab
theorem adJ {F:Type} [Rg F] (a d c e l:F):l*(a-c)-(d-e)=(-1)*(l*(c-a)-(e-d)) :=
 rid [a,d,c,e,l] ((fun (a d c e l:PE)=>(l*(a-c)-(d-e))) (.v 0) (.v 1) (.v 2) (.v 3) (.v 4)) ((fun (a d c e l:PE)=>((-1)*(l*(c-a)-(e-d)))) (.v 0) (.v 1) (.v 2) (.v 3) (.v 4)) ab
theorem adK {F:Type} [Rg F] (a d c e l:F):l*(e+d)-(c*c+c*a+a*a)=1*(l*(d+e)-(a*a+a*c+c*c)) :=
 rid [a,d,c,e,l] ((fun (a d c e l:PE)=>(l*(e+d)-(c*c+c*a+a*a))) (.v 0) (.v 1) (.v 2) (.v 3) (.v 4)) ((fun (a d c e l:PE)=>(1*(l*(d+e)-(a*a+a*c+c*c)))) (.v 0) (.v 1) (.v 2) (.v 3) (.v 4)) ab
theorem aih {F:Type} [Rg F] (x y u v l m:F):(x*x+(u+l*m)*x+(u*u-l*m*u+(l-m)*v)-(l+m)*y)-0=(-1)*(l*(y + -v)-(x*x+x*u+u*u))+(-m)*(l*(u-x)-(-v-y)) :=
 rid [x,y,u,v,l,m] ((fun (x y u v l m:PE)=>((x*x+(u+l*m)*x+(u*u-l*m*u+(l-m)*v)-(l+m)*y)-0)) (.v 0) (.v 1) (.v 2) (.v 3) (.v 4) (.v 5)) ((fun (x y u v l m:PE)=>((-1)*(l*(y + -v)-(x*x+x*u+u*u))+(-m)*(l*(u-x)-(-v-y)))) (.v 0) (.v 1) (.v 2) (.v 3) (.v 4) (.v 5)) ab
theorem aii {F:Type} [Rg F] (x y u v l m:F):(x*x+(u+l*m)*x+(u*u-l*m*u+(l-m)*v)-(l+m)*y)-0=(-1)*(m*(v+y)-(u*u+u*x+x*x))+l*(m*(x-u)-(y-v)) :=
 rid [x,y,u,v,l,m] ((fun (x y u v l m:PE)=>((x*x+(u+l*m)*x+(u*u-l*m*u+(l-m)*v)-(l+m)*y)-0)) (.v 0) (.v 1) (.v 2) (.v 3) (.v 4) (.v 5)) ((fun (x y u v l m:PE)=>((-1)*(m*(v+y)-(u*u+u*x+x*x))+l*(m*(x-u)-(y-v)))) (.v 0) (.v 1) (.v 2) (.v 3) (.v 4) (.v 5)) ab
theorem aat {F:Type} [Rg F] (a d c e l i b:F):(l*(d+e)-(a*a+a*c+c*c))*(c-a)-0=(d+e)*(l*(c-a)-(e-d))+1*(e*e-(c*c*c+b))+(-1)*(d*d-(a*a*a+b)) :=
 rid [a,d,c,e,l,i,b] ((fun (a d c e l i b:PE)=>((l*(d+e)-(a*a+a*c+c*c))*(c-a)-0)) (.v 0) (.v 1) (.v 2) (.v 3) (.v 4) (.v 5) (.v 6)) ((fun (a d c e l i b:PE)=>((d+e)*(l*(c-a)-(e-d))+1*(e*e-(c*c*c+b))+(-1)*(d*d-(a*a*a+b)))) (.v 0) (.v 1) (.v 2) (.v 3) (.v 4) (.v 5) (.v 6)) ab
theorem QF {F:Type} [Rg F] (a b:F):(a-b)*(a+b)=a*a-b*b :=
 rid [a,b] ((fun (a b:PE)=>((a-b)*(a+b))) (.v 0) (.v 1)) ((fun (a b:PE)=>(a*a-b*b)) (.v 0) (.v 1)) ab
theorem i_h {F:Type} [Rg F] (d j g e k h l a f m c i:F):(g-h)*(l*(c-a)-(i-f))=(c*c+d*c+j-g*i)-(a*a+d*a+j-g*f)-(c*c+e*c+k-h*i)+(a*a+e*a+k-h*f)-(c-a)*(((a+m+d)-g*l)-((a+m+e)-h*l)) :=
 rid [d,j,g,e,k,h,l,a,f,m,c,i] ((fun (d j g e k h l a f m c i:PE)=>((g-h)*(l*(c-a)-(i-f)))) (.v 0) (.v 1) (.v 2) (.v 3) (.v 4) (.v 5) (.v 6) (.v 7) (.v 8) (.v 9) (.v 10) (.v 11)) ((fun (d j g e k h l a f m c i:PE)=>((c*c+d*c+j-g*i)-(a*a+d*a+j-g*f)-(c*c+e*c+k-h*i)+(a*a+e*a+k-h*f)-(c-a)*(((a+m+d)-g*l)-((a+m+e)-h*l)))) (.v 0) (.v 1) (.v 2) (.v 3) (.v 4) (.v 5) (.v 6) (.v 7) (.v 8) (.v 9) (.v 10) (.v 11)) ab
theorem aid {F:Type} [Rg F] (a c g l d e:F):a-c=1*((d+e+a)-g*l)+(-1)*((d+e+c)-g*l) :=
 rid [a,c,g,l,d,e] ((fun (a c g l d e:PE)=>(a-c)) (.v 0) (.v 1) (.v 2) (.v 3) (.v 4) (.v 5)) ((fun (a c g l d e:PE)=>(1*((d+e+a)-g*l)+(-1)*((d+e+c)-g*l))) (.v 0) (.v 1) (.v 2) (.v 3) (.v 4) (.v 5)) ab
theorem aic {F:Type} [Rg F] (c e d g a f:F):c-e=1*((a*a+d*a+c-g*f)-0)+(-1)*((a*a+d*a+e-g*f)-0) :=
 rid [c,e,d,g,a,f] ((fun (c e d g a f:PE)=>(c-e)) (.v 0) (.v 1) (.v 2) (.v 3) (.v 4) (.v 5)) ((fun (c e d g a f:PE)=>(1*((a*a+d*a+c-g*f)-0)+(-1)*((a*a+d*a+e-g*f)-0))) (.v 0) (.v 1) (.v 2) (.v 3) (.v 4) (.v 5)) ab
theorem i_g {F:Type} [Rg F] (d e a f c g:F):(c-a)*(c+a+d)=(c*c+d*c+e-0*g)-(a*a+d*a+e-0*f) :=
 rid [d,e,a,f,c,g] ((fun (d e a f c g:PE)=>((c-a)*(c+a+d))) (.v 0) (.v 1) (.v 2) (.v 3) (.v 4) (.v 5)) ((fun (d e a f c g:PE)=>((c*c+d*c+e-0*g)-(a*a+d*a+e-0*f))) (.v 0) (.v 1) (.v 2) (.v 3) (.v 4) (.v 5)) ab
theorem aij {F:Type} [Rg F] (a c d e l:F):e-d=1*((e+c+a)-0)+(-1)*((c+d+a)-0*l) :=
 rid [a,c,d,e,l] ((fun (a c d e l:PE)=>(e-d)) (.v 0) (.v 1) (.v 2) (.v 3) (.v 4)) ((fun (a c d e l:PE)=>(1*((e+c+a)-0)+(-1)*((c+d+a)-0*l))) (.v 0) (.v 1) (.v 2) (.v 3) (.v 4)) ab
theorem i_y {F:Type} [Rg F] (c a g x y t:F):g*(y-t)-0=1*((x*x+c*x+a-g * -y)-0)+(-1)*((x*x+c*x+a-g * -t)-0) :=
 rid [c,a,g,x,y,t] ((fun (c a g x y t:PE)=>(g*(y-t)-0)) (.v 0) (.v 1) (.v 2) (.v 3) (.v 4) (.v 5)) ((fun (c a g x y t:PE)=>(1*((x*x+c*x+a-g * -y)-0)+(-1)*((x*x+c*x+a-g * -t)-0))) (.v 0) (.v 1) (.v 2) (.v 3) (.v 4) (.v 5)) ab
theorem aie {F:Type} [Rg F] (a c l:F):(-l)*(-l)-a-(l*l-a-c)=c :=
 rid [a,c,l] ((fun (a c l:PE)=>((-l)*(-l)-a-(l*l-a-c))) (.v 0) (.v 1) (.v 2)) ((fun (a c l:PE)=>(c)) (.v 0) (.v 1) (.v 2)) ab
theorem aif {F:Type} [Rg F] (a d c e l:F) : -(-d + -l*(c-a))-e=1*(l*(c-a)-(e-d)) :=
 rid [a,d,c,e,l] ((fun (a d c e l:PE)=>(-(-d + -l*(c-a))-e)) (.v 0) (.v 1) (.v 2) (.v 3) (.v 4)) ((fun (a d c e l:PE)=>(1*(l*(c-a)-(e-d)))) (.v 0) (.v 1) (.v 2) (.v 3) (.v 4)) ab
theorem aio {F:Type} [Rg F] (a c u v l:F) : -l*(u-a)-(v - -c)=(-1)*(l*(u-a)-(-v-c)) :=
 rid [a,c,u,v,l] ((fun (a c u v l:PE)=>(-l*(u-a)-(v - -c))) (.v 0) (.v 1) (.v 2) (.v 3) (.v 4)) ((fun (a c u v l:PE)=>((-1)*(l*(u-a)-(-v-c)))) (.v 0) (.v 1) (.v 2) (.v 3) (.v 4)) ab
theorem aip {F:Type} [Rg F] (a c u v l:F) : -l*(-c+v)-(a*a+a*u+u*u)=1*(l*(c + -v)-(a*a+a*u+u*u)) :=
 rid [a,c,u,v,l] ((fun (a c u v l:PE)=>(-l*(-c+v)-(a*a+a*u+u*u))) (.v 0) (.v 1) (.v 2) (.v 3) (.v 4)) ((fun (a c u v l:PE)=>(1*(l*(c + -v)-(a*a+a*u+u*u)))) (.v 0) (.v 1) (.v 2) (.v 3) (.v 4)) ab
theorem aiq {F:Type} [Rg F] (a c d g l f h e:F):(c-a)*((a+c+d)-g*l)-0=1*((c*c+d*c+e-g*h)-0)+(-1)*((a*a+d*a+e-g*f)-0)+(-g)*(l*(c-a)-(h-f)) :=
 rid [a,c,d,g,l,f,h,e] ((fun (a c d g l f h e:PE)=>((c-a)*((a+c+d)-g*l)-0)) (.v 0) (.v 1) (.v 2) (.v 3) (.v 4) (.v 5) (.v 6) (.v 7)) ((fun (a c d g l f h e:PE)=>(1*((c*c+d*c+e-g*h)-0)+(-1)*((a*a+d*a+e-g*f)-0)+(-g)*(l*(c-a)-(h-f)))) (.v 0) (.v 1) (.v 2) (.v 3) (.v 4) (.v 5) (.v 6) (.v 7)) ab
theorem air {F:Type} [Rg F] (x y u v k m l:F):(u-x)*((x+x+(u+k*m))-(k+m)*l)-0=(-l)*(k*(u-x)-(-v-y))+(k-l)*(m*(u-x)-(v-y))+(-1)*(k*(y + -v)-(x*x+x*u+u*u))+1*(l*(y+y)-(x*x+x*x+x*x)) :=
 rid [x,y,u,v,k,m,l] ((fun (x y u v k m l:PE)=>((u-x)*((x+x+(u+k*m))-(k+m)*l)-0)) (.v 0) (.v 1) (.v 2) (.v 3) (.v 4) (.v 5) (.v 6)) ((fun (x y u v k m l:PE)=>((-l)*(k*(u-x)-(-v-y))+(k-l)*(m*(u-x)-(v-y))+(-1)*(k*(y + -v)-(x*x+x*u+u*u))+1*(l*(y+y)-(x*x+x*x+x*x)))) (.v 0) (.v 1) (.v 2) (.v 3) (.v 4) (.v 5) (.v 6)) ab
theorem adI {F:Type} [Rg F] (g a p r:F):g-a-(p+r+p)=g-a-(p+p+r) :=
 rid [g,a,p,r] ((fun (g a p r:PE)=>(g-a-(p+r+p))) (.v 0) (.v 1) (.v 2) (.v 3)) ((fun (g a p r:PE)=>(g-a-(p+p+r))) (.v 0) (.v 1) (.v 2) (.v 3)) ab
theorem aau {F:Type} [Rg F] (g a p q r:F):g-a-(q+r+p)=g-a-(p+q+r) :=
 rid [g,a,p,q,r] ((fun (g a p q r:PE)=>(g-a-(q+r+p))) (.v 0) (.v 1) (.v 2) (.v 3) (.v 4)) ((fun (g a p q r:PE)=>(g-a-(p+q+r))) (.v 0) (.v 1) (.v 2) (.v 3) (.v 4)) ab
theorem aik {F:Type} [Rg F] (a d c e l:F) : -l*(c-a)-(-e - -d)=(-1)*(l*(c-a)-(e-d)) :=
 rid [a,d,c,e,l] ((fun (a d c e l:PE)=>(-l*(c-a)-(-e - -d))) (.v 0) (.v 1) (.v 2) (.v 3) (.v 4)) ((fun (a d c e l:PE)=>((-1)*(l*(c-a)-(e-d)))) (.v 0) (.v 1) (.v 2) (.v 3) (.v 4)) ab
theorem ail {F:Type} [Rg F] (a d c e l:F) : -l*(-d + -e)-(a*a+a*c+c*c)=1*(l*(d+e)-(a*a+a*c+c*c)) :=
 rid [a,d,c,e,l] ((fun (a d c e l:PE)=>(-l*(-d + -e)-(a*a+a*c+c*c))) (.v 0) (.v 1) (.v 2) (.v 3) (.v 4)) ((fun (a d c e l:PE)=>(1*(l*(d+e)-(a*a+a*c+c*c)))) (.v 0) (.v 1) (.v 2) (.v 3) (.v 4)) ab
theorem aim {F:Type} [Rg F] (a c l:F):l*l-a-c=-l * -l-a-c :=
 rid [a,c,l] ((fun (a c l:PE)=>(l*l-a-c)) (.v 0) (.v 1) (.v 2)) ((fun (a c l:PE)=>(-l * -l-a-c)) (.v 0) (.v 1) (.v 2)) ab
theorem ain {F:Type} [Rg F] (a d c l:F) : - -(d+l*((l*l-a-c)-a))=-(-d + -l*((-l * -l-a-c)-a)) :=
 rid [a,d,c,l] ((fun (a d c l:PE)=>(- -(d+l*((l*l-a-c)-a)))) (.v 0) (.v 1) (.v 2) (.v 3)) ((fun (a d c l:PE)=>(-(-d + -l*((-l * -l-a-c)-a)))) (.v 0) (.v 1) (.v 2) (.v 3)) ab
theorem aib {F:Type} [Rg F] (a c l m:F):a+c+((l*l-a-c)+l*m)=(l+m)*l :=
 rid [a,c,l,m] ((fun (a c l m:PE)=>(a+c+((l*l-a-c)+l*m))) (.v 0) (.v 1) (.v 2) (.v 3)) ((fun (a c l m:PE)=>((l+m)*l)) (.v 0) (.v 1) (.v 2) (.v 3)) ab
theorem i_S {F:Type} [Rg F] (a c d l m:F):m*m-(l*l-a-c)-d=(l+m)*(l+m)-(((l*l-a-c)+l*m)+((l*l-a-c)+l*m))-(a+c+d) :=
 rid [a,c,d,l,m] ((fun (a c d l m:PE)=>(m*m-(l*l-a-c)-d)) (.v 0) (.v 1) (.v 2) (.v 3) (.v 4)) ((fun (a c d l m:PE)=>((l+m)*(l+m)-(((l*l-a-c)+l*m)+((l*l-a-c)+l*m))-(a+c+d))) (.v 0) (.v 1) (.v 2) (.v 3) (.v 4)) ab
section
variable {F:Type} [Fd F] {b:F}
theorem abu {a:F} (h:a*a=0):a=0:=(mul_eq_zero h).elim id id
theorem RF {a:F} (h:a+a+a=0):a=0:=by
 have:(1+1+1)*a=0:=by rw[add_mul,add_mul,one_mul];exact h
 exact (mul_eq_zero this).resolve_left three_ne
theorem DT {a:F} (h:a=-a):a=0:=yq (by
 have:=eU h
 rwa [sub_def,neg_neg] at this)
theorem Ln.symm {d g f j l:F} (h:Ln d g f j l):Ln f j d g l:=⟨B5 _ (adJ d g f j l) h.1,B5 _ (adK d g f j l) h.2⟩
theorem yY (a c l:F):sx a c l=sx c a l:=adL a c l
theorem Iu {a d c e l:F} (h:Ln a d c e l):sy a d c l=sy c e a l:=B5 _ (adM a d c e l) h.1
theorem Ln.xx {a d c e l:F} (h:Ln a d c e l):Ln a d (sx a c l) (-sy a d c l) l :=
 ⟨V8 a d c l,Lv _ _ (aav a d c e l) h.2 h.1⟩
theorem Ln.G5 {c d a e l:F} (h:Ln c d a e l):Ln a e (sx c a l) (-sy c d a l) l:=by have t:=h.symm.xx;rw[<- yY c a l,<- Iu h] at t;exact t
theorem Ln.nT {a d c e l:F} (h:Ln a d c e l) (f:On b a d):On b (sx a c l) (sy a d c l):=by unfold On sy;rw[S9];exact lc4 _ _ _ _ (adH a d c e l (sx a c l) b) f h.2 h.1 rfl
theorem Ln.agb {a d c f l x y:F} (h:Ln a d c f l) (g:On b a d) (i:On b x y) (j:y=d+l*(x-a)):x=a\/x=c\/x=sx a c l:=by have e:=adH a d c f l x b;rw[<- j,eU i,eU g,eU h.1,eU h.2,mul_zero,mul_zero,mul_zero,zero_add,zero_add,zero_add] at e;rcases mul_eq_zero e.symm with e|e;rcases mul_eq_zero e with e|e;exact .inl (c6 e);exact .inr (.inl (c6 e));exact .inr (.inr (c6 e).symm)
theorem Ln.not_neg (hb:b≠0) {a c g i l:F} (h:Ln a c g i l) (d:On b a c):¬(a=g/\i=-c):=by rintro⟨rfl,rfl⟩;obtain⟨e,f⟩:=h;rw[sub_self,mul_zero] at e;have k:c=0:=DT (c6 e.symm).symm;subst k;rw[neg_zero,add_zero,mul_zero] at f;have j:a=0:=abu (RF f.symm);subst j;unfold On at d;rw[mul_zero,mul_zero,zero_add] at d;exact hb d.symm
theorem Ln.unique (hb:b≠0) {a c d e l m:F} (h:Ln a c d e l) (k:Ln a c d e m) (i:On b a c):l=m:=by by_cases f:d-a=0;by_cases g:c+e=0;exact absurd ⟨(c6 f).symm,(neg_eq g).symm⟩ (h.not_neg hb i);refine mul_left g ?_;rw[mul_comm _ l,h.2,mul_comm _ m,k.2];refine mul_left f ?_;rw[mul_comm _ l,h.1,mul_comm _ m,k.1]
def J7 (a c d e:F):F:=if a=d then (a*a+a*a+a*a)*inv (c+c) else (e-c)*inv (d-a)
theorem Mv {d c f a:F} (j:On b d c) (k:On b f a) (n:¬(d=f/\a=-c)):Ln d c f a (J7 d c f a):=by
 unfold J7;split
 ·rename_i g;subst g;have e:(a-c)*(a+c)=0:=by
   have:(a-c)*(a+c)=a*a-c*c:=QF a c;rw[this,j,k,sub_self]
  rcases mul_eq_zero e with e|e;have e:=c6 e;subst e;have o:a+a≠0:=fun h=>n ⟨rfl,(neg_eq h).symm⟩;refine⟨by rw[sub_self,sub_self,mul_zero],?_⟩;rw[mul_assoc,mul_comm (inv _),mul_inv _ o,mul_one];exact absurd ⟨rfl,(neg_eq (by rw[add_comm];exact e)).symm⟩ n
 ·rename_i g;have m:f-d≠0:=GX (fun e=>g e.symm);have i:(a-c)*inv (f-d)*(f-d)=a-c:=by rw[mul_assoc,mul_comm (inv _),mul_inv _ m,mul_one]
  refine⟨i,?_⟩;generalize (a-c)*inv (f-d)=l at *;have:=lc3 _ _ _ (aat d c f a l 0 b) i k j;exact c6 ((mul_eq_zero this).resolve_right m)
def fn (u v l m x y:F):F:=x*x+(u+l*m)*x+(u*u-l*m*u+(l-m)*v)-(l+m)*y
theorem Sz {u v l m x y:F} (h:Ln x y u (-v) l):fn u v l m x y=0:=Lv _ _ (aih x y u v l m) h.2 h.1
theorem SA {u v l m x y:F} (h:Ln u v x y m):fn u v l m x y=0:=Lv _ _ (aii x y u v l m) h.2 h.1
theorem same {d i g f j h l a n o c p:F} (k:a*a+d*a+i-g*n=0) (q:c*c+d*c+i-g*p=0) (m:a*a+f*a+j-h*n=0) (r:c*c+f*c+j-h*p=0)
  (u:a+o+d=g*l) (w:a+o+f=h*l) (t:p≠n+l*(c-a)):d=f/\i=j/\g=h:=by
 have e:=i_h d i g f j h l a n o c p;rw[k,q,m,r,eU u,eU w,sub_self,sub_self,add_zero,mul_zero,sub_self] at e;have y:g=h:=by rcases mul_eq_zero e with e|e;exact c6 e;exfalso;have:=c6 e;exact t (by rw[this,sub_def,add_comm,add_assoc,neg_add,add_zero])
 subst y;have x:=Lv _ _ (aid d f g l a o) u w;subst x;exact⟨rfl,Lv _ _ (aic i j d g a n) k m,rfl⟩
theorem ahS {d f g l a k j c m:F} (h:a*a+d*a+f-g*k=0) (i:c*c+d*c+f-g*m=0) (n:a+j+d=g*l) (o:c≠a) (p:c≠j):g≠0:=by intro q;subst q;have e:=i_g d f a k c m;rw[h,i,sub_self] at e;rcases mul_eq_zero e with e|e;exact o (c6 e);exact p (Lv _ _ (aij d a j c l) e n)
theorem main {a f c O d k l m u v l' m' s t:F} (hb:b≠0) (G:On b a f) (N:On b d k) (p:Ln a f c O l) (r:Ln (sx a c l) (sy a f c l) d k m)
  (H:a+c+(u+l'*m')=(l'+m')*l) (n:fn u v l' m' a f=0) (o:fn u v l' m' d k=0) (h:fn u v l' m' s (-t)=0)
  (L:s=(l'+m')*(l'+m')-((u+l'*m')+(u+l'*m'))-(a+c+d)) (A:d≠a) (C:d≠c) :
  sx (sx a c l) d m=s/\sy (sx a c l) (sy a f c l) d m=t:=by
 have i:fn (sx a c l) (sy a f c l) l m a f=0:=Sz p.xx;have j:fn (sx a c l) (sy a f c l) l m d k=0:=SA r;have g:fn (sx a c l) (sy a f c l) l m (sx (sx a c l) d m) (-sy (sx a c l) (sy a f c l) d m)=0:=SA r.xx;have x:a+c+(sx a c l+l*m)=(l+m)*l:=aib a c l m;have w:k≠f+l*(d-a):=by intro E;rcases p.agb G N E with e|e|e;exact A e;exact C e;refine r.not_neg hb (p.nT G) ⟨e.symm,?_⟩;unfold sy;rw[neg_neg,<- e];exact E
 have K:=ahS i j x A C;obtain⟨y,I,z⟩:=same i j n o x H w;have D:sx (sx a c l) d m=s:=by rw[L,<- y,<- z];exact i_S a c d l m
 refine⟨D,?_⟩;rw[D] at g;unfold fn at g h;rw[<- y,<- I,<- z] at h;have:=Lv _ _ (i_y _ _ _ s _ t) g h;exact c6 ((mul_eq_zero this).resolve_left K)
abbrev O2:F × F:=(0,0)
def dD (P:F × F):F × F:=(P.1,-P.2)
def cc (P Q:F × F):F × F :=
 if P=O2 then Q else if Q=O2 then P else if P.1=Q.1/\Q.2=-P.2 then O2 else (sx P.1 Q.1 (J7 P.1 P.2 Q.1 Q.2),sy P.1 P.2 Q.1 (J7 P.1 P.2 Q.1 Q.2))
def gP (b:F) (P:F × F):Prop:=P=O2\/On b P.1 P.2
abbrev yc (P Q:F × F) (l:F):Prop:=Ln P.1 P.2 Q.1 Q.2 l
abbrev tu (b:F) (P:F × F):Prop:=On b P.1 P.2
variable (hb:b≠0)
include hb
theorem QV {P:F × F} (h:tu b P):P≠O2:=by rintro rfl;have h:(0:F)*0=0*0*0+b:=h;rw[mul_zero,mul_zero,zero_add] at h;exact hb h.symm
omit hb in
theorem rS:dD (O2:F × F)=O2:=by show ((0:F),-(0:F))=_;rw[neg_zero]
omit hb in
theorem mZ (P:F × F):dD (dD P)=P:=by show (P.1,- -P.2)=P;rw[neg_neg]
omit hb in
theorem De {P:F × F} (h:tu b P):tu b (dD P):=by have h:P.2*P.2=P.1*P.1*P.1+b:=h;show -P.2 * -P.2=P.1*P.1*P.1+b;rw[S9,h]
omit hb in
theorem l6 {P:F × F} (h:gP b P):gP b (dD P):=by rcases h with rfl|h;exact .inl rS;exact .inr (De h)
theorem eL {P Q:F × F} {l:F} (a:tu b P) (d:tu b Q) (h:yc P Q l):cc P Q=(sx P.1 Q.1 l,sy P.1 P.2 Q.1 l):=by unfold cc;have c:=h.not_neg hb a;rw[ah (QV hb a),ah (QV hb d),ah c,(Mv a d c).unique hb h a]
omit hb in
theorem jF (Q:F × F):cc O2 Q=Q:=by unfold cc;rw[aj rfl]
omit hb in
theorem mq (P:F × F):cc P O2=P:=by unfold cc;split;rename_i h;exact h.symm;rw[aj rfl]
omit hb in
theorem rI {P Q:F × F} (a:tu b P) (c:tu b Q):Q=dD P\/∃ l,yc P Q l:=by by_cases h:P.1=Q.1/\Q.2=-P.2;left;exact gu h.1.symm h.2;exact .inr ⟨_,Mv a c h⟩
omit hb in
theorem dZ (P:F × F):cc P (dD P)=O2:=by unfold cc;split;rename_i h;rw[h];exact rS;split;rename_i a c;have:=congrArg dD c;rw[mZ,rS] at this;exact absurd this a;rw[aj ⟨rfl,rfl⟩]
omit hb in
theorem kM (P:F × F):cc (dD P) P=O2:=by
 have:=dZ (dD P)
 rwa [mZ] at this
theorem yI {P Q:F × F} (oP:gP b P) (oQ:gP b Q):gP b (cc P Q):=by rcases oP with rfl|oP;rw[jF];exact oQ;rcases oQ with rfl|oQ;rw[mq];exact .inr oP;rcases rI oP oQ with rfl|⟨l,h⟩;rw[dZ];exact .inl rfl;rw[eL hb oP oQ h];exact .inr (h.nT oP)
theorem kC {P Q:F × F} (oP:gP b P) (oQ:gP b Q):cc P Q=cc Q P:=by rcases oP with rfl|oP;rw[jF,mq];rcases oQ with rfl|oQ;rw[jF,mq];rcases rI oP oQ with rfl|⟨l,h⟩;rw[dZ,kM];rw[eL hb oP oQ h,eL hb oQ oP h.symm,yY,Iu h]
theorem cancel {P Q:F × F} (oP:gP b P) (oQ:gP b Q):cc (dD P) (cc P Q)=Q:=by rcases oP with rfl|oP;rw[rS,jF,jF];rcases oQ with rfl|oQ;rw[mq,kM];rcases rI oP oQ with rfl|⟨l,h⟩;rw[dZ,mq];rw[eL hb oP oQ h];have d:=h.xx;have e:yc (dD P) (sx P.1 Q.1 l,sy P.1 P.2 Q.1 l) (-l):=⟨B5 _ (aio P.1 P.2 _ _ l) d.1,B5 _ (aip P.1 P.2 _ _ l) d.2⟩;rw[eL hb (De oP) (h.nT oP) e];have a:sx P.1 (sx P.1 Q.1 l) (-l)=Q.1:=aie P.1 Q.1 l;refine gu a ?_;show -(-P.2 + -l*(sx P.1 (sx P.1 Q.1 l) (-l)-P.1))=Q.2;rw[a];exact B5 _ (aif P.1 P.2 Q.1 Q.2 l) h.1
theorem IL {P R:F × F} (c:tu b P) (f:tu b R) (k:R.1≠P.1) {l m l' m':F} (g:yc P P l) (o:yc (sx P.1 P.1 l,sy P.1 P.2 P.1 l) R m) (a:yc P R l') (d:yc P (sx P.1 R.1 l',sy P.1 P.2 R.1 l') m') :
  cc (cc P P) R=cc P (cc P R):=by
 rw[eL hb c c g,eL hb c f a,eL hb (g.nT c) f o,eL hb c (a.nT c) d];have r:sx P.1 R.1 l'≠P.1:=by
  intro e;have w:=d.not_neg hb c;have j:On b (sx P.1 R.1 l') (sy P.1 P.2 R.1 l'):=a.nT c;have i:sy P.1 P.2 R.1 l'=P.2:=by
   have:(sy P.1 P.2 R.1 l'-P.2)*(sy P.1 P.2 R.1 l'+P.2)=0:=by have j:sy P.1 P.2 R.1 l'*sy P.1 P.2 R.1 l'=_:=j;have c:P.2*P.2=P.1*P.1*P.1+b:=c;rw[QF,j,c,e,sub_self]
   rcases mul_eq_zero this with h|h;exact c6 h;exact absurd ⟨e.symm,(neg_eq (by rw[add_comm];exact h)).symm⟩ w
  have n:=cancel hb (.inr c) (.inr f);rw[eL hb c f a,e,i] at n;have:cc (dD P) P=R:=n;rw[kM] at this;exact QV hb f this.symm
 have p:P.1+P.1+(sx P.1 R.1 l'+l'*m')=(l'+m')*l:=by have e:=lc4 _ _ _ _ (air P.1 P.2 (sx P.1 R.1 l') (sy P.1 P.2 R.1 l') l' m' l) a.xx.1 d.1 a.xx.2 g.2;exact c6 ((mul_eq_zero e).resolve_left (GX r))
 obtain⟨q,i⟩:=main (u:=sx P.1 R.1 l') (v:=sy P.1 P.2 R.1 l') (l':=l') (m':=m') (s:=sx P.1 (sx P.1 R.1 l') m') (t:=sy P.1 P.2 (sx P.1 R.1 l') m') hb c f g o p (Sz a.xx)
  (Sz a.G5)
  (SA d.G5) ((yY _ _ _).trans ((i_S P.1 R.1 P.1 l' m').trans (adI _ _ _ _))) k k
 exact gu q i
theorem M9 {P Q R:F × F} (g:tu b P) (i:tu b Q) (j:tu b R) (q:Q.1≠P.1) (r:R.1≠P.1) (w:R.1≠Q.1) {l m l' m':F} (f:yc P Q l) (k:yc (sx P.1 Q.1 l,sy P.1 P.2 Q.1 l) R m) (a:yc Q R l') (c:yc P (sx Q.1 R.1 l',sy Q.1 Q.2 R.1 l') m') :
  cc (cc P Q) R=cc P (cc Q R):=by
 rw[eL hb g i f,eL hb i j a,eL hb (f.nT g) j k,eL hb g (a.nT i) c];have d:fn (sx Q.1 R.1 l') (sy Q.1 Q.2 R.1 l') l' m' P.1 P.2=0:=SA c.symm;have h:fn (sx Q.1 R.1 l') (sy Q.1 Q.2 R.1 l') l' m' Q.1 Q.2=0:=Sz a.xx;have n:P.1+Q.1+(sx Q.1 R.1 l'+l'*m')=(l'+m')*l:=by have e:=lc3 _ _ _ (aiq P.1 Q.1 (sx Q.1 R.1 l'+l'*m') (l'+m') l P.2 Q.2 _) h d f.1;exact c6 ((mul_eq_zero e).resolve_left (GX q))
 obtain⟨o,p⟩:=main (u:=sx Q.1 R.1 l') (v:=sy Q.1 Q.2 R.1 l') (l':=l') (m':=m') (s:=sx P.1 (sx Q.1 R.1 l') m') (t:=sy P.1 P.2 (sx Q.1 R.1 l') m') hb g j f k n d
  (Sz a.G5)
  (SA c.G5) ((yY _ _ _).trans ((i_S Q.1 R.1 P.1 l' m').trans (aau _ _ _ _ _))) r w
 exact gu o p
theorem L7 {P Q:F × F} (oP:gP b P) (oQ:gP b Q):dD (cc P Q)=cc (dD P) (dD Q):=by rcases oP with rfl|oP;rw[jF,rS,jF];rcases oQ with rfl|oQ;rw[mq,rS,mq];rcases rI oP oQ with rfl|⟨l,h⟩;rw[dZ,mZ,kM,rS];have a:yc (dD P) (dD Q) (-l):=⟨B5 _ (aik P.1 P.2 Q.1 Q.2 l) h.1,B5 _ (ail P.1 P.2 Q.1 Q.2 l) h.2⟩;rw[eL hb oP oQ h,eL hb (De oP) (De oQ) a];exact gu (aim P.1 Q.1 l) (ain P.1 P.2 Q.1 l)
theorem NW {P Q:F × F} (c:gP b P) (a:gP b Q):cc (cc P Q) (dD Q)=P:=by rw[kC hb (yI hb c a) (l6 a),kC hb c a,cancel hb a c]
theorem Xy {P Q R:F × F} (a:gP b P) (c:gP b Q) (h:R=dD (cc P Q)):cc Q R=dD P:=by
 rw[h,L7 hb a c,kC hb (l6 a) (l6 c)];have:=cancel hb (l6 c) (l6 a)
 rwa [mZ] at this
omit hb in
theorem XH {P Q:F × F} (g:tu b P) (i:tu b Q) (d:Q≠P) (f:Q≠dD P):Q.1≠P.1:=by
 intro e;have a:P.2*P.2=P.1*P.1*P.1+b:=g;have c:Q.2*Q.2=Q.1*Q.1*Q.1+b:=i;have:(Q.2-P.2)*(Q.2+P.2)=0:=by rw[QF,a,c,e,sub_self]
 rcases mul_eq_zero this with h|h;exact d (gu e (c6 h));exact f (gu e (neg_eq (by rw[add_comm];exact h)).symm)
theorem Gr {P Q R:F × F} (oP:gP b P) (oQ:gP b Q) (oR:gP b R):cc (cc P Q) R=cc P (cc Q R):=by
 have g:=yI hb oP oQ;have p:=yI hb oQ oR;by_cases h:Q=dD P
 ·have:cc P (cc (dD P) R)=R:=by
   have:=cancel hb (l6 oP) oR
   rwa [mZ] at this
  rw[h,dZ,jF,this]
 by_cases i:R=dD Q;rw[i,dZ,mq,NW hb oP oQ];by_cases q:R=P;rw[q,kC hb g oP,kC hb oP oQ];by_cases r:R=dD P
 ·have e:cc P (cc Q (dD P))=Q:=by
   rw[kC hb oQ (l6 oP)];have:=cancel hb (l6 oP) oQ
   rwa [mZ] at this
  rw[r,e,kC hb oP oQ,NW hb oQ oP]
 by_cases j:R=dD (cc P Q);rw[Xy hb oP oQ j,dZ];rw[j,dZ];by_cases n:cc Q R=dD P
 ·rw[n,dZ];have x:P=dD (cc Q R):=by rw[n,mZ]
  have y:=Xy hb oQ oR x;have z:cc R P=dD Q:=y;have A:Q=dD (cc R P):=by rw[z,mZ]
  have C:=Xy hb oR oP A;rw[C,kM]
 rcases oP with rfl|oP;rw[jF,jF];rcases oQ with rfl|oQ;rw[jF,mq];rcases oR with rfl|oR;rw[mq,mq];obtain⟨l,f⟩:=(rI oP oQ).resolve_left h;obtain⟨H,a⟩:=(rI oQ oR).resolve_left i;have u:=eL hb oP oQ f;have w:=eL hb oQ oR a;have E:tu b (cc P Q):=by rw[u];exact f.nT oP
 have G:tu b (cc Q R):=by rw[w];exact a.nT oQ
 obtain⟨m,d⟩:=(rI E oR).resolve_left j;obtain⟨m',c⟩:=(rI oP G).resolve_left n;rw[u] at d;rw[w] at c;have o:R.1≠P.1:=XH oP oR q r;by_cases s:Q=P;subst s;exact IL hb oP oR o f d a c;by_cases t:R=Q;subst t;have k:=f.symm;rw[kC hb g (.inr oR),kC hb (.inr oP) (.inr oR),kC hb (.inr oP) p];have D:P.1≠R.1:=fun e=>o e.symm;refine (IL hb oR oP D (m:=m') (m':=m) a c.symm k ?_).symm;have d:=d.symm;rw[yY P.1,Iu f] at d;exact d;exact M9 hb oP oQ oR (XH oP oQ s h) o (XH oQ oR t i) f d a c
end
section
variable {F:Type} [Fd F]
abbrev Jc (F:Type):=F × F × F
abbrev J0:Jc F:=(0,0,0)
def jm (p:F × F):Jc F:=if p=O2 then J0 else (p.1,p.2,1)
def iU (a:Jc F):F × F:=if a.2.2=0 then O2 else (a.1*(inv a.2.2*inv a.2.2),a.2.1*(inv a.2.2*inv a.2.2)*inv a.2.2)
def Tf (x y:F):F:=(x*x+x*x+x*x)*(x*x+x*x+x*x)-(x*(y*y)+x*(y*y)+(x*(y*y)+x*(y*y)))-(x*(y*y)+x*(y*y)+(x*(y*y)+x*(y*y)))
def QM (a:Jc F):Jc F :=
 (Tf a.1 a.2.1,
  (a.1*a.1+a.1*a.1+a.1*a.1)*(a.1*(a.2.1*a.2.1)+a.1*(a.2.1*a.2.1)+(a.1*(a.2.1*a.2.1)+a.1*(a.2.1*a.2.1))-Tf a.1 a.2.1)-(a.2.1*a.2.1+a.2.1*a.2.1)*(a.2.1*a.2.1+a.2.1*a.2.1)-(a.2.1*a.2.1+a.2.1*a.2.1)*(a.2.1*a.2.1+a.2.1*a.2.1),
  a.2.1*a.2.2+a.2.1*a.2.2)
def rD (a:Jc F):Jc F:=if a.2.2=0 then J0 else QM a
def OC (a c left:F):F:=c*c-a*a*a-left*(a*a)-left*(a*a)
def Wc (a c left d e f:F):Jc F :=
 (OC a c left,c*(left*(a*a)-OC a c left)-d*(a*a*a),e*f*a)
def nu (a b:Jc F):Jc F:=if a.2.2=0 then b else if b.2.2=0 then a else
 if b.1*(a.2.2*a.2.2)-a.1*(b.2.2*b.2.2)=0 then
  (if b.2.1*(a.2.2*a.2.2)*a.2.2-a.2.1*(b.2.2*b.2.2)*b.2.2=0 then rD a else J0)
 else Wc (b.1*(a.2.2*a.2.2)-a.1*(b.2.2*b.2.2)) (b.2.1*(a.2.2*a.2.2)*a.2.2-a.2.1*(b.2.2*b.2.2)*b.2.2) (a.1*(b.2.2*b.2.2)) (a.2.1*(b.2.2*b.2.2)*b.2.2) a.2.2 b.2.2
end
theorem OB {F:Type} [Rg F] (X Y z l:F):(X*(z*z)*(X*(z*z))+X*(z*z)*(X*(z*z))+X*(z*z)*(X*(z*z)))-l*(Y*(z*(z*z))*z+Y*(z*(z*z))*z)=(-(z*z*z*z))*(l*(Y+Y)-(X*X+X*X+X*X)) :=
 rid [X,Y,z,l] ((fun (X Y z l:PE)=>((X*(z*z)*(X*(z*z))+X*(z*z)*(X*(z*z))+X*(z*z)*(X*(z*z)))-l*(Y*(z*(z*z))*z+Y*(z*(z*z))*z))) (.v 0) (.v 1) (.v 2) (.v 3)) ((fun (X Y z l:PE)=>((-(z*z*z*z))*(l*(Y+Y)-(X*X+X*X+X*X)))) (.v 0) (.v 1) (.v 2) (.v 3)) ab
theorem Yo {F:Type} [Rg F] (X Y z:F):X*(z*z)*(Y*(z*(z*z))*(Y*(z*(z*z))))+X*(z*z)*(Y*(z*(z*z))*(Y*(z*(z*z))))+(X*(z*z)*(Y*(z*(z*z))*(Y*(z*(z*z))))+X*(z*z)*(Y*(z*(z*z))*(Y*(z*(z*z)))))=X*((Y*(z*(z*z))*z+Y*(z*(z*z))*z)*(Y*(z*(z*z))*z+Y*(z*(z*z))*z)) :=
 rid [X,Y,z] ((fun (X Y z:PE)=>(X*(z*z)*(Y*(z*(z*z))*(Y*(z*(z*z))))+X*(z*z)*(Y*(z*(z*z))*(Y*(z*(z*z))))+(X*(z*z)*(Y*(z*(z*z))*(Y*(z*(z*z))))+X*(z*z)*(Y*(z*(z*z))*(Y*(z*(z*z))))))) (.v 0) (.v 1) (.v 2)) ((fun (X Y z:PE)=>(X*((Y*(z*(z*z))*z+Y*(z*(z*z))*z)*(Y*(z*(z*z))*z+Y*(z*(z*z))*z)))) (.v 0) (.v 1) (.v 2)) ab
theorem adT {F:Type} [Rg F] (Y z:F):(Y*(z*(z*z))*(Y*(z*(z*z)))+Y*(z*(z*z))*(Y*(z*(z*z))))*(Y*(z*(z*z))*(Y*(z*(z*z)))+Y*(z*(z*z))*(Y*(z*(z*z))))+(Y*(z*(z*z))*(Y*(z*(z*z)))+Y*(z*(z*z))*(Y*(z*(z*z))))*(Y*(z*(z*z))*(Y*(z*(z*z)))+Y*(z*(z*z))*(Y*(z*(z*z))))=Y*((Y*(z*(z*z))*z+Y*(z*(z*z))*z)*((Y*(z*(z*z))*z+Y*(z*(z*z))*z)*(Y*(z*(z*z))*z+Y*(z*(z*z))*z))) :=
 rid [Y,z] ((fun (Y z:PE)=>((Y*(z*(z*z))*(Y*(z*(z*z)))+Y*(z*(z*z))*(Y*(z*(z*z))))*(Y*(z*(z*z))*(Y*(z*(z*z)))+Y*(z*(z*z))*(Y*(z*(z*z))))+(Y*(z*(z*z))*(Y*(z*(z*z)))+Y*(z*(z*z))*(Y*(z*(z*z))))*(Y*(z*(z*z))*(Y*(z*(z*z)))+Y*(z*(z*z))*(Y*(z*(z*z)))))) (.v 0) (.v 1)) ((fun (Y z:PE)=>(Y*((Y*(z*(z*z))*z+Y*(z*(z*z))*z)*((Y*(z*(z*z))*z+Y*(z*(z*z))*z)*(Y*(z*(z*z))*z+Y*(z*(z*z))*z))))) (.v 0) (.v 1)) ab
theorem j_x {F:Type} [Rg F] (X Z l:F):l*Z*(l*Z)-X*(Z*Z)-X*(Z*Z)=(l*l-X-X)*(Z*Z) :=
 rid [X,Z,l] ((fun (X Z l:PE)=>(l*Z*(l*Z)-X*(Z*Z)-X*(Z*Z))) (.v 0) (.v 1) (.v 2)) ((fun (X Z l:PE)=>((l*l-X-X)*(Z*Z))) (.v 0) (.v 1) (.v 2)) ab
theorem j_y {F:Type} [Rg F] (X Y Z l s:F):l*Z*(X*(Z*Z)-s*(Z*Z))-Y*(Z*(Z*Z))=-(Y+l*(s-X))*(Z*(Z*Z)) :=
 rid [X,Y,Z,l,s] ((fun (X Y Z l s:PE)=>(l*Z*(X*(Z*Z)-s*(Z*Z))-Y*(Z*(Z*Z)))) (.v 0) (.v 1) (.v 2) (.v 3) (.v 4)) ((fun (X Y Z l s:PE)=>(-(Y+l*(s-X))*(Z*(Z*Z)))) (.v 0) (.v 1) (.v 2) (.v 3) (.v 4)) ab
theorem Wb {F:Type} [Rg F] (a f:F):a-f-f=a-(f+f) :=
 rid [a,f] ((fun (a f:PE)=>(a-f-f)) (.v 0) (.v 1)) ((fun (a f:PE)=>(a-(f+f))) (.v 0) (.v 1)) ab
theorem j_z {F:Type} [Rg F] (Y z:F):Y*(z*(z*z))*z+Y*(z*(z*z))*z=(Y+Y)*(z*z*(z*z)) :=
 rid [Y,z] ((fun (Y z:PE)=>(Y*(z*(z*z))*z+Y*(z*(z*z))*z)) (.v 0) (.v 1)) ((fun (Y z:PE)=>((Y+Y)*(z*z*(z*z)))) (.v 0) (.v 1)) ab
theorem adV {F:Type} [Rg F] (d e a c:F):e*(c*c)*(a*a)-d*(a*a)*(c*c)=(e-d)*(a*c*(a*c)) :=
 rid [d,e,a,c] ((fun (d e a c:PE)=>(e*(c*c)*(a*a)-d*(a*a)*(c*c))) (.v 0) (.v 1) (.v 2) (.v 3)) ((fun (d e a c:PE)=>((e-d)*(a*c*(a*c)))) (.v 0) (.v 1) (.v 2) (.v 3)) ab
theorem adU {F:Type} [Rg F] (d e a c:F):e*(c*(c*c))*(a*a)*a-d*(a*(a*a))*(c*c)*c=(e-d)*(a*c*(a*c*(a*c))) :=
 rid [d,e,a,c] ((fun (d e a c:PE)=>(e*(c*(c*c))*(a*a)*a-d*(a*(a*a))*(c*c)*c)) (.v 0) (.v 1) (.v 2) (.v 3)) ((fun (d e a c:PE)=>((e-d)*(a*c*(a*c*(a*c))))) (.v 0) (.v 1) (.v 2) (.v 3)) ab
theorem aaC {F:Type} [Rg F] (a d c e w l:F):(e-d)*(w*(w*w))-l*(w*((c-a)*(w*w)))=(-(w*(w*w)))*(l*(c-a)-(e-d)) :=
 rid [a,d,c,e,w,l] ((fun (a d c e w l:PE)=>((e-d)*(w*(w*w))-l*(w*((c-a)*(w*w))))) (.v 0) (.v 1) (.v 2) (.v 3) (.v 4) (.v 5)) ((fun (a d c e w l:PE)=>((-(w*(w*w)))*(l*(c-a)-(e-d)))) (.v 0) (.v 1) (.v 2) (.v 3) (.v 4) (.v 5)) ab
theorem aiA {F:Type} [Rg F] (d a c D l:F):l*(a*c*(D*(a*c*(a*c))))*(l*(a*c*(D*(a*c*(a*c)))))-D*(a*c*(a*c))*(D*(a*c*(a*c)))*(D*(a*c*(a*c)))-d*(a*a)*(c*c)*(D*(a*c*(a*c))*(D*(a*c*(a*c))))-d*(a*a)*(c*c)*(D*(a*c*(a*c))*(D*(a*c*(a*c))))=(l*l-D-d-d)*(a*c*(D*(a*c*(a*c)))*(a*c*(D*(a*c*(a*c))))) :=
 rid [d,a,c,D,l] ((fun (d a c D l:PE)=>(l*(a*c*(D*(a*c*(a*c))))*(l*(a*c*(D*(a*c*(a*c)))))-D*(a*c*(a*c))*(D*(a*c*(a*c)))*(D*(a*c*(a*c)))-d*(a*a)*(c*c)*(D*(a*c*(a*c))*(D*(a*c*(a*c))))-d*(a*a)*(c*c)*(D*(a*c*(a*c))*(D*(a*c*(a*c)))))) (.v 0) (.v 1) (.v 2) (.v 3) (.v 4)) ((fun (d a c D l:PE)=>((l*l-D-d-d)*(a*c*(D*(a*c*(a*c)))*(a*c*(D*(a*c*(a*c))))))) (.v 0) (.v 1) (.v 2) (.v 3) (.v 4)) ab
theorem aiB {F:Type} [Rg F] (d e a c D l s:F):l*(a*c*(D*(a*c*(a*c))))*(d*(a*a)*(c*c)*(D*(a*c*(a*c))*(D*(a*c*(a*c))))-s*(a*c*(D*(a*c*(a*c)))*(a*c*(D*(a*c*(a*c))))))-e*(a*(a*a))*(c*c)*c*(D*(a*c*(a*c))*(D*(a*c*(a*c)))*(D*(a*c*(a*c))))=-(e+l*(s-d))*(a*c*(D*(a*c*(a*c)))*(a*c*(D*(a*c*(a*c)))*(a*c*(D*(a*c*(a*c)))))) :=
 rid [d,e,a,c,D,l,s] ((fun (d e a c D l s:PE)=>(l*(a*c*(D*(a*c*(a*c))))*(d*(a*a)*(c*c)*(D*(a*c*(a*c))*(D*(a*c*(a*c))))-s*(a*c*(D*(a*c*(a*c)))*(a*c*(D*(a*c*(a*c))))))-e*(a*(a*a))*(c*c)*c*(D*(a*c*(a*c))*(D*(a*c*(a*c)))*(D*(a*c*(a*c)))))) (.v 0) (.v 1) (.v 2) (.v 3) (.v 4) (.v 5) (.v 6)) ((fun (d e a c D l s:PE)=>(-(e+l*(s-d))*(a*c*(D*(a*c*(a*c)))*(a*c*(D*(a*c*(a*c)))*(a*c*(D*(a*c*(a*c)))))))) (.v 0) (.v 1) (.v 2) (.v 3) (.v 4) (.v 5) (.v 6)) ab
theorem j_D {F:Type} [Rg F] (a c l:F):l*l-(c-a)-a-a=l*l-a-c :=
 rid [a,c,l] ((fun (a c l:PE)=>(l*l-(c-a)-a-a)) (.v 0) (.v 1) (.v 2)) ((fun (a c l:PE)=>(l*l-a-c)) (.v 0) (.v 1) (.v 2)) ab
theorem aiC {F:Type} [Rg F] (X z i:F):X*(z*z)*(i*i)=X*(z*i*(z*i)) :=
 rid [X,z,i] ((fun (X z i:PE)=>(X*(z*z)*(i*i))) (.v 0) (.v 1) (.v 2)) ((fun (X z i:PE)=>(X*(z*i*(z*i)))) (.v 0) (.v 1) (.v 2)) ab
theorem aiD {F:Type} [Rg F] (Y z i:F):Y*(z*(z*z))*(i*i)*i=Y*(z*i*(z*i*(z*i))) :=
 rid [Y,z,i] ((fun (Y z i:PE)=>(Y*(z*(z*z))*(i*i)*i)) (.v 0) (.v 1) (.v 2)) ((fun (Y z i:PE)=>(Y*(z*i*(z*i*(z*i))))) (.v 0) (.v 1) (.v 2)) ab
section
variable {F:Type} [Fd F] {b:F}
def mw (b:F) (a:Jc F) (P:F × F):Prop:=(a.2.2=0/\P=O2)\/(a.2.2≠0/\a.1=P.1*(a.2.2*a.2.2)/\a.2.1=P.2*(a.2.2*(a.2.2*a.2.2))/\tu b P)
theorem mw.on {a:Jc F} {P:F × F} (h:mw b a P):gP b P:=by rcases h with ⟨_,h⟩|⟨_,_,_,h⟩;exact .inl h;exact .inr h
theorem EX {P:F × F} (h:gP b P):mw b (jm P) P:=by unfold jm;split;rename_i e;exact .inl ⟨rfl,e⟩;rename_i e;rcases h with h|h;exact absurd h e;refine .inr ⟨one_ne,?_,?_,h⟩;show P.1=P.1*(1*1);rw[one_mul,mul_one];show P.2=P.2*(1*(1*1));rw[one_mul,one_mul,mul_one]
theorem Jv {a:Jc F} {P:F × F} (h:mw b a P):iU a=P:=by unfold iU;rcases h with ⟨h,e⟩|⟨h,c,d,_⟩;rw[aj h,e];rw[ah h];refine gu ?_ ?_;show a.1*(inv a.2.2*inv a.2.2)=P.1;rw[c,aiC,mul_inv _ h,one_mul,mul_one];show a.2.1*(inv a.2.2*inv a.2.2)*inv a.2.2=P.2;rw[d,aiD,mul_inv _ h,one_mul,one_mul,mul_one]
theorem Ii (i:b≠0) {a:Jc F} {P:F × F} (h:mw b a P):mw b (rD a) (cc P P):=by
 unfold rD QM;rcases h with ⟨h,rfl⟩|⟨h,k,m,c⟩;rw[aj h,jF];exact .inl ⟨rfl,rfl⟩
 ·rw[ah h];obtain⟨x,y,z⟩:=a;obtain⟨X,Y⟩:=P;simp only at h k m ⊢;subst k m;have o:Y*(z*(z*z))*z+Y*(z*(z*z))*z=(Y+Y)*(z*z*(z*z)):=j_z Y z;have j:z*z*(z*z)≠0:=oW (oW h h) (oW h h);by_cases f:Y=0
  ·subst f;left;refine⟨?_,?_⟩;show (0:F)*(z*(z*z))*z+0*(z*(z*z))*z=0;rw[o,add_zero,zero_mul]
   ·have:=dZ ((X,0):F × F)
    rwa [show dD ((X,0):F × F)=(X,0) from by show (X,-(0:F))=_;rw[neg_zero]] at this
  ·have g:Y+Y≠0:=fun e=>f (yq e);obtain⟨l,d⟩:=(rI (P:=(X,Y)) (Q:=(X,Y)) c c).resolve_left (fun e=>f (DT (congrArg Prod.snd e)));right;have n:Tf (X*(z*z)) (Y*(z*(z*z)))=sx X X l*((Y*(z*(z*z))*z+Y*(z*(z*z))*z)*(Y*(z*(z*z))*z+Y*(z*(z*z))*z)):=by
    unfold Tf;rw[Yo X Y z,B5 _ (OB X Y z l) d.2];exact j_x _ _ _
   refine⟨?_,?_,?_,?_⟩;show Y*(z*(z*z))*z+Y*(z*(z*z))*z≠0;rw[o];exact oW g j;rw[eL i c c d];exact n;rw[eL i c c d];show _-_-_=sy X Y X l*_;rw[Wb,adT Y z,n,Yo X Y z,B5 _ (OB X Y z l) d.2];exact j_y _ _ _ _ _;rw[eL i c c d];exact d.nT c
theorem Dp (A:b≠0) {a c:Jc F} {P Q:F × F} (h:mw b a P) (k:mw b c Q):mw b (nu a c) (cc P Q):=by
 have C:=Ii A h;unfold nu;rcases h with ⟨h,rfl⟩|⟨h,r,s,p⟩;rw[aj h,jF];exact k
 ·rw[ah h];rcases k with ⟨k,rfl⟩|⟨k,w,f2,t⟩;rw[aj k,mq];exact .inr ⟨h,r,s,p⟩
  ·rw[ah k];obtain⟨x,y,z⟩:=a;obtain⟨E,G,d⟩:=c;obtain⟨X,Y⟩:=P;obtain⟨f,j⟩:=Q;simp only at h k r s w f2 C ⊢;subst r s w f2;rw[adV X f z d,adU Y j z d];have q:z*d≠0:=oW h k;have i:z*d*(z*d)≠0:=oW q q;have o:z*d*(z*d*(z*d))≠0:=oW q i;by_cases g:f-X=0;rw[aj (by rw[g,zero_mul])];have g:=c6 g;subst g;by_cases m:j-Y=0;rw[aj (by rw[m,zero_mul])];have m:=c6 m;subst m;exact C;rw[ah (oW m o)];left;refine⟨rfl,?_⟩;rcases rI (P:=(f,Y)) (Q:=(f,j)) p t with e|⟨l,n⟩;rw[e,dZ];exfalso;have:=n.1;rw[sub_self,mul_zero] at this;exact m this.symm
   ·rw[ah (oW g i)];obtain⟨l,n⟩:=(rI (P:=(X,Y)) (Q:=(f,j)) p t).resolve_left (fun e=>g (by rw[show f=X from congrArg Prod.fst e,sub_self]));have D:(j-Y)*(z*d*(z*d*(z*d)))=l*(z*d*((f-X)*(z*d*(z*d)))):=B5 _ (aaC X Y f j (z*d) l) n.1;rw[D,eL A p t n];have u:OC ((f-X)*(z*d*(z*d))) (l*(z*d*((f-X)*(z*d*(z*d))))) (X*(z*z)*(d*d))=sx X f l*(z*d*((f-X)*(z*d*(z*d)))*(z*d*((f-X)*(z*d*(z*d))))):=by
     unfold OC;rw[aiA X z d (f-X) l,j_D];rfl
    right;refine⟨oW q (oW g i),u,?_,n.nT p⟩;show _*(_-OC _ _ _)-_=sy X Y f l*_;rw[u];exact aiB _ _ _ _ _ _ _
end
def jg (p:Nat):Prop:=1<p/\∀ d,d∣p->d=1\/d=p
theorem jg.coprime {p k:Nat} (h:jg p) (a:¬ p∣k):Nat.Coprime p k:=by rcases h.2 (Nat.gcd p k) (Nat.gcd_dvd_left p k) with e|e;exact e;exact absurd (e▸Nat.gcd_dvd_right p k) a
theorem jg.dvd_mul {p a b:Nat} (h:jg p) (d:p∣a*b):p∣a\/p∣b:=by by_cases c:p∣a;exact .inl c;exact .inr ((h.coprime c).dvd_of_dvd_mul_left d)
def ch:Nat->Nat->Nat
 | _,0=>1
 | 0,_+1=>0
 | n+1,k+1=>ch n k+ch n (k+1)
theorem yl (n:Nat):ch n 0=1:=by cases n<;>rfl
theorem ab1:∀ n k:Nat,(k+1)*ch (n+1) (k+1)=(n+1)*ch n k:=by
 intro n;induction n with
 | zero =>
  intro k;cases k with
  | zero=>rfl
  | succ k=>simp[ch]
 | succ n a =>
  intro k;cases k with
  | zero =>have h:(0+1)*ch (n+1) 1=(n+1)*ch n 0:=a 0;rw[yl] at h;show 1*(ch (n+1) 0+ch (n+1) 1)=(n+1+1)*ch (n+1) 0;rw[yl];omega
  | succ j =>have d:=a j;have e:=a (j+1);have b:ch (n+1+1) (j+1+1)=ch (n+1) (j+1)+ch (n+1) (j+1+1):=rfl;have c:ch (n+1) (j+1)=ch n j+ch n (j+1):=rfl;rw[b,Nat.mul_add,e,ff (j+1) 1,d,mV];rw[c,Nat.mul_add,ff (n+1) 1,ff (n+1) 1];omega
theorem Zp:∀ n:Nat,ch n n=1/\∀ k,n<k->ch n k=0:=by
 intro n;induction n with
 | zero=>exact⟨rfl,fun k b=>by cases k with|zero=>omega|succ k=>rfl⟩
 | succ n a =>
  refine⟨?_,fun k b=>?_⟩;show ch n n+ch n (n+1)=1;rw[a.1,a.2 (n+1) aa]
  ·cases k with
   | zero=>omega
   | succ k=>show ch n k+ch n (k+1)=0;rw[a.2 k aa,a.2 (k+1) aa]
def wX (n a:Nat):Nat->Nat
 | 0=>0
 | m+1=>wX n a m+ch n m*a^m
theorem UZ (n a:Nat):∀ m,wX (n+1) a (m+1)=a*wX n a m+wX n a (m+1):=by
 intro m;induction m with
 | zero=>simp[wX,yl]
 | succ m b =>show wX (n+1) a (m+1)+ch (n+1) (m+1)*a^(m+1)=a*(wX n a m+ch n m*a^m)+(wX n a (m+1)+ch n (m+1)*a^(m+1));rw[b];have e:ch (n+1) (m+1)=ch n m+ch n (m+1):=rfl;rw[e,ff,Nat.mul_add,lz,ly (a^m) a,Nat.mul_left_comm a (ch n m)];omega
theorem afp (a:Nat):∀ n m,n<m->(a+1)^n=wX n a m:=by
 intro n;induction n with
 | zero =>
  intro m c;cases m with
  | zero=>omega
  | succ m =>
   clear c;induction m with
   | zero=>simp[wX,yl]
   | succ m b=>show _=wX 0 a (m+1)+ch 0 (m+1)*a^(m+1);rw[<- b,show ch 0 (m+1)=0 from rfl,jq];rfl
 | succ n b =>
  intro m c;cases m with
  | zero=>omega
  | succ m =>rw[UZ,<- b m aa,<- b (m+1) aa,lz,Nat.mul_add,tQ,ly a]
theorem jg.ab0 {p k:Nat} (h:jg p) (a:0<k) (b:k<p):p∣ch p k:=by obtain⟨j,rfl⟩:∃ j,k=j+1:=⟨k-1,aa⟩;obtain⟨q,rfl⟩:∃ q,p=q+1:=⟨p-1,aa⟩;have e:=ab1 q j;have:q+1∣(j+1)*ch (q+1) (j+1):=⟨ch q j,e⟩;rcases h.dvd_mul this with h2|h2;exact absurd (qF aa h2) aa;exact h2
theorem jg.Zo {p:Nat} (h:jg p) (a:Nat):∀ m,m<p->wX p a (m+1)%p=1:=by
 intro m;have e:=h.1;induction m with
 | zero=>intro _;show (0+ch p 0*a^0)%p=1;rw[yl,Nat.pow_zero,bH,tQ];exact il e
 | succ m f =>intro d;show (wX p a (m+1)+ch p (m+1)*a^(m+1))%p=1;obtain⟨c,b⟩:=h.ab0 (k:=m+1) aa d;rw[b,Nat.mul_assoc,A1,f aa]
theorem jg.step {p:Nat} (h:jg p) (a:Nat):(a+1)^p%p=(a^p+1)%p:=by rw[afp a p (p+1) aa];show (wX p a p+ch p p*a^p)%p=_;obtain⟨q,b⟩:∃ q,p=q+1:=⟨p-1,by have:=h.1;omega⟩;have:=h.Zo a q aa;rw[<- b] at this;rw[(Zp p).1,mV,qI,this,oG,<- Nat.add_mod_mod (a^p%p),Nat.mod_add_mod];have:1%p=1:=il h.1;rw[qI (a^p) 1,this,qI (a^p) 1,this]
theorem jg.acm {p:Nat} (h:jg p) (a:Nat):a^p%p=a%p:=by
 induction a with
 | zero=>rw[Nat.zero_pow (by have:=h.1;omega)]
 | succ a b=>rw[h.step,qI,b,<- qI]
theorem jg.Oh {p a:Nat} (h:jg p) (b:¬ p∣a):a^(p-1)%p=1:=by
 have g:=h.1;have e:a^p=a^(p-1)*a:=by rw[<- lz];congr 1;omega
 have f:=h.acm a;rw[e] at f
 have i:1<=a^(p-1):=Nat.pos_of_ne_zero (fun z=>by
  have:a=0:=by rcases qx a with h|h;exact h;exact absurd z (Nat.ne_of_gt (Nat.pow_pos h))
  exact b (this▸Nat.dvd_zero p))
 have d:p∣(a^(p-1)-1)*a:=by rw[Nat.sub_mul,mV];exact Nat.dvd_of_mod_eq_zero (Nat.sub_mod_eq_zero_of_mod_eq f)
 rcases h.dvd_mul d with h2|h2;obtain⟨c,j⟩:=h2;have:a^(p-1)=1+p*c:=aa;rw[this,A1,il g];exact absurd h2 b
theorem aaY {d e:Nat}:∀ m n,e^m%d=1->e^n%d=1->e^(Nat.gcd m n)%d=1:=by
 intro m n;induction m,n using Nat.gcd.induction with
 | H0 n=>intro _ h;rwa [Nat.gcd_zero_left]
 | H1 m n j i =>
  intro a c;rw[Nat.gcd_rec];refine i ?_ a;have g:e^n=(e^m)^(n/m)*e^(n%m):=by rw[<- Nat.pow_mul,<- Nat.pow_add,Nat.div_add_mod]
  rw[g,Nat.mul_mod,Nat.pow_mod,a,Nat.one_pow] at c;have f:d≠1:=by intro f;subst f;rw[Nat.mod_one] at a;cases a
  have b:1%d=1:=by rcases qx d with h|h;subst h;rfl;exact il aa
  rw[b,mV,Nat.mod_mod] at c;exact c
theorem BL:∀ n:Nat,1<n->∃ d,jg d/\d∣n:=by
 intro n;induction n using Nat.strongRecOn with
 | _ n l =>
  intro j;by_cases f:jg n;exact⟨n,f,Nat.dvd_refl n⟩
  ·have:∃ d,d∣n/\d≠1/\d≠n:=by
    refine gj fun g=>f ⟨j,fun d a=>?_⟩;by_cases b:d=1;exact .inl b;by_cases c:d=n;exact .inr c;exact absurd ⟨d,a,b,c⟩ g
   obtain⟨d,a,b,c⟩:=this;have i:=qF aa a;have h:d≠0:=by rintro rfl;have:=Nat.eq_zero_of_zero_dvd a;omega
   obtain⟨q,k,e⟩:=l d aa aa;exact⟨q,k,wR e a⟩
theorem ma {n:Nat} (s:1<n) (t:¬ jg n):∃ d,jg d/\d∣n/\d*d<=n:=by
 have:∃ d,d∣n/\d≠1/\d≠n:=by refine gj fun b=>t ⟨s,fun d o=>?_⟩;by_cases h:d=1;exact .inl h;by_cases i:d=n;exact .inr i;exact absurd ⟨d,o,h,i⟩ b
 obtain⟨d,⟨c,b⟩,h,i⟩:=this;have p:d≠0:=by rintro rfl;omega
 have l:c≠0:=by rintro rfl;omega
 have m:c≠1:=by rintro rfl;omega
 by_cases r:d<=c;obtain⟨q,j,g⟩:=BL d aa;have:=qF aa g;refine⟨q,j,wR g ⟨c,b⟩,?_⟩;rw[b];exact tJ this aa;obtain⟨q,j,e⟩:=BL c aa;have:=qF aa e;refine⟨q,j,wR e ⟨d,by rw[b,ly]⟩,?_⟩;rw[b];exact tJ aa this
def pm:Nat->Nat->Nat->Nat->Nat
 | 0,_,_,n=>1%n
 | f+1,a,e,n=>match beq e 0 with
  | true=>1%n
  | false=>match beq (e%2) 1 with
   | true=>a*pm f (a*a%n) (e/2) n%n
   | false=>pm f (a*a%n) (e/2) n
theorem YF:∀ f a e n,e<2^f->pm f a e n=a^e%n:=by
 intro f;induction f with
 | zero=>intro a e n h;have:e=0:=by simp at h;exact h
         subst this;rfl
 | succ f j =>
  intro a e n h;unfold pm;split;rename_i g;have:=fa g;subst this;rfl
  ·have d:=j (a*a%n) (e/2) n (by rw[lz] at h;omega);have c:(a*a%n)^(e/2)%n=a^(2*(e/2))%n:=by rw[<- Nat.pow_mod,Nat.pow_mul,Nat.pow_two]
   split;rename_i b;have b:=fa b;rw[d,c,Nat.mul_mod_mod,<- Nat.pow_succ'];congr 2;omega
   ·rename_i b;have b:e%2≠1:=fun i=>by rw[i] at b;exact absurd b ae
    rw[d,c];congr 2;omega
theorem JO {a q:Nat} (h:0<q):a∣a^q:=by obtain⟨j,rfl⟩:∃ j,q=j+1:=⟨q-1,aa⟩;exact⟨a^j,by rw[lz,ly]⟩
theorem uA {N q k a f:Nat} (p:jg q) (F:N=q*k+1) (H:N<2^f) (s:pm f a (q*k) N=1) (t:Nat.gcd (pm f a k N+(N-1)) N=1) {d:Nat} (u:jg d) (b:d∣N):q∣d-1:=by
 have C:k<2^f:=by have:k<=q*k:=Nat.le_mul_of_pos_left k (by have:=p.1;omega);omega
 have e:=u.1;rw[YF f a _ N aa] at s;rw[YF f a k N C] at t;have i:(a^k)^q%d=1:=by rw[<- Nat.pow_mul,ly k q,<- Nat.mod_mod_of_dvd _ b,s,il e]
 have o:a^k%d≠1:=by
  intro z;have l:d∣a^k%N+(N-1):=by
   have x:(a^k%N)%d=1:=by rw[Nat.mod_mod_of_dvd _ b];exact z
   refine Nat.dvd_of_mod_eq_zero ?_;obtain⟨c,G⟩:=b;have:a^k%N+(N-1)+1=a^k%N+d*c:=aa;have y:(a^k%N+(N-1)+1)%d=1:=by rw[this,A1,x]
   have g:=qI (a^k%N+(N-1)) 1 d;rw[y,il e] at g;have E:=Nat.mod_lt (a^k%N+(N-1)) (show 0<d by omega);generalize (a^k%N+(N-1))%d=r at *;by_cases D:r+1=d;rw[D,Nat.mod_self] at g;cases g;rw[il aa] at g;omega
  have:=Nat.dvd_gcd l b;rw[t] at this;have:=qF aa this;omega
 have j:¬ d∣a^k:=by intro h;have:(a^k)^q%d=0:=Nat.mod_eq_zero_of_dvd (wR h (JO (by have:=p.1;omega)));rw[this] at i;cases i
 have w:=u.Oh j;refine gj fun m=>?_;have A:=p.coprime m;have:=aaY q (d-1) i w;rw[A,Nat.pow_one] at this;exact o this
def C3 (n:Nat):Nat->Nat->Bool
 | 0,a => !(beq (n%a) 0)
 | f+1,a=>C3 n f a&&C3 n f (a+2^f)
theorem QR {n:Nat}:∀ f a,C3 n f a=true->∀ d,a<=d->d<a+2^f->¬ d∣n:=by
 intro f;induction f with
 | zero =>
  intro a h d c b g;have:d=a:=by simp at b;omega
  subst this;unfold C3 at h;rw[Nat.mod_eq_zero_of_dvd g] at h;simp at h
 | succ f e =>intro a h d c b;unfold C3 at h;simp only[aQ] at h;rw[lz] at b;by_cases i:d<a+2^f;exact e a h.1 d c i;exact e (a+2^f) h.2 d aa aa
theorem xB {n f:Nat} (e:1<n) (j:n<(2+2^f)*(2+2^f)) (h:C3 n f 2=true):jg n:=by refine gj fun g=>?_;obtain⟨d,b,a,c⟩:=ma e g;refine QR f 2 h d b.1 ?_ a;refine gj fun i=>?_;have:(2+2^f)*(2+2^f)<=d*d:=tJ aa aa;omega
theorem s6 {K d n:Nat} (g:1<d) (h:K∣d-1) (b:d*d<=n) (e:n<K*K):False:=by have c:=qF aa h;have:K*K<=d*d:=tJ aa aa;omega
theorem Ra:jg 421987:=xB (f:=10) ae ae ab
theorem Gy:jg 13090036741:=by refine gj fun h=>?_;obtain⟨d,e,c,b⟩:=ma (n:=13090036741) ae h;have g:421987∣d-1:=uA (k:=31020) (a:=2) (f:=34) Ra ab (Odt ab) ab ab e c;exact s6 e.1 g b (Odt ab)
theorem Rb:jg 755057:=xB (f:=10) ae ae ab
theorem uB:jg 3819663927398918131021:=by refine gj fun i=>?_;obtain⟨d,c,b,e⟩:=ma (n:=3819663927398918131021) ae i;have g:13090036741∣d-1:=uA (k:=291799328220) (a:=2) (f:=72) Gy ab (Odt ab) ab ab c b;have h:755057∣d-1:=uA (k:=5058775598926860) (a:=2) (f:=72) Rb ab (Odt ab) ab ab c b;have g1:13090036741*755057∣d-1:=sq (show Nat.gcd 13090036741 755057=1 by kernel_rfl) g h;rw[show 13090036741*755057=9883723871549237 by kernel_rfl] at g1;exact s6 c.1 g1 e (Odt ab)
theorem mP:jg 1125266252156850182658904441386709967:=by refine gj fun h=>?_;obtain⟨d,e,c,b⟩:=ma (n:=1125266252156850182658904441386709967) ae h;have g:3819663927398918131021∣d-1:=uA (k:=294598235223046) (a:=2) (f:=120) uB ab (Odt ab) ab ab e c;exact s6 e.1 g b (Odt ab)
theorem fq:jg 15778400344354997994418419698270088123916926905054652752758194827714659:=by refine gj fun h=>?_;obtain⟨d,e,c,b⟩:=ma (n:=15778400344354997994418419698270088123916926905054652752758194827714659) ae h;have g:1125266252156850182658904441386709967∣d-1:=uA (k:=14021926201120671579994175730661374) (a:=2) (f:=234) mP ab (Odt ab) ab ab e c;exact s6 e.1 g b (Odt ab)
theorem afO:jg 4002409555221667393417789825735904156556882819939007885332058136124031650490837864442687629129015664037894272559787:=by refine gj fun h=>?_;obtain⟨d,e,c,b⟩:=ma (n:=4002409555221667393417789825735904156556882819939007885332058136124031650490837864442687629129015664037894272559787) ae h;have g:15778400344354997994418419698270088123916926905054652752758194827714659∣d-1:=uA (k:=253663835868735594330404923636534084567099854) (a:=2) (f:=381) fq ab (Odt ab) ab ab e c;exact s6 e.1 g b (Odt ab)
theorem JS:jg 254760293:=xB (f:=14) ae ae ab
theorem Me:jg 52437899:=xB (f:=13) ae ae ab
theorem Nu:jg 2529403:=xB (f:=11) ae ae ab
theorem Nt:jg 2508409:=xB (f:=11) ae ae ab
theorem Re:jg 906349:=xB (f:=10) ae ae ab
theorem Rc:jg 859267:=xB (f:=10) ae ae ab
theorem afP:jg 52435875175126190479447740508185965837690552500527637822603658699938581184513:=by refine gj fun r=>?_;obtain⟨d,c,b,e⟩:=ma (n:=52435875175126190479447740508185965837690552500527637822603658699938581184513) ae r;have j:254760293∣d-1:=uA (k:=205824363591567193241718168805002771125288949563767528806397073424384) (a:=2) (f:=255) JS ab (Odt ab) ab ab c b;have l:52437899∣d-1:=uA (k:=999961405302035279473110478895921551656570994587857873989262207090688) (a:=2) (f:=255) Me ab (Odt ab) ab ab c b;have m:2529403∣d-1:=uA (k:=20730534112249487519168649878325425342537568153642435714120548880482304) (a:=2) (f:=255) Nu ab (Odt ab) ab ab c b;have o:2508409∣d-1:=uA (k:=20904037250355181503274681484632675866531555460264908084209416686010368) (a:=2) (f:=255) Nt ab (Odt ab) ab ab c b;have p:906349∣d-1:=uA (k:=57853956009358636109763171259841369977448590444219211167666824479244288) (a:=2) (f:=255) Re ab (Odt ab) ab ab c b;have q:859267∣d-1:=uA (k:=61023960160376449321861238134579782346686830170980193377150127608692736) (a:=2) (f:=255) Rc ab (Odt ab) ab ab c b;have g1:254760293*52437899∣d-1:=sq (show Nat.gcd 254760293 52437899=1 by kernel_rfl) j l;rw[show 254760293*52437899=13359094513544407 by kernel_rfl] at g1;have g2:13359094513544407*2529403∣d-1:=sq (show Nat.gcd 13359094513544407 2529403=1 by kernel_rfl) g1 m;rw[show 13359094513544407*2529403=33790533739842763699021 by kernel_rfl] at g2;have g:33790533739842763699021*2508409∣d-1:=sq (show Nat.gcd 33790533739842763699021 2508409=1 by kernel_rfl) g2 o;rw[show 33790533739842763699021*2508409=84760478947825247047497567589 by kernel_rfl] at g;have h:84760478947825247047497567589*906349∣d-1:=sq (show Nat.gcd 84760478947825247047497567589 906349=1 by kernel_rfl) g p;rw[show 84760478947825247047497567589*906349=76822575333882464836252372886722561 by kernel_rfl] at h;have i:76822575333882464836252372886722561*859267∣d-1:=sq (show Nat.gcd 76822575333882464836252372886722561 859267=1 by kernel_rfl) h q;rw[show 76822575333882464836252372886722561*859267=66011103839419183912452067693255434822787 by kernel_rfl] at i;exact s6 c.1 i e (Odt ab)
section
variable {M:Int} [Md M]
instance rgZm : Rg (Zm M) where
 add_comm a b:=Zm.ext (by simp only[P5,Int.add_comm])
 add_assoc a b c:=by rw[<- jf a,<- jf b,<- jf c];simp only[uw,Int.add_assoc]
 zero_add a:=by rw[<- jf a,<- PW];simp only[uw,Int.zero_add]
 neg_add a:=by rw[<- jf a,<- PW];simp only[uw,Hh];congr 1;omega
 sub_def a b:=by rw[<- jf a,<- jf b];simp only[uw,Hh,CP];congr 1
 mul_comm:=xf
 mul_assoc:=rK
 one_mul:=Wy
 add_mul:=Kp
theorem afh (x:Zm M) (n:Nat):(zpow x n).v=x.v^n%M:=by
 induction n with
 | zero=>show (1:Zm M).v=_;rw[Gl,Int.pow_zero,dd aa Md.gt]
 | succ n a=>show (zpow x n*x).v=_;rw[xg,a,Int.pow_succ,dJ,kx,<- dJ]
theorem JM {P:Nat} (g:M=(P:Int)) (i:jg P) {x:Zm M} (j:x≠0) {n:Nat} (k:n+2=P):x*zpow x n=1:=by
 obtain⟨a,d⟩:=jQ x.nn;have c:¬ P∣a:=by
  intro h;have b:a<P:=by have:=x.lt;omega
  have:a=0:=Nat.eq_zero_of_dvd_of_lt h b;exact j (Zm.ext (by rw[uv,d,this];rfl))
 have f:=i.Oh c;refine Zm.ext ?_;rw[xg,afh,Gl,dJ,kx,<- dJ,gU,<- Int.pow_succ,d,g,<- Int.natCast_pow];have e:P-1=n+1:=aa;rw[e] at f;rw[<- Int.natCast_emod,f];rfl
end
theorem abK:Mp=(4002409555221667393417789825735904156556882819939007885332058136124031650490837864442687629129015664037894272559787:Int):=rfl
theorem abL:Mr=(52435875175126190479447740508185965837690552500527637822603658699938581184513:Int):=rfl
theorem PX {x:Fp} (a:x≠0):x*mO x 4002409555221667393417789825735904156556882819939007885332058136124031650490837864442687629129015664037894272559785=1:=by rw[zd];exact JM abK afO a (Odt ab)
theorem UI {x:Fr} (a:x≠0):x*mO x 52435875175126190479447740508185965837690552500527637822603658699938581184511=1:=by rw[zd];exact JM abL afP a (Odt ab)
instance fdFp:Fd Fp where
 deq:=inferInstance
 inv x:=mO x 4002409555221667393417789825735904156556882819939007885332058136124031650490837864442687629129015664037894272559785
 mul_inv _ h:=PX h
 one_ne:=ae
 two_ne:=ae
 three_ne:=ae
instance fdFr:Fd Fr where
 deq:=inferInstance
 inv x:=mO x 52435875175126190479447740508185965837690552500527637822603658699938581184511
 mul_inv _ h:=UI h
 one_ne:=ae
 two_ne:=ae
 three_ne:=ae
end Cr
namespace Go.Proofs.YtofofalgjibokaaGreatDoor
open Go.IntKind(i64 u64 u8)
open Go.IntKind(i64)
def IH:Nat->Prop->Prop
 | 0,P=>P
 | n+1,P=>True/\IH n P
theorem PJ {P:Prop} (h:P):∀ n,IH n P:=by
 intro n;induction n with
 | zero=>exact h
 | succ n a=>exact⟨trivial,a⟩
theorem En {a b:Type} [DecidableEq a] [DecidableEq b] (p q:a × b):(decide (p.1=q.1)&&decide (p.2=q.2))=decide (p=q):=by rw[lp];simp[Prod.ext_iff]
namespace g1
abbrev bk:Kd:=.pair .fp (.pair .fp .fp)
theorem Vr:enters Tryz.prog 89 Tryz.f89:=ek
abbrev C8:HL [aN]->HO [.val bk]:=fun (p,_)=>(jm (F:=Fp) p,())
theorem Oi:aL Tryz.prog 89 [aN] [.val bk] bx (fun _=>True) C8:=by refine a8 (sp:=aP [fp.ta]) (aJ (aM fp.ti) bp) mixed Vr ae ae ?_;rintro w a ⟨p,⟨⟩⟩;revert p;intro (p:Fp × Fp) _ _;refine al (X:=(((decide (p.1=0)&&decide (p.2=0))=true->(((0:Fp),(0:Fp),(0:Fp)),())=C8 (p,()))/\((decide (p.1=0)&&decide (p.2=0))=false->gQ 1/\((p.1,p.2,(1:Fp)),())=C8 (p,())))) ab ?_;rw[En p ((0:Fp),(0:Fp))];refine⟨fun h=>?_,fun h=>⟨by constructor<;>decide,?_⟩⟩;show _=(jm p,());unfold jm;rw[aj (Odt h)];show _=(jm p,());unfold jm;rw[ah (Odf h)]
def GQ:Nat × Eng.Spec:=(89,aH [aN] [.val bk] (fun _=>True) C8)
theorem Su:enters Tryz.prog 92 Tryz.f92:=ek
abbrev zR:HL [bk]->HO [.val aN]:=fun (a,_)=>(iU (F:=Fp) a,())
theorem KW:aL Tryz.prog 92 [bk] [.val aN] bx (fun _=>True) zR:=by refine a8 (sp:=aP [fp.CD,fp.Ka,fp.fT,fp.kq]) (aJ (aM fp.yx) (aJ (aM fp.KS) (aJ (aM fp.jw) (aJ (aM fp.nM) bp)))) mixed Su ae ae ?_;rintro w b ⟨a,⟨⟩⟩;revert a;intro (a:Fp × Fp × Fp) _ _;refine al (X:=(True/\(decide (a.2.2=0)=true->(((0:Fp),(0:Fp)),())=zR (a,()))/\(decide (a.2.2=0)=false->IH 5 (((a.1*(fp.sf a.2.2*fp.sf a.2.2),a.2.1*(fp.sf a.2.2*fp.sf a.2.2)*fp.sf a.2.2),())=zR (a,()))))) ab ?_;refine⟨trivial,fun h=>?_,fun h=>PJ ?_ _⟩;show _=(iU a,());unfold iU;rw[aj (Odt h)];show _=(iU a,());unfold iU;rw[ah (Odf h)];rfl
def Du:Nat × Eng.Spec:=(92,aH [bk] [.val aN] (fun _=>True) zR)
theorem Qk:enters Tryz.prog 91 Tryz.f91:=ek
abbrev xj:HL [bk]->HO [.val bk]:=fun (a,_)=>(rD (F:=Fp) a,())
theorem IZ:aL Tryz.prog 91 [bk] [.val bk] bx (fun _=>True) xj:=by refine a8 (sp:=aP [fp.CD,fp.jM,fp.GR,fp.fT,fp.kq]) (aJ (aM fp.yx) (aJ (aM fp.nL) (aJ (aM fp.BT) (aJ (aM fp.jw) (aJ (aM fp.nM) bp))))) mixed Qk ae ae ?_;rintro w b ⟨a,⟨⟩⟩;revert a;intro (a:Fp × Fp × Fp) _ _;refine al (X:=(True/\(decide (a.2.2=0)=true->(((0:Fp),(0:Fp),(0:Fp)),())=xj (a,()))/\(decide (a.2.2=0)=false->IH 18 ((QM a,())=xj (a,()))))) ab ?_;refine⟨trivial,fun h=>?_,fun h=>PJ ?_ _⟩;show _=(rD a,());unfold rD;rw[aj (Odt h)];show _=(rD a,());unfold rD;rw[ah (Odf h)]
def E6:Nat × Eng.Spec:=(91,aH [bk] [.val bk] (fun _=>True) xj)
theorem yu:enters Tryz.prog 90 Tryz.f90:=ek
abbrev kP:HL [bk,bk]->HO [.val bk]:=fun (a,b,_)=>(nu (F:=Fp) a b,())
abbrev wd (a b:Fp × Fp × Fp):Fp:=b.1*(a.2.2*a.2.2)-a.1*(b.2.2*b.2.2)
abbrev rs (a b:Fp × Fp × Fp):Fp:=b.2.1*(a.2.2*a.2.2)*a.2.2-a.2.1*(b.2.2*b.2.2)*b.2.2
theorem nL:aL Tryz.prog 90 [bk,bk] [.val bk] bx (fun _=>True) kP:=by
 refine a8 (sp:=aP [fp.CD,fp.GR,fp.fT,fp.kq,E6]) (aJ (aM fp.yx) (aJ (aM fp.BT) (aJ (aM fp.jw) (aJ (aM fp.nM) (aJ (aM IZ) bp))))) mixed yu ae ae ?_;rintro w g ⟨a,b,⟨⟩⟩;revert a b;intro (a:Fp × Fp × Fp) (b:Fp × Fp × Fp) _ _
 refine al (X:=(True/\(decide (a.2.2=0)=true->(b,())=kP (a,b,()))/\(decide (a.2.2=0)=false->True/\(decide (b.2.2=0)=true->(a,())=kP (a,b,()))/\(decide (b.2.2=0)=false ->
  IH 11 ((decide (wd a b=0)=true->True/\(decide (rs a b=0)=true->True/\(rD (F:=Fp) a,())=kP (a,b,()))/\(decide (rs a b=0)=false->(((0:Fp),(0:Fp),(0:Fp)),())=kP (a,b,()))) /\
   (decide (wd a b=0)=false->IH 13 ((Wc (F:=Fp) (wd a b) (rs a b) (a.1*(b.2.2*b.2.2)) (a.2.1*(b.2.2*b.2.2)*b.2.2) a.2.2 b.2.2,())=kP (a,b,())))))))) ab ?_
 refine⟨trivial,fun h=>?_,fun h=>⟨trivial,fun d=>?_,fun d=>PJ ⟨fun e=>⟨trivial,fun f=>⟨trivial,?_⟩,fun f=>?_⟩,fun e=>PJ ?_ _⟩ _⟩⟩;all_goals show _=(nu a b,())
 all_goals unfold nu
 rw[aj (Odt h)];rw[ah (Odf h),aj (Odt d)];rw[ah (Odf h),ah (Odf d),aj (Odt e),aj (Odt f)];rw[ah (Odf h),ah (Odf d),aj (Odt e),ah (Odf f)];rw[ah (Odf h),ah (Odf d),ah (Odf e)]
def jM:Nat × Eng.Spec:=(90,aH [bk,bk] [.val bk] (fun _=>True) kP)
end g1
end Go.Proofs.YtofofalgjibokaaGreatDoor
namespace Cr
open Rg Fd
open Go.IntKind(i64 u64 u8)
open Go.IntKind(i64)
def dh (b:Int):Int:=Int.fdiv b (2^min (toNat 4) IntKind.u8.bits)
def dl (b:Int):Int:=aF .and .u8 b 15
theorem X3 {b:Int} (a:0<=b) (d:b<256):dh b=b/16/\0<=dh b/\dh b<16:=by
 have e:dh b=b/16:=by show Int.fdiv b (2^4)=b/16;rw[sr b ae];rfl
 rw[e];omega
theorem X4 {b:Int} (d:0<=b) (a:b<256):dl b=b%16/\0<=dl b/\dl b<16:=by
 obtain⟨n,rfl⟩:=jQ d;have f:n<256:=aa;have e:dl (n:Int)=(n:Int)%16:=by
  show IntKind.u8.wrap ((BitVec.ofInt 8 (n:Int) &&& BitVec.ofInt 8 15:BitVec 8).toNat:Int)=_;have a:(BitVec.ofInt 8 (n:Int)).toNat=n:=by rw[show BitVec.ofInt 8 (n:Int)=BitVec.ofNat 8 n from tz ..,qy,il aa]
  rw[tG,a,show (BitVec.ofInt 8 15).toNat=15 from rfl];have h:=AX n 4;rw[show 2^4-1=15 from rfl] at h;rw[h];have:IntKind.u8.wrap ((n%2^4:Nat):Int)=((n%2^4:Nat):Int):=by simp[IntKind.wrap,IntKind.signed,IntKind.bits];omega
  rw[this];omega
 rw[e];omega
section
variable {F:Type} [Fd F]
def yC (ps:List (F × F)):Nat->Jc F
 | 0=>(0,0,0)
 | k+1=>nu (yC ps k) (jm (ps.getD k (0,0)))
def jt (o:Jc F):Nat->Jc F
 | 0=>(0,0,0)
 | k+1=>nu (jt o k) o
def Lq (s:Jc F):Nat->Jc F
 | 0=>s
 | k+1=>rD (Lq s k)
def Ls (a:List (Jc F)) (s:Jc F) (d:Int):Jc F:=nu (Lq s 4) (a.getD d.toNat (0,0,0))
def Ja (d:List (Jc F)) (a:List Int) (s:Jc F):Nat->Jc F
 | 0=>s
 | j+1=>Ls d (Ja d a s j) (a.getD j 0)
def OD (a:List (Jc F)) (s:Jc F) (b:Int):Jc F:=Ja a [dh b,dl b] s 2
def B4 (a:List (Jc F)) (k:List Int):Nat->Jc F
 | 0=>(0,0,0)
 | i+1=>OD a (B4 a k i) (k.getD i 0)
def db (P:F × F):Nat->F × F
 | 0=>O2
 | n+1=>cc (db P n) P
def xU:List (F × F)->F × F
 | []=>O2
 | P::ps=>cc P (xU ps)
variable {b:F} (hb:b≠0)
include hb
theorem C2 {P:F × F} (c:gP b P) (n:Nat):gP b (db P n):=by
 induction n with
 | zero=>exact .inl rfl
 | succ n a=>exact yI hb a c
theorem oX {P:F × F} (a:gP b P) (m n:Nat):db P (m+n)=cc (db P m) (db P n):=by
 induction n with
 | zero=>exact (mq _).symm
 | succ n c=>show cc (db P (m+n)) P=cc (db P m) (cc (db P n) P);rw[c,Gr hb (C2 hb a m) (C2 hb a n) a]
theorem sS {P:F × F} (c:gP b P) (m n:Nat):db (db P m) n=db P (m*n):=by
 induction n with
 | zero=>rfl
 | succ n a=>show cc (db (db P m) n) (db P m)=_;rw[a,<- oX hb c];rfl
theorem Wo {P:F × F} (a:gP b P) (n:Nat):db (dD P) n=dD (db P n):=by
 induction n with
 | zero=>exact rS.symm
 | succ n c=>show cc (db (dD P) n) (dD P)=_;rw[c,<- L7 hb (C2 hb a n) a];rfl
omit hb in
theorem yF (n:Nat):db (O2:F × F) n=O2:=by
 induction n with
 | zero=>rfl
 | succ n a=>show cc (db O2 n) O2=O2;rw[a,jF]
omit hb in
theorem LJ {P:F × F}:db P 2=cc P P:=by show cc (cc O2 P) P=_;rw[jF]
omit hb in
theorem EG {P:F × F}:db P 1=P:=jF P
theorem aez {o:Jc F} {P:F × F} (h:mw b o P) (k:Nat):mw b (jt o k) (db P k):=by
 induction k with
 | zero=>exact .inl ⟨rfl,rfl⟩
 | succ k a=>exact Dp hb a h
theorem aa4 {s:Jc F} {P:F × F} {n:Nat} (c:gP b P) (h:mw b s (db P n)) (k:Nat):mw b (Lq s k) (db P (2^k*n)):=by
 induction k with
 | zero=>rw[Nat.pow_zero,mV];exact h
 | succ k a =>have:=Ii hb a;rw[<- oX hb c] at this;rw[lz,ly (2^k) 2,Nat.mul_assoc,Nat.two_mul];exact this
theorem Pb {s o:Jc F} {P:F × F} {n:Nat} (a:mw b o P) (h:mw b s (db P n)) {d:Int} (c:0<=d) (e:d<16):mw b (Ls (eZ (jt o) (0,0,0) 15) s d) (db P (16*n+d.toNat)):=by unfold Ls;rw[rh _ _ _ aa aa,oX hb a.on];exact Dp hb (aa4 hb a.on h 4) (aez hb a _)
theorem aa3 {s o:Jc F} {P:F × F} {n:Nat} (f:mw b o P) (h:mw b s (db P n)) {c:Int} (a:0<=c) (d:c<256):mw b (OD (eZ (jt o) (0,0,0) 15) s c) (db P (256*n+c.toNat)):=by
 obtain⟨l,g,i⟩:=X3 a d;obtain⟨m,j,k⟩:=X4 a d;have:=Pb hb f (Pb hb f h g i) j k;have e:16*(16*n+(dh c).toNat)+(dl c).toNat=256*n+c.toNat:=by rw[l,m];omega
 rw[e] at this;exact this
omit hb in
theorem Wr {k:List Int} {i:Nat} (h:i<k.length):num (k.take (i+1))=num (k.take i)*256+k.getD i 0:=by unfold num;rw[cr h,Bh];simp[h]
theorem aa6 {o:Jc F} {P:F × F} (f:mw b o P) {k:List Int} (d:Bs k) (i:Nat) (j:i<=k.length):0<=num (k.take i)/\mw b (B4 (eZ (jt o) (0,0,0) 15) k i) (db P (num (k.take i)).toNat):=by
 induction i with
 | zero=>exact⟨by simp[num],.inl ⟨rfl,by simp[num,db]⟩⟩
 | succ i g =>
  obtain⟨h,c⟩:=g aa;have a:0<=k.getD i 0/\k.getD i 0<256:=by
   have:k.getD i 0∈k:=by rw[aX,bz aa];exact dx aa
   exact d _ this
  have:=aa3 hb f c a.1 a.2;rw[Wr aa];refine⟨aa,?_⟩;have e:(num (k.take i)*256+k.getD i 0).toNat=256*(num (k.take i)).toNat+(k.getD i 0).toNat:=aa;rw[e];exact this
theorem MJ {P:F × F} (c:gP b P) {k:List Int} (a:Bs k):iU (B4 (eZ (jt (jm P)) (0,0,0) 15) k k.length)=db P (num k).toNat:=by have:=(aa6 hb (EX c) a k.length (aE _)).2;rw[aV] at this;exact Jv this
theorem aa0 {a:List (F × F)} (h:∀ P∈a,gP b P):gP b (xU a):=by
 induction a with
 | nil=>exact .inl rfl
 | cons P a d=>exact yI hb (h P au) (d (fun Q c=>h Q (by simp[c])))
theorem TM {a:List (F × F)} (h:∀ P∈a,gP b P) {Q:F × F} (e:gP b Q):xU (a++[Q])=cc (xU a) Q:=by
 induction a with
 | nil=>show cc Q O2=cc O2 Q;rw[mq,jF]
 | cons P a d =>show cc P (xU (a++[Q]))=cc (cc P (xU a)) Q;rw[d (fun R c=>h R (by simp[c])),Gr hb (h P au) (aa0 hb (fun R c=>h R (by simp[c]))) e]
theorem aa5 {a:List (F × F)} (h:∀ P∈a,gP b P) (i:Nat) (g:i<=a.length):mw b (yC a i) (xU (a.take i)):=by
 induction i with
 | zero=>exact .inl ⟨rfl,by simp[xU]⟩
 | succ i f =>
  have e:a.getD i (0,0)=a[i]:=by simp[show i<a.length by omega]
  have c:gP b (a[i]):=h _ (dx _);rw[cr aa,TM hb (fun P d=>h P (ng d)) c];show mw b (nu (yC a i) (jm (a.getD i (0,0)))) _;rw[e];exact Dp hb (f aa) (EX c)
theorem ae0 {ps:List (F × F)} (h:∀ P∈ps,gP b P):iU (yC ps ps.length)=xU ps:=by have:=aa5 hb h ps.length (aE _);rw[aV] at this;exact Jv this
theorem add_eq {P Q:F × F} (c:gP b P) (d:gP b Q):iU (yC [P,Q] 2)=cc P Q:=by have:=ae0 hb (ps:=[P,Q]) (by intro R a;simp at a;rcases a with rfl|rfl<;>assumption);rw[show xU [P,Q]=cc P Q by show cc P (cc Q O2)=_;rw[mq]] at this;exact this
end
end Cr
namespace Go.Proofs.YtofofalgjibokaaGreatDoor
namespace g1
open Go.IntKind(i64 u64 u8)
open Go.IntKind(i64)
abbrev bc (s:Fp × Fp × Fp):List Cell:=[.row .fp 1 [s.1],.row .fp 1 [s.2.1],.row .fp 1 [s.2.2]]
abbrev pc (s:Fp × Fp):List Cell:=[.row .fp 1 [s.1],.row .fp 1 [s.2]]
theorem HG:enters Tryz.prog 128 Tryz.f128:=ek
def It (a:List (Fp × Fp)) (g:Int × (Fp × Fp × Fp)):St:=ar Tryz.f128.ntmps 40 [(2,.is (.one (.ptr 0 0))),(3,.is (.one (.ptr 8 0))),(6,.is (.one (.ro aN a))),(7,sI .i64 a.length),(8,sI .i64 g.1)] [(8,bc g.2),(0,pc (0,0))]
def aeZ (a:List (Fp × Fp)) (g:Int × (Fp × Fp × Fp)):Int × (Fp × Fp × Fp):=(IntKind.i64.wrap (g.1+1),nu (F:=Fp) g.2 (jm (F:=Fp) (a.getD g.1.toNat (0,0))))
abbrev Mb:HL [.sl aN]->Prop:=fun (a,_)=>length a<4611686018427387904
abbrev Gp:HL [.sl aN]->HO [.val aN]:=fun (a,_)=>(iU (F:=Fp) (yC a (length a)),())
theorem KY:aL Tryz.prog 128 [.sl aN] [.val aN] bx Mb Gp:=by
 have d:aD Tryz.prog (aP [GQ,jM,Du]):=aJ (aM Oi) (aJ (aM nL) (aJ (aM KW) bp));refine bI (sp:=aP [GQ,jM,Du]) HG ae ae ab ?_;rintro w i ⟨b,⟨⟩⟩;revert b;intro (b:List (Fp × Fp)) _ f;have f:b.length<4611686018427387904:=f;show Tr _ _ _ _ _ _ _;refine bd d mixed 3 (It b (0,yC b 0)) True ?_ (fun _=>?_);exact al (X:=(It b (0,yC b 0)).ag True) ab (ao trivial);refine fW d mixed (It b) (fun k=>((k:Int),yC b k)) b.length (aeZ b) (It b) (c:=aq (ak Tryz.f128) 3) ab ab (aw ab ab trivial)
  (fun k g=>by show (_,_)=(_,_);rw[aS aa];rfl) ?_ ?_
 ·intro k g;generalize j:yC b k=s
  refine al (X:=((decide ((k:Int)<(b.length:Int))=true->(0<=(k:Int)/\(k:Int)<(b.length:Int))/\(k:Int).toNat<b.length/\True/\True/\(It b (aeZ b ((k:Int),s))).ag (k<b.length)) /\
   (decide ((k:Int)<(b.length:Int))=false->(It b ((k:Int),s)).ag (k=b.length)))) ab ?_
  refine⟨fun h=>?_,fun h=>ao (by have:=bW h;omega)⟩;have e:k<b.length:=by have:=dec_lt h;omega
  exact⟨⟨aa,aa⟩,aa,trivial,trivial,ao e⟩
 refine bE d mixed _ _ ?_;exact al (X:=(True/\(iU (F:=Fp) (yC b b.length),())=Gp (b,()))) ab ⟨trivial,rfl⟩
def Kb:Nat × Eng.Spec:=(128,aH [.sl aN] [.val aN] Mb Gp)
theorem Vu:enters Tryz.prog 87 Tryz.f87:=ek
abbrev OV:HL [aN,aN]->HO [.val aN]:=fun (p,q,_)=>(iU (F:=Fp) (yC [p,q] 2),())
theorem Z7:aL Tryz.prog 87 [aN,aN] [.val aN] bx (fun _=>True) OV:=by refine a8 (sp:=aP [Kb]) (aJ (aM KY) bp) mixed Vu ae ae ?_;rintro w a ⟨p,q,⟨⟩⟩;revert p q;intro (p:Fp × Fp) (q:Fp × Fp) _ _;refine al (X:=((0+2:Nat)<=2/\Mb ([p,q],())/\Gp ([p,q],())=OV (p,q,()))) ab ?_;exact⟨ae,show (2:Nat)<4611686018427387904 by decide,rfl⟩
theorem Vx:enters Tryz.prog 86 Tryz.f86:=ek
abbrev H2:HL [aN]->HO [.val aN]:=fun (p,_)=>(dD (F:=Fp) p,())
theorem Ol:aL Tryz.prog 86 [aN] [.val aN] bx (fun _=>True) H2:=by refine a8 (sp:=aP [fp.Aj]) (aJ (aM fp.yw) bp) mixed Vx ae ae ?_;rintro w a ⟨p,⟨⟩⟩;revert p;intro (p:Fp × Fp) _ _;exact al (X:=(True/\(((p.1,-p.2),())=H2 (p,())))) ab ⟨trivial,rfl⟩
def aeW:Nat × Eng.Spec:=(86,aH [aN] [.val aN] (fun _=>True) H2)
def b4:Fp:=zm 4
theorem acg:enters Tryz.prog 166 Tryz.f166:=ek
def xP (p:Fp × Fp):Bool:=decide (p=((0:Fp),(0:Fp)))||decide (p.2*p.2=p.1*p.1*p.1+b4)
theorem Ez (p:Fp × Fp):xP p=true↔gP b4 p:=by unfold xP gP On;simp
abbrev C9:HL [aN]->HO [.val .bool]:=fun (p,_)=>(xP p,())
theorem X7:aL Tryz.prog 166 [aN] [.val .bool] bx (fun _=>True) C9:=by refine a8 (sp:=aP [fp.fT,fp.kq,fp.ta,fp.jM]) (aJ (aM fp.jw) (aJ (aM fp.nM) (aJ (aM fp.ti) (aJ (aM fp.nL) bp)))) mixed acg ae ae ?_;rintro w a ⟨p,⟨⟩⟩;revert p;intro (p:Fp × Fp) _ _;refine al (X:=(((decide (p.1=0)&&decide (p.2=0))=true->(true,())=C9 (p,()))/\((decide (p.1=0)&&decide (p.2=0))=false->IH 3 (gQ 4/\True/\(decide (p.2*p.2=p.1*p.1*p.1+b4),())=C9 (p,()))))) ab ?_;rw[En p ((0:Fp),(0:Fp))];refine⟨fun h=>?_,fun h=>PJ ⟨by constructor<;>decide,trivial,?_⟩ _⟩;simp only[C9,xP,h,Bool.true_or];simp only[C9,xP,h,Bool.false_or]
def ajk:Nat × Eng.Spec:=(166,aH [aN] [.val .bool] (fun _=>True) C9)
abbrev Jp:=Fp × Fp × Fp
def PA (k:List Int) (o:Jp) (g:Int × List Jp):St:=ar Tryz.f52.ntmps 64 [(1,.is (.one (.ro (.int .u8) k))),(4,.is (.one (.ptr 8 0))),(5,.is (.one (.ptr 16 0))),(6,.is (.one (.ptr 40 0))),(15,sI .i64 g.1)] [(40,bc o),(16,[.row bk 16 g.2]),(8,pc (0,0))]
def tmS (k:List Int) (b:List Jp) (s:Jp) (a:Nat) (c:List (Nat × SV)):St:=ar Tryz.f52.ntmps a ([(4,.is (.one (.ptr 8 0))),(5,.is (.one (.ptr 16 0))),(8,.is (.one (.ptr 64 0))),(27,.is (.one (.ro (.int .u8) k))),(28,sI .i64 k.length)]++c) [(64,bc s),(16,[.row bk 16 b]),(8,pc (0,0))]
abbrev G7 (k:List Int) (a:List Jp) (g:Int × Jp):St:=tmS k a g.2 96 [(29,sI .i64 g.1)]
abbrev D6 (k:List Int) (b:List Jp) (i:Int) (a:List Int) (g:Int × Jp):St:=tmS k b g.2 168 [(29,sI .i64 i),(37,.is (.agg [.ints .u8 2 a])),(38,sI .i64 g.1)]
abbrev PB (k:List Int) (b:List Jp) (i:Int) (a:List Int) (j d:Int) (g:Int × Jp):St:=tmS k b g.2 184 [(29,sI .i64 i),(37,.is (.agg [.ints .u8 2 a])),(38,sI .i64 j),(12,sI .u8 d),(41,sI .i64 g.1)]
theorem tY:enters Tryz.prog 52 Tryz.f52:=ek
abbrev dA:HL [aN,.sl (.int .u8)]->Prop:=fun (_,k,_)=>Bs k/\length k<4611686018427387904
abbrev jd:HL [aN,.sl (.int .u8)]->HO [.val aN]:=fun (p,k,_)=>(iU (F:=Fp) (B4 (eZ (jt (jm (F:=Fp) p)) (0,0,0) 15) k (length k)),())
theorem gV:aL Tryz.prog 52 [aN,.sl (.int .u8)] [.val aN] bx dA jd:=by
 have f:aD Tryz.prog (aP [GQ,jM,Du,E6]):=aJ (aM Oi) (aJ (aM nL) (aJ (aM KW) (aJ (aM IZ) bp)));refine bI (sp:=aP [GQ,jM,Du,E6]) tY ae ae ab ?_;rintro w V ⟨p,k,⟨⟩⟩;revert p k;intro (p:Fp × Fp) (k:List Int) _ U;obtain⟨C,I⟩:=U;have C:Bs k:=C;have I:k.length<4611686018427387904:=I;show Tr _ _ _ _ _ _ _;refine bd f mixed 4 (PA k (jm (F:=Fp) p) (0,eZ (jt (jm (F:=Fp) p)) (0,0,0) 0)) True ?_ (fun _=>?_);exact al (X:=(True/\(PA k (jm (F:=Fp) p) (0,eZ (jt (jm (F:=Fp) p)) (0,0,0) 0)).ag True)) ab ⟨trivial,ao trivial⟩;generalize T:jm (F:=Fp) p=o;refine fW f mixed (PA k o) (fun n=>((n:Int),eZ (jt o) (0,0,0) n)) 15 (fun g=>(i64.wrap (g.1+1),g.2.set (i64.wrap (g.1+1)).toNat (nu (F:=Fp) (g.2.getD g.1.toNat (0,0,0)) o))) (PA k o) (c:=aq (ak Tryz.f52) 4) ab ab (aw ab ab trivial)
  (fun n D=>by
   show (_,_)=(_,_)
   rw[aS aa,aB,aB,rh _ _ _ (aE n) aa,show nu (F:=Fp) (jt o n) o=jt o (n+1) from rfl,CG]) ?_ ?_
 ·intro n D;generalize eZ (jt o) (0,0,0) n=a
  refine al (X:=((decide ((n:Int)<15)=true->(0<=(n:Int)/\(n:Int)<(16:Int))/\(n:Int).toNat<16/\True/\(0<=i64.wrap ((n:Int)+1)/\i64.wrap ((n:Int)+1)<(16:Int))/\(i64.wrap ((n:Int)+1)).toNat<16 /\
    (PA k o (i64.wrap ((n:Int)+1),a.set (i64.wrap ((n:Int)+1)).toNat (nu (F:=Fp) (a.getD (n:Int).toNat (0,0,0)) o))).ag (n<15)) /\
   (decide ((n:Int)<15)=false->(PA k o ((n:Int),a)).ag (n=15)))) ab ?_
  refine⟨fun h=>?_,fun h=>ao (by have:=bW h;omega)⟩;have l:n<15:=by have:=dec_lt h;omega
  rw[aS aa];exact⟨⟨aa,aa⟩,aa,trivial,⟨aa,aa⟩,aa,ao l⟩
 subst T;show Tr _ _ _ _ _ _ _;generalize E:eZ (jt (jm (F:=Fp) p)) (0,0,0) 15=a;refine bd f mixed 2 (G7 k a (0,B4 a k 0)) True ?_ (fun _=>?_);exact al (X:=(G7 k a (0,B4 a k 0)).ag True) ab (ao trivial);refine xA (G7 k a) (fun i=>((i:Int),B4 a k i)) k.length (fun g=>(i64.wrap (g.1+1),OD a g.2 (k.getD g.1.toNat 0))) (G7 k a) (c:=aq (ak Tryz.f52) 7) ab ab (aw ab ab trivial)
  (fun i R=>by show (_,_)=(_,_);rw[aS aa,aB];rfl) ?_ ?_
 ·intro i R;generalize B4 a k i=s;refine bd f mixed 2 (G7 k a ((i:Int),s)) (i<k.length) ?_ (fun l=>?_);refine al (X:=((decide ((i:Int)<(k.length:Int))=true->(G7 k a ((i:Int),s)).ag (i<k.length))/\(decide ((i:Int)<(k.length:Int))=false->(G7 k a ((i:Int),s)).ag (i=k.length)))) ab ?_;exact⟨fun h=>ao (by have:=dec_lt h;omega),fun h=>ao (by have:=bW h;omega)⟩;have m:0<=k.getD i 0/\k.getD i 0<256:=by
   have:k.getD i 0∈k:=by rw[aX,bz l];exact dx l
   exact C _ this
  have q:k.getD (i:Int).toNat 0=k.getD i 0:=by rw[aB]
  generalize Q:k.getD i 0=b at m q;obtain⟨_,K,L⟩:=X3 m.1 m.2;obtain⟨_,N,O⟩:=X4 m.1 m.2;refine mf (c:=aq (aZ (aq (ak Tryz.f52) 7)) 2) ab ab ?_;refine bd f mixed 2 (D6 k a (i:Int) [dh (k.getD (i:Int).toNat 0),dl (k.getD (i:Int).toNat 0)] (0,Ja a [dh b,dl b] s 0)) True ?_ (fun _=>?_);refine al (X:=((0<=(i:Int)/\(i:Int)<(k.length:Int))/\(i:Int).toNat<k.length/\(0:Int)<=4/\(D6 k a (i:Int) [dh (k.getD (i:Int).toNat 0),dl (k.getD (i:Int).toNat 0)] (0,Ja a [dh b,dl b] s 0)).ag True)) ab ?_;exact⟨⟨aa,aa⟩,aa,ae,ao trivial⟩;rw[q];generalize t:[dh b,dl b]=e;have x:∀ j,j<2->0<=e.getD j 0/\e.getD j 0<16:=by
   intro j A;subst t;match j,A with
   | 0,_=>exact⟨K,L⟩
   | 1,_=>exact⟨N,O⟩
  refine xA (D6 k a (i:Int) e) (fun j=>((j:Int),Ja a e s j)) 2 (fun g=>(i64.wrap (g.1+1),Ls a g.2 (e.getD g.1.toNat 0))) (D6 k a (i:Int) e) (c:=aq (da (aq (aZ (aq (ak Tryz.f52) 7)) 2)) 2) ab ab (aw ab ab trivial)
   (fun j A=>by show (_,_)=(_,_);rw[aS aa,aB];rfl) ?_ ?_
  ·intro j A;generalize Ja a e s j=y;refine bd f mixed 2 (D6 k a (i:Int) e ((j:Int),y)) (j<2) ?_ (fun u=>?_);refine al (X:=((decide ((j:Int)<2)=true->(D6 k a (i:Int) e ((j:Int),y)).ag (j<2))/\(decide ((j:Int)<2)=false->(D6 k a (i:Int) e ((j:Int),y)).ag (j=2)))) ab ?_;exact⟨fun h=>ao (by have:=dec_lt h;omega),fun h=>ao (by have:=bW h;omega)⟩;have H:=x j u;have r:e.getD (j:Int).toNat 0=e.getD j 0:=by rw[aB]
   generalize e.getD j 0=d at H r;refine mf (c:=aq (aZ (aq (da (aq (aZ (aq (ak Tryz.f52) 7)) 2)) 2)) 2) ab ab ?_;refine bd f mixed 2 (PB k a (i:Int) e (j:Int) (e.getD (j:Int).toNat 0) (0,Lq y 0)) True ?_ (fun _=>?_);refine al (X:=((0<=(j:Int)/\(j:Int)<(2:Int))/\(PB k a (i:Int) e (j:Int) (e.getD (j:Int).toNat 0) (0,Lq y 0)).ag True)) ab ?_;exact⟨⟨aa,aa⟩,ao trivial⟩;rw[r];refine fW f mixed (PB k a (i:Int) e (j:Int) d) (fun n=>((n:Int),Lq y n)) 4 (fun g=>(i64.wrap (g.1+1),rD (F:=Fp) g.2)) (PB k a (i:Int) e (j:Int) d) (c:=aq (da (aq (aZ (aq (da (aq (aZ (aq (ak Tryz.f52) 7)) 2)) 2)) 2)) 2) ab ab (aw ab ab trivial)
    (fun n D=>by show (_,_)=(_,_);rw[aS aa];rfl) ?_ ?_
   intro n D;generalize Lq y n=z;refine al (X:=((decide ((n:Int)<4)=true->True/\(PB k a (i:Int) e (j:Int) d (i64.wrap ((n:Int)+1),rD (F:=Fp) z)).ag (n<4))/\(decide ((n:Int)<4)=false->(PB k a (i:Int) e (j:Int) d ((n:Int),z)).ag (n=4)))) ab ?_;exact⟨fun h=>⟨trivial,ao (by have:=dec_lt h;omega)⟩,fun h=>ao (by have:=bW h;omega)⟩;refine bd f mixed 1 (D6 k a (i:Int) e ((j:Int),Ls a y d)) True ?_ (fun _=>?_);refine al (X:=((0<=d/\d<(16:Int))/\d.toNat<16/\True/\(D6 k a (i:Int) e ((j:Int),Ls a y d)).ag True)) ab ?_;exact⟨⟨H.1,aa⟩,aa,trivial,ao trivial⟩;refine ke ?_;refine bE f mixed _ _ ?_;exact al (X:=(D6 k a (i:Int) e (i64.wrap ((j:Int)+1),Ls a y d)).ag (j<2)) ab (ao u)
  refine ke ?_;refine bE f mixed _ _ ?_;have P:OD a s b=Ja a e s 2:=by unfold OD;rw[t]
  show VC _ _ _ (fun G=>G.le _ (G7 k a (i64.wrap ((i:Int)+1),OD a s b)) (i<k.length)) _ _;rw[P];generalize Ja a e s 2=z;exact al (X:=(G7 k a (i64.wrap ((i:Int)+1),z)).ag (i<k.length)) ab (ao l)
 refine bE f mixed _ _ ?_;refine al (X:=(True/\(iU (F:=Fp) (B4 a k k.length),())=jd (p,k,()))) ab ⟨trivial,?_⟩;show _=(iU (F:=Fp) (B4 (eZ (jt (jm (F:=Fp) p)) (0,0,0) 15) k k.length),());rw[E]
def iI:Nat × Eng.Spec:=(52,aH [aN,.sl (.int .u8)] [.val aN] dA jd)
def Y3 (p:Fp × Fp) (k:List Int):Fp × Fp:=iU (F:=Fp) (B4 (eZ (jt (jm (F:=Fp) p)) (0,0,0) 15) k (length k))
def Jq (p:Fp × Fp) (k:Fr):Fp × Fp:=Y3 p (dt 32 k.v)
theorem Vw:enters Tryz.prog 20 Tryz.f20:=ek
abbrev HZ:HL [aN,.fr]->HO [.val aN]:=fun (p,k,_)=>(Jq p k,())
theorem Oj:aL Tryz.prog 20 [aN,.fr] [.val aN] bx (fun _=>True) HZ:=by refine a8 (sp:=aP [fr.vk,iI]) (aJ (aM fr.sF) (aJ (aM gV) bp)) mixed Vw ae ae ?_;rintro w a ⟨p,k,⟨⟩⟩;revert p k;intro (p:Fp × Fp) (k:Fr) _ _;refine al (X:=(True/\0+32<=32/\dA (p,(dt 32 k.v).take 32,())/\(Y3 p ((dt 32 k.v).take 32),())=HZ (p,k,()))) ab ?_;rw[bQ (by rw[gO];exact aE _)];exact⟨trivial,ae,⟨wV _ _,by show (dt 32 k.v).length<_;rw[gO];decide⟩,rfl⟩
def aeV:Nat × Eng.Spec:=(20,aH [aN,.fr] [.val aN] (fun _=>True) HZ)
end g1
namespace ref01
open Go.IntKind(i64 u64 u8)
open Go.IntKind(i64)
theorem Vg:enters Tryz.prog 34 Tryz.f34:=ek
def N4 (b:List Int) (g:Int × List Int):St:=ar Tryz.f34.ntmps 64 [(0,.is (.one (.ro (.int .u8) b))),(3,.is (.one (.sl 24 0 0 (b.length:Int).toNat 1))),(9,sI .i64 b.length),(10,sI .i64 g.1)] [(24,[.ints .u8 (b.length:Int).toNat g.2])]
def FE (b:List Int) (k:Nat):List Int:=b.take k++replicate (b.length-k) 0
theorem U9 {b:List Int} {k:Nat} (h:k<b.length):(FE b k).set k (b.getD k 0)=FE b (k+1):=by
 unfold FE;rw[qg _ _ (by simp;omega),cr h];have e:b.length-k=(b.length-(k+1))+1:=aa;have a:k-(b.take k).length=0:=by simp;omega
 rw[a,e,oN,oy,cB];simp[h]
abbrev H8:HL [.sl (.int .u8)]->Prop:=fun (b,_)=>length b<=281474976710656
abbrev C7:HL [.sl (.int .u8)]->HO [.own (.int .u8)]:=fun (b,_)=>(b,())
theorem ZW:aL Tryz.prog 34 [.sl (.int .u8)] [.own (.int .u8)] bx H8 C7:=by
 have a:aD Tryz.prog (aP []):=bp;refine bI (sp:=aP []) Vg ae ae ab ?_;rintro w j ⟨b,⟨⟩⟩;revert b;intro (b:List Int) _ f;have f:b.length<=281474976710656:=f;show Tr _ _ _ _ _ _ _;refine bd a mixed 3 (N4 b (0,replicate (b.length:Int).toNat 0)) True ?_ (fun _=>?_);refine al (X:=((0<=(b.length:Int)/\(b.length:Int)<=(b.length:Int)/\1*(b.length:Int)<=281474976710656/\(b.length:Int)<=9223372036854775807)/\(N4 b (0,replicate (b.length:Int).toNat 0)).ag True)) ab ?_;exact⟨⟨aa,aa,aa,aa⟩,ao trivial⟩;rw[show replicate (b.length:Int).toNat (0:Int)=FE b 0 by simp[FE]];refine fW a mixed (N4 b) (fun k=>((k:Int),FE b k)) b.length (fun g=>(IntKind.i64.wrap (g.1+1),g.2.set g.1.toNat (b.getD g.1.toNat 0))) (N4 b) (c:=aq (ak Tryz.f34) 3) ab ab (aw ab ab trivial)
  (fun k e=>by show (_,_)=(_,_);rw[aS aa,aB,U9 e]) ?_ ?_
 ·intro k e;generalize FE b k=i
  refine al (X:=((decide ((k:Int)<(b.length:Int))=true->(0<=(k:Int)/\(k:Int)<(b.length:Int))/\(k:Int).toNat<b.length/\(0<=(k:Int)/\(k:Int)<((b.length:Int).toNat:Int))/\(k:Int).toNat<(b.length:Int).toNat/\(N4 b (IntKind.i64.wrap ((k:Int)+1),i.set (k:Int).toNat (b.getD (k:Int).toNat 0))).ag (k<b.length)) /\
   (decide ((k:Int)<(b.length:Int))=false->(N4 b ((k:Int),i)).ag (k=b.length)))) ab ?_
  refine⟨fun h=>?_,fun h=>ao (by have:=bW h;omega)⟩;have d:k<b.length:=by have:=dec_lt h;omega
  exact⟨⟨aa,aa⟩,aa,⟨aa,aa⟩,aa,ao d⟩
 refine bE a mixed _ _ ?_;refine al (X:=(0+(b.length:Int).toNat<=(b.length:Int).toNat/\(((FE b b.length).take (b.length:Int).toNat,()):List Int × Unit)=C7 (b,()))) ab ⟨aa,?_⟩;simp[FE,C7]
def Uh:Nat × Eng.Spec:=(34,aH [.sl (.int .u8)] [.own (.int .u8)] H8 C7)
end ref01
namespace g1
open Go.IntKind(i64 u64 u8)
open Go.IntKind(i64)
theorem np:b4≠0:=ae
def gG:Fp × Fp:=eS (gx,gy)
def n8 (p q:Fp × Fp):Fp × Fp:=eS (iU (F:=Fp) (yC [p,q] 2))
def BW (p:Fp × Fp):Fp × Fp:=eS (dD (F:=Fp) p)
def sL (p:Fp × Fp) (k:List Int):Fp × Fp:=eS (Y3 p k)
def cV (p:Fp × Fp) (k:Fr):Fp × Fp:=eS (Jq p k)
def oV (p:Fp × Fp):Bool:=eS (xP p)
theorem K0:aL Tryz.prog 19 [] [.val aN] bx (fun _=>True) (fun _=>(gG,())):=acw.out fun _=>by show (gG,())=((gx,gy),());rw[gG,bf]
theorem SK:aL Tryz.prog 87 [aN,aN] [.val aN] bx (fun _=>True) (fun (p,q,_)=>(n8 p q,())):=Z7.out fun (p,q,_)=>by show (n8 p q,())=(_,());rw[n8,bf]
theorem ac2:aL Tryz.prog 86 [aN] [.val aN] bx (fun _=>True) (fun (p,_)=>(BW p,())):=Ol.out fun (p,_)=>by show (BW p,())=(_,());rw[BW,bf]
theorem VV:aL Tryz.prog 52 [aN,.sl (.int .u8)] [.val aN] bx dA (fun (p,k,_)=>(sL p k,())):=gV.out fun (p,k,_)=>by show (sL p k,())=(_,());rw[sL,bf];rfl
theorem FQ:aL Tryz.prog 20 [aN,.fr] [.val aN] bx (fun _=>True) (fun (p,k,_)=>(cV p k,())):=Oj.out fun (p,k,_)=>by show (cV p k,())=(_,());rw[cV,bf]
theorem afC:aL Tryz.prog 166 [aN] [.val .bool] bx (fun _=>True) (fun (p,_)=>(oV p,())):=X7.out fun (p,_)=>by show (oV p,())=(_,());rw[oV,bf]
def J9:Nat × Eng.Spec:=(19,aH [] [.val aN] (fun _=>True) (fun _=>(gG,())))
def J8:Nat × Eng.Spec:=(87,aH [aN,aN] [.val aN] (fun _=>True) (fun (p,q,_)=>(n8 p q,())))
def YU:Nat × Eng.Spec:=(86,aH [aN] [.val aN] (fun _=>True) (fun (p,_)=>(BW p,())))
def Pm:Nat × Eng.Spec:=(52,aH [aN,.sl (.int .u8)] [.val aN] dA (fun (p,k,_)=>(sL p k,())))
def Ds:Nat × Eng.Spec:=(20,aH [aN,.fr] [.val aN] (fun _=>True) (fun (p,k,_)=>(cV p k,())))
def aeP:Nat × Eng.Spec:=(166,aH [aN] [.val .bool] (fun _=>True) (fun (p,_)=>(oV p,())))
abbrev IF (p:Fp × Fp):Prop:=gP b4 p
theorem JW:gG=(gx,gy):=bf _
theorem Yc:IF gG:=by rw[JW];exact (Ez _).1 (by decide +kernel)
theorem Ot {p q:Fp × Fp} (a:IF p) (b:IF q):n8 p q=cc p q:=by rw[n8,bf];exact add_eq np a b
theorem aak (p:Fp × Fp):BW p=dD p:=bf _
theorem aap {p:Fp × Fp} (b:IF p) {k:List Int} (a:Bs k):sL p k=db p (num k).toNat:=by rw[sL,bf];exact MJ np b a
theorem nY {p:Fp × Fp} (a:IF p) (k:Fr):cV p k=db p k.v.toNat:=by rw[cV,bf,Jq,Y3,MJ np a (wV _ _),Gj 32 _ k.nn (Int.lt_trans k.lt ae)]
theorem vb (p:Fp × Fp):oV p=true↔IF p:=by rw[oV,bf];exact Ez p
end g1
end Go.Proofs.YtofofalgjibokaaGreatDoor
namespace Cr
open Rg Fd
open Go.IntKind(i64 u64 u8)
open Go.IntKind(i64)
structure Ev (F:Type) [Fd F] where
 V:Type
 φ:V->F
 add:V->V->V
 sub:V->V->V
 mul:V->V->V
 isz:V->Bool
 zero:V
 force:{α:Type}->V->(V->α)->α
 add_φ:∀ a b,φ (add a b)=φ a+φ b
 sub_φ:∀ a b,φ (sub a b)=φ a-φ b
 mul_φ:∀ a b,φ (mul a b)=φ a*φ b
 isz_φ:∀ a,isz a=true↔φ a=0
 zero_φ:φ zero=0
 force_eq:∀ {α:Type} (a:V) (k:V->α),force a k=k a
section
variable {F:Type} [Fd F] (E:Ev F)
abbrev Ev.J:=E.V × E.V × E.V
def Ev.φ3 (a:E.J):Jc F:=(E.φ a.1,E.φ a.2.1,E.φ a.2.2)
def Ev.Se (a:E.J):E.J:=match E.isz a.2.2 with
 | true=>(E.zero,E.zero,E.zero)
 | false =>
  E.force (E.mul a.1 a.1) fun e=>E.force (E.mul a.2.1 a.2.1) fun f=>E.force (E.add (E.add e e) e) fun d =>
  E.force (E.mul a.1 f) fun g=>E.force (E.add g g) fun h=>E.force (E.add h h) fun c =>
  E.force (E.add f f) fun i=>E.force (E.mul i i) fun b =>
  E.force (E.sub (E.sub (E.mul d d) c) c) fun x =>
  E.force (E.sub (E.sub (E.mul d (E.sub c x)) b) b) fun y =>
  E.force (E.mul a.2.1 a.2.2) fun j=>E.force (E.add j j) fun z=>(x,y,z)
theorem Ev.X1 (a:E.J):E.φ3 (E.Se a)=rD (E.φ3 a):=by
 unfold Ev.Se rD;cases h:E.isz a.2.2 with
 | true =>have:(E.φ3 a).2.2=0:=(E.isz_φ _).1 h;rw[aj this];show (E.φ E.zero,E.φ E.zero,E.φ E.zero)=_;rw[E.zero_φ]
 | false =>
  have:(E.φ3 a).2.2≠0:=fun e=>by have:=(E.isz_φ a.2.2).2 e;rw[h] at this;cases this
  rw[ah this];simp only[E.force_eq];simp only[Ev.φ3,QM,Tf,E.add_φ,E.sub_φ,E.mul_φ]
def Ev.nu (a c:E.J):E.J:=match E.isz a.2.2 with
 | true=>c
 | false=>match E.isz c.2.2 with
  | true=>a
  | false =>
   E.force (E.mul a.2.2 a.2.2) fun i=>E.force (E.mul c.2.2 c.2.2) fun j =>
   E.force (E.mul a.1 j) fun left=>E.force (E.mul c.1 i) fun right =>
   E.force (E.mul (E.mul a.2.1 j) c.2.2) fun g=>E.force (E.mul (E.mul c.2.1 i) a.2.2) fun f =>
   E.force (E.sub right left) fun b=>E.force (E.sub f g) fun d =>
   match E.isz b with
   | true=>match E.isz d with
    | true=>E.Se a
    | false=>(E.zero,E.zero,E.zero)
   | false =>
    E.force (E.mul b b) fun k=>E.force (E.mul k b) fun e=>E.force (E.mul left k) fun h =>
    E.force (E.sub (E.sub (E.sub (E.mul d d) e) h) h) fun x =>
    E.force (E.sub (E.mul d (E.sub h x)) (E.mul g e)) fun y =>
    E.force (E.mul (E.mul a.2.2 c.2.2) b) fun z=>(x,y,z)
theorem Ev.adW (a c:E.J):E.φ3 (E.nu a c)=Cr.nu (E.φ3 a) (E.φ3 c):=by
 have nz:∀ v:E.V,E.isz v=false->E.φ v≠0:=fun v h e=>by have:=(E.isz_φ v).2 e;rw[h] at this;cases this
 unfold Ev.nu Cr.nu;cases h:E.isz a.2.2 with
 | true=>rw[aj (show (E.φ3 a).2.2=0 from (E.isz_φ _).1 h)]
 | false =>
  rw[ah (show (E.φ3 a).2.2≠0 from nz _ h)];cases f:E.isz c.2.2 with
  | true=>rw[aj (show (E.φ3 c).2.2=0 from (E.isz_φ _).1 f)]
  | false =>
   rw[ah (show (E.φ3 c).2.2≠0 from nz _ f)];simp only[E.force_eq];have d:E.φ (E.sub (E.mul c.1 (E.mul a.2.2 a.2.2)) (E.mul a.1 (E.mul c.2.2 c.2.2)))=(E.φ3 c).1*((E.φ3 a).2.2*(E.φ3 a).2.2)-(E.φ3 a).1*((E.φ3 c).2.2*(E.φ3 c).2.2):=by simp only[Ev.φ3,E.sub_φ,E.mul_φ]
   have b:E.φ (E.sub (E.mul (E.mul c.2.1 (E.mul a.2.2 a.2.2)) a.2.2) (E.mul (E.mul a.2.1 (E.mul c.2.2 c.2.2)) c.2.2))=(E.φ3 c).2.1*((E.φ3 a).2.2*(E.φ3 a).2.2)*(E.φ3 a).2.2-(E.φ3 a).2.1*((E.φ3 c).2.2*(E.φ3 c).2.2)*(E.φ3 c).2.2:=by simp only[Ev.φ3,E.sub_φ,E.mul_φ]
   cases g:E.isz (E.sub (E.mul c.1 (E.mul a.2.2 a.2.2)) (E.mul a.1 (E.mul c.2.2 c.2.2))) with
   | true =>
    have:=(E.isz_φ _).1 g;rw[d] at this;rw[aj this];cases i:E.isz (E.sub (E.mul (E.mul c.2.1 (E.mul a.2.2 a.2.2)) a.2.2) (E.mul (E.mul a.2.1 (E.mul c.2.2 c.2.2)) c.2.2)) with
    | true =>have:=(E.isz_φ _).1 i;rw[b] at this;rw[aj this];exact E.X1 a
    | false =>have:=nz _ i;rw[b] at this;rw[ah this];show (E.φ E.zero,E.φ E.zero,E.φ E.zero)=_;rw[E.zero_φ]
   | false =>have:=nz _ g;rw[d] at this;rw[ah this];simp only[Ev.φ3,Wc,OC,E.sub_φ,E.mul_φ]
def Ev.LD (o:E.J):Nat->Nat->E.J
 | 0,_=>(E.zero,E.zero,E.zero)
 | f+1,n=>match beq n 0 with
  | true=>(E.zero,E.zero,E.zero)
  | false=>match beq (n%2) 1 with
   | true=>E.nu (E.Se (Ev.LD o f (n/2))) o
   | false=>E.Se (Ev.LD o f (n/2))
variable {E} in
theorem Ev.Wm {b:F} (c:b≠0) {o:E.J} {P:F × F} (j:mw b (E.φ3 o) P):∀ f n,n<2^f->mw b (E.φ3 (E.LD o f n)) (db P n):=by
 have g:mw b (E.φ3 (E.zero,E.zero,E.zero)) (O2:F × F):=.inl ⟨E.zero_φ,rfl⟩;intro f;induction f with
 | zero=>intro n h;have:n=0:=by simp at h;exact h
         subst this;exact g
 | succ f p =>
  intro n h;unfold Ev.LD;split;rename_i l;have:=fa l;subst this;exact g
  ·have m:=p (n/2) (by rw[lz] at h;omega);have d:=Ii c m;rw[<- E.X1,<- oX c j.on] at d;split
   ·rename_i a;have a:=fa a;have i:=Dp c d j;rw[<- E.adW] at i;have e:n=n/2+n/2+1:=aa;have:db P n=cc (db P (n/2+n/2)) P:=by
     conv=>lhs;rw[e]
     rfl
    rw[this];exact i
   ·rename_i a;have a:n%2≠1:=fun k=>by rw[k] at a;exact absurd a ae
    have e:n=n/2+n/2:=aa;have:db P n=db P (n/2+n/2):=by conv=>lhs;rw[e]
    rw[this];exact d
end
def fc {a:Type} (n:Nat) (k:Nat->a):a:=Nat.rec (k 0) (fun m _=>k (m+1)) n
theorem afy {a:Type} (n:Nat) (k:Nat->a):fc n k=k n:=by cases n<;>rfl
def pN:Nat:=4002409555221667393417789825735904156556882819939007885332058136124031650490837864442687629129015664037894272559787
theorem Hg (n:Nat):(zm ((n%pN:Nat):Int):Fp)=zm (n:Int):=Zd (by rw[Int.natCast_emod];exact A8 _ (Int.dvd_refl _))
def Qq:Ev Fp where
 V:=Nat
 φ n:=zm (n:Int)
 add a b:=(a+b)%pN
 sub a b:=(a+(pN-b%pN))%pN
 mul a b:=(a*b)%pN
 isz a:=beq (a%pN) 0
 zero:=0
 force:=fc
 add_φ a b:=by rw[Hg,uw,Int.natCast_add]
 sub_φ a b:=by
  rw[Hg,CP];refine Zd ?_;have h:=Nat.mod_lt b (show 0<pN by decide);have e:((a+(pN-b%pN):Nat):Int)=(a:Int)-b+(pN:Int)*(1+(b:Int)/pN):=by have h2:=wy (b:Int) (pN:Int);rw[qG,lA];omega
  rw[e];exact wx _ _ _
 mul_φ a b:=by rw[Hg,ux,wO]
 isz_φ a:=by
  constructor;intro h;have h:=fa h;rw[<- Hg,h];rfl
  ·intro h;have h:(zm (a:Int):Fp).v=0:=by rw[h,uv]
   have h:(a:Int)%(pN:Int)=0:=h;have:a%pN=0:=aa;rw[this];rfl
 zero_φ:=rfl
 force_eq:=afy
def gxN:Nat:=0x17f1d3a73197d7942695638c4fa9ac0fc3688c4f9774b905a14e3a3f171bac586c55e83ff97a1aeffb3af00adb22c6bb
def gyN:Nat:=0x08b3f481e3aaa0f1a09e30ed741d8ae4fcf5e095d5d00af600db18cb2c04b3edd03cc744a2888ae40caa232946c5e7e1
theorem afL:Qq.isz (Qq.LD (gxN,gyN,(1:Nat)) 256 52435875175126190479447740508185965837690552500527637822603658699938581184513).2.2=true:=ab
end Cr
namespace Go.Proofs.YtofofalgjibokaaGreatDoor
namespace g1
open Go.IntKind(i64 u64 u8)
open Go.IntKind(i64)
theorem Yb:gG≠O2:=by rw[JW];decide
def rN:Nat:=52435875175126190479447740508185965837690552500527637822603658699938581184513
theorem ac6:db gG rN=O2:=by
 have a:mw b4 (Qq.φ3 (gxN,gyN,(1:Nat))) gG:=by have h:=EX Yc;unfold jm at h;rw[ah Yb,JW] at h;rw[JW];exact h
 have b:=Ev.Wm np a 256 rN ae;have c:=(Qq.isz_φ _).1 afL;rcases b with ⟨_,h⟩|⟨h,_⟩;exact h;exact absurd c h
def Sub (p:Fp × Fp):Prop:=IF p/\db p rN=O2
theorem mu:Sub gG:=⟨Yc,ac6⟩
theorem Xi {p:Fp × Fp} (h:Sub p) (n:Nat):Sub (db p n):=by refine⟨C2 np h.1 n,?_⟩;rw[sS np h.1,ly,<- sS np h.1,h.2,yF]
theorem nE {p:Fp × Fp} (h:Sub p) (k:Fr):Sub (cV p k):=by rw[nY h.1];exact Xi h _
theorem Wn {p:Fp × Fp} (h:Sub p) (m:Nat):db p m=db p (m%rN):=by
 conv=>lhs;rw[<- Nat.div_add_mod m rN]
 rw[oX np h.1,<- sS np h.1,h.2,yF,jF]
theorem X9 (x:Fr):∃ n:Nat,x.v=(n:Int)/\n<rN:=by obtain⟨n,a⟩:=jQ x.nn;exact⟨n,a,by have:=x.lt;have e:Mr=(rN:Int):=rfl;omega⟩
theorem LH {p:Fp × Fp} (h:Sub p) {x:Fr} {m:Nat} (a:x.v=(m:Int)%(rN:Int)):cV p x=db p m:=by rw[nY h.1,a,Wn h m,<- Int.natCast_emod,aB]
theorem mul_add {p:Fp × Fp} (h:Sub p) (x y:Fr):cV p (x+y)=cc (cV p x) (cV p y):=by obtain⟨m,a,_⟩:=X9 x;obtain⟨n,b,_⟩:=X9 y;rw[LH h (x:=x+y) (m:=m+n) (by rw[P5,a,b,Int.natCast_add];rfl),nY h.1,nY h.1,a,b,aB,aB,oX np h.1]
theorem OM {p:Fp × Fp} (h:Sub p) (x y:Fr):cV p (x*y)=cV (cV p x) y:=by obtain⟨m,a,_⟩:=X9 x;obtain⟨n,b,_⟩:=X9 y;rw[LH h (x:=x*y) (m:=m*n) (by rw[xg,a,b,wO];rfl),nY (nE h x).1,nY h.1,a,b,aB,aB,sS np h.1]
theorem mul_zero {p:Fp × Fp} (h:Sub p):cV p 0=O2:=by rw[nY h.1,uv];rfl
theorem mul_one {p:Fp × Fp} (h:Sub p):cV p 1=p:=by rw[nY h.1,Gl];exact EG
theorem mul_neg {p:Fp × Fp} (h:Sub p) (x:Fr):cV p (-x)=dD (cV p x):=by
 have e:cc (cV p x) (cV p (-x))=O2:=by rw[<- mul_add h,Rg.add_neg,mul_zero h]
 have b:=(nE h x).1;have a:=(nE h (-x)).1;have:=cancel np b a;rw[e,mq] at this;exact this.symm
end g1
end Go.Proofs.YtofofalgjibokaaGreatDoor
namespace Go.Eng
open Go.ChangeShapes Go.WideShapes Go.ChangeAt
open Go.IntKind(i64 u64 u8)
open Go.IntKind(i64)
theorem mapM_some {d e:Type} {f:d->Option e}:∀ {l:List d} {r:List e},l.mapM f=some r->r.length=l.length/\∀ (i:Nat) (x:d),l[i]?=some x->f x=r[i]?:=by
 intro l;induction l with
 | nil=>intro r h;simp at h;subst h;exact⟨rfl,fun i x a=>by simp at a⟩
 | cons y l k =>
  intro r h;rw[List.mapM_cons] at h;cases b:f y with
  | none=>rw[b] at h;simp at h
  | some z =>
   cases c:l.mapM f with
   | none=>rw[b,c] at h;simp at h
   | some m =>
    rw[b,c] at h;simp at h;subst h;obtain⟨g,j⟩:=k c;refine⟨by simp[g],fun i x a=>?_⟩;cases i with
    | zero=>simp at a;subst a;simpa using b
    | succ i=>simp at a;simpa using j i x a
theorem Bo (a:Addr) (n:Nat):(a.add n).block=a.block:=by unfold Addr.add;split<;>rfl
theorem Kq (a:Addr) (n:Nat):(a.add n).off=a.off+n:=by unfold Addr.add;split;rename_i h;subst h;rfl;rfl
theorem Ky {W:World} {a:Addr} {c:Nat} {n:List Value} (t:0<c) (h:W.cells? 0 a c=some n) :
  ∃ l,b8 W a.block=some l/\a.spot=none/\a.off+c<=l.length/\n=(l.drop a.off).take c:=by
 unfold World.cells? at h;rw[aj (a2 _)] at h;obtain⟨w,y⟩:=mapM_some h;simp only[qA] at w;have q:∀ j,j<c->W.cell? (a.add j)=n[j]?:=fun j i=>y j j (by simp[i]);have m:=q 0 t;have u:a.add 0=a:=by simp[Addr.add]
 rw[u] at m;have g:∀ j,j<c->∃ x,n[j]?=some x:=fun j i=>⟨n[j]'aa,au⟩;obtain⟨C,p⟩:=g 0 t;rw[p] at m;unfold World.cell? at m;split at m
 ·rename_i b A fr r;have o:a.spot=none:=by
   cases o:a.spot with
   | none=>rfl
   | some s=>rw[o] at m;simp at m
  have f:∀ j,j<c->b[a.off+j]?=n[j]?:=by
   intro j i;rw[<- q j i];unfold World.cell?;rw[Bo,r,Kq];have:(a.add j).spot=none:=by unfold Addr.add;split<;>simp[o]
   simp[this]
  have k:a.off+c<=b.toList.length:=by obtain⟨x,z⟩:=g (c-1) aa;have:=f (c-1) aa;rw[z] at this;have:=(Array.getElem?_eq_some_iff.1 this).1;rw[nh];omega
  refine⟨b.toList,kB (l:=b.toList) r (fun e=>by rw[e,eG] at k;omega),o,k,?_⟩;refine Bj fun j=>?_;by_cases i:j<c;rw[fI,aj i,List.getElem?_drop,<- f j i,Array.getElem?_toList];rw[fI,ah i];simp;omega
 cases m
theorem Zf {b:Type} {R:b->List Value->Prop} {c:Nat} {l:List Value}:∀ {a:List b} {o:Nat},(∀ i (h:i<a.length),R a[i] ((l.drop (o+i*c)).take c))->dY R a ((l.drop o).take (a.length*c)):=by
 intro a;induction a with
 | nil=>intro o _;simp[dY]
 | cons y a g =>
  intro o h;refine⟨(l.drop o).take c,(l.drop (o+c)).take (a.length*c),?_,by have:=h 0 (Nat.succ_pos _);rw[jq,gn] at this;exact this,g (o:=o+c) fun i f=>?_⟩;rw[bG,iZ,oG,List.take_add,fJ]
  ·have:=h (i+1) (by simpa using f);have e:o+(i+1)*c=o+c+i*c:=by rw[iZ];omega
   rw[e] at this;simpa using this
def PY (P:Program) (t:TypeId) (b:Kd) (e:aA b->Prop):Prop :=
 ∀ (H:Type) (enc:TypeId × Value->H) (W:World) (a:Nat) (c:List Value) (x:DataW H × List MemPlace),DataW.trod enc P W 0 (fun _=>true) true a t c=some x ->
  (∀ n∈x.1.weights P t,n<=reachBytes)->∃ y:aA b,Rd (b8 W) b y c/\e y
theorem LU {P:Program} {t:TypeId} {k:IntKind} (b:P.underlying t=some (.int k)):PY P t (.int k) (fun x=>(Lit.int k x).wf=true):=by intro H enc W a d x h _;obtain⟨n,rfl,rfl,c⟩:=DataW.trod_int b h;exact⟨n,rfl,c⟩
theorem IA {H:Type} {P:Program} {e:TypeId}:∀ {l:List (DataW H)} {d:DataW H} {n:Nat},d∈l->n∈d.weights P e->n∈DataW.weightsAll P e l:=by
 intro l;induction l with
 | nil=>intro d n h;simp at h
 | cons y l b =>intro d n h a;simp only[DataW.weightsAll,lu];rcases mem_cons.1 h with rfl|h;exact .inl a;exact .inr (b h a)
theorem QX {P:Program} {t e:TypeId} {b:Kd} {K:aA b->Prop} (V:P.underlying t=some (.slice e)) (hc:P.cellsOf e=width b) (s:0<width b) (he:PY P e b K) :
  PY P t (.sl b) (fun Y=>length Y*P.bytesOf e<=reachBytes/\∀ y∈Y,K y):=by
 intro H enc W U cs x h T;rcases DataW.trod_slice V h with ⟨rfl,rfl⟩|⟨a,len,w,f,X,n,rfl,rfl,rfl,_,hl,_,E,Q,_,_⟩;exact⟨[],.inl ⟨rfl,none,0,rfl,fun _=>rfl⟩,au,fun y G=>by simp at G⟩
 ·simp only[DataW.weights,V] at T;have q:len*P.bytesOf e<=reachBytes:=by
   have:=T _ (Bd ..);simp only[bU] at this;exact ja (fb _ aa) this
  have F:∀ i,i<len->∃ y:aA b,∃ p,W.cells? 0 (a.add (i*width b)) (width b)=some p/\Rd (b8 W) b y p/\K y:=by
   intro i j;have c:=Q i j;rw[hc] at c;have hx:f[i]?=some (f[i]'aa):=by simp[E,j]
   rw[hx] at c;cases C:W.cells? 0 (a.add (i*width b)) (width b) with
   | none=>rw[C] at c;simp at c
   | some p =>rw[C] at c;obtain⟨y,L,I⟩:=he H enc W n p _ c (fun m hm=>T m (qh _ (gS _ (IA (d:=(f[i]'aa).1) (mem_map.2 ⟨_,dx _,rfl⟩) hm))));exact⟨y,p,rfl,L,I⟩
  by_cases h0:len=0;subst h0;exact⟨[],.inl ⟨rfl,some a,w,rfl,fun h=>by cases h⟩,au,fun y G=>by simp at G⟩
  ·have hf:∀ i:Fin len,∃ y:aA b,∃ p,W.cells? 0 (a.add (i.1*width b)) (width b)=some p/\Rd (b8 W) b y p/\K y:=fun i=>F i.1 i.2;have O:=Classical.axiomOfChoice hf;obtain⟨g,R⟩:=O;obtain⟨Z,A,_⟩:=R ⟨0,aa⟩;obtain⟨l,N,o,_,_⟩:=Ky s A;simp only[jq,Bo] at N;have e0:a.add 0=a:=by simp[Addr.add]
   simp only[jq,e0] at o;have r:∀ i (j:i<len),a.off+i*width b+width b<=l.length/\Rd (b8 W) b (g ⟨i,j⟩) ((l.drop (a.off+i*width b)).take (width b)):=by intro i j;obtain⟨p,L,I,_⟩:=R ⟨i,j⟩;obtain⟨l',u,_,D,z⟩:=Ky s L;simp only[Bo,Kq] at u D z;rw[N] at u;cases u;rw[z] at I;exact⟨D,I⟩
   have k:(List.ofFn g).length=len:=au;refine⟨List.ofFn g,.inr ⟨a.block,a.off,w,?_,?_,l,fun _=>N,?_,?_⟩,?_,?_⟩
   ·have:a=⟨a.block,a.off,none⟩:=by rw[<- o]
    rw[k,<- this]
   rw[k];exact hl
   ·rw[k];have:=(r (len-1) aa).1;have e:(len-1)*width b+width b=len*width b:=by rw[<- iZ];congr 1;omega
    omega
   ·refine Zf fun i j=>?_;have c:i<len:=by rw[k] at j;exact j
    have:=(r i c).2;simpa using this
   show (List.ofFn g).length*_<=_;rw[k];exact q;intro y G;obtain⟨i,j⟩:=(List.mem_ofFn ..).1 G;obtain⟨_,_,_,h3⟩:=R i;rw[<- j];exact h3
def Ki (P:Program) (t:TypeId) (b:Kd) (c:aA b->Prop):Prop :=
 ∀ (H:Type) (enc:TypeId × Value->H) (W:World) (a:Nat) (v:Value) (d:DataW H) (p:List MemPlace),Value.okWide P W .any a t v->DataW.Trod enc P W 0 (fun _=>true) true t v d p ->
  (∀ n∈d.weights P t,n<=reachBytes)->∃ y:aA b,qc (b8 W) b y v/\c y
theorem Wz {P:Program} {t:TypeId} {k:IntKind} (e:P.underlying t=some (.int k)):Ki P t (.int k) (fun x=>(Lit.int k x).wf=true):=by intro H enc W c v d p b ⟨a,h⟩ f;obtain⟨n,rfl⟩:=okWide_int e b;exact LU e H enc W a _ _ h f
theorem QZ {P:Program} {t e:TypeId} {f:Kd} {k:aA f->Prop} (j:P.underlying t=some (.slice e)) (n:P.cellsOf e=width f) (c:0<width f) (o:PY P e f k) :
  Ki P t (.sl f) (fun l=>length l*P.bytesOf e<=reachBytes/\∀ y∈l,k y):=by
 intro H enc W i v d p g ⟨b,h⟩ q;obtain⟨a,len,m,rfl⟩:=okWide_slice j g;exact QX j n c o H enc W b _ _ h q
inductive OpnL (P:Program):List TypeId->(ks:List Kd)->(HL ks->Prop)->Prop
 | nil:OpnL P [] [] (fun _=>True)
 | cons {t:TypeId} {κ:Kd} {wt:aA κ->Prop} {ts:List TypeId} {ks:List Kd} {pre:HL ks->Prop} (h:Ki P t κ wt) (hr:P.readableRec t=true) (hrow:t<P.types.size) (hs:OpnL P ts ks pre):OpnL P (t::ts) (κ::ks) (fun x=>wt x.1/\pre x.2)
theorem Ty {P:Program} {c:List TypeId} {b:List Kd} {pre:HL b->Prop} (h:OpnL P c b pre) {H:Type} {enc:TypeId × Value->H} {W:World} {base:Nat} :
  ∀ {vs:List Value} {ds:List (DataW H)} {p:List MemPlace},(∀ (j:Nat) t v,c[j]?=some t->vs[j]?=some v->Value.okWide P W .any base t v)->DataW.TrodAll enc P W 0 (fun _=>true) true c vs ds p ->
   (∀ n∈DataW.weightsEach P c ds,n<=reachBytes)->∃ l:HL b,uc (b8 W) b l vs/\pre l:=by
 induction h with
 | nil=>intro vs ds p _ e _;obtain⟨rfl,rfl,rfl⟩:=trodAll_nil e;exact⟨(),rfl,trivial⟩
 | cons h _ _ _ x =>intro vs ds p a e k;obtain⟨v,vs,d,ds,p,q,rfl,rfl,rfl,m,o⟩:=trodAll_cons e;obtain⟨y,w,g⟩:=h H enc W base v d p (a 0 _ v rfl rfl) m (fun n f=>k n (by simp only[DataW.weightsEach,lu];exact .inl f));obtain⟨z,i,r⟩:=x (fun j t v s u=>a (j+1) t v (by simpa using s) (by simpa using u)) o (fun n f=>k n (by simp only[DataW.weightsEach,lu];exact .inr f));exact⟨(y,z),⟨v,vs,rfl,w,i⟩,g,r⟩
theorem QY {P:Program} (n:laidOutB P=true) {g:List TypeId} {j:List Kd} {pre:HL j->Prop} (h:OpnL P g j pre) {H:Type} {enc:TypeId × Value->H} {W i:World} (m:Below W.heap.size W i) :
  ∀ {vs:List Value} {ds:List (DataW H)} {p:List MemPlace},DataW.TrodAll enc P W 0 (fun _=>true) true g vs ds p->(∀ x∈p,x.block<W.heap.size)->DataW.TrodAll enc P i 0 (fun b=>decide (b<W.heap.size)) true g vs ds p:=by
 induction h with
 | nil=>intro vs ds p e _;obtain⟨rfl,rfl,rfl⟩:=trodAll_nil e;exact trodAll_mk0
 | cons _ o c _ r =>intro vs ds p e a;obtain⟨v,vs,d,ds,p,q,rfl,rfl,rfl,k,l⟩:=trodAll_cons e;exact⟨p,q,Below.trod n o c k m (fun x f=>a x (gS _ f)),r l (fun x f=>a x (ij _ f)),rfl⟩
theorem Kx {P:Program} {f:FuncId} {fn:Func} (c:enters P f fn) {a:Array Value} {w:World} {R:Value->World->Prop} (h:nG P f a w R):Calls P f a w fun e b=>∃ v,e=.returned v/\R v b:=by rcases h with ⟨_,h⟩|⟨v,b,h,_⟩;exact h;rw[c.2 a w] at h;cases h
theorem ND {P:Program} {H:Type} {enc:TypeId × Value->H} {W:World} {b:Nat} {i:Nat->Bool} {f:Bool}:∀ {a:List TypeId} {vs:List Value} {ds:List (DataW H)} {p:List MemPlace},DataW.TrodAll enc P W b i f a vs ds p->ds.length=a.length:=by
 intro a;induction a with
 | nil=>intro vs ds p h;obtain⟨_,h,_⟩:=trodAll_nil h;rw[h];rfl
 | cons t a g =>intro vs ds p h;obtain⟨v,j,d,c,l,m,rfl,rfl,rfl,k,e⟩:=trodAll_cons h;simp[g e]
end Go.Eng
namespace Go.Proofs.YtofofalgjibokaaGreatDoor
open Go.IntKind(i64 u64 u8)
open Go.IntKind(i64)
abbrev DH:Kd:=.sl (.int .u8)
abbrev preB (b:List Int):Prop:=Bs b/\length b<=281474976710656
abbrev fh (x:Int):Prop:=-9223372036854775808<=x/\x<9223372036854775808
theorem eqP (a b:Fp × Fp):mC (.pair .fp .fp) a b=decide (a=b):=by have h:=CU (e:=.pair .fp .fp) a b;rw[lp,h,ik]
abbrev ok (b:Bool):Prop:=((b,()):Bool × Unit)=(true,())
end Go.Proofs.YtofofalgjibokaaGreatDoor
namespace Cr
open Rg Fd
open Go.IntKind(i64 u64 u8)
open Go.IntKind(i64)
section
variable {F:Type} [Rg F]
def rR:List F->F->F
 | [],_=>0
 | a::l,x=>rR l x*x+a
def Gs:List F->F
 | []=>1
 | a::l=>a*Gs l
end
section
variable {F:Type} [Fd F]
theorem Td {a b:F} (c:a≠0) (h:a*b=1):inv a=b:=by refine mul_left c ?_;rw[mul_inv a c,h]
def wgt (a:List F) (x:F):F:=Gs (a.filter fun y=>decide (y≠x))*inv (Gs ((a.filter fun y=>decide (y≠x)).map fun y=>y-x))
end
def tU (n:Int):Nat->List Int
 | 0=>[]
 | j+1=>if n/bC (7-j)=0 then tU n j else tU n j++[n/bC (7-j)%256]
theorem Kw {n:Int} (a:0<=n) (d:n<bC 8):∀ j,j<=8->Bs (tU n j)/\(tU n j).length<=j/\num (tU n j)=n/bC (8-j)
 | 0,_=>⟨(fun x h=>nomatch h),aE _,by
   show (0:Int)=n/bC 8
   rw[A3 a d]⟩
 | j+1,o=>by
  obtain⟨f,m,g⟩:=Kw a d j aa;have k:8-j=(7-j)+1:=aa;have l:8-(j+1)=7-j:=aa;have i:=j0 (7-j);have b:n/bC (8-j)=n/bC (7-j)/256:=by rw[k];show n/(256*bC (7-j))=_;rw[gU,na (eJ i)]
  have p:0<=n/bC (7-j):=wP a (eJ i);rw[l];unfold tU;split;rename_i e;refine⟨f,aa,?_⟩;rw[g,b,e];rfl;refine⟨?_,by simp;omega,?_⟩;intro x hx;rcases List.mem_append.1 hx with hx|hx;exact f x hx;simp at hx;subst hx;exact⟨qC _ ae,tB _ ae⟩;rw[vM,g,b];omega
end Cr
namespace Go.Proofs.YtofofalgjibokaaGreatDoor
namespace fr
open Go.IntKind(i64 u64 u8)
open Go.IntKind(i64)
theorem BF:enters Tryz.prog 179 Tryz.f179:=ek
def s7 (x:Fr) (a:List Int) (g:Int × List Fr):St:=ar Tryz.f179.ntmps 64 [(2,.is (.one (.ptr 0 0))),(3,.is (.one (.ptr 8 0))),(4,.is (.one (.ptr 16 0))),(5,.is (.one (.ptr 24 0))),(11,sI .i64 g.1)] [(0,[.row .fr 1 [x]]),(8,[.ints .u64 4 a]),(16,[.row .fr 1 [(0:Fr)]]),(24,[.row .fr 16 g.2])]
def o1 (a:List Int) (b:List Fr) (g:Int × Fr):St:=ar Tryz.f179.ntmps 96 [(3,.is (.one (.ptr 8 0))),(4,.is (.one (.ptr 16 0))),(5,.is (.one (.ptr 24 0))),(7,.is (.one (.ptr 72 0))),(24,sI .i64 g.1)] [(8,[.ints .u64 4 a]),(16,[.row .fr 1 [(0:Fr)]]),(24,[.row .fr 16 b]),(72,[.row .fr 1 [g.2]])]
def s8 (a:List Int) (b:List Fr) (i:Int) (g:Int × Fr):St:=ar Tryz.f179.ntmps 128 [(3,.is (.one (.ptr 8 0))),(4,.is (.one (.ptr 16 0))),(5,.is (.one (.ptr 24 0))),(7,.is (.one (.ptr 72 0))),(8,sI .i64 i),(24,sI .i64 i),(27,sI .i64 g.1)] [(8,[.ints .u64 4 a]),(16,[.row .fr 1 [(0:Fr)]]),(24,[.row .fr 16 b]),(72,[.row .fr 1 [g.2]])]
def L8 (a:List Int) (b:List Fr) (i:Int) (y:Fr):St:=ar Tryz.f179.ntmps 104 [(3,.is (.one (.ptr 8 0))),(4,.is (.one (.ptr 16 0))),(5,.is (.one (.ptr 24 0))),(7,.is (.one (.ptr 72 0))),(24,sI .i64 i)] [(8,[.ints .u64 4 a]),(16,[.row .fr 1 [(0:Fr)]]),(24,[.row .fr 16 b]),(72,[.row .fr 1 [y]])]
abbrev o6:HL [.fr,(.arr 4 (.int .u64))]->Prop:=fun (_,a,_)=>Ws a
abbrev qp:HL [.fr,(.arr 4 (.int .u64))]->HO [.val .fr]:=fun (x,a,_)=>(mO (x:Fr) (val a),())
theorem zt:aL Tryz.prog 179 [.fr,(.arr 4 (.int .u64))] [.val .fr] bx o6 qp:=by
 have d:aD Tryz.prog (aP [uW,kq,fT]):=aJ (aM BR) (aJ (aM nM) (aJ (aM jw) bp));refine bI (sp:=aP [uW,kq,fT]) BF ae ae ab ?_;rintro w D ⟨x,a,⟨⟩⟩ ⟨_,⟨p,_⟩,_⟩ l;have p:length a=4:=p;have l:Ws a:=l;have s:=eD l;have q:val a<gL 64:=by have:=zb l;rw[p] at this;rw[show 64=16*4 from rfl,L1];exact this
 have f:a=aT 4 (val a):=by have:=sQ l;rw[p] at this;exact this.symm
 show Tr _ _ _ _ _ _ _;refine bd d mixed 4 (s7 x a (0,(replicate 16 (0:Fr)).set 0 1)) True ?_ (fun _=>?_);refine al (X:=True/\(0:Nat)<16/\(s7 x a (0,(replicate 16 (0:Fr)).set 0 1)).ag True) ab ⟨trivial,ae,ao trivial⟩;rw[show (replicate 16 (0:Fr)).set 0 1=eZ (zpow x) 0 0 from rfl];refine fW d mixed (s7 x a) (fun k=>((k:Int),eZ (zpow x) 0 k)) 15 (fun g=>(i64.wrap (g.1+1),g.2.set (i64.wrap (g.1+1)).toNat (g.2.getD g.1.toNat 0*x))) (s7 x a) (c:=aq (ak Tryz.f179) 4) ab ab (aw ab ab trivial)
  (fun k C=>by
   show (_,_)=(_,_)
   rw[aS aa,aB,aB,rh _ _ _ (aE k) aa,show zpow x k*x=zpow x (k+1) from rfl,CG]) ?_ ?_
 ·intro k C
  refine al (X:=((decide ((k:Int)<15)=true->(0<=(k:Int)/\(k:Int)<((16:Nat):Int))/\(k:Int).toNat<16/\True/\(0<=i64.wrap ((k:Int)+1)/\i64.wrap ((k:Int)+1)<((16:Nat):Int))/\(i64.wrap ((k:Int)+1)).toNat<16 /\
    (s7 x a (i64.wrap ((k:Int)+1),(eZ (zpow x) 0 k).set (i64.wrap ((k:Int)+1)).toNat ((eZ (zpow x) 0 k).getD (k:Int).toNat 0*x))).ag (k<15)) /\
   (decide ((k:Int)<15)=false->(s7 x a ((k:Int),eZ (zpow x) 0 k)).ag (k=15)))) ab ?_
  refine⟨fun h=>?_,fun h=>ao (by have:=bW h;omega)⟩;have e:k<15:=by have:=dec_lt h;omega
  rw[aS aa];exact⟨⟨aa,aa⟩,aa,trivial,⟨aa,aa⟩,aa,ao e⟩
 generalize o:eZ (zpow x) 0 15=b;have m:∀ j,j<16->b.getD j 0=zpow x j:=fun j r=>by rw[<- o];exact rh _ _ _ aa r
 clear o;refine bd d mixed 2 (o1 a b (0,1)) True ?_ (fun _=>?_);refine al (X:=True/\(o1 a b (0,1)).ag True) ab ⟨trivial,ao trivial⟩
 rw[show ((0:Int),(1:Fr))=(((0:Nat):Int),zpow x (val a/gL (64-0)).toNat) by
  rw[Nat.sub_zero,A3 s q];rfl]
 refine xA (o1 a b) (fun i=>((i:Int),zpow x (val a/gL (64-i)).toNat)) 64 (fun g=>(i64.wrap (g.1+1),p5 g.2 4*b.getD (mK (3:Nat) a g.1).toNat 0)) (o1 a b) (c:=aq (ak Tryz.f179) 7) ab ab (aw ab ab trivial)
  (fun i t=>by
   show (_,_)=(_,_);rw[aS aa,f,Dd (n:=3) t aa,<- f];rw[m _ aa,MC,<- zpow_add];congr 2;have:=FG s (64-1-i)
   rw[show 64-(i+1)=64-1-i by omega,this,show 64-1-i+1=64-i by omega]) ?_ ?_
 ·intro i t;generalize zpow x (val a/gL (64-i)).toNat=y;refine bd d mixed 2 (L8 a b (i:Int) y) (i<64) ?_ (fun e=>?_);refine al (X:=((decide ((i:Int)<64)=true->(L8 a b (i:Int) y).ag (i<64))/\(decide ((i:Int)<64)=false->(o1 a b ((i:Int),y)).ag (i=64)))) ab ?_;exact⟨fun h=>ao (by have:=dec_lt h;omega),fun h=>ao (by have:=bW h;omega)⟩;refine mf (c:=aq (aZ (aq (ak Tryz.f179) 7)) 2) ab ab ?_;refine bd d mixed 2 (s8 a b (i:Int) (0,y)) True ?_ (fun _=>?_);refine al (X:=(s8 a b (i:Int) (0,y)).ag True) ab (ao trivial);refine fW d mixed (s8 a b (i:Int)) (fun j=>((j:Int),p5 y j)) 4 (fun g=>(i64.wrap (g.1+1),g.2*g.2)) (s8 a b (i:Int)) (c:=aq (da (aq (aZ (aq (ak Tryz.f179) 7)) 2)) 2) ab ab (aw ab ab trivial)
   (fun j r=>by show (_,_)=(_,_);rw[aS aa];rfl) ?_ ?_
  intro j r;refine al (X:=((decide ((j:Int)<4)=true->True/\(s8 a b (i:Int) (i64.wrap ((j:Int)+1),p5 y j*p5 y j)).ag (j<4))/\(decide ((j:Int)<4)=false->(s8 a b (i:Int) ((j:Int),p5 y j)).ag (j=4)))) ab ?_;exact⟨fun h=>⟨trivial,ao (by have:=dec_lt h;omega)⟩,fun h=>ao (by have:=bW h;omega)⟩;refine bd d mixed 1 (o1 a b ((i:Int),p5 y 4*b.getD (mK (3:Nat) a i).toNat 0)) True ?_ (fun _=>?_)
  ·refine al (X:=((16:Int)≠0/\(0<=pj (3:Nat) i/\pj (3:Nat) i<((4:Nat):Int))/\(pj (3:Nat) i).toNat<4/\(16:Int)≠0/\0<=O4 i/\(0<=mK (3:Nat) a i/\mK (3:Nat) a i<((16:Nat):Int))/\(mK (3:Nat) a i).toNat<16/\True/\(o1 a b ((i:Int),p5 y 4*b.getD (mK (3:Nat) a i).toNat 0)).ag True)) ab ?_;obtain⟨u,z,A⟩:=OZ (n:=3) e aa;have b4:0<=mK (3:Nat) a i/\mK (3:Nat) a i<16:=by
    rw[f,Dd (n:=3) e aa];omega
   exact⟨ae,u,z,ae,A,b4,aa,trivial,ao trivial⟩
  refine ke ?_;refine bE d mixed _ _ ?_;refine al (X:=(o1 a b (i64.wrap ((i:Int)+1),p5 y 4*b.getD (mK (3:Nat) a i).toNat 0)).ag (i<64)) ab (ao e)
 refine bE d mixed _ _ ?_;refine al (X:=(zpow x (val a/gL (64-64)).toNat,())=qp (x,a,())) ab ?_;rw[oH,gL,Int.ediv_one,<- zd]
def yV:Nat × Eng.Spec:=(179,aH [.fr,(.arr 4 (.int .u64))] [.val .fr] o6 qp)
theorem HA:enters Tryz.prog 176 Tryz.f176:=ek
def sf (x:Fr):Fr:=mO x 52435875175126190479447740508185965837690552500527637822603658699938581184511
abbrev vO:HL [.fr]->HO [.val .fr]:=fun (x,_)=>(sf (x:Fr),())
theorem Iz:val [18446744069414584319,6034159408538082302,3691218898639771653,8353516859464449352]=52435875175126190479447740508185965837690552500527637822603658699938581184511:=ae
theorem KS:aL Tryz.prog 176 [.fr] [.val .fr] bx (fun _=>True) vO:=by refine a8 (sp:=aP [yV]) (aJ (aM zt) bp) mixed HA ae ae ?_;rintro w b ⟨x,⟨⟩⟩ _ _;refine al (X:=(o6 (x,[18446744069414584319,6034159408538082302,3691218898639771653,8353516859464449352],())/\(mO x (val [18446744069414584319,6034159408538082302,3691218898639771653,8353516859464449352]),())=vO (x,()))) ab ?_;refine⟨?_,?_⟩;intro y a;simp at a;rcases a with rfl|rfl|rfl|rfl<;>exact⟨ae,ae⟩;rw[Iz];rfl
def Ka:Nat × Eng.Spec:=(176,aH [.fr] [.val .fr] (fun _=>True) vO)
end fr
namespace poly
open Go.IntKind(i64 u64 u8)
open Go.IntKind(i64)
theorem Vz:enters Tryz.prog 74 Tryz.f74:=ek
abbrev p9:HL [.int .i64]->Prop:=fun (x,_)=>fh x
def e9 (x:Int):Int:=if x<0 then -x else x
abbrev Da:HL [.int .i64]->HO [.val (.int .u64)]:=fun (x,_)=>(e9 x,())
theorem Om:aL Tryz.prog 74 [.int .i64] [.val (.int .u64)] bx p9 Da:=by refine a8 (sp:=aP []) bp mixed Vz ae ae ?_;rintro w b ⟨x,⟨⟩⟩;revert x;intro (x:Int) _ a;have a : -9223372036854775808<=x/\x<9223372036854775808:=a;refine al (X:=((decide (x<0)=true->(u64.wrap (0-u64.wrap x),())=Da (x,()))/\(decide (x<0)=false->(u64.wrap x,())=Da (x,())))) ab ?_;refine⟨fun h=>?_,fun h=>?_⟩;have h:x<0:=Odt h;show _=(e9 x,());rw[e9,aj h,wq,wq];congr 1;omega;have h:¬ x<0:=Odf h;show _=(e9 x,());rw[e9,ah h,wrap_u64 aa aa]
def MB:Nat × Eng.Spec:=(74,aH [.int .i64] [.val (.int .u64)] p9 Da)
theorem G1 {x:Int} (a:fh x):0<=e9 x/\e9 x<=9223372036854775808:=by have a : -9223372036854775808<=x/\x<9223372036854775808:=a;unfold e9;split<;>omega
theorem Qp:enters Tryz.prog 41 Tryz.f41:=ek
def r6 (x:Int):Fr:=eS (zm x)
theorem yR (x:Int):r6 x=zm x:=bf _
abbrev xk:HL [.int .i64]->HO [.val .fr]:=fun (x,_)=>(r6 x,())
theorem I2:aL Tryz.prog 41 [.int .i64] [.val .fr] bx p9 xk:=by refine a8 (sp:=aP [MB,fr.ta,fr.Aj]) (aJ (aM Om) (aJ (aM fr.ti) (aJ (aM fr.yw) bp))) mixed Qp ae ae ?_;rintro w d ⟨x,⟨⟩⟩;revert x;intro (x:Int) _ a;have b:=G1 a;refine al (X:=(p9 (x,())/\gQ (e9 x)/\(decide (x<0)=true->True/\(-jj (e9 x),())=xk (x,()))/\(decide (x<0)=false->(jj (e9 x),())=xk (x,())))) ab ?_;refine⟨a,⟨b.1,aa⟩,fun h=>⟨trivial,?_⟩,fun h=>?_⟩;have h:x<0:=Odt h;show _=(r6 x,());rw[yR,e9,aj h,Hh,Int.neg_neg];have h:¬ x<0:=Odf h;show _=(r6 x,());rw[yR,e9,ah h]
def Ak:Nat × Eng.Spec:=(41,aH [.int .i64] [.val .fr] p9 xk)
theorem tV:enters Tryz.prog 85 Tryz.f85:=ek
def js (x:Int):List Int:=tU (e9 x) 8
abbrev jY:HL [.int .i64]->HO [.own (.int .u8)]:=fun (x,_)=>(js x,())
def DI (n:Int) (g:Int × Bool × Nat × List Int):St:=ar Tryz.f85.ntmps 48 [(3,bif g.2.1 then .is (.one (.v (.slice none 0 0))) else .is (.one (.sl 8 0 0 g.2.2.1 1))),(4,sI .u64 n),(5,sI .i64 g.1)] (bif g.2.1 then [] else [(8,[.ints .u8 g.2.2.1 g.2.2.2])])
def Fv (n:Int) (g:Int × Bool × Nat × List Int):Prop:=∃ j:Nat,j<=8/\g.1=56-8*(j:Int)/\g.2.2.2=tU n j/\g.2.2.1=g.2.2.2.length/\(g.2.1=true->g.2.2.2=[])
def XS (n:Int) (g:Int × Bool × Nat × List Int):Prop:=g.2.2.2=tU n 8/\g.2.2.1=g.2.2.2.length/\(g.2.1=true->g.2.2.2=[])
theorem abW {j:Nat} (h:j<=7):(2:Int)^min (toNat (56-8*(j:Int))) u64.bits=bC (7-j):=by have:j=0\/j=1\/j=2\/j=3\/j=4\/j=5\/j=6\/j=7:=aa;rcases this with rfl|rfl|rfl|rfl|rfl|rfl|rfl|rfl<;>rfl
theorem wrap_u8 (a:Int):u8.wrap a=a%256:=by simp[IntKind.wrap,IntKind.signed,IntKind.bits]
theorem NU {n s:Int} {e:Bool} {m:Nat} {l:List Int} (g:Fv n (s,e,m,l)) (o:s>=0):i64.wrap (s-8)=s-8 /\
  (n.fdiv (2^min (toNat s) u64.bits)≠0->Fv n (s-8,false,m+1,l++[u8.wrap (n.fdiv (2^min (toNat s) u64.bits))])) /\
  (n.fdiv (2^min (toNat s) u64.bits)=0->Fv n (s-8,e,m,l)):=by
 obtain⟨j,g,d,a,b,k⟩:=g;have d:s=56-8*(j:Int):=d;have a:l=tU n j:=a;have b:m=l.length:=b;have f:j<=7:=aa;have i:n.fdiv (2^min (toNat s) u64.bits)=n/bC (7-j):=by rw[d,abW f,sr _ (eJ (j0 _))]
 rw[i,wrap_u8];refine⟨ba aa aa,fun h=>⟨j+1,aa,by show s-8=_;omega,?_,by show m+1=_;simp[b],fun h=>nomatch h⟩,fun h=>⟨j+1,aa,by show s-8=_;omega,?_,b,k⟩⟩;show l++_=tU n (j+1);rw[tU,ah h,a];show l=tU n (j+1);rw[tU,aj h,a]
theorem R7 {n s:Int} {e:Bool} {m:Nat} {l:List Int} (b:Fv n (s,e,m,l)) (h:¬ s>=0):XS n (s,e,m,l):=by obtain⟨j,b,a,d,f,g⟩:=b;have a:s=56-8*(j:Int):=a;have:j=8:=aa;subst this;exact⟨d,f,g⟩
theorem sF:aL Tryz.prog 85 [.int .i64] [.own (.int .u8)] bx p9 jY:=by
 have d:aD Tryz.prog (aP [MB]):=(aJ (aM Om) bp);refine bI (sp:=aP [MB]) tV ae ae ab ?_;rintro w I ⟨x,⟨⟩⟩;revert x;intro (x:Int) _ A;have C:=G1 A;show Tr _ _ _ _ _ _ _;refine bd d mixed 4 (DI (e9 x) (56,true,0,[])) True ?_ (fun _=>?_);refine al (X:=(p9 (x,())/\(DI (e9 x) (56,true,0,[])).ag True)) ab ?_;exact⟨A,ao trivial⟩;refine cd d mixed (fun a=>[(8,Mg 3 a)]) (fun a=>(bg (.int .i64) 5 a,O9 3 a,ou 3 a,cU (.int .u8) 8 a)) (DI (e9 x)) (Fv (e9 x)) (fun g=>(g.1+8).toNat)
  (fun a=>(bg (.int .i64) 5 a,O9 3 a,ou 3 a,cU (.int .u8) 8 a)) (DI (e9 x)) (XS (e9 x)) (56,true,0,[]) (c:=aq (ak Tryz.f85) 4) ab ab (aw ab ab ?_) ?_ ?_
 exact⟨0,ae,rfl,rfl,rfl,fun _=>rfl⟩
 ·rintro⟨s,e,m,l⟩ f;revert s l;intro (s:Int) (l:List Int) f;have u:=f;obtain⟨j,t,k,i,r,E⟩:=u;have k:s=56-8*(j:Int):=k;have z:m=l.length:=r;have G:m<=8:=by
   have:=(Kw C.1 (show e9 x<bC 8 from Int.lt_of_le_of_lt C.2 ae) j t).2.1;have i:l=tU (e9 x) j:=i;rw[z,i];omega
  cases e with
  | true =>have y:l=[]:=E rfl;subst y;have F:m=0:=z;subst F;refine al (X:=((decide (s>=0)=true->0<=s/\(((e9 x).fdiv (2^min s.toNat u64.bits) != 0)=true->0+1<=1/\1*1<=140737488355328/\1<=4611686018427387904/\(DI (e9 x) (i64.wrap (s-8),false,1,[u8.wrap ((e9 x).fdiv (2^min s.toNat u64.bits))])).ag (Fv (e9 x) (i64.wrap (s-8),false,1,[u8.wrap ((e9 x).fdiv (2^min s.toNat u64.bits))])/\toNat (i64.wrap (s-8)+(8:aA (Kd.int i64)))<toNat (s+(8:aA (Kd.int i64)))))/\(((e9 x).fdiv (2^min s.toNat u64.bits) != 0)=false->(DI (e9 x) (i64.wrap (s-8),true,0,[])).ag (Fv (e9 x) (i64.wrap (s-8),true,0,[])/\toNat (i64.wrap (s-8)+(8:aA (Kd.int i64)))<toNat (s+(8:aA (Kd.int i64))))))/\(decide (s>=0)=false->(DI (e9 x) (s,true,0,[])).ag (XS (e9 x) (s,true,0,[]))))) ab ?_;refine⟨fun h=>?_,fun h=>ao (R7 f (Odf h))⟩;have h:s>=0:=Odt h;obtain⟨o,p,q⟩:=NU f h;rw[o];refine⟨h,fun b=>⟨ae,ae,ae,ao ⟨p (by simpa using b),by show (s-8+8).toNat<(s+8).toNat;omega⟩⟩,fun b=>ao ⟨q (by simpa using b),by show (s-8+8).toNat<(s+8).toNat;omega⟩⟩
  | false =>refine al (X:=((decide (s>=0)=true->0<=s/\(((e9 x).fdiv (2^min s.toNat u64.bits) != 0)=true->0+1<=1/\m<=m/\(m+1)*1<=140737488355328/\m+1<=4611686018427387904/\(DI (e9 x) (i64.wrap (s-8),false,m+1,take m l++take 1 [u8.wrap ((e9 x).fdiv (2^min s.toNat u64.bits))])).ag (Fv (e9 x) (i64.wrap (s-8),false,m+1,take m l++take 1 [u8.wrap ((e9 x).fdiv (2^min s.toNat u64.bits))])/\toNat (i64.wrap (s-8)+(8:aA (Kd.int i64)))<toNat (s+(8:aA (Kd.int i64)))))/\(((e9 x).fdiv (2^min s.toNat u64.bits) != 0)=false->(DI (e9 x) (i64.wrap (s-8),false,m,l)).ag (Fv (e9 x) (i64.wrap (s-8),false,m,l)/\toNat (i64.wrap (s-8)+(8:aA (Kd.int i64)))<toNat (s+(8:aA (Kd.int i64))))))/\(decide (s>=0)=false->(DI (e9 x) (s,false,m,l)).ag (XS (e9 x) (s,false,m,l))))) ab ?_;refine⟨fun h=>?_,fun h=>ao (R7 f (Odf h))⟩;have h:s>=0:=Odt h;obtain⟨o,p,q⟩:=NU f h;rw[o,show take m l=l by rw[z,aV]];refine⟨h,fun b=>⟨ae,aE _,aa,aa,ao ⟨p (by simpa using b),by show (s-8+8).toNat<(s+8).toNat;omega⟩⟩,fun b=>ao ⟨q (by simpa using b),by show (s-8+8).toNat<(s+8).toNat;omega⟩⟩
 rintro⟨s,e,m,l⟩ K;revert s l;intro (s:Int) (l:List Int) ⟨k,i,r⟩;have D:l=tU (e9 x) 8:=k;have H:m=l.length:=i;refine bE d mixed _ _ ?_;cases e with
 | true =>have y:l=[]:=r rfl;refine al (X:=(([],())=jY (x,()))) ab ?_;show _=(tU (e9 x) 8,());rw[<- D,y]
 | false =>refine al (X:=(0+m<=m/\(take m l,())=jY (x,()))) ab ?_;rw[show take m l=l by rw[H,aV],D];exact⟨aa,rfl⟩
def vk:Nat × Eng.Spec:=(85,aH [.int .i64] [.own (.int .u8)] p9 jY)
theorem ace:enters Tryz.prog 15 Tryz.f15:=ek
def pat (p:List Fr) (x:Int):Fr:=eS (rR p (zm x))
theorem Cj (p:List Fr) (x:Int):pat p x=rR p (zm x):=bf _
abbrev J3:HL [.sl .fr,.int .i64]->Prop:=fun (p,x,_)=>length p<4611686018427387904/\fh x
abbrev Q0:HL [.sl .fr,.int .i64]->HO [.val .fr]:=fun (p,x,_)=>(pat p x,())
def NO (p:List Fr) (x:Int) (g:Int × Fr):St:=ar Tryz.f15.ntmps 80 [(0,.is (.one (.ro .fr p))),(4,.is (.one (.ptr 0 0))),(5,.is (.one (.ptr 24 0))),(6,.is (.one (.ptr 40 0))),(7,sI .i64 g.1)] [(0,[.row .fr 1 [0]]),(24,[.row .fr 1 [r6 x]]),(40,[.row .fr 1 [g.2]])]
def atJ (p:List Fr) (x:Int) (g:Int × Fr):Prop:=∃ k:Nat,k<=p.length/\g.1=(k:Int)-1/\g.2=rR (p.drop k) (zm x)
theorem X6:aL Tryz.prog 15 [.sl .fr,.int .i64] [.val .fr] bx J3 Q0:=by
 have a:aD Tryz.prog (aP [Ak,fr.kq,fr.jM]):=(aJ (aM I2) (aJ (aM fr.nM) (aJ (aM fr.nL) bp)));refine bI (sp:=aP [Ak,fr.kq,fr.jM]) ace ae ae ab ?_;rintro w y ⟨p,x,⟨⟩⟩;revert p x;intro (p:List Fr) (x:Int) _ t;obtain⟨o,u⟩:=t;have o:p.length<4611686018427387904:=o;show Tr _ _ _ _ _ _ _;have q:i64.wrap ((p.length:Int)-1)=(p.length:Int)-1:=ba aa aa;refine bd a mixed 4 (NO p x (i64.wrap ((p.length:Int)-1),0)) True ?_ (fun _=>?_);refine al (X:=(p9 (x,())/\(NO p x (i64.wrap ((p.length:Int)-1),(0:Fr))).ag True)) ab ?_;exact⟨u,ao trivial⟩;refine cd a mixed h9 (fun d=>(bg (.int .i64) 7 d,pP .fr 40 d)) (NO p x) (atJ p x) (fun g=>(g.1+1).toNat)
  (fun d=>(bg (.int .i64) 7 d,pP .fr 40 d)) (NO p x) (fun g=>g.2=rR p (zm x)) (i64.wrap ((p.length:Int)-1),0) (c:=aq (ak Tryz.f15) 4) ab ab (aw ab ab ?_) ?_ ?_
 refine⟨p.length,aE _,q,?_⟩;show 0=_;rw[oC];rfl
 ·rintro⟨i,s⟩ m;revert i s;intro (i:Int) (s:Fr) ⟨k,z,n,f⟩;have n:i=(k:Int)-1:=n;have f:s=rR (p.drop k) (zm x):=f;refine al (X:=((decide (i>=0)=true->True/\(0<=i/\i<(p.length:Int))/\i.toNat<p.length/\True/\(NO p x (i64.wrap (i-1),s*r6 x+p.getD i.toNat (0:Fr))).ag (atJ p x (i64.wrap (i-1),s*r6 x+p.getD i.toNat (0:Fr))/\toNat (i64.wrap (i-1)+(1:aA (Kd.int i64)))<toNat (i+(1:aA (Kd.int i64)))))/\(decide (i>=0)=false->(NO p x (i,s)).ag (s=rR p (jj x))))) ab ?_;refine⟨fun h=>?_,fun h=>ao ?_⟩
  ·have h:i>=0:=Odt h;have l:i=((k-1:Nat):Int):=aa;have b:k-1<p.length:=aa;have r:p.drop (k-1)=p[k-1]::p.drop k:=by
    rw[lS b,show k-1+1=k by omega]
   have e:s*r6 x+p.getD i.toNat 0=rR (p.drop (k-1)) (zm x):=by rw[l,aB,aX,bz b,ct,r,f,yR];rfl
   have j:i64.wrap (i-1)=i-1:=ba aa aa;rw[j];exact⟨trivial,⟨h,aa⟩,aa,trivial,ao ⟨⟨k-1,aa,by show i-1=_;omega,e⟩,by show (i-1+1).toNat<(i+1).toNat;omega⟩⟩
  have h:¬ i>=0:=Odf h;have:k=0:=aa;subst this;exact f
 rintro⟨i,s⟩ m;revert i s;intro (i:Int) (s:Fr) (m:s=rR p (zm x));refine bE a mixed _ _ ?_;refine al (X:=((s,())=Q0 (p,x,()))) ab ?_;show _=(pat p x,());rw[Cj,m]
def aeS:Nat × Eng.Spec:=(15,aH [.sl .fr,.int .i64] [.val .fr] J3 Q0)
theorem Qh:enters Tryz.prog 14 Tryz.f14:=ek
def cn (p:List Fr):List (Fp × Fp):=p.map (g1.cV g1.gG)
abbrev Cm:HL [.sl .fr]->Prop:=fun (p,_)=>length p<1048576
abbrev Cf:HL [.sl .fr]->HO [.own aN]:=fun (p,_)=>(cn p,())
def N0 (p:List Fr) (g:Int × List (Fp × Fp)):St:=ar Tryz.f14.ntmps 64 [(3,.is (.one (.sl 24 0 0 (p.length:Int).toNat 12))),(9,.is (.one (.ro .fr p))),(10,sI .i64 p.length),(11,sI .i64 g.1)] [(24,[.row aN (p.length:Int).toNat g.2])]
def KA (p:List Fr) (k:Nat):List (Fp × Fp):=(p.take k).map (g1.cV g1.gG)++replicate (p.length-k) (0,0)
def cmJ (p:List Fr) (g:Int × List (Fp × Fp)):Prop:=∃ k:Nat,k<=p.length/\g.1=(k:Int)/\g.2=KA p k
theorem U1 {p:List Fr} {k:Nat} (h:k<p.length):(KA p k).set k (g1.cV g1.gG (p.getD k 0))=KA p (k+1):=by
 unfold KA;rw[qg _ _ (by simp;omega),cr h];have e:p.length-k=(p.length-(k+1))+1:=aa;have a:k-((p.take k).map (g1.cV g1.gG)).length=0:=by simp;omega
 rw[a,e,oN,oy,de,cB];simp[h]
theorem SE:aL Tryz.prog 14 [.sl .fr] [.own aN] bx Cm Cf:=by
 have b:aD Tryz.prog (aP [g1.J9,g1.Ds]):=(aJ (aM g1.K0) (aJ (aM g1.FQ) bp));refine bI (sp:=aP [g1.J9,g1.Ds]) Qh ae ae ab ?_;rintro w n ⟨p,⟨⟩⟩;revert p;intro (p:List Fr) _ j;have j:p.length<1048576:=j;show Tr _ _ _ _ _ _ _;refine bd b mixed 3 (N0 p (0,replicate (p.length:Int).toNat (0,0))) True ?_ (fun _=>?_);refine al (X:=((0<=(p.length:Int)/\(p.length:Int)<=(p.length:Int)/\(↑(96:Nat):Int)*(p.length:Int)<=281474976710656/\(p.length:Int)<=9223372036854775807)/\(N0 p (0,replicate (p.length:Int).toNat ((0:Fp),(0:Fp)))).ag True)) ab ?_;exact⟨⟨aa,aa,aa,aa⟩,ao trivial⟩;refine cd b mixed h9 (fun d=>(bg (.int .i64) 11 d,cU aN 24 d)) (N0 p) (cmJ p) (fun g=>p.length-g.1.toNat)
  (fun d=>(bg (.int .i64) 11 d,cU aN 24 d)) (N0 p) (fun g=>g.2=cn p) (0,replicate (p.length:Int).toNat (0,0)) (c:=aq (ak Tryz.f14) 3) ab ab (aw ab ab ?_) ?_ ?_
 exact⟨0,a2 _,rfl,by simp[KA]⟩
 ·rintro⟨i,l⟩ f;revert i l;intro (i:Int) (l:List (Fp × Fp)) ⟨k,o,e,m⟩;have e:i=(k:Int):=e;have kl:l=KA p k:=m;subst e;refine al (X:=((decide ((k:Int)<(p.length:Int))=true->(0<=(k:Int)/\(k:Int)<(p.length:Int))/\(k:Int).toNat<p.length/\True/\True/\(0<=(k:Int)/\(k:Int)<(↑(p.length:Int).toNat:Int))/\(k:Int).toNat<(p.length:Int).toNat/\(N0 p (i64.wrap ((k:Int)+1),l.set (k:Int).toNat (g1.cV g1.gG (p.getD (k:Int).toNat (0:Fr))))).ag (cmJ p (i64.wrap ((k:Int)+1),l.set (k:Int).toNat (g1.cV g1.gG (p.getD (k:Int).toNat (0:Fr))))/\p.length-(i64.wrap ((k:Int)+1)).toNat<p.length-(k:Int).toNat))/\(decide ((k:Int)<(p.length:Int))=false->(N0 p ((k:Int),l)).ag (l=cn p)))) ab ?_;rw[aB,aB];refine⟨fun h=>?_,fun h=>ao ?_⟩
  ·have a:k<p.length:=by have:=dec_lt h;omega
   rw[aS aa];refine⟨⟨aa,aa⟩,a,trivial,trivial,⟨aa,aa⟩,a,ao ⟨⟨k+1,a,rfl,?_⟩,?_⟩⟩;show l.set k _=_;rw[kl,U1 a];show p.length-((k+1:Nat):Int).toNat<p.length-(k:Int).toNat;rw[aB,aB];omega
  ·have:k=p.length:=by have:=bW h;omega
   show l=cn p;rw[kl,this,KA,aV,oH];exact bq _
 rintro⟨i,l⟩ f;revert i l;intro (i:Int) (l:List (Fp × Fp)) (f:l=cn p);refine bE b mixed _ _ ?_;refine al (X:=(0+(p.length:Int).toNat<=(p.length:Int).toNat/\(take (p.length:Int).toNat l,())=Cf (p,()))) ab ?_;rw[aB];refine⟨aa,?_⟩;show (_,())=(cn p,());rw[f,bQ (by simp[cn])]
