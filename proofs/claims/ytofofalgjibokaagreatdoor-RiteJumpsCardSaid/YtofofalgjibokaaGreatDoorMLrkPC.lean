import Derived.Test.YtofofalgjibokaaGreatDoorRows
import Derived.ProofKit
import Derived.SizedLaws
import Derived.Test.YtofofalgjibokaaGreatDoorMLrkPB
set_option maxRecDepth 100000
noncomputable section
open Go Go.Eng Go.RowKit Cr
open List(drop length mem_cons mem_map range replicate take)
open Nat(beq ble blt)
open Int(toNat)
namespace Go.Proofs.YtofofalgjibokaaGreatDoor
namespace fp
abbrev M:Int:=Mp
def ms:List Int:=[13402431016077863595,2210141511517208575,7435674573564081700,7239337960414712511,5412103778470702295,1873798617647539866]
abbrev rinv:Int:=Md.rinv Mp
theorem fQ:val ms=M:=ae
theorem pU:Ws ms:=by intro x a;simp[ms] at a;rcases a with rfl|rfl|rfl|rfl|rfl|rfl<;>exact⟨ae,ae⟩
theorem Fv:0<M:=ae
theorem Fw:2*M<=pw 6:=ae
theorem Io:(pw 6*rinv)%M=1%M:=ae
theorem zC:enters Tryz.prog 168 Tryz.f168:=ek
abbrev gW:HL [.int .u64,.int .u64,.int .u64,.int .u64]->Prop:=fun (a,b,c,d,_)=>gI a/\gI b/\gI c/\gI d
abbrev lN:HL [.int .u64,.int .u64,.int .u64,.int .u64]->HO [.val (.int .u64),.val (.int .u64)]:=fun (a,b,c,d,_)=>(((a:Int)*b+c+d)/18446744073709551616,(a*b+c+d)%18446744073709551616,())
theorem B4:aO Tryz.prog 168 [.int .u64,.int .u64,.int .u64,.int .u64] [.val (.int .u64),.val (.int .u64)] bB gW lN:=by
 refine bg (sp:=aU [Px,DD]) (aM (aR K3) (aM (aR zI) bD)) mixed zC ae ae ?_;rintro w q ⟨a,b,c,d,⟨⟩⟩ _ ⟨⟨e,i⟩,⟨f,k⟩,⟨g,l⟩,h,o⟩;have j:=lM (m:=18446744073709551615) (n:=18446744073709551615) e aa f aa
 refine aq (X:=(Ai (a,b,())/\mf (a*b%18446744073709551616,c,0,())/\mf ((a*b%18446744073709551616+c+0)%18446744073709551616,d,0,()) /\
   ((((a*b/18446744073709551616+(a*b%18446744073709551616+c+0)/18446744073709551616)%18446744073709551616+((a*b%18446744073709551616+c+0)%18446744073709551616+d+0)/18446744073709551616)%18446744073709551616,
    ((a*b%18446744073709551616+c+0)%18446744073709551616+d+0)%18446744073709551616,()):Int × Int × Unit)=lN (a,b,c,d,()))) ab ?_
 refine⟨⟨⟨e,i⟩,f,k⟩,⟨⟨aa,aa⟩,⟨g,l⟩,.inl rfl⟩,⟨⟨aa,aa⟩,⟨h,o⟩,.inl rfl⟩,?_⟩;simp only[lN,aL,bR];generalize (a:Int)*b=r at *;exact⟨aa,aa⟩
def wm:Nat × Eng.Spec:=(168,aK [.int .u64,.int .u64,.int .u64,.int .u64] [.val (.int .u64),.val (.int .u64)] gW lN)
abbrev og:HL [(.arr 6 (.int .u64)),(.arr 6 (.int .u64))]->Prop:=fun (a,b,_)=>Ws a/\Ws b
abbrev qz:HL [(.arr 6 (.int .u64)),(.arr 6 (.int .u64))]->HO [.val (.arr 6 (.int .u64)),.val (.int .u64)]:=fun (a,b,_)=>(aY 6 (val a-val b),if val a<val b then (1:Int) else 0,())
abbrev mP:HL [(.arr 6 (.int .u64)),(.arr 6 (.int .u64))]->HO [.val (.arr 6 (.int .u64))]:=fun (a,b,_)=>(aY 6 (val a+val b),())
theorem BT:enters Tryz.prog 130 Tryz.f130:=ek
theorem oY:aO Tryz.prog 130 [(.arr 6 (.int .u64)),(.arr 6 (.int .u64))] [.val (.arr 6 (.int .u64)),.val (.int .u64)] bB og qz:=by
 refine bg (sp:=aU [Py]) (aM (aR K6) bD) mixed BT ae ae ?_;rintro w u ⟨s,t,⟨⟩⟩ ⟨⟨q,_⟩,⟨r,_⟩,_⟩ ⟨l,m⟩;match s,t,q,r,l,m with
 | [a,b,c,d,e,f],[g,h,i,j,b4,k],_,_,l,m =>refine aq (X:=G3 [a,b,c,d,e,f] [g,h,i,j,b4,k] 0 (((nI [a,b,c,d,e,f] [g,h,i,j,b4,k] 0).1,(nI [a,b,c,d,e,f] [g,h,i,j,b4,k] 0).2,())=qz ([a,b,c,d,e,f],[g,h,i,j,b4,k],()))) ab ?_;refine JN _ _ 0 rfl l m (.inl rfl) ?_;obtain⟨n,o⟩:=Pz (us:=[a,b,c,d,e,f]) (vs:=[g,h,i,j,b4,k]) rfl l m;rw[n,o];rfl
def rj:Nat × Eng.Spec:=(130,aK [(.arr 6 (.int .u64)),(.arr 6 (.int .u64))] [.val (.arr 6 (.int .u64)),.val (.int .u64)] og qz)
theorem vB:enters Tryz.prog 171 Tryz.f171:=ek
theorem sN:aO Tryz.prog 171 [(.arr 6 (.int .u64)),(.arr 6 (.int .u64))] [.val (.arr 6 (.int .u64))] bB og mP:=by
 refine bg (sp:=aU [DD]) (aM (aR zI) bD) mixed vB ae ae ?_;rintro w t ⟨r,s,⟨⟩⟩ ⟨⟨o,_⟩,⟨q,_⟩,_⟩ ⟨m,n⟩;match r,s,o,q,m,n with
 | [a,b,d,e,f,g],[h,i,j,k,b4,l],_,_,m,n =>refine aq (X:=Fz [a,b,d,e,f,g] [h,i,j,k,b4,l] 0 (((p7 [a,b,d,e,f,g] [h,i,j,k,b4,l] 0).1,())=mP ([a,b,d,e,f,g],[h,i,j,k,b4,l],()))) ab ?_;refine IW _ _ 0 rfl m n (.inl rfl) ?_;rw[NR (us:=[a,b,d,e,f,g]) (vs:=[h,i,j,k,b4,l]) rfl m n];rfl
def uv:Nat × Eng.Spec:=(171,aK [(.arr 6 (.int .u64)),(.arr 6 (.int .u64))] [.val (.arr 6 (.int .u64))] og mP)
theorem xX:enters Tryz.prog 131 Tryz.f131:=ek
theorem ny:aO Tryz.prog 131 [] [.val (.arr 6 (.int .u64))] bB (fun _=>True) (fun _=>(ms,())):=by refine bg (sp:=aU []) bD mixed xX ae ae ?_;intro w a b _ _;exact aq (X:=((ms,()):List Int × Unit)=(ms,())) ab rfl
def px:Nat × Eng.Spec:=(131,aK [] [.val (.arr 6 (.int .u64))] (fun _=>True) (fun _=>(ms,())))
abbrev wb:HL [(.arr 6 (.int .u64))]->Prop:=fun (a,_)=>Ws a
abbrev mO:HL [(.arr 6 (.int .u64))]->HO [.val (.arr 6 (.int .u64))]:=fun (a,_)=>(if val a<M then a else aY 6 (val a-M),())
theorem HH:enters Tryz.prog 169 Tryz.f169:=ek
theorem B3:aO Tryz.prog 169 [(.arr 6 (.int .u64))] [.val (.arr 6 (.int .u64))] bB wb mO:=by refine bg (sp:=aU [rj,px]) (aM (aR oY) (aM (aR ny) bD)) mixed HH ae ae ?_;rintro w b ⟨xs,⟨⟩⟩ _ a;refine aq (X:=(True/\(Ws xs/\Ws ms)/\((((if val xs<val ms then 1 else 0:Int) != 0)=true->((xs,()):List Int × Unit)=mO (xs,()))/\(((if val xs<val ms then 1 else 0:Int) != 0)=false->((aY 6 (val xs-val ms),()):List Int × Unit)=mO (xs,()))))) ab ?_;refine⟨trivial,⟨a,pU⟩,?_⟩;rw[fQ];by_cases h:val xs<M;simp[h,mO];simp[h,mO]
def Av:Nat × Eng.Spec:=(169,aK [(.arr 6 (.int .u64))] [.val (.arr 6 (.int .u64))] wb mO)
abbrev dB:HL [(.arr 6 (.int .u64)),(.arr 6 (.int .u64))]->Prop:=fun (xs,ys,_)=>Ws xs/\Ws ys/\val xs<M
abbrev iY:HL [(.arr 6 (.int .u64)),(.arr 6 (.int .u64))]->HO [.val (.arr 6 (.int .u64))]:=fun (xs,ys,_)=>(aY 6 (val xs*val ys*rinv%M),())
theorem ue:enters Tryz.prog 132 Tryz.f132:=ek
def sg (xs ys:List Int) (g:Int × List Int):St :=
 av Tryz.f132.ntmps 104 ([(2,ao 0 0),(4,ao 16 0)]++[(7,sI .u64 (g.2.getD 0 0)),(8,sI .u64 (g.2.getD 1 0)),(9,sI .u64 (g.2.getD 2 0)),(10,sI .u64 (g.2.getD 3 0)),(11,sI .u64 (g.2.getD 4 0)),(12,sI .u64 (g.2.getD 5 0))]++[(16,sA .u64 6 ys),(17,sI .i64 g.1)])
  [(0,[.ints .u64 6 xs]),(16,[.ints .u64 6 (xT 6)])]
def CU (g:Int × List Int):St:=av Tryz.f132.ntmps 104 ([(4,ao 16 0)]++[(7,sI .u64 (g.2.getD 0 0)),(8,sI .u64 (g.2.getD 1 0)),(9,sI .u64 (g.2.getD 2 0)),(10,sI .u64 (g.2.getD 3 0)),(11,sI .u64 (g.2.getD 4 0)),(12,sI .u64 (g.2.getD 5 0))]) [(16,[.ints .u64 6 (xT 6)])]
def sh (xs ys:List Int) (g:Int × List Int):Int × List Int:=(IntKind.i64.wrap (g.1+1),nH 9940570264628428797 xs ms g.2 (ys.getD g.1.toNat 0))
def r9:List Int->List Int->List Int->Int->Int->Int->Int->Prop->Prop
 | x::e,p::b,t::d,v,m,a,c,K =>
  gW (x,v,t,a,())/\gW (m,p,(x*v+t+a)%18446744073709551616,c,()) /\
   r9 e b d v m ((x*v+t+a)/18446744073709551616) ((m*p+(x*v+t+a)%18446744073709551616+c)/18446744073709551616) K
 | _,_,_,_,_,_,_,K=>K
theorem CN {K:Prop} {v m:Int} (i:gI v) (h:gI m) (g:K):∀ (f b d:List Int) (a c:Int),Ws f->Ws b->Ws d->gI a->gI c->r9 f b d v m a c K:=by
 intro f;induction f with
 | nil=>intro b d a c _ _ _ _ _;exact g
 | cons x f E =>
  intro b d a c q l o z A;cases b with
  | nil=>exact g
  | cons p b =>
   cases d with
   | nil=>exact g
   | cons t d =>have k:=q x aw;have j:=l p aw;have F:=o t aw;have D:=lM (m:=18446744073709551615) (n:=18446744073709551615) k.1 (by have:=k.2;omega) i.1 (by have:=i.2;omega);have C:=lM (m:=18446744073709551615) (n:=18446744073709551615) h.1 (by have:=h.2;omega) j.1 (by have:=j.2;omega);obtain⟨G,H⟩:=F;obtain⟨r,s⟩:=z;obtain⟨u,w⟩:=A;simp only[r9];generalize x*v=L at *;generalize m*p=I at *;refine⟨⟨k,i,⟨G,H⟩,r,s⟩,⟨h,j,⟨aa,aa⟩,u,w⟩,?_⟩;exact E b d _ _ (fun y e=>q y (by simp[e])) (fun y e=>l y (by simp[e])) (fun y e=>o y (by simp[e])) ⟨aa,aa⟩ ⟨aa,aa⟩
def tm (xs ps a:List Int) (v:Int) (K:Prop):Prop :=
 match xs,ps,a with
 | x::xs,p::ps,t::a =>
  gW (x,v,t,(0:Int),())/\gW (((x*v+t+0)%18446744073709551616)*9940570264628428797%18446744073709551616,p,(x*v+t+0)%18446744073709551616,(0:Int),()) /\
  r9 xs ps a v (((x*v+t+0)%18446744073709551616)*9940570264628428797%18446744073709551616) ((x*v+t+0)/18446744073709551616)
   (((((x*v+t+0)%18446744073709551616)*9940570264628428797%18446744073709551616)*p+(x*v+t+0)%18446744073709551616+0)/18446744073709551616) K
 | _,_,_=>K
theorem AA {K:Prop} {v:Int} (d:gI v) (h:K) {xs ps e:List Int} (k:Ws xs) (i:Ws ps) (j:Ws e):tm xs ps e v K:=by unfold tm;split;rename_i x xs p ps t e;have g:=k x aw;have f:=i p aw;have q:=j t aw;have o:=lM (m:=18446744073709551615) (n:=18446744073709551615) g.1 (by have:=g.2;omega) d.1 (by have:=d.2;omega);obtain⟨r,s⟩:=q;generalize x*v=u at *;generalize w:((u+t+0)%18446744073709551616)*9940570264628428797%18446744073709551616=m;have a:gI m:=⟨aa,aa⟩;have l:=lM (m:=18446744073709551615) (n:=18446744073709551615) a.1 (by have:=a.2;omega) f.1 (by have:=f.2;omega);generalize m*p=z at *;refine⟨⟨g,d,⟨r,s⟩,aa,aa⟩,⟨a,f,⟨aa,aa⟩,aa,aa⟩,?_⟩;exact CN d a h xs ps e _ _ (fun y b=>k y (by simp[b])) (fun y b=>i y (by simp[b])) (fun y b=>j y (by simp[b])) ⟨aa,aa⟩ ⟨aa,aa⟩;exact h
def gj (xs ys:List Int) (k:Nat):List Int:=foldM 9940570264628428797 xs ms (replicate 6 0) (ys.take k)
def wv (xs ys:List Int) (g:Int × List Int):Prop:=∃ k:Nat,k<=6/\g=((k:Int),gj xs ys k)
theorem zN {a:Int} {xs ps:List Int}:∀ (b d:List Int) (v:Int),foldM a xs ps d (b++[v])=nH a xs ps (foldM a xs ps d b) v:=by
 intro b;induction b with
 | nil=>intro d v;rfl
 | cons u b e=>intro d v;exact e _ _
theorem gN:aO Tryz.prog 132 [(.arr 6 (.int .u64)),(.arr 6 (.int .u64))] [.val (.arr 6 (.int .u64))] bB dB iY:=by
 refine bL (sp:=aU [wm,Av]) ue ae ae ab ?_;have H:aJ Tryz.prog (aU [wm,Av]):=aM (aR B4) (aM (aR B3) bD);rintro w M0 ⟨xs,ys,⟨⟩⟩ ⟨⟨h1,_⟩,⟨h2,_⟩,_⟩ ⟨G,P,E⟩;match xs,h1,G,E with
 | [a,b,d,f,h,j],_,G,E =>
  have R:length ys=6:=h2;have K:[a,b,d,f,h,j].length=ms.length:=rfl;have A:∀ k,(gj [a,b,d,f,h,j] ys k).length=ms.length/\Ws (gj [a,b,d,f,h,j] ys k)/\val (gj [a,b,d,f,h,j] ys k)<val [a,b,d,f,h,j]+val ms:=by
   intro k;have:=zO (cancel:=9940570264628428797) K G pU (by simp[ms]) ae (by rw[fQ];exact E) (by rw[fQ];exact Fw) (ys.take k) (replicate 6 0) (fun y Q=>P y (nm Q)) (by rfl)
    (by intro x G;rw[(List.mem_replicate.1 G).2];exact⟨aa,aa⟩) (by rw[fQ,show val (replicate 6 0)=0 from by decide];have:=eE G;have:=Fv;omega)
   exact⟨this.1,this.2.1,this.2.2.1⟩
  have u:=Jr (cancel:=9940570264628428797) (xs:=[a,b,d,f,h,j]) (ps:=ms) (ys:=ys) (rinv:=rinv) K R G pU P (by simp[ms]) ae (by rw[fQ];exact E) (by rw[fQ];exact Fw) (by rw[fQ];exact Io);rw[fQ] at u
  -- V O at T L U
  have J0:wv [a,b,d,f,h,j] ys (0,replicate 6 0):=⟨0,aa,by simp[gj,foldM]⟩;show Tr _ _ _ _ _ _ _;refine bh H mixed 3 (sg [a,b,d,f,h,j] ys (0,replicate 6 0)) True ?_ (fun _=>?_);refine aq (X:=(sg [a,b,d,f,h,j] ys (0,replicate 6 0)).ah True) ab (au trivial);refine MW H mixed (sg [a,b,d,f,h,j] ys) (wv [a,b,d,f,h,j] ys) (fun g=>(6-g.1).toNat) (sh [a,b,d,f,h,j] ys) CU (fun g=>g.2=gj [a,b,d,f,h,j] ys 6) (0,replicate 6 0) (c:=ar (al Tryz.f132) 3) ab ab
   (ay ab ab J0) ?_ ?_
  ·rintro g ⟨k,hk,rfl⟩;obtain⟨N,f2,Z⟩:=A k;have t:∃ l m o q r s,gj [a,b,d,f,h,j] ys k=[l,m,o,q,r,s]:=by
    match gj [a,b,d,f,h,j] ys k,N with
    | [l,m,o,q,r,s],_=>exact⟨_,_,_,_,_,_,rfl⟩
   obtain⟨l,m,o,q,r,s,t⟩:=t;rw[t] at f2 ⊢
   refine aq (X:=((decide ((k:Int)<6)=true->(0<=(k:Int)/\(k:Int)<6)/\tm [a,b,d,f,h,j] ms [l,m,o,q,r,s] (ys.getD (k:Int).toNat 0) ((sg [a,b,d,f,h,j] ys (sh [a,b,d,f,h,j] ys ((k:Int),[l,m,o,q,r,s]))).ah (wv [a,b,d,f,h,j] ys (sh [a,b,d,f,h,j] ys ((k:Int),[l,m,o,q,r,s]))/\(6-(sh [a,b,d,f,h,j] ys ((k:Int),[l,m,o,q,r,s])).1).toNat<(6-(k:Int)).toNat)))
    /\ (decide ((k:Int)<6)=false->(CU ((k:Int),[l,m,o,q,r,s])).ah ([l,m,o,q,r,s]=gj [a,b,d,f,h,j] ys 6)))) ab ?_
   constructor
   ·intro D;have D:k<6:=by have:=Odt D;omega
    have hv:gI (ys.getD (k:Int).toNat 0):=by rw[a2,aF,bu aa];exact P _ (dr _)
    refine⟨⟨aa,aa⟩,AA hv (au ⟨⟨k+1,aa,?_⟩,?_⟩) G pU f2⟩
    ·have W:IntKind.i64.wrap ((k:Int)+1)=((k+1:Nat):Int):=by rw[wrap_i64 aa aa];omega
     have Y:gj [a,b,d,f,h,j] ys (k+1)=nH 9940570264628428797 [a,b,d,f,h,j] ms (gj [a,b,d,f,h,j] ys k) (ys.getD (k:Int).toNat 0):=by unfold gj;rw[cw aa,zN];rw[a2,aF,bu aa];rfl
     show (IntKind.i64.wrap ((k:Int)+1),nH 9940570264628428797 [a,b,d,f,h,j] ms [l,m,o,q,r,s] (ys.getD (k:Int).toNat 0))=_;rw[W,Y,t]
    show (6-IntKind.i64.wrap ((k:Int)+1)).toNat<_;rw[wrap_i64 aa aa];omega
   ·intro C;have C:k=6:=by
     have:=Odf C;omega
    refine au ?_;rw[<- t,C]
  ·rintro⟨i,ts⟩ t;have t:ts=gj [a,b,d,f,h,j] ys 6:=t;obtain⟨N,f2,Z⟩:=A 6;have I:ys.take 6=ys:=bW aa;have z:∃ l m o q r s,gj [a,b,d,f,h,j] ys 6=[l,m,o,q,r,s]:=by
    match gj [a,b,d,f,h,j] ys 6,N with
    | [l,m,o,q,r,s],_=>exact⟨_,_,_,_,_,_,rfl⟩
   obtain⟨l,m,o,q,r,s,z⟩:=z;subst t;rw[z] at f2 ⊢;refine bJ H mixed _ _ ?_;refine aq (X:=(Ws [l,m,o,q,r,s]/\((if val [l,m,o,q,r,s]<M then [l,m,o,q,r,s] else aY 6 (val [l,m,o,q,r,s]-M),()):List Int × Unit)=iY ([a,b,d,f,h,j],ys,()))) ab ?_;refine⟨f2,?_⟩;have e:foldM 9940570264628428797 [a,b,d,f,h,j] ms (replicate ms.length 0) ys=[l,m,o,q,r,s]:=by have:=z;unfold gj at this;rw[I] at this;exact this
   rw[e] at u;obtain⟨m1,m2,m3,m4⟩:=u;have m0:=eE m2;have hM:=Fv;simp only[iY,aL,bR];rw[<- m4];split;rename_i D;rw[de m0 D];exact (sY f2).symm
   ·rename_i C
    rw[show val [l,m,o,q,r,s]%M=val [l,m,o,q,r,s]-M from by
     rw[<- wJ,de aa aa]]
def iC:Nat × Eng.Spec:=(132,aK [(.arr 6 (.int .u64)),(.arr 6 (.int .u64))] [.val (.arr 6 (.int .u64))] dB iY)
end fp
end Go.Proofs.YtofofalgjibokaaGreatDoor
namespace Cr
section
variable {M:Int} [Md M]
theorem xJ (x y:Zm M):aY (Md.n M) (val (enc x)*val (enc y)*Md.rinv M%M)=enc (x*y):=by rw[<- ZC,dV,dV]
theorem pT (x:Zm M):0<=val (enc x)/\val (enc x)<M:=⟨eE (e4 x),(cI x).2.2⟩
theorem si {n:Nat} {a:Int} (b:0<=a) (c:a<pw n):val (aY n a)=a:=by rw[tt,de b c]
theorem NU (x y:Zm M):(if val (aY (Md.n M) (val (enc x)+val (enc y)))<M then aY (Md.n M) (val (enc x)+val (enc y)) else aY (Md.n M) (val (aY (Md.n M) (val (enc x)+val (enc y)))-M))=enc (x+y):=by
 have b:=pT x;have c:=pT y;have a:=Md.I2 (M:=M);have e:enc (x+y)=aY (Md.n M) ((val (enc x)+val (enc y))%M):=by rw[<- ZB,dV,dV]
 rw[si aa aa,e];split;rename_i h;rw[de aa h];rename_i h;rw[<- wJ,de aa aa]
theorem OR (n:Nat) (a:Int):aY n (a%pw n)=aY n a:=by have c:=tt n a;have b:=tt n (a%pw n);rw[kB] at b;exact val_inj (jx _ _) (jx _ _) (by rw[rL,rL]) (by rw[c,b])
theorem G5 {x y:Zm M} (h:val (enc x)<val (enc y)):aY (Md.n M) (val (aY (Md.n M) (val (enc x)-val (enc y)))+M)=enc (x-y):=by
 have a:=pT x;have b:=pT y;have e:enc (x-y)=aY (Md.n M) ((val (enc x)-val (enc y))%M):=by rw[<- Oh,dV,dV]
 rw[e,tt,<- OR _ (_+M),Int.emod_add_emod,OR];congr 1;rw[<- Bp,de aa aa]
theorem G4 {x y:Zm M} (h:¬ val (enc x)<val (enc y)):aY (Md.n M) (val (enc x)-val (enc y))=enc (x-y):=by
 have a:=pT x;have b:=pT y;have e:enc (x-y)=aY (Md.n M) ((val (enc x)-val (enc y))%M):=by rw[<- Oh,dV,dV]
 rw[e,de aa aa]
theorem Jz (x:Zm M) {u:List Int} (a:val u=1):aY (Md.n M) (val (enc x)*val u*Md.rinv M%M)=aY (Md.n M) x.v:=by
 congr 1;rw[a,lF,DM];show ((x.v*(pw (Md.n M)%M))%M)*Md.rinv M%M=_;have h:=Md.inv (M:=M);have:(x.v*(pw (Md.n M)%M)%M)*Md.rinv M%M=x.v*(pw (Md.n M)*Md.rinv M)%M:=by rw[dH,kB,<- dH,dz,dH,dH (pw (Md.n M)%M),kB,<- dH (pw (Md.n M)),<- dH]
 rw[this,dH,h,lF,kB,RV]
theorem ri {a:List Int}:aY (Md.n M) (val (enc (R2:Zm M))*val a*Md.rinv M%M)=enc (zm (val a):Zm M):=by
 rw[aci,DM];congr 1;have h:=Md.inv (M:=M);show ((pw (Md.n M)%M)*(pw (Md.n M)%M)%M)*val a*Md.rinv M%M=_;rw[<- dH];have e:(pw (Md.n M)*pw (Md.n M)%M)*val a*Md.rinv M%M=(pw (Md.n M)*pw (Md.n M))*(val a*Md.rinv M)%M:=by rw[dz,dH,kB,<- dH]
 rw[e,show pw (Md.n M)*pw (Md.n M)*(val a*Md.rinv M)=(val a*pw (Md.n M))*(pw (Md.n M)*Md.rinv M) by
  rw[dz,gM (val a) (pw (Md.n M)),dz,wQ (pw (Md.n M)) (val a)],dH,h,lF,kB]
end
end Cr
namespace Go.Proofs.YtofofalgjibokaaGreatDoor
namespace fp
theorem HJ:enters Tryz.prog 137 Tryz.f137:=ek
abbrev vV:HL [.fp,.fp]->HO [.val .fp]:=fun (x,y,_)=>((x:Fp)*y,())
theorem nR:aO Tryz.prog 137 [.fp,.fp] [.val .fp] bB (fun _=>True) vV:=by refine bg (sp:=aU [iC]) (aM (aR gN) bD) mixed HJ ae ae ?_;rintro w a ⟨x,y,⟨⟩⟩ _ _;refine aq (X:=(dB (enc x,enc y,())/\Canon Mp (aY 6 (val (enc x)*val (enc y)*rinv%M))/\(dec (aY 6 (val (enc x)*val (enc y)*rinv%M)),())=vV (x,y,()))) ab ?_;rw[show aY 6 (val (enc x)*val (enc y)*rinv%M)=enc (x*y) from xJ x y];exact⟨⟨e4 x,e4 y,(cI x).2.2⟩,cI _,by rw[dV]⟩
def kx:Nat × Eng.Spec:=(137,aK [.fp,.fp] [.val .fp] (fun _=>True) vV)
theorem zE:enters Tryz.prog 136 Tryz.f136:=ek
abbrev o7:HL [.fp]->HO [.val .fp]:=fun (x,_)=>((x:Fp)*x,())
theorem js:aO Tryz.prog 136 [.fp] [.val .fp] bB (fun _=>True) o7:=by refine bg (sp:=aU [iC]) (aM (aR gN) bD) mixed zE ae ae ?_;rintro w a ⟨x,⟨⟩⟩ _ _;refine aq (X:=(dB (enc x,enc x,())/\Canon Mp (aY 6 (val (enc x)*val (enc x)*rinv%M))/\(dec (aY 6 (val (enc x)*val (enc x)*rinv%M)),())=o7 (x,()))) ab ?_;rw[show aY 6 (val (enc x)*val (enc x)*rinv%M)=enc (x*x) from xJ x x];exact⟨⟨e4 x,e4 x,(cI x).2.2⟩,cI _,by rw[dV]⟩
def fN:Nat × Eng.Spec:=(136,aK [.fp] [.val .fp] (fun _=>True) o7)
theorem yH:enters Tryz.prog 139 Tryz.f139:=ek
abbrev kS:HL [.fp,.fp]->HO [.val .fp]:=fun (x,y,_)=>((x:Fp)+y,())
theorem nQ:aO Tryz.prog 139 [.fp,.fp] [.val .fp] bB (fun _=>True) kS:=by
 refine bg (sp:=aU [Av,uv]) (aM (aR B3) (aM (aR sN) bD)) mixed yH ae ae ?_;rintro w a ⟨x,y,⟨⟩⟩ _ _
 refine aq (X:=(og (enc x,enc y,())/\wb (aY 6 (val (enc x)+val (enc y)),()) /\
  Canon Mp (if val (aY 6 (val (enc x)+val (enc y)))<M then aY 6 (val (enc x)+val (enc y)) else aY 6 (val (aY 6 (val (enc x)+val (enc y)))-M)) /\
  (dec (if val (aY 6 (val (enc x)+val (enc y)))<M then aY 6 (val (enc x)+val (enc y)) else aY 6 (val (aY 6 (val (enc x)+val (enc y)))-M)),())=kS (x,y,()))) ab ?_
 rw[show (if val (aY 6 (val (enc x)+val (enc y)))<M then aY 6 (val (enc x)+val (enc y)) else aY 6 (val (aY 6 (val (enc x)+val (enc y)))-M))=enc (x+y) from NU x y];exact⟨⟨e4 x,e4 y⟩,jx _ _,cI _,by rw[dV]⟩
def jO:Nat × Eng.Spec:=(139,aK [.fp,.fp] [.val .fp] (fun _=>True) kS)
theorem HN:enters Tryz.prog 138 Tryz.f138:=ek
abbrev rW:HL [.fp,.fp]->HO [.val .fp]:=fun (x,y,_)=>((x:Fp)-y,())
theorem B9:aO Tryz.prog 138 [.fp,.fp] [.val .fp] bB (fun _=>True) rW:=by
 refine bg (sp:=aU [rj,uv,px]) (aM (aR oY) (aM (aR sN) (aM (aR ny) bD))) mixed HN ae ae ?_;rintro w b ⟨x,y,⟨⟩⟩ _ _
 refine aq (X:=(og (enc x,enc y,()) /\
  ((((if val (enc x)<val (enc y) then 1 else 0:Int) != 0)=true->True/\og (aY 6 (val (enc x)-val (enc y)),ms,())/\Canon Mp (aY 6 (val (aY 6 (val (enc x)-val (enc y)))+val ms))/\(dec (aY 6 (val (aY 6 (val (enc x)-val (enc y)))+val ms)),())=rW (x,y,())) /\
   (((if val (enc x)<val (enc y) then 1 else 0:Int) != 0)=false->Canon Mp (aY 6 (val (enc x)-val (enc y)))/\(dec (aY 6 (val (enc x)-val (enc y))),())=rW (x,y,()))))) ab ?_
 rw[fQ];refine⟨⟨e4 x,e4 y⟩,?_⟩;by_cases h:val (enc x)<val (enc y);rw[show aY 6 (val (aY 6 (val (enc x)-val (enc y)))+M)=enc (x-y) from G5 h];exact⟨fun _=>⟨trivial,⟨jx _ _,pU⟩,cI _,by rw[dV]⟩,fun a=>by simp[h] at a⟩;rw[show aY 6 (val (enc x)-val (enc y))=enc (x-y) from G4 h];exact⟨fun a=>by simp[h] at a,fun _=>⟨cI _,by rw[dV]⟩⟩
def G1:Nat × Eng.Spec:=(138,aK [.fp,.fp] [.val .fp] (fun _=>True) rW)
theorem HK:enters Tryz.prog 127 Tryz.f127:=ek
abbrev vW:HL [.fp]->HO [.val .fp]:=fun (x,_)=>(-(x:Fp),())
theorem C0 (x:Fp):0-x=-x:=Zm.ext (by rw[RM,J9,uA];simp)
theorem yK:aO Tryz.prog 127 [.fp] [.val .fp] bB (fun _=>True) vW:=by refine bg (sp:=aU [G1]) (aM (aR B9) bD) mixed HK ae ae ?_;rintro w a ⟨x,⟨⟩⟩ _ _;refine aq (X:=(True/\((0:Fp)-x,())=vW (x,()))) ab ?_;exact⟨trivial,by rw[C0]⟩
def Aw:Nat × Eng.Spec:=(127,aK [.fp] [.val .fp] (fun _=>True) vW)
theorem VN:enters Tryz.prog 135 Tryz.f135:=ek
abbrev Ie:HL [.fp]->HO [.val .bool]:=fun (x,_)=>(decide ((x:Fp)=0),())
theorem HS:aO Tryz.prog 135 [.fp] [.val .bool] bB (fun _=>True) Ie:=by refine bg (sp:=aU []) bD mixed VN ae ae ?_;rintro w a ⟨x,⟨⟩⟩ _ _;exact aq (X:=((decide (x=(0:Fp)),())=Ie (x,()))) ab rfl
def MH:Nat × Eng.Spec:=(135,aK [.fp] [.val .bool] (fun _=>True) Ie)
theorem HM:enters Tryz.prog 170 Tryz.f170:=ek
theorem B7:aO Tryz.prog 170 [] [.val .fp] bB (fun _=>True) (fun _=>((1:Fp),())):=by refine bg (sp:=aU []) bD mixed HM ae ae ?_;rintro w b ⟨⟩ _ _;refine aq (X:=(Canon Mp [8505329371266088957,17002214543764226050,6865905132761471162,8632934651105793861,6631298214892334189,1582556514881692819]/\(dec [8505329371266088957,17002214543764226050,6865905132761471162,8632934651105793861,6631298214892334189,1582556514881692819],())=((1:Fp),()))) ab ?_;refine⟨⟨rfl,?_,ae⟩,?_⟩;intro x a;simp at a;rcases a with rfl|rfl|rfl|rfl|rfl|rfl<;>exact⟨ae,ae⟩;rw[show (dec [8505329371266088957,17002214543764226050,6865905132761471162,8632934651105793861,6631298214892334189,1582556514881692819]:Fp)=1 from Zm.ext ae]
def uY:Nat × Eng.Spec:=(170,aK [] [.val .fp] (fun _=>True) (fun _=>((1:Fp),())))
end fp
namespace fr
abbrev M:Int:=Mr
def ms:List Int:=[18446744069414584321,6034159408538082302,3691218898639771653,8353516859464449352]
abbrev rinv:Int:=Md.rinv Mr
theorem fQ:val ms=M:=ae
theorem pU:Ws ms:=by intro x a;simp[ms] at a;rcases a with rfl|rfl|rfl|rfl<;>exact⟨ae,ae⟩
theorem Fv:0<M:=ae
theorem Fw:2*M<=pw 4:=ae
theorem Io:(pw 4*rinv)%M=1%M:=ae
theorem zC:enters Tryz.prog 93 Tryz.f93:=ek
abbrev gW:HL [.int .u64,.int .u64,.int .u64,.int .u64]->Prop:=fun (a,b,c,d,_)=>gI a/\gI b/\gI c/\gI d
abbrev lN:HL [.int .u64,.int .u64,.int .u64,.int .u64]->HO [.val (.int .u64),.val (.int .u64)]:=fun (a,b,c,d,_)=>(((a:Int)*b+c+d)/18446744073709551616,(a*b+c+d)%18446744073709551616,())
theorem B4:aO Tryz.prog 93 [.int .u64,.int .u64,.int .u64,.int .u64] [.val (.int .u64),.val (.int .u64)] bB gW lN:=by
 refine bg (sp:=aU [Px,DD]) (aM (aR K3) (aM (aR zI) bD)) mixed zC ae ae ?_;rintro w q ⟨a,b,c,d,⟨⟩⟩ _ ⟨⟨e,i⟩,⟨f,k⟩,⟨g,l⟩,h,o⟩;have j:=lM (m:=18446744073709551615) (n:=18446744073709551615) e aa f aa
 refine aq (X:=(Ai (a,b,())/\mf (a*b%18446744073709551616,c,0,())/\mf ((a*b%18446744073709551616+c+0)%18446744073709551616,d,0,()) /\
   ((((a*b/18446744073709551616+(a*b%18446744073709551616+c+0)/18446744073709551616)%18446744073709551616+((a*b%18446744073709551616+c+0)%18446744073709551616+d+0)/18446744073709551616)%18446744073709551616,
    ((a*b%18446744073709551616+c+0)%18446744073709551616+d+0)%18446744073709551616,()):Int × Int × Unit)=lN (a,b,c,d,()))) ab ?_
 refine⟨⟨⟨e,i⟩,f,k⟩,⟨⟨aa,aa⟩,⟨g,l⟩,.inl rfl⟩,⟨⟨aa,aa⟩,⟨h,o⟩,.inl rfl⟩,?_⟩;simp only[lN,aL,bR];generalize (a:Int)*b=r at *;exact⟨aa,aa⟩
def wm:Nat × Eng.Spec:=(93,aK [.int .u64,.int .u64,.int .u64,.int .u64] [.val (.int .u64),.val (.int .u64)] gW lN)
abbrev og:HL [(.arr 4 (.int .u64)),(.arr 4 (.int .u64))]->Prop:=fun (a,b,_)=>Ws a/\Ws b
abbrev qz:HL [(.arr 4 (.int .u64)),(.arr 4 (.int .u64))]->HO [.val (.arr 4 (.int .u64)),.val (.int .u64)]:=fun (a,b,_)=>(aY 4 (val a-val b),if val a<val b then (1:Int) else 0,())
abbrev mP:HL [(.arr 4 (.int .u64)),(.arr 4 (.int .u64))]->HO [.val (.arr 4 (.int .u64))]:=fun (a,b,_)=>(aY 4 (val a+val b),())
theorem BT:enters Tryz.prog 78 Tryz.f78:=ek
theorem oY:aO Tryz.prog 78 [(.arr 4 (.int .u64)),(.arr 4 (.int .u64))] [.val (.arr 4 (.int .u64)),.val (.int .u64)] bB og qz:=by
 refine bg (sp:=aU [Py]) (aM (aR K6) bD) mixed BT ae ae ?_;rintro w r ⟨o,q,⟨⟩⟩ ⟨⟨m,_⟩,⟨n,_⟩,_⟩ ⟨i,j⟩;match o,q,m,n,i,j with
 | [a,b,c,d],[e,f,g,h],_,_,i,j =>refine aq (X:=G3 [a,b,c,d] [e,f,g,h] 0 (((nI [a,b,c,d] [e,f,g,h] 0).1,(nI [a,b,c,d] [e,f,g,h] 0).2,())=qz ([a,b,c,d],[e,f,g,h],()))) ab ?_;refine JN _ _ 0 rfl i j (.inl rfl) ?_;obtain⟨k,l⟩:=Pz (us:=[a,b,c,d]) (vs:=[e,f,g,h]) rfl i j;rw[k,l];rfl
def rj:Nat × Eng.Spec:=(78,aK [(.arr 4 (.int .u64)),(.arr 4 (.int .u64))] [.val (.arr 4 (.int .u64)),.val (.int .u64)] og qz)
theorem vB:enters Tryz.prog 77 Tryz.f77:=ek
theorem sN:aO Tryz.prog 77 [(.arr 4 (.int .u64)),(.arr 4 (.int .u64))] [.val (.arr 4 (.int .u64))] bB og mP:=by
 refine bg (sp:=aU [DD]) (aM (aR zI) bD) mixed vB ae ae ?_;rintro w q ⟨n,o,⟨⟩⟩ ⟨⟨l,_⟩,⟨m,_⟩,_⟩ ⟨j,k⟩;match n,o,l,m,j,k with
 | [a,b,d,e],[f,g,h,i],_,_,j,k =>refine aq (X:=Fz [a,b,d,e] [f,g,h,i] 0 (((p7 [a,b,d,e] [f,g,h,i] 0).1,())=mP ([a,b,d,e],[f,g,h,i],()))) ab ?_;refine IW _ _ 0 rfl j k (.inl rfl) ?_;rw[NR (us:=[a,b,d,e]) (vs:=[f,g,h,i]) rfl j k];rfl
def uv:Nat × Eng.Spec:=(77,aK [(.arr 4 (.int .u64)),(.arr 4 (.int .u64))] [.val (.arr 4 (.int .u64))] og mP)
theorem xX:enters Tryz.prog 79 Tryz.f79:=ek
theorem ny:aO Tryz.prog 79 [] [.val (.arr 4 (.int .u64))] bB (fun _=>True) (fun _=>(ms,())):=by refine bg (sp:=aU []) bD mixed xX ae ae ?_;intro w a b _ _;exact aq (X:=((ms,()):List Int × Unit)=(ms,())) ab rfl
def px:Nat × Eng.Spec:=(79,aK [] [.val (.arr 4 (.int .u64))] (fun _=>True) (fun _=>(ms,())))
abbrev wb:HL [(.arr 4 (.int .u64))]->Prop:=fun (a,_)=>Ws a
abbrev mO:HL [(.arr 4 (.int .u64))]->HO [.val (.arr 4 (.int .u64))]:=fun (a,_)=>(if val a<M then a else aY 4 (val a-M),())
theorem HH:enters Tryz.prog 76 Tryz.f76:=ek
theorem B3:aO Tryz.prog 76 [(.arr 4 (.int .u64))] [.val (.arr 4 (.int .u64))] bB wb mO:=by refine bg (sp:=aU [rj,px]) (aM (aR oY) (aM (aR ny) bD)) mixed HH ae ae ?_;rintro w b ⟨xs,⟨⟩⟩ _ a;refine aq (X:=(True/\(Ws xs/\Ws ms)/\((((if val xs<val ms then 1 else 0:Int) != 0)=true->((xs,()):List Int × Unit)=mO (xs,()))/\(((if val xs<val ms then 1 else 0:Int) != 0)=false->((aY 4 (val xs-val ms),()):List Int × Unit)=mO (xs,()))))) ab ?_;refine⟨trivial,⟨a,pU⟩,?_⟩;rw[fQ];by_cases h:val xs<M;simp[h,mO];simp[h,mO]
def Av:Nat × Eng.Spec:=(76,aK [(.arr 4 (.int .u64))] [.val (.arr 4 (.int .u64))] wb mO)
abbrev dB:HL [(.arr 4 (.int .u64)),(.arr 4 (.int .u64))]->Prop:=fun (xs,ys,_)=>Ws xs/\Ws ys/\val xs<M
abbrev iY:HL [(.arr 4 (.int .u64)),(.arr 4 (.int .u64))]->HO [.val (.arr 4 (.int .u64))]:=fun (xs,ys,_)=>(aY 4 (val xs*val ys*rinv%M),())
theorem ue:enters Tryz.prog 53 Tryz.f53:=ek
def sg (xs ys:List Int) (g:Int × List Int):St :=
 av Tryz.f53.ntmps 88 ([(2,ao 0 0),(4,ao 16 0)]++[(7,sI .u64 (g.2.getD 0 0)),(8,sI .u64 (g.2.getD 1 0)),(9,sI .u64 (g.2.getD 2 0)),(10,sI .u64 (g.2.getD 3 0))]++[(14,sA .u64 4 ys),(15,sI .i64 g.1)])
  [(0,[.ints .u64 4 xs]),(16,[.ints .u64 4 (xT 4)])]
def CU (g:Int × List Int):St:=av Tryz.f53.ntmps 88 ([(4,ao 16 0)]++[(7,sI .u64 (g.2.getD 0 0)),(8,sI .u64 (g.2.getD 1 0)),(9,sI .u64 (g.2.getD 2 0)),(10,sI .u64 (g.2.getD 3 0))]) [(16,[.ints .u64 4 (xT 4)])]
def sh (xs ys:List Int) (g:Int × List Int):Int × List Int:=(IntKind.i64.wrap (g.1+1),nH 18446744069414584319 xs ms g.2 (ys.getD g.1.toNat 0))
def r9:List Int->List Int->List Int->Int->Int->Int->Int->Prop->Prop
 | x::e,p::b,t::d,v,m,a,c,K =>
  gW (x,v,t,a,())/\gW (m,p,(x*v+t+a)%18446744073709551616,c,()) /\
   r9 e b d v m ((x*v+t+a)/18446744073709551616) ((m*p+(x*v+t+a)%18446744073709551616+c)/18446744073709551616) K
 | _,_,_,_,_,_,_,K=>K
theorem CN {K:Prop} {v m:Int} (i:gI v) (h:gI m) (g:K):∀ (f b d:List Int) (a c:Int),Ws f->Ws b->Ws d->gI a->gI c->r9 f b d v m a c K:=by
 intro f;induction f with
 | nil=>intro b d a c _ _ _ _ _;exact g
 | cons x f E =>
  intro b d a c q l o z A;cases b with
  | nil=>exact g
  | cons p b =>
   cases d with
   | nil=>exact g
   | cons t d =>have k:=q x aw;have j:=l p aw;have F:=o t aw;have D:=lM (m:=18446744073709551615) (n:=18446744073709551615) k.1 (by have:=k.2;omega) i.1 (by have:=i.2;omega);have C:=lM (m:=18446744073709551615) (n:=18446744073709551615) h.1 (by have:=h.2;omega) j.1 (by have:=j.2;omega);obtain⟨G,H⟩:=F;obtain⟨r,s⟩:=z;obtain⟨u,w⟩:=A;simp only[r9];generalize x*v=L at *;generalize m*p=I at *;refine⟨⟨k,i,⟨G,H⟩,r,s⟩,⟨h,j,⟨aa,aa⟩,u,w⟩,?_⟩;exact E b d _ _ (fun y e=>q y (by simp[e])) (fun y e=>l y (by simp[e])) (fun y e=>o y (by simp[e])) ⟨aa,aa⟩ ⟨aa,aa⟩
def tm (xs ps a:List Int) (v:Int) (K:Prop):Prop :=
 match xs,ps,a with
 | x::xs,p::ps,t::a =>
  gW (x,v,t,(0:Int),())/\gW (((x*v+t+0)%18446744073709551616)*18446744069414584319%18446744073709551616,p,(x*v+t+0)%18446744073709551616,(0:Int),()) /\
  r9 xs ps a v (((x*v+t+0)%18446744073709551616)*18446744069414584319%18446744073709551616) ((x*v+t+0)/18446744073709551616)
   (((((x*v+t+0)%18446744073709551616)*18446744069414584319%18446744073709551616)*p+(x*v+t+0)%18446744073709551616+0)/18446744073709551616) K
 | _,_,_=>K
theorem AA {K:Prop} {v:Int} (d:gI v) (h:K) {xs ps e:List Int} (k:Ws xs) (i:Ws ps) (j:Ws e):tm xs ps e v K:=by unfold tm;split;rename_i x xs p ps t e;have g:=k x aw;have f:=i p aw;have q:=j t aw;have o:=lM (m:=18446744073709551615) (n:=18446744073709551615) g.1 (by have:=g.2;omega) d.1 (by have:=d.2;omega);obtain⟨r,s⟩:=q;generalize x*v=u at *;generalize w:((u+t+0)%18446744073709551616)*18446744069414584319%18446744073709551616=m;have a:gI m:=⟨aa,aa⟩;have l:=lM (m:=18446744073709551615) (n:=18446744073709551615) a.1 (by have:=a.2;omega) f.1 (by have:=f.2;omega);generalize m*p=z at *;refine⟨⟨g,d,⟨r,s⟩,aa,aa⟩,⟨a,f,⟨aa,aa⟩,aa,aa⟩,?_⟩;exact CN d a h xs ps e _ _ (fun y b=>k y (by simp[b])) (fun y b=>i y (by simp[b])) (fun y b=>j y (by simp[b])) ⟨aa,aa⟩ ⟨aa,aa⟩;exact h
def gj (xs ys:List Int) (k:Nat):List Int:=foldM 18446744069414584319 xs ms (replicate 4 0) (ys.take k)
def wv (xs ys:List Int) (g:Int × List Int):Prop:=∃ k:Nat,k<=4/\g=((k:Int),gj xs ys k)
theorem zN {a:Int} {xs ps:List Int}:∀ (b d:List Int) (v:Int),foldM a xs ps d (b++[v])=nH a xs ps (foldM a xs ps d b) v:=by
 intro b;induction b with
 | nil=>intro d v;rfl
 | cons u b e=>intro d v;exact e _ _
theorem gN:aO Tryz.prog 53 [(.arr 4 (.int .u64)),(.arr 4 (.int .u64))] [.val (.arr 4 (.int .u64))] bB dB iY:=by
 refine bL (sp:=aU [wm,Av]) ue ae ae ab ?_;have C:aJ Tryz.prog (aU [wm,Av]):=aM (aR B4) (aM (aR B3) bD);rintro w M0 ⟨xs,ys,⟨⟩⟩ ⟨⟨V,_⟩,⟨W,_⟩,_⟩ ⟨A,K,z⟩;match xs,V,A,z with
 | [a,b,d,f],_,A,z =>
  have N:length ys=4:=W;have E:[a,b,d,f].length=ms.length:=rfl;have s:∀ k,(gj [a,b,d,f] ys k).length=ms.length/\Ws (gj [a,b,d,f] ys k)/\val (gj [a,b,d,f] ys k)<val [a,b,d,f]+val ms:=by
   intro k;have:=zO (cancel:=18446744069414584319) E A pU (by simp[ms]) ae (by rw[fQ];exact z) (by rw[fQ];exact Fw) (ys.take k) (replicate 4 0) (fun y L=>K y (nm L)) (by rfl)
    (by intro x A;rw[(List.mem_replicate.1 A).2];exact⟨aa,aa⟩) (by rw[fQ,show val (replicate 4 0)=0 from by decide];have:=eE A;have:=Fv;omega)
   exact⟨this.1,this.2.1,this.2.2.1⟩
  have q:=Jr (cancel:=18446744069414584319) (xs:=[a,b,d,f]) (ps:=ms) (ys:=ys) (rinv:=rinv) E N A pU K (by simp[ms]) ae (by rw[fQ];exact z) (by rw[fQ];exact Fw) (by rw[fQ];exact Io);rw[fQ] at q
  -- Q I at O G P
  have J0:wv [a,b,d,f] ys (0,replicate 4 0):=⟨0,aa,by simp[gj,foldM]⟩;show Tr _ _ _ _ _ _ _;refine bh C mixed 3 (sg [a,b,d,f] ys (0,replicate 4 0)) True ?_ (fun _=>?_);refine aq (X:=(sg [a,b,d,f] ys (0,replicate 4 0)).ah True) ab (au trivial);refine MW C mixed (sg [a,b,d,f] ys) (wv [a,b,d,f] ys) (fun g=>(4-g.1).toNat) (sh [a,b,d,f] ys) CU (fun g=>g.2=gj [a,b,d,f] ys 4) (0,replicate 4 0) (c:=ar (al Tryz.f53) 3) ab ab
   (ay ab ab J0) ?_ ?_
  ·rintro g ⟨k,hk,rfl⟩;obtain⟨H,f2,U⟩:=s k;have o:∃ h j l m,gj [a,b,d,f] ys k=[h,j,l,m]:=by
    match gj [a,b,d,f] ys k,H with
    | [h,j,l,m],_=>exact⟨_,_,_,_,rfl⟩
   obtain⟨h,j,l,m,o⟩:=o;rw[o] at f2 ⊢
   refine aq (X:=((decide ((k:Int)<4)=true->(0<=(k:Int)/\(k:Int)<4)/\tm [a,b,d,f] ms [h,j,l,m] (ys.getD (k:Int).toNat 0) ((sg [a,b,d,f] ys (sh [a,b,d,f] ys ((k:Int),[h,j,l,m]))).ah (wv [a,b,d,f] ys (sh [a,b,d,f] ys ((k:Int),[h,j,l,m]))/\(4-(sh [a,b,d,f] ys ((k:Int),[h,j,l,m])).1).toNat<(4-(k:Int)).toNat)))
    /\ (decide ((k:Int)<4)=false->(CU ((k:Int),[h,j,l,m])).ah ([h,j,l,m]=gj [a,b,d,f] ys 4)))) ab ?_
   constructor
   ·intro u;have u:k<4:=by have:=Odt u;omega
    have Y:gI (ys.getD (k:Int).toNat 0):=by rw[a2,aF,bu aa];exact K _ (dr _)
    refine⟨⟨aa,aa⟩,AA Y (au ⟨⟨k+1,aa,?_⟩,?_⟩) A pU f2⟩
    ·have R:IntKind.i64.wrap ((k:Int)+1)=((k+1:Nat):Int):=by rw[wrap_i64 aa aa];omega
     have T:gj [a,b,d,f] ys (k+1)=nH 18446744069414584319 [a,b,d,f] ms (gj [a,b,d,f] ys k) (ys.getD (k:Int).toNat 0):=by unfold gj;rw[cw aa,zN];rw[a2,aF,bu aa];rfl
     show (IntKind.i64.wrap ((k:Int)+1),nH 18446744069414584319 [a,b,d,f] ms [h,j,l,m] (ys.getD (k:Int).toNat 0))=_;rw[R,T,o]
    show (4-IntKind.i64.wrap ((k:Int)+1)).toNat<_;rw[wrap_i64 aa aa];omega
   ·intro t;have t:k=4:=by
     have:=Odf t;omega
    refine au ?_;rw[<- o,t]
  ·rintro⟨i,ts⟩ o;have o:ts=gj [a,b,d,f] ys 4:=o;obtain⟨H,f2,U⟩:=s 4;have D:ys.take 4=ys:=bW aa;have r:∃ h j l m,gj [a,b,d,f] ys 4=[h,j,l,m]:=by
    match gj [a,b,d,f] ys 4,H with
    | [h,j,l,m],_=>exact⟨_,_,_,_,rfl⟩
   obtain⟨h,j,l,m,r⟩:=r;subst o;rw[r] at f2 ⊢;refine bJ C mixed _ _ ?_;refine aq (X:=(Ws [h,j,l,m]/\((if val [h,j,l,m]<M then [h,j,l,m] else aY 4 (val [h,j,l,m]-M),()):List Int × Unit)=iY ([a,b,d,f],ys,()))) ab ?_;refine⟨f2,?_⟩;have e:foldM 18446744069414584319 [a,b,d,f] ms (replicate ms.length 0) ys=[h,j,l,m]:=by have:=r;unfold gj at this;rw[D] at this;exact this
   rw[e] at q;obtain⟨m1,m2,m3,m4⟩:=q;have Z:=eE m2;have hM:=Fv;simp only[iY,aL,bR];rw[<- m4];split;rename_i u;rw[de Z u];exact (sY f2).symm
   ·rename_i t
    rw[show val [h,j,l,m]%M=val [h,j,l,m]-M from by
     rw[<- wJ,de aa aa]]
def iC:Nat × Eng.Spec:=(53,aK [(.arr 4 (.int .u64)),(.arr 4 (.int .u64))] [.val (.arr 4 (.int .u64))] dB iY)
theorem HJ:enters Tryz.prog 42 Tryz.f42:=ek
abbrev vV:HL [.fr,.fr]->HO [.val .fr]:=fun (x,y,_)=>((x:Fr)*y,())
theorem nR:aO Tryz.prog 42 [.fr,.fr] [.val .fr] bB (fun _=>True) vV:=by refine bg (sp:=aU [iC]) (aM (aR gN) bD) mixed HJ ae ae ?_;rintro w a ⟨x,y,⟨⟩⟩ _ _;refine aq (X:=(dB (enc x,enc y,())/\Canon Mr (aY 4 (val (enc x)*val (enc y)*rinv%M))/\(dec (aY 4 (val (enc x)*val (enc y)*rinv%M)),())=vV (x,y,()))) ab ?_;rw[show aY 4 (val (enc x)*val (enc y)*rinv%M)=enc (x*y) from xJ x y];exact⟨⟨e4 x,e4 y,(cI x).2.2⟩,cI _,by rw[dV]⟩
def kx:Nat × Eng.Spec:=(42,aK [.fr,.fr] [.val .fr] (fun _=>True) vV)
theorem zE:enters Tryz.prog 95 Tryz.f95:=ek
abbrev o7:HL [.fr]->HO [.val .fr]:=fun (x,_)=>((x:Fr)*x,())
theorem js:aO Tryz.prog 95 [.fr] [.val .fr] bB (fun _=>True) o7:=by refine bg (sp:=aU [iC]) (aM (aR gN) bD) mixed zE ae ae ?_;rintro w a ⟨x,⟨⟩⟩ _ _;refine aq (X:=(dB (enc x,enc x,())/\Canon Mr (aY 4 (val (enc x)*val (enc x)*rinv%M))/\(dec (aY 4 (val (enc x)*val (enc x)*rinv%M)),())=o7 (x,()))) ab ?_;rw[show aY 4 (val (enc x)*val (enc x)*rinv%M)=enc (x*x) from xJ x x];exact⟨⟨e4 x,e4 x,(cI x).2.2⟩,cI _,by rw[dV]⟩
def fN:Nat × Eng.Spec:=(95,aK [.fr] [.val .fr] (fun _=>True) o7)
theorem yH:enters Tryz.prog 43 Tryz.f43:=ek
abbrev kS:HL [.fr,.fr]->HO [.val .fr]:=fun (x,y,_)=>((x:Fr)+y,())
theorem nQ:aO Tryz.prog 43 [.fr,.fr] [.val .fr] bB (fun _=>True) kS:=by
 refine bg (sp:=aU [Av,uv]) (aM (aR B3) (aM (aR sN) bD)) mixed yH ae ae ?_;rintro w a ⟨x,y,⟨⟩⟩ _ _
 refine aq (X:=(og (enc x,enc y,())/\wb (aY 4 (val (enc x)+val (enc y)),()) /\
  Canon Mr (if val (aY 4 (val (enc x)+val (enc y)))<M then aY 4 (val (enc x)+val (enc y)) else aY 4 (val (aY 4 (val (enc x)+val (enc y)))-M)) /\
  (dec (if val (aY 4 (val (enc x)+val (enc y)))<M then aY 4 (val (enc x)+val (enc y)) else aY 4 (val (aY 4 (val (enc x)+val (enc y)))-M)),())=kS (x,y,()))) ab ?_
 rw[show (if val (aY 4 (val (enc x)+val (enc y)))<M then aY 4 (val (enc x)+val (enc y)) else aY 4 (val (aY 4 (val (enc x)+val (enc y)))-M))=enc (x+y) from NU x y];exact⟨⟨e4 x,e4 y⟩,jx _ _,cI _,by rw[dV]⟩
def jO:Nat × Eng.Spec:=(43,aK [.fr,.fr] [.val .fr] (fun _=>True) kS)
theorem HN:enters Tryz.prog 118 Tryz.f118:=ek
abbrev rW:HL [.fr,.fr]->HO [.val .fr]:=fun (x,y,_)=>((x:Fr)-y,())
theorem B9:aO Tryz.prog 118 [.fr,.fr] [.val .fr] bB (fun _=>True) rW:=by
 refine bg (sp:=aU [rj,uv,px]) (aM (aR oY) (aM (aR sN) (aM (aR ny) bD))) mixed HN ae ae ?_;rintro w b ⟨x,y,⟨⟩⟩ _ _
 refine aq (X:=(og (enc x,enc y,()) /\
  ((((if val (enc x)<val (enc y) then 1 else 0:Int) != 0)=true->True/\og (aY 4 (val (enc x)-val (enc y)),ms,())/\Canon Mr (aY 4 (val (aY 4 (val (enc x)-val (enc y)))+val ms))/\(dec (aY 4 (val (aY 4 (val (enc x)-val (enc y)))+val ms)),())=rW (x,y,())) /\
   (((if val (enc x)<val (enc y) then 1 else 0:Int) != 0)=false->Canon Mr (aY 4 (val (enc x)-val (enc y)))/\(dec (aY 4 (val (enc x)-val (enc y))),())=rW (x,y,()))))) ab ?_
 rw[fQ];refine⟨⟨e4 x,e4 y⟩,?_⟩;by_cases h:val (enc x)<val (enc y);rw[show aY 4 (val (aY 4 (val (enc x)-val (enc y)))+M)=enc (x-y) from G5 h];exact⟨fun _=>⟨trivial,⟨jx _ _,pU⟩,cI _,by rw[dV]⟩,fun a=>by simp[h] at a⟩;rw[show aY 4 (val (enc x)-val (enc y))=enc (x-y) from G4 h];exact⟨fun a=>by simp[h] at a,fun _=>⟨cI _,by rw[dV]⟩⟩
def G1:Nat × Eng.Spec:=(118,aK [.fr,.fr] [.val .fr] (fun _=>True) rW)
theorem HK:enters Tryz.prog 75 Tryz.f75:=ek
abbrev vW:HL [.fr]->HO [.val .fr]:=fun (x,_)=>(-(x:Fr),())
theorem C0 (x:Fr):0-x=-x:=Zm.ext (by rw[RM,J9,uA];simp)
theorem yK:aO Tryz.prog 75 [.fr] [.val .fr] bB (fun _=>True) vW:=by refine bg (sp:=aU [G1]) (aM (aR B9) bD) mixed HK ae ae ?_;rintro w a ⟨x,⟨⟩⟩ _ _;refine aq (X:=(True/\((0:Fr)-x,())=vW (x,()))) ab ?_;exact⟨trivial,by rw[C0]⟩
def Aw:Nat × Eng.Spec:=(75,aK [.fr] [.val .fr] (fun _=>True) vW)
theorem HM:enters Tryz.prog 94 Tryz.f94:=ek
theorem B7:aO Tryz.prog 94 [] [.val .fr] bB (fun _=>True) (fun _=>((1:Fr),())):=by refine bg (sp:=aU []) bD mixed HM ae ae ?_;rintro w b ⟨⟩ _ _;refine aq (X:=(Canon Mr [8589934590,6378425256633387010,11064306276430008309,1739710354780652911]/\(dec [8589934590,6378425256633387010,11064306276430008309,1739710354780652911],())=((1:Fr),()))) ab ?_;refine⟨⟨rfl,?_,ae⟩,?_⟩;intro x a;simp at a;rcases a with rfl|rfl|rfl|rfl<;>exact⟨ae,ae⟩;rw[show (dec [8589934590,6378425256633387010,11064306276430008309,1739710354780652911]:Fr)=1 from Zm.ext ae]
def uY:Nat × Eng.Spec:=(94,aK [] [.val .fr] (fun _=>True) (fun _=>((1:Fr),())))
end fr
namespace fp
theorem BW:enters Tryz.prog 133 Tryz.f133:=ek
def mv (t:Nat) (g:Int × Fp):St:=av Tryz.f133.ntmps 40 [(0,ao 0 0),(1,ao 16 0),(t,sI .i64 g.1)] [(16,[.row .fp 1 [g.2]]),(0,[.row .fp 1 [(0:Fp)]])]
def rC:Nat->Fp
 | 0=>1
 | k+1=>rC k+rC k
def uw (x:Fp):Nat->Fp
 | 0=>x
 | k+1=>uw x k*uw x k
theorem sO:aO Tryz.prog 133 [] [.val .fp] bB (fun _=>True) (fun _=>((R2:Fp),())):=by
 have a:aJ Tryz.prog (aU [uY,jO,fN]):=aM (aR B7) (aM (aR nQ) (aM (aR js) bD));refine bL (sp:=aU [uY,jO,fN]) BW ae ae ab ?_;rintro w d ⟨⟩ _ _;show Tr _ _ _ _ _ _ _;refine bh a mixed 3 (mv 3 (0,1)) True ?_ (fun _=>?_);refine aq (X:=True/\(mv 3 (0,1)).ah True) ab ⟨trivial,au trivial⟩;refine fP a mixed (mv 3) (fun k=>((k:Int),rC k)) 3 (fun g=>(IntKind.i64.wrap (g.1+1),g.2+g.2)) (mv 3) (c:=ar (al Tryz.f133) 3) ab ab (ay ab ab trivial)
  (fun k b=>by show (_,_)=(_,_);rw[aS aa];rfl) ?_ ?_
 intro k b;refine aq (X:=((decide ((k:Int)<3)=true->True/\(mv 3 (IntKind.i64.wrap ((k:Int)+1),rC k+rC k)).ah (k<3))/\(decide ((k:Int)<3)=false->(mv 3 ((k:Int),rC k)).ah (k=3)))) ab ?_;exact⟨fun h=>⟨trivial,au (by have:=dec_lt h;omega)⟩,fun h=>au (by have:=bX h;omega)⟩;refine bh a mixed 1 (mv 9 (0,rC 3)) True ?_ (fun _=>?_);refine aq (X:=(mv 9 (0,rC 3)).ah True) ab (au trivial);refine fP a mixed (mv 9) (fun k=>((k:Int),uw (rC 3) k)) 7 (fun g=>(IntKind.i64.wrap (g.1+1),g.2*g.2)) (mv 9) (c:=ar (al Tryz.f133) 5) ab ab (ay ab ab trivial)
  (fun k b=>by show (_,_)=(_,_);rw[aS aa];rfl) ?_ ?_
 intro k b;refine aq (X:=((decide ((k:Int)<7)=true->True/\(mv 9 (IntKind.i64.wrap ((k:Int)+1),uw (rC 3) k*uw (rC 3) k)).ah (k<7))/\(decide ((k:Int)<7)=false->(mv 9 ((k:Int),uw (rC 3) k)).ah (k=7)))) ab ?_;exact⟨fun h=>⟨trivial,au (by have:=dec_lt h;omega)⟩,fun h=>au (by have:=bX h;omega)⟩;refine bJ a mixed _ _ ?_;refine aq (X:=(uw (rC 3) 7,())=((R2:Fp),())) ab ?_;rw[show uw (rC 3) 7=R2 from Zm.ext ae]
def tj:Nat × Eng.Spec:=(133,aK [] [.val .fp] (fun _=>True) (fun _=>((R2:Fp),())))
theorem ud:enters Tryz.prog 134 Tryz.f134:=ek
abbrev uU:HL [.int .u64]->HO [.val .fp]:=fun (n,_)=>((zm n:Fp),())
theorem tw:aO Tryz.prog 134 [.int .u64] [.val .fp] bB (fun (n,_)=>gI n) uU:=by refine bg (sp:=aU [tj,iC]) (aM (aR sO) (aM (aR gN) bD)) mixed ud ae ae ?_;rintro w b ⟨n,⟨⟩⟩ _ a;refine aq (X:=(True/\dB (enc (R2:Fp),[n,0,0,0,0,0],())/\Canon Mp (aY 6 (val (enc (R2:Fp))*val [n,0,0,0,0,0]*rinv%M))/\(dec (aY 6 (val (enc (R2:Fp))*val [n,0,0,0,0,0]*rinv%M)),())=uU (n,()))) ab ?_;rw[show aY 6 (val (enc (R2:Fp))*val [n,0,0,0,0,0]*rinv%M)=enc (zm (val [n,0,0,0,0,0]):Fp) from ri (M:=Mp)];refine⟨trivial,⟨e4 _,?_,(cI _).2.2⟩,cI _,?_⟩;intro x hx;rcases mem_cons.1 hx with rfl|hx;exact a;simp at hx;subst hx;exact⟨ae,ae⟩;rw[dV];simp[val,uU]
def ti:Nat × Eng.Spec:=(134,aK [.int .u64] [.val .fp] (fun (n,_)=>gI n) uU)
end fp
namespace fr
theorem BW:enters Tryz.prog 54 Tryz.f54:=ek
def mv (t:Nat) (g:Int × Fr):St:=av Tryz.f54.ntmps 56 [(0,ao 0 0),(1,ao 32 0),(t,sI .i64 g.1)] [(32,[.row .fr 1 [g.2]]),(0,[.row .fr 1 [(0:Fr)]])]
def uw (x:Fr):Nat->Fr
 | 0=>x
 | k+1=>uw x k*uw x k
theorem sO:aO Tryz.prog 54 [] [.val .fr] bB (fun _=>True) (fun _=>((R2:Fr),())):=by
 have a:aJ Tryz.prog (aU [uY,jO,fN]):=aM (aR B7) (aM (aR nQ) (aM (aR js) bD));refine bL (sp:=aU [uY,jO,fN]) BW ae ae ab ?_;rintro w d ⟨⟩ _ _;show Tr _ _ _ _ _ _ _;refine bh a mixed 3 (mv 5 (0,1+1)) True ?_ (fun _=>?_);refine aq (X:=True/\True/\True/\(mv 5 (0,1+1)).ah True) ab ⟨trivial,trivial,trivial,au trivial⟩;refine fP a mixed (mv 5) (fun k=>((k:Int),uw (1+1) k)) 8 (fun g=>(IntKind.i64.wrap (g.1+1),g.2*g.2)) (mv 5) (c:=ar (al Tryz.f54) 3) ab ab (ay ab ab trivial)
  (fun k b=>by show (_,_)=(_,_);rw[aS aa];rfl) ?_ ?_
 intro k b;refine aq (X:=((decide ((k:Int)<8)=true->True/\(mv 5 (IntKind.i64.wrap ((k:Int)+1),uw (1+1) k*uw (1+1) k)).ah (k<8))/\(decide ((k:Int)<8)=false->(mv 5 ((k:Int),uw (1+1) k)).ah (k=8)))) ab ?_;exact⟨fun h=>⟨trivial,au (by have:=dec_lt h;omega)⟩,fun h=>au (by have:=bX h;omega)⟩;refine bJ a mixed _ _ ?_;refine aq (X:=(uw (1+1) 8,())=((R2:Fr),())) ab ?_;rw[show uw (1+1) 8=R2 from Zm.ext ae]
def tj:Nat × Eng.Spec:=(54,aK [] [.val .fr] (fun _=>True) (fun _=>((R2:Fr),())))
theorem ud:enters Tryz.prog 23 Tryz.f23:=ek
abbrev uU:HL [.int .u64]->HO [.val .fr]:=fun (n,_)=>((zm n:Fr),())
theorem tw:aO Tryz.prog 23 [.int .u64] [.val .fr] bB (fun (n,_)=>gI n) uU:=by refine bg (sp:=aU [tj,iC]) (aM (aR sO) (aM (aR gN) bD)) mixed ud ae ae ?_;rintro w b ⟨n,⟨⟩⟩ _ a;refine aq (X:=(True/\dB (enc (R2:Fr),[n,0,0,0],())/\Canon Mr (aY 4 (val (enc (R2:Fr))*val [n,0,0,0]*rinv%M))/\(dec (aY 4 (val (enc (R2:Fr))*val [n,0,0,0]*rinv%M)),())=uU (n,()))) ab ?_;rw[show aY 4 (val (enc (R2:Fr))*val [n,0,0,0]*rinv%M)=enc (zm (val [n,0,0,0]):Fr) from ri (M:=Mr)];refine⟨trivial,⟨e4 _,?_,(cI _).2.2⟩,cI _,?_⟩;intro x hx;rcases mem_cons.1 hx with rfl|hx;exact a;simp at hx;subst hx;exact⟨ae,ae⟩;rw[dV];simp[val,uU]
def ti:Nat × Eng.Spec:=(23,aK [.int .u64] [.val .fr] (fun (n,_)=>gI n) uU)
end fr
end Go.Proofs.YtofofalgjibokaaGreatDoor
namespace Cr
def Bs (l:List Int):Prop:=∀ x∈l,0<=x/\x<256
def num (l:List Int):Int:=l.foldl (fun a b=>a*256+b) 0
def bG:Nat->Int
 | 0=>1
 | n+1=>256*bG n
theorem kb (n:Nat):0<bG n:=by
 induction n with
 | zero=>decide
 | succ n a=>simp only[bG];omega
theorem tc (m n:Nat):bG (m+n)=bG m*bG n:=by
 induction m with
 | zero=>simp[bG]
 | succ m a=>rw[Nat.succ_add];simp only[bG,a,dz]
theorem vY (n:Nat):bG (8*n)=pw n:=by
 induction n with
 | zero=>rfl
 | succ n a =>rw[wZ,oN,tc,a];rfl
theorem vS (l:List Int) (b:Int):num (l++[b])=num l*256+b:=by simp[num]
theorem SY (l:List Int):∀ a:Int,l.foldl (fun a b=>a*256+b) a=a*bG l.length+num l:=by
 induction l with
 | nil=>intro a;simp[num,bG]
 | cons b l c =>intro a;simp only[List.foldl_cons,bN,bG,num];rw[c,c (0*256+b)];simp only[qO,Int.zero_mul,Int.zero_add];rw[show a*256*bG l.length=a*(256*bG l.length) from dz _ _ _];omega
theorem Gr (l m:List Int):num (l++m)=num l*bG m.length+num m:=by show (l++m).foldl _ 0=_;rw[Bw,SY];rfl
theorem Cs {l:List Int} (h:Bs l):0<=num l/\num l<bG l.length:=by
 induction l with
 | nil=>simp[num,bG]
 | cons b l f =>
  have c:=h b aw;have j:=f (fun x d=>h x (by simp[d]));have e:num (b::l)=b*bG l.length+num l:=Gr [b] l▸by simp[num]
  rw[e,bN];simp only[bG];have a:=kb l.length;have g:=mZ c.1 (eJ a);have i:b*bG l.length<=255*bG l.length:=vt aa (eJ a);omega
theorem C2 {l:List Int} (h:Bs l) (n:Nat):Bs (l.take n):=fun x a=>h x (nm a)
theorem yo {l:List Int} (h:Bs l) (n:Nat):Bs (l.drop n):=fun x a=>h x (Bl a)
theorem J1 {l:List Int} {k:Nat} (h:k<l.length):num (l.take (k+1))=num (l.take k)*256+l.getD k 0:=by rw[cw h,vS];congr 1;simp[h]
theorem aaM:∀ (n j:Nat) (A d:Int),j<n->0<=d->(aY n A).getD j 0+d<18446744073709551616 ->
  (aY n A).set j ((aY n A).getD j 0+d)=aY n (A+d*pw j):=by
 intro n;induction n with
 | zero=>intro j A d h;omega
 | succ n g =>
  intro j A d i f a;cases j with
  | zero =>simp only[aY,wH,oD,pw,lF] at a ⊢;have b:(A+d)%18446744073709551616=A%18446744073709551616+d:=aa;have c:(A+d)/18446744073709551616=A/18446744073709551616:=aa;rw[b,c]
  | succ j =>
   simp only[aY,List.getD_cons_succ,Bt,pw] at a ⊢;rw[g j _ d aa f a];have e:d*(18446744073709551616*pw j)=18446744073709551616*(d*pw j):=by rw[wQ]
   have b:(A+18446744073709551616*(d*pw j))%18446744073709551616=A%18446744073709551616:=aa;have c:(A+18446744073709551616*(d*pw j))/18446744073709551616=A/18446744073709551616+d*pw j:=aa;rw[e,b,c]
theorem vh:∀ (n j:Nat) (A:Int),j<n->(aY n A).getD j 0=A/pw j%18446744073709551616:=by
 intro n;induction n with
 | zero=>intro j A h;omega
 | succ n a =>
  intro j A b;cases j with
  | zero=>simp[aY,pw]
  | succ j =>simp only[aY,List.getD_cons_succ,pw];rw[a j _ aa,nj ae]
theorem vZ (n:Nat):bG n=((2^(8*n):Nat):Int):=by
 induction n with
 | zero=>rfl
 | succ n a=>rw[bG,a,wZ,Nat.pow_add];simp;omega
theorem IL (N:Int) (q:Nat):(N*bG (q+1))/pw (q/8)%18446744073709551616=N*bG (q%8+1)%18446744073709551616:=by
 have e:N*bG (q+1)=N*bG (q%8+1)*pw (q/8):=by rw[<- vY,dz,<- tc];congr 2;omega
 rw[e,Int.mul_ediv_cancel _ (by have:=we (q/8);omega)]
theorem L9 {m:Nat} (h:m<=8):∃ c:Int,(18446744073709551616:Int)=c*bG m/\0<c:=by refine⟨bG (8-m),?_,kb _⟩;rw[<- tc,Nat.sub_add_cancel h];rfl
theorem aaZ {N v:Int} {q:Nat} (d:0<=v) (k:v<256) (l:q<8) :
  ∃ c:Nat,N*bG (q+1)%18446744073709551616=((c*2^(8*(q+1)):Nat):Int)/\v*bG q<bG (q+1)/\0<=v*bG q/\N*bG (q+1)%18446744073709551616+v*bG q<18446744073709551616:=by
 obtain⟨c,h,a⟩:=L9 (m:=q+1) aa;have i:=kb (q+1);have e:N*bG (q+1)%18446744073709551616=(N%c)*bG (q+1):=by rw[h,gM N,gM c,Int.mul_emod_mul_of_pos _ _ i,gM]
 have b:=qJ N (show c≠0 by omega);have j:=tK N a;have f:v*bG q<bG (q+1):=by show _<256*bG q;exact Int.mul_lt_mul_of_pos_right k (kb q)
 have g:0<=v*bG q:=mZ d (eJ (kb q));refine⟨(N%c).toNat,?_,f,g,?_⟩;rw[e,vZ];rw[wU,Bn b]
 ·rw[e,h];have:(N%c)*bG (q+1)+bG (q+1)<=c*bG (q+1):=by
   have:=vt (show N%c+1<=c by omega) (eJ i);rw[qO,Int.one_mul] at this;exact this
  omega
def dw (n:Nat) (N:Int):List Int:=(range n).map fun i=>N/bG (n-1-i)%256
theorem gE (n:Nat) (N:Int):(dw n N).length=n:=by simp[dw]
theorem w6 (n:Nat) (N:Int):Bs (dw n N):=by intro x a;simp[dw] at a;obtain⟨i,_,rfl⟩:=a;omega
theorem Gs (n:Nat):∀ N:Int,0<=N->N<bG n->num (dw n N)=N:=by
 induction n with
 | zero=>intro N c a;simp[bG] at a;simp[dw,num];omega
 | succ n d =>
  intro N c a;have e:dw (n+1) N=dw n (N/256)++[N%256]:=by unfold dw;rw[qK,di];congr 1;apply Bo;intro i b;have b:=List.mem_range.1 b;rw[show n+1-1-i=(n-1-i)+1 by omega];rw[show bG (n-1-i+1)=256*bG (n-1-i) from rfl,<- nj ae];simp[bG]
  rw[e,vS,d (N/256) aa (by simp only[bG] at a;omega)];omega
theorem Zr {n:Nat} {N:Int} {i:Nat} (h:i<8*n):((aY n N).getD (n-1-i/8) 0)/bG (7-i%8)%256=N/bG (8*n-1-i)%256:=by
 rw[vh _ _ _ aa];obtain⟨c,e,f⟩:=L9 (m:=7-i%8+1) aa;have a:bG (8*n-1-i)=pw (n-1-i/8)*bG (7-i%8):=by rw[<- vY,<- tc];congr 1;omega
 rw[a,<- nj (eJ (we _))];generalize N/pw (n-1-i/8)=A;have g:=kb (7-i%8);rw[e,show bG (7-i%8+1)=256*bG (7-i%8) from rfl];generalize bG (7-i%8)=P at *;have b:A%(c*(256*P))=A%(P*(256*c)):=by congr 1;rw[gM c,gM 256 P,dz]
 rw[b];have d:A%(P*(256*c))/P=(A/P)%(256*c):=by rw[tV,tV,dz,<- Int.sub_mul_ediv_left _ _ (show P≠0 by omega),<- nj (eJ g)]
 rw[d,Bm _ ⟨c,rfl⟩]
end Cr
namespace Go.Eng
open Go.IntKind(i64 u64 u8)
theorem wrap_u8 (a:Int):u8.wrap a=a%256:=by simp[IntKind.wrap,IntKind.signed,IntKind.bits]
theorem xP (a:Int):u64.wrap a=a%18446744073709551616:=by simp[IntKind.wrap,IntKind.signed,IntKind.bits]
def wk (n i:Int):Int:=i64.wrap (i64.wrap (n-1)-i)
def wj (n i:Int):Int:=i64.wrap ((wk n i).tdiv 8)
def P5 (n i:Int):Int:=i64.wrap (8*(wk n i).tmod 8)
def IM (a:List Int) (n i v:Int):List Int :=
 a.set (wj n i).toNat (aD .or .u64 (a.getD (wj n i).toNat 0) (u64.wrap (u64.wrap v*2^(min (P5 n i).toNat u64.bits))))
theorem Zf {len k:Nat} (h:k<len) (b:len<1000000):wk len k=((len-1-k:Nat):Int):=by unfold wk;rw[ba (a:=(len:Int)-1) aa aa,ba aa aa];omega
theorem Ze {len k:Nat} (h:k<len) (a:len<1000000):wj len k=(((len-1-k)/8:Nat):Int):=by unfold wj;rw[Zf h a,sE aa,ba aa aa];omega
theorem UO {len k:Nat} (h:k<len) (a:len<1000000):P5 len k=((8*((len-1-k)%8):Nat):Int):=by unfold P5;rw[Zf h a,ni aa,ba aa aa];omega
theorem aeq (c t y:Nat) (h:y<2^t) (e:c*2^t+y<18446744073709551616):aD .or .u64 ((c*2^t:Nat):Int) (y:Int)=((c*2^t+y:Nat):Int):=by
 show u64.wrap ((BitVec.ofInt 64 ((c*2^t:Nat):Int) ||| BitVec.ofInt 64 (y:Int):BitVec 64).toNat:Int)=_;have b:(BitVec.ofInt 64 ((c*2^t:Nat):Int)).toNat=c*2^t:=by rw[show BitVec.ofInt 64 ((c*2^t:Nat):Int)=BitVec.ofNat 64 (c*2^t) from tH ..,qG,hY aa]
 have d:(BitVec.ofInt 64 (y:Int)).toNat=y:=by rw[show BitVec.ofInt 64 (y:Int)=BitVec.ofNat 64 y from tH ..,qG,hY aa]
 rw[BitVec.toNat_or,b,d];have a:=Nat.shiftLeft_add_eq_or_of_lt h c;rw[Nat.shiftLeft_eq] at a;rw[<- a,xP];omega
theorem PY {n:Nat} {a:List Int} (m:Bs a) (z:a.length<=8*n) (o:a.length<1000000) {k:Nat} (f:k<a.length) :
  IM (aY n (num (a.take k)*bG (a.length-k))) a.length k (a.getD k 0)=aY n (num (a.take (k+1))*bG (a.length-(k+1))):=by
 unfold IM;rw[Ze f o,UO f o];simp only[aF];have j:0<=a.getD k 0/\a.getD k 0<256:=by have:=m (a.getD k 0) (by simp[f]);exact this
 rw[J1 f];generalize A:a.length-1-k=q at *;generalize a.getD k 0=v at *;have x:=(Cs (C2 m k)).1;have s:a.length-k=q+1:=aa;have t:a.length-(k+1)=q:=aa;rw[s,t];generalize num (a.take k)=N at *;have d:q/8<n:=aa;rw[vh _ _ _ d,IL];obtain⟨c,u,w,g,l⟩:=aaZ (N:=N) (v:=v) (q:=q%8) j.1 j.2 aa;have i:u64.wrap (u64.wrap v*2^min (8*(q%8)) u64.bits)=v*bG (q%8):=by rw[show u64.bits=64 from rfl,iU aa,xP v,de j.1 aa,vZ,xP];have e:((2^(8*(q%8)):Nat):Int)=(2:Int)^(8*(q%8)):=aw;rw[<- e,<- vZ];exact de g (by have:=qJ (N*bG (q%8+1)) (show (18446744073709551616:Int)≠0 by decide);omega)
 rw[i];have h:aD .or .u64 (N*bG (q%8+1)%18446744073709551616) (v*bG (q%8))=N*bG (q%8+1)%18446744073709551616+v*bG (q%8):=by obtain⟨y,r⟩:=jU g;rw[u,r] at l ⊢;rw[r,vZ] at w;have:=aeq c (8*(q%8+1)) y aa aa;rw[this];omega
 rw[h];have b:=aaM n (q/8) (N*bG (q+1)) (v*bG (q%8)) d g (by rw[vh _ _ _ d,IL];exact l);rw[vh _ _ _ d,IL] at b;rw[b];congr 1;rw[qO,dz,dz,<- vY,<- tc];rw[show q%8+8*(q/8)=q by omega];rfl
theorem PX {n:Nat} {a:List Int} (e:a.length<=8*n) (d:a.length<1000000) {k:Nat} (b:k<a.length) :
  (0<=wj a.length k/\wj a.length k<(n:Int))/\(wj a.length k).toNat<n/\0<=P5 a.length k:=by
 rw[Ze b d,UO b d];exact⟨⟨aa,aa⟩,aa,aa⟩
theorem Hj (n:Nat) (a:List Int):aY n (num (a.take 0)*bG (a.length-0))=replicate n 0:=by rw[show num (a.take 0)=0 from rfl,Int.zero_mul,LH]
def bj (n i:Int):Int:=i64.wrap (n-i64.wrap (i.tdiv 8))
def N0 (i:Int):Int:=i64.wrap (56-i64.wrap (8*i.tmod 8))
def HA (n:Int) (a:List Int) (i:Int):Int:=u8.wrap (Int.fdiv (a.getD (bj n i).toNat 0) (2^min (N0 i).toNat u64.bits))
theorem X0 {n k:Nat} (h:k<8*(n+1)) (b:n<1000):bj n k=((n-k/8:Nat):Int):=by unfold bj;rw[sE aa,ba (a:=(k:Int)/8) aa aa,ba aa aa];omega
theorem Se {k:Nat}:N0 k=((8*(7-k%8):Nat):Int):=by unfold N0;rw[ni aa,ba (a:=8*((k:Int)%8)) aa aa,ba aa aa];omega
theorem NZ {n k:Nat} {N:Int} (h:k<8*(n+1)) (a:n<1000):HA n (aY (n+1) N) k=N/bG (8*(n+1)-1-k)%256:=by
 unfold HA;rw[X0 h a,Se,wrap_u8];simp only[aF];rw[show u64.bits=64 from rfl,iU aa];have e:(2:Int)^(8*(7-k%8))=bG (7-k%8):=by rw[vZ];simp
 rw[e,sD _ (eJ (kb _))];have:=Zr (n:=n+1) (N:=N) (i:=k) h;rw[show n+1-1-k/8=n-k/8 by omega] at this;exact this
theorem NY {n k:Nat} (h:k<8*(n+1)) (a:n<1000):(0<=bj n k/\bj n k<((n+1:Nat):Int))/\(bj n k).toNat<n+1/\0<=N0 k:=by rw[X0 h a,Se];exact⟨⟨aa,aa⟩,aa,aa⟩
def iW (m:Nat) (N:Int) (k:Nat):List Int:=(dw m N).take k++replicate (m-k) 0
theorem BI (m:Nat) (N:Int):iW m N 0=replicate m 0:=by simp[iW]
theorem DU (m:Nat) (N:Int):iW m N m=dw m N:=by simp[iW,bW,gE]
theorem BH {m:Nat} {N:Int} {k:Nat} (h:k<m):(iW m N k).set k (N/bG (m-1-k)%256)=iW m N (k+1):=by
 unfold iW;have a:((dw m N).take k).length=k:=by simp[gE];omega
 rw[qp _ _ aa,a,oO];rw[show m-k=(m-(k+1))+1 by omega,oV,oD];rw[cw (by rw[gE];exact h)];simp[dw]
end Go.Eng
namespace Go.Proofs.YtofofalgjibokaaGreatDoor
namespace fp
open Go.IntKind(i64 u64 u8)
open Go.IntKind(i64)
theorem BY:enters Tryz.prog 129 Tryz.f129:=ek
def mT (a:List Int) (g:Int × List Int):St:=av Tryz.f129.ntmps 40 [(0,ag (.ro (.int .u8) a)),(2,ao 0 0),(3,ao 8 0),(7,ag (.ro (.int .u8) a)),(8,sI .i64 a.length),(9,sI .i64 g.1)] [(8,[.ints .u64 6 g.2]),(0,[.ints .u64 6 (xT 6)])]
abbrev pf:HL [.sl (.int .u8)]->Prop:=fun (a,_)=>Bs a/\length a<=48
abbrev qB:HL [.sl (.int .u8)]->HO [.val (.arr 6 (.int .u64))]:=fun (a,_)=>(aY 6 (num a),())
theorem zL:aO Tryz.prog 129 [.sl (.int .u8)] [.val (.arr 6 (.int .u64))] bB pf qB:=by
 refine bL (sp:=aU []) BY ae ae ab ?_;have b:aJ Tryz.prog (aU []):=bD;rintro w o ⟨a,⟨⟩⟩ _ ⟨f,e⟩;have f:Bs a:=f;have e:length a<=48:=e;show Tr _ _ _ _ _ _ _;refine bh b mixed 3 (mT a (0,replicate 6 0)) True ?_ (fun _=>?_);refine aq (X:=(mT a (0,replicate 6 0)).ah True) ab (au trivial);rw[<- Hj 6 a];refine fP b mixed (mT a) (fun k=>((k:Int),aY 6 (num (take k a)*bG (length a-k)))) a.length (fun g=>(i64.wrap (g.1+1),IM g.2 a.length g.1 (a.getD g.1.toNat 0))) (mT a) (c:=ar (al Tryz.f129) 3) ab ab (ay ab ab trivial)
  (fun k l=>by
   show (_,_)=(_,_)
   rw[aS aa,aF,PY f e aa l]) ?_ ?_
 ·intro k l
  refine aq (X:=((decide ((k:Int)<(a.length:Int))=true->(0<=(k:Int)/\(k:Int)<(a.length:Int))/\(k:Int).toNat<a.length/\(8:Int)≠0/\(0<=wj a.length k/\wj a.length k<(6:Int))/\(wj a.length k).toNat<6/\(8:Int)≠0/\0<=P5 a.length k/\(0<=wj a.length k/\wj a.length k<(6:Int))/\(wj a.length k).toNat<6 /\
    (mT a (i64.wrap ((k:Int)+1),IM (aY 6 (num (take k a)*bG (length a-k))) a.length k (a.getD (k:Int).toNat 0))).ah (k<a.length)) /\
   (decide ((k:Int)<(a.length:Int))=false->(mT a ((k:Int),aY 6 (num (take k a)*bG (length a-k)))).ah (k=a.length)))) ab ?_
  refine⟨fun h=>?_,fun h=>au (by have:=bX h;omega)⟩;have d:k<a.length:=by have:=dec_lt h;omega
  obtain⟨i,j,m⟩:=PX (n:=6) e aa d;exact⟨⟨aa,aa⟩,aa,ae,i,j,ae,m,i,j,au d⟩
 refine bJ b mixed _ _ ?_;refine aq (X:=((aY 6 (num (take a.length a)*bG (length a-a.length)),()):List Int × Unit)=qB (a,())) ab ?_;rw[aT,oO,bG,lF]
def zl:Nat × Eng.Spec:=(129,aK [.sl (.int .u8)] [.val (.arr 6 (.int .u64))] pf qB)
theorem SC:enters Tryz.prog 174 Tryz.f174:=ek
abbrev EW:HL [.fp]->HO [.val (.arr 6 (.int .u64))]:=fun (x,_)=>(aY 6 (Zm.v (x:Fp)),())
theorem K4:aO Tryz.prog 174 [.fp] [.val (.arr 6 (.int .u64))] bB (fun _=>True) EW:=by refine bg (sp:=aU [iC]) (aM (aR gN) bD) mixed SC ae ae ?_;rintro w b ⟨x,⟨⟩⟩ _ _;refine aq (X:=(dB (enc x,[1,0,0,0,0,0],())/\((aY 6 (val (enc x)*val [1,0,0,0,0,0]*rinv%M),()):List Int × Unit)=EW (x,()))) ab ?_;refine⟨⟨e4 x,by intro y a;simp at a;rcases a with rfl|rfl<;>exact⟨ae,ae⟩,(cI x).2.2⟩,?_⟩;rw[show aY 6 (val (enc x)*val [1,0,0,0,0,0]*rinv%M)=aY 6 x.v from Jz x ae]
def IC:Nat × Eng.Spec:=(174,aK [.fp] [.val (.arr 6 (.int .u64))] (fun _=>True) EW)
theorem uc:enters Tryz.prog 149 Tryz.f149:=ek
def mG (a:List Int) (g:Int × List Int):St:=av Tryz.f149.ntmps 64 [(2,ao 8 0),(3,ao 16 0),(4,ao 40 0),(8,sI .i64 g.1)] [(8,[.ints .u8 48 (xT 48)]),(16,[.ints .u8 48 g.2]),(40,[.ints .u64 6 a])]
abbrev j9:HL [.fp]->HO [.val (.arr 48 (.int .u8))]:=fun (x,_)=>(dw 48 (Zm.v (x:Fp)),())
theorem sM:aO Tryz.prog 149 [.fp] [.val (.arr 48 (.int .u8))] bB (fun _=>True) j9:=by
 have a:aJ Tryz.prog (aU [IC]):=aM (aR K4) bD;refine bL (sp:=aU [IC]) uc ae ae ab ?_;rintro w j ⟨x,⟨⟩⟩ _ _;show Tr _ _ _ _ _ _ _;refine bh a mixed 4 (mG (aY 6 x.v) (0,replicate 48 0)) True ?_ (fun _=>?_);refine aq (X:=True/\(mG (aY 6 x.v) (0,replicate 48 0)).ah True) ab ⟨trivial,au trivial⟩;rw[<- BI 48 x.v];refine fP a mixed (mG (aY 6 x.v)) (fun k=>((k:Int),iW 48 x.v k)) 48 (fun g=>(i64.wrap (g.1+1),g.2.set g.1.toNat (HA (5:Nat) (aY 6 x.v) g.1))) (mG (aY 6 x.v)) (c:=ar (al Tryz.f149) 4) ab ab (ay ab ab trivial)
  (fun k d=>by
   show (_,_)=(_,_)
   rw[aS aa,aF,NZ (n:=5) d aa,BH d]) ?_ ?_
 ·intro k d
  refine aq (X:=((decide ((k:Int)<48)=true->(8:Int)≠0/\(0<=bj 5 k/\bj 5 k<(6:Int))/\(bj 5 k).toNat<6/\(8:Int)≠0/\0<=N0 k/\(0<=(k:Int)/\(k:Int)<(48:Int))/\(k:Int).toNat<48 /\
    (mG (aY 6 x.v) (i64.wrap ((k:Int)+1),(iW 48 x.v k).set (k:Int).toNat (HA (5:Nat) (aY 6 x.v) k))).ah (k<48)) /\
   (decide ((k:Int)<48)=false->(mG (aY 6 x.v) ((k:Int),iW 48 x.v k)).ah (k=48)))) ab ?_
  refine⟨fun h=>?_,fun h=>au (by have:=bX h;omega)⟩;have b:k<48:=by have:=dec_lt h;omega
  obtain⟨e,f,i⟩:=NY (n:=5) b aa;exact⟨ae,e,f,ae,i,⟨aa,aa⟩,aa,au b⟩
 refine bJ a mixed _ _ ?_;refine aq (X:=((iW 48 x.v 48,()):List Int × Unit)=j9 (x,())) ab ?_;rw[DU]
def vn:Nat × Eng.Spec:=(149,aK [.fp] [.val (.arr 48 (.int .u8))] (fun _=>True) j9)
end fp
namespace fr
open Go.IntKind(i64 u64 u8)
open Go.IntKind(i64)
theorem BY:enters Tryz.prog 62 Tryz.f62:=ek
def mT (a:List Int) (g:Int × List Int):St:=av Tryz.f62.ntmps 40 [(0,ag (.ro (.int .u8) a)),(2,ao 0 0),(3,ao 8 0),(7,ag (.ro (.int .u8) a)),(8,sI .i64 a.length),(9,sI .i64 g.1)] [(8,[.ints .u64 4 g.2]),(0,[.ints .u64 4 (xT 4)])]
abbrev pf:HL [.sl (.int .u8)]->Prop:=fun (a,_)=>Bs a/\length a<=32
abbrev qB:HL [.sl (.int .u8)]->HO [.val (.arr 4 (.int .u64))]:=fun (a,_)=>(aY 4 (num a),())
theorem zL:aO Tryz.prog 62 [.sl (.int .u8)] [.val (.arr 4 (.int .u64))] bB pf qB:=by
 refine bL (sp:=aU []) BY ae ae ab ?_;have b:aJ Tryz.prog (aU []):=bD;rintro w o ⟨a,⟨⟩⟩ _ ⟨f,e⟩;have f:Bs a:=f;have e:length a<=32:=e;show Tr _ _ _ _ _ _ _;refine bh b mixed 3 (mT a (0,replicate 4 0)) True ?_ (fun _=>?_);refine aq (X:=(mT a (0,replicate 4 0)).ah True) ab (au trivial);rw[<- Hj 4 a];refine fP b mixed (mT a) (fun k=>((k:Int),aY 4 (num (take k a)*bG (length a-k)))) a.length (fun g=>(i64.wrap (g.1+1),IM g.2 a.length g.1 (a.getD g.1.toNat 0))) (mT a) (c:=ar (al Tryz.f62) 3) ab ab (ay ab ab trivial)
  (fun k l=>by
   show (_,_)=(_,_)
   rw[aS aa,aF,PY f e aa l]) ?_ ?_
 ·intro k l
  refine aq (X:=((decide ((k:Int)<(a.length:Int))=true->(0<=(k:Int)/\(k:Int)<(a.length:Int))/\(k:Int).toNat<a.length/\(8:Int)≠0/\(0<=wj a.length k/\wj a.length k<(4:Int))/\(wj a.length k).toNat<4/\(8:Int)≠0/\0<=P5 a.length k/\(0<=wj a.length k/\wj a.length k<(4:Int))/\(wj a.length k).toNat<4 /\
    (mT a (i64.wrap ((k:Int)+1),IM (aY 4 (num (take k a)*bG (length a-k))) a.length k (a.getD (k:Int).toNat 0))).ah (k<a.length)) /\
   (decide ((k:Int)<(a.length:Int))=false->(mT a ((k:Int),aY 4 (num (take k a)*bG (length a-k)))).ah (k=a.length)))) ab ?_
  refine⟨fun h=>?_,fun h=>au (by have:=bX h;omega)⟩;have d:k<a.length:=by have:=dec_lt h;omega
  obtain⟨i,j,m⟩:=PX (n:=4) e aa d;exact⟨⟨aa,aa⟩,aa,ae,i,j,ae,m,i,j,au d⟩
 refine bJ b mixed _ _ ?_;refine aq (X:=((aY 4 (num (take a.length a)*bG (length a-a.length)),()):List Int × Unit)=qB (a,())) ab ?_;rw[aT,oO,bG,lF]
def zl:Nat × Eng.Spec:=(62,aK [.sl (.int .u8)] [.val (.arr 4 (.int .u64))] pf qB)
theorem uc:enters Tryz.prog 51 Tryz.f51:=ek
def mG (a:List Int) (g:Int × List Int):St:=av Tryz.f51.ntmps 80 [(2,ao 8 0),(3,ao 16 0),(4,ao 56 0),(10,sI .i64 g.1)] [(8,[.ints .u8 32 (xT 32)]),(16,[.ints .u8 32 g.2]),(56,[.ints .u64 4 a])]
abbrev j9:HL [.fr]->HO [.val (.arr 32 (.int .u8))]:=fun (x,_)=>(dw 32 (Zm.v (x:Fr)),())
theorem sM:aO Tryz.prog 51 [.fr] [.val (.arr 32 (.int .u8))] bB (fun _=>True) j9:=by
 have a:aJ Tryz.prog (aU [iC]):=aM (aR gN) bD;refine bL (sp:=aU [iC]) uc ae ae ab ?_;rintro w l ⟨x,⟨⟩⟩ _ _;show Tr _ _ _ _ _ _ _;refine bh a mixed 4 (mG (aY 4 (val (enc x)*val [1,0,0,0]*rinv%M)) (0,replicate 32 0)) True ?_ (fun _=>?_);refine aq (X:=dB (enc x,[1,0,0,0],())/\(mG (aY 4 (val (enc x)*val [1,0,0,0]*rinv%M)) (0,replicate 32 0)).ah True) ab ⟨⟨e4 x,by intro y e;simp at e;rcases e with rfl|rfl<;>exact⟨ae,ae⟩,(cI x).2.2⟩,au trivial⟩;rw[show aY 4 (val (enc x)*val [1,0,0,0]*rinv%M)=aY 4 x.v from Jz x ae];rw[<- BI 32 x.v];refine fP a mixed (mG (aY 4 x.v)) (fun k=>((k:Int),iW 32 x.v k)) 32 (fun g=>(i64.wrap (g.1+1),g.2.set g.1.toNat (HA (3:Nat) (aY 4 x.v) g.1))) (mG (aY 4 x.v)) (c:=ar (al Tryz.f51) 4) ab ab (ay ab ab trivial)
  (fun k d=>by
   show (_,_)=(_,_)
   rw[aS aa,aF,NZ (n:=3) d aa,BH d]) ?_ ?_
 ·intro k d
  refine aq (X:=((decide ((k:Int)<32)=true->(8:Int)≠0/\(0<=bj 3 k/\bj 3 k<(4:Int))/\(bj 3 k).toNat<4/\(8:Int)≠0/\0<=N0 k/\(0<=(k:Int)/\(k:Int)<(32:Int))/\(k:Int).toNat<32 /\
    (mG (aY 4 x.v) (i64.wrap ((k:Int)+1),(iW 32 x.v k).set (k:Int).toNat (HA (3:Nat) (aY 4 x.v) k))).ah (k<32)) /\
   (decide ((k:Int)<32)=false->(mG (aY 4 x.v) ((k:Int),iW 32 x.v k)).ah (k=32)))) ab ?_
  refine⟨fun h=>?_,fun h=>au (by have:=bX h;omega)⟩;have b:k<32:=by have:=dec_lt h;omega
  obtain⟨f,i,j⟩:=NY (n:=3) b aa;exact⟨ae,f,i,ae,j,⟨aa,aa⟩,aa,au b⟩
 refine bJ a mixed _ _ ?_;refine aq (X:=((iW 32 x.v 32,()):List Int × Unit)=j9 (x,())) ab ?_;rw[DU]
def vn:Nat × Eng.Spec:=(51,aK [.fr] [.val (.arr 32 (.int .u8))] (fun _=>True) j9)
end fr
namespace fp
open Go.IntKind(i64 u64 u8)
open Go.IntKind(i64)
theorem vD:enters Tryz.prog 88 Tryz.f88:=ek
abbrev th:HL [.sl (.int .u8)]->Prop:=fun (a,_)=>Bs a
def cN (a:List Int):Fp × Int:=if a.length=48 then (if num a<Mp then (zm (num a),0) else (0,12)) else (0,10)
abbrev iB:HL [.sl (.int .u8)]->HO [.val .fp,.val (.int .i64)]:=fun (a,_)=>((cN a).1,(cN a).2,())
theorem vd:aO Tryz.prog 88 [.sl (.int .u8)] [.val .fp,.val (.int .i64)] bB th iB:=by
 refine bg (sp:=aU [zl,px,rj,tj,iC]) (aM (aR zL) (aM (aR ny) (aM (aR oY) (aM (aR sO) (aM (aR gN) bD))))) mixed vD ae ae ?_;rintro w k ⟨a,⟨⟩⟩ _ d;have d:Bs a:=d
 refine aq (X:=(((((a.length:Int) != 48)=true->(((0:Fp),(10:Int),())=iB (a,()))) /\
  (((a.length:Int) != 48)=false->pf (a,())/\True/\og (aY 6 (num a),ms,()) /\
   ((((if val (aY 6 (num a))<val ms then (1:Int) else 0)==0)=true->(((0:Fp),(12:Int),())=iB (a,()))) /\
    (((if val (aY 6 (num a))<val ms then (1:Int) else 0)==0)=false->True/\dB (enc (R2:Fp),aY 6 (num a),())/\Canon Mp (aY 6 (val (enc (R2:Fp))*val (aY 6 (num a))*rinv%M))/\((dec (aY 6 (val (enc (R2:Fp))*val (aY 6 (num a))*rinv%M)),(0:Int),())=iB (a,())))))))) ab ?_
 refine⟨fun h=>?_,fun h=>?_⟩
 ·have:¬ a.length=48:=by intro e;rw[e] at h;exact absurd h ae
  simp[iB,cN,this]
 ·have g:a.length=48:=by
   have:¬ ((a.length:Int)≠48):=by simpa using h
   omega
  have b:=Cs d;rw[g] at b;have j:bG 48=pw 6:=vY 6;have i:val (aY 6 (num a))=num a:=si b.1 (by rw[<- j];exact b.2);refine⟨⟨d,by show length a<=48;omega⟩,trivial,⟨jx _ _,pU⟩,fun h=>?_,fun h=>⟨trivial,⟨e4 _,jx _ _,(cI _).2.2⟩,?_⟩⟩
  ·rw[i,fQ] at h;have:¬ num a<Mp:=by intro f;rw[ak f] at h;exact absurd h ae
   simp[iB,cN,g,this]
  ·rw[i,fQ] at h;have:num a<Mp:=Decidable.byContradiction fun f=>by rw[ai f] at h;exact absurd h ae
   rw[show aY 6 (val (enc (R2:Fp))*val (aY 6 (num a))*rinv%M)=enc (zm (val (aY 6 (num a))):Fp) from ri (M:=Mp),i];refine⟨cI _,?_⟩;rw[dV];simp[iB,cN,g,this]
def ME:Nat × Eng.Spec:=(88,aK [.sl (.int .u8)] [.val .fp,.val (.int .i64)] th iB)
theorem JS (x:Fp):val (aY 6 x.v)=x.v:=si x.nn (by have:=x.lt;have:Mp<pw 6:=ae;omega)
theorem Sy:enters Tryz.prog 151 Tryz.f151:=ek
abbrev Ad:HL [.fp]->HO [.val .bool]:=fun (x,_)=>(decide (Zm.v (-(x:Fp))<Zm.v (x:Fp)),())
theorem K2:aO Tryz.prog 151 [.fp] [.val .bool] bB (fun _=>True) Ad:=by refine bg (sp:=aU [IC,Aw,rj]) (aM (aR K4) (aM (aR yK) (aM (aR oY) bD))) mixed Sy ae ae ?_;rintro w a ⟨x,⟨⟩⟩ _ _;refine aq (X:=(True/\True/\True/\og (aY 6 (-x).v,aY 6 x.v,())/\(((if val (aY 6 (-x).v)<val (aY 6 x.v) then (1:Int) else 0)==1,()):Bool × Unit)=Ad (x,()))) ab ⟨trivial,trivial,trivial,⟨jx _ _,jx _ _⟩,?_⟩;rw[JS,JS];simp only[Ad,aL,bR];by_cases h:(-x).v<x.v;simp[h];simp[h]
def IB:Nat × Eng.Spec:=(151,aK [.fp] [.val .bool] (fun _=>True) Ad)
end fp
namespace fr
open Go.IntKind(i64 u64 u8)
open Go.IntKind(i64)
theorem VM:enters Tryz.prog 33 Tryz.f33:=ek
def DN (g:List Int × Fr):St:=av Tryz.f33.ntmps 40 [(0,ag (.ro (.int .u8) g.1)),(2,ao 0 0),(3,ao 8 0),(4,ao 24 0)] [(0,[.row .fr 1 [(0:Fr)]]),(8,[.row .fr 1 [g.2]]),(24,[.row .fr 1 [(R2:Fr)]])]
def wn (len:Int):Int:=IntKind.i64.wrap ((IntKind.i64.wrap (len-1)).tmod 32+1)
def A2 (a:List Int):List Int:=take (wn a.length-0).toNat (drop (toNat 0) a)
def Ko (g:List Int × Fr):List Int × Fr:=(take ((g.1.length:Int)-wn g.1.length).toNat (drop (wn g.1.length).toNat g.1),g.2*R2+dec (aY 4 (val (enc (R2:Fr))*val (aY 4 (num (A2 g.1)))*rinv%M)))
def wp (len k:Nat):Nat:=len-32*((len+31)/32-k)
def ld (a:List Int) (k:Nat):List Int × Fr:=(a.drop (wp a.length k),zm (num (a.take (wp a.length k))))
theorem Zg {L:Nat} (b:0<L) (d:L<4611686018427387904):wn L=(((L-1)%32+1:Nat):Int):=by unfold wn;rw[ba (a:=(L:Int)-1) aa aa,ni aa,ba aa aa];omega
theorem CY {a:List Int} (q:Bs a) (y:a.length<4611686018427387904) {k:Nat} (x:k<(a.length+31)/32) :
  0<a.length-wp a.length k/\Ko (ld a k)=ld a (k+1)/\(A2 (a.drop (wp a.length k))).length<=32/\1<=(a.length-wp a.length k-1)%32+1/\(a.length-wp a.length k-1)%32+1<=a.length-wp a.length k:=by
 have o:0<a.length-wp a.length k:=by unfold wp;omega
 have t:(a.length-wp a.length k-1)%32+1=wp a.length (k+1)-wp a.length k:=by unfold wp;omega
 have r:wp a.length (k+1)<=a.length:=by unfold wp;omega
 have s:wp a.length k<wp a.length (k+1):=by unfold wp;omega
 have f:(a.drop (wp a.length k)).length=a.length-wp a.length k:=gf;have h:wn (a.drop (wp a.length k)).length=((wp a.length (k+1)-wp a.length k:Nat):Int):=by rw[Zg aa aa,f,t]
 have d:A2 (a.drop (wp a.length k))=(a.drop (wp a.length k)).take (wp a.length (k+1)-wp a.length k):=by unfold A2;rw[h];congr 1
 refine⟨o,?_,?_,aa,aa⟩
 ·unfold Ko ld;simp only;rw[h,d];have m:take (((a.drop (wp a.length k)).length:Int)-((wp a.length (k+1)-wp a.length k:Nat):Int)).toNat (drop ((wp a.length (k+1)-wp a.length k:Nat):Int).toNat (a.drop (wp a.length k)))=a.drop (wp a.length (k+1)):=by
   rw[aF,fF,show wp a.length k+(wp a.length (k+1)-wp a.length k)=wp a.length (k+1) by omega];exact bW (by simp;omega)
  rw[m];congr 1;have i:Bs ((a.drop (wp a.length k)).take (wp a.length (k+1)-wp a.length k)):=C2 (yo q _) _;have e:((a.drop (wp a.length k)).take (wp a.length (k+1)-wp a.length k)).length=wp a.length (k+1)-wp a.length k:=by simp;omega
  have l:wp a.length (k+1)-wp a.length k<=32:=aa;have g:=Cs i;rw[e] at g;have u:bG (wp a.length (k+1)-wp a.length k)<=pw 4:=by rw[<- vY,show 8*4=(wp a.length (k+1)-wp a.length k)+(32-(wp a.length (k+1)-wp a.length k)) by omega,tc];have n:=kb (wp a.length (k+1)-wp a.length k);have w:=kb (32-(wp a.length (k+1)-wp a.length k));have:=Bb (show 1<=bG (32-(wp a.length (k+1)-wp a.length k)) by omega) (eJ n);omega
  rw[show aY 4 (val (enc (R2:Fr))*val (aY 4 (num ((a.drop (wp a.length k)).take (wp a.length (k+1)-wp a.length k))))*rinv%M)=enc (zm (val (aY 4 (num ((a.drop (wp a.length k)).take (wp a.length (k+1)-wp a.length k))))):Fr) from ri (M:=Mr),si g.1 aa,dV];show zm _*zm (pw 4)+zm _=zm _;rw[uC,uB];congr 1;have b:a.take (wp a.length (k+1))=a.take (wp a.length k)++(a.drop (wp a.length k)).take (wp a.length (k+1)-wp a.length k):=by rw[<- List.take_add,show wp a.length k+(wp a.length (k+1)-wp a.length k)=wp a.length (k+1) by omega]
  rw[b,Gr,e];by_cases j:wp a.length k=0;rw[j];simp[num];rw[show wp a.length (k+1)-wp a.length k=32 by unfold wp at j ⊢;omega,<- vY]
 rw[d];simp;omega
abbrev Il:HL [.sl (.int .u8)]->Prop:=fun (a,_)=>Bs a/\length a<4611686018427387904
abbrev Ic:HL [.sl (.int .u8)]->HO [.val .fr]:=fun (a,_)=>((zm (num a):Fr),())
theorem aak:aO Tryz.prog 33 [.sl (.int .u8)] [.val .fr] bB Il Ic:=by
 have i:aJ Tryz.prog (aU [zl,kx,jO,tj,iC]):=aM (aR zL) (aM (aR nR) (aM (aR nQ) (aM (aR sO) (aM (aR gN) bD))));refine bL (sp:=aU [zl,kx,jO,tj,iC]) VM ae ae ab ?_;rintro w z ⟨a,⟨⟩⟩ _ ⟨j,n⟩;have j:Bs a:=j;have n:a.length<4611686018427387904:=n;show Tr _ _ _ _ _ _ _;refine bh i mixed 3 (DN (a,0)) True ?_ (fun _=>?_);refine aq (X:=True/\(DN (a,0)).ah True) ab ⟨trivial,au trivial⟩;have y:(a,(0:Fr))=ld a 0:=by unfold ld;rw[show wp a.length 0=0 by unfold wp;omega];rfl
 rw[y];refine fP i mixed DN (ld a) ((a.length+31)/32) Ko DN (c:=ar (al Tryz.f33) 3) ab ab (ay ab ab trivial)
  (fun k t=>(CY j n t).2.1) ?_ ?_
 ·intro k t;have d:(ld a k).1.length=a.length-wp a.length k:=by unfold ld;simp
  have m:Bs (ld a k).1:=yo j _;have q:k<(a.length+31)/32->(A2 (ld a k).1).length<=32:=fun h=>(CY j n h).2.2.1;have l:k<(a.length+31)/32->1<=((ld a k).1.length-1)%32+1/\((ld a k).1.length-1)%32+1<=(ld a k).1.length:=fun h=>by rw[d];exact (CY j n h).2.2.2
  have e:k<(a.length+31)/32↔0<(ld a k).1.length:=by rw[d];unfold wp;omega
  have o:(ld a k).1.length<4611686018427387904:=aa;clear d;generalize ld a k=g at *;obtain⟨b,x⟩:=g;simp only at m q l e o
  refine aq (X:=((decide ((b.length:Int)>0)=true->(32:Int)≠0/\True/\(0<=wn b.length/\wn b.length<=(b.length:Int))/\pf (A2 b,())/\dB (enc (R2:Fr),aY 4 (num (A2 b)),())/\Canon Mr (aY 4 (val (enc (R2:Fr))*val (aY 4 (num (A2 b)))*rinv%M))/\True/\(0<=wn b.length/\wn b.length<=(b.length:Int))/\(DN (Ko (b,x))).ah (k<(a.length+31)/32)) /\
   (decide ((b.length:Int)>0)=false->(DN (b,x)).ah (k=(a.length+31)/32)))) ab ?_
  refine⟨fun h=>?_,fun h=>au ?_⟩
  ·have s:0<b.length:=by have:=Odt h;omega
   have f:=e.2 s;have A:=l f;have u:=Zg s o;have r:Bs (A2 b):=by unfold A2;exact C2 (yo m _) _
   refine⟨ae,trivial,by rw[u];omega,⟨r,q f⟩,⟨e4 _,jx _ _,(cI _).2.2⟩,?_,trivial,by rw[u];omega,au f⟩;rw[show aY 4 (val (enc (R2:Fr))*val (aY 4 (num (A2 b)))*rinv%M)=enc (zm (val (aY 4 (num (A2 b)))):Fr) from ri (M:=Mr)];exact cI _
  have:=Odf h;omega
 refine bJ i mixed _ _ ?_;refine aq (X:=((ld a ((a.length+31)/32)).2,())=Ic (a,())) ab ?_;unfold ld;rw[show wp a.length ((a.length+31)/32)=a.length by unfold wp;omega,aT]
def UA:Nat × Eng.Spec:=(33,aK [.sl (.int .u8)] [.val .fr] Il Ic)
end fr
end Go.Proofs.YtofofalgjibokaaGreatDoor
namespace Go.Hbm
open Go.IntKind(i64 u64 u8)
open Go.IntKind(i64)
abbrev aG:=Int × Int × Int × Int × Int × Int × List Int
abbrev Told:=Int × Int × List Int
abbrev aG.kind (m:aG):Int:=m.1
abbrev aG.a5 (m:aG):Int:=m.2.2.1
abbrev aG.bU (m:aG):Int:=m.2.2.2.1
abbrev aG.bI (m:aG):Int:=m.2.2.2.2.1
abbrev aG.body (m:aG):List Int:=m.2.2.2.2.2.2
abbrev gw:=List (Int × List Int)
structure Talk where
 bI:Int
 bU:Int
 begun:Bool
 ready:Bool
 told:Bool
 ech:gw
 rdy:gw
structure bb where
 me:Int
 mem:List Int
 talks:List Talk
abbrev UT:=List aG × List Told
def kf (s:gw) (b:List Int):Int:=(((s.filter fun x=>x.2==b).length:Nat):Int)
def dk (s:gw) (f:Int):Bool:=s.any fun x=>x.1==f
end Go.Hbm
namespace Go.Proofs.YtofofalgjibokaaGreatDoor
namespace hub
open Go.IntKind(i64 u64 u8)
open Go.IntKind(i64)
abbrev Ej:Kd:=.sl (.int .u8)
theorem Qo:enters Tryz.prog 148 Tryz.f148:=ek
abbrev pa:HL [Ej]->Prop:=fun (c,_)=>length c<1048576
theorem SK:aO Tryz.prog 148 [Ej] [.own (.int .u8)] bB pa (fun (c,_)=>(c,())):=by have a:aJ Tryz.prog (aU []):=bD;refine xg (sp:=aU []) Qo ae ae ab ?_ ?_;rintro w M0 ⟨⟩ _ b;show Tr _ _ _ _ _ _ _;refine bJ a mixed _ _ ?_;refine aq (X:=((([]:List Int),())=(([]:List Int),()))) ab rfl;rintro w M0 c ⟨⟩ _ _ b;revert c;intro (c:List Int) _ b;have b:c.length<1048576:=b;show Tr _ _ _ _ _ _ _;refine bJ a mixed _ _ ?_;refine aq (X:=(0<=0/\(0+c.length)*1<=140737488355328/\0+c.length<=4611686018427387904/\0+(0+c.length)<=0+c.length/\(take (0+c.length) (take 0 []++c),())=(c,()))) ab ?_;rw[tR,dG,bO,aT];exact⟨aI _,aa,aa,aa,rfl⟩
def qD:Nat × Eng.Spec:=(148,aK [Ej] [.val Ej] pa (fun (c,_)=>(c,())))
theorem uo:nN Tryz.prog qD.1 qD.2:=aR SK.AR
theorem Qp:enters Tryz.prog 178 Tryz.f178:=ek
abbrev Cz:HL [Ej,Ej]->Prop:=fun (a,b,_)=>Bs a/\Bs b/\length a<1048576/\length b<1048576
theorem str_inj {a b:List Int} (d:Bs a) (f:Bs b) (h:strOfNums a=strOfNums b):a=b:=by
 have h:a.map (fun n=>UInt8.ofNat n.toNat)=b.map (fun n=>UInt8.ofNat n.toNat):=by have:=congrArg (fun x=>x.data.toList) h;exact this
 induction a generalizing b with
 | nil=>cases b with
  | nil=>rfl
  | cons y b=>simp at h
 | cons x a g=>cases b with
  | nil=>simp at h
  | cons y b =>
   simp only[eI,bx] at h;have i:=d x aw;have j:=f y aw;have e:x=y:=by have:=congrArg UInt8.toNat h.1;simp only[UInt8.toNat_ofNat'] at this;omega
   rw[e,g (fun v c=>d v (by simp[c])) (fun v c=>f v (by simp[c])) (by unfold strOfNums;rw[h.2]) h.2]
theorem SL:aO Tryz.prog 178 [Ej,Ej] [.val .bool] bB Cz (fun (a,b,_)=>(decide (a=b),())):=by
 refine bg (sp:=aU []) bD mixed Qp ae ae ?_;rintro w M0 ⟨a,b,⟨⟩⟩;revert a b;intro (a:List Int) (b:List Int) _ c;refine aq (X:=((decide (strOfNums a=strOfNums b),())=(decide (a=b),()))) ab ?_;have e:decide (strOfNums a=strOfNums b)=decide (a=b):=by by_cases h:a=b;rw[h];simp;rw[cp h,cp (fun q=>h (str_inj c.1 c.2.1 q))]
 exact congrArg (·,()) e
def Fe:Nat × Eng.Spec:=(178,aK [Ej,Ej] [.val .bool] Cz (fun (a,b,_)=>(decide (a=b),())))
theorem TE:nN Tryz.prog Fe.1 Fe.2:=aR SL
abbrev bC:Code->Array Oper
 | .region _ ops _=>ops
 | _ => #[]
abbrev nE (b:Nat):SV:=ag (.v (.map (some b)))
abbrev lP (l:List Int):SV:=ag (.ro (.int .u8) l)
def lQ (s:Hbm.gw):List (Value × Cell):=s.map fun x=>(.int .i64 x.1,.ro (.int .u8) x.2)
def bV (b:Nat) (s:Hbm.gw):Ob.aj:=Ob.fK b (lQ s)
theorem xC (s:Hbm.gw):(lQ s).length=s.length:=by simp[lQ]
theorem RC (s:Hbm.gw):∀ p∈lQ s,p.2.ids=[]:=by intro p a;obtain⟨x,_,rfl⟩:=mem_map.1 a;rfl
theorem Ub (s:Hbm.gw):∀ p∈lQ s,p.1.oneCell'=true:=by intro p a;obtain⟨x,_,rfl⟩:=mem_map.1 a;rfl
theorem MO:Tryz.prog.underlying 193=some (.map 3 22):=ab
theorem Y7:Tryz.prog.underlying 3=some (.int .i64):=ab
theorem Tq:Maps.Keyed Tryz.prog 3:=Maps.int_keyed Y7
def lk (x:Int):Prop:=-9223372036854775808<=x/\x<=9223372036854775807
theorem H3 {x:Int} (h:lk x):keyOf Tryz.prog 3 (.int .i64 x)=some (.int .i64 x):=Maps.keyOf_int_mk Y7 (by unfold Lit.wf;rw[aX];exact⟨cg h.1,cg h.2⟩)
def nM (s:Hbm.gw):Prop:=(∀ x∈s,lk x.1/\Bs x.2/\x.2.length<1048576)/\s.length<1000
theorem GP {s:Hbm.gw} (h:nM s):∀ p∈lQ s,∃ k,keyOf Tryz.prog 3 p.1=some k:=by intro p a;obtain⟨x,d,rfl⟩:=mem_map.1 a;exact⟨_,H3 (h.1 x d).1⟩
theorem xd:enters Tryz.prog 163 Tryz.f163:=ek
abbrev qa:Func:=Tryz.f163
def ctA (b:Nat) (body:List Int):St:=av qa.ntmps 16 [(0,nE b),(1,lP body),(5,sI .i64 0)] []
def ctB (b:Nat) (body:List Int):St:=av qa.ntmps 24 [(1,lP body),(5,sI .i64 0),(8,nE b)] []
def AO (body:List Int) (r:Nat) (n:Int):St:=av qa.ntmps 24 [(1,lP body),(5,sI .i64 n),(9,ag (.v (Ob.pt r)))] []
def Sm (body:List Int) (r:Nat) (n:Int) (t:Bool):St:=av qa.ntmps 24 [(1,lP body),(5,sI .i64 n),(9,ag (.v (Ob.pt r))),(11,ag (.v (.bool t)))] []
def ctD (body:List Int) (r:Nat) (n:Int) (y:List Int):St:=av qa.ntmps 24 [(1,lP body),(5,sI .i64 n),(7,lP y),(9,ag (.v (Ob.pt r)))] []
abbrev Vg:=aU [Fe]
theorem qS:aJ Tryz.prog Vg:=aM TE bD
theorem HV {P:Program} {l:List Code} {K:Prop} {Pre n r:ax} {x:Nat->ax} (h:K->Ob.aN P l Pre n r x):Ob.aN P l (fun a w=>K/\Pre a w) n r x:=fun a w Q d=>h d.1 a w Q d.2
def DX:Code:=ar (al qa) 3
def oo (s:Hbm.gw) (body:List Int) (seen:List Nat):Int:=(((seen.filter fun i=>(s.getD i (0,[])).2==body).length:Nat):Int)
theorem uj {g:List Nat} {n:Nat} (h:g.Nodup) (d:∀ i∈g,i<n):g.length<=n:=by
 have e:g.Perm ((range n).filter fun i=>decide (i∈g)):=(List.perm_ext_iff_of_nodup h (List.nodup_range.filter _)).2 fun i=>by rw[List.mem_filter,List.mem_range];exact⟨fun a=>⟨d i a,cg a⟩,fun a=>Odt a.2⟩
 rw[e.length_eq];have:=oU (fun i=>decide (i∈g)) (range n);rw[wR] at this;exact this
theorem Q2 {g:List Nat} {i:Nat} (h:g.Nodup) (j:i∉g):(g++[i]).Nodup:=by rw[Bx];exact⟨h,aw,fun a d b f=>by rw[List.mem_singleton.1 f];exact fun e=>j (e▸d)⟩
theorem U9 (s:Hbm.gw) (body:List Int) (g:List Nat):0<=oo s body g/\oo s body g<=g.length:=by unfold oo;have:=oU (fun i=>(s.getD i (0,[])).2==body) g;omega
theorem Qk (s:Hbm.gw) (body:List Int) (g:List Nat) {i:Nat} {y:Int × List Int} (a:s[i]?=some y):oo s body (g++[i])=if y.2=body then oo s body g+1 else oo s body g:=by
 unfold oo;have e:s.getD i (0,[])=y:=by rw[a2,a];rfl
 rw[qH,a7];by_cases h:y.2=body;rw[ak h,List.filter_cons_of_pos (by rw[e];simpa using h)];simp;rw[ai h,List.filter_cons_of_neg (by rw[e];simpa using h)];simp
theorem Sl (s:Hbm.gw) (body:List Int) (g:List Nat) (a:g.Nodup) (d:∀ i∈g,i<s.length) (e:∀ i,i<s.length->i∈g):oo s body g=Hbm.kf s body:=by
 unfold oo Hbm.kf;have f:g.Perm (range s.length):=(List.perm_ext_iff_of_nodup a List.nodup_range).2 fun i=>⟨fun h=>List.mem_range.2 (d i h),fun h=>e i (List.mem_range.1 h)⟩;rw[(f.filter _).length_eq];congr 1;have:s=(range s.length).map fun i=>s.getD i (0,[]):=by refine mW aw fun i a d=>?_;simp[a]
 conv=>rhs;rw[this]
 rw[List.filter_map,bZ];rfl
section
variable (gl:Nat->Option (Sigma aH)) (w0:World) (M0:Mem) (F0:Nat->Prop)
abbrev FN:Ob.cf:=Ob.lj Tryz.prog Vg gl w0 M0 F0
theorem Zy (b:Nat) (s:Hbm.gw) (body:List Int) {n r:ax} {x:Nat->ax}
  (h:∀ it,Ob.aN Tryz.prog ((al qa).drop 3) (Ob.GH (FN gl w0 M0 F0) qa.ntmps (AO body it 0) (Ob.aj.sep (Ob.ou it b s.length []) (bV b s))) n r x) :
  Ob.aN Tryz.prog (al qa) (Ob.GH (FN gl w0 M0 F0) qa.ntmps (lx qa [nE b,lP body] [] 0) (bV b s)) n r x:=by
 refine Ob.gcd qS 2 (fun _=>()) (fun _=>ctA b body) (fun _=>True) ?_ (fun _ _=>?_);intros;refine aq (X:=((ctA b body).ah True)) ab ?_;exact au trivial;refine Ob.ep 2 (bC (ar (al qa) 2)) ?_;refine Ob.gA qS 1 (fun _=>()) (fun _=>ctB b body) (fun _=>True) ?_ (fun _ _=>?_);intros;refine aq (X:=((ctB b body).ah True)) ab ?_;exact au trivial;refine Ob.fI (Ob.fq (sv:=fun q:Nat=>ag (.v (Ob.pt q))) (G2:=fun q=>Ob.aj.sep (Ob.ou q b (lQ s).length []) (bV b s)) (J:=fun _=>True) ab ?_) (fun it _=>?_);rw[show Ob.jl (bC (ar (al qa) 2)) 1=.range 193 (.tmp 8) from by kernel_rfl];exact Ob.WL MO ab;refine Ob.ei ?_;rw[xC];refine Ob.fR (AO body it 0) ?_;exact h it
theorem Zz (b:Nat) (s:Hbm.gw) (Q:nM s) (body:List Int) (V:Bs body) (H:body.length<1048576) (it:Nat) {n r:ax} {x:Nat->ax}
  (h:∀ m,m=Hbm.kf s body->Ob.aN Tryz.prog ((al qa).drop 4) (Ob.GH (FN gl w0 M0 F0) qa.ntmps (AO body it m) (bV b s)) n r x) :
  Ob.aN Tryz.prog ((al qa).drop 3) (Ob.GH (FN gl w0 M0 F0) qa.ntmps (AO body it 0) (Ob.aj.sep (Ob.ou it b s.length []) (bV b s))) n r x:=by
 have G:b7 DX=0:=ab;refine Ob.sV (c:=DX) (fun (g:List Nat) a w=>(g.Nodup/\∀ i∈g,i<s.length)/\Ob.GH (FN gl w0 M0 F0) qa.ntmps (AO body it (oo s body g)) (Ob.aj.sep (Ob.ou it b s.length g) (bV b s)) a w)
  (fun g=>s.length-g.length) (fun (_:Unit) a w=>Ob.GH (FN gl w0 M0 F0) qa.ntmps (AO body it (Hbm.kf s body)) (bV b s) a w) ab ab (fun a w A=>⟨[],⟨List.nodup_nil,fun _ h=>(by cases h)⟩,A⟩) ?_ (fun _=>h _ rfl)
 intro g;refine HV fun k=>?_;have W:g.length<=s.length:=uj k.1 k.2;have R:=Q.2;have K:0<=oo s body g/\oo s body g<=g.length:=U9 s body g;generalize N:oo s body g=m at K;refine Ob.ep 3 (bC (ar (aV DX) 0)) ?_
 refine Ob.fI (Ob.fq (sv:=fun o:Option (Nat × Value × Cell)=>match o with|none=>.tup [.one (.v (.bool false))]|some p=>.tup [.one (.v (.bool true)),.one (.v p.2.1),.one p.2.2])
  (G2:=fun o:Option (Nat × Value × Cell)=>match o with|none=>Ob.aj.sep (Ob.ou it b s.length g) (bV b s)|some p=>Ob.aj.sep (Ob.ou it b s.length (g++[p.1])) (bV b s))
  (J:=fun o:Option (Nat × Value × Cell)=>match o with|none=>∀ i,i<(lQ s).length->i∈g|some p=>(lQ s)[p.1]?=some p.2/\p.1∉g) ab ?_) ?_
 rw[show Ob.jl (bC (ar (aV DX) 0)) 0=.next (.tmp 9) false from by kernel_rfl,<- xC];exact Ob.aa2 ab (Ub s) (RC s);rintro (_|⟨i,p⟩) O
 ·have u:∀ i,i<s.length->i∈g:=by
   rw[<- xC];exact O
  have z:m=Hbm.kf s body:=N▸Sl s body g k.1 k.2 u;refine Ob.gA qS 2 (fun _=>()) (fun _=>Sm body it m false) (fun _=>True) ?_ (fun _ _=>?_);intros;refine aq (X:=((Sm body it m false).ah True)) ab ?_;exact au trivial;refine Ob.ei ?_;refine Ob.e5 (ar (aV DX) 1) ?_;refine Ob.ju qS mixed (fun _=>False) (fun _=>False) (fun i D=>i=0/\D.le (Ob.cm (FN gl w0 M0 F0)) (AO body it m) True) ?_ (fun _ _ _ h _=>h.elim) (fun _ _ _ h _=>h.elim) (fun i D a w L A=>?_);intros;refine aq (X:=(0=0/\(AO body it m).ah True)) ab ?_;exact⟨rfl,au trivial⟩;obtain⟨rfl,L⟩:=L;rw[G];rw[<- z];exact⟨(),(A.le L).2.drop⟩
 ·obtain⟨t,Y⟩:=O;obtain⟨y,F,rfl⟩:∃ y,s[i]?=some y/\p=(.int .i64 y.1,.ro (.int .u8) y.2):=by
   have t:(lQ s)[i]?=some p:=t;unfold lQ at t;rw[dy] at t;obtain⟨y,T,U⟩:=Option.map_eq_some_iff.1 t;exact⟨y,T,U.symm⟩
  have I:i<s.length:=by rcases bS i s.length with h'|h';exact h';rw[dN h'] at F;cases F
  have C:=Q.1 y (dP F);have f:oo s body (g++[i])=if y.2=body then m+1 else m:=N▸Qk s body g F
  have e:(g++[i]).Nodup/\∀ j∈g++[i],j<s.length:=⟨Q2 k.1 Y,fun j hj=>by
   rcases List.mem_append.1 hj with hj|hj;exact k.2 j hj
   ·rw[List.mem_singleton.1 hj];exact I⟩
  have d:=uj e.1 e.2;rw[a7] at d;have d:g.length+1<=s.length:=d;refine Ob.gA qS 2 (fun _=>()) (fun _=>Sm body it m true) (fun _=>True) ?_ (fun _ _=>?_);intros;refine aq (X:=((Sm body it m true).ah True)) ab ?_;exact au trivial;refine Ob.ei ?_;refine Ob.je (ar (aV DX) 1) ?_;refine Ob.dL (E:=FN gl w0 M0 F0) (c:=ar (aV DX) 2) (fun a w=>Ob.GH (FN gl w0 M0 F0) qa.ntmps (AO body it (if y.2=body then m+1 else m)) (Ob.aj.sep (Ob.ou it b s.length (g++[i])) (bV b s)) a w) ab ab ?_ ?_;refine Ob.ep 4 (bC (ar (cV (ar (aV DX) 2)) 0)) ?_;refine Ob.fI (Ob.fq (sv:=fun _:Unit=>.tup [.one (.v (.int .i64 y.1)),.one (.ro (.int .u8) y.2)]) (G2:=fun _=>Ob.aj.sep (Ob.ou it b s.length (g++[i])) (bV b s)) (J:=fun _=>True) ab ?_) (fun _ _=>?_);rw[show Ob.jl (bC (ar (cV (ar (aV DX) 2)) 0)) 0=.entry (.tmp 9) from by kernel_rfl];have:=Ob.WK (P:=Tryz.prog) (gl:=gl) (S:=(Sm body it m true).S) (ty:=Ob.pP (bC (ar (cV (ar (aV DX) 2)) 0)) 0) (it:=.tmp 9) (r:=it) (b:=b) (i:=i) (l:=lQ s) (seen:=g) (p:=(.int .i64 y.1,.ro (.int .u8) y.2)) t ab rfl rfl;rw[xC] at this;exact this;refine Ob.gA qS 3 (fun _=>()) (fun _=>ctD body it m y.2) (fun _=>True) ?_ (fun _ _=>?_);intros;refine aq (X:=((ctD body it m y.snd).ah True)) ab ?_;exact au trivial;refine Ob.ei ?_;refine Ob.gcd qS 2 (fun σ=>bo (.int .i64) 5 σ) (fun q=>AO body it q) (fun q=>q=if y.2=body then m+1 else m) ?_ (fun q Z=>?_);intros;refine aq (X:=(Cz (y.snd,body,())/\(decide (y.snd=body)=true->(AO body it (IntKind.i64.wrap (m+1))).ah (IntKind.i64.wrap (m+1)=if y.snd=body then m+1 else m))/\(decide (y.snd=body)=false->(AO body it m).ah (m=if y.snd=body then m+1 else m)))) ab ?_;refine⟨⟨C.2.1,V,C.2.2,H⟩,fun h=>au ?_,fun h=>au ?_⟩;rw[ak (Odt h),ba aa aa];rw[ai (Odf h)];subst Z;exact Ob.cr fun a w h=>h;refine Ob.cr fun a w A=>⟨g++[i],⟨e,?_⟩,?_⟩;rw[f];exact A;show s.length-(g++[i]).length<s.length-g.length;rw[a7,Bi];omega
end
theorem EP (gl:Nat->Option (Sigma aH)):Ob.ez Tryz.prog gl 163 (fun z:Nat × Hbm.gw × List Int=>[nE z.1,lP z.2.2]) (fun z=>nM z.2.1/\Bs z.2.2/\z.2.2.length<1048576) (fun z=>bV z.1 z.2.1) (fun z (_:Unit)=>sI .i64 (Hbm.kf z.2.1 z.2.2)) (fun z _=>bV z.1 z.2.1) (fun _ _=>True):=by refine Ob.aek (sp:=Vg) xd ab (fun z=>by show 2<=qa.ntmps;exact Odt ab) (fun z _=>rfl) ?_;rintro⟨b,s,body⟩ ⟨f,d,c⟩ w M F;refine Zy gl w M F b s body fun it=>Zz gl w M F b s f body d c it fun m e=>?_;refine Ob.gT qS mixed (sI .i64 m) ?_ ⟨(),trivial,by rw[e],rfl⟩;intros;refine aq (X:=(SV.is (TV.one (Cell.v (Value.int IntKind.i64 m)))=SV.is (TV.one (Cell.v (Value.int IntKind.i64 m))))) ab ?_;rfl
abbrev df (m:Hbm.aG):List Cell:=[.v (.int .i64 m.1),.v (.int .i64 m.2.1),.v (.int .i64 m.2.2.1),.v (.int .i64 m.2.2.2.1),.v (.int .i64 m.2.2.2.2.1),.v (.int .i64 m.2.2.2.2.2.1),.ro (.int .u8) m.2.2.2.2.2.2]
abbrev mb (m:Hbm.aG):SV:=.is (.agg (df m))
abbrev aA (t:Bool):SV:=ag (.v (.bool t))
theorem Ez:enters Tryz.prog 124 Tryz.f124:=ek
abbrev q8:Func:=Tryz.f124
def ntA (b:Nat) (m:Hbm.aG):St:=av q8.ntmps 16 [(0,nE b),(3,ao 0 0)] [(0,df m)]
def ntB (b:Nat) (m:Hbm.aG):St:=av q8.ntmps 40 [(0,nE b),(3,ao 0 0),(8,nE b),(10,sI .i64 m.2.2.1)] [(0,df m)]
def OW (b:Nat) (m:Hbm.aG) (r:Bool):St:=av q8.ntmps 40 [(0,nE b),(3,ao 0 0),(6,aA r)] [(0,df m)]
def ntD (b:Nat) (m:Hbm.aG):St:=av q8.ntmps 40 [(15,nE b),(17,sI .i64 m.2.2.1),(20,lP m.2.2.2.2.2.2)] []
def ntE:St:=av q8.ntmps 40 [] []
abbrev Wz:=aU [qD]
theorem q9:aJ Tryz.prog Wz:=aM uo bD
section
variable (gl:Nat->Option (Sigma aH)) (w0:World) (M0:Mem) (F0:Nat->Prop)
abbrev YC:Ob.cf:=Ob.lj Tryz.prog Wz gl w0 M0 F0
theorem aed (b:Nat) (s:Hbm.gw) (t:nM s) (m:Hbm.aG) (l:lk m.2.2.1) {n r:ax} {x:Nat->ax}
  (h:∀ q,q=Hbm.dk s m.a5->Ob.aN Tryz.prog ((al q8).drop 2) (Ob.GH (YC gl w0 M0 F0) q8.ntmps (OW b m q) (bV b s)) n r x) :
  Ob.aN Tryz.prog (al q8) (Ob.GH (YC gl w0 M0 F0) q8.ntmps (lx q8 [nE b,mb m] [] 0) (bV b s)) n r x:=by
 obtain⟨mk,d,a,g,mt,f,c⟩:=m;refine Ob.gcd q9 1 (fun _=>()) (fun _=>ntA b (mk,d,a,g,mt,f,c)) (fun _=>True) ?_ (fun _ _=>?_);intros;refine aq (X:=((ntA b (mk,d,a,g,mt,f,c)).ah True)) ab ?_;exact au trivial;refine Ob.ep 1 (bC (ar (al q8) 1)) ?_;refine Ob.gA q9 3 (fun _=>()) (fun _=>ntB b (mk,d,a,g,mt,f,c)) (fun _=>True) ?_ (fun _ _=>?_);intros;refine aq (X:=((ntB b (mk,d,a,g,mt,f,c)).ah True)) ab ?_;exact au trivial;refine Ob.fI (Ob.fq (sv:=fun q:Bool=>.tup [.one .junk,.one (.v (.bool q))]) (G2:=fun _=>bV b s) (J:=fun q=>(q=true↔∃ p∈lQ s,p.1=.int .i64 a)) ab ?_) (fun q i=>?_)
 ·rw[show Ob.jl (bC (ar (al q8) 1)) 3=.lookup 193 (.tmp 8) (.tmp 10) true from by kernel_rfl]
  exact Ob.aa1 MO Tq (z:=.slice none 0 0) (fun w=>ab) rfl (GP t) (H3 l) ab (fun u v j=>by
   have j:SV.rel u (sI .i64 a) v:=j
   exact cc j)
 have i:q=Hbm.dk s a:=by
  have e:(∃ p∈lQ s,p.1=.int .i64 a)↔Hbm.dk s a=true:=by
   unfold Hbm.dk;rw[qI];constructor;rintro⟨p,o,e⟩;obtain⟨y,k,rfl⟩:=mem_map.1 o;have e:(Value.int .i64 y.1)=.int .i64 a:=e;injection e with _ e;exact⟨y,k,by simp[e]⟩
   ·rintro⟨y,k,e⟩;have e:y.1=a:=by simpa using e
    exact⟨_,mem_map.2 ⟨y,k,rfl⟩,by rw[e]⟩
  rw[e] at i;cases q<;>cases A:Hbm.dk s a<;>simp_all
 refine Ob.gA q9 9 (fun _=>()) (fun _=>OW b (mk,d,a,g,mt,f,c) q) (fun _=>True) ?_ (fun _ _=>Ob.HU (Odt ab) (h q i));intros;refine aq (X:=((OW b (mk,d,a,g,mt,f,c) q).ah True)) ab ?_;exact au trivial
theorem aee (b:Nat) (s:Hbm.gw) (u:nM s) (m:Hbm.aG) (q:lk m.2.2.1) (o:m.2.2.2.2.2.2.length<1048576) (f:Hbm.dk s m.a5=false) {n r:ax} {x:Nat->ax}
  (h:Ob.aN Tryz.prog ((al q8).drop 5) (Ob.GH (YC gl w0 M0 F0) q8.ntmps ntE (bV b (s++[(m.2.2.1,m.2.2.2.2.2.2)]))) n r x) :
  Ob.aN Tryz.prog ((al q8).drop 2) (Ob.GH (YC gl w0 M0 F0) q8.ntmps (OW b m false) (bV b s)) n r x:=by
 obtain⟨mk,g,a,j,mt,i,d⟩:=m;refine Ob.gcd q9 2 (fun _=>()) (fun _=>OW b (mk,g,a,j,mt,i,d) false) (fun _=>True) ?_ (fun _ _=>?_);intros;refine aq (X:=((false=true->False)/\(false=false->(OW b (mk,g,a,j,mt,i,d) false).ah True))) ab ?_;exact⟨fun h=>(by cases h),fun _=>au trivial⟩;refine Ob.iD mixed (rid:=4) (ops:=bC (ar (al q8) 4)) ab ?_;refine Ob.eL q9 6 (fun _=>()) (fun _=>ntD b (mk,g,a,j,mt,i,d)) (fun _=>True) ae ab ?_ (fun _ _=>?_);intros;refine aq (X:=(pa (d,())/\(ntD b (mk,g,a,j,mt,i,d)).ah True)) ab ?_;exact⟨o,au trivial⟩;refine Ob.o1 (Ob.fq (sv:=fun _:Unit=>.undef) (G2:=fun _=>bV b (s++[(a,d)])) (J:=fun _=>True) ab ?_) ab ab (fun _ _=>?_)
 ·rw[show Ob.jl (bC (ar (al q8) 4)) 6=.mapUpdate 193 (.tmp 15) (.tmp 17) (.tmp 20) from by kernel_rfl]
  have:=Ob.TI (P:=Tryz.prog) (gl:=gl) (S:=(ntD b (mk,g,a,j,mt,i,d)).S) (ty:=Ob.pP (bC (ar (al q8) 4)) 6) (x:=.tmp 15) (ix:=.tmp 17) (vx:=.tmp 20) (b:=b) (l:=lQ s) (key:=.int .i64 a) (c:=.ro (.int .u8) d) MO Tq (GP u) (H3 q) (fun p t e=>?_) ab (fun z v k=>by
   have k:SV.rel z (sI .i64 a) v:=k
   exact cc k) ab rfl
  rw[show bV b (s++[(a,d)])=Ob.fK b (lQ s++[(.int .i64 a,.ro (.int .u8) d)]) from by unfold bV lQ;rw[di];rfl];exact this
  ·obtain⟨y,w,rfl⟩:=mem_map.1 t;have e:(Value.int .i64 y.1)=.int .i64 a:=e;injection e with _ e;have:Hbm.dk s a=true:=by
    unfold Hbm.dk;rw[qI];exact⟨y,w,by simp[e]⟩
   have f:Hbm.dk s a=false:=f;rw[this] at f;cases f
 refine Ob.gS q9 (fun _=>()) (fun _=>ntE) (fun _=>True) (Odt ab) ?_ (fun _ _=>h);intros;refine aq (X:=(ntE.ah True)) ab ?_;exact au trivial
end
theorem OZ (gl:Nat->Option (Sigma aH)):Ob.ez Tryz.prog gl 124 (fun z:Nat × Hbm.gw × Hbm.aG=>[nE z.1,mb z.2.2]) (fun z=>nM z.2.1/\lk z.2.2.2.2.1/\z.2.2.2.2.2.2.2.2.length<1048576) (fun z=>bV z.1 z.2.1) (fun z (_:Unit)=>aA (!Hbm.dk z.2.1 z.2.2.a5))
  (fun z _=>bV z.1 (if Hbm.dk z.2.1 z.2.2.a5 then z.2.1 else z.2.1++[(z.2.2.2.2.1,z.2.2.2.2.2.2.2.2)])) (fun _ _=>True):=by
 refine Ob.c9 (sp:=Wz) Ez ab (fun z=>by show 2<=q8.ntmps;exact Odt ab) (fun z _=>rfl) ?_;rintro⟨b,s,m⟩ ⟨e,c,g⟩ w M F;refine aed gl w M F b s e m c fun q d=>?_;show Ob.aN _ _ _ (Ob.c1 _ _ fun a G=>∃ y:Unit,True/\cL a (aA (!Hbm.dk s m.a5))/\G=bV b (if Hbm.dk s m.a5 then s else s++[(m.2.2.1,m.2.2.2.2.2.2)])) (Ob.c1 _ _ fun a G=>∃ y:Unit,True/\cL a (aA (!Hbm.dk s m.a5))/\G=bV b (if Hbm.dk s m.a5 then s else s++[(m.2.2.1,m.2.2.2.2.2.2)])) _;rw[<- d];obtain⟨mk,i,j,l,mt,k,f⟩:=m;cases q;refine aee gl w M F b s e (mk,i,j,l,mt,k,f) c g d.symm ?_;refine Ob.gT q9 mixed (ag .T) ?_ ⟨(),trivial,Ob.CG,rfl⟩;intros;refine aq (X:=(SV.is (TV.one Cell.T)=SV.is (TV.one Cell.T))) ab ?_;rfl;refine Ob.gT q9 mixed (ag .F) ?_ ⟨(),trivial,Ob.rf,rfl⟩;intros;refine aq (X:=((true=true->SV.is (TV.one Cell.F)=SV.is (TV.one Cell.F))/\(true=false->pa (f,())/\False))) ab ?_;exact⟨fun _=>rfl,fun h=>by cases h⟩
abbrev zS (t:Int × Int):Value:=.agg #[.int .i64 t.1,.int .i64 t.2]
theorem PB:Tryz.prog.underlying 118=some (.map 233 191):=ab
theorem OO:Maps.Keyed Tryz.prog 233:=Maps.Keyed.of_law (deep_law_laid (m:=9) ab ae (Odt ab) ab ab)
theorem EK {t:Int × Int} (a:lk t.1) (b:lk t.2):∃ k,keyOf Tryz.prog 233 (zS t)=some k:=by
 have d:(Lit.int .i64 t.1).wf=true:=by unfold Lit.wf;rw[aX];exact⟨cg a.1,cg a.2⟩
 have f:(Lit.int .i64 t.2).wf=true:=by unfold Lit.wf;rw[aX];exact⟨cg b.1,cg b.2⟩
 have e:keyOf Tryz.prog 233 (zS t)=(((if IntKind.i64=IntKind.i64/\(Lit.int .i64 t.1).wf=true then some [Lit.int .i64 t.1] else none:Option (List Lit)).bind fun x=>(if IntKind.i64=IntKind.i64/\(Lit.int .i64 t.2).wf=true then some [Lit.int .i64 t.2] else none:Option (List Lit)).bind fun y=>some [x,y]).map List.flatten).map fun c=>.string (keyBytes c):=ab;rw[e,ak ⟨rfl,d⟩,ak ⟨rfl,f⟩];exact⟨_,rfl⟩
abbrev aB (p:Nat):SV:=ag (.v (Ob.pt p))
abbrev db (b:Int) (mem:List Int) (d:Nat):List Cell:=[.v (.int .i64 b),.ro (.int .i64) mem,.v (.map (some d))]
abbrev b8 (a b c:Bool) (e r:Nat):List Cell:=[.v (.bool a),.v (.bool b),.v (.bool c),.v (.map (some e)),.v (.map (some r))]
def zT (a:List ((Int × Int) × Nat)):List (Value × Cell):=a.map fun t=>(zS t.1,.v (Ob.pt t.2))
def fk (a:Nat) (b:List ((Int × Int) × Nat)):Ob.aj:=Ob.fK a (zT b)
theorem QW (b):∀ p∈zT b,p.2.ids=[]:=by intro p a;obtain⟨x,_,rfl⟩:=mem_map.1 a;rfl
def A6 (a:List ((Int × Int) × Nat)):Prop:=∀ t∈a,lk t.1.1/\lk t.1.2
theorem Ge {b} (h:A6 b):∀ p∈zT b,∃ k,keyOf Tryz.prog 233 p.1=some k:=by intro p c;obtain⟨x,a,rfl⟩:=mem_map.1 c;exact EK (h x a).1 (h x a).2
theorem LC {a b:Int × Int} (h:zS a=zS b):a=b:=by injection h with h;have h:=congrArg Array.toList h;simp at h;exact gm h.1 h.2
theorem ud:enters Tryz.prog 122 Tryz.f122:=ek
abbrev fB:Func:=Tryz.f122
abbrev mj (m:Hbm.aG):List Cell:=[.v (.int .i64 m.2.2.2.2.1),.v (.int .i64 m.2.2.2.1)]
def ofA (p:Nat) (m:Hbm.aG):St:=av fB.ntmps 72 [(0,aB p),(3,ao 0 0),(5,ao 56 0)] [(0,df m),(56,mj m)]
def aiJ (m:Hbm.aG) (a:Int) (mem:List Int) (b:Nat):St:=av fB.ntmps 73 [(0,ao 72 0),(3,ao 0 0),(5,ao 56 0)] [(72,db a mem b),(0,df m),(56,mj m)]
def ofB (m:Hbm.aG) (b:Int) (mem:List Int) (a:Nat):St:=av fB.ntmps 73 [(0,ao 72 0),(3,ao 0 0),(5,ao 56 0),(15,nE a),(16,.is (.agg (mj m)))] [(72,db b mem a),(0,df m),(56,mj m)]
def YD (m:Hbm.aG) (a:Int) (mem:List Int) (b:Nat) (q:Value):St:=av fB.ntmps 73 [(0,ao 72 0),(3,ao 0 0),(5,ao 56 0),(6,ag (.v q))] [(72,db a mem b),(0,df m),(56,mj m)]
def O0 (p:Nat) (m:Hbm.aG) (q:Value):St:=av fB.ntmps 73 [(0,aB p),(3,ao 0 0),(5,ao 56 0),(6,ag (.v q))] [(0,df m),(56,mj m)]
abbrev LY:FuncId->Option Eng.Spec:=aU []
theorem iA:aJ Tryz.prog LY:=bD
section
variable (gl:Nat->Option (Sigma aH)) (w0:World) (M0:Mem) (F0:Nat->Prop)
abbrev ox:Ob.cf:=Ob.lj Tryz.prog LY gl w0 M0 F0
theorem aiK (p d:Nat) (j:Int) (mem:List Int) (i:List ((Int × Int) × Nat)) (y:A6 i) (m:Hbm.aG) (I:lk m.bI) (K:lk m.bU) {n r:ax} {x:Nat->ax}
  (O:∀ o,((m.bI,m.bU),o)∈i->Ob.aN Tryz.prog ((al fB).drop 3) (Ob.GH (ox gl w0 M0 F0) fB.ntmps (O0 p m (Ob.pt o)) (Ob.aj.obj [db j mem d] p (fk d i))) n r x)
  (N:(∀ t∈i,t.1≠(m.bI,m.bU))->Ob.aN Tryz.prog ((al fB).drop 3) (Ob.GH (ox gl w0 M0 F0) fB.ntmps (O0 p m (.pointer none)) (Ob.aj.obj [db j mem d] p (fk d i))) n r x) :
  Ob.aN Tryz.prog (al fB) (Ob.GH (ox gl w0 M0 F0) fB.ntmps (lx fB [aB p,mb m] [] 0) (Ob.aj.obj [db j mem d] p (fk d i))) n r x:=by
 obtain⟨mk,a,g,b,mt,h,f⟩:=m;refine Ob.gcd iA 2 (fun _=>()) (fun _=>ofA p (mk,a,g,b,mt,h,f)) (fun _=>True) ?_ (fun _ _=>?_);intros;refine aq (X:=((ofA p (mk,a,g,b,mt,h,f)).ah True)) ab ?_;exact au trivial;refine Ob.iD mixed (rid:=2) (ops:=bC (ar (al fB) 2)) ab ?_;refine Ob.qw (E:=ox gl w0 M0 F0) [0] ab (aiJ (mk,a,g,b,mt,h,f) j mem d) (ay ab ab trivial) ?_;refine Ob.eL iA 5 (fun _=>()) (fun _=>ofB (mk,a,g,b,mt,h,f) j mem d) (fun _=>True) ae ab ?_ (fun _ _=>?_);intros;refine aq (X:=((ofB (mk,a,g,b,mt,h,f) j mem d).ah True)) ab ?_;exact au trivial;obtain⟨Q,q⟩:=EK (t:=(mt,b)) I K;refine Ob.o1 (Ob.fq (sv:=fun r:Option (Value × Cell)=>ag (match r with|some p=>p.2|none=>.v (.pointer none))) (G2:=fun _=>fk d i) (J:=fun r:Option (Value × Cell)=>match r with|some p=>p∈zT i/\p.1=zS (mt,b)|none=>∀ p∈zT i,p.1≠zS (mt,b)) ab ?_) ab ab ?_
 ·rw[show Ob.jl (bC (ar (al fB) 2)) 5=.lookup 118 (.tmp 15) (.tmp 16) false from by kernel_rfl]
  exact Ob.aer PB OO (z:=.pointer none) (fun w=>ab) rfl (Ge y) (QW i) q ab (fun P v A=>by
   have A:SV.rel P (.is (.agg (mj (mk,a,g,b,mt,h,f)))) v:=A;obtain⟨l,rfl,R,T,rfl,⟨rfl,_⟩,U,V,rfl,⟨rfl,_⟩,rfl⟩:=A
   rfl)
 rintro (_|⟨k,c⟩) C;refine Ob.gS iA (fun _=>()) (fun _=>YD (mk,a,g,b,mt,h,f) j mem d (.pointer none)) (fun _=>True) (Odt ab) ?_ (fun _ _=>?_);intros;refine aq (X:=((YD (mk,a,g,b,mt,h,f) j mem d (Value.pointer none)).ah True)) ab ?_;exact au trivial;exact Ob.kr (E:=ox gl w0 M0 F0) [0,56] [72] rfl ab ab rfl ab 73 (O0 p (mk,a,g,b,mt,h,f) (.pointer none)) (ay ab ab trivial) (N fun t s e=>C (zS t.1,.v (Ob.pt t.2)) (mem_map.2 ⟨t,s,rfl⟩) (by rw[e]))
 ·obtain⟨o,u,rfl⟩:∃ o,((mt,b),o)∈i/\c=.v (Ob.pt o):=by
   obtain⟨L,e⟩:=C;obtain⟨t,s,D⟩:=mem_map.1 L;injection D with F G;have H:t.1=(mt,b):=LC (F.trans e);exact⟨t.2,by rw[<- H];exact s,G.symm⟩
  refine Ob.gS iA (fun _=>()) (fun _=>YD (mk,a,g,b,mt,h,f) j mem d (Ob.pt o)) (fun _=>True) (Odt ab) ?_ (fun _ _=>?_);intros;refine aq (X:=((YD (mk,a,g,b,mt,h,f) j mem d (Ob.pt o)).ah True)) ab ?_;exact au trivial;exact Ob.kr (E:=ox gl w0 M0 F0) [0,56] [72] rfl ab ab rfl ab 73 (O0 p (mk,a,g,b,mt,h,f) (Ob.pt o)) (ay ab ab trivial) (O o u)
theorem abE:Tryz.prog.underlying 191=some (.pointer 195):=ab
def ofY (a:Nat):St:=av fB.ntmps 73 [(6,aB a),(18,aB a)] []
def YF (a:Nat):St:=av fB.ntmps 73 [(6,aB a)] []
theorem aem (a:Nat) (G:Ob.aj) {Q:SV->Ob.aj->Prop} (b:Q (aB a) G):Ob.aN Tryz.prog ((al fB).drop 5) (Ob.GH (ox gl w0 M0 F0) fB.ntmps (YF a) G) (Ob.c1 (ox gl w0 M0 F0) fB Q) (Ob.c1 (ox gl w0 M0 F0) fB Q) (fun _ _ _=>False):=by refine Ob.gT iA mixed (aB a) ?_ b;intros;refine aq (X:=(SV.is (TV.one (Cell.v (Value.pointer (some { block:=a,off:=0 }))))=aB a)) ab ?_;rfl
theorem aiO (p:Nat) (m:Hbm.aG) (a:Nat) (G:Ob.aj) {Q:SV->Ob.aj->Prop} (b:Q (aB a) G):Ob.aN Tryz.prog ((al fB).drop 3) (Ob.GH (ox gl w0 M0 F0) fB.ntmps (O0 p m (Ob.pt a)) G) (Ob.c1 (ox gl w0 M0 F0) fB Q) (Ob.c1 (ox gl w0 M0 F0) fB Q) (fun _ _ _=>False):=by obtain⟨mk,c,e,g,mt,f,d⟩:=m;refine Ob.ep 3 (bC (ar (al fB) 3)) ?_;refine Ob.gA iA 1 (fun _=>()) (fun _=>ofY a) (fun _=>True) ?_ (fun _ _=>?_);intros;refine aq (X:=((ofY a).ah True)) ab ?_;exact au trivial;refine Ob.fI (Ob.fq (sv:=fun _:Unit=>ag .F) (G2:=fun _=>G) (J:=fun _=>True) ab ?_) (fun _ _=>?_);rw[show Ob.jl (bC (ar (al fB) 3)) 1=.binOp .eql 191 (.tmp 18) (.const (.pointer none)) 191 from by kernel_rfl];exact Ob.xu (p:=a) abE ab ab;refine Ob.ei ?_;refine Ob.gqF (ar (al fB) 4) ?_;refine Ob.fR (YF a) ?_;exact aem gl w0 M0 F0 a G b
def YE (p:Nat) (m:Hbm.aG):St:=av fB.ntmps 73 [(0,aB p),(3,ao 0 0),(5,ao 56 0),(19,ag .T)] [(0,df m),(56,mj m)]
theorem aiM (p:Nat) (m:Hbm.aG) (G:Ob.aj) {n r:ax} {x:Nat->ax} (h:Ob.aN Tryz.prog ((al fB).drop 4) (Ob.GH (ox gl w0 M0 F0) fB.ntmps (YE p m) G) n r x):Ob.aN Tryz.prog ((al fB).drop 3) (Ob.GH (ox gl w0 M0 F0) fB.ntmps (O0 p m (.pointer none)) G) n r x:=by obtain⟨mk,a,c,e,mt,d,b⟩:=m;refine Ob.gcd iA 1 (fun _=>()) (fun _=>YE p (mk,a,c,e,mt,d,b)) (fun _=>True) ?_ (fun _ _=>h);intros;refine aq (X:=((YE p (mk,a,c,e,mt,d,b)).ah True)) ab ?_;exact au trivial
abbrev LZ:List Code:=fX (ar (al fB) 4)
def ofG (p:Nat) (m:Hbm.aG) (e r:Nat):St:=av fB.ntmps 113 [(0,aB p),(3,ao 0 0),(5,ao 56 0),(6,ao 97 0)] [(0,df m),(56,mj m),(97,[.F,.F,.F,.v (.map (some e)),.v (.map (some r))])]
def ofH (p:Nat) (m:Hbm.aG) (a:Nat):St:=av fB.ntmps 113 [(0,aB p),(5,ao 56 0),(6,aB a)] [(56,mj m)]
theorem aiL (p:Nat) (m:Hbm.aG) (G:Ob.aj) {n r:ax} {x:Nat->ax}
  (h:∀ b e c,Ob.aN Tryz.prog (LZ.tail++(al fB).drop 5) (Ob.GH (ox gl w0 M0 F0) fB.ntmps (ofH p m b) (Ob.aj.obj [b8 false false false e c] b (Ob.aj.sep (Ob.fK c []) (Ob.aj.sep (Ob.fK e []) G)))) n r x) :
  Ob.aN Tryz.prog ((al fB).drop 4) (Ob.GH (ox gl w0 M0 F0) fB.ntmps (YE p m) G) n r x:=by
 obtain⟨mk,a,f,i,mt,g,d⟩:=m;refine Ob.gqT (ar (al fB) 4) ?_;refine Ob.ep 4 (bC (ar LZ 0)) ?_;refine Ob.vH (G':=Ob.aj.sep Ob.aj.none G) (by rw[Ob.ja,Ob.pv]) ?_;refine Ob.fI (Ob.fq (sv:=fun e:Nat=>nE e) (G2:=fun e=>Ob.aj.sep (Ob.fK e []) G) (J:=fun _=>True) ab ?_) (fun e _=>?_);rw[show Ob.jl (bC (ar LZ 0)) 0=.makeMap 193 none from by kernel_rfl];exact Ob.ES G Ob.H8;refine Ob.vH (G':=Ob.aj.sep Ob.aj.none (Ob.aj.sep (Ob.fK e []) G)) (by rw[Ob.ja Ob.aj.none,Ob.pv]) ?_;refine Ob.fI (Ob.fq (sv:=fun r:Nat=>nE r) (G2:=fun r=>Ob.aj.sep (Ob.fK r []) (Ob.aj.sep (Ob.fK e []) G)) (J:=fun _=>True) ab ?_) (fun c _=>?_);rw[show Ob.jl (bC (ar LZ 0)) 1=.makeMap 193 none from by kernel_rfl];exact Ob.ES (Ob.aj.sep (Ob.fK e []) G) Ob.H8;refine Ob.gA iA 5 (fun _=>()) (fun _=>ofG p (mk,a,f,i,mt,g,d) e c) (fun _=>True) ?_ (fun _ _=>?_);intros;refine aq (X:=((ofG p (mk,a,f,i,mt,g,d) e c).ah True)) ab ?_;exact au trivial;refine Ob.ei ?_;exact Ob.C9 (E:=ox gl w0 M0 F0) 6 [0,56] [97] rfl ab ab ab ab rfl ab (fun b=>ofH p (mk,a,f,i,mt,g,d) b) (fun b=>ay ab ab trivial) (fun b=>h b e c)
def ofI (m:Hbm.aG) (c:Nat) (a:Int) (mem:List Int) (b:Nat):St:=av fB.ntmps 114 [(0,ao 113 0),(5,ao 56 0),(6,aB c)] [(113,db a mem b),(56,mj m)]
def ofJ (m:Hbm.aG) (b:Nat) (c:Int) (mem:List Int) (a:Nat):St:=av fB.ntmps 114 [(0,ao 113 0),(6,aB b),(27,nE a),(28,.is (.agg (mj m))),(29,aB b)] [(113,db c mem a)]
def ofK (c:Nat) (a:Int) (mem:List Int) (b:Nat):St:=av fB.ntmps 114 [(0,ao 113 0),(6,aB c)] [(113,db a mem b)]
abbrev Cq (tp e r:Nat):Ob.aj:=Ob.aj.obj [b8 false false false e r] tp (Ob.aj.sep (Ob.fK r []) (Ob.fK e []))
theorem aiN (p b:Nat) (c:Int) (mem:List Int) (d:List ((Int × Int) × Nat)) (w:A6 d) (m:Hbm.aG) (A:lk m.bI) (C:lk m.bU) (j:∀ t∈d,t.1≠(m.bI,m.bU)) (a e i:Nat) {n r:ax} {x:Nat->ax}
  (h:Ob.aN Tryz.prog ((al fB).drop 5) (Ob.GH (ox gl w0 M0 F0) fB.ntmps (YF a) (Ob.aj.obj [db c mem b] p (Ob.aj.sep (fk b (d++[((m.bI,m.bU),a)])) (Cq a e i)))) n r x) :
  Ob.aN Tryz.prog (LZ.tail++(al fB).drop 5) (Ob.GH (ox gl w0 M0 F0) fB.ntmps (ofH p m a) (Ob.aj.obj [b8 false false false e i] a (Ob.aj.sep (Ob.fK i []) (Ob.aj.sep (Ob.fK e []) (Ob.aj.obj [db c mem b] p (fk b d)))))) n r x:=by
 obtain⟨mk,f,o,g,mt,s,k⟩:=m;refine Ob.aP (G':=Ob.aj.obj [db c mem b] p (Ob.aj.sep (fk b d) (Cq a e i))) ?_ ?_;rw[Ob.bF [b8 false false false e i] a (Ob.aj.sep _ (Ob.aj.sep _ _)),Ob.bF [db c mem b] p (fk b d),Ob.bF [db c mem b] p (Ob.aj.sep _ _),Cq,Ob.bF [b8 false false false e i] a (Ob.aj.sep (Ob.fK i []) (Ob.fK e []))];ac_rfl;refine Ob.iD mixed (rid:=5) (ops:=bC (ar LZ 1)) ab ?_;refine Ob.qw (E:=ox gl w0 M0 F0) [0] ab (ofI (mk,f,o,g,mt,s,k) a c mem b) (ay ab ab trivial) ?_;refine Ob.eL iA 6 (fun _=>()) (fun _=>ofJ (mk,f,o,g,mt,s,k) a c mem b) (fun _=>True) ae ab ?_ (fun _ _=>?_);intros;refine aq (X:=((ofJ (mk,f,o,g,mt,s,k) a c mem b).ah True)) ab ?_;exact au trivial;obtain⟨H,u⟩:=EK (t:=(mt,g)) A C;refine Ob.o1 (Ob.fq (sv:=fun _:Unit=>.undef) (G2:=fun _=>Ob.aj.sep (fk b (d++[((mt,g),a)])) (Cq a e i)) (J:=fun _=>True) ab ?_) ab ab (fun _ _=>?_)
 ·rw[show Ob.jl (bC (ar LZ 1)) 6=.mapUpdate 118 (.tmp 27) (.tmp 28) (.tmp 29) from by kernel_rfl];refine Ob.ES (Cq a e i) (G2:=fun _=>fk b (d++[((mt,g),a)])) ?_;rw[show fk b (d++[((mt,g),a)])=Ob.fK b (zT d++[(zS (mt,g),.v (Ob.pt a))]) from by unfold fk zT;rw[di];rfl]
  exact Ob.TI PB OO (Ge w) u (fun q D z=>by
   obtain⟨t,F,rfl⟩:=mem_map.1 D;exact j t F (LC z)) ab (fun G v y=>by
   have y:SV.rel G (.is (.agg (mj (mk,f,o,g,mt,s,k)))) v:=y;obtain⟨l,rfl,I,K,rfl,⟨rfl,_⟩,L,N,rfl,⟨rfl,_⟩,rfl⟩:=y
   rfl) ab rfl
 refine Ob.gS iA (fun _=>()) (fun _=>ofK a c mem b) (fun _=>True) (Odt ab) ?_ (fun _ _=>?_);intros;refine aq (X:=((ofK a c mem b).ah True)) ab ?_;exact au trivial;exact Ob.kr (E:=ox gl w0 M0 F0) [] [113] rfl ab ab rfl ab 114 (YF a) (ay ab ab trivial) h
end
structure OfIn where
 p:Nat
 mp:Nat
 me:Int
 mem:List Int
 ts:List ((Int × Int) × Nat)
 m:Hbm.aG
theorem afU (gl:Nat->Option (Sigma aH)):Ob.ez Tryz.prog gl 122 (fun z:OfIn=>[aB z.p,mb z.m]) (fun z=>A6 z.ts/\lk z.m.bI/\lk z.m.bU) (fun z=>Ob.aj.obj [db z.me z.mem z.mp] z.p (fk z.mp z.ts)) (fun _ (y:Nat × Option (Nat × Nat))=>aB y.1)
  (fun z y=>match y.2 with|none=>Ob.aj.obj [db z.me z.mem z.mp] z.p (fk z.mp z.ts)|some q=>Ob.aj.obj [db z.me z.mem z.mp] z.p (Ob.aj.sep (fk z.mp (z.ts++[((z.m.bI,z.m.bU),y.1)])) (Cq y.1 q.1 q.2)))
  (fun z y=>match y.2 with|none=>((z.m.bI,z.m.bU),y.1)∈z.ts|some _=>∀ t∈z.ts,t.1≠(z.m.bI,z.m.bU)):=by
 refine Ob.c9 (sp:=LY) ud ab (fun z=>by show 2<=fB.ntmps;exact Odt ab) (fun z _=>rfl) ?_;rintro⟨p,h,g,mem,i,m⟩ ⟨b,d,f⟩ w M F;refine aiK gl w M F p h g mem i b m d f (fun tp c=>?_) (fun a=>?_);exact aiO gl w M F p m tp _ ⟨(tp,none),c,Ob.br _,rfl⟩;refine aiM gl w M F p m _ (aiL gl w M F p m _ fun tp e r=>?_);refine aiN gl w M F p h g mem i b m d f a tp e r ?_;exact aem gl w M F tp _ ⟨(tp,some (e,r)),a,Ob.br _,rfl⟩
end hub
open Go.IntKind(i64 u64 u8)
open Go.IntKind(i64)
theorem RD (s:ByteArray):(jB s).length=s.size:=by simp only[jB,bZ,np];rfl
theorem Ud (s:ByteArray):Bs (jB s):=by intro x a;simp only[jB,mem_map] at a;obtain⟨b,_,rfl⟩:=a;have:=b.toNat_lt;omega
abbrev aQ:Kd:=.pair .fp .fp
namespace g1
theorem Qu:enters Tryz.prog 50 Tryz.f50:=ek
abbrev Cv:HL [.str]->HO [.val .fp]:=fun (s,_)=>((fp.cN (jB s)).1,())
theorem SQ:aO Tryz.prog 50 [.str] [.val .fp] bB (fun _=>True) Cv:=by refine bg (sp:=aU [fp.ME]) (aM (aR fp.vd) bD) mixed Qu ae ae ?_;rintro w a ⟨s,⟨⟩⟩ _ _;refine aq (X:=(0+s.size<=s.size/\fp.th ((jB s).take s.size,())/\((fp.cN ((jB s).take s.size)).1,())=Cv (s,()))) ab ?_;rw[bW (by rw[RD];exact aI _)];exact⟨aa,Ud s,rfl⟩
def Xg:Nat × Eng.Spec:=(50,aK [.str] [.val .fp] (fun _=>True) Cv)
def gx:Fp:=zm 0x17f1d3a73197d7942695638c4fa9ac0fc3688c4f9774b905a14e3a3f171bac586c55e83ff97a1aeffb3af00adb22c6bb
def gy:Fp:=zm 0x08b3f481e3aaa0f1a09e30ed741d8ae4fcf5e095d5d00af600db18cb2c04b3edd03cc744a2888ae40caa232946c5e7e1
theorem ZJ:enters Tryz.prog 19 Tryz.f19:=ek
abbrev TJ:HL []->HO [.val aQ]:=fun _=>((gx,gy),())
theorem acK:aO Tryz.prog 19 [] [.val aQ] bB (fun _=>True) TJ:=by refine bg (sp:=aU [Xg]) (aM (aR SQ) bD) mixed ZJ ae ae ?_;rintro w a ⟨⟩ _ _;exact aq (X:=(True/\True/\(((gx,gy),()):(Fp × Fp) × Unit)=TJ ())) ab ⟨trivial,trivial,rfl⟩
end g1
namespace codec
theorem Vz:enters Tryz.prog 150 Tryz.f150:=ek
abbrev yT:HL [.bool,.bool]->HO [.val (.int .u8)]:=fun (a,b,_)=>((if a=true then (192:Int) else if b=true then 160 else 128),())
theorem aab:aO Tryz.prog 150 [.bool,.bool] [.val (.int .u8)] bB (fun _=>True) yT:=by refine bg (sp:=aU []) bD mixed Vz ae ae ?_;rintro w d ⟨a,b,⟨⟩⟩ _ _;refine aq (X:=((a=true->(192,())=yT (a,b,()))/\(a=false->(b=true->(160,())=yT (a,b,()))/\(b=false->(128,())=yT (a,b,()))))) ab ?_;refine⟨fun h=>by subst h;rfl,fun h=>⟨fun c=>by subst h c;rfl,fun c=>by subst h c;rfl⟩⟩
def ae2:Nat × Eng.Spec:=(150,aK [.bool,.bool] [.val (.int .u8)] (fun _=>True) yT)
theorem ack:enters Tryz.prog 108 Tryz.f108:=ek
def AS (p:Fp × Fp):List Int:=(dw 48 p.1.v).set 0 (aD .or .u8 ((dw 48 p.1.v).getD 0 0) (if (decide (p.1=0)&&decide (p.2=0))=true then (192:Int) else if decide ((-p.2).v<p.2.v)=true then 160 else 128))
abbrev Rb:HL [aQ]->HO [.val (.arr 48 (.int .u8))]:=fun (p,_)=>(AS p,())
theorem afI:aO Tryz.prog 108 [aQ] [.val (.arr 48 (.int .u8))] bB (fun _=>True) Rb:=by refine bg (sp:=aU [fp.vn,fp.IB,ae2]) (aM (aR fp.sM) (aM (aR fp.K2) (aM (aR aab) bD))) mixed ack ae ae ?_;rintro w a ⟨⟨x,y⟩,⟨⟩⟩ _ _;refine aq (X:=(True/\True/\True/\0<48/\((AS (x,y),()):List Int × Unit)=Rb ((x,y),()))) ab ⟨trivial,trivial,trivial,ae,rfl⟩
def ae1:Nat × Eng.Spec:=(108,aK [aQ] [.val (.arr 48 (.int .u8))] (fun _=>True) Rb)
end codec
namespace deal
def kc:Int->List Int->Bool
 | _,[]=>true
 | a,x::b=>if x<=a\/x>9 then false else kc x b
def ahead (a:List Int):Nat->Int
 | 0=>0
 | k+1=>a.getD k 0
theorem T5 {a:List Int} {k:Nat} (h:k<a.length):kc (ahead a k) (a.drop k)=if a.getD k 0<=ahead a k\/a.getD k 0>9 then false else kc (ahead a (k+1)) (a.drop (k+1)):=by rw[lW h];simp[kc,ahead,h]
theorem Qx:enters Tryz.prog 55 Tryz.f55:=ek
def Iw (a:List Int) (g:Int × Int):St:=av Tryz.f55.ntmps 40 [(6,ag (.ro (.int .i64) a)),(7,sI .i64 a.length),(3,sI .i64 g.1),(8,sI .i64 g.2)] []
abbrev CC:HL [.sl (.int .i64)]->Prop:=fun (a,_)=>length a<4611686018427387904
abbrev m8:HL [.sl (.int .i64)]->HO [.val .bool]:=fun (a,_)=>(kc 0 a,())
theorem Jb:aO Tryz.prog 55 [.sl (.int .i64)] [.val .bool] bB CC m8:=by
 have d:aJ Tryz.prog (aU []):=bD;refine bL (sp:=aU []) Qx ae ae ab ?_;rintro w o ⟨a,⟨⟩⟩ _ l;have l:length a<4611686018427387904:=l;show Tr _ _ _ _ _ _ _;refine bh d mixed 3 (Iw a (0,0)) True ?_ (fun _=>?_);refine aq (X:=(Iw a (0,0)).ah True) ab (au trivial);refine JR d mixed [] (Iw a) (fun k=>(ahead a k,(k:Int))) (fun k=>kc 0 a=kc (ahead a k) (a.drop k)) a.length (fun g=>(a.getD g.2.toNat 0,IntKind.i64.wrap (g.2+1))) (Iw a) (c:=ar (al Tryz.f55) 3) ab ab (ay ab ab trivial) rfl
  (fun k n _ _=>by show (_,_)=(_,_);rw[aS aa];rfl) ?_ ?_
 ·intro k n f
  refine aq (X:=((decide ((k:Int)<(a.length:Int))=true->(0<=(k:Int)/\(k:Int)<(a.length:Int))/\(k:Int).toNat<a.length /\
    (decide (a.getD (k:Int).toNat 0<=ahead a k)=true->(false,())=m8 (a,())) /\
    (decide (a.getD (k:Int).toNat 0<=ahead a k)=false ->
     (decide (a.getD (k:Int).toNat 0>9)=true->(false,())=m8 (a,())) /\
     (decide (a.getD (k:Int).toNat 0>9)=false->(Iw a (a.getD (k:Int).toNat 0,IntKind.i64.wrap ((k:Int)+1))).ah (k<a.length/\kc 0 a=kc (ahead a (k+1)) (a.drop (k+1)))))) /\
   (decide ((k:Int)<(a.length:Int))=false->(Iw a (ahead a k,(k:Int))).ah (k=a.length)))) ab ?_
  refine⟨fun h=>?_,fun h=>au (by have:=bX h;omega)⟩;have b:k<a.length:=by have:=dec_lt h;omega
  have e:=T5 b;rw[aF];refine⟨⟨aa,aa⟩,b,fun i=>?_,fun i=>⟨fun j=>?_,fun j=>au ⟨b,?_⟩⟩⟩;rw[ak (.inl (Odt i))] at e;simp[m8,f,e];rw[ak (.inr (Odt j))] at e;simp[m8,f,e];rw[ai (fun m=>m.elim (Odf i) (Odf j))] at e;rw[f,e]
 intro f;refine bJ d mixed _ _ ?_;refine aq (X:=((true,())=m8 (a,()))) ab ?_;rw[show m8 (a,())=(kc 0 a,()) from rfl,f,oG];rfl
def MF:Nat × Eng.Spec:=(55,aK [.sl (.int .i64)] [.val .bool] CC m8)
theorem Su:enters Tryz.prog 57 Tryz.f57:=ek
def Oj (a b:List Int) (i:Int):St:=av Tryz.f57.ntmps 56 [(0,ag (.ro (.int .i64) a)),(1,ag (.ro (.int .i64) b)),(12,sI .i64 a.length),(13,sI .i64 i)] []
abbrev E1:HL [.sl (.int .i64),.sl (.int .i64)]->Prop:=fun (a,_,_)=>length a<4611686018427387904
abbrev o6:HL [.sl (.int .i64),.sl (.int .i64)]->HO [.val .bool]:=fun (a,b,_)=>(decide ((a:List Int)=b),())
theorem UH {a b:List Int} {k:Nat} (d:k<a.length) (e:k<b.length):a.take (k+1)=b.take (k+1)↔a.take k=b.take k/\a.getD k 0=b.getD k 0:=by
 rw[cw d,cw e];constructor;intro h;have:=List.append_inj h (by simp;omega);exact⟨this.1,by simpa[d,e] using this.2⟩
 ·rintro⟨f,g⟩;rw[f];have:a[k]=b[k]:=by simpa[d,e] using g
  rw[this]
theorem VS:aO Tryz.prog 57 [.sl (.int .i64),.sl (.int .i64)] [.val .bool] bB E1 o6:=by
 have g:aJ Tryz.prog (aU []):=bD;refine bL (sp:=aU []) Su ae ae ab ?_;rintro w q ⟨a,b,⟨⟩⟩ _ m;have m:length a<4611686018427387904:=m;show Tr _ _ _ _ _ _ _;refine bh g mixed 4 (Oj a b 0) (a.length=b.length) ?_ (fun n=>?_)
 ·refine aq (X:=((((a.length:Int) != (b.length:Int))=true->(false,())=o6 (a,b,()))/\(((a.length:Int) != (b.length:Int))=false->(Oj a b 0).ah (a.length=b.length)))) ab ?_;refine⟨fun h=>?_,fun h=>au ?_⟩
  ·have:¬ ((a:List Int)=b):=by intro e;subst e;simp at h
   simp[o6,this]
  ·have:¬ ((a.length:Int)≠(b.length:Int)):=by simpa using h
   omega
 refine JR g mixed [] (Oj a b) (fun k=>(k:Int)) (fun k=>take k a=take k b) a.length (fun i=>IntKind.i64.wrap (i+1)) (Oj a b) (c:=ar (al Tryz.f57) 4) ab ab (ay ab ab trivial) rfl
  (fun k o _ _=>by show IntKind.i64.wrap _=_;rw[aS aa]) ?_ ?_
 ·intro k o j
  refine aq (X:=((decide ((k:Int)<(a.length:Int))=true->(0<=(k:Int)/\(k:Int)<(a.length:Int))/\(k:Int).toNat<a.length/\(0<=(k:Int)/\(k:Int)<(b.length:Int))/\(k:Int).toNat<b.length /\
    ((a.getD (k:Int).toNat 0 != b.getD (k:Int).toNat 0)=true->(false,())=o6 (a,b,())) /\
    ((a.getD (k:Int).toNat 0 != b.getD (k:Int).toNat 0)=false->(Oj a b (IntKind.i64.wrap ((k:Int)+1))).ah (k<a.length/\take (k+1) a=take (k+1) b))) /\
   (decide ((k:Int)<(a.length:Int))=false->(Oj a b (k:Int)).ah (k=a.length)))) ab ?_
  refine⟨fun h=>?_,fun h=>au (by have:=bX h;omega)⟩;have f:k<a.length:=by have:=dec_lt h;omega
  have d:k<b.length:=aa;rw[aF];refine⟨⟨aa,aa⟩,f,⟨aa,aa⟩,d,fun l=>?_,fun l=>au ⟨f,(UH f d).2 ⟨j,?_⟩⟩⟩
  ·have:¬ ((a:List Int)=b):=by intro e;subst e;simp at l
   simp[o6,this]
  simpa using l
 ·intro j;refine bJ g mixed _ _ ?_;refine aq (X:=((true,())=o6 (a,b,()))) ab ?_;have:(a:List Int)=b:=by
   rw[aT,bW aa] at j;exact j
  simp[o6,this]
def abx:Nat × Eng.Spec:=(57,aK [.sl (.int .i64),.sl (.int .i64)] [.val .bool] E1 o6)
abbrev dR:Kd:=.pair (.sl (.int .i64)) (.pair (.sl (.int .i64)) (.pair (.int .i64) (.sl aQ)))
theorem Sw:enters Tryz.prog 56 Tryz.f56:=ek
abbrev ET:HL [dR]->HO [.val .bool]:=fun ((_,_,_,o),_)=>((length o:Int)==0,())
theorem zJ:aO Tryz.prog 56 [dR] [.val .bool] bB (fun _=>True) ET:=by refine bg (sp:=aU []) bD mixed Sw ae ae ?_;rintro w a ⟨⟨d,t,n,o⟩,⟨⟩⟩ _ _;exact aq (X:=((((length o:Int)==0,()):Bool × Unit)=ET ((d,t,n,o),()))) ab rfl
def zi:Nat × Eng.Spec:=(56,aK [dR] [.val .bool] (fun _=>True) ET)
def oX (d t:List Int) (n:Int) (o:List (Fp × Fp)):Int :=
 if ((d.length:Int)==0)=true then 1 else if (!kc 0 d)=true then 1 else if ((t.length:Int)==0)=true then 1 else if (!kc 0 t)=true then 1
 else if decide (n<1)=true then 1 else if decide (n>(t.length:Int))=true then 1 else if decide ((o.length:Int)>(d.length:Int))=true then 1
 else if ((o.length:Int)==0)=true then (if (!decide (d=t))=true then 1 else 0) else 0
theorem Sr:enters Tryz.prog 24 Tryz.f24:=ek
abbrev GF:HL [dR]->Prop:=fun ((d,t,_,_),_)=>length d<4611686018427387904/\length t<4611686018427387904
abbrev ka:HL [dR]->HO [.val (.int .i64)]:=fun ((d,t,n,o),_)=>(oX d t n o,())
theorem VR:aO Tryz.prog 24 [dR] [.val (.int .i64)] bB GF ka:=by
 refine bg (sp:=aU [MF,abx,zi]) (aM (aR Jb) (aM (aR VS) (aM (aR zJ) bD))) mixed Sr ae ae ?_;rintro w m ⟨⟨d,t,n,o⟩,⟨⟩⟩ _ ⟨a,b⟩;have a:length d<4611686018427387904:=a;have b:length t<4611686018427387904:=b;let d:List Int:=d;let t:List Int:=t;let n:Int:=n;let o:List (Fp × Fp):=o
 refine aq (X:=((((d.length:Int)==0)=true->((1:Int),())=ka ((d,t,n,o),())) /\
  (((d.length:Int)==0)=false->CC (d,())/\((!kc 0 d)=true->((1:Int),())=ka ((d,t,n,o),())) /\
   ((!kc 0 d)=false->(((t.length:Int)==0)=true->((1:Int),())=ka ((d,t,n,o),())) /\
    (((t.length:Int)==0)=false->CC (t,())/\((!kc 0 t)=true->((1:Int),())=ka ((d,t,n,o),())) /\
     ((!kc 0 t)=false->(decide (n<1)=true->((1:Int),())=ka ((d,t,n,o),())) /\
      (decide (n<1)=false->(decide (n>(t.length:Int))=true->((1:Int),())=ka ((d,t,n,o),())) /\
       (decide (n>(t.length:Int))=false->(decide ((o.length:Int)>(d.length:Int))=true->((1:Int),())=ka ((d,t,n,o),())) /\
        (decide ((o.length:Int)>(d.length:Int))=false->True/\(((o.length:Int)==0)=true->E1 (d,t,())/\((!decide (d=t))=true->((1:Int),())=ka ((d,t,n,o),()))/\((!decide (d=t))=false->((0:Int),())=ka ((d,t,n,o),()))) /\
         (((o.length:Int)==0)=false->((0:Int),())=ka ((d,t,n,o),()))))))))))) ab ?_
 refine⟨fun c=>?_,fun c=>⟨a,fun e=>?_,fun e=>⟨fun f=>?_,fun f=>⟨b,fun g=>?_,fun g=>⟨fun h=>?_,fun h=>⟨fun i=>?_,fun i=>⟨fun j=>?_,fun j=>⟨trivial,fun k=>⟨a,fun l=>?_,fun l=>?_⟩,fun k=>?_⟩⟩⟩⟩⟩⟩⟩⟩;all_goals (simp_all [ka,oX])
 all_goals (rw[ai aa,ai aa,ai aa])
theorem Sz:enters Tryz.prog 156 Tryz.f156:=ek
def Cp (d:List Int) (o:List (Fp × Fp)):Int:=if (!((o.length:Int)==0))=true then o.length else i64.wrap ((d.length:Int)-i64.wrap ((i64.wrap ((d.length:Int)-1)).tdiv 3))
abbrev s9:HL [dR]->HO [.val (.int .i64)]:=fun ((d,_,_,o),_)=>(Cp d o,())
theorem VW:aO Tryz.prog 156 [dR] [.val (.int .i64)] bB (fun _=>True) s9:=by
 refine bg (sp:=aU [zi]) (aM (aR zJ) bD) mixed Sz ae ae ?_;rintro w a ⟨⟨d,t,n,o⟩,⟨⟩⟩ _ _;let d:List Int:=d;let o:List (Fp × Fp):=o
 refine aq (X:=(True/\((!((o.length:Int)==0))=true->((o.length:Int),())=s9 ((d,t,n,o),())) /\
  ((!((o.length:Int)==0))=false->(3:Int)≠0/\(i64.wrap ((d.length:Int)-i64.wrap ((i64.wrap ((d.length:Int)-1)).tdiv 3)),())=s9 ((d,t,n,o),())))) ab ?_
 refine⟨trivial,fun h=>?_,fun h=>⟨ae,?_⟩⟩;simp only[s9,Cp,h,eB];simp only[s9,Cp,h];rfl
def abA:Nat × Eng.Spec:=(156,aK [dR] [.val (.int .i64)] (fun _=>True) s9)
theorem BZ:enters Tryz.prog 65 Tryz.f65:=ek
def P0 (a:List (Fp × Fp)) (g:Int × Nat × Nat × List Int):St:=av Tryz.f65.ntmps 72 [(11,ag (.ro aQ a)),(12,sI .i64 a.length),(3,ag (.sl 32 0 0 g.2.1 1)),(13,sI .i64 g.1)] [(32,[.ints .u8 g.2.2.1 g.2.2.2])]
def km (a:List (Fp × Fp)):List Int:=(a.map codec.AS).flatten
def zt (a:List (Fp × Fp)):Nat->Int × Nat × Nat × List Int
 | 0=>(0,0,(i64.wrap ((a.length:Int)*48)).toNat,replicate (i64.wrap ((a.length:Int)*48)).toNat 0)
 | k+1=>(((k+1:Nat):Int),48*(k+1),48*(k+1),km (a.take (k+1)))
def wrN (a:List (Fp × Fp)) (g:Int × Nat × Nat × List Int):Int × Nat × Nat × List Int:=(i64.wrap (g.1+1),g.2.1+48,g.2.1+48,g.2.2.2.take g.2.1++(codec.AS (a.getD g.1.toNat (0,0))).take 48)
theorem Oy (p:Fp × Fp):(codec.AS p).length=48:=by simp[codec.AS,gE]
theorem DO (a:List (Fp × Fp)):(km a).length=48*a.length:=by
 unfold km;induction a with
 | nil=>rfl
 | cons p a b=>simp only[eI,tN,a7,b,Oy,bN];omega
theorem M7 {a:List (Fp × Fp)} {k:Nat} (h:k<a.length):km (a.take (k+1))=km (a.take k)++codec.AS (a.getD k (0,0)):=by unfold km;rw[cw h,di,tJ];simp[h]
theorem PZ (a:List (Fp × Fp)) (k:Nat):(zt a k).1=(k:Int)/\(zt a k).2.1=48*k/\(zt a k).2.1<=(zt a k).2.2.1:=by
 cases k with
 | zero=>exact⟨rfl,rfl,a8 _⟩
 | succ k=>exact⟨rfl,rfl,aI _⟩
theorem abK {a:List (Fp × Fp)} (d:a.length<=1000000) {k:Nat} (h:k<a.length):wrN a (zt a k)=zt a (k+1):=by
 have b:=bW (l:=codec.AS (a.getD k (0,0))) (i:=48) (by rw[Oy];exact aI _);cases k with
 | zero =>show (i64.wrap (0+1),0+48,0+48,take 0 _++take 48 (codec.AS (a.getD 0 (0,0))))=(((0+1:Nat):Int),48*(0+1),48*(0+1),km (a.take (0+1)));rw[b,M7 h,show i64.wrap (0+1)=((0+1:Nat):Int) from by decide];rfl
 | succ k =>show (i64.wrap (((k+1:Nat):Int)+1),48*(k+1)+48,48*(k+1)+48,take (48*(k+1)) (km (a.take (k+1)))++take 48 (codec.AS (a.getD (((k+1:Nat):Int)).toNat (0,0))))=(((k+1+1:Nat):Int),48*(k+1+1),48*(k+1+1),km (a.take (k+1+1)));rw[aS aa,aF,b,M7 h,bW (by rw[DO];simp;omega)];rfl
abbrev wc:HL [.sl aQ]->Prop:=fun (a,_)=>length a<=1000000
abbrev L6:HL [.sl aQ]->HO [.own (.int .u8)]:=fun (a,_)=>(km a,())
theorem zM:aO Tryz.prog 65 [.sl aQ] [.own (.int .u8)] bB wc L6:=by
 have f:aJ Tryz.prog (aU [codec.ae1]):=aM (aR codec.afI) bD;refine bL (sp:=aU [codec.ae1]) BZ ae ae ab ?_;rintro w x ⟨b,⟨⟩⟩ _ l;have l:length b<=1000000:=l;have o:i64.wrap ((length b:Int)*48)=(length b:Int)*48:=ba aa aa;show Tr _ _ _ _ _ _ _;refine bh f mixed 3 (P0 b (zt b 0)) True ?_ (fun _=>?_);refine aq (X:=(((0:Int)<=0/\(0:Int)<=i64.wrap ((length b:Int)*48)/\(1:Int)*i64.wrap ((length b:Int)*48)<=281474976710656/\i64.wrap ((length b:Int)*48)<=9223372036854775807)/\(P0 b (zt b 0)).ah True)) ab ?_;rw[o];exact⟨⟨aa,aa,aa,aa⟩,au trivial⟩;refine UJ f mixed [(160,32)] (P0 b) (zt b) (length b) (wrN b) (P0 b) (c:=ar (al Tryz.f65) 3) ab ab (ay ab ab trivial) (fun k s=>abK l s) ?_ ?_
 ·intro k s;obtain⟨q,u,r⟩:=PZ b k;generalize zt b k=g at *;obtain⟨i,len,n,j⟩:=g;simp only at q u r;subst q
  refine aq (X:=((decide ((k:Int)<(length b:Int))=true->(0<=(k:Int)/\(k:Int)<(length b:Int))/\(k:Int).toNat<length b/\True/\(0+48:Nat)<=48/\len<=n/\(len+48)*1<=140737488355328/\len+48<=4611686018427387904/\(P0 b (wrN b ((k:Int),len,n,j))).ah (k<length b)) /\
   (decide ((k:Int)<(length b:Int))=false->(P0 b ((k:Int),len,n,j)).ah (k=length b)))) ab ?_
  refine⟨fun h=>?_,fun h=>au (by have:=bX h;omega)⟩;have m:k<length b:=by have:=dec_lt h;omega
  exact⟨⟨aa,aa⟩,aa,trivial,aa,r,aa,aa,au m⟩
 have e:=PZ b (length b);have d:(zt b (length b)).2.2.2.take (zt b (length b)).2.1=km b:=by
  cases t:length b with
  | zero=>have:b=[]:=dM t;subst this;rfl
  | succ k =>show take (48*(k+1)) (km (b.take (k+1)))=_;rw[<- t,aT,bW (by rw[DO];exact aI _)]
 generalize zt b (length b)=g at *;obtain⟨i,len,n,j⟩:=g;simp only at e d;refine bJ f mixed _ _ ?_;refine aq (X:=(0+len<=n/\((j.take len,()):List Int × Unit)=L6 (b,()))) ab ⟨aa,?_⟩;rw[d]
end deal
end Go.Proofs.YtofofalgjibokaaGreatDoor
namespace Cr
open Go.IntKind(i64 u64 u8)
open Go.IntKind(i64)
section
variable {M:Int} [Md M]
theorem WH (a:Zm M):1*a=a:=by rw[xq,zY]
def zpow (x:Zm M):Nat->Zm M
 | 0=>1
 | n+1=>zpow x n*x
theorem zpow_add (x:Zm M) (m n:Nat):zpow x (m+n)=zpow x m*zpow x n:=by
 induction n with
 | zero=>rw[zpow,zY];rfl
 | succ n a=>rw[<- tU,zpow,a,zpow,rQ]
theorem XR (x:Zm M) (m:Nat):zpow x m*zpow x m=zpow x (2*m):=by rw[<- zpow_add,Nat.two_mul]
def qe (x:Zm M):Nat->Zm M
 | 0=>x
 | k+1=>qe x k*qe x k
theorem MI (x:Zm M) (m:Nat):∀ k,qe (zpow x m) k=zpow x (2^k*m):=by
 intro k;induction k with
 | zero=>simp[qe]
 | succ k a=>rw[qe,a,XR,lE];congr 1;rw[lD (2^k) 2,Nat.mul_assoc]
def mU (x:Zm M) (E:Int):Zm M:=Classical.choose (⟨zpow x E.toNat,rfl⟩:∃ y,y=zpow x E.toNat)
theorem zu (x:Zm M) (E:Int):mU x E=zpow x E.toNat:=Classical.choose_spec (⟨zpow x E.toNat,rfl⟩:∃ y,y=zpow x E.toNat)
end
def gB:Nat->Int
 | 0=>1
 | n+1=>16*gB n
theorem vj (n:Nat):0<gB n:=by
 induction n with
 | zero=>decide
 | succ n a=>simp only[gB];omega
theorem Ig (m n:Nat):gB (m+n)=gB m*gB n:=by
 induction m with
 | zero=>simp[gB]
 | succ m a=>rw[Nat.succ_add];simp only[gB,a,dz]
theorem L8 (n:Nat):gB (16*n)=pw n:=by
 induction n with
 | zero=>rfl
 | succ n a=>rw[wZ,oN,Ig,a];rfl
theorem aa3 {m:Nat} (h:m<=16):∃ c:Int,(18446744073709551616:Int)=c*gB m/\0<c:=by refine⟨gB (16-m),?_,vj _⟩;rw[<- Ig,Nat.sub_add_cancel h];rfl
theorem aa4 (n:Nat):gB n=(2:Int)^(4*n):=by
 induction n with
 | zero=>rfl
 | succ n a=>rw[gB,a,wZ,Int.pow_add];rw[gM];rfl
theorem Vi {n:Nat} {N:Int} {i:Nat} (h:i<16*n):((aY n N).getD (n-1-i/16) 0)/gB (15-i%16)%16=N/gB (16*n-1-i)%16:=by
 rw[vh _ _ _ aa];obtain⟨c,e,f⟩:=aa3 (m:=15-i%16+1) aa;have a:gB (16*n-1-i)=pw (n-1-i/16)*gB (15-i%16):=by rw[<- L8,<- Ig];congr 1;omega
 rw[a,<- nj (eJ (we _))];generalize N/pw (n-1-i/16)=A;have g:=vj (15-i%16);rw[e,show gB (15-i%16+1)=16*gB (15-i%16) from rfl];generalize gB (15-i%16)=P at *;have b:A%(c*(16*P))=A%(P*(16*c)):=by congr 1;rw[gM c,gM 16 P,dz]
 rw[b];have d:A%(P*(16*c))/P=(A/P)%(16*c):=by rw[tV,tV,dz,<- Int.sub_mul_ediv_left _ _ (show P≠0 by omega),<- nj (eJ g)]
 rw[d,Bm _ ⟨c,rfl⟩]
theorem FO {N:Int} (h:0<=N) (k:Nat):(N/gB k).toNat=16*(N/gB (k+1)).toNat+(N/gB k%16).toNat:=by
 have e:N/gB (k+1)=N/gB k/16:=by rw[show gB (k+1)=gB k*16 from by rw[gB,gM],nj (eJ (vj k))]
 have a:0<=N/gB k:=wV h (eJ (vj k));rw[e];omega
end Cr
namespace Go.Eng
open Go.IntKind(i64 u64 u8)
open Go.IntKind(i64)
def pj (n i:Int):Int:=IntKind.i64.wrap (n-IntKind.i64.wrap (i.tdiv 16))
def Pc (i:Int):Int:=IntKind.i64.wrap (60-IntKind.i64.wrap (4*i.tmod 16))
def mQ (n:Int) (a:List Int) (i:Int):Int:=aD .and .u64 (Int.fdiv (a.getD (pj n i).toNat 0) (2^min (Pc i).toNat IntKind.u64.bits)) 15
theorem U0 (n m:Nat) (d:n<18446744073709551616) (c:m<18446744073709551616):aD .and .u64 n m=((n &&& m:Nat):Int):=by
 show IntKind.u64.wrap ((BitVec.ofInt 64 n &&& BitVec.ofInt 64 m:BitVec 64).toNat:Int)=_;have a:(BitVec.ofInt 64 (n:Int)).toNat=n:=by rw[show BitVec.ofInt 64 (n:Int)=BitVec.ofNat 64 n from tH ..,qG,hY aa]
 have b:(BitVec.ofInt 64 (m:Int)).toNat=m:=by rw[show BitVec.ofInt 64 (m:Int)=BitVec.ofNat 64 m from tH ..,qG,hY aa]
 rw[wT,a,b,xP];have:=Nat.and_le_left (n:=n) (m:=m);omega
theorem abX {a:Int} (b:0<=a) (c:a<18446744073709551616):aD .and .u64 a 15=a%16:=by obtain⟨n,rfl⟩:=jU b;have:=U0 n 15 aa aa;rw[show ((15:Nat):Int)=15 from rfl] at this;rw[this];have h:=Ba n 4;rw[show 2^4-1=15 from rfl] at h;rw[h];omega
theorem YK {n k:Nat} (h:k<16*(n+1)) (b:n<1000):pj n k=((n-k/16:Nat):Int):=by unfold pj;rw[sE aa,ba (a:=(k:Int)/16) aa aa,ba aa aa];omega
theorem TT {k:Nat}:Pc k=((4*(15-k%16):Nat):Int):=by unfold Pc;rw[ni aa,ba (a:=4*((k:Int)%16)) aa aa,ba aa aa];omega
theorem Dp {n k:Nat} {N:Int} (h:k<16*(n+1)) (d:n<1000):mQ n (aY (n+1) N) k=N/gB (16*(n+1)-1-k)%16:=by
 unfold mQ;rw[YK h d,TT];simp only[aF];rw[show IntKind.u64.bits=64 from rfl,iU aa,<- aa4,sD _ (eJ (vj _))];have a:0<=(aY (n+1) N).getD (n-k/16) 0/\(aY (n+1) N).getD (n-k/16) 0<18446744073709551616:=by rw[vh _ _ _ aa];omega
 have e:=vj (15-k%16);have b:=wV a.1 (eJ e);have f:=Int.ediv_le_self (gB (15-k%16)) a.1;rw[abX b aa];have:=Vi (n:=n+1) (N:=N) (i:=k) h;rw[show n+1-1-k/16=n-k/16 by omega] at this;exact this
theorem O8 {n k:Nat} (h:k<16*(n+1)) (a:n<1000):(0<=pj n k/\pj n k<((n+1:Nat):Int))/\(pj n k).toNat<n+1/\0<=Pc k:=by rw[YK h a,TT];exact⟨⟨aa,aa⟩,aa,aa⟩
def eY {a:Type} (f:Nat->a) (z:a) (k:Nat):List a:=(range 16).map fun j=>if j<=k then f j else z
theorem rl {a:Type} (f:Nat->a) (z d:a) {k j:Nat} (h:j<=k) (b:j<16):(eY f z k).getD j d=f j:=by simp[eY,b,h]
theorem CT {a:Type} (f:Nat->a) (z:a) {k:Nat}:(eY f z k).set (k+1) (f (k+1))=eY f z (k+1):=by apply mW;simp[eY];intro i b d;rw[List.getElem_set];split;rename_i e;subst e;simp[eY];rename_i e;simp only[eY,wS,Bq];by_cases h:i<=k;rw[ak h,ak aa];rw[ai h,ai aa]
end Go.Eng
namespace Go.Proofs.YtofofalgjibokaaGreatDoor
namespace fp
open Go.IntKind(i64 u64 u8)
open Go.IntKind(i64)
theorem BU:enters Tryz.prog 172 Tryz.f172:=ek
def te (x:Fp) (a:List Int) (g:Int × List Fp):St:=av Tryz.f172.ntmps 64 [(2,ao 0 0),(3,ao 8 0),(4,ao 16 0),(5,ao 24 0),(11,sI .i64 g.1)] [(0,[.row .fp 1 [x]]),(8,[.ints .u64 6 a]),(16,[.row .fp 1 [(0:Fp)]]),(24,[.row .fp 16 g.2])]
def o8 (a:List Int) (b:List Fp) (g:Int × Fp):St:=av Tryz.f172.ntmps 96 [(3,ao 8 0),(4,ao 16 0),(5,ao 24 0),(7,ao 72 0),(24,sI .i64 g.1)] [(8,[.ints .u64 6 a]),(16,[.row .fp 1 [(0:Fp)]]),(24,[.row .fp 16 b]),(72,[.row .fp 1 [g.2]])]
def tf (a:List Int) (b:List Fp) (i:Int) (g:Int × Fp):St:=av Tryz.f172.ntmps 128 [(3,ao 8 0),(4,ao 16 0),(5,ao 24 0),(7,ao 72 0),(8,sI .i64 i),(24,sI .i64 i),(27,sI .i64 g.1)] [(8,[.ints .u64 6 a]),(16,[.row .fp 1 [(0:Fp)]]),(24,[.row .fp 16 b]),(72,[.row .fp 1 [g.2]])]
def Mg (a:List Int) (b:List Fp) (i:Int) (y:Fp):St:=av Tryz.f172.ntmps 104 [(3,ao 8 0),(4,ao 16 0),(5,ao 24 0),(7,ao 72 0),(24,sI .i64 i)] [(8,[.ints .u64 6 a]),(16,[.row .fp 1 [(0:Fp)]]),(24,[.row .fp 16 b]),(72,[.row .fp 1 [y]])]
abbrev pd:HL [.fp,(.arr 6 (.int .u64))]->Prop:=fun (_,a,_)=>Ws a
abbrev qA:HL [.fp,(.arr 6 (.int .u64))]->HO [.val .fp]:=fun (x,a,_)=>(mU (x:Fp) (val a),())
theorem zK:aO Tryz.prog 172 [.fp,(.arr 6 (.int .u64))] [.val .fp] bB pd qA:=by
 have d:aJ Tryz.prog (aU [uY,kx,fN]):=aM (aR B7) (aM (aR nR) (aM (aR js) bD));refine bL (sp:=aU [uY,kx,fN]) BU ae ae ab ?_;rintro w E ⟨x,a,⟨⟩⟩ ⟨_,⟨q,_⟩,_⟩ l;have q:length a=6:=q;have l:Ws a:=l;have t:=eE l;have r:val a<gB 96:=by have:=zr l;rw[q] at this;rw[show 96=16*6 from rfl,L8];exact this
 have f:a=aY 6 (val a):=by have:=sY l;rw[q] at this;exact this.symm
 show Tr _ _ _ _ _ _ _;refine bh d mixed 4 (te x a (0,(replicate 16 (0:Fp)).set 0 1)) True ?_ (fun _=>?_);refine aq (X:=True/\(0:Nat)<16/\(te x a (0,(replicate 16 (0:Fp)).set 0 1)).ah True) ab ⟨trivial,ae,au trivial⟩;rw[show (replicate 16 (0:Fp)).set 0 1=eY (zpow x) 0 0 from rfl];refine fP d mixed (te x a) (fun k=>((k:Int),eY (zpow x) 0 k)) 15 (fun g=>(i64.wrap (g.1+1),g.2.set (i64.wrap (g.1+1)).toNat (g.2.getD g.1.toNat 0*x))) (te x a) (c:=ar (al Tryz.f172) 4) ab ab (ay ab ab trivial)
  (fun k D=>by
   show (_,_)=(_,_)
   rw[aS aa,aF,aF,rl _ _ _ (aI k) aa,show zpow x k*x=zpow x (k+1) from rfl,CT]) ?_ ?_
 ·intro k D
  refine aq (X:=((decide ((k:Int)<15)=true->(0<=(k:Int)/\(k:Int)<((16:Nat):Int))/\(k:Int).toNat<16/\True/\(0<=i64.wrap ((k:Int)+1)/\i64.wrap ((k:Int)+1)<((16:Nat):Int))/\(i64.wrap ((k:Int)+1)).toNat<16 /\
    (te x a (i64.wrap ((k:Int)+1),(eY (zpow x) 0 k).set (i64.wrap ((k:Int)+1)).toNat ((eY (zpow x) 0 k).getD (k:Int).toNat 0*x))).ah (k<15)) /\
   (decide ((k:Int)<15)=false->(te x a ((k:Int),eY (zpow x) 0 k)).ah (k=15)))) ab ?_
  refine⟨fun h=>?_,fun h=>au (by have:=bX h;omega)⟩;have e:k<15:=by have:=dec_lt h;omega
  rw[aS aa];exact⟨⟨aa,aa⟩,aa,trivial,⟨aa,aa⟩,aa,au e⟩
 generalize o:eY (zpow x) 0 15=b;have m:∀ j,j<16->b.getD j 0=zpow x j:=fun j s=>by rw[<- o];exact rl _ _ _ aa s
 clear o;refine bh d mixed 2 (o8 a b (0,1)) True ?_ (fun _=>?_);refine aq (X:=True/\(o8 a b (0,1)).ah True) ab ⟨trivial,au trivial⟩
 rw[show ((0:Int),(1:Fp))=(((0:Nat):Int),zpow x (val a/gB (96-0)).toNat) by
  rw[Nat.sub_zero,Bg t r];rfl]
 refine xL (o8 a b) (fun i=>((i:Int),zpow x (val a/gB (96-i)).toNat)) 96 (fun g=>(i64.wrap (g.1+1),qe g.2 4*b.getD (mQ (5:Nat) a g.1).toNat 0)) (o8 a b) (c:=ar (al Tryz.f172) 7) ab ab (ay ab ab trivial)
  (fun i u=>by
   show (_,_)=(_,_);rw[aS aa,f,Dp (n:=5) u aa,<- f];rw[m _ aa,MI,<- zpow_add];congr 2;have:=FO t (96-1-i)
   rw[show 96-(i+1)=96-1-i by omega,this,show 96-1-i+1=96-i by omega]) ?_ ?_
 ·intro i u;generalize zpow x (val a/gB (96-i)).toNat=y;refine bh d mixed 2 (Mg a b (i:Int) y) (i<96) ?_ (fun e=>?_);refine aq (X:=((decide ((i:Int)<96)=true->(Mg a b (i:Int) y).ah (i<96))/\(decide ((i:Int)<96)=false->(o8 a b ((i:Int),y)).ah (i=96)))) ab ?_;exact⟨fun h=>au (by have:=dec_lt h;omega),fun h=>au (by have:=bX h;omega)⟩;refine mn (c:=ar (aV (ar (al Tryz.f172) 7)) 2) ab ab ?_;refine bh d mixed 2 (tf a b (i:Int) (0,y)) True ?_ (fun _=>?_);refine aq (X:=(tf a b (i:Int) (0,y)).ah True) ab (au trivial);refine fP d mixed (tf a b (i:Int)) (fun j=>((j:Int),qe y j)) 4 (fun g=>(i64.wrap (g.1+1),g.2*g.2)) (tf a b (i:Int)) (c:=ar (cV (ar (aV (ar (al Tryz.f172) 7)) 2)) 2) ab ab (ay ab ab trivial)
   (fun j s=>by show (_,_)=(_,_);rw[aS aa];rfl) ?_ ?_
  intro j s;refine aq (X:=((decide ((j:Int)<4)=true->True/\(tf a b (i:Int) (i64.wrap ((j:Int)+1),qe y j*qe y j)).ah (j<4))/\(decide ((j:Int)<4)=false->(tf a b (i:Int) ((j:Int),qe y j)).ah (j=4)))) ab ?_;exact⟨fun h=>⟨trivial,au (by have:=dec_lt h;omega)⟩,fun h=>au (by have:=bX h;omega)⟩;refine bh d mixed 1 (o8 a b ((i:Int),qe y 4*b.getD (mQ (5:Nat) a i).toNat 0)) True ?_ (fun _=>?_)
  ·refine aq (X:=((16:Int)≠0/\(0<=pj (5:Nat) i/\pj (5:Nat) i<((6:Nat):Int))/\(pj (5:Nat) i).toNat<6/\(16:Int)≠0/\0<=Pc i/\(0<=mQ (5:Nat) a i/\mQ (5:Nat) a i<((16:Nat):Int))/\(mQ (5:Nat) a i).toNat<16/\True/\(o8 a b ((i:Int),qe y 4*b.getD (mQ (5:Nat) a i).toNat 0)).ah True)) ab ?_;obtain⟨z,A,C⟩:=O8 (n:=5) e aa;have b4:0<=mQ (5:Nat) a i/\mQ (5:Nat) a i<16:=by
    rw[f,Dp (n:=5) e aa];omega
   exact⟨ae,z,A,ae,C,b4,aa,trivial,au trivial⟩
  refine kk ?_;refine bJ d mixed _ _ ?_;refine aq (X:=(o8 a b (i64.wrap ((i:Int)+1),qe y 4*b.getD (mQ (5:Nat) a i).toNat 0)).ah (i<96)) ab (au e)
 refine bJ d mixed _ _ ?_;refine aq (X:=(zpow x (val a/gB (96-96)).toNat,())=qA (x,a,())) ab ?_;rw[oO,gB,Int.ediv_one,<- zu]
def zj:Nat × Eng.Spec:=(172,aK [.fp,(.arr 6 (.int .u64))] [.val .fp] pd qA)
theorem HI:enters Tryz.prog 140 Tryz.f140:=ek
def sk (x:Fp):Fp:=mU x 4002409555221667393417789825735904156556882819939007885332058136124031650490837864442687629129015664037894272559785
abbrev vU:HL [.fp]->HO [.val .fp]:=fun (x,_)=>(sk (x:Fp),())
theorem IJ:val [13402431016077863593,2210141511517208575,7435674573564081700,7239337960414712511,5412103778470702295,1873798617647539866]=4002409555221667393417789825735904156556882819939007885332058136124031650490837864442687629129015664037894272559785:=ae
theorem K1:aO Tryz.prog 140 [.fp] [.val .fp] bB (fun _=>True) vU:=by refine bg (sp:=aU [zj]) (aM (aR zK) bD) mixed HI ae ae ?_;rintro w b ⟨x,⟨⟩⟩ _ _;refine aq (X:=(pd (x,[13402431016077863593,2210141511517208575,7435674573564081700,7239337960414712511,5412103778470702295,1873798617647539866],())/\(mU x (val [13402431016077863593,2210141511517208575,7435674573564081700,7239337960414712511,5412103778470702295,1873798617647539866]),())=vU (x,()))) ab ?_;refine⟨?_,?_⟩;intro y a;simp at a;rcases a with rfl|rfl|rfl|rfl|rfl|rfl<;>exact⟨ae,ae⟩;rw[IJ];rfl
def Kk:Nat × Eng.Spec:=(140,aK [.fp] [.val .fp] (fun _=>True) vU)
end fp
end Go.Proofs.YtofofalgjibokaaGreatDoor
namespace Cr
open Go.IntKind(i64 u64 u8)
open Go.IntKind(i64)
class Rg (F:Type) extends Add F,Mul F,Neg F,Sub F,Zero F,One F where
 add_comm:∀ a b:F,a+b=b+a
 add_assoc:∀ a b c:F,a+b+c=a+(b+c)
 zero_add:∀ a:F,0+a=a
 neg_add:∀ a:F,-a+a=0
 sub_def:∀ a b:F,a-b=a + -b
 mul_comm:∀ a b:F,a*b=b*a
 mul_assoc:∀ a b c:F,a*b*c=a*(b*c)
 one_mul:∀ a:F,1*a=a
 add_mul:∀ a b c:F,(a+b)*c=a*c+b*c
namespace Rg
section
variable {F:Type} [Rg F]
theorem add_zero (a:F):a+0=a:=by rw[add_comm,zero_add]
theorem add_neg (a:F):a + -a=0:=by rw[add_comm,neg_add]
theorem mul_one (a:F):a*1=a:=by rw[mul_comm,one_mul]
theorem mul_add (a b c:F):a*(b+c)=a*b+a*c:=by rw[mul_comm,add_mul,mul_comm b,mul_comm c]
theorem UZ {a b c:F} (h:a+b=a+c):b=c:=by have:=congrArg (fun x => -a+x) h;simpa only[<- add_assoc,neg_add,zero_add] using this
theorem zero_mul (a:F):0*a=0:=by
 have h:0*a+0*a=0*a+0:=by rw[<- add_mul,add_zero,add_zero]
 exact UZ h
theorem mul_zero (a:F):a*0=0:=by rw[mul_comm,zero_mul]
theorem neg_eq {a b:F} (h:a+b=0) : -a=b:=by
 have : -a+(a+b)=-a+0:=by rw[h]
 rw[<- add_assoc,neg_add,zero_add,add_zero] at this;exact this.symm
theorem neg_mul (a b:F) : -a*b=-(a*b):=by refine (neg_eq ?_).symm;rw[<- add_mul,add_neg,zero_mul]
theorem mul_neg (a b:F):a * -b=-(a*b):=by rw[mul_comm,neg_mul,mul_comm]
theorem neg_neg (a:F) : - -a=a:=neg_eq (neg_add a)
theorem neg_zero : -(0:F)=0:=neg_eq (zero_add 0)
theorem D7 (a b:F) : -(a+b)=-a + -b:=by refine neg_eq ?_;rw[add_assoc,<- add_assoc b,add_comm b,add_assoc (-a),add_neg,add_zero,add_neg]
theorem sub_self (a:F):a-a=0:=by rw[sub_def,add_neg]
theorem dc {a b:F} (h:a-b=0):a=b:=by rw[sub_def,add_comm] at h;have:=neg_eq h;rw[neg_neg] at this;exact this.symm
theorem eU {a b:F} (h:a=b):a-b=0:=by rw[h,sub_self]
theorem DR (a b c d:F):a+b+(c+d)=a+c+(b+d):=by rw[add_assoc,add_assoc,<- add_assoc b,add_comm b c,add_assoc c]
def nc:Nat->F
 | 0=>0
 | n+1=>nc n+1
theorem vQ (m n:Nat):nc (m+n)=(nc m+nc n:F):=by
 induction n with
 | zero=>exact (add_zero _).symm
 | succ n b=>show nc (m+n)+1=nc m+(nc n+1);rw[b,add_assoc]
theorem Gn (m n:Nat):nc (m*n)=(nc m*nc n:F):=by
 induction n with
 | zero=>exact (mul_zero _).symm
 | succ n a=>show nc (m*n+m)=nc m*(nc n+1);rw[vQ,a,mul_add,mul_one]
def ic (a:Int):F:=nc a.toNat + -nc (-a).toNat
theorem Ys {a:Int} {x y:Nat} (h:a=(x:Int)-y):ic a=(nc x + -nc y:F):=by
 unfold ic;have e:a.toNat+y=x+(-a).toNat:=aa;have b:(nc a.toNat+nc y:F)=nc x+nc (-a).toNat:=by rw[<- vQ,<- vQ,e]
 generalize (nc a.toNat:F)=p at *;generalize (nc (-a).toNat:F)=q at *;generalize (nc x:F)=u at *;generalize (nc y:F)=v at *;have:p=u+q + -v:=by rw[<- b,add_assoc,add_neg,add_zero]
 rw[this,add_assoc,add_assoc,add_comm (-v),<- add_assoc q,add_neg,zero_add]
theorem Lt (a:Int):a=(a.toNat:Int)-((-a).toNat:Nat):=aa
theorem adT (a b:Int):ic (a+b)=(ic a+ic b:F):=by rw[Ys (a:=a+b) (x:=a.toNat+b.toNat) (y:=(-a).toNat+(-b).toNat) aa,vQ,vQ,D7];exact DR _ _ _ _
theorem Tj (a b:Int):ic (a*b)=(ic a*ic b:F):=by
 have h:a*b=((a.toNat*b.toNat+(-a).toNat*(-b).toNat:Nat):Int)-((a.toNat*(-b).toNat+(-a).toNat*b.toNat:Nat):Int):=by
  conv=>lhs;rw[Lt a,Lt b]
  simp only[Int.natCast_add,wU,Int.sub_mul,Int.mul_sub];omega
 rw[Ys h];unfold ic;generalize c:(nc a.toNat:F)=p;generalize d:(nc (-a).toNat:F)=q;generalize e:(nc b.toNat:F)=u;generalize f:(nc (-b).toNat:F)=v;rw[vQ,vQ,Gn,Gn,Gn,Gn,c,d,e,f,add_mul,mul_add,mul_add,mul_neg,neg_mul,neg_mul,mul_neg,neg_neg,D7];rw[DR (p*u) (q*v),add_comm (q*v)]
theorem Tk:ic 1=(1:F):=by show (0+1:F) + -0=1;rw[zero_add,neg_zero,add_zero]
theorem aaD:ic 0=(0:F):=by show (0:F) + -0=0;rw[zero_add,neg_zero]
theorem F8:ic (-1)=(-1:F):=by show (0:F) + -(0+1)=-1;rw[zero_add,zero_add]
end
end Rg
inductive PE
 | v (i:Nat)
 | one
 | zero
 | add (a b:PE)
 | mul (a b:PE)
 | sub (a b:PE)
 | neg (a:PE)
instance : Add PE := ⟨.add⟩
instance : Mul PE := ⟨.mul⟩
instance : Sub PE := ⟨.sub⟩
instance : Neg PE := ⟨.neg⟩
instance : One PE := ⟨.one⟩
instance : Zero PE := ⟨.zero⟩
def nth {F:Type} [Zero F]:List F->Nat->F
 | [],_=>0
 | x::_,0=>x
 | _::l,n+1=>nth l n
def PE.ev {F:Type} [Rg F] (l:List F):PE->F
 | .v i=>nth l i
 | .one=>1
 | .zero=>0
 | .add a b=>a.ev l+b.ev l
 | .mul a b=>a.ev l*b.ev l
 | .sub a b=>a.ev l-b.ev l
 | .neg a => -a.ev l
abbrev Mo:=List Nat
abbrev Po:=List (Mo × Int)
def HX (i:Nat):Mo->Mo
 | []=>[i]
 | j::l=>match ble i j with
  | true=>i::j::l
  | false=>j::HX i l
def mulM:Mo->Mo->Mo
 | [],m=>m
 | i::l,m=>HX i (mulM l m)
def Om:Mo->Mo->Bool
 | [],[]=>true
 | i::l,j::m=>match beq i j with
  | true=>Om l m
  | false=>false
 | _,_=>false
def ltM:Mo->Mo->Bool
 | [],[]=>false
 | [],_=>true
 | _,[]=>false
 | i::l,j::m=>match beq i j with
  | true=>ltM l m
  | false=>blt i j
def BC (m:Mo) (c:Int):Po->Po
 | []=>[(m,c)]
 | t::p=>match Om m t.1 with
  | true=>(m,c+t.2)::p
  | false=>match ltM m t.1 with
   | true=>(m,c)::t::p
   | false=>t::BC m c p
def Eo:Po->Po->Po
 | [],q=>q
 | t::p,q=>BC t.1 t.2 (Eo p q)
def LN (m:Mo) (c:Int):Po->Po->Po
 | [],a=>a
 | t::q,a=>BC (mulM m t.1) (c*t.2) (LN m c q a)
def LM:Po->Po->Po
 | [],_=>[]
 | t::p,q=>LN t.1 t.2 q (LM p q)
def My (c:Int):Po->Po
 | []=>[]
 | t::p=>(t.1,c*t.2)::My c p
def PE.nf:PE->Po
 | .v i=>[([i],1)]
 | .one=>[([],1)]
 | .zero=>[]
 | .add a b=>Eo a.nf b.nf
 | .mul a b=>LM a.nf b.nf
 | .sub a b=>Eo (My (-1) b.nf) a.nf
 | .neg a=>My (-1) a.nf
def Yt:Po->Bool
 | []=>true
 | t::p=>match t.2 with
  | .ofNat 0=>Yt p
  | _=>false
open Rg
section
variable {F:Type} [Rg F] (l:List F)
def lH:Mo->F
 | []=>1
 | i::m=>nth l i*lH m
def jd:Po->F
 | []=>0
 | t::p=>ic t.2*lH l t.1+jd p
theorem aaG (i:Nat):∀ m:Mo,lH l (HX i m)=nth l i*lH l m:=by
 intro m;induction m with
 | nil=>rfl
 | cons j m a =>unfold HX;split;rfl;show nth l j*lH l (HX i m)=nth l i*(nth l j*lH l m);rw[a,<- mul_assoc,<- mul_assoc,mul_comm (nth l j)]
theorem aaN:∀ a m:Mo,lH l (mulM a m)=lH l a*lH l m:=by
 intro a;induction a with
 | nil=>intro m;exact (one_mul _).symm
 | cons i a b=>intro m;show lH l (HX i (mulM a m))=nth l i*lH l a*lH l m;rw[aaG,b,mul_assoc]
theorem aco:∀ {a b:Mo},Om a b=true->a=b:=by
 intro a;induction a with
 | nil=>intro b h;cases b with
  | nil=>rfl
  | cons j m=>simp[Om] at h
 | cons i a d=>intro b h;cases b with
  | nil=>simp[Om] at h
  | cons j m =>unfold Om at h;split at h;rename_i c;rw[fa c,d h];cases h
theorem NT (m:Mo) (c:Int):∀ p:Po,jd l (BC m c p)=ic c*lH l m+jd l p:=by
 intro p;induction p with
 | nil=>rfl
 | cons t p a =>unfold BC;split;rename_i h;show ic (c+t.2)*lH l m+jd l p=ic c*lH l m+(ic t.2*lH l t.1+jd l p);rw[aco h,adT,add_mul,add_assoc];split;rfl;show ic t.2*lH l t.1+jd l (BC m c p)=ic c*lH l m+(ic t.2*lH l t.1+jd l p);rw[a,<- add_assoc,<- add_assoc,add_comm (ic t.2*lH l t.1)]
theorem NS:∀ p q:Po,jd l (Eo p q)=jd l p+jd l q:=by
 intro p;induction p with
 | nil=>intro q;exact (zero_add _).symm
 | cons t p a=>intro q;show jd l (BC t.1 t.2 (Eo p q))=_;rw[NT,a];exact (add_assoc _ _ _).symm
theorem aaP (m:Mo) (c:Int):∀ q a:Po,jd l (LN m c q a)=ic c*lH l m*jd l q+jd l a:=by
 intro q;induction q with
 | nil=>intro a;show jd l a=ic c*lH l m*0+jd l a;rw[mul_zero,zero_add]
 | cons t q b =>intro a;show jd l (BC (mulM m t.1) (c*t.2) (LN m c q a))=ic c*lH l m*(ic t.2*lH l t.1+jd l q)+jd l a;rw[NT,b,aaN,Tj,mul_add,add_assoc];congr 1;rw[mul_assoc,mul_assoc,<- mul_assoc (ic t.2),mul_comm (ic t.2),mul_assoc (lH l m)]
theorem aaO:∀ p q:Po,jd l (LM p q)=jd l p*jd l q:=by
 intro p;induction p with
 | nil=>intro q;exact (zero_mul _).symm
 | cons t p a=>intro q;show jd l (LN t.1 t.2 q (LM p q))=(ic t.2*lH l t.1+jd l p)*jd l q;rw[aaP,a,add_mul]
theorem Ue (c:Int):∀ p:Po,jd l (My c p)=ic c*jd l p:=by
 intro p;induction p with
 | nil=>exact (mul_zero _).symm
 | cons t p a=>show ic (c*t.2)*lH l t.1+jd l (My c p)=ic c*(ic t.2*lH l t.1+jd l p);rw[a,Tj,mul_add,mul_assoc]
theorem afT:∀ e:PE,jd l e.nf=e.ev l:=by
 intro e;induction e with
 | v i=>show ic 1*(nth l i*1)+0=nth l i;rw[Tk,add_zero,one_mul,mul_one]
 | one=>show ic 1*1+0=(1:F);rw[Tk,add_zero,one_mul]
 | zero=>rfl
 | add a b c d=>show jd l (Eo a.nf b.nf)=a.ev l+b.ev l;rw[NS,c,d]
 | mul a b c d=>show jd l (LM a.nf b.nf)=a.ev l*b.ev l;rw[aaO,c,d]
 | sub a b c d=>show jd l (Eo (My (-1) b.nf) a.nf)=a.ev l-b.ev l;rw[NS,Ue,c,d,F8,neg_mul,one_mul,sub_def,add_comm]
 | neg a c=>show jd l (My (-1) a.nf)=-a.ev l;rw[Ue,c,F8,neg_mul,one_mul]
theorem adX:∀ {p:Po},Yt p=true->jd l p=0:=by
 intro p;induction p with
 | nil=>intro _;rfl
 | cons t p b =>intro h;obtain⟨m,c⟩:=t;unfold Yt at h;split at h;rename_i a;have a:c=0:=a;show ic c*lH l m+jd l p=0;rw[a,aaD,zero_mul,zero_add,b h];cases h
theorem rid (a b:PE) (h:Yt (PE.nf (.sub a b))=true):a.ev l=b.ev l:=by have:=adX l h;rw[afT] at this;exact dc this
end
class Fd (F:Type) extends Rg F where
 deq:DecidableEq F
 inv:F->F
 mul_inv:∀ a:F,a≠0->a*inv a=1
 one_ne:(1:F)≠0
 two_ne:(1+1:F)≠0
 three_ne:(1+1+1:F)≠0
attribute [instance_reducible,instance] Fd.deq
namespace Fd
section
variable {F:Type} [Fd F]
theorem mul_eq_zero {a b:F} (h:a*b=0):a=0\/b=0:=by
 by_cases c:a=0;exact .inl c
 ·right;have:inv a*(a*b)=0:=by rw[h,mul_zero]
  rwa [<- mul_assoc,mul_comm (inv a),mul_inv a c,one_mul] at this
theorem o3 {a b:F} (c:a≠0) (d:b≠0):a*b≠0:=fun h=>(mul_eq_zero h).elim c d
theorem mul_left {a b c:F} (d:a≠0) (h:a*b=a*c):b=c:=by
 have:inv a*(a*b)=inv a*(a*c):=by rw[h]
 rwa [<- mul_assoc,<- mul_assoc,mul_comm (inv a),mul_inv a d,one_mul,one_mul] at this
theorem yE {a:F} (h:a+a=0):a=0:=by
 have:(1+1)*a=0:=by rw[add_mul,one_mul];exact h
 exact (mul_eq_zero this).resolve_left two_ne
theorem G7 {a b:F} (h:a≠b):a-b≠0:=fun e=>h (dc e)
end
end Fd
open Fd
def On {F:Type} [Rg F] (b x y:F):Prop:=y*y=x*x*x+b
def Ln {F:Type} [Rg F] (a d c e l:F):Prop:=l*(c-a)=e-d/\l*(d+e)=a*a+a*c+c*c
def sx {F:Type} [Rg F] (a d l:F):F:=l*l-a-d
def sy {F:Type} [Rg F] (a e d l:F):F:=-(e+l*(sx a d l-a))
section
variable {F:Type} [Rg F]
theorem Ci {a b p q:F} (c:F) (h:a-b=c*(p-q)) (d:p=q):a=b:=by rw[eU d,mul_zero] at h;exact dc h
theorem LF {a b p q d e:F} (c f:F) (h:a-b=c*(p-q)+f*(d-e)) (g:p=q) (i:d=e):a=b:=by rw[eU g,eU i,mul_zero,mul_zero,zero_add] at h;exact dc h
theorem lc3 {a b p q g i d e:F} (c j f:F) (h:a-b=c*(p-q)+j*(g-i)+f*(d-e)) (k:p=q) (l:g=i) (m:d=e):a=b:=by rw[eU k,eU l,eU m,mul_zero,mul_zero,mul_zero,zero_add,zero_add] at h;exact dc h
theorem lc4 {a b p q i j e f u v:F} (c k g d:F) (h:a-b=c*(p-q)+k*(i-j)+g*(e-f)+d*(u-v)) (l:p=q) (m:i=j) (n:e=f) (o:u=v):a=b:=by rw[eU l,eU m,eU n,eU o,mul_zero,mul_zero,mul_zero,mul_zero,zero_add,zero_add,zero_add] at h;exact dc h
end
theorem adN {F:Type} [Rg F] (a d c e l x b:F):(d+l*(x-a))*(d+l*(x-a))-(x*x*x+b)=1*(d*d-(a*a*a+b))+(x-a)*(l*(d+e)-(a*a+a*c+c*c))+(x-a)*l*(l*(c-a)-(e-d))+(x-a)*(x-c)*((l*l-a-c)-x) :=
 rid [a,d,c,e,l,x,b] ((fun (a d c e l x b:PE)=>((d+l*(x-a))*(d+l*(x-a))-(x*x*x+b))) (.v 0) (.v 1) (.v 2) (.v 3) (.v 4) (.v 5) (.v 6)) ((fun (a d c e l x b:PE)=>(1*(d*d-(a*a*a+b))+(x-a)*(l*(d+e)-(a*a+a*c+c*c))+(x-a)*l*(l*(c-a)-(e-d))+(x-a)*(x-c)*((l*l-a-c)-x))) (.v 0) (.v 1) (.v 2) (.v 3) (.v 4) (.v 5) (.v 6)) ab
theorem Ti {F:Type} [Rg F] (a:F):(- a)*(- a)=a*a :=
 rid [a] ((fun (a:PE)=>((- a)*(- a))) (.v 0)) ((fun (a:PE)=>(a*a)) (.v 0)) ab
theorem aaC {F:Type} [Rg F] (a d c e l:F):l*(d + - -(d+l*((l*l-a-c)-a)))-(a*a+a*(l*l-a-c)+(l*l-a-c)*(l*l-a-c))=1*(l*(d+e)-(a*a+a*c+c*c))+l*(l*(c-a)-(e-d)) :=
 rid [a,d,c,e,l] ((fun (a d c e l:PE)=>(l*(d + - -(d+l*((l*l-a-c)-a)))-(a*a+a*(l*l-a-c)+(l*l-a-c)*(l*l-a-c)))) (.v 0) (.v 1) (.v 2) (.v 3) (.v 4)) ((fun (a d c e l:PE)=>(1*(l*(d+e)-(a*a+a*c+c*c))+l*(l*(c-a)-(e-d)))) (.v 0) (.v 1) (.v 2) (.v 3) (.v 4)) ab
theorem Wi {F:Type} [Rg F] (a d c l:F):l*((l*l-a-c)-a)=- -(d+l*((l*l-a-c)-a))-d :=
 rid [a,d,c,l] ((fun (a d c l:PE)=>(l*((l*l-a-c)-a))) (.v 0) (.v 1) (.v 2) (.v 3)) ((fun (a d c l:PE)=>(- -(d+l*((l*l-a-c)-a))-d)) (.v 0) (.v 1) (.v 2) (.v 3)) ab
theorem adR {F:Type} [Rg F] (a c l:F):l*l-a-c=l*l-c-a :=
 rid [a,c,l] ((fun (a c l:PE)=>(l*l-a-c)) (.v 0) (.v 1) (.v 2)) ((fun (a c l:PE)=>(l*l-c-a)) (.v 0) (.v 1) (.v 2)) ab
theorem adS {F:Type} [Rg F] (a d c e l:F) : -(d+l*((l*l-a-c)-a)) - -(e+l*((l*l-c-a)-c))=(-1)*(l*(c-a)-(e-d)) :=
 rid [a,d,c,e,l] ((fun (a d c e l:PE)=>(-(d+l*((l*l-a-c)-a)) - -(e+l*((l*l-c-a)-c)))) (.v 0) (.v 1) (.v 2) (.v 3) (.v 4)) ((fun (a d c e l:PE)=>((-1)*(l*(c-a)-(e-d)))) (.v 0) (.v 1) (.v 2) (.v 3) (.v 4)) ab
theorem adP {F:Type} [Rg F] (a d c e l:F):l*(a-c)-(d-e)=(-1)*(l*(c-a)-(e-d)) :=
 rid [a,d,c,e,l] ((fun (a d c e l:PE)=>(l*(a-c)-(d-e))) (.v 0) (.v 1) (.v 2) (.v 3) (.v 4)) ((fun (a d c e l:PE)=>((-1)*(l*(c-a)-(e-d)))) (.v 0) (.v 1) (.v 2) (.v 3) (.v 4)) ab
theorem adQ {F:Type} [Rg F] (a d c e l:F):l*(e+d)-(c*c+c*a+a*a)=1*(l*(d+e)-(a*a+a*c+c*c)) :=
 rid [a,d,c,e,l] ((fun (a d c e l:PE)=>(l*(e+d)-(c*c+c*a+a*a))) (.v 0) (.v 1) (.v 2) (.v 3) (.v 4)) ((fun (a d c e l:PE)=>(1*(l*(d+e)-(a*a+a*c+c*c)))) (.v 0) (.v 1) (.v 2) (.v 3) (.v 4)) ab
theorem aio {F:Type} [Rg F] (x y u v l m:F):(x*x+(u+l*m)*x+(u*u-l*m*u+(l-m)*v)-(l+m)*y)-0=(-1)*(l*(y + -v)-(x*x+x*u+u*u))+(-m)*(l*(u-x)-(-v-y)) :=
 rid [x,y,u,v,l,m] ((fun (x y u v l m:PE)=>((x*x+(u+l*m)*x+(u*u-l*m*u+(l-m)*v)-(l+m)*y)-0)) (.v 0) (.v 1) (.v 2) (.v 3) (.v 4) (.v 5)) ((fun (x y u v l m:PE)=>((-1)*(l*(y + -v)-(x*x+x*u+u*u))+(-m)*(l*(u-x)-(-v-y)))) (.v 0) (.v 1) (.v 2) (.v 3) (.v 4) (.v 5)) ab
theorem aip {F:Type} [Rg F] (x y u v l m:F):(x*x+(u+l*m)*x+(u*u-l*m*u+(l-m)*v)-(l+m)*y)-0=(-1)*(m*(v+y)-(u*u+u*x+x*x))+l*(m*(x-u)-(y-v)) :=
 rid [x,y,u,v,l,m] ((fun (x y u v l m:PE)=>((x*x+(u+l*m)*x+(u*u-l*m*u+(l-m)*v)-(l+m)*y)-0)) (.v 0) (.v 1) (.v 2) (.v 3) (.v 4) (.v 5)) ((fun (x y u v l m:PE)=>((-1)*(m*(v+y)-(u*u+u*x+x*x))+l*(m*(x-u)-(y-v)))) (.v 0) (.v 1) (.v 2) (.v 3) (.v 4) (.v 5)) ab
theorem aaA {F:Type} [Rg F] (a d c e l i b:F):(l*(d+e)-(a*a+a*c+c*c))*(c-a)-0=(d+e)*(l*(c-a)-(e-d))+1*(e*e-(c*c*c+b))+(-1)*(d*d-(a*a*a+b)) :=
 rid [a,d,c,e,l,i,b] ((fun (a d c e l i b:PE)=>((l*(d+e)-(a*a+a*c+c*c))*(c-a)-0)) (.v 0) (.v 1) (.v 2) (.v 3) (.v 4) (.v 5) (.v 6)) ((fun (a d c e l i b:PE)=>((d+e)*(l*(c-a)-(e-d))+1*(e*e-(c*c*c+b))+(-1)*(d*d-(a*a*a+b)))) (.v 0) (.v 1) (.v 2) (.v 3) (.v 4) (.v 5) (.v 6)) ab
theorem QO {F:Type} [Rg F] (a b:F):(a-b)*(a+b)=a*a-b*b :=
 rid [a,b] ((fun (a b:PE)=>((a-b)*(a+b))) (.v 0) (.v 1)) ((fun (a b:PE)=>(a*a-b*b)) (.v 0) (.v 1)) ab
theorem i_h {F:Type} [Rg F] (d j g e k h l a f m c i:F):(g-h)*(l*(c-a)-(i-f))=(c*c+d*c+j-g*i)-(a*a+d*a+j-g*f)-(c*c+e*c+k-h*i)+(a*a+e*a+k-h*f)-(c-a)*(((a+m+d)-g*l)-((a+m+e)-h*l)) :=
 rid [d,j,g,e,k,h,l,a,f,m,c,i] ((fun (d j g e k h l a f m c i:PE)=>((g-h)*(l*(c-a)-(i-f)))) (.v 0) (.v 1) (.v 2) (.v 3) (.v 4) (.v 5) (.v 6) (.v 7) (.v 8) (.v 9) (.v 10) (.v 11)) ((fun (d j g e k h l a f m c i:PE)=>((c*c+d*c+j-g*i)-(a*a+d*a+j-g*f)-(c*c+e*c+k-h*i)+(a*a+e*a+k-h*f)-(c-a)*(((a+m+d)-g*l)-((a+m+e)-h*l)))) (.v 0) (.v 1) (.v 2) (.v 3) (.v 4) (.v 5) (.v 6) (.v 7) (.v 8) (.v 9) (.v 10) (.v 11)) ab
theorem ail {F:Type} [Rg F] (a c g l d e:F):a-c=1*((d+e+a)-g*l)+(-1)*((d+e+c)-g*l) :=
 rid [a,c,g,l,d,e] ((fun (a c g l d e:PE)=>(a-c)) (.v 0) (.v 1) (.v 2) (.v 3) (.v 4) (.v 5)) ((fun (a c g l d e:PE)=>(1*((d+e+a)-g*l)+(-1)*((d+e+c)-g*l))) (.v 0) (.v 1) (.v 2) (.v 3) (.v 4) (.v 5)) ab
theorem aik {F:Type} [Rg F] (c e d g a f:F):c-e=1*((a*a+d*a+c-g*f)-0)+(-1)*((a*a+d*a+e-g*f)-0) :=
 rid [c,e,d,g,a,f] ((fun (c e d g a f:PE)=>(c-e)) (.v 0) (.v 1) (.v 2) (.v 3) (.v 4) (.v 5)) ((fun (c e d g a f:PE)=>(1*((a*a+d*a+c-g*f)-0)+(-1)*((a*a+d*a+e-g*f)-0))) (.v 0) (.v 1) (.v 2) (.v 3) (.v 4) (.v 5)) ab
theorem i_g {F:Type} [Rg F] (d e a f c g:F):(c-a)*(c+a+d)=(c*c+d*c+e-0*g)-(a*a+d*a+e-0*f) :=
 rid [d,e,a,f,c,g] ((fun (d e a f c g:PE)=>((c-a)*(c+a+d))) (.v 0) (.v 1) (.v 2) (.v 3) (.v 4) (.v 5)) ((fun (d e a f c g:PE)=>((c*c+d*c+e-0*g)-(a*a+d*a+e-0*f))) (.v 0) (.v 1) (.v 2) (.v 3) (.v 4) (.v 5)) ab
theorem aiq {F:Type} [Rg F] (a c d e l:F):e-d=1*((e+c+a)-0)+(-1)*((c+d+a)-0*l) :=
 rid [a,c,d,e,l] ((fun (a c d e l:PE)=>(e-d)) (.v 0) (.v 1) (.v 2) (.v 3) (.v 4)) ((fun (a c d e l:PE)=>(1*((e+c+a)-0)+(-1)*((c+d+a)-0*l))) (.v 0) (.v 1) (.v 2) (.v 3) (.v 4)) ab
theorem i_y {F:Type} [Rg F] (c a g x y t:F):g*(y-t)-0=1*((x*x+c*x+a-g * -y)-0)+(-1)*((x*x+c*x+a-g * -t)-0) :=
 rid [c,a,g,x,y,t] ((fun (c a g x y t:PE)=>(g*(y-t)-0)) (.v 0) (.v 1) (.v 2) (.v 3) (.v 4) (.v 5)) ((fun (c a g x y t:PE)=>(1*((x*x+c*x+a-g * -y)-0)+(-1)*((x*x+c*x+a-g * -t)-0))) (.v 0) (.v 1) (.v 2) (.v 3) (.v 4) (.v 5)) ab
theorem aim {F:Type} [Rg F] (a c l:F):(-l)*(-l)-a-(l*l-a-c)=c :=
 rid [a,c,l] ((fun (a c l:PE)=>((-l)*(-l)-a-(l*l-a-c))) (.v 0) (.v 1) (.v 2)) ((fun (a c l:PE)=>(c)) (.v 0) (.v 1) (.v 2)) ab
theorem ain {F:Type} [Rg F] (a d c e l:F) : -(-d + -l*(c-a))-e=1*(l*(c-a)-(e-d)) :=
 rid [a,d,c,e,l] ((fun (a d c e l:PE)=>(-(-d + -l*(c-a))-e)) (.v 0) (.v 1) (.v 2) (.v 3) (.v 4)) ((fun (a d c e l:PE)=>(1*(l*(c-a)-(e-d)))) (.v 0) (.v 1) (.v 2) (.v 3) (.v 4)) ab
theorem aiv {F:Type} [Rg F] (a c u v l:F) : -l*(u-a)-(v - -c)=(-1)*(l*(u-a)-(-v-c)) :=
 rid [a,c,u,v,l] ((fun (a c u v l:PE)=>(-l*(u-a)-(v - -c))) (.v 0) (.v 1) (.v 2) (.v 3) (.v 4)) ((fun (a c u v l:PE)=>((-1)*(l*(u-a)-(-v-c)))) (.v 0) (.v 1) (.v 2) (.v 3) (.v 4)) ab
theorem aiw {F:Type} [Rg F] (a c u v l:F) : -l*(-c+v)-(a*a+a*u+u*u)=1*(l*(c + -v)-(a*a+a*u+u*u)) :=
 rid [a,c,u,v,l] ((fun (a c u v l:PE)=>(-l*(-c+v)-(a*a+a*u+u*u))) (.v 0) (.v 1) (.v 2) (.v 3) (.v 4)) ((fun (a c u v l:PE)=>(1*(l*(c + -v)-(a*a+a*u+u*u)))) (.v 0) (.v 1) (.v 2) (.v 3) (.v 4)) ab
theorem aix {F:Type} [Rg F] (a c d g l f h e:F):(c-a)*((a+c+d)-g*l)-0=1*((c*c+d*c+e-g*h)-0)+(-1)*((a*a+d*a+e-g*f)-0)+(-g)*(l*(c-a)-(h-f)) :=
 rid [a,c,d,g,l,f,h,e] ((fun (a c d g l f h e:PE)=>((c-a)*((a+c+d)-g*l)-0)) (.v 0) (.v 1) (.v 2) (.v 3) (.v 4) (.v 5) (.v 6) (.v 7)) ((fun (a c d g l f h e:PE)=>(1*((c*c+d*c+e-g*h)-0)+(-1)*((a*a+d*a+e-g*f)-0)+(-g)*(l*(c-a)-(h-f)))) (.v 0) (.v 1) (.v 2) (.v 3) (.v 4) (.v 5) (.v 6) (.v 7)) ab
theorem aiy {F:Type} [Rg F] (x y u v k m l:F):(u-x)*((x+x+(u+k*m))-(k+m)*l)-0=(-l)*(k*(u-x)-(-v-y))+(k-l)*(m*(u-x)-(v-y))+(-1)*(k*(y + -v)-(x*x+x*u+u*u))+1*(l*(y+y)-(x*x+x*x+x*x)) :=
 rid [x,y,u,v,k,m,l] ((fun (x y u v k m l:PE)=>((u-x)*((x+x+(u+k*m))-(k+m)*l)-0)) (.v 0) (.v 1) (.v 2) (.v 3) (.v 4) (.v 5) (.v 6)) ((fun (x y u v k m l:PE)=>((-l)*(k*(u-x)-(-v-y))+(k-l)*(m*(u-x)-(v-y))+(-1)*(k*(y + -v)-(x*x+x*u+u*u))+1*(l*(y+y)-(x*x+x*x+x*x)))) (.v 0) (.v 1) (.v 2) (.v 3) (.v 4) (.v 5) (.v 6)) ab
theorem adO {F:Type} [Rg F] (g a p r:F):g-a-(p+r+p)=g-a-(p+p+r) :=
 rid [g,a,p,r] ((fun (g a p r:PE)=>(g-a-(p+r+p))) (.v 0) (.v 1) (.v 2) (.v 3)) ((fun (g a p r:PE)=>(g-a-(p+p+r))) (.v 0) (.v 1) (.v 2) (.v 3)) ab
theorem aaB {F:Type} [Rg F] (g a p q r:F):g-a-(q+r+p)=g-a-(p+q+r) :=
 rid [g,a,p,q,r] ((fun (g a p q r:PE)=>(g-a-(q+r+p))) (.v 0) (.v 1) (.v 2) (.v 3) (.v 4)) ((fun (g a p q r:PE)=>(g-a-(p+q+r))) (.v 0) (.v 1) (.v 2) (.v 3) (.v 4)) ab
theorem air {F:Type} [Rg F] (a d c e l:F) : -l*(c-a)-(-e - -d)=(-1)*(l*(c-a)-(e-d)) :=
 rid [a,d,c,e,l] ((fun (a d c e l:PE)=>(-l*(c-a)-(-e - -d))) (.v 0) (.v 1) (.v 2) (.v 3) (.v 4)) ((fun (a d c e l:PE)=>((-1)*(l*(c-a)-(e-d)))) (.v 0) (.v 1) (.v 2) (.v 3) (.v 4)) ab
theorem ais {F:Type} [Rg F] (a d c e l:F) : -l*(-d + -e)-(a*a+a*c+c*c)=1*(l*(d+e)-(a*a+a*c+c*c)) :=
 rid [a,d,c,e,l] ((fun (a d c e l:PE)=>(-l*(-d + -e)-(a*a+a*c+c*c))) (.v 0) (.v 1) (.v 2) (.v 3) (.v 4)) ((fun (a d c e l:PE)=>(1*(l*(d+e)-(a*a+a*c+c*c)))) (.v 0) (.v 1) (.v 2) (.v 3) (.v 4)) ab
theorem ait {F:Type} [Rg F] (a c l:F):l*l-a-c=-l * -l-a-c :=
 rid [a,c,l] ((fun (a c l:PE)=>(l*l-a-c)) (.v 0) (.v 1) (.v 2)) ((fun (a c l:PE)=>(-l * -l-a-c)) (.v 0) (.v 1) (.v 2)) ab
theorem aiu {F:Type} [Rg F] (a d c l:F) : - -(d+l*((l*l-a-c)-a))=-(-d + -l*((-l * -l-a-c)-a)) :=
 rid [a,d,c,l] ((fun (a d c l:PE)=>(- -(d+l*((l*l-a-c)-a)))) (.v 0) (.v 1) (.v 2) (.v 3)) ((fun (a d c l:PE)=>(-(-d + -l*((-l * -l-a-c)-a)))) (.v 0) (.v 1) (.v 2) (.v 3)) ab
theorem aij {F:Type} [Rg F] (a c l m:F):a+c+((l*l-a-c)+l*m)=(l+m)*l :=
 rid [a,c,l,m] ((fun (a c l m:PE)=>(a+c+((l*l-a-c)+l*m))) (.v 0) (.v 1) (.v 2) (.v 3)) ((fun (a c l m:PE)=>((l+m)*l)) (.v 0) (.v 1) (.v 2) (.v 3)) ab
theorem i_S {F:Type} [Rg F] (a c d l m:F):m*m-(l*l-a-c)-d=(l+m)*(l+m)-(((l*l-a-c)+l*m)+((l*l-a-c)+l*m))-(a+c+d) :=
 rid [a,c,d,l,m] ((fun (a c d l m:PE)=>(m*m-(l*l-a-c)-d)) (.v 0) (.v 1) (.v 2) (.v 3) (.v 4)) ((fun (a c d l m:PE)=>((l+m)*(l+m)-(((l*l-a-c)+l*m)+((l*l-a-c)+l*m))-(a+c+d))) (.v 0) (.v 1) (.v 2) (.v 3) (.v 4)) ab
section
variable {F:Type} [Fd F] {b:F}
theorem abB {a:F} (h:a*a=0):a=0:=(mul_eq_zero h).elim id id
theorem RN {a:F} (h:a+a+a=0):a=0:=by
 have:(1+1+1)*a=0:=by rw[add_mul,add_mul,one_mul];exact h
 exact (mul_eq_zero this).resolve_left three_ne
theorem D3 {a:F} (h:a=-a):a=0:=yE (by
 have:=eU h
 rwa [sub_def,neg_neg] at this)
theorem Ln.symm {d g f j l:F} (h:Ln d g f j l):Ln f j d g l:=⟨Ci _ (adP d g f j l) h.1,Ci _ (adQ d g f j l) h.2⟩
theorem zo (a c l:F):sx a c l=sx c a l:=adR a c l
theorem IF {a d c e l:F} (h:Ln a d c e l):sy a d c l=sy c e a l:=Ci _ (adS a d c e l) h.1
theorem Ln.xI {a d c e l:F} (h:Ln a d c e l):Ln a d (sx a c l) (-sy a d c l) l :=
 ⟨Wi a d c l,LF _ _ (aaC a d c e l) h.2 h.1⟩
theorem Ln.He {c d a e l:F} (h:Ln c d a e l):Ln a e (sx c a l) (-sy c d a l) l:=by have t:=h.symm.xI;rw[<- zo c a l,<- IF h] at t;exact t
theorem Ln.nY {a d c e l:F} (h:Ln a d c e l) (f:On b a d):On b (sx a c l) (sy a d c l):=by unfold On sy;rw[Ti];exact lc4 _ _ _ _ (adN a d c e l (sx a c l) b) f h.2 h.1 rfl
theorem Ln.agl {a d c f l x y:F} (h:Ln a d c f l) (g:On b a d) (i:On b x y) (j:y=d+l*(x-a)):x=a\/x=c\/x=sx a c l:=by have e:=adN a d c f l x b;rw[<- j,eU i,eU g,eU h.1,eU h.2,mul_zero,mul_zero,mul_zero,zero_add,zero_add,zero_add] at e;rcases mul_eq_zero e.symm with e|e;rcases mul_eq_zero e with e|e;exact .inl (dc e);exact .inr (.inl (dc e));exact .inr (.inr (dc e).symm)
theorem Ln.not_neg (hb:b≠0) {a c g i l:F} (h:Ln a c g i l) (d:On b a c):¬(a=g/\i=-c):=by rintro⟨rfl,rfl⟩;obtain⟨e,f⟩:=h;rw[sub_self,mul_zero] at e;have k:c=0:=D3 (dc e.symm).symm;subst k;rw[neg_zero,add_zero,mul_zero] at f;have j:a=0:=abB (RN f.symm);subst j;unfold On at d;rw[mul_zero,mul_zero,zero_add] at d;exact hb d.symm
theorem Ln.unique (hb:b≠0) {a c d e l m:F} (h:Ln a c d e l) (k:Ln a c d e m) (i:On b a c):l=m:=by by_cases f:d-a=0;by_cases g:c+e=0;exact absurd ⟨(dc f).symm,(neg_eq g).symm⟩ (h.not_neg hb i);refine mul_left g ?_;rw[mul_comm _ l,h.2,mul_comm _ m,k.2];refine mul_left f ?_;rw[mul_comm _ l,h.1,mul_comm _ m,k.1]
def Kh (a c d e:F):F:=if a=d then (a*a+a*a+a*a)*inv (c+c) else (e-c)*inv (d-a)
theorem MB {d c f a:F} (j:On b d c) (k:On b f a) (n:¬(d=f/\a=-c)):Ln d c f a (Kh d c f a):=by
 unfold Kh;split
 ·rename_i g;subst g;have e:(a-c)*(a+c)=0:=by
   have:(a-c)*(a+c)=a*a-c*c:=QO a c;rw[this,j,k,sub_self]
  rcases mul_eq_zero e with e|e;have e:=dc e;subst e;have o:a+a≠0:=fun h=>n ⟨rfl,(neg_eq h).symm⟩;refine⟨by rw[sub_self,sub_self,mul_zero],?_⟩;rw[mul_assoc,mul_comm (inv _),mul_inv _ o,mul_one];exact absurd ⟨rfl,(neg_eq (by rw[add_comm];exact e)).symm⟩ n
 ·rename_i g;have m:f-d≠0:=G7 (fun e=>g e.symm);have i:(a-c)*inv (f-d)*(f-d)=a-c:=by rw[mul_assoc,mul_comm (inv _),mul_inv _ m,mul_one]
  refine⟨i,?_⟩;generalize (a-c)*inv (f-d)=l at *;have:=lc3 _ _ _ (aaA d c f a l 0 b) i k j;exact dc ((mul_eq_zero this).resolve_right m)
def fn (u v l m x y:F):F:=x*x+(u+l*m)*x+(u*u-l*m*u+(l-m)*v)-(l+m)*y
theorem SI {u v l m x y:F} (h:Ln x y u (-v) l):fn u v l m x y=0:=LF _ _ (aio x y u v l m) h.2 h.1
theorem SJ {u v l m x y:F} (h:Ln u v x y m):fn u v l m x y=0:=LF _ _ (aip x y u v l m) h.2 h.1
theorem same {d i g f j h l a n o c q:F} (k:a*a+d*a+i-g*n=0) (r:c*c+d*c+i-g*q=0) (m:a*a+f*a+j-h*n=0) (t:c*c+f*c+j-h*q=0)
  (w:a+o+d=g*l) (x:a+o+f=h*l) (u:q≠n+l*(c-a)):d=f/\i=j/\g=h:=by
 have e:=i_h d i g f j h l a n o c q;rw[k,r,m,t,eU w,eU x,sub_self,sub_self,add_zero,mul_zero,sub_self] at e;have z:g=h:=by rcases mul_eq_zero e with e|e;exact dc e;exfalso;have:=dc e;exact u (by rw[this,sub_def,add_comm,add_assoc,neg_add,add_zero])
 subst z;have y:=LF _ _ (ail d f g l a o) w x;subst y;exact⟨rfl,LF _ _ (aik i j d g a n) k m,rfl⟩
theorem ahZ {d f g l a k j c m:F} (h:a*a+d*a+f-g*k=0) (i:c*c+d*c+f-g*m=0) (n:a+j+d=g*l) (o:c≠a) (q:c≠j):g≠0:=by intro r;subst r;have e:=i_g d f a k c m;rw[h,i,sub_self] at e;rcases mul_eq_zero e with e|e;exact o (dc e);exact q (LF _ _ (aiq d a j c l) e n)
theorem main {a f c P d k l m u v l' m' s t:F} (hb:b≠0) (H:On b a f) (O:On b d k) (r:Ln a f c P l) (w:Ln (sx a c l) (sy a f c l) d k m)
  (I:a+c+(u+l'*m')=(l'+m')*l) (n:fn u v l' m' a f=0) (o:fn u v l' m' d k=0) (h:fn u v l' m' s (-t)=0)
  (N:s=(l'+m')*(l'+m')-((u+l'*m')+(u+l'*m'))-(a+c+d)) (C:d≠a) (D:d≠c) :
  sx (sx a c l) d m=s/\sy (sx a c l) (sy a f c l) d m=t:=by
 have i:fn (sx a c l) (sy a f c l) l m a f=0:=SI r.xI;have j:fn (sx a c l) (sy a f c l) l m d k=0:=SJ w;have g:fn (sx a c l) (sy a f c l) l m (sx (sx a c l) d m) (-sy (sx a c l) (sy a f c l) d m)=0:=SJ w.xI;have y:a+c+(sx a c l+l*m)=(l+m)*l:=aij a c l m;have x:k≠f+l*(d-a):=by intro G;rcases r.agl H O G with e|e|e;exact C e;exact D e;refine w.not_neg hb (r.nY H) ⟨e.symm,?_⟩;unfold sy;rw[neg_neg,<- e];exact G
 have L:=ahZ i j y C D;obtain⟨z,K,A⟩:=same i j n o y I x;have E:sx (sx a c l) d m=s:=by rw[N,<- z,<- A];exact i_S a c d l m
 refine⟨E,?_⟩;rw[E] at g;unfold fn at g h;rw[<- z,<- K,<- A] at h;have:=LF _ _ (i_y _ _ _ s _ t) g h;exact dc ((mul_eq_zero this).resolve_left L)
abbrev O2:F × F:=(0,0)
def dD (P:F × F):F × F:=(P.1,-P.2)
def cq (P Q:F × F):F × F :=
 if P=O2 then Q else if Q=O2 then P else if P.1=Q.1/\Q.2=-P.2 then O2 else (sx P.1 Q.1 (Kh P.1 P.2 Q.1 Q.2),sy P.1 P.2 Q.1 (Kh P.1 P.2 Q.1 Q.2))
def gH (b:F) (P:F × F):Prop:=P=O2\/On b P.1 P.2
abbrev yp (P Q:F × F) (l:F):Prop:=Ln P.1 P.2 Q.1 Q.2 l
abbrev tD (b:F) (P:F × F):Prop:=On b P.1 P.2
variable (hb:b≠0)
include hb
theorem Q5 {P:F × F} (h:tD b P):P≠O2:=by rintro rfl;have h:(0:F)*0=0*0*0+b:=h;rw[mul_zero,mul_zero,zero_add] at h;exact hb h.symm
omit hb in
theorem rZ:dD (O2:F × F)=O2:=by show ((0:F),-(0:F))=_;rw[neg_zero]
omit hb in
theorem m9 (P:F × F):dD (dD P)=P:=by show (P.1,- -P.2)=P;rw[neg_neg]
omit hb in
theorem Dq {P:F × F} (h:tD b P):tD b (dD P):=by have h:P.2*P.2=P.1*P.1*P.1+b:=h;show -P.2 * -P.2=P.1*P.1*P.1+b;rw[Ti,h]
omit hb in
theorem mc {P:F × F} (h:gH b P):gH b (dD P):=by rcases h with rfl|h;exact .inl rZ;exact .inr (Dq h)
theorem eN {P Q:F × F} {l:F} (a:tD b P) (d:tD b Q) (h:yp P Q l):cq P Q=(sx P.1 Q.1 l,sy P.1 P.2 Q.1 l):=by unfold cq;have c:=h.not_neg hb a;rw[ai (Q5 hb a),ai (Q5 hb d),ai c,(MB a d c).unique hb h a]
omit hb in
theorem jE (Q:F × F):cq O2 Q=Q:=by unfold cq;rw[ak rfl]
omit hb in
theorem my (P:F × F):cq P O2=P:=by unfold cq;split;rename_i h;exact h.symm;rw[ak rfl]
omit hb in
theorem rM {P Q:F × F} (a:tD b P) (c:tD b Q):Q=dD P\/∃ l,yp P Q l:=by by_cases h:P.1=Q.1/\Q.2=-P.2;left;exact gm h.1.symm h.2;exact .inr ⟨_,MB a c h⟩
omit hb in
theorem dY (P:F × F):cq P (dD P)=O2:=by unfold cq;split;rename_i h;rw[h];exact rZ;split;rename_i a c;have:=congrArg dD c;rw[m9,rZ] at this;exact absurd this a;rw[ak ⟨rfl,rfl⟩]
omit hb in
theorem kQ (P:F × F):cq (dD P) P=O2:=by
 have:=dY (dD P)
 rwa [m9] at this
theorem yW {P Q:F × F} (oP:gH b P) (oQ:gH b Q):gH b (cq P Q):=by rcases oP with rfl|oP;rw[jE];exact oQ;rcases oQ with rfl|oQ;rw[my];exact .inr oP;rcases rM oP oQ with rfl|⟨l,h⟩;rw[dY];exact .inl rfl;rw[eN hb oP oQ h];exact .inr (h.nY oP)
theorem kG {P Q:F × F} (oP:gH b P) (oQ:gH b Q):cq P Q=cq Q P:=by rcases oP with rfl|oP;rw[jE,my];rcases oQ with rfl|oQ;rw[jE,my];rcases rM oP oQ with rfl|⟨l,h⟩;rw[dY,kQ];rw[eN hb oP oQ h,eN hb oQ oP h.symm,zo,IF h]
theorem cancel {P Q:F × F} (oP:gH b P) (oQ:gH b Q):cq (dD P) (cq P Q)=Q:=by rcases oP with rfl|oP;rw[rZ,jE,jE];rcases oQ with rfl|oQ;rw[my,kQ];rcases rM oP oQ with rfl|⟨l,h⟩;rw[dY,my];rw[eN hb oP oQ h];have d:=h.xI;have e:yp (dD P) (sx P.1 Q.1 l,sy P.1 P.2 Q.1 l) (-l):=⟨Ci _ (aiv P.1 P.2 _ _ l) d.1,Ci _ (aiw P.1 P.2 _ _ l) d.2⟩;rw[eN hb (Dq oP) (h.nY oP) e];have a:sx P.1 (sx P.1 Q.1 l) (-l)=Q.1:=aim P.1 Q.1 l;refine gm a ?_;show -(-P.2 + -l*(sx P.1 (sx P.1 Q.1 l) (-l)-P.1))=Q.2;rw[a];exact Ci _ (ain P.1 P.2 Q.1 Q.2 l) h.1
theorem IY {P R:F × F} (c:tD b P) (f:tD b R) (k:R.1≠P.1) {l m l' m':F} (g:yp P P l) (o:yp (sx P.1 P.1 l,sy P.1 P.2 P.1 l) R m) (a:yp P R l') (d:yp P (sx P.1 R.1 l',sy P.1 P.2 R.1 l') m') :
  cq (cq P P) R=cq P (cq P R):=by
 rw[eN hb c c g,eN hb c f a,eN hb (g.nY c) f o,eN hb c (a.nY c) d];have w:sx P.1 R.1 l'≠P.1:=by
  intro e;have x:=d.not_neg hb c;have j:On b (sx P.1 R.1 l') (sy P.1 P.2 R.1 l'):=a.nY c;have i:sy P.1 P.2 R.1 l'=P.2:=by
   have:(sy P.1 P.2 R.1 l'-P.2)*(sy P.1 P.2 R.1 l'+P.2)=0:=by have j:sy P.1 P.2 R.1 l'*sy P.1 P.2 R.1 l'=_:=j;have c:P.2*P.2=P.1*P.1*P.1+b:=c;rw[QO,j,c,e,sub_self]
   rcases mul_eq_zero this with h|h;exact dc h;exact absurd ⟨e.symm,(neg_eq (by rw[add_comm];exact h)).symm⟩ x
  have n:=cancel hb (.inr c) (.inr f);rw[eN hb c f a,e,i] at n;have:cq (dD P) P=R:=n;rw[kQ] at this;exact Q5 hb f this.symm
 have q:P.1+P.1+(sx P.1 R.1 l'+l'*m')=(l'+m')*l:=by have e:=lc4 _ _ _ _ (aiy P.1 P.2 (sx P.1 R.1 l') (sy P.1 P.2 R.1 l') l' m' l) a.xI.1 d.1 a.xI.2 g.2;exact dc ((mul_eq_zero e).resolve_left (G7 w))
 obtain⟨r,i⟩:=main (u:=sx P.1 R.1 l') (v:=sy P.1 P.2 R.1 l') (l':=l') (m':=m') (s:=sx P.1 (sx P.1 R.1 l') m') (t:=sy P.1 P.2 (sx P.1 R.1 l') m') hb c f g o q (SI a.xI)
  (SI a.He)
  (SJ d.He) ((zo _ _ _).trans ((i_S P.1 R.1 P.1 l' m').trans (adO _ _ _ _))) k k
 exact gm r i
theorem Nh {P Q R:F × F} (g:tD b P) (i:tD b Q) (j:tD b R) (r:Q.1≠P.1) (w:R.1≠P.1) (x:R.1≠Q.1) {l m l' m':F} (f:yp P Q l) (k:yp (sx P.1 Q.1 l,sy P.1 P.2 Q.1 l) R m) (a:yp Q R l') (c:yp P (sx Q.1 R.1 l',sy Q.1 Q.2 R.1 l') m') :
  cq (cq P Q) R=cq P (cq Q R):=by
 rw[eN hb g i f,eN hb i j a,eN hb (f.nY g) j k,eN hb g (a.nY i) c];have d:fn (sx Q.1 R.1 l') (sy Q.1 Q.2 R.1 l') l' m' P.1 P.2=0:=SJ c.symm;have h:fn (sx Q.1 R.1 l') (sy Q.1 Q.2 R.1 l') l' m' Q.1 Q.2=0:=SI a.xI;have n:P.1+Q.1+(sx Q.1 R.1 l'+l'*m')=(l'+m')*l:=by have e:=lc3 _ _ _ (aix P.1 Q.1 (sx Q.1 R.1 l'+l'*m') (l'+m') l P.2 Q.2 _) h d f.1;exact dc ((mul_eq_zero e).resolve_left (G7 r))
 obtain⟨o,q⟩:=main (u:=sx Q.1 R.1 l') (v:=sy Q.1 Q.2 R.1 l') (l':=l') (m':=m') (s:=sx P.1 (sx Q.1 R.1 l') m') (t:=sy P.1 P.2 (sx Q.1 R.1 l') m') hb g j f k n d
  (SI a.He)
  (SJ c.He) ((zo _ _ _).trans ((i_S Q.1 R.1 P.1 l' m').trans (aaB _ _ _ _ _))) w x
 exact gm o q
theorem Mf {P Q:F × F} (oP:gH b P) (oQ:gH b Q):dD (cq P Q)=cq (dD P) (dD Q):=by rcases oP with rfl|oP;rw[jE,rZ,jE];rcases oQ with rfl|oQ;rw[my,rZ,my];rcases rM oP oQ with rfl|⟨l,h⟩;rw[dY,m9,kQ,rZ];have a:yp (dD P) (dD Q) (-l):=⟨Ci _ (air P.1 P.2 Q.1 Q.2 l) h.1,Ci _ (ais P.1 P.2 Q.1 Q.2 l) h.2⟩;rw[eN hb oP oQ h,eN hb (Dq oP) (Dq oQ) a];exact gm (ait P.1 Q.1 l) (aiu P.1 P.2 Q.1 l)
theorem N3 {P Q:F × F} (c:gH b P) (a:gH b Q):cq (cq P Q) (dD Q)=P:=by rw[kG hb (yW hb c a) (mc a),kG hb c a,cancel hb a c]
theorem XG {P Q R:F × F} (a:gH b P) (c:gH b Q) (h:R=dD (cq P Q)):cq Q R=dD P:=by
 rw[h,Mf hb a c,kG hb (mc a) (mc c)];have:=cancel hb (mc c) (mc a)
 rwa [m9] at this
omit hb in
theorem XP {P Q:F × F} (g:tD b P) (i:tD b Q) (d:Q≠P) (f:Q≠dD P):Q.1≠P.1:=by
 intro e;have a:P.2*P.2=P.1*P.1*P.1+b:=g;have c:Q.2*Q.2=Q.1*Q.1*Q.1+b:=i;have:(Q.2-P.2)*(Q.2+P.2)=0:=by rw[QO,a,c,e,sub_self]
 rcases mul_eq_zero this with h|h;exact d (gm e (dc h));exact f (gm e (neg_eq (by rw[add_comm];exact h)).symm)
theorem Gz {P Q R:F × F} (oP:gH b P) (oQ:gH b Q) (oR:gH b R):cq (cq P Q) R=cq P (cq Q R):=by
 have g:=yW hb oP oQ;have q:=yW hb oQ oR;by_cases h:Q=dD P
 ·have:cq P (cq (dD P) R)=R:=by
   have:=cancel hb (mc oP) oR
   rwa [m9] at this
  rw[h,dY,jE,this]
 by_cases i:R=dD Q;rw[i,dY,my,N3 hb oP oQ];by_cases r:R=P;rw[r,kG hb g oP,kG hb oP oQ];by_cases s:R=dD P
 ·have e:cq P (cq Q (dD P))=Q:=by
   rw[kG hb oQ (mc oP)];have:=cancel hb (mc oP) oQ
   rwa [m9] at this
  rw[s,e,kG hb oP oQ,N3 hb oQ oP]
 by_cases j:R=dD (cq P Q);rw[XG hb oP oQ j,dY];rw[j,dY];by_cases n:cq Q R=dD P
 ·rw[n,dY];have y:P=dD (cq Q R):=by rw[n,m9]
  have z:=XG hb oQ oR y;have A:cq R P=dD Q:=z;have C:Q=dD (cq R P):=by rw[A,m9]
  have D:=XG hb oR oP C;rw[D,kQ]
 rcases oP with rfl|oP;rw[jE,jE];rcases oQ with rfl|oQ;rw[jE,my];rcases oR with rfl|oR;rw[my,my];obtain⟨l,f⟩:=(rM oP oQ).resolve_left h;obtain⟨I,a⟩:=(rM oQ oR).resolve_left i;have w:=eN hb oP oQ f;have x:=eN hb oQ oR a;have G:tD b (cq P Q):=by rw[w];exact f.nY oP
 have H:tD b (cq Q R):=by rw[x];exact a.nY oQ
 obtain⟨m,d⟩:=(rM G oR).resolve_left j;obtain⟨m',c⟩:=(rM oP H).resolve_left n;rw[w] at d;rw[x] at c;have o:R.1≠P.1:=XP oP oR r s;by_cases t:Q=P;subst t;exact IY hb oP oR o f d a c;by_cases u:R=Q;subst u;have k:=f.symm;rw[kG hb g (.inr oR),kG hb (.inr oP) (.inr oR),kG hb (.inr oP) q];have E:P.1≠R.1:=fun e=>o e.symm;refine (IY hb oR oP E (m:=m') (m':=m) a c.symm k ?_).symm;have d:=d.symm;rw[zo P.1,IF f] at d;exact d;exact Nh hb oP oQ oR (XP oP oQ t h) o (XP oQ oR u i) f d a c
end
section
variable {F:Type} [Fd F]
abbrev Jc (F:Type):=F × F × F
abbrev J0:Jc F:=(0,0,0)
def jj (p:F × F):Jc F:=if p=O2 then J0 else (p.1,p.2,1)
def iQ (a:Jc F):F × F:=if a.2.2=0 then O2 else (a.1*(inv a.2.2*inv a.2.2),a.2.1*(inv a.2.2*inv a.2.2)*inv a.2.2)
def Tp (x y:F):F:=(x*x+x*x+x*x)*(x*x+x*x+x*x)-(x*(y*y)+x*(y*y)+(x*(y*y)+x*(y*y)))-(x*(y*y)+x*(y*y)+(x*(y*y)+x*(y*y)))
def QV (a:Jc F):Jc F :=
 (Tp a.1 a.2.1,
  (a.1*a.1+a.1*a.1+a.1*a.1)*(a.1*(a.2.1*a.2.1)+a.1*(a.2.1*a.2.1)+(a.1*(a.2.1*a.2.1)+a.1*(a.2.1*a.2.1))-Tp a.1 a.2.1)-(a.2.1*a.2.1+a.2.1*a.2.1)*(a.2.1*a.2.1+a.2.1*a.2.1)-(a.2.1*a.2.1+a.2.1*a.2.1)*(a.2.1*a.2.1+a.2.1*a.2.1),
  a.2.1*a.2.2+a.2.1*a.2.2)
def rH (a:Jc F):Jc F:=if a.2.2=0 then J0 else QV a
def OK (a c left:F):F:=c*c-a*a*a-left*(a*a)-left*(a*a)
def Wm (a c left d e f:F):Jc F :=
 (OK a c left,c*(left*(a*a)-OK a c left)-d*(a*a*a),e*f*a)
def nC (a b:Jc F):Jc F:=if a.2.2=0 then b else if b.2.2=0 then a else
 if b.1*(a.2.2*a.2.2)-a.1*(b.2.2*b.2.2)=0 then
  (if b.2.1*(a.2.2*a.2.2)*a.2.2-a.2.1*(b.2.2*b.2.2)*b.2.2=0 then rH a else J0)
 else Wm (b.1*(a.2.2*a.2.2)-a.1*(b.2.2*b.2.2)) (b.2.1*(a.2.2*a.2.2)*a.2.2-a.2.1*(b.2.2*b.2.2)*b.2.2) (a.1*(b.2.2*b.2.2)) (a.2.1*(b.2.2*b.2.2)*b.2.2) a.2.2 b.2.2
end
theorem OJ {F:Type} [Rg F] (X Y z l:F):(X*(z*z)*(X*(z*z))+X*(z*z)*(X*(z*z))+X*(z*z)*(X*(z*z)))-l*(Y*(z*(z*z))*z+Y*(z*(z*z))*z)=(-(z*z*z*z))*(l*(Y+Y)-(X*X+X*X+X*X)) :=
 rid [X,Y,z,l] ((fun (X Y z l:PE)=>((X*(z*z)*(X*(z*z))+X*(z*z)*(X*(z*z))+X*(z*z)*(X*(z*z)))-l*(Y*(z*(z*z))*z+Y*(z*(z*z))*z))) (.v 0) (.v 1) (.v 2) (.v 3)) ((fun (X Y z l:PE)=>((-(z*z*z*z))*(l*(Y+Y)-(X*X+X*X+X*X)))) (.v 0) (.v 1) (.v 2) (.v 3)) ab
theorem Yv {F:Type} [Rg F] (X Y z:F):X*(z*z)*(Y*(z*(z*z))*(Y*(z*(z*z))))+X*(z*z)*(Y*(z*(z*z))*(Y*(z*(z*z))))+(X*(z*z)*(Y*(z*(z*z))*(Y*(z*(z*z))))+X*(z*z)*(Y*(z*(z*z))*(Y*(z*(z*z)))))=X*((Y*(z*(z*z))*z+Y*(z*(z*z))*z)*(Y*(z*(z*z))*z+Y*(z*(z*z))*z)) :=
 rid [X,Y,z] ((fun (X Y z:PE)=>(X*(z*z)*(Y*(z*(z*z))*(Y*(z*(z*z))))+X*(z*z)*(Y*(z*(z*z))*(Y*(z*(z*z))))+(X*(z*z)*(Y*(z*(z*z))*(Y*(z*(z*z))))+X*(z*z)*(Y*(z*(z*z))*(Y*(z*(z*z))))))) (.v 0) (.v 1) (.v 2)) ((fun (X Y z:PE)=>(X*((Y*(z*(z*z))*z+Y*(z*(z*z))*z)*(Y*(z*(z*z))*z+Y*(z*(z*z))*z)))) (.v 0) (.v 1) (.v 2)) ab
theorem ad0 {F:Type} [Rg F] (Y z:F):(Y*(z*(z*z))*(Y*(z*(z*z)))+Y*(z*(z*z))*(Y*(z*(z*z))))*(Y*(z*(z*z))*(Y*(z*(z*z)))+Y*(z*(z*z))*(Y*(z*(z*z))))+(Y*(z*(z*z))*(Y*(z*(z*z)))+Y*(z*(z*z))*(Y*(z*(z*z))))*(Y*(z*(z*z))*(Y*(z*(z*z)))+Y*(z*(z*z))*(Y*(z*(z*z))))=Y*((Y*(z*(z*z))*z+Y*(z*(z*z))*z)*((Y*(z*(z*z))*z+Y*(z*(z*z))*z)*(Y*(z*(z*z))*z+Y*(z*(z*z))*z))) :=
 rid [Y,z] ((fun (Y z:PE)=>((Y*(z*(z*z))*(Y*(z*(z*z)))+Y*(z*(z*z))*(Y*(z*(z*z))))*(Y*(z*(z*z))*(Y*(z*(z*z)))+Y*(z*(z*z))*(Y*(z*(z*z))))+(Y*(z*(z*z))*(Y*(z*(z*z)))+Y*(z*(z*z))*(Y*(z*(z*z))))*(Y*(z*(z*z))*(Y*(z*(z*z)))+Y*(z*(z*z))*(Y*(z*(z*z)))))) (.v 0) (.v 1)) ((fun (Y z:PE)=>(Y*((Y*(z*(z*z))*z+Y*(z*(z*z))*z)*((Y*(z*(z*z))*z+Y*(z*(z*z))*z)*(Y*(z*(z*z))*z+Y*(z*(z*z))*z))))) (.v 0) (.v 1)) ab
theorem j_x {F:Type} [Rg F] (X Z l:F):l*Z*(l*Z)-X*(Z*Z)-X*(Z*Z)=(l*l-X-X)*(Z*Z) :=
 rid [X,Z,l] ((fun (X Z l:PE)=>(l*Z*(l*Z)-X*(Z*Z)-X*(Z*Z))) (.v 0) (.v 1) (.v 2)) ((fun (X Z l:PE)=>((l*l-X-X)*(Z*Z))) (.v 0) (.v 1) (.v 2)) ab
theorem j_y {F:Type} [Rg F] (X Y Z l s:F):l*Z*(X*(Z*Z)-s*(Z*Z))-Y*(Z*(Z*Z))=-(Y+l*(s-X))*(Z*(Z*Z)) :=
 rid [X,Y,Z,l,s] ((fun (X Y Z l s:PE)=>(l*Z*(X*(Z*Z)-s*(Z*Z))-Y*(Z*(Z*Z)))) (.v 0) (.v 1) (.v 2) (.v 3) (.v 4)) ((fun (X Y Z l s:PE)=>(-(Y+l*(s-X))*(Z*(Z*Z)))) (.v 0) (.v 1) (.v 2) (.v 3) (.v 4)) ab
theorem Wl {F:Type} [Rg F] (a f:F):a-f-f=a-(f+f) :=
 rid [a,f] ((fun (a f:PE)=>(a-f-f)) (.v 0) (.v 1)) ((fun (a f:PE)=>(a-(f+f))) (.v 0) (.v 1)) ab
theorem j_z {F:Type} [Rg F] (Y z:F):Y*(z*(z*z))*z+Y*(z*(z*z))*z=(Y+Y)*(z*z*(z*z)) :=
 rid [Y,z] ((fun (Y z:PE)=>(Y*(z*(z*z))*z+Y*(z*(z*z))*z)) (.v 0) (.v 1)) ((fun (Y z:PE)=>((Y+Y)*(z*z*(z*z)))) (.v 0) (.v 1)) ab
theorem ad5 {F:Type} [Rg F] (d e a c:F):e*(c*c)*(a*a)-d*(a*a)*(c*c)=(e-d)*(a*c*(a*c)) :=
 rid [d,e,a,c] ((fun (d e a c:PE)=>(e*(c*c)*(a*a)-d*(a*a)*(c*c))) (.v 0) (.v 1) (.v 2) (.v 3)) ((fun (d e a c:PE)=>((e-d)*(a*c*(a*c)))) (.v 0) (.v 1) (.v 2) (.v 3)) ab
theorem ad2 {F:Type} [Rg F] (d e a c:F):e*(c*(c*c))*(a*a)*a-d*(a*(a*a))*(c*c)*c=(e-d)*(a*c*(a*c*(a*c))) :=
 rid [d,e,a,c] ((fun (d e a c:PE)=>(e*(c*(c*c))*(a*a)*a-d*(a*(a*a))*(c*c)*c)) (.v 0) (.v 1) (.v 2) (.v 3)) ((fun (d e a c:PE)=>((e-d)*(a*c*(a*c*(a*c))))) (.v 0) (.v 1) (.v 2) (.v 3)) ab
theorem aaL {F:Type} [Rg F] (a d c e w l:F):(e-d)*(w*(w*w))-l*(w*((c-a)*(w*w)))=(-(w*(w*w)))*(l*(c-a)-(e-d)) :=
 rid [a,d,c,e,w,l] ((fun (a d c e w l:PE)=>((e-d)*(w*(w*w))-l*(w*((c-a)*(w*w))))) (.v 0) (.v 1) (.v 2) (.v 3) (.v 4) (.v 5)) ((fun (a d c e w l:PE)=>((-(w*(w*w)))*(l*(c-a)-(e-d)))) (.v 0) (.v 1) (.v 2) (.v 3) (.v 4) (.v 5)) ab
theorem aiF {F:Type} [Rg F] (d a c D l:F):l*(a*c*(D*(a*c*(a*c))))*(l*(a*c*(D*(a*c*(a*c)))))-D*(a*c*(a*c))*(D*(a*c*(a*c)))*(D*(a*c*(a*c)))-d*(a*a)*(c*c)*(D*(a*c*(a*c))*(D*(a*c*(a*c))))-d*(a*a)*(c*c)*(D*(a*c*(a*c))*(D*(a*c*(a*c))))=(l*l-D-d-d)*(a*c*(D*(a*c*(a*c)))*(a*c*(D*(a*c*(a*c))))) :=
 rid [d,a,c,D,l] ((fun (d a c D l:PE)=>(l*(a*c*(D*(a*c*(a*c))))*(l*(a*c*(D*(a*c*(a*c)))))-D*(a*c*(a*c))*(D*(a*c*(a*c)))*(D*(a*c*(a*c)))-d*(a*a)*(c*c)*(D*(a*c*(a*c))*(D*(a*c*(a*c))))-d*(a*a)*(c*c)*(D*(a*c*(a*c))*(D*(a*c*(a*c)))))) (.v 0) (.v 1) (.v 2) (.v 3) (.v 4)) ((fun (d a c D l:PE)=>((l*l-D-d-d)*(a*c*(D*(a*c*(a*c)))*(a*c*(D*(a*c*(a*c))))))) (.v 0) (.v 1) (.v 2) (.v 3) (.v 4)) ab
theorem aiG {F:Type} [Rg F] (d e a c D l s:F):l*(a*c*(D*(a*c*(a*c))))*(d*(a*a)*(c*c)*(D*(a*c*(a*c))*(D*(a*c*(a*c))))-s*(a*c*(D*(a*c*(a*c)))*(a*c*(D*(a*c*(a*c))))))-e*(a*(a*a))*(c*c)*c*(D*(a*c*(a*c))*(D*(a*c*(a*c)))*(D*(a*c*(a*c))))=-(e+l*(s-d))*(a*c*(D*(a*c*(a*c)))*(a*c*(D*(a*c*(a*c)))*(a*c*(D*(a*c*(a*c)))))) :=
 rid [d,e,a,c,D,l,s] ((fun (d e a c D l s:PE)=>(l*(a*c*(D*(a*c*(a*c))))*(d*(a*a)*(c*c)*(D*(a*c*(a*c))*(D*(a*c*(a*c))))-s*(a*c*(D*(a*c*(a*c)))*(a*c*(D*(a*c*(a*c))))))-e*(a*(a*a))*(c*c)*c*(D*(a*c*(a*c))*(D*(a*c*(a*c)))*(D*(a*c*(a*c)))))) (.v 0) (.v 1) (.v 2) (.v 3) (.v 4) (.v 5) (.v 6)) ((fun (d e a c D l s:PE)=>(-(e+l*(s-d))*(a*c*(D*(a*c*(a*c)))*(a*c*(D*(a*c*(a*c)))*(a*c*(D*(a*c*(a*c)))))))) (.v 0) (.v 1) (.v 2) (.v 3) (.v 4) (.v 5) (.v 6)) ab
theorem j_D {F:Type} [Rg F] (a c l:F):l*l-(c-a)-a-a=l*l-a-c :=
 rid [a,c,l] ((fun (a c l:PE)=>(l*l-(c-a)-a-a)) (.v 0) (.v 1) (.v 2)) ((fun (a c l:PE)=>(l*l-a-c)) (.v 0) (.v 1) (.v 2)) ab
theorem aiH {F:Type} [Rg F] (X z i:F):X*(z*z)*(i*i)=X*(z*i*(z*i)) :=
 rid [X,z,i] ((fun (X z i:PE)=>(X*(z*z)*(i*i))) (.v 0) (.v 1) (.v 2)) ((fun (X z i:PE)=>(X*(z*i*(z*i)))) (.v 0) (.v 1) (.v 2)) ab
theorem aiI {F:Type} [Rg F] (Y z i:F):Y*(z*(z*z))*(i*i)*i=Y*(z*i*(z*i*(z*i))) :=
 rid [Y,z,i] ((fun (Y z i:PE)=>(Y*(z*(z*z))*(i*i)*i)) (.v 0) (.v 1) (.v 2)) ((fun (Y z i:PE)=>(Y*(z*i*(z*i*(z*i))))) (.v 0) (.v 1) (.v 2)) ab
section
variable {F:Type} [Fd F] {b:F}
def mC (b:F) (a:Jc F) (P:F × F):Prop:=(a.2.2=0/\P=O2)\/(a.2.2≠0/\a.1=P.1*(a.2.2*a.2.2)/\a.2.1=P.2*(a.2.2*(a.2.2*a.2.2))/\tD b P)
theorem mC.on {a:Jc F} {P:F × F} (h:mC b a P):gH b P:=by rcases h with ⟨_,h⟩|⟨_,_,_,h⟩;exact .inl h;exact .inr h
theorem E6 {P:F × F} (h:gH b P):mC b (jj P) P:=by unfold jj;split;rename_i e;exact .inl ⟨rfl,e⟩;rename_i e;rcases h with h|h;exact absurd h e;refine .inr ⟨one_ne,?_,?_,h⟩;show P.1=P.1*(1*1);rw[one_mul,mul_one];show P.2=P.2*(1*(1*1));rw[one_mul,one_mul,mul_one]
theorem JF {a:Jc F} {P:F × F} (h:mC b a P):iQ a=P:=by unfold iQ;rcases h with ⟨h,e⟩|⟨h,c,d,_⟩;rw[ak h,e];rw[ai h];refine gm ?_ ?_;show a.1*(inv a.2.2*inv a.2.2)=P.1;rw[c,aiH,mul_inv _ h,one_mul,mul_one];show a.2.1*(inv a.2.2*inv a.2.2)*inv a.2.2=P.2;rw[d,aiI,mul_inv _ h,one_mul,one_mul,mul_one]
theorem Iu (i:b≠0) {a:Jc F} {P:F × F} (h:mC b a P):mC b (rH a) (cq P P):=by
 unfold rH QV;rcases h with ⟨h,rfl⟩|⟨h,k,m,c⟩;rw[ak h,jE];exact .inl ⟨rfl,rfl⟩
 ·rw[ai h];obtain⟨x,y,z⟩:=a;obtain⟨X,Y⟩:=P;simp only at h k m ⊢;subst k m;have o:Y*(z*(z*z))*z+Y*(z*(z*z))*z=(Y+Y)*(z*z*(z*z)):=j_z Y z;have j:z*z*(z*z)≠0:=o3 (o3 h h) (o3 h h);by_cases f:Y=0
  ·subst f;left;refine⟨?_,?_⟩;show (0:F)*(z*(z*z))*z+0*(z*(z*z))*z=0;rw[o,add_zero,zero_mul]
   ·have:=dY ((X,0):F × F)
    rwa [show dD ((X,0):F × F)=(X,0) from by show (X,-(0:F))=_;rw[neg_zero]] at this
  ·have g:Y+Y≠0:=fun e=>f (yE e);obtain⟨l,d⟩:=(rM (P:=(X,Y)) (Q:=(X,Y)) c c).resolve_left (fun e=>f (D3 (congrArg Prod.snd e)));right;have n:Tp (X*(z*z)) (Y*(z*(z*z)))=sx X X l*((Y*(z*(z*z))*z+Y*(z*(z*z))*z)*(Y*(z*(z*z))*z+Y*(z*(z*z))*z)):=by
    unfold Tp;rw[Yv X Y z,Ci _ (OJ X Y z l) d.2];exact j_x _ _ _
   refine⟨?_,?_,?_,?_⟩;show Y*(z*(z*z))*z+Y*(z*(z*z))*z≠0;rw[o];exact o3 g j;rw[eN i c c d];exact n;rw[eN i c c d];show _-_-_=sy X Y X l*_;rw[Wl,ad0 Y z,n,Yv X Y z,Ci _ (OJ X Y z l) d.2];exact j_y _ _ _ _ _;rw[eN i c c d];exact d.nY c
theorem Dz (C:b≠0) {a c:Jc F} {P Q:F × F} (h:mC b a P) (k:mC b c Q):mC b (nC a c) (cq P Q):=by
 have D:=Iu C h;unfold nC;rcases h with ⟨h,rfl⟩|⟨h,s,t,q⟩;rw[ak h,jE];exact k
 ·rw[ai h];rcases k with ⟨k,rfl⟩|⟨k,A,f2,u⟩;rw[ak k,my];exact .inr ⟨h,s,t,q⟩
  ·rw[ai k];obtain⟨x,y,z⟩:=a;obtain⟨G,H,d⟩:=c;obtain⟨X,Y⟩:=P;obtain⟨f,j⟩:=Q;simp only at h k s t A f2 D ⊢;subst s t A f2;rw[ad5 X f z d,ad2 Y j z d];have r:z*d≠0:=o3 h k;have i:z*d*(z*d)≠0:=o3 r r;have o:z*d*(z*d*(z*d))≠0:=o3 r i;by_cases g:f-X=0;rw[ak (by rw[g,zero_mul])];have g:=dc g;subst g;by_cases m:j-Y=0;rw[ak (by rw[m,zero_mul])];have m:=dc m;subst m;exact D;rw[ai (o3 m o)];left;refine⟨rfl,?_⟩;rcases rM (P:=(f,Y)) (Q:=(f,j)) q u with e|⟨l,n⟩;rw[e,dY];exfalso;have:=n.1;rw[sub_self,mul_zero] at this;exact m this.symm
   ·rw[ai (o3 g i)];obtain⟨l,n⟩:=(rM (P:=(X,Y)) (Q:=(f,j)) q u).resolve_left (fun e=>g (by rw[show f=X from congrArg Prod.fst e,sub_self]));have E:(j-Y)*(z*d*(z*d*(z*d)))=l*(z*d*((f-X)*(z*d*(z*d)))):=Ci _ (aaL X Y f j (z*d) l) n.1;rw[E,eN C q u n];have w:OK ((f-X)*(z*d*(z*d))) (l*(z*d*((f-X)*(z*d*(z*d))))) (X*(z*z)*(d*d))=sx X f l*(z*d*((f-X)*(z*d*(z*d)))*(z*d*((f-X)*(z*d*(z*d))))):=by
     unfold OK;rw[aiF X z d (f-X) l,j_D];rfl
    right;refine⟨o3 r (o3 g i),w,?_,n.nY q⟩;show _*(_-OK _ _ _)-_=sy X Y f l*_;rw[w];exact aiG _ _ _ _ _ _ _
end
def jc (p:Nat):Prop:=1<p/\∀ d,d∣p->d=1\/d=p
theorem jc.coprime {p k:Nat} (h:jc p) (a:¬ p∣k):Nat.Coprime p k:=by rcases h.2 (Nat.gcd p k) (Nat.gcd_dvd_left p k) with e|e;exact e;exact absurd (e▸Nat.gcd_dvd_right p k) a
theorem jc.dvd_mul {p a b:Nat} (h:jc p) (d:p∣a*b):p∣a\/p∣b:=by by_cases c:p∣a;exact .inl c;exact .inr ((h.coprime c).dvd_of_dvd_mul_left d)
def ch:Nat->Nat->Nat
 | _,0=>1
 | 0,_+1=>0
 | n+1,k+1=>ch n k+ch n (k+1)
theorem yz (n:Nat):ch n 0=1:=by cases n<;>rfl
theorem ab6:∀ n k:Nat,(k+1)*ch (n+1) (k+1)=(n+1)*ch n k:=by
 intro n;induction n with
 | zero =>
  intro k;cases k with
  | zero=>rfl
  | succ k=>simp[ch]
 | succ n a =>
  intro k;cases k with
  | zero =>have h:(0+1)*ch (n+1) 1=(n+1)*ch n 0:=a 0;rw[yz] at h;show 1*(ch (n+1) 0+ch (n+1) 1)=(n+1+1)*ch (n+1) 0;rw[yz];omega
  | succ j =>have d:=a j;have e:=a (j+1);have b:ch (n+1+1) (j+1+1)=ch (n+1) (j+1)+ch (n+1) (j+1+1):=rfl;have c:ch (n+1) (j+1)=ch n j+ch n (j+1):=rfl;rw[b,Nat.mul_add,e,ff (j+1) 1,d,m6];rw[c,Nat.mul_add,ff (n+1) 1,ff (n+1) 1];omega
theorem Zu:∀ n:Nat,ch n n=1/\∀ k,n<k->ch n k=0:=by
 intro n;induction n with
 | zero=>exact⟨rfl,fun k b=>by cases k with|zero=>omega|succ k=>rfl⟩
 | succ n a =>
  refine⟨?_,fun k b=>?_⟩;show ch n n+ch n (n+1)=1;rw[a.1,a.2 (n+1) aa]
  ·cases k with
   | zero=>omega
   | succ k=>show ch n k+ch n (k+1)=0;rw[a.2 k aa,a.2 (k+1) aa]
def w8 (n a:Nat):Nat->Nat
 | 0=>0
 | m+1=>w8 n a m+ch n m*a^m
theorem U6 (n a:Nat):∀ m,w8 (n+1) a (m+1)=a*w8 n a m+w8 n a (m+1):=by
 intro m;induction m with
 | zero=>simp[w8,yz]
 | succ m b =>show w8 (n+1) a (m+1)+ch (n+1) (m+1)*a^(m+1)=a*(w8 n a m+ch n m*a^m)+(w8 n a (m+1)+ch n (m+1)*a^(m+1));rw[b];have e:ch (n+1) (m+1)=ch n m+ch n (m+1):=rfl;rw[e,ff,Nat.mul_add,lE,lD (a^m) a,Nat.mul_left_comm a (ch n m)];omega
theorem afy (a:Nat):∀ n m,n<m->(a+1)^n=w8 n a m:=by
 intro n;induction n with
 | zero =>
  intro m c;cases m with
  | zero=>omega
  | succ m =>
   clear c;induction m with
   | zero=>simp[w8,yz]
   | succ m b=>show _=w8 0 a (m+1)+ch 0 (m+1)*a^(m+1);rw[<- b,show ch 0 (m+1)=0 from rfl,jm];rfl
 | succ n b =>
  intro m c;cases m with
  | zero=>omega
  | succ m =>rw[U6,<- b m aa,<- b (m+1) aa,lE,Nat.mul_add,tZ,lD a]
theorem jc.ab5 {p k:Nat} (h:jc p) (a:0<k) (b:k<p):p∣ch p k:=by obtain⟨j,rfl⟩:∃ j,k=j+1:=⟨k-1,aa⟩;obtain⟨q,rfl⟩:∃ q,p=q+1:=⟨p-1,aa⟩;have e:=ab6 q j;have:q+1∣(j+1)*ch (q+1) (j+1):=⟨ch q j,e⟩;rcases h.dvd_mul this with h2|h2;exact absurd (qM aa h2) aa;exact h2
theorem jc.Zt {p:Nat} (h:jc p) (a:Nat):∀ m,m<p->w8 p a (m+1)%p=1:=by
 intro m;have e:=h.1;induction m with
 | zero=>intro _;show (0+ch p 0*a^0)%p=1;rw[yz,Nat.pow_zero,bO,tZ];exact hY e
 | succ m f =>intro d;show (w8 p a (m+1)+ch p (m+1)*a^(m+1))%p=1;obtain⟨c,b⟩:=h.ab5 (k:=m+1) aa d;rw[b,Nat.mul_assoc,Be,f aa]
theorem jc.step {p:Nat} (h:jc p) (a:Nat):(a+1)^p%p=(a^p+1)%p:=by rw[afy a p (p+1) aa];show (w8 p a p+ch p p*a^p)%p=_;obtain⟨q,b⟩:∃ q,p=q+1:=⟨p-1,by have:=h.1;omega⟩;have:=h.Zt a q aa;rw[<- b] at this;rw[(Zu p).1,m6,qP,this,oN,<- Nat.add_mod_mod (a^p%p),Nat.mod_add_mod];have:1%p=1:=hY h.1;rw[qP (a^p) 1,this,qP (a^p) 1,this]
theorem jc.acs {p:Nat} (h:jc p) (a:Nat):a^p%p=a%p:=by
 induction a with
 | zero=>rw[Nat.zero_pow (by have:=h.1;omega)]
 | succ a b=>rw[h.step,qP,b,<- qP]
theorem jc.Oq {p a:Nat} (h:jc p) (b:¬ p∣a):a^(p-1)%p=1:=by
 have g:=h.1;have e:a^p=a^(p-1)*a:=by rw[<- lE];congr 1;omega
 have f:=h.acs a;rw[e] at f
 have i:1<=a^(p-1):=Nat.pos_of_ne_zero (fun z=>by
  have:a=0:=by rcases qF a with h|h;exact h;exact absurd z (Nat.ne_of_gt (Nat.pow_pos h))
  exact b (this▸Nat.dvd_zero p))
 have d:p∣(a^(p-1)-1)*a:=by rw[Nat.sub_mul,m6];exact Nat.dvd_of_mod_eq_zero (Nat.sub_mod_eq_zero_of_mod_eq f)
 rcases h.dvd_mul d with h2|h2;obtain⟨c,j⟩:=h2;have:a^(p-1)=1+p*c:=aa;rw[this,Be,hY g];exact absurd h2 b
theorem aa6 {d e:Nat}:∀ m n,e^m%d=1->e^n%d=1->e^(Nat.gcd m n)%d=1:=by
 intro m n;induction m,n using Nat.gcd.induction with
 | H0 n=>intro _ h;rwa [Nat.gcd_zero_left]
 | H1 m n j i =>
  intro a c;rw[Nat.gcd_rec];refine i ?_ a;have g:e^n=(e^m)^(n/m)*e^(n%m):=by rw[<- Nat.pow_mul,<- Nat.pow_add,Nat.div_add_mod]
  rw[g,Nat.mul_mod,Nat.pow_mod,a,Nat.one_pow] at c;have f:d≠1:=by intro f;subst f;rw[Nat.mod_one] at a;cases a
  have b:1%d=1:=by rcases qF d with h|h;subst h;rfl;exact hY aa
  rw[b,m6,Nat.mod_mod] at c;exact c
theorem B1:∀ n:Nat,1<n->∃ d,jc d/\d∣n:=by
 intro n;induction n using Nat.strongRecOn with
 | _ n l =>
  intro j;by_cases f:jc n;exact⟨n,f,Nat.dvd_refl n⟩
  ·have:∃ d,d∣n/\d≠1/\d≠n:=by
    refine ga fun g=>f ⟨j,fun d a=>?_⟩;by_cases b:d=1;exact .inl b;by_cases c:d=n;exact .inr c;exact absurd ⟨d,a,b,c⟩ g
   obtain⟨d,a,b,c⟩:=this;have i:=qM aa a;have h:d≠0:=by rintro rfl;have:=Nat.eq_zero_of_zero_dvd a;omega
   obtain⟨q,k,e⟩:=l d aa aa;exact⟨q,k,wX e a⟩
theorem mi {n:Nat} (t:1<n) (u:¬ jc n):∃ d,jc d/\d∣n/\d*d<=n:=by
 have:∃ d,d∣n/\d≠1/\d≠n:=by refine ga fun b=>u ⟨t,fun d o=>?_⟩;by_cases h:d=1;exact .inl h;by_cases i:d=n;exact .inr i;exact absurd ⟨d,o,h,i⟩ b
 obtain⟨d,⟨c,b⟩,h,i⟩:=this;have r:d≠0:=by rintro rfl;omega
 have l:c≠0:=by rintro rfl;omega
 have m:c≠1:=by rintro rfl;omega
 by_cases s:d<=c;obtain⟨q,j,g⟩:=B1 d aa;have:=qM aa g;refine⟨q,j,wX g ⟨c,b⟩,?_⟩;rw[b];exact tQ this aa;obtain⟨q,j,e⟩:=B1 c aa;have:=qM aa e;refine⟨q,j,wX e ⟨d,by rw[b,lD]⟩,?_⟩;rw[b];exact tQ aa this
def pm:Nat->Nat->Nat->Nat->Nat
 | 0,_,_,n=>1%n
 | f+1,a,e,n=>match beq e 0 with
  | true=>1%n
  | false=>match beq (e%2) 1 with
   | true=>a*pm f (a*a%n) (e/2) n%n
   | false=>pm f (a*a%n) (e/2) n
theorem YL:∀ f a e n,e<2^f->pm f a e n=a^e%n:=by
 intro f;induction f with
 | zero=>intro a e n h;have:e=0:=by simp at h;exact h
         subst this;rfl
 | succ f j =>
  intro a e n h;unfold pm;split;rename_i g;have:=fa g;subst this;rfl
  ·have d:=j (a*a%n) (e/2) n (by rw[lE] at h;omega);have c:(a*a%n)^(e/2)%n=a^(2*(e/2))%n:=by rw[<- Nat.pow_mod,Nat.pow_mul,Nat.pow_two]
   split;rename_i b;have b:=fa b;rw[d,c,Nat.mul_mod_mod,<- Nat.pow_succ'];congr 2;omega
   ·rename_i b;have b:e%2≠1:=fun i=>by rw[i] at b;exact absurd b ae
    rw[d,c];congr 2;omega
theorem JX {a q:Nat} (h:0<q):a∣a^q:=by obtain⟨j,rfl⟩:∃ j,q=j+1:=⟨q-1,aa⟩;exact⟨a^j,by rw[lE,lD]⟩
theorem uF {N q k a f:Nat} (s:jc q) (G:N=q*k+1) (I:N<2^f) (t:pm f a (q*k) N=1) (u:Nat.gcd (pm f a k N+(N-1)) N=1) {d:Nat} (w:jc d) (b:d∣N):q∣d-1:=by
 have D:k<2^f:=by have:k<=q*k:=Nat.le_mul_of_pos_left k (by have:=s.1;omega);omega
 have e:=w.1;rw[YL f a _ N aa] at t;rw[YL f a k N D] at u;have i:(a^k)^q%d=1:=by rw[<- Nat.pow_mul,lD k q,<- Nat.mod_mod_of_dvd _ b,t,hY e]
 have o:a^k%d≠1:=by
  intro A;have l:d∣a^k%N+(N-1):=by
   have y:(a^k%N)%d=1:=by rw[Nat.mod_mod_of_dvd _ b];exact A
   refine Nat.dvd_of_mod_eq_zero ?_;obtain⟨c,H⟩:=b;have:a^k%N+(N-1)+1=a^k%N+d*c:=aa;have z:(a^k%N+(N-1)+1)%d=1:=by rw[this,Be,y]
   have g:=qP (a^k%N+(N-1)) 1 d;rw[z,hY e] at g;have F:=Nat.mod_lt (a^k%N+(N-1)) (show 0<d by omega);generalize (a^k%N+(N-1))%d=r at *;by_cases E:r+1=d;rw[E,Nat.mod_self] at g;cases g;rw[hY aa] at g;omega
  have:=Nat.dvd_gcd l b;rw[u] at this;have:=qM aa this;omega
 have j:¬ d∣a^k:=by intro h;have:(a^k)^q%d=0:=Nat.mod_eq_zero_of_dvd (wX h (JX (by have:=s.1;omega)));rw[this] at i;cases i
 have x:=w.Oq j;refine ga fun m=>?_;have C:=s.coprime m;have:=aa6 q (d-1) i x;rw[C,Nat.pow_one] at this;exact o this
def De (n:Nat):Nat->Nat->Bool
 | 0,a => !(beq (n%a) 0)
 | f+1,a=>De n f a&&De n f (a+2^f)
theorem Q0 {n:Nat}:∀ f a,De n f a=true->∀ d,a<=d->d<a+2^f->¬ d∣n:=by
 intro f;induction f with
 | zero =>
  intro a h d c b g;have:d=a:=by simp at b;omega
  subst this;unfold De at h;rw[Nat.mod_eq_zero_of_dvd g] at h;simp at h
 | succ f e =>intro a h d c b;unfold De at h;simp only[aX] at h;rw[lE] at b;by_cases i:d<a+2^f;exact e a h.1 d c i;exact e (a+2^f) h.2 d aa aa
theorem xM {n f:Nat} (e:1<n) (j:n<(2+2^f)*(2+2^f)) (h:De n f 2=true):jc n:=by refine ga fun g=>?_;obtain⟨d,b,a,c⟩:=mi e g;refine Q0 f 2 h d b.1 ?_ a;refine ga fun i=>?_;have:(2+2^f)*(2+2^f)<=d*d:=tQ aa aa;omega
theorem td {K d n:Nat} (g:1<d) (h:K∣d-1) (b:d*d<=n) (e:n<K*K):False:=by have c:=qM aa h;have:K*K<=d*d:=tQ aa aa;omega
theorem Rk:jc 421987:=xM (f:=10) ae ae ab
theorem GI:jc 13090036741:=by refine ga fun h=>?_;obtain⟨d,e,c,b⟩:=mi (n:=13090036741) ae h;have g:421987∣d-1:=uF (k:=31020) (a:=2) (f:=34) Rk ab (Odt ab) ab ab e c;exact td e.1 g b (Odt ab)
theorem Rl:jc 755057:=xM (f:=10) ae ae ab
theorem uG:jc 3819663927398918131021:=by refine ga fun i=>?_;obtain⟨d,c,b,e⟩:=mi (n:=3819663927398918131021) ae i;have g:13090036741∣d-1:=uF (k:=291799328220) (a:=2) (f:=72) GI ab (Odt ab) ab ab c b;have h:755057∣d-1:=uF (k:=5058775598926860) (a:=2) (f:=72) Rl ab (Odt ab) ab ab c b;have g1:13090036741*755057∣d-1:=sB (show Nat.gcd 13090036741 755057=1 by kernel_rfl) g h;rw[show 13090036741*755057=9883723871549237 by kernel_rfl] at g1;exact td c.1 g1 e (Odt ab)
theorem mV:jc 1125266252156850182658904441386709967:=by refine ga fun h=>?_;obtain⟨d,e,c,b⟩:=mi (n:=1125266252156850182658904441386709967) ae h;have g:3819663927398918131021∣d-1:=uF (k:=294598235223046) (a:=2) (f:=120) uG ab (Odt ab) ab ab e c;exact td e.1 g b (Odt ab)
theorem fo:jc 15778400344354997994418419698270088123916926905054652752758194827714659:=by refine ga fun h=>?_;obtain⟨d,e,c,b⟩:=mi (n:=15778400344354997994418419698270088123916926905054652752758194827714659) ae h;have g:1125266252156850182658904441386709967∣d-1:=uF (k:=14021926201120671579994175730661374) (a:=2) (f:=234) mV ab (Odt ab) ab ab e c;exact td e.1 g b (Odt ab)
theorem afY:jc 4002409555221667393417789825735904156556882819939007885332058136124031650490837864442687629129015664037894272559787:=by refine ga fun h=>?_;obtain⟨d,e,c,b⟩:=mi (n:=4002409555221667393417789825735904156556882819939007885332058136124031650490837864442687629129015664037894272559787) ae h;have g:15778400344354997994418419698270088123916926905054652752758194827714659∣d-1:=uF (k:=253663835868735594330404923636534084567099854) (a:=2) (f:=381) fo ab (Odt ab) ab ab e c;exact td e.1 g b (Odt ab)
theorem J2:jc 254760293:=xM (f:=14) ae ae ab
theorem Ml:jc 52437899:=xM (f:=13) ae ae ab
theorem NB:jc 2529403:=xM (f:=11) ae ae ab
theorem NA:jc 2508409:=xM (f:=11) ae ae ab
theorem Rn:jc 906349:=xM (f:=10) ae ae ab
theorem Rm:jc 859267:=xM (f:=10) ae ae ab
theorem afZ:jc 52435875175126190479447740508185965837690552500527637822603658699938581184513:=by refine ga fun s=>?_;obtain⟨d,c,b,e⟩:=mi (n:=52435875175126190479447740508185965837690552500527637822603658699938581184513) ae s;have j:254760293∣d-1:=uF (k:=205824363591567193241718168805002771125288949563767528806397073424384) (a:=2) (f:=255) J2 ab (Odt ab) ab ab c b;have l:52437899∣d-1:=uF (k:=999961405302035279473110478895921551656570994587857873989262207090688) (a:=2) (f:=255) Ml ab (Odt ab) ab ab c b;have m:2529403∣d-1:=uF (k:=20730534112249487519168649878325425342537568153642435714120548880482304) (a:=2) (f:=255) NB ab (Odt ab) ab ab c b;have o:2508409∣d-1:=uF (k:=20904037250355181503274681484632675866531555460264908084209416686010368) (a:=2) (f:=255) NA ab (Odt ab) ab ab c b;have q:906349∣d-1:=uF (k:=57853956009358636109763171259841369977448590444219211167666824479244288) (a:=2) (f:=255) Rn ab (Odt ab) ab ab c b;have r:859267∣d-1:=uF (k:=61023960160376449321861238134579782346686830170980193377150127608692736) (a:=2) (f:=255) Rm ab (Odt ab) ab ab c b;have g1:254760293*52437899∣d-1:=sB (show Nat.gcd 254760293 52437899=1 by kernel_rfl) j l;rw[show 254760293*52437899=13359094513544407 by kernel_rfl] at g1;have g2:13359094513544407*2529403∣d-1:=sB (show Nat.gcd 13359094513544407 2529403=1 by kernel_rfl) g1 m;rw[show 13359094513544407*2529403=33790533739842763699021 by kernel_rfl] at g2;have g:33790533739842763699021*2508409∣d-1:=sB (show Nat.gcd 33790533739842763699021 2508409=1 by kernel_rfl) g2 o;rw[show 33790533739842763699021*2508409=84760478947825247047497567589 by kernel_rfl] at g;have h:84760478947825247047497567589*906349∣d-1:=sB (show Nat.gcd 84760478947825247047497567589 906349=1 by kernel_rfl) g q;rw[show 84760478947825247047497567589*906349=76822575333882464836252372886722561 by kernel_rfl] at h;have i:76822575333882464836252372886722561*859267∣d-1:=sB (show Nat.gcd 76822575333882464836252372886722561 859267=1 by kernel_rfl) h r;rw[show 76822575333882464836252372886722561*859267=66011103839419183912452067693255434822787 by kernel_rfl] at i;exact td c.1 i e (Odt ab)
section
variable {M:Int} [Md M]
instance rgZm : Rg (Zm M) where
 add_comm a b:=Zm.ext (by simp only[Qd,Int.add_comm])
 add_assoc a b c:=by rw[<- jb a,<- jb b,<- jb c];simp only[uB,Int.add_assoc]
 zero_add a:=by rw[<- jb a,<- P6];simp only[uB,Int.zero_add]
 neg_add a:=by rw[<- jb a,<- P6];simp only[uB,Hp];congr 1;omega
 sub_def a b:=by rw[<- jb a,<- jb b];simp only[uB,Hp,C1];congr 1
 mul_comm:=xq
 mul_assoc:=rQ
 one_mul:=WH
 add_mul:=Kx
theorem afq (x:Zm M) (n:Nat):(zpow x n).v=x.v^n%M:=by
 induction n with
 | zero=>show (1:Zm M).v=_;rw[Gu,Int.pow_zero,de aa Md.gt]
 | succ n a=>show (zpow x n*x).v=_;rw[xr,a,Int.pow_succ,dH,kB,<- dH]
theorem JV {P:Nat} (g:M=(P:Int)) (i:jc P) {x:Zm M} (j:x≠0) {n:Nat} (k:n+2=P):x*zpow x n=1:=by
 obtain⟨a,d⟩:=jU x.nn;have c:¬ P∣a:=by
  intro h;have b:a<P:=by have:=x.lt;omega
  have:a=0:=Nat.eq_zero_of_dvd_of_lt h b;exact j (Zm.ext (by rw[uA,d,this];rfl))
 have f:=i.Oq c;refine Zm.ext ?_;rw[xr,afq,Gu,dH,kB,<- dH,gM,<- Int.pow_succ,d,g,<- Int.natCast_pow];have e:P-1=n+1:=aa;rw[e] at f;rw[<- Int.natCast_emod,f];rfl
end
theorem abQ:Mp=(4002409555221667393417789825735904156556882819939007885332058136124031650490837864442687629129015664037894272559787:Int):=rfl
theorem abR:Mr=(52435875175126190479447740508185965837690552500527637822603658699938581184513:Int):=rfl
theorem P7 {x:Fp} (a:x≠0):x*mU x 4002409555221667393417789825735904156556882819939007885332058136124031650490837864442687629129015664037894272559785=1:=by rw[zu];exact JV abQ afY a (Odt ab)
theorem UR {x:Fr} (a:x≠0):x*mU x 52435875175126190479447740508185965837690552500527637822603658699938581184511=1:=by rw[zu];exact JV abR afZ a (Odt ab)
instance fdFp:Fd Fp where
 deq:=inferInstance
 inv x:=mU x 4002409555221667393417789825735904156556882819939007885332058136124031650490837864442687629129015664037894272559785
 mul_inv _ h:=P7 h
 one_ne:=ae
 two_ne:=ae
 three_ne:=ae
instance fdFr:Fd Fr where
 deq:=inferInstance
 inv x:=mU x 52435875175126190479447740508185965837690552500527637822603658699938581184511
 mul_inv _ h:=UR h
 one_ne:=ae
 two_ne:=ae
 three_ne:=ae
end Cr
namespace Go.Proofs.YtofofalgjibokaaGreatDoor
open Go.IntKind(i64 u64 u8)
open Go.IntKind(i64)
def IT:Nat->Prop->Prop
 | 0,P=>P
 | n+1,P=>True/\IT n P
theorem PR {P:Prop} (h:P):∀ n,IT n P:=by
 intro n;induction n with
 | zero=>exact h
 | succ n a=>exact⟨trivial,a⟩
theorem Ey {a b:Type} [DecidableEq a] [DecidableEq b] (p q:a × b):(decide (p.1=q.1)&&decide (p.2=q.2))=decide (p=q):=by rw[nr];simp[Prod.ext_iff]
namespace g1
abbrev bk:Kd:=.pair .fp (.pair .fp .fp)
theorem Vx:enters Tryz.prog 89 Tryz.f89:=ek
abbrev Di:HL [aQ]->HO [.val bk]:=fun (p,_)=>(jj (F:=Fp) p,())
theorem Ot:aO Tryz.prog 89 [aQ] [.val bk] bB (fun _=>True) Di:=by refine bg (sp:=aU [fp.ti]) (aM (aR fp.tw) bD) mixed Vx ae ae ?_;rintro w a ⟨p,⟨⟩⟩;revert p;intro (p:Fp × Fp) _ _;refine aq (X:=(((decide (p.1=0)&&decide (p.2=0))=true->(((0:Fp),(0:Fp),(0:Fp)),())=Di (p,()))/\((decide (p.1=0)&&decide (p.2=0))=false->gI 1/\((p.1,p.2,(1:Fp)),())=Di (p,())))) ab ?_;rw[Ey p ((0:Fp),(0:Fp))];refine⟨fun h=>?_,fun h=>⟨by constructor<;>decide,?_⟩⟩;show _=(jj p,());unfold jj;rw[ak (Odt h)];show _=(jj p,());unfold jj;rw[ai (Odf h)]
def GZ:Nat × Eng.Spec:=(89,aK [aQ] [.val bk] (fun _=>True) Di)
theorem SD:enters Tryz.prog 92 Tryz.f92:=ek
abbrev Af:HL [bk]->HO [.val aQ]:=fun (a,_)=>(iQ (F:=Fp) a,())
theorem K5:aO Tryz.prog 92 [bk] [.val aQ] bB (fun _=>True) Af:=by refine bg (sp:=aU [fp.MH,fp.Kk,fp.fN,fp.kx]) (aM (aR fp.HS) (aM (aR fp.K1) (aM (aR fp.js) (aM (aR fp.nR) bD)))) mixed SD ae ae ?_;rintro w b ⟨a,⟨⟩⟩;revert a;intro (a:Fp × Fp × Fp) _ _;refine aq (X:=(True/\(decide (a.2.2=0)=true->(((0:Fp),(0:Fp)),())=Af (a,()))/\(decide (a.2.2=0)=false->IT 5 (((a.1*(fp.sk a.2.2*fp.sk a.2.2),a.2.1*(fp.sk a.2.2*fp.sk a.2.2)*fp.sk a.2.2),())=Af (a,()))))) ab ?_;refine⟨trivial,fun h=>?_,fun h=>PR ?_ _⟩;show _=(iQ a,());unfold iQ;rw[ak (Odt h)];show _=(iQ a,());unfold iQ;rw[ai (Odf h)];rfl
def DE:Nat × Eng.Spec:=(92,aK [bk] [.val aQ] (fun _=>True) Af)
theorem Qt:enters Tryz.prog 91 Tryz.f91:=ek
abbrev xv:HL [bk]->HO [.val bk]:=fun (a,_)=>(rH (F:=Fp) a,())
theorem I9:aO Tryz.prog 91 [bk] [.val bk] bB (fun _=>True) xv:=by refine bg (sp:=aU [fp.MH,fp.jO,fp.G1,fp.fN,fp.kx]) (aM (aR fp.HS) (aM (aR fp.nQ) (aM (aR fp.B9) (aM (aR fp.js) (aM (aR fp.nR) bD))))) mixed Qt ae ae ?_;rintro w b ⟨a,⟨⟩⟩;revert a;intro (a:Fp × Fp × Fp) _ _;refine aq (X:=(True/\(decide (a.2.2=0)=true->(((0:Fp),(0:Fp),(0:Fp)),())=xv (a,()))/\(decide (a.2.2=0)=false->IT 18 ((QV a,())=xv (a,()))))) ab ?_;refine⟨trivial,fun h=>?_,fun h=>PR ?_ _⟩;show _=(rH a,());unfold rH;rw[ak (Odt h)];show _=(rH a,());unfold rH;rw[ai (Odf h)]
def Ff:Nat × Eng.Spec:=(91,aK [bk] [.val bk] (fun _=>True) xv)
theorem yH:enters Tryz.prog 90 Tryz.f90:=ek
abbrev kS:HL [bk,bk]->HO [.val bk]:=fun (a,b,_)=>(nC (F:=Fp) a b,())
abbrev wd (a b:Fp × Fp × Fp):Fp:=b.1*(a.2.2*a.2.2)-a.1*(b.2.2*b.2.2)
abbrev rs (a b:Fp × Fp × Fp):Fp:=b.2.1*(a.2.2*a.2.2)*a.2.2-a.2.1*(b.2.2*b.2.2)*b.2.2
theorem nQ:aO Tryz.prog 90 [bk,bk] [.val bk] bB (fun _=>True) kS:=by
 refine bg (sp:=aU [fp.MH,fp.G1,fp.fN,fp.kx,Ff]) (aM (aR fp.HS) (aM (aR fp.B9) (aM (aR fp.js) (aM (aR fp.nR) (aM (aR I9) bD))))) mixed yH ae ae ?_;rintro w g ⟨a,b,⟨⟩⟩;revert a b;intro (a:Fp × Fp × Fp) (b:Fp × Fp × Fp) _ _
 refine aq (X:=(True/\(decide (a.2.2=0)=true->(b,())=kS (a,b,()))/\(decide (a.2.2=0)=false->True/\(decide (b.2.2=0)=true->(a,())=kS (a,b,()))/\(decide (b.2.2=0)=false ->
  IT 11 ((decide (wd a b=0)=true->True/\(decide (rs a b=0)=true->True/\(rH (F:=Fp) a,())=kS (a,b,()))/\(decide (rs a b=0)=false->(((0:Fp),(0:Fp),(0:Fp)),())=kS (a,b,()))) /\
   (decide (wd a b=0)=false->IT 13 ((Wm (F:=Fp) (wd a b) (rs a b) (a.1*(b.2.2*b.2.2)) (a.2.1*(b.2.2*b.2.2)*b.2.2) a.2.2 b.2.2,())=kS (a,b,())))))))) ab ?_
 refine⟨trivial,fun h=>?_,fun h=>⟨trivial,fun d=>?_,fun d=>PR ⟨fun e=>⟨trivial,fun f=>⟨trivial,?_⟩,fun f=>?_⟩,fun e=>PR ?_ _⟩ _⟩⟩;all_goals show _=(nC a b,())
 all_goals unfold nC
 rw[ak (Odt h)];rw[ai (Odf h),ak (Odt d)];rw[ai (Odf h),ai (Odf d),ak (Odt e),ak (Odt f)];rw[ai (Odf h),ai (Odf d),ak (Odt e),ai (Odf f)];rw[ai (Odf h),ai (Odf d),ai (Odf e)]
def jO:Nat × Eng.Spec:=(90,aK [bk,bk] [.val bk] (fun _=>True) kS)
end g1
end Go.Proofs.YtofofalgjibokaaGreatDoor
namespace Cr
open Rg Fd
open Go.IntKind(i64 u64 u8)
open Go.IntKind(i64)
def dh (b:Int):Int:=Int.fdiv b (2^min (toNat 4) IntKind.u8.bits)
def dl (b:Int):Int:=aD .and .u8 b 15
theorem Yb {b:Int} (a:0<=b) (d:b<256):dh b=b/16/\0<=dh b/\dh b<16:=by
 have e:dh b=b/16:=by show Int.fdiv b (2^4)=b/16;rw[sD b ae];rfl
 rw[e];omega
theorem Yc {b:Int} (d:0<=b) (a:b<256):dl b=b%16/\0<=dl b/\dl b<16:=by
 obtain⟨n,rfl⟩:=jU d;have f:n<256:=aa;have e:dl (n:Int)=(n:Int)%16:=by
  show IntKind.u8.wrap ((BitVec.ofInt 8 (n:Int) &&& BitVec.ofInt 8 15:BitVec 8).toNat:Int)=_;have a:(BitVec.ofInt 8 (n:Int)).toNat=n:=by rw[show BitVec.ofInt 8 (n:Int)=BitVec.ofNat 8 n from tH ..,qG,hY aa]
  rw[wT,a,show (BitVec.ofInt 8 15).toNat=15 from rfl];have h:=Ba n 4;rw[show 2^4-1=15 from rfl] at h;rw[h];have:IntKind.u8.wrap ((n%2^4:Nat):Int)=((n%2^4:Nat):Int):=by simp[IntKind.wrap,IntKind.signed,IntKind.bits];omega
  rw[this];omega
 rw[e];omega
section
variable {F:Type} [Fd F]
def yO (ps:List (F × F)):Nat->Jc F
 | 0=>(0,0,0)
 | k+1=>nC (yO ps k) (jj (ps.getD k (0,0)))
def jt (o:Jc F):Nat->Jc F
 | 0=>(0,0,0)
 | k+1=>nC (jt o k) o
def Lz (s:Jc F):Nat->Jc F
 | 0=>s
 | k+1=>rH (Lz s k)
def LB (a:List (Jc F)) (s:Jc F) (d:Int):Jc F:=nC (Lz s 4) (a.getD d.toNat (0,0,0))
def Jl (d:List (Jc F)) (a:List Int) (s:Jc F):Nat->Jc F
 | 0=>s
 | j+1=>LB d (Jl d a s j) (a.getD j 0)
def OL (a:List (Jc F)) (s:Jc F) (b:Int):Jc F:=Jl a [dh b,dl b] s 2
def Ch (a:List (Jc F)) (k:List Int):Nat->Jc F
 | 0=>(0,0,0)
 | i+1=>OL a (Ch a k i) (k.getD i 0)
def dg (P:F × F):Nat->F × F
 | 0=>O2
 | n+1=>cq (dg P n) P
def yh:List (F × F)->F × F
 | []=>O2
 | P::ps=>cq P (yh ps)
variable {b:F} (hb:b≠0)
include hb
theorem Dd {P:F × F} (c:gH b P) (n:Nat):gH b (dg P n):=by
 induction n with
 | zero=>exact .inl rfl
 | succ n a=>exact yW hb a c
theorem o4 {P:F × F} (a:gH b P) (m n:Nat):dg P (m+n)=cq (dg P m) (dg P n):=by
 induction n with
 | zero=>exact (my _).symm
 | succ n c=>show cq (dg P (m+n)) P=cq (dg P m) (cq (dg P n) P);rw[c,Gz hb (Dd hb a m) (Dd hb a n) a]
theorem s7 {P:F × F} (c:gH b P) (m n:Nat):dg (dg P m) n=dg P (m*n):=by
 induction n with
 | zero=>rfl
 | succ n a=>show cq (dg (dg P m) n) (dg P m)=_;rw[a,<- o4 hb c];rfl
theorem Wx {P:F × F} (a:gH b P) (n:Nat):dg (dD P) n=dD (dg P n):=by
 induction n with
 | zero=>exact rZ.symm
 | succ n c=>show cq (dg (dD P) n) (dD P)=_;rw[c,<- Mf hb (Dd hb a n) a];rfl
omit hb in
theorem yR (n:Nat):dg (O2:F × F) n=O2:=by
 induction n with
 | zero=>rfl
 | succ n a=>show cq (dg O2 n) O2=O2;rw[a,jE]
omit hb in
theorem LQ {P:F × F}:dg P 2=cq P P:=by show cq (cq O2 P) P=_;rw[jE]
omit hb in
theorem EO {P:F × F}:dg P 1=P:=jE P
theorem aeJ {o:Jc F} {P:F × F} (h:mC b o P) (k:Nat):mC b (jt o k) (dg P k):=by
 induction k with
 | zero=>exact .inl ⟨rfl,rfl⟩
 | succ k a=>exact Dz hb a h
theorem abc {s:Jc F} {P:F × F} {n:Nat} (c:gH b P) (h:mC b s (dg P n)) (k:Nat):mC b (Lz s k) (dg P (2^k*n)):=by
 induction k with
 | zero=>rw[Nat.pow_zero,m6];exact h
 | succ k a =>have:=Iu hb a;rw[<- o4 hb c] at this;rw[lE,lD (2^k) 2,Nat.mul_assoc,Nat.two_mul];exact this
theorem Pk {s o:Jc F} {P:F × F} {n:Nat} (a:mC b o P) (h:mC b s (dg P n)) {d:Int} (c:0<=d) (e:d<16):mC b (LB (eY (jt o) (0,0,0) 15) s d) (dg P (16*n+d.toNat)):=by unfold LB;rw[rl _ _ _ aa aa,o4 hb a.on];exact Dz hb (abc hb a.on h 4) (aeJ hb a _)
theorem abb {s o:Jc F} {P:F × F} {n:Nat} (f:mC b o P) (h:mC b s (dg P n)) {c:Int} (a:0<=c) (d:c<256):mC b (OL (eY (jt o) (0,0,0) 15) s c) (dg P (256*n+c.toNat)):=by
 obtain⟨l,g,i⟩:=Yb a d;obtain⟨m,j,k⟩:=Yc a d;have:=Pk hb f (Pk hb f h g i) j k;have e:16*(16*n+(dh c).toNat)+(dl c).toNat=256*n+c.toNat:=by rw[l,m];omega
 rw[e] at this;exact this
omit hb in
theorem WA {k:List Int} {i:Nat} (h:i<k.length):num (k.take (i+1))=num (k.take i)*256+k.getD i 0:=by unfold num;rw[cw h,Bw];simp[h]
theorem abe {o:Jc F} {P:F × F} (f:mC b o P) {k:List Int} (d:Bs k) (i:Nat) (j:i<=k.length):0<=num (k.take i)/\mC b (Ch (eY (jt o) (0,0,0) 15) k i) (dg P (num (k.take i)).toNat):=by
 induction i with
 | zero=>exact⟨by simp[num],.inl ⟨rfl,by simp[num,dg]⟩⟩
 | succ i g =>
  obtain⟨h,c⟩:=g aa;have a:0<=k.getD i 0/\k.getD i 0<256:=by
   have:k.getD i 0∈k:=by rw[a2,bu aa];exact dr aa
   exact d _ this
  have:=abb hb f c a.1 a.2;rw[WA aa];refine⟨aa,?_⟩;have e:(num (k.take i)*256+k.getD i 0).toNat=256*(num (k.take i)).toNat+(k.getD i 0).toNat:=aa;rw[e];exact this
theorem MQ {P:F × F} (c:gH b P) {k:List Int} (a:Bs k):iQ (Ch (eY (jt (jj P)) (0,0,0) 15) k k.length)=dg P (num k).toNat:=by have:=(abe hb (E6 c) a k.length (aI _)).2;rw[aT] at this;exact JF this
theorem aa8 {a:List (F × F)} (h:∀ P∈a,gH b P):gH b (yh a):=by
 induction a with
 | nil=>exact .inl rfl
 | cons P a d=>exact yW hb (h P aw) (d (fun Q c=>h Q (by simp[c])))
theorem TU {a:List (F × F)} (h:∀ P∈a,gH b P) {Q:F × F} (e:gH b Q):yh (a++[Q])=cq (yh a) Q:=by
 induction a with
 | nil=>show cq Q O2=cq O2 Q;rw[my,jE]
 | cons P a d =>show cq P (yh (a++[Q]))=cq (cq P (yh a)) Q;rw[d (fun R c=>h R (by simp[c])),Gz hb (h P aw) (aa8 hb (fun R c=>h R (by simp[c]))) e]
theorem abd {a:List (F × F)} (h:∀ P∈a,gH b P) (i:Nat) (g:i<=a.length):mC b (yO a i) (yh (a.take i)):=by
 induction i with
 | zero=>exact .inl ⟨rfl,by simp[yh]⟩
 | succ i f =>
  have e:a.getD i (0,0)=a[i]:=by simp[show i<a.length by omega]
  have c:gH b (a[i]):=h _ (dr _);rw[cw aa,TU hb (fun P d=>h P (nm d)) c];show mC b (nC (yO a i) (jj (a.getD i (0,0)))) _;rw[e];exact Dz hb (f aa) (E6 c)
theorem ae9 {ps:List (F × F)} (h:∀ P∈ps,gH b P):iQ (yO ps ps.length)=yh ps:=by have:=abd hb h ps.length (aI _);rw[aT] at this;exact JF this
theorem add_eq {P Q:F × F} (c:gH b P) (d:gH b Q):iQ (yO [P,Q] 2)=cq P Q:=by have:=ae9 hb (ps:=[P,Q]) (by intro R a;simp at a;rcases a with rfl|rfl<;>assumption);rw[show yh [P,Q]=cq P Q by show cq P (cq Q O2)=_;rw[my]] at this;exact this
end
end Cr
namespace Go.Proofs.YtofofalgjibokaaGreatDoor
namespace g1
open Go.IntKind(i64 u64 u8)
open Go.IntKind(i64)
abbrev bc (s:Fp × Fp × Fp):List Cell:=[.row .fp 1 [s.1],.row .fp 1 [s.2.1],.row .fp 1 [s.2.2]]
abbrev pc (s:Fp × Fp):List Cell:=[.row .fp 1 [s.1],.row .fp 1 [s.2]]
theorem HP:enters Tryz.prog 128 Tryz.f128:=ek
def IE (a:List (Fp × Fp)) (g:Int × (Fp × Fp × Fp)):St:=av Tryz.f128.ntmps 40 [(2,ao 0 0),(3,ao 8 0),(6,ag (.ro aQ a)),(7,sI .i64 a.length),(8,sI .i64 g.1)] [(8,bc g.2),(0,pc (0,0))]
def ae8 (a:List (Fp × Fp)) (g:Int × (Fp × Fp × Fp)):Int × (Fp × Fp × Fp):=(IntKind.i64.wrap (g.1+1),nC (F:=Fp) g.2 (jj (F:=Fp) (a.getD g.1.toNat (0,0))))
abbrev Mj:HL [.sl aQ]->Prop:=fun (a,_)=>length a<4611686018427387904
abbrev Gx:HL [.sl aQ]->HO [.val aQ]:=fun (a,_)=>(iQ (F:=Fp) (yO a (length a)),())
theorem K7:aO Tryz.prog 128 [.sl aQ] [.val aQ] bB Mj Gx:=by
 have d:aJ Tryz.prog (aU [GZ,jO,DE]):=aM (aR Ot) (aM (aR nQ) (aM (aR K5) bD));refine bL (sp:=aU [GZ,jO,DE]) HP ae ae ab ?_;rintro w i ⟨b,⟨⟩⟩;revert b;intro (b:List (Fp × Fp)) _ f;have f:b.length<4611686018427387904:=f;show Tr _ _ _ _ _ _ _;refine bh d mixed 3 (IE b (0,yO b 0)) True ?_ (fun _=>?_);exact aq (X:=(IE b (0,yO b 0)).ah True) ab (au trivial);refine fP d mixed (IE b) (fun k=>((k:Int),yO b k)) b.length (ae8 b) (IE b) (c:=ar (al Tryz.f128) 3) ab ab (ay ab ab trivial)
  (fun k g=>by show (_,_)=(_,_);rw[aS aa];rfl) ?_ ?_
 ·intro k g;generalize j:yO b k=s
  refine aq (X:=((decide ((k:Int)<(b.length:Int))=true->(0<=(k:Int)/\(k:Int)<(b.length:Int))/\(k:Int).toNat<b.length/\True/\True/\(IE b (ae8 b ((k:Int),s))).ah (k<b.length)) /\
   (decide ((k:Int)<(b.length:Int))=false->(IE b ((k:Int),s)).ah (k=b.length)))) ab ?_
  refine⟨fun h=>?_,fun h=>au (by have:=bX h;omega)⟩;have e:k<b.length:=by have:=dec_lt h;omega
  exact⟨⟨aa,aa⟩,aa,trivial,trivial,au e⟩
 refine bJ d mixed _ _ ?_;exact aq (X:=(True/\(iQ (F:=Fp) (yO b b.length),())=Gx (b,()))) ab ⟨trivial,rfl⟩
def Kl:Nat × Eng.Spec:=(128,aK [.sl aQ] [.val aQ] Mj Gx)
theorem VA:enters Tryz.prog 87 Tryz.f87:=ek
abbrev O4:HL [aQ,aQ]->HO [.val aQ]:=fun (p,q,_)=>(iQ (F:=Fp) (yO [p,q] 2),())
theorem aac:aO Tryz.prog 87 [aQ,aQ] [.val aQ] bB (fun _=>True) O4:=by refine bg (sp:=aU [Kl]) (aM (aR K7) bD) mixed VA ae ae ?_;rintro w a ⟨p,q,⟨⟩⟩;revert p q;intro (p:Fp × Fp) (q:Fp × Fp) _ _;refine aq (X:=((0+2:Nat)<=2/\Mj ([p,q],())/\Gx ([p,q],())=O4 (p,q,()))) ab ?_;exact⟨ae,show (2:Nat)<4611686018427387904 by decide,rfl⟩
theorem VE:enters Tryz.prog 86 Tryz.f86:=ek
abbrev Ia:HL [aQ]->HO [.val aQ]:=fun (p,_)=>(dD (F:=Fp) p,())
theorem Ov:aO Tryz.prog 86 [aQ] [.val aQ] bB (fun _=>True) Ia:=by refine bg (sp:=aU [fp.Aw]) (aM (aR fp.yK) bD) mixed VE ae ae ?_;rintro w a ⟨p,⟨⟩⟩;revert p;intro (p:Fp × Fp) _ _;exact aq (X:=(True/\(((p.1,-p.2),())=Ia (p,())))) ab ⟨trivial,rfl⟩
def ae4:Nat × Eng.Spec:=(86,aK [aQ] [.val aQ] (fun _=>True) Ia)
def b4:Fp:=zm 4
theorem acn:enters Tryz.prog 166 Tryz.f166:=ek
def yb (p:Fp × Fp):Bool:=decide (p=((0:Fp),(0:Fp)))||decide (p.2*p.2=p.1*p.1*p.1+b4)
theorem EH (p:Fp × Fp):yb p=true↔gH b4 p:=by unfold yb gH On;simp
abbrev Dj:HL [aQ]->HO [.val .bool]:=fun (p,_)=>(yb p,())
theorem Yf:aO Tryz.prog 166 [aQ] [.val .bool] bB (fun _=>True) Dj:=by refine bg (sp:=aU [fp.fN,fp.kx,fp.ti,fp.jO]) (aM (aR fp.js) (aM (aR fp.nR) (aM (aR fp.tw) (aM (aR fp.nQ) bD)))) mixed acn ae ae ?_;rintro w a ⟨p,⟨⟩⟩;revert p;intro (p:Fp × Fp) _ _;refine aq (X:=(((decide (p.1=0)&&decide (p.2=0))=true->(true,())=Dj (p,()))/\((decide (p.1=0)&&decide (p.2=0))=false->IT 3 (gI 4/\True/\(decide (p.2*p.2=p.1*p.1*p.1+b4),())=Dj (p,()))))) ab ?_;rw[Ey p ((0:Fp),(0:Fp))];refine⟨fun h=>?_,fun h=>PR ⟨by constructor<;>decide,trivial,?_⟩ _⟩;simp only[Dj,yb,h,Bool.true_or];simp only[Dj,yb,h,Bool.false_or]
def ajo:Nat × Eng.Spec:=(166,aK [aQ] [.val .bool] (fun _=>True) Dj)
abbrev Jp:=Fp × Fp × Fp
def PI (k:List Int) (o:Jp) (g:Int × List Jp):St:=av Tryz.f52.ntmps 64 [(1,ag (.ro (.int .u8) k)),(4,ao 8 0),(5,ao 16 0),(6,ao 40 0),(15,sI .i64 g.1)] [(40,bc o),(16,[.row bk 16 g.2]),(8,pc (0,0))]
def tmS (k:List Int) (b:List Jp) (s:Jp) (a:Nat) (c:List (Nat × SV)):St:=av Tryz.f52.ntmps a ([(4,ao 8 0),(5,ao 16 0),(8,ao 64 0),(27,ag (.ro (.int .u8) k)),(28,sI .i64 k.length)]++c) [(64,bc s),(16,[.row bk 16 b]),(8,pc (0,0))]
abbrev Hg (k:List Int) (a:List Jp) (g:Int × Jp):St:=tmS k a g.2 96 [(29,sI .i64 g.1)]
abbrev Eg (k:List Int) (b:List Jp) (i:Int) (a:List Int) (g:Int × Jp):St:=tmS k b g.2 168 [(29,sI .i64 i),(37,.is (.agg [.ints .u8 2 a])),(38,sI .i64 g.1)]
abbrev PJ (k:List Int) (b:List Jp) (i:Int) (a:List Int) (j d:Int) (g:Int × Jp):St:=tmS k b g.2 184 [(29,sI .i64 i),(37,.is (.agg [.ints .u8 2 a])),(38,sI .i64 j),(12,sI .u8 d),(41,sI .i64 g.1)]
theorem ue:enters Tryz.prog 52 Tryz.f52:=ek
abbrev dB:HL [aQ,.sl (.int .u8)]->Prop:=fun (_,k,_)=>Bs k/\length k<4611686018427387904
abbrev iY:HL [aQ,.sl (.int .u8)]->HO [.val aQ]:=fun (p,k,_)=>(iQ (F:=Fp) (Ch (eY (jt (jj (F:=Fp) p)) (0,0,0) 15) k (length k)),())
theorem gN:aO Tryz.prog 52 [aQ,.sl (.int .u8)] [.val aQ] bB dB iY:=by
 have f:aJ Tryz.prog (aU [GZ,jO,DE,Ff]):=aM (aR Ot) (aM (aR nQ) (aM (aR K5) (aM (aR I9) bD)));refine bL (sp:=aU [GZ,jO,DE,Ff]) ue ae ae ab ?_;rintro w V ⟨p,k,⟨⟩⟩;revert p k;intro (p:Fp × Fp) (k:List Int) _ U;obtain⟨C,I⟩:=U;have C:Bs k:=C;have I:k.length<4611686018427387904:=I;show Tr _ _ _ _ _ _ _;refine bh f mixed 4 (PI k (jj (F:=Fp) p) (0,eY (jt (jj (F:=Fp) p)) (0,0,0) 0)) True ?_ (fun _=>?_);exact aq (X:=(True/\(PI k (jj (F:=Fp) p) (0,eY (jt (jj (F:=Fp) p)) (0,0,0) 0)).ah True)) ab ⟨trivial,au trivial⟩;generalize T:jj (F:=Fp) p=o;refine fP f mixed (PI k o) (fun n=>((n:Int),eY (jt o) (0,0,0) n)) 15 (fun g=>(i64.wrap (g.1+1),g.2.set (i64.wrap (g.1+1)).toNat (nC (F:=Fp) (g.2.getD g.1.toNat (0,0,0)) o))) (PI k o) (c:=ar (al Tryz.f52) 4) ab ab (ay ab ab trivial)
  (fun n D=>by
   show (_,_)=(_,_)
   rw[aS aa,aF,aF,rl _ _ _ (aI n) aa,show nC (F:=Fp) (jt o n) o=jt o (n+1) from rfl,CT]) ?_ ?_
 ·intro n D;generalize eY (jt o) (0,0,0) n=a
  refine aq (X:=((decide ((n:Int)<15)=true->(0<=(n:Int)/\(n:Int)<(16:Int))/\(n:Int).toNat<16/\True/\(0<=i64.wrap ((n:Int)+1)/\i64.wrap ((n:Int)+1)<(16:Int))/\(i64.wrap ((n:Int)+1)).toNat<16 /\
    (PI k o (i64.wrap ((n:Int)+1),a.set (i64.wrap ((n:Int)+1)).toNat (nC (F:=Fp) (a.getD (n:Int).toNat (0,0,0)) o))).ah (n<15)) /\
   (decide ((n:Int)<15)=false->(PI k o ((n:Int),a)).ah (n=15)))) ab ?_
  refine⟨fun h=>?_,fun h=>au (by have:=bX h;omega)⟩;have l:n<15:=by have:=dec_lt h;omega
  rw[aS aa];exact⟨⟨aa,aa⟩,aa,trivial,⟨aa,aa⟩,aa,au l⟩
 subst T;show Tr _ _ _ _ _ _ _;generalize E:eY (jt (jj (F:=Fp) p)) (0,0,0) 15=a;refine bh f mixed 2 (Hg k a (0,Ch a k 0)) True ?_ (fun _=>?_);exact aq (X:=(Hg k a (0,Ch a k 0)).ah True) ab (au trivial);refine xL (Hg k a) (fun i=>((i:Int),Ch a k i)) k.length (fun g=>(i64.wrap (g.1+1),OL a g.2 (k.getD g.1.toNat 0))) (Hg k a) (c:=ar (al Tryz.f52) 7) ab ab (ay ab ab trivial)
  (fun i R=>by show (_,_)=(_,_);rw[aS aa,aF];rfl) ?_ ?_
 ·intro i R;generalize Ch a k i=s;refine bh f mixed 2 (Hg k a ((i:Int),s)) (i<k.length) ?_ (fun l=>?_);refine aq (X:=((decide ((i:Int)<(k.length:Int))=true->(Hg k a ((i:Int),s)).ah (i<k.length))/\(decide ((i:Int)<(k.length:Int))=false->(Hg k a ((i:Int),s)).ah (i=k.length)))) ab ?_;exact⟨fun h=>au (by have:=dec_lt h;omega),fun h=>au (by have:=bX h;omega)⟩;have m:0<=k.getD i 0/\k.getD i 0<256:=by
   have:k.getD i 0∈k:=by rw[a2,bu l];exact dr l
   exact C _ this
  have q:k.getD (i:Int).toNat 0=k.getD i 0:=by rw[aF]
  generalize Q:k.getD i 0=b at m q;obtain⟨_,K,L⟩:=Yb m.1 m.2;obtain⟨_,N,O⟩:=Yc m.1 m.2;refine mn (c:=ar (aV (ar (al Tryz.f52) 7)) 2) ab ab ?_;refine bh f mixed 2 (Eg k a (i:Int) [dh (k.getD (i:Int).toNat 0),dl (k.getD (i:Int).toNat 0)] (0,Jl a [dh b,dl b] s 0)) True ?_ (fun _=>?_);refine aq (X:=((0<=(i:Int)/\(i:Int)<(k.length:Int))/\(i:Int).toNat<k.length/\(0:Int)<=4/\(Eg k a (i:Int) [dh (k.getD (i:Int).toNat 0),dl (k.getD (i:Int).toNat 0)] (0,Jl a [dh b,dl b] s 0)).ah True)) ab ?_;exact⟨⟨aa,aa⟩,aa,ae,au trivial⟩;rw[q];generalize t:[dh b,dl b]=e;have x:∀ j,j<2->0<=e.getD j 0/\e.getD j 0<16:=by
   intro j A;subst t;match j,A with
   | 0,_=>exact⟨K,L⟩
   | 1,_=>exact⟨N,O⟩
  refine xL (Eg k a (i:Int) e) (fun j=>((j:Int),Jl a e s j)) 2 (fun g=>(i64.wrap (g.1+1),LB a g.2 (e.getD g.1.toNat 0))) (Eg k a (i:Int) e) (c:=ar (cV (ar (aV (ar (al Tryz.f52) 7)) 2)) 2) ab ab (ay ab ab trivial)
   (fun j A=>by show (_,_)=(_,_);rw[aS aa,aF];rfl) ?_ ?_
  ·intro j A;generalize Jl a e s j=y;refine bh f mixed 2 (Eg k a (i:Int) e ((j:Int),y)) (j<2) ?_ (fun u=>?_);refine aq (X:=((decide ((j:Int)<2)=true->(Eg k a (i:Int) e ((j:Int),y)).ah (j<2))/\(decide ((j:Int)<2)=false->(Eg k a (i:Int) e ((j:Int),y)).ah (j=2)))) ab ?_;exact⟨fun h=>au (by have:=dec_lt h;omega),fun h=>au (by have:=bX h;omega)⟩;have H:=x j u;have r:e.getD (j:Int).toNat 0=e.getD j 0:=by rw[aF]
   generalize e.getD j 0=d at H r;refine mn (c:=ar (aV (ar (cV (ar (aV (ar (al Tryz.f52) 7)) 2)) 2)) 2) ab ab ?_;refine bh f mixed 2 (PJ k a (i:Int) e (j:Int) (e.getD (j:Int).toNat 0) (0,Lz y 0)) True ?_ (fun _=>?_);refine aq (X:=((0<=(j:Int)/\(j:Int)<(2:Int))/\(PJ k a (i:Int) e (j:Int) (e.getD (j:Int).toNat 0) (0,Lz y 0)).ah True)) ab ?_;exact⟨⟨aa,aa⟩,au trivial⟩;rw[r];refine fP f mixed (PJ k a (i:Int) e (j:Int) d) (fun n=>((n:Int),Lz y n)) 4 (fun g=>(i64.wrap (g.1+1),rH (F:=Fp) g.2)) (PJ k a (i:Int) e (j:Int) d) (c:=ar (cV (ar (aV (ar (cV (ar (aV (ar (al Tryz.f52) 7)) 2)) 2)) 2)) 2) ab ab (ay ab ab trivial)
    (fun n D=>by show (_,_)=(_,_);rw[aS aa];rfl) ?_ ?_
   intro n D;generalize Lz y n=z;refine aq (X:=((decide ((n:Int)<4)=true->True/\(PJ k a (i:Int) e (j:Int) d (i64.wrap ((n:Int)+1),rH (F:=Fp) z)).ah (n<4))/\(decide ((n:Int)<4)=false->(PJ k a (i:Int) e (j:Int) d ((n:Int),z)).ah (n=4)))) ab ?_;exact⟨fun h=>⟨trivial,au (by have:=dec_lt h;omega)⟩,fun h=>au (by have:=bX h;omega)⟩;refine bh f mixed 1 (Eg k a (i:Int) e ((j:Int),LB a y d)) True ?_ (fun _=>?_);refine aq (X:=((0<=d/\d<(16:Int))/\d.toNat<16/\True/\(Eg k a (i:Int) e ((j:Int),LB a y d)).ah True)) ab ?_;exact⟨⟨H.1,aa⟩,aa,trivial,au trivial⟩;refine kk ?_;refine bJ f mixed _ _ ?_;exact aq (X:=(Eg k a (i:Int) e (i64.wrap ((j:Int)+1),LB a y d)).ah (j<2)) ab (au u)
  refine kk ?_;refine bJ f mixed _ _ ?_;have P:OL a s b=Jl a e s 2:=by unfold OL;rw[t]
  show VC _ _ _ (fun G=>G.le _ (Hg k a (i64.wrap ((i:Int)+1),OL a s b)) (i<k.length)) _ _;rw[P];generalize Jl a e s 2=z;exact aq (X:=(Hg k a (i64.wrap ((i:Int)+1),z)).ah (i<k.length)) ab (au l)
 refine bJ f mixed _ _ ?_;refine aq (X:=(True/\(iQ (F:=Fp) (Ch a k k.length),())=iY (p,k,()))) ab ⟨trivial,?_⟩;show _=(iQ (F:=Fp) (Ch (eY (jt (jj (F:=Fp) p)) (0,0,0) 15) k k.length),());rw[E]
def iC:Nat × Eng.Spec:=(52,aK [aQ,.sl (.int .u8)] [.val aQ] dB iY)
def Y9 (p:Fp × Fp) (k:List Int):Fp × Fp:=iQ (F:=Fp) (Ch (eY (jt (jj (F:=Fp) p)) (0,0,0) 15) k (length k))
def JA (p:Fp × Fp) (k:Fr):Fp × Fp:=Y9 p (dw 32 k.v)
theorem VD:enters Tryz.prog 20 Tryz.f20:=ek
abbrev H9:HL [aQ,.fr]->HO [.val aQ]:=fun (p,k,_)=>(JA p k,())
theorem Ou:aO Tryz.prog 20 [aQ,.fr] [.val aQ] bB (fun _=>True) H9:=by refine bg (sp:=aU [fr.vn,iC]) (aM (aR fr.sM) (aM (aR gN) bD)) mixed VD ae ae ?_;rintro w a ⟨p,k,⟨⟩⟩;revert p k;intro (p:Fp × Fp) (k:Fr) _ _;refine aq (X:=(True/\0+32<=32/\dB (p,(dw 32 k.v).take 32,())/\(Y9 p ((dw 32 k.v).take 32),())=H9 (p,k,()))) ab ?_;rw[bW (by rw[gE];exact aI _)];exact⟨trivial,ae,⟨w6 _ _,by show (dw 32 k.v).length<_;rw[gE];decide⟩,rfl⟩
def ae3:Nat × Eng.Spec:=(20,aK [aQ,.fr] [.val aQ] (fun _=>True) H9)
end g1
namespace ref01
open Go.IntKind(i64 u64 u8)
open Go.IntKind(i64)
theorem Vm:enters Tryz.prog 34 Tryz.f34:=ek
def Oc (b:List Int) (g:Int × List Int):St:=av Tryz.f34.ntmps 64 [(0,ag (.ro (.int .u8) b)),(3,ag (.sl 24 0 0 (b.length:Int).toNat 1)),(9,sI .i64 b.length),(10,sI .i64 g.1)] [(24,[.ints .u8 (b.length:Int).toNat g.2])]
def FM (b:List Int) (k:Nat):List Int:=b.take k++replicate (b.length-k) 0
theorem Vf {b:List Int} {k:Nat} (h:k<b.length):(FM b k).set k (b.getD k 0)=FM b (k+1):=by
 unfold FM;rw[qp _ _ (by simp;omega),cw h];have e:b.length-k=(b.length-(k+1))+1:=aa;have a:k-(b.take k).length=0:=by simp;omega
 rw[a,e,oV,oD,cH];simp[h]
abbrev Ij:HL [.sl (.int .u8)]->Prop:=fun (b,_)=>length b<=281474976710656
abbrev Dh:HL [.sl (.int .u8)]->HO [.own (.int .u8)]:=fun (b,_)=>(b,())
theorem Z1:aO Tryz.prog 34 [.sl (.int .u8)] [.own (.int .u8)] bB Ij Dh:=by
 have a:aJ Tryz.prog (aU []):=bD;refine bL (sp:=aU []) Vm ae ae ab ?_;rintro w j ⟨b,⟨⟩⟩;revert b;intro (b:List Int) _ f;have f:b.length<=281474976710656:=f;show Tr _ _ _ _ _ _ _;refine bh a mixed 3 (Oc b (0,replicate (b.length:Int).toNat 0)) True ?_ (fun _=>?_);refine aq (X:=((0<=(b.length:Int)/\(b.length:Int)<=(b.length:Int)/\1*(b.length:Int)<=281474976710656/\(b.length:Int)<=9223372036854775807)/\(Oc b (0,replicate (b.length:Int).toNat 0)).ah True)) ab ?_;exact⟨⟨aa,aa,aa,aa⟩,au trivial⟩;rw[show replicate (b.length:Int).toNat (0:Int)=FM b 0 by simp[FM]];refine fP a mixed (Oc b) (fun k=>((k:Int),FM b k)) b.length (fun g=>(IntKind.i64.wrap (g.1+1),g.2.set g.1.toNat (b.getD g.1.toNat 0))) (Oc b) (c:=ar (al Tryz.f34) 3) ab ab (ay ab ab trivial)
  (fun k e=>by show (_,_)=(_,_);rw[aS aa,aF,Vf e]) ?_ ?_
 ·intro k e;generalize FM b k=i
  refine aq (X:=((decide ((k:Int)<(b.length:Int))=true->(0<=(k:Int)/\(k:Int)<(b.length:Int))/\(k:Int).toNat<b.length/\(0<=(k:Int)/\(k:Int)<((b.length:Int).toNat:Int))/\(k:Int).toNat<(b.length:Int).toNat/\(Oc b (IntKind.i64.wrap ((k:Int)+1),i.set (k:Int).toNat (b.getD (k:Int).toNat 0))).ah (k<b.length)) /\
   (decide ((k:Int)<(b.length:Int))=false->(Oc b ((k:Int),i)).ah (k=b.length)))) ab ?_
  refine⟨fun h=>?_,fun h=>au (by have:=bX h;omega)⟩;have d:k<b.length:=by have:=dec_lt h;omega
  exact⟨⟨aa,aa⟩,aa,⟨aa,aa⟩,aa,au d⟩
 refine bJ a mixed _ _ ?_;refine aq (X:=(0+(b.length:Int).toNat<=(b.length:Int).toNat/\(((FM b b.length).take (b.length:Int).toNat,()):List Int × Unit)=Dh (b,()))) ab ⟨aa,?_⟩;simp[FM,Dh]
def Up:Nat × Eng.Spec:=(34,aK [.sl (.int .u8)] [.own (.int .u8)] Ij Dh)
end ref01
namespace g1
open Go.IntKind(i64 u64 u8)
open Go.IntKind(i64)
theorem nv:b4≠0:=ae
def gG:Fp × Fp:=eR (gx,gy)
def oe (p q:Fp × Fp):Fp × Fp:=eR (iQ (F:=Fp) (yO [p,q] 2))
def Cb (p:Fp × Fp):Fp × Fp:=eR (dD (F:=Fp) p)
def sR (p:Fp × Fp) (k:List Int):Fp × Fp:=eR (Y9 p k)
def cZ (p:Fp × Fp) (k:Fr):Fp × Fp:=eR (JA p k)
def o0 (p:Fp × Fp):Bool:=eR (yb p)
theorem K9:aO Tryz.prog 19 [] [.val aQ] bB (fun _=>True) (fun _=>(gG,())):=acK.out fun _=>by show (gG,())=((gx,gy),());rw[gG,bm]
theorem SW:aO Tryz.prog 87 [aQ,aQ] [.val aQ] bB (fun _=>True) (fun (p,q,_)=>(oe p q,())):=aac.out fun (p,q,_)=>by show (oe p q,())=(_,());rw[oe,bm]
theorem ac8:aO Tryz.prog 86 [aQ] [.val aQ] bB (fun _=>True) (fun (p,_)=>(Cb p,())):=Ov.out fun (p,_)=>by show (Cb p,())=(_,());rw[Cb,bm]
theorem V4:aO Tryz.prog 52 [aQ,.sl (.int .u8)] [.val aQ] bB dB (fun (p,k,_)=>(sR p k,())):=gN.out fun (p,k,_)=>by show (sR p k,())=(_,());rw[sR,bm];rfl
theorem FY:aO Tryz.prog 20 [aQ,.fr] [.val aQ] bB (fun _=>True) (fun (p,k,_)=>(cZ p k,())):=Ou.out fun (p,k,_)=>by show (cZ p k,())=(_,());rw[cZ,bm]
theorem afL:aO Tryz.prog 166 [aQ] [.val .bool] bB (fun _=>True) (fun (p,_)=>(o0 p,())):=Yf.out fun (p,_)=>by show (o0 p,())=(_,());rw[o0,bm]
def Kj:Nat × Eng.Spec:=(19,aK [] [.val aQ] (fun _=>True) (fun _=>(gG,())))
def Ki:Nat × Eng.Spec:=(87,aK [aQ,aQ] [.val aQ] (fun _=>True) (fun (p,q,_)=>(oe p q,())))
def Y0:Nat × Eng.Spec:=(86,aK [aQ] [.val aQ] (fun _=>True) (fun (p,_)=>(Cb p,())))
def Pv:Nat × Eng.Spec:=(52,aK [aQ,.sl (.int .u8)] [.val aQ] dB (fun (p,k,_)=>(sR p k,())))
def DC:Nat × Eng.Spec:=(20,aK [aQ,.fr] [.val aQ] (fun _=>True) (fun (p,k,_)=>(cZ p k,())))
def aeX:Nat × Eng.Spec:=(166,aK [aQ] [.val .bool] (fun _=>True) (fun (p,_)=>(o0 p,())))
abbrev IQ (p:Fp × Fp):Prop:=gH b4 p
theorem J6:gG=(gx,gy):=bm _
theorem Yk:IQ gG:=by rw[J6];exact (EH _).1 (by decide +kernel)
theorem Oz {p q:Fp × Fp} (a:IQ p) (b:IQ q):oe p q=cq p q:=by rw[oe,bm];exact add_eq nv a b
theorem aar (p:Fp × Fp):Cb p=dD p:=bm _
theorem aaw {p:Fp × Fp} (b:IQ p) {k:List Int} (a:Bs k):sR p k=dg p (num k).toNat:=by rw[sR,bm];exact MQ nv b a
theorem n7 {p:Fp × Fp} (a:IQ p) (k:Fr):cZ p k=dg p k.v.toNat:=by rw[cZ,bm,JA,Y9,MQ nv a (w6 _ _),Gs 32 _ k.nn (Int.lt_trans k.lt ae)]
theorem ve (p:Fp × Fp):o0 p=true↔IQ p:=by rw[o0,bm];exact EH p
end g1
end Go.Proofs.YtofofalgjibokaaGreatDoor
namespace Cr
open Rg Fd
open Go.IntKind(i64 u64 u8)
open Go.IntKind(i64)
structure Ev (F:Type) [Fd F] where
 V:Type
 φ:V->F
 add:V->V->V
 sub:V->V->V
 mul:V->V->V
 isz:V->Bool
 zero:V
 force:{α:Type}->V->(V->α)->α
 add_φ:∀ a b,φ (add a b)=φ a+φ b
 sub_φ:∀ a b,φ (sub a b)=φ a-φ b
 mul_φ:∀ a b,φ (mul a b)=φ a*φ b
 isz_φ:∀ a,isz a=true↔φ a=0
 zero_φ:φ zero=0
 force_eq:∀ {α:Type} (a:V) (k:V->α),force a k=k a
section
variable {F:Type} [Fd F] (E:Ev F)
abbrev Ev.J:=E.V × E.V × E.V
def Ev.φ3 (a:E.J):Jc F:=(E.φ a.1,E.φ a.2.1,E.φ a.2.2)
def Ev.Sn (a:E.J):E.J:=match E.isz a.2.2 with
 | true=>(E.zero,E.zero,E.zero)
 | false =>
  E.force (E.mul a.1 a.1) fun e=>E.force (E.mul a.2.1 a.2.1) fun f=>E.force (E.add (E.add e e) e) fun d =>
  E.force (E.mul a.1 f) fun g=>E.force (E.add g g) fun h=>E.force (E.add h h) fun c =>
  E.force (E.add f f) fun i=>E.force (E.mul i i) fun b =>
  E.force (E.sub (E.sub (E.mul d d) c) c) fun x =>
  E.force (E.sub (E.sub (E.mul d (E.sub c x)) b) b) fun y =>
  E.force (E.mul a.2.1 a.2.2) fun j=>E.force (E.add j j) fun z=>(x,y,z)
theorem Ev.X9 (a:E.J):E.φ3 (E.Sn a)=rH (E.φ3 a):=by
 unfold Ev.Sn rH;cases h:E.isz a.2.2 with
 | true =>have:(E.φ3 a).2.2=0:=(E.isz_φ _).1 h;rw[ak this];show (E.φ E.zero,E.φ E.zero,E.φ E.zero)=_;rw[E.zero_φ]
 | false =>
  have:(E.φ3 a).2.2≠0:=fun e=>by have:=(E.isz_φ a.2.2).2 e;rw[h] at this;cases this
  rw[ai this];simp only[E.force_eq];simp only[Ev.φ3,QV,Tp,E.add_φ,E.sub_φ,E.mul_φ]
def Ev.nC (a c:E.J):E.J:=match E.isz a.2.2 with
 | true=>c
 | false=>match E.isz c.2.2 with
  | true=>a
  | false =>
   E.force (E.mul a.2.2 a.2.2) fun i=>E.force (E.mul c.2.2 c.2.2) fun j =>
   E.force (E.mul a.1 j) fun left=>E.force (E.mul c.1 i) fun right =>
   E.force (E.mul (E.mul a.2.1 j) c.2.2) fun g=>E.force (E.mul (E.mul c.2.1 i) a.2.2) fun f =>
   E.force (E.sub right left) fun b=>E.force (E.sub f g) fun d =>
   match E.isz b with
   | true=>match E.isz d with
    | true=>E.Sn a
    | false=>(E.zero,E.zero,E.zero)
   | false =>
    E.force (E.mul b b) fun k=>E.force (E.mul k b) fun e=>E.force (E.mul left k) fun h =>
    E.force (E.sub (E.sub (E.sub (E.mul d d) e) h) h) fun x =>
    E.force (E.sub (E.mul d (E.sub h x)) (E.mul g e)) fun y =>
    E.force (E.mul (E.mul a.2.2 c.2.2) b) fun z=>(x,y,z)
theorem Ev.ad6 (a c:E.J):E.φ3 (E.nC a c)=Cr.nC (E.φ3 a) (E.φ3 c):=by
 have nz:∀ v:E.V,E.isz v=false->E.φ v≠0:=fun v h e=>by have:=(E.isz_φ v).2 e;rw[h] at this;cases this
 unfold Ev.nC Cr.nC;cases h:E.isz a.2.2 with
 | true=>rw[ak (show (E.φ3 a).2.2=0 from (E.isz_φ _).1 h)]
 | false =>
  rw[ai (show (E.φ3 a).2.2≠0 from nz _ h)];cases f:E.isz c.2.2 with
  | true=>rw[ak (show (E.φ3 c).2.2=0 from (E.isz_φ _).1 f)]
  | false =>
   rw[ai (show (E.φ3 c).2.2≠0 from nz _ f)];simp only[E.force_eq];have d:E.φ (E.sub (E.mul c.1 (E.mul a.2.2 a.2.2)) (E.mul a.1 (E.mul c.2.2 c.2.2)))=(E.φ3 c).1*((E.φ3 a).2.2*(E.φ3 a).2.2)-(E.φ3 a).1*((E.φ3 c).2.2*(E.φ3 c).2.2):=by simp only[Ev.φ3,E.sub_φ,E.mul_φ]
   have b:E.φ (E.sub (E.mul (E.mul c.2.1 (E.mul a.2.2 a.2.2)) a.2.2) (E.mul (E.mul a.2.1 (E.mul c.2.2 c.2.2)) c.2.2))=(E.φ3 c).2.1*((E.φ3 a).2.2*(E.φ3 a).2.2)*(E.φ3 a).2.2-(E.φ3 a).2.1*((E.φ3 c).2.2*(E.φ3 c).2.2)*(E.φ3 c).2.2:=by simp only[Ev.φ3,E.sub_φ,E.mul_φ]
   cases g:E.isz (E.sub (E.mul c.1 (E.mul a.2.2 a.2.2)) (E.mul a.1 (E.mul c.2.2 c.2.2))) with
   | true =>
    have:=(E.isz_φ _).1 g;rw[d] at this;rw[ak this];cases i:E.isz (E.sub (E.mul (E.mul c.2.1 (E.mul a.2.2 a.2.2)) a.2.2) (E.mul (E.mul a.2.1 (E.mul c.2.2 c.2.2)) c.2.2)) with
    | true =>have:=(E.isz_φ _).1 i;rw[b] at this;rw[ak this];exact E.X9 a
    | false =>have:=nz _ i;rw[b] at this;rw[ai this];show (E.φ E.zero,E.φ E.zero,E.φ E.zero)=_;rw[E.zero_φ]
   | false =>have:=nz _ g;rw[d] at this;rw[ai this];simp only[Ev.φ3,Wm,OK,E.sub_φ,E.mul_φ]
def Ev.LL (o:E.J):Nat->Nat->E.J
 | 0,_=>(E.zero,E.zero,E.zero)
 | f+1,n=>match beq n 0 with
  | true=>(E.zero,E.zero,E.zero)
  | false=>match beq (n%2) 1 with
   | true=>E.nC (E.Sn (Ev.LL o f (n/2))) o
   | false=>E.Sn (Ev.LL o f (n/2))
variable {E} in
theorem Ev.Wv {b:F} (c:b≠0) {o:E.J} {P:F × F} (j:mC b (E.φ3 o) P):∀ f n,n<2^f->mC b (E.φ3 (E.LL o f n)) (dg P n):=by
 have g:mC b (E.φ3 (E.zero,E.zero,E.zero)) (O2:F × F):=.inl ⟨E.zero_φ,rfl⟩;intro f;induction f with
 | zero=>intro n h;have:n=0:=by simp at h;exact h
         subst this;exact g
 | succ f q =>
  intro n h;unfold Ev.LL;split;rename_i l;have:=fa l;subst this;exact g
  ·have m:=q (n/2) (by rw[lE] at h;omega);have d:=Iu c m;rw[<- E.X9,<- o4 c j.on] at d;split
   ·rename_i a;have a:=fa a;have i:=Dz c d j;rw[<- E.ad6] at i;have e:n=n/2+n/2+1:=aa;have:dg P n=cq (dg P (n/2+n/2)) P:=by
     conv=>lhs;rw[e]
     rfl
    rw[this];exact i
   ·rename_i a;have a:n%2≠1:=fun k=>by rw[k] at a;exact absurd a ae
    have e:n=n/2+n/2:=aa;have:dg P n=dg P (n/2+n/2):=by conv=>lhs;rw[e]
    rw[this];exact d
end
def fc {a:Type} (n:Nat) (k:Nat->a):a:=Nat.rec (k 0) (fun m _=>k (m+1)) n
theorem afH {a:Type} (n:Nat) (k:Nat->a):fc n k=k n:=by cases n<;>rfl
def pN:Nat:=4002409555221667393417789825735904156556882819939007885332058136124031650490837864442687629129015664037894272559787
theorem Ho (n:Nat):(zm ((n%pN:Nat):Int):Fp)=zm (n:Int):=Zj (by rw[Int.natCast_emod];exact Bm _ (Int.dvd_refl _))
def QA:Ev Fp where
 V:=Nat
 φ n:=zm (n:Int)
 add a b:=(a+b)%pN
 sub a b:=(a+(pN-b%pN))%pN
 mul a b:=(a*b)%pN
 isz a:=beq (a%pN) 0
 zero:=0
 force:=fc
 add_φ a b:=by rw[Ho,uB,Int.natCast_add]
 sub_φ a b:=by
  rw[Ho,C1];refine Zj ?_;have h:=Nat.mod_lt b (show 0<pN by decide);have e:((a+(pN-b%pN):Nat):Int)=(a:Int)-b+(pN:Int)*(1+(b:Int)/pN):=by have h2:=wF (b:Int) (pN:Int);rw[qN,lF];omega
  rw[e];exact wE _ _ _
 mul_φ a b:=by rw[Ho,uC,wU]
 isz_φ a:=by
  constructor;intro h;have h:=fa h;rw[<- Ho,h];rfl
  ·intro h;have h:(zm (a:Int):Fp).v=0:=by rw[h,uA]
   have h:(a:Int)%(pN:Int)=0:=h;have:a%pN=0:=aa;rw[this];rfl
 zero_φ:=rfl
 force_eq:=afH
def gxN:Nat:=0x17f1d3a73197d7942695638c4fa9ac0fc3688c4f9774b905a14e3a3f171bac586c55e83ff97a1aeffb3af00adb22c6bb
def gyN:Nat:=0x08b3f481e3aaa0f1a09e30ed741d8ae4fcf5e095d5d00af600db18cb2c04b3edd03cc744a2888ae40caa232946c5e7e1
theorem afV:QA.isz (QA.LL (gxN,gyN,(1:Nat)) 256 52435875175126190479447740508185965837690552500527637822603658699938581184513).2.2=true:=ab
end Cr
namespace Go.Proofs.YtofofalgjibokaaGreatDoor
namespace g1
open Go.IntKind(i64 u64 u8)
open Go.IntKind(i64)
theorem Yj:gG≠O2:=by rw[J6];decide
def rN:Nat:=52435875175126190479447740508185965837690552500527637822603658699938581184513
theorem ade:dg gG rN=O2:=by
 have a:mC b4 (QA.φ3 (gxN,gyN,(1:Nat))) gG:=by have h:=E6 Yk;unfold jj at h;rw[ai Yj,J6] at h;rw[J6];exact h
 have b:=Ev.Wv nv a 256 rN ae;have c:=(QA.isz_φ _).1 afV;rcases b with ⟨_,h⟩|⟨h,_⟩;exact h;exact absurd c h
def Sub (p:Fp × Fp):Prop:=IQ p/\dg p rN=O2
theorem mA:Sub gG:=⟨Yk,ade⟩
theorem Xq {p:Fp × Fp} (h:Sub p) (n:Nat):Sub (dg p n):=by refine⟨Dd nv h.1 n,?_⟩;rw[s7 nv h.1,lD,<- s7 nv h.1,h.2,yR]
theorem nJ {p:Fp × Fp} (h:Sub p) (k:Fr):Sub (cZ p k):=by rw[n7 h.1];exact Xq h _
theorem Ww {p:Fp × Fp} (h:Sub p) (m:Nat):dg p m=dg p (m%rN):=by
 conv=>lhs;rw[<- Nat.div_add_mod m rN]
 rw[o4 nv h.1,<- s7 nv h.1,h.2,yR,jE]
theorem Yh (x:Fr):∃ n:Nat,x.v=(n:Int)/\n<rN:=by obtain⟨n,a⟩:=jU x.nn;exact⟨n,a,by have:=x.lt;have e:Mr=(rN:Int):=rfl;omega⟩
theorem LO {p:Fp × Fp} (h:Sub p) {x:Fr} {m:Nat} (a:x.v=(m:Int)%(rN:Int)):cZ p x=dg p m:=by rw[n7 h.1,a,Ww h m,<- Int.natCast_emod,aF]
theorem mul_add {p:Fp × Fp} (h:Sub p) (x y:Fr):cZ p (x+y)=cq (cZ p x) (cZ p y):=by obtain⟨m,a,_⟩:=Yh x;obtain⟨n,b,_⟩:=Yh y;rw[LO h (x:=x+y) (m:=m+n) (by rw[Qd,a,b,Int.natCast_add];rfl),n7 h.1,n7 h.1,a,b,aF,aF,o4 nv h.1]
theorem OU {p:Fp × Fp} (h:Sub p) (x y:Fr):cZ p (x*y)=cZ (cZ p x) y:=by obtain⟨m,a,_⟩:=Yh x;obtain⟨n,b,_⟩:=Yh y;rw[LO h (x:=x*y) (m:=m*n) (by rw[xr,a,b,wU];rfl),n7 (nJ h x).1,n7 h.1,a,b,aF,aF,s7 nv h.1]
theorem mul_zero {p:Fp × Fp} (h:Sub p):cZ p 0=O2:=by rw[n7 h.1,uA];rfl
theorem mul_one {p:Fp × Fp} (h:Sub p):cZ p 1=p:=by rw[n7 h.1,Gu];exact EO
theorem mul_neg {p:Fp × Fp} (h:Sub p) (x:Fr):cZ p (-x)=dD (cZ p x):=by
 have e:cq (cZ p x) (cZ p (-x))=O2:=by rw[<- mul_add h,Rg.add_neg,mul_zero h]
 have b:=(nJ h x).1;have a:=(nJ h (-x)).1;have:=cancel nv b a;rw[e,my] at this;exact this.symm
end g1
end Go.Proofs.YtofofalgjibokaaGreatDoor
namespace Go.Eng
open Go.ChangeShapes Go.WideShapes Go.ChangeAt
open Go.IntKind(i64 u64 u8)
open Go.IntKind(i64)
theorem mapM_some {d e:Type} {f:d->Option e}:∀ {l:List d} {r:List e},l.mapM f=some r->r.length=l.length/\∀ (i:Nat) (x:d),l[i]?=some x->f x=r[i]?:=by
 intro l;induction l with
 | nil=>intro r h;simp at h;subst h;exact⟨rfl,fun i x a=>by simp at a⟩
 | cons y l k =>
  intro r h;rw[List.mapM_cons] at h;cases b:f y with
  | none=>rw[b] at h;simp at h
  | some z =>
   cases c:l.mapM f with
   | none=>rw[b,c] at h;simp at h
   | some m =>
    rw[b,c] at h;simp at h;subst h;obtain⟨g,j⟩:=k c;refine⟨by simp[g],fun i x a=>?_⟩;cases i with
    | zero=>simp at a;subst a;simpa using b
    | succ i=>simp at a;simpa using j i x a
theorem BE (a:Addr) (n:Nat):(a.add n).block=a.block:=by unfold Addr.add;split<;>rfl
theorem Ky (a:Addr) (n:Nat):(a.add n).off=a.off+n:=by unfold Addr.add;split;rename_i h;subst h;rfl;rfl
theorem KG {W:World} {a:Addr} {c:Nat} {n:List Value} (u:0<c) (h:W.cells? 0 a c=some n) :
  ∃ l,cb W a.block=some l/\a.spot=none/\a.off+c<=l.length/\n=(l.drop a.off).take c:=by
 unfold World.cells? at h;rw[ak (a8 _)] at h;obtain⟨y,z⟩:=mapM_some h;simp only[wR] at y;have r:∀ j,j<c->W.cell? (a.add j)=n[j]?:=fun j i=>z j j (by simp[i]);have m:=r 0 u;have w:a.add 0=a:=by simp[Addr.add]
 rw[w] at m;have g:∀ j,j<c->∃ x,n[j]?=some x:=fun j i=>⟨n[j]'aa,aw⟩;obtain⟨D,q⟩:=g 0 u;rw[q] at m;unfold World.cell? at m;split at m
 ·rename_i b C fr t;have o:a.spot=none:=by
   cases o:a.spot with
   | none=>rfl
   | some s=>rw[o] at m;simp at m
  have f:∀ j,j<c->b[a.off+j]?=n[j]?:=by
   intro j i;rw[<- r j i];unfold World.cell?;rw[BE,t,Ky];have:(a.add j).spot=none:=by unfold Addr.add;split<;>simp[o]
   simp[this]
  have k:a.off+c<=b.toList.length:=by obtain⟨x,A⟩:=g (c-1) aa;have:=f (c-1) aa;rw[A] at this;have:=(Array.getElem?_eq_some_iff.1 this).1;rw[np];omega
  refine⟨b.toList,kF (l:=b.toList) t (fun e=>by rw[e,eH] at k;omega),o,k,?_⟩;refine By fun j=>?_;by_cases i:j<c;rw[fE,ak i,List.getElem?_drop,<- f j i,Array.getElem?_toList];rw[fE,ai i];simp;omega
 cases m
theorem Zl {b:Type} {R:b->List Value->Prop} {c:Nat} {l:List Value}:∀ {a:List b} {o:Nat},(∀ i (h:i<a.length),R a[i] ((l.drop (o+i*c)).take c))->dX R a ((l.drop o).take (a.length*c)):=by
 intro a;induction a with
 | nil=>intro o _;simp[dX]
 | cons y a g =>
  intro o h;refine⟨(l.drop o).take c,(l.drop (o+c)).take (a.length*c),?_,by have:=h 0 (Nat.succ_pos _);rw[jm,gh] at this;exact this,g (o:=o+c) fun i f=>?_⟩;rw[bN,iV,oN,List.take_add,fF]
  ·have:=h (i+1) (by simpa using f);have e:o+(i+1)*c=o+c+i*c:=by rw[iV];omega
   rw[e] at this;simpa using this
def P8 (P:Program) (t:TypeId) (b:Kd) (e:aH b->Prop):Prop :=
 ∀ (H:Type) (enc:TypeId × Value->H) (W:World) (a:Nat) (c:List Value) (x:DataW H × List MemPlace),DataW.trod enc P W 0 (fun _=>true) true a t c=some x ->
  (∀ n∈x.1.weights P t,n<=reachBytes)->∃ y:aH b,Rd (cb W) b y c/\e y
theorem L1 {P:Program} {t:TypeId} {k:IntKind} (b:P.underlying t=some (.int k)):P8 P t (.int k) (fun x=>(Lit.int k x).wf=true):=by intro H enc W a d x h _;obtain⟨n,rfl,rfl,c⟩:=DataW.trod_int b h;exact⟨n,rfl,c⟩
theorem IK {H:Type} {P:Program} {e:TypeId}:∀ {l:List (DataW H)} {d:DataW H} {n:Nat},d∈l->n∈d.weights P e->n∈DataW.weightsAll P e l:=by
 intro l;induction l with
 | nil=>intro d n h;simp at h
 | cons y l b =>intro d n h a;simp only[DataW.weightsAll,lA];rcases mem_cons.1 h with rfl|h;exact .inl a;exact .inr (b h a)
theorem Q7 {P:Program} {t e:TypeId} {b:Kd} {L:aH b->Prop} (X:P.underlying t=some (.slice e)) (hc:P.cellsOf e=width b) (u:0<width b) (he:P8 P e b L) :
  P8 P t (.sl b) (fun Z=>length Z*P.bytesOf e<=reachBytes/\∀ y∈Z,L y):=by
 intro H enc W V cs x h U;rcases DataW.trod_slice X h with ⟨rfl,rfl⟩|⟨a,len,z,f,Y,n,rfl,rfl,rfl,_,hl,_,F,R,_,_⟩;exact⟨[],.inl ⟨rfl,none,0,rfl,fun _=>rfl⟩,aw,fun y I=>by simp at I⟩
 ·simp only[DataW.weights,X] at U;have r:len*P.bytesOf e<=reachBytes:=by
   have:=U _ (Br ..);simp only[bZ] at this;exact h9 (fb _ aa) this
  have G:∀ i,i<len->∃ y:aH b,∃ q,W.cells? 0 (a.add (i*width b)) (width b)=some q/\Rd (cb W) b y q/\L y:=by
   intro i j;have c:=R i j;rw[hc] at c;have hx:f[i]?=some (f[i]'aa):=by simp[F,j]
   rw[hx] at c;cases D:W.cells? 0 (a.add (i*width b)) (width b) with
   | none=>rw[D] at c;simp at c
   | some q =>rw[D] at c;obtain⟨y,N,K⟩:=he H enc W n q _ c (fun m hm=>U m (qq _ (gK _ (IK (d:=(f[i]'aa).1) (mem_map.2 ⟨_,dr _,rfl⟩) hm))));exact⟨y,q,rfl,N,K⟩
  by_cases h0:len=0;subst h0;exact⟨[],.inl ⟨rfl,some a,z,rfl,fun h=>by cases h⟩,aw,fun y I=>by simp at I⟩
  ·have hf:∀ i:Fin len,∃ y:aH b,∃ q,W.cells? 0 (a.add (i.1*width b)) (width b)=some q/\Rd (cb W) b y q/\L y:=fun i=>G i.1 i.2;have Q:=Classical.axiomOfChoice hf;obtain⟨g,T⟩:=Q;obtain⟨x0,C,_⟩:=T ⟨0,aa⟩;obtain⟨l,O,o,_,_⟩:=KG u C;simp only[jm,BE] at O;have e0:a.add 0=a:=by simp[Addr.add]
   simp only[jm,e0] at o;have s:∀ i (j:i<len),a.off+i*width b+width b<=l.length/\Rd (cb W) b (g ⟨i,j⟩) ((l.drop (a.off+i*width b)).take (width b)):=by intro i j;obtain⟨q,N,K,_⟩:=T ⟨i,j⟩;obtain⟨l',w,_,E,A⟩:=KG u N;simp only[BE,Ky] at w E A;rw[O] at w;cases w;rw[A] at K;exact⟨E,K⟩
   have k:(List.ofFn g).length=len:=aw;refine⟨List.ofFn g,.inr ⟨a.block,a.off,z,?_,?_,l,fun _=>O,?_,?_⟩,?_,?_⟩
   ·have:a=⟨a.block,a.off,none⟩:=by rw[<- o]
    rw[k,<- this]
   rw[k];exact hl
   ·rw[k];have:=(s (len-1) aa).1;have e:(len-1)*width b+width b=len*width b:=by rw[<- iV];congr 1;omega
    omega
   ·refine Zl fun i j=>?_;have c:i<len:=by rw[k] at j;exact j
    have:=(s i c).2;simpa using this
   show (List.ofFn g).length*_<=_;rw[k];exact r;intro y I;obtain⟨i,j⟩:=(List.mem_ofFn ..).1 I;obtain⟨_,_,_,h3⟩:=T i;rw[<- j];exact h3
def Kq (P:Program) (t:TypeId) (b:Kd) (c:aH b->Prop):Prop :=
 ∀ (H:Type) (enc:TypeId × Value->H) (W:World) (a:Nat) (v:Value) (d:DataW H) (p:List MemPlace),Value.okWide P W .any a t v->DataW.Trod enc P W 0 (fun _=>true) true t v d p ->
  (∀ n∈d.weights P t,n<=reachBytes)->∃ y:aH b,ql (cb W) b y v/\c y
theorem WI {P:Program} {t:TypeId} {k:IntKind} (e:P.underlying t=some (.int k)):Kq P t (.int k) (fun x=>(Lit.int k x).wf=true):=by intro H enc W c v d p b ⟨a,h⟩ f;obtain⟨n,rfl⟩:=okWide_int e b;exact L1 e H enc W a _ _ h f
theorem Q9 {P:Program} {t e:TypeId} {f:Kd} {k:aH f->Prop} (j:P.underlying t=some (.slice e)) (n:P.cellsOf e=width f) (c:0<width f) (o:P8 P e f k) :
  Kq P t (.sl f) (fun l=>length l*P.bytesOf e<=reachBytes/\∀ y∈l,k y):=by
 intro H enc W i v d p g ⟨b,h⟩ q;obtain⟨a,len,m,rfl⟩:=okWide_slice j g;exact Q7 j n c o H enc W b _ _ h q
inductive OpnL (P:Program):List TypeId->(ks:List Kd)->(HL ks->Prop)->Prop
 | nil:OpnL P [] [] (fun _=>True)
 | cons {t:TypeId} {κ:Kd} {wt:aH κ->Prop} {ts:List TypeId} {ks:List Kd} {pre:HL ks->Prop} (h:Kq P t κ wt) (hr:P.readableRec t=true) (hrow:t<P.types.size) (hs:OpnL P ts ks pre):OpnL P (t::ts) (κ::ks) (fun x=>wt x.1/\pre x.2)
theorem TG {P:Program} {c:List TypeId} {b:List Kd} {pre:HL b->Prop} (h:OpnL P c b pre) {H:Type} {enc:TypeId × Value->H} {W:World} {base:Nat} :
  ∀ {vs:List Value} {ds:List (DataW H)} {p:List MemPlace},(∀ (j:Nat) t v,c[j]?=some t->vs[j]?=some v->Value.okWide P W .any base t v)->DataW.TrodAll enc P W 0 (fun _=>true) true c vs ds p ->
   (∀ n∈DataW.weightsEach P c ds,n<=reachBytes)->∃ l:HL b,ui (cb W) b l vs/\pre l:=by
 induction h with
 | nil=>intro vs ds p _ e _;obtain⟨rfl,rfl,rfl⟩:=trodAll_nil e;exact⟨(),rfl,trivial⟩
 | cons h _ _ _ x =>intro vs ds p a e k;obtain⟨v,vs,d,ds,p,q,rfl,rfl,rfl,m,o⟩:=trodAll_cons e;obtain⟨y,w,g⟩:=h H enc W base v d p (a 0 _ v rfl rfl) m (fun n f=>k n (by simp only[DataW.weightsEach,lA];exact .inl f));obtain⟨z,i,r⟩:=x (fun j t v s u=>a (j+1) t v (by simpa using s) (by simpa using u)) o (fun n f=>k n (by simp only[DataW.weightsEach,lA];exact .inr f));exact⟨(y,z),⟨v,vs,rfl,w,i⟩,g,r⟩
theorem Q8 {P:Program} (n:laidOutB P=true) {g:List TypeId} {j:List Kd} {pre:HL j->Prop} (h:OpnL P g j pre) {H:Type} {enc:TypeId × Value->H} {W i:World} (m:Below W.heap.size W i) :
  ∀ {vs:List Value} {ds:List (DataW H)} {p:List MemPlace},DataW.TrodAll enc P W 0 (fun _=>true) true g vs ds p->(∀ x∈p,x.block<W.heap.size)->DataW.TrodAll enc P i 0 (fun b=>decide (b<W.heap.size)) true g vs ds p:=by
 induction h with
 | nil=>intro vs ds p e _;obtain⟨rfl,rfl,rfl⟩:=trodAll_nil e;exact trodAll_mk0
 | cons _ o c _ r =>intro vs ds p e a;obtain⟨v,vs,d,ds,p,q,rfl,rfl,rfl,k,l⟩:=trodAll_cons e;exact⟨p,q,Below.trod n o c k m (fun x f=>a x (gK _ f)),r l (fun x f=>a x (hV _ f)),rfl⟩
theorem KF {P:Program} {f:FuncId} {fn:Func} (c:enters P f fn) {a:Array Value} {w:World} {R:Value->World->Prop} (h:nL P f a w R):Calls P f a w fun e b=>∃ v,e=.returned v/\R v b:=by rcases h with ⟨_,h⟩|⟨v,b,h,_⟩;exact h;rw[c.2 a w] at h;cases h
theorem NL {P:Program} {H:Type} {enc:TypeId × Value->H} {W:World} {b:Nat} {i:Nat->Bool} {f:Bool}:∀ {a:List TypeId} {vs:List Value} {ds:List (DataW H)} {p:List MemPlace},DataW.TrodAll enc P W b i f a vs ds p->ds.length=a.length:=by
 intro a;induction a with
 | nil=>intro vs ds p h;obtain⟨_,h,_⟩:=trodAll_nil h;rw[h];rfl
 | cons t a g =>intro vs ds p h;obtain⟨v,j,d,c,l,m,rfl,rfl,rfl,k,e⟩:=trodAll_cons h;simp[g e]
end Go.Eng
namespace Go.Proofs.YtofofalgjibokaaGreatDoor
open Go.IntKind(i64 u64 u8)
open Go.IntKind(i64)
abbrev DS:Kd:=.sl (.int .u8)
abbrev preB (b:List Int):Prop:=Bs b/\length b<=281474976710656
abbrev fy (x:Int):Prop:=-9223372036854775808<=x/\x<9223372036854775808
theorem eqP (a b:Fp × Fp):jI (.pair .fp .fp) a b=decide (a=b):=by have h:=qU (e:=.pair .fp .fp) a b;rw[nr,h,hX]
abbrev ok (b:Bool):Prop:=((b,()):Bool × Unit)=(true,())
end Go.Proofs.YtofofalgjibokaaGreatDoor
namespace Cr
open Rg Fd
open Go.IntKind(i64 u64 u8)
open Go.IntKind(i64)
section
variable {F:Type} [Rg F]
def rY:List F->F->F
 | [],_=>0
 | a::l,x=>rY l x*x+a
def GA:List F->F
 | []=>1
 | a::l=>a*GA l
end
section
variable {F:Type} [Fd F]
theorem Tm {a b:F} (c:a≠0) (h:a*b=1):inv a=b:=by refine mul_left c ?_;rw[mul_inv a c,h]
def wgt (a:List F) (x:F):F:=GA (a.filter fun y=>decide (y≠x))*inv (GA ((a.filter fun y=>decide (y≠x)).map fun y=>y-x))
end
def ub (n:Int):Nat->List Int
 | 0=>[]
 | j+1=>if n/bG (7-j)=0 then ub n j else ub n j++[n/bG (7-j)%256]
theorem KE {n:Int} (a:0<=n) (d:n<bG 8):∀ j,j<=8->Bs (ub n j)/\(ub n j).length<=j/\num (ub n j)=n/bG (8-j)
 | 0,_=>⟨(fun x h=>nomatch h),aI _,by
   show (0:Int)=n/bG 8
   rw[Bg a d]⟩
 | j+1,o=>by
  obtain⟨f,m,g⟩:=KE a d j aa;have k:8-j=(7-j)+1:=aa;have l:8-(j+1)=7-j:=aa;have i:=kb (7-j);have b:n/bG (8-j)=n/bG (7-j)/256:=by rw[k];show n/(256*bG (7-j))=_;rw[gM,nj (eJ i)]
  have q:0<=n/bG (7-j):=wV a (eJ i);rw[l];unfold ub;split;rename_i e;refine⟨f,aa,?_⟩;rw[g,b,e];rfl;refine⟨?_,by simp;omega,?_⟩;intro x hx;rcases List.mem_append.1 hx with hx|hx;exact f x hx;simp at hx;subst hx;exact⟨qJ _ ae,tK _ ae⟩;rw[vS,g,b];omega
end Cr
namespace Go.Proofs.YtofofalgjibokaaGreatDoor
namespace fr
open Go.IntKind(i64 u64 u8)
open Go.IntKind(i64)
theorem BU:enters Tryz.prog 179 Tryz.f179:=ek
def te (x:Fr) (a:List Int) (g:Int × List Fr):St:=av Tryz.f179.ntmps 64 [(2,ao 0 0),(3,ao 8 0),(4,ao 16 0),(5,ao 24 0),(11,sI .i64 g.1)] [(0,[.row .fr 1 [x]]),(8,[.ints .u64 4 a]),(16,[.row .fr 1 [(0:Fr)]]),(24,[.row .fr 16 g.2])]
def o8 (a:List Int) (b:List Fr) (g:Int × Fr):St:=av Tryz.f179.ntmps 96 [(3,ao 8 0),(4,ao 16 0),(5,ao 24 0),(7,ao 72 0),(24,sI .i64 g.1)] [(8,[.ints .u64 4 a]),(16,[.row .fr 1 [(0:Fr)]]),(24,[.row .fr 16 b]),(72,[.row .fr 1 [g.2]])]
def tf (a:List Int) (b:List Fr) (i:Int) (g:Int × Fr):St:=av Tryz.f179.ntmps 128 [(3,ao 8 0),(4,ao 16 0),(5,ao 24 0),(7,ao 72 0),(8,sI .i64 i),(24,sI .i64 i),(27,sI .i64 g.1)] [(8,[.ints .u64 4 a]),(16,[.row .fr 1 [(0:Fr)]]),(24,[.row .fr 16 b]),(72,[.row .fr 1 [g.2]])]
def Mg (a:List Int) (b:List Fr) (i:Int) (y:Fr):St:=av Tryz.f179.ntmps 104 [(3,ao 8 0),(4,ao 16 0),(5,ao 24 0),(7,ao 72 0),(24,sI .i64 i)] [(8,[.ints .u64 4 a]),(16,[.row .fr 1 [(0:Fr)]]),(24,[.row .fr 16 b]),(72,[.row .fr 1 [y]])]
abbrev pd:HL [.fr,(.arr 4 (.int .u64))]->Prop:=fun (_,a,_)=>Ws a
abbrev qA:HL [.fr,(.arr 4 (.int .u64))]->HO [.val .fr]:=fun (x,a,_)=>(mU (x:Fr) (val a),())
theorem zK:aO Tryz.prog 179 [.fr,(.arr 4 (.int .u64))] [.val .fr] bB pd qA:=by
 have d:aJ Tryz.prog (aU [uY,kx,fN]):=aM (aR B7) (aM (aR nR) (aM (aR js) bD));refine bL (sp:=aU [uY,kx,fN]) BU ae ae ab ?_;rintro w E ⟨x,a,⟨⟩⟩ ⟨_,⟨q,_⟩,_⟩ l;have q:length a=4:=q;have l:Ws a:=l;have t:=eE l;have r:val a<gB 64:=by have:=zr l;rw[q] at this;rw[show 64=16*4 from rfl,L8];exact this
 have f:a=aY 4 (val a):=by have:=sY l;rw[q] at this;exact this.symm
 show Tr _ _ _ _ _ _ _;refine bh d mixed 4 (te x a (0,(replicate 16 (0:Fr)).set 0 1)) True ?_ (fun _=>?_);refine aq (X:=True/\(0:Nat)<16/\(te x a (0,(replicate 16 (0:Fr)).set 0 1)).ah True) ab ⟨trivial,ae,au trivial⟩;rw[show (replicate 16 (0:Fr)).set 0 1=eY (zpow x) 0 0 from rfl];refine fP d mixed (te x a) (fun k=>((k:Int),eY (zpow x) 0 k)) 15 (fun g=>(i64.wrap (g.1+1),g.2.set (i64.wrap (g.1+1)).toNat (g.2.getD g.1.toNat 0*x))) (te x a) (c:=ar (al Tryz.f179) 4) ab ab (ay ab ab trivial)
  (fun k D=>by
   show (_,_)=(_,_)
   rw[aS aa,aF,aF,rl _ _ _ (aI k) aa,show zpow x k*x=zpow x (k+1) from rfl,CT]) ?_ ?_
 ·intro k D
  refine aq (X:=((decide ((k:Int)<15)=true->(0<=(k:Int)/\(k:Int)<((16:Nat):Int))/\(k:Int).toNat<16/\True/\(0<=i64.wrap ((k:Int)+1)/\i64.wrap ((k:Int)+1)<((16:Nat):Int))/\(i64.wrap ((k:Int)+1)).toNat<16 /\
    (te x a (i64.wrap ((k:Int)+1),(eY (zpow x) 0 k).set (i64.wrap ((k:Int)+1)).toNat ((eY (zpow x) 0 k).getD (k:Int).toNat 0*x))).ah (k<15)) /\
   (decide ((k:Int)<15)=false->(te x a ((k:Int),eY (zpow x) 0 k)).ah (k=15)))) ab ?_
  refine⟨fun h=>?_,fun h=>au (by have:=bX h;omega)⟩;have e:k<15:=by have:=dec_lt h;omega
  rw[aS aa];exact⟨⟨aa,aa⟩,aa,trivial,⟨aa,aa⟩,aa,au e⟩
 generalize o:eY (zpow x) 0 15=b;have m:∀ j,j<16->b.getD j 0=zpow x j:=fun j s=>by rw[<- o];exact rl _ _ _ aa s
 clear o;refine bh d mixed 2 (o8 a b (0,1)) True ?_ (fun _=>?_);refine aq (X:=True/\(o8 a b (0,1)).ah True) ab ⟨trivial,au trivial⟩
 rw[show ((0:Int),(1:Fr))=(((0:Nat):Int),zpow x (val a/gB (64-0)).toNat) by
  rw[Nat.sub_zero,Bg t r];rfl]
 refine xL (o8 a b) (fun i=>((i:Int),zpow x (val a/gB (64-i)).toNat)) 64 (fun g=>(i64.wrap (g.1+1),qe g.2 4*b.getD (mQ (3:Nat) a g.1).toNat 0)) (o8 a b) (c:=ar (al Tryz.f179) 7) ab ab (ay ab ab trivial)
  (fun i u=>by
   show (_,_)=(_,_);rw[aS aa,f,Dp (n:=3) u aa,<- f];rw[m _ aa,MI,<- zpow_add];congr 2;have:=FO t (64-1-i)
   rw[show 64-(i+1)=64-1-i by omega,this,show 64-1-i+1=64-i by omega]) ?_ ?_
 ·intro i u;generalize zpow x (val a/gB (64-i)).toNat=y;refine bh d mixed 2 (Mg a b (i:Int) y) (i<64) ?_ (fun e=>?_);refine aq (X:=((decide ((i:Int)<64)=true->(Mg a b (i:Int) y).ah (i<64))/\(decide ((i:Int)<64)=false->(o8 a b ((i:Int),y)).ah (i=64)))) ab ?_;exact⟨fun h=>au (by have:=dec_lt h;omega),fun h=>au (by have:=bX h;omega)⟩;refine mn (c:=ar (aV (ar (al Tryz.f179) 7)) 2) ab ab ?_;refine bh d mixed 2 (tf a b (i:Int) (0,y)) True ?_ (fun _=>?_);refine aq (X:=(tf a b (i:Int) (0,y)).ah True) ab (au trivial);refine fP d mixed (tf a b (i:Int)) (fun j=>((j:Int),qe y j)) 4 (fun g=>(i64.wrap (g.1+1),g.2*g.2)) (tf a b (i:Int)) (c:=ar (cV (ar (aV (ar (al Tryz.f179) 7)) 2)) 2) ab ab (ay ab ab trivial)
   (fun j s=>by show (_,_)=(_,_);rw[aS aa];rfl) ?_ ?_
  intro j s;refine aq (X:=((decide ((j:Int)<4)=true->True/\(tf a b (i:Int) (i64.wrap ((j:Int)+1),qe y j*qe y j)).ah (j<4))/\(decide ((j:Int)<4)=false->(tf a b (i:Int) ((j:Int),qe y j)).ah (j=4)))) ab ?_;exact⟨fun h=>⟨trivial,au (by have:=dec_lt h;omega)⟩,fun h=>au (by have:=bX h;omega)⟩;refine bh d mixed 1 (o8 a b ((i:Int),qe y 4*b.getD (mQ (3:Nat) a i).toNat 0)) True ?_ (fun _=>?_)
  ·refine aq (X:=((16:Int)≠0/\(0<=pj (3:Nat) i/\pj (3:Nat) i<((4:Nat):Int))/\(pj (3:Nat) i).toNat<4/\(16:Int)≠0/\0<=Pc i/\(0<=mQ (3:Nat) a i/\mQ (3:Nat) a i<((16:Nat):Int))/\(mQ (3:Nat) a i).toNat<16/\True/\(o8 a b ((i:Int),qe y 4*b.getD (mQ (3:Nat) a i).toNat 0)).ah True)) ab ?_;obtain⟨z,A,C⟩:=O8 (n:=3) e aa;have b4:0<=mQ (3:Nat) a i/\mQ (3:Nat) a i<16:=by
    rw[f,Dp (n:=3) e aa];omega
   exact⟨ae,z,A,ae,C,b4,aa,trivial,au trivial⟩
  refine kk ?_;refine bJ d mixed _ _ ?_;refine aq (X:=(o8 a b (i64.wrap ((i:Int)+1),qe y 4*b.getD (mQ (3:Nat) a i).toNat 0)).ah (i<64)) ab (au e)
 refine bJ d mixed _ _ ?_;refine aq (X:=(zpow x (val a/gB (64-64)).toNat,())=qA (x,a,())) ab ?_;rw[oO,gB,Int.ediv_one,<- zu]
def zj:Nat × Eng.Spec:=(179,aK [.fr,(.arr 4 (.int .u64))] [.val .fr] pd qA)
theorem HI:enters Tryz.prog 176 Tryz.f176:=ek
def sk (x:Fr):Fr:=mU x 52435875175126190479447740508185965837690552500527637822603658699938581184511
abbrev vU:HL [.fr]->HO [.val .fr]:=fun (x,_)=>(sk (x:Fr),())
theorem IJ:val [18446744069414584319,6034159408538082302,3691218898639771653,8353516859464449352]=52435875175126190479447740508185965837690552500527637822603658699938581184511:=ae
theorem K1:aO Tryz.prog 176 [.fr] [.val .fr] bB (fun _=>True) vU:=by refine bg (sp:=aU [zj]) (aM (aR zK) bD) mixed HI ae ae ?_;rintro w b ⟨x,⟨⟩⟩ _ _;refine aq (X:=(pd (x,[18446744069414584319,6034159408538082302,3691218898639771653,8353516859464449352],())/\(mU x (val [18446744069414584319,6034159408538082302,3691218898639771653,8353516859464449352]),())=vU (x,()))) ab ?_;refine⟨?_,?_⟩;intro y a;simp at a;rcases a with rfl|rfl|rfl|rfl<;>exact⟨ae,ae⟩;rw[IJ];rfl
def Kk:Nat × Eng.Spec:=(176,aK [.fr] [.val .fr] (fun _=>True) vU)
end fr
namespace poly
open Go.IntKind(i64 u64 u8)
open Go.IntKind(i64)
theorem VH:enters Tryz.prog 74 Tryz.f74:=ek
abbrev qi:HL [.int .i64]->Prop:=fun (x,_)=>fy x
def e9 (x:Int):Int:=if x<0 then -x else x
abbrev Dk:HL [.int .i64]->HO [.val (.int .u64)]:=fun (x,_)=>(e9 x,())
theorem Ow:aO Tryz.prog 74 [.int .i64] [.val (.int .u64)] bB qi Dk:=by refine bg (sp:=aU []) bD mixed VH ae ae ?_;rintro w b ⟨x,⟨⟩⟩;revert x;intro (x:Int) _ a;have a : -9223372036854775808<=x/\x<9223372036854775808:=a;refine aq (X:=((decide (x<0)=true->(u64.wrap (0-u64.wrap x),())=Dk (x,()))/\(decide (x<0)=false->(u64.wrap x,())=Dk (x,())))) ab ?_;refine⟨fun h=>?_,fun h=>?_⟩;have h:x<0:=Odt h;show _=(e9 x,());rw[e9,ak h,wz,wz];congr 1;omega;have h:¬ x<0:=Odf h;show _=(e9 x,());rw[e9,ai h,wrap_u64 aa aa]
def MG:Nat × Eng.Spec:=(74,aK [.int .i64] [.val (.int .u64)] qi Dk)
theorem Ha {x:Int} (a:fy x):0<=e9 x/\e9 x<=9223372036854775808:=by have a : -9223372036854775808<=x/\x<9223372036854775808:=a;unfold e9;split<;>omega
theorem Qz:enters Tryz.prog 41 Tryz.f41:=ek
def sb (x:Int):Fr:=eR (zm x)
theorem zf (x:Int):sb x=zm x:=bm _
abbrev xw:HL [.int .i64]->HO [.val .fr]:=fun (x,_)=>(sb x,())
theorem Jd:aO Tryz.prog 41 [.int .i64] [.val .fr] bB qi xw:=by refine bg (sp:=aU [MG,fr.ti,fr.Aw]) (aM (aR Ow) (aM (aR fr.tw) (aM (aR fr.yK) bD))) mixed Qz ae ae ?_;rintro w d ⟨x,⟨⟩⟩;revert x;intro (x:Int) _ a;have b:=Ha a;refine aq (X:=(qi (x,())/\gI (e9 x)/\(decide (x<0)=true->True/\(-jg (e9 x),())=xw (x,()))/\(decide (x<0)=false->(jg (e9 x),())=xw (x,())))) ab ?_;refine⟨a,⟨b.1,aa⟩,fun h=>⟨trivial,?_⟩,fun h=>?_⟩;have h:x<0:=Odt h;show _=(sb x,());rw[zf,e9,ak h,Hp,Int.neg_neg];have h:¬ x<0:=Odf h;show _=(sb x,());rw[zf,e9,ai h]
def Ax:Nat × Eng.Spec:=(41,aK [.int .i64] [.val .fr] qi xw)
theorem uc:enters Tryz.prog 85 Tryz.f85:=ek
def jo (x:Int):List Int:=ub (e9 x) 8
abbrev j9:HL [.int .i64]->HO [.own (.int .u8)]:=fun (x,_)=>(jo x,())
def DT (n:Int) (g:Int × Bool × Nat × List Int):St:=av Tryz.f85.ntmps 48 [(3,bif g.2.1 then ag (.v (.slice none 0 0)) else ag (.sl 8 0 0 g.2.2.1 1)),(4,sI .u64 n),(5,sI .i64 g.1)] (bif g.2.1 then [] else [(8,[.ints .u8 g.2.2.1 g.2.2.2])])
def FD (n:Int) (g:Int × Bool × Nat × List Int):Prop:=∃ j:Nat,j<=8/\g.1=56-8*(j:Int)/\g.2.2.2=ub n j/\g.2.2.1=g.2.2.2.length/\(g.2.1=true->g.2.2.2=[])
def X1 (n:Int) (g:Int × Bool × Nat × List Int):Prop:=g.2.2.2=ub n 8/\g.2.2.1=g.2.2.2.length/\(g.2.1=true->g.2.2.2=[])
theorem ab2 {j:Nat} (h:j<=7):(2:Int)^min (toNat (56-8*(j:Int))) u64.bits=bG (7-j):=by have:j=0\/j=1\/j=2\/j=3\/j=4\/j=5\/j=6\/j=7:=aa;rcases this with rfl|rfl|rfl|rfl|rfl|rfl|rfl|rfl<;>rfl
theorem wrap_u8 (a:Int):u8.wrap a=a%256:=by simp[IntKind.wrap,IntKind.signed,IntKind.bits]
theorem N1 {n s:Int} {e:Bool} {m:Nat} {l:List Int} (g:FD n (s,e,m,l)) (o:s>=0):i64.wrap (s-8)=s-8 /\
  (n.fdiv (2^min (toNat s) u64.bits)≠0->FD n (s-8,false,m+1,l++[u8.wrap (n.fdiv (2^min (toNat s) u64.bits))])) /\
  (n.fdiv (2^min (toNat s) u64.bits)=0->FD n (s-8,e,m,l)):=by
 obtain⟨j,g,d,a,b,k⟩:=g;have d:s=56-8*(j:Int):=d;have a:l=ub n j:=a;have b:m=l.length:=b;have f:j<=7:=aa;have i:n.fdiv (2^min (toNat s) u64.bits)=n/bG (7-j):=by rw[d,ab2 f,sD _ (eJ (kb _))]
 rw[i,wrap_u8];refine⟨ba aa aa,fun h=>⟨j+1,aa,by show s-8=_;omega,?_,by show m+1=_;simp[b],fun h=>nomatch h⟩,fun h=>⟨j+1,aa,by show s-8=_;omega,?_,b,k⟩⟩;show l++_=ub n (j+1);rw[ub,ai h,a];show l=ub n (j+1);rw[ub,ak h,a]
theorem Sf {n s:Int} {e:Bool} {m:Nat} {l:List Int} (b:FD n (s,e,m,l)) (h:¬ s>=0):X1 n (s,e,m,l):=by obtain⟨j,b,a,d,f,g⟩:=b;have a:s=56-8*(j:Int):=a;have:j=8:=aa;subst this;exact⟨d,f,g⟩
theorem sM:aO Tryz.prog 85 [.int .i64] [.own (.int .u8)] bB qi j9:=by
 have d:aJ Tryz.prog (aU [MG]):=(aM (aR Ow) bD);refine bL (sp:=aU [MG]) uc ae ae ab ?_;rintro w K ⟨x,⟨⟩⟩;revert x;intro (x:Int) _ C;have D:=Ha C;show Tr _ _ _ _ _ _ _;refine bh d mixed 4 (DT (e9 x) (56,true,0,[])) True ?_ (fun _=>?_);refine aq (X:=(qi (x,())/\(DT (e9 x) (56,true,0,[])).ah True)) ab ?_;exact⟨C,au trivial⟩;refine cl d mixed (fun a=>[(8,Mn 3 a)]) (fun a=>(bo (.int .i64) 5 a,Pj 3 a,na 3 a,cT (.int .u8) 8 a)) (DT (e9 x)) (FD (e9 x)) (fun g=>(g.1+8).toNat)
  (fun a=>(bo (.int .i64) 5 a,Pj 3 a,na 3 a,cT (.int .u8) 8 a)) (DT (e9 x)) (X1 (e9 x)) (56,true,0,[]) (c:=ar (al Tryz.f85) 4) ab ab (ay ab ab ?_) ?_ ?_
 exact⟨0,ae,rfl,rfl,rfl,fun _=>rfl⟩
 ·rintro⟨s,e,m,l⟩ f;revert s l;intro (s:Int) (l:List Int) f;have y:=f;obtain⟨j,u,k,i,t,F⟩:=y;have k:s=56-8*(j:Int):=k;have A:m=l.length:=t;have H:m<=8:=by
   have:=(KE D.1 (show e9 x<bG 8 from Int.lt_of_le_of_lt D.2 ae) j u).2.1;have i:l=ub (e9 x) j:=i;rw[A,i];omega
  cases e with
  | true =>have z:l=[]:=F rfl;subst z;have G:m=0:=A;subst G;refine aq (X:=((decide (s>=0)=true->0<=s/\(((e9 x).fdiv (2^min s.toNat u64.bits) != 0)=true->0+1<=1/\1*1<=140737488355328/\1<=4611686018427387904/\(DT (e9 x) (i64.wrap (s-8),false,1,[u8.wrap ((e9 x).fdiv (2^min s.toNat u64.bits))])).ah (FD (e9 x) (i64.wrap (s-8),false,1,[u8.wrap ((e9 x).fdiv (2^min s.toNat u64.bits))])/\toNat (i64.wrap (s-8)+(8:aH (Kd.int i64)))<toNat (s+(8:aH (Kd.int i64)))))/\(((e9 x).fdiv (2^min s.toNat u64.bits) != 0)=false->(DT (e9 x) (i64.wrap (s-8),true,0,[])).ah (FD (e9 x) (i64.wrap (s-8),true,0,[])/\toNat (i64.wrap (s-8)+(8:aH (Kd.int i64)))<toNat (s+(8:aH (Kd.int i64))))))/\(decide (s>=0)=false->(DT (e9 x) (s,true,0,[])).ah (X1 (e9 x) (s,true,0,[]))))) ab ?_;refine⟨fun h=>?_,fun h=>au (Sf f (Odf h))⟩;have h:s>=0:=Odt h;obtain⟨o,q,r⟩:=N1 f h;rw[o];refine⟨h,fun b=>⟨ae,ae,ae,au ⟨q (by simpa using b),by show (s-8+8).toNat<(s+8).toNat;omega⟩⟩,fun b=>au ⟨r (by simpa using b),by show (s-8+8).toNat<(s+8).toNat;omega⟩⟩
  | false =>refine aq (X:=((decide (s>=0)=true->0<=s/\(((e9 x).fdiv (2^min s.toNat u64.bits) != 0)=true->0+1<=1/\m<=m/\(m+1)*1<=140737488355328/\m+1<=4611686018427387904/\(DT (e9 x) (i64.wrap (s-8),false,m+1,take m l++take 1 [u8.wrap ((e9 x).fdiv (2^min s.toNat u64.bits))])).ah (FD (e9 x) (i64.wrap (s-8),false,m+1,take m l++take 1 [u8.wrap ((e9 x).fdiv (2^min s.toNat u64.bits))])/\toNat (i64.wrap (s-8)+(8:aH (Kd.int i64)))<toNat (s+(8:aH (Kd.int i64)))))/\(((e9 x).fdiv (2^min s.toNat u64.bits) != 0)=false->(DT (e9 x) (i64.wrap (s-8),false,m,l)).ah (FD (e9 x) (i64.wrap (s-8),false,m,l)/\toNat (i64.wrap (s-8)+(8:aH (Kd.int i64)))<toNat (s+(8:aH (Kd.int i64))))))/\(decide (s>=0)=false->(DT (e9 x) (s,false,m,l)).ah (X1 (e9 x) (s,false,m,l))))) ab ?_;refine⟨fun h=>?_,fun h=>au (Sf f (Odf h))⟩;have h:s>=0:=Odt h;obtain⟨o,q,r⟩:=N1 f h;rw[o,show take m l=l by rw[A,aT]];refine⟨h,fun b=>⟨ae,aI _,aa,aa,au ⟨q (by simpa using b),by show (s-8+8).toNat<(s+8).toNat;omega⟩⟩,fun b=>au ⟨r (by simpa using b),by show (s-8+8).toNat<(s+8).toNat;omega⟩⟩
 rintro⟨s,e,m,l⟩ L;revert s l;intro (s:Int) (l:List Int) ⟨k,i,t⟩;have E:l=ub (e9 x) 8:=k;have I:m=l.length:=i;refine bJ d mixed _ _ ?_;cases e with
 | true =>have z:l=[]:=t rfl;refine aq (X:=(([],())=j9 (x,()))) ab ?_;show _=(ub (e9 x) 8,());rw[<- E,z]
 | false =>refine aq (X:=(0+m<=m/\(take m l,())=j9 (x,()))) ab ?_;rw[show take m l=l by rw[I,aT],E];exact⟨aa,rfl⟩
def vn:Nat × Eng.Spec:=(85,aK [.int .i64] [.own (.int .u8)] qi j9)
theorem acj:enters Tryz.prog 15 Tryz.f15:=ek
def pat (p:List Fr) (x:Int):Fr:=eR (rY p (zm x))
theorem Cy (p:List Fr) (x:Int):pat p x=rY p (zm x):=bm _
abbrev Kb:HL [.sl .fr,.int .i64]->Prop:=fun (p,x,_)=>length p<4611686018427387904/\fy x
abbrev Ra:HL [.sl .fr,.int .i64]->HO [.val .fr]:=fun (p,x,_)=>(pat p x,())
def NV (p:List Fr) (x:Int) (g:Int × Fr):St:=av Tryz.f15.ntmps 80 [(0,ag (.ro .fr p)),(4,ao 0 0),(5,ao 24 0),(6,ao 40 0),(7,sI .i64 g.1)] [(0,[.row .fr 1 [0]]),(24,[.row .fr 1 [sb x]]),(40,[.row .fr 1 [g.2]])]
def atJ (p:List Fr) (x:Int) (g:Int × Fr):Prop:=∃ k:Nat,k<=p.length/\g.1=(k:Int)-1/\g.2=rY (p.drop k) (zm x)
theorem Ye:aO Tryz.prog 15 [.sl .fr,.int .i64] [.val .fr] bB Kb Ra:=by
 have a:aJ Tryz.prog (aU [Ax,fr.kx,fr.jO]):=(aM (aR Jd) (aM (aR fr.nR) (aM (aR fr.nQ) bD)));refine bL (sp:=aU [Ax,fr.kx,fr.jO]) acj ae ae ab ?_;rintro w y ⟨p,x,⟨⟩⟩;revert p x;intro (p:List Fr) (x:Int) _ t;obtain⟨o,u⟩:=t;have o:p.length<4611686018427387904:=o;show Tr _ _ _ _ _ _ _;have q:i64.wrap ((p.length:Int)-1)=(p.length:Int)-1:=ba aa aa;refine bh a mixed 4 (NV p x (i64.wrap ((p.length:Int)-1),0)) True ?_ (fun _=>?_);refine aq (X:=(qi (x,())/\(NV p x (i64.wrap ((p.length:Int)-1),(0:Fr))).ah True)) ab ?_;exact⟨u,au trivial⟩;refine cl a mixed gO (fun d=>(bo (.int .i64) 7 d,p3 .fr 40 d)) (NV p x) (atJ p x) (fun g=>(g.1+1).toNat)
  (fun d=>(bo (.int .i64) 7 d,p3 .fr 40 d)) (NV p x) (fun g=>g.2=rY p (zm x)) (i64.wrap ((p.length:Int)-1),0) (c:=ar (al Tryz.f15) 4) ab ab (ay ab ab ?_) ?_ ?_
 refine⟨p.length,aI _,q,?_⟩;show 0=_;rw[oG];rfl
 ·rintro⟨i,s⟩ m;revert i s;intro (i:Int) (s:Fr) ⟨k,z,n,f⟩;have n:i=(k:Int)-1:=n;have f:s=rY (p.drop k) (zm x):=f;refine aq (X:=((decide (i>=0)=true->True/\(0<=i/\i<(p.length:Int))/\i.toNat<p.length/\True/\(NV p x (i64.wrap (i-1),s*sb x+p.getD i.toNat (0:Fr))).ah (atJ p x (i64.wrap (i-1),s*sb x+p.getD i.toNat (0:Fr))/\toNat (i64.wrap (i-1)+(1:aH (Kd.int i64)))<toNat (i+(1:aH (Kd.int i64)))))/\(decide (i>=0)=false->(NV p x (i,s)).ah (s=rY p (jg x))))) ab ?_;refine⟨fun h=>?_,fun h=>au ?_⟩
  ·have h:i>=0:=Odt h;have l:i=((k-1:Nat):Int):=aa;have b:k-1<p.length:=aa;have r:p.drop (k-1)=p[k-1]::p.drop k:=by
    rw[lW b,show k-1+1=k by omega]
   have e:s*sb x+p.getD i.toNat 0=rY (p.drop (k-1)) (zm x):=by rw[l,aF,a2,bu b,cx,r,f,zf];rfl
   have j:i64.wrap (i-1)=i-1:=ba aa aa;rw[j];exact⟨trivial,⟨h,aa⟩,aa,trivial,au ⟨⟨k-1,aa,by show i-1=_;omega,e⟩,by show (i-1+1).toNat<(i+1).toNat;omega⟩⟩
  have h:¬ i>=0:=Odf h;have:k=0:=aa;subst this;exact f
 rintro⟨i,s⟩ m;revert i s;intro (i:Int) (s:Fr) (m:s=rY p (zm x));refine bJ a mixed _ _ ?_;refine aq (X:=((s,())=Ra (p,x,()))) ab ?_;show _=(pat p x,());rw[Cy,m]
def ae0:Nat × Eng.Spec:=(15,aK [.sl .fr,.int .i64] [.val .fr] Kb Ra)
theorem Qq:enters Tryz.prog 14 Tryz.f14:=ek
def cM (p:List Fr):List (Fp × Fp):=p.map (g1.cZ g1.gG)
abbrev CB:HL [.sl .fr]->Prop:=fun (p,_)=>length p<1048576
abbrev Cu:HL [.sl .fr]->HO [.own aQ]:=fun (p,_)=>(cM p,())
def N7 (p:List Fr) (g:Int × List (Fp × Fp)):St:=av Tryz.f14.ntmps 64 [(3,ag (.sl 24 0 0 (p.length:Int).toNat 12)),(9,ag (.ro .fr p)),(10,sI .i64 p.length),(11,sI .i64 g.1)] [(24,[.row aQ (p.length:Int).toNat g.2])]
def KI (p:List Fr) (k:Nat):List (Fp × Fp):=(p.take k).map (g1.cZ g1.gG)++replicate (p.length-k) (0,0)
def cmJ (p:List Fr) (g:Int × List (Fp × Fp)):Prop:=∃ k:Nat,k<=p.length/\g.1=(k:Int)/\g.2=KI p k
theorem U7 {p:List Fr} {k:Nat} (h:k<p.length):(KI p k).set k (g1.cZ g1.gG (p.getD k 0))=KI p (k+1):=by
 unfold KI;rw[qp _ _ (by simp;omega),cw h];have e:p.length-k=(p.length-(k+1))+1:=aa;have a:k-((p.take k).map (g1.cZ g1.gG)).length=0:=by simp;omega
 rw[a,e,oV,oD,di,cH];simp[h]
theorem SN:aO Tryz.prog 14 [.sl .fr] [.own aQ] bB CB Cu:=by
 have b:aJ Tryz.prog (aU [g1.Kj,g1.DC]):=(aM (aR g1.K9) (aM (aR g1.FY) bD));refine bL (sp:=aU [g1.Kj,g1.DC]) Qq ae ae ab ?_;rintro w n ⟨p,⟨⟩⟩;revert p;intro (p:List Fr) _ j;have j:p.length<1048576:=j;show Tr _ _ _ _ _ _ _;refine bh b mixed 3 (N7 p (0,replicate (p.length:Int).toNat (0,0))) True ?_ (fun _=>?_);refine aq (X:=((0<=(p.length:Int)/\(p.length:Int)<=(p.length:Int)/\(↑(96:Nat):Int)*(p.length:Int)<=281474976710656/\(p.length:Int)<=9223372036854775807)/\(N7 p (0,replicate (p.length:Int).toNat ((0:Fp),(0:Fp)))).ah True)) ab ?_;exact⟨⟨aa,aa,aa,aa⟩,au trivial⟩;refine cl b mixed gO (fun d=>(bo (.int .i64) 11 d,cT aQ 24 d)) (N7 p) (cmJ p) (fun g=>p.length-g.1.toNat)
  (fun d=>(bo (.int .i64) 11 d,cT aQ 24 d)) (N7 p) (fun g=>g.2=cM p) (0,replicate (p.length:Int).toNat (0,0)) (c:=ar (al Tryz.f14) 3) ab ab (ay ab ab ?_) ?_ ?_
 exact⟨0,a8 _,rfl,by simp[KI]⟩
 ·rintro⟨i,l⟩ f;revert i l;intro (i:Int) (l:List (Fp × Fp)) ⟨k,o,e,m⟩;have e:i=(k:Int):=e;have kl:l=KI p k:=m;subst e;refine aq (X:=((decide ((k:Int)<(p.length:Int))=true->(0<=(k:Int)/\(k:Int)<(p.length:Int))/\(k:Int).toNat<p.length/\True/\True/\(0<=(k:Int)/\(k:Int)<(↑(p.length:Int).toNat:Int))/\(k:Int).toNat<(p.length:Int).toNat/\(N7 p (i64.wrap ((k:Int)+1),l.set (k:Int).toNat (g1.cZ g1.gG (p.getD (k:Int).toNat (0:Fr))))).ah (cmJ p (i64.wrap ((k:Int)+1),l.set (k:Int).toNat (g1.cZ g1.gG (p.getD (k:Int).toNat (0:Fr))))/\p.length-(i64.wrap ((k:Int)+1)).toNat<p.length-(k:Int).toNat))/\(decide ((k:Int)<(p.length:Int))=false->(N7 p ((k:Int),l)).ah (l=cM p)))) ab ?_;rw[aF,aF];refine⟨fun h=>?_,fun h=>au ?_⟩
  ·have a:k<p.length:=by have:=dec_lt h;omega
   rw[aS aa];refine⟨⟨aa,aa⟩,a,trivial,trivial,⟨aa,aa⟩,a,au ⟨⟨k+1,a,rfl,?_⟩,?_⟩⟩;show l.set k _=_;rw[kl,U7 a];show p.length-((k+1:Nat):Int).toNat<p.length-(k:Int).toNat;rw[aF,aF];omega
  ·have:k=p.length:=by have:=bX h;omega
   show l=cM p;rw[kl,this,KI,aT,oO];exact bw _
 rintro⟨i,l⟩ f;revert i l;intro (i:Int) (l:List (Fp × Fp)) (f:l=cM p);refine bJ b mixed _ _ ?_;refine aq (X:=(0+(p.length:Int).toNat<=(p.length:Int).toNat/\(take (p.length:Int).toNat l,())=Cu (p,()))) ab ?_;rw[aF];refine⟨aa,?_⟩;show (_,())=(cM p,());rw[f,bW (by simp[cM])]
