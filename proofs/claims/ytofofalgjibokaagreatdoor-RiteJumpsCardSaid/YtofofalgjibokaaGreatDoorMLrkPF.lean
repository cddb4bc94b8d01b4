import Derived.Ground.Names2Prog
import Derived.Shelf.Slices.CompactI
import Derived.Shelf.SlGeneric
import Derived.Shelf.Spec.SlicesGrow
import Derived.LaidLaws
import Derived.LaidHandle
import Derived.LaidMore
import Derived.MakeChecks
import Derived.OpenShut
import Derived.Test.YtofofalgjibokaaGreatDoorMLrkPE
set_option maxRecDepth 100000
noncomputable section
open List(drop length mem_cons mem_map range replicate take)
open Nat(beq ble blt)
open Int(toNat)
namespace Go.Proofs.YtofofalgjibokaaGreatDoor
namespace rite
set_option maxHeartbeats 4000000
open Go.Eng Go.RowKit Cr hub deal
open Go.Hbn(Talk bb eG)
open law23(jC DL)
structure Lone where
 me:Int
 mem:List Int
 need:Int
 a6:List Fr
 start:Int
 span:Int
structure Lone.Ok (L:Lone):Prop where
 n1:1<=L.mem.length
 n4:L.mem.length<=4
 mm:L.me∈L.mem
 rng:∀ x∈L.mem,1<=x/\x<=9
 k1:1<=L.need
 kn:L.need<=L.mem.length
 len:(L.a6.length:Int)=L.need
 s0:0<=L.start
 s1:L.start<=1099511627776
 p1:1<=L.span
 p2:L.span<=1048576
theorem PS {n:Nat} {x:Int}:x∈jC n↔1<=x/\x<=n:=by unfold jC;rw[mem_map];constructor;rintro⟨i,a,rfl⟩;have:=List.mem_range.1 a;omega;rintro⟨b,c⟩;exact⟨(x-1).toNat,List.mem_range.2 aa,aa⟩
theorem Lone.Ok.mem {L:Lone} (h:L.Ok):L.me∈L.mem:=h.mm
def bM (L:Lone) (k:Nat) (p hub:Nat):Rt :=
 ⟨p,L.me,L.mem,L.mem,L.need,[],L.a6,L.start,L.span,(k:Int),hub,
  if L.mem.length=1/\1<=k then [(L.me,poly.cM L.a6)] else [],if L.mem.length=1/\2<=k then [(L.me,[0])] else [],[],if 1<=k then [L.me] else [],if 1<=k then [poly.pat L.a6 L.me] else [],0⟩
structure Stg (L:Lone) (k p:Nat) (t:dF):Prop where
 R:∃ hub,t.z.R=bM L k p hub
 me:t.z.H.me=L.me
 mem:t.z.H.mem=L.mem
 top:∀ x∈t.z.H.talks,x.bI<=k
 fin:t.fin=decide (k=4)
def mN (L:Lone) (k:Nat):List Int:=if k=0 then law22.cP (poly.cM L.a6) else if k=1/\L.mem.length≠1 then L.mem.map IntKind.u8.wrap else [0]
def yd (L:Lone) (k:Nat):List Hbm.aG:=[(1,0,L.me,L.me,(k:Int)+1,0,mN L k),(2,0,L.me,L.me,(k:Int)+1,0,mN L k)]++if L.mem.length=1 then [(3,0,L.me,L.me,(k:Int)+1,0,mN L k)] else []
def Cm (L:Lone) (k:Nat):List (Int × Hbm.aG):=if k=0 then cn (bM L 0 0 0) L.mem++dv (yd L 0) else if k<3 then dv (yd L k) else []
def bd (L:Lone):Nat->List (Int × Hbm.aG)
 | 0=>[]
 | k+1=>bd L k++Cm L k
theorem Fa {z:SayIn} {L:Lone} (l:L.Ok) {k:Nat} (o:k<3) (e:z.H.me=L.me) (f:z.H.mem=L.mem) (j:∀ x∈z.H.talks,x.bI<=k) (d:z.tp=(k:Int)+1) (g:eD z.b=mN L k) (m:(mN L k).length<=4096) (q:Nat × Nat × Nat) :
  hI z q=yd L k/\pS z q=(if L.mem.length=1 then eQ z.R ((k:Int)+1,L.me,mN L k) else z.R)/\(qC z q).me=L.me/\(qC z q).mem=L.mem/\∀ x∈(qC z q).talks,x.bI<=((k+1:Nat):Int):=by
 have n:z.H.me∈z.H.mem:=by rw[e,f];exact l.mem
 have h:z.H.mem.length=L.mem.length:=by rw[f]
 have i:=l.n4;have a:=Hbn.alone (H:=z.H) (tp:=z.tp) (b:=eD z.b) n (by rw[d];omega) (by rw[g];exact m) (fun x hx c=>by have:=j x hx;rw[c.1,d] at this;omega) (by rw[h];exact i) q;unfold hI pS qC;rw[a];refine⟨?_,?_,e,f,?_⟩;show Hbn.KA z.H z.tp (eD z.b)=_;unfold Hbn.KA yd;rw[e,d,g,h];show iO z.R (Hbn.Kz z.H z.tp (eD z.b))=_;unfold Hbn.Kz;rw[e,d,g,h];split;rfl;rfl
 ·intro x hx;have hx:x∈z.H.talks++[Hbn.Hw z.H z.tp (eD z.b) q]:=hx;rcases List.mem_append.1 hx with hx|hx;have:=j x hx;omega
  ·rw[gb] at hx;subst hx;have:(Hbn.Hw z.H z.tp (eD z.b) q).bI=z.tp:=by unfold Hbn.Hw;split<;>rfl
   rw[this,d];omega
theorem aeF {d:List Int} {b:Int} {e:Int} {a:List Pt} (f:∀ p∈a,g1.Sub p) (c:e∈d) (h:((a.length:Nat):Int)=b):nb d b [] e (law22.cP a)=(a,0):=by rw[nb,bm,law22.cP,bm];have g:(km a).length=48*a.length:=DO a;rw[pg,ak c,ak ⟨aa,aa⟩,show (km a).length/48=a.length by omega,acq f,ak rfl,ak (.inl rfl),af0 f]
theorem Zw (p:List Fr):∀ x∈poly.cM p,g1.Sub x:=by intro x a;obtain⟨c,_,rfl⟩:=mem_map.1 a;exact g1.nJ g1.mA c
theorem HF (x:Int) (c:List Pt):hO [(x,c)] x=0:=by rw[hO,bm,dx];simp[Bz]
theorem Od (x:Int):hO [] x=-1:=by rw[hO,bm,dx];simp
theorem Ex (x:Int) (c:List Pt):cS [(x,c)] x=c:=by rw[cS,HF];rfl
theorem aaI (x:Int):ib [x] x=0:=by rw[ib,bm,law22.vK];simp
theorem Lone.Ok.one {L:Lone} (h:L.Ok) (e:L.mem.length=1):L.mem=[L.me]/\L.need=1/\L.me≠0:=by
 have g:=h.k1;have j:=h.kn;have n:=h.rng _ h.mm;refine⟨?_,aa,aa⟩;have d:=h.mm;match f:L.mem,e with
 | [x],_=>rw[f] at d;rw[List.mem_singleton.1 d]
theorem JJ {L:Lone} (h:L.Ok) (i:L.mem.length=1) {R:Rt} (a:R.deals=[(L.me,poly.cM L.a6)]) (b:R.a5=[L.me]) (c:R.shares=[poly.pat L.a6 L.me]) (d:R.me=L.me):cj R L.me=(poly.pat L.a6 L.me,true):=by
 have g:fy L.me:=by have:=h.rng _ h.mm;exact⟨aa,aa⟩
 have f:law22.sm (poly.cM L.a6) L.me (poly.pat L.a6 L.me)=true:=by rw[law22.sm,bm,poly.Z0 g];simp
 unfold cj;rw[a,b,c,d,HF,aaI,Ex];rw[ai ae];have e:(List.getD [poly.pat L.a6 L.me] (0:Int).toNat 0)=poly.pat L.a6 L.me:=rfl;rw[e,f];rfl
theorem RH {R:Rt} (a:R.deals=[]) (d:Int):cj R d=(0,false):=by unfold cj;rw[a,Od,ak ae]
theorem zU {L:Lone} (h:L.Ok) (k:Nat):(mN L k).length<=4096:=by unfold mN;have:=h.len;have:=h.kn;have:=h.n4;split;rw[DP,pD];omega;split;rw[bZ];omega;decide
theorem Tw {L:Lone} (h:L.Ok) {k:Nat} (Z:k<4) {p:Nat} {t:dF} (Q:Stg L k p t) (q:Nat × Nat × Nat):Stg L (k+1) p (dp t q).1/\(dp t q).2=Cm L k:=by
 obtain⟨⟨R,H⟩,f⟩:=t;obtain⟨⟨hub,E⟩,l,g,i,G⟩:=Q;have E:R=bM L k p hub:=E;have l:H.me=L.me:=l;have g:H.mem=L.mem:=g;have i:∀ x∈H.talks,x.bI<=(k:Int):=i;have j:=h.mem;subst E;have A:(bM L k p hub).phase=(k:Int):=rfl;have K:k=0\/k=1\/k=2\/k=3:=aa;rcases K with rfl|rfl|rfl|rfl
 ·have e:dp ⟨⟨bM L 0 p hub,H⟩,f⟩ q=(⟨la ⟨aZ (bM L 0 p hub) 1,H⟩ q,false⟩,dW ⟨aZ (bM L 0 p hub) 1,H⟩ q):=by unfold dp;exact ak rfl
  have m:la ⟨aZ (bM L 0 p hub) 1,H⟩ q=⟨pS (oq ⟨aZ (bM L 0 p hub) 1,H⟩) q,qC (oq ⟨aZ (bM L 0 p hub) 1,H⟩) q⟩:=ak j;have n:dW ⟨aZ (bM L 0 p hub) 1,H⟩ q=cn (aZ (bM L 0 p hub) 1) L.mem++dv (hI (oq ⟨aZ (bM L 0 p hub) 1,H⟩) q):=ak j;rw[e,m,n];have o:eD (oq ⟨aZ (bM L 0 p hub) 1,H⟩).b=mN L 0:=by show eD (law22.cP (poly.cM L.a6))=law22.cP (poly.cM L.a6);unfold eD;rw[ai];intro c;have:=congrArg length c;rw[DP,pD] at this;have a:=h.len;have Y:=h.k1;have C:([]:List Int).length=0:=rfl;rw[C] at this;omega
  obtain⟨r,s,u,w,y⟩:=Fa (z:=oq ⟨aZ (bM L 0 p hub) 1,H⟩) h (k:=0) ae l g i rfl o (zU h 0) q;have ek:dm (aZ (bM L 0 p hub) 1) L.mem=⟨p,L.me,L.mem,L.mem,L.need,[],L.a6,L.start,L.span,1,hub,[],[],[],[L.me],[poly.pat L.a6 L.me],0⟩:=by have W:dm (aZ (bM L 0 p hub) 1) L.mem=eX (aZ (bM L 0 p hub) 1) L.me (poly.pat L.a6 L.me):=ak j;have X:eX (aZ (bM L 0 p hub) 1) L.me (poly.pat L.a6 L.me)={ aZ (bM L 0 p hub) 1 with a5:=(aZ (bM L 0 p hub) 1).a5++[L.me],shares:=(aZ (bM L 0 p hub) 1).shares++[poly.pat L.a6 L.me] }:=ai (by simp[aZ,bM]);rw[W,X];simp[aZ,bM]
  refine⟨⟨⟨hub,?_⟩,u,w,y,rfl⟩,?_⟩;refine s.trans ?_;show (if L.mem.length=1 then eQ (dm (aZ (bM L 0 p hub) 1) L.mem) _ else (dm (aZ (bM L 0 p hub) 1) L.mem))=_;rw[ek];by_cases a:L.mem.length=1;rw[ak a];refine (ak (show ((0:Nat):Int)+1=1 from rfl)).trans ?_;have I:nb L.mem L.need [] L.me (mN L 0)=(poly.cM L.a6,0):=aeF (Zw _) j (by rw[pD];exact h.len);show (if (nb L.mem L.need [] L.me (mN L 0)).2=0 then _ else _)=_;rw[I,ak rfl];unfold bM;simp[a];rw[ai a];unfold bM;simp[a];show cn (aZ (bM L 0 p hub) 1) L.mem++dv (hI (oq ⟨aZ (bM L 0 p hub) 1,H⟩) q)=Cm L 0;rw[r];rfl
 ·have e:dp ⟨⟨bM L 1 p hub,H⟩,f⟩ q=(⟨nt ⟨aZ (bM L 1 p hub) 2,H⟩ q,false⟩,eS ⟨aZ (bM L 1 p hub) 2,H⟩ q):=by
   unfold dp;exact (ai (show ¬ (((1:Nat):Int)=0) by decide)).trans (ak rfl)
  have m:nt ⟨aZ (bM L 1 p hub) 2,H⟩ q=⟨pS (ry ⟨aZ (bM L 1 p hub) 2,H⟩) q,qC (ry ⟨aZ (bM L 1 p hub) 2,H⟩) q⟩:=ak j;have n:eS ⟨aZ (bM L 1 p hub) 2,H⟩ q=dv (hI (ry ⟨aZ (bM L 1 p hub) 2,H⟩) q):=ak j;rw[e,m,n];have o:eD (ry ⟨aZ (bM L 1 p hub) 2,H⟩).b=mN L 1:=by
   show eD (gz (aZ (bM L 1 p hub) 2) L.mem)=_;unfold gz;by_cases a:L.mem.length=1;have F:=JJ h a (R:=aZ (bM L 1 p hub) 2) (by simp[aZ,bM,a]) rfl rfl rfl;have T:L.mem=[L.me]:=(h.one a).1;rw[T];simp[F,eD,mN,a]
   ·have F:∀ d,cj (aZ (bM L 1 p hub) 2) d=(0,false):=RH (by simp[aZ,bM,a]);have O:L.mem.filter (fun d => !(cj (aZ (bM L 1 p hub) 2) d).2)=L.mem:=List.filter_eq_self.2 fun d _=>by rw[F];rfl
    rw[O];unfold eD mN;have:L.mem.length≠0:=by have:=h.n1;omega
    simp[a];intro c;have:=congrArg length c;have a:=h.n1;have C:([]:List Int).length=0:=rfl;rw[C] at this;omega
  obtain⟨r,s,u,w,y⟩:=Fa (z:=ry ⟨aZ (bM L 1 p hub) 2,H⟩) h (k:=1) ae l g i rfl o (zU h 1) q;refine⟨⟨⟨hub,?_⟩,u,w,y,rfl⟩,?_⟩
  ·refine s.trans ?_;by_cases a:L.mem.length=1
   ·rw[ak a];have D:mN L 1=[0]:=by unfold mN;simp[a]
    rw[D];unfold eQ bM aZ ry uf;simp[a]
   rw[ai a];unfold bM aZ ry;simp[a]
  show dv (hI (ry ⟨aZ (bM L 1 p hub) 2,H⟩) q)=Cm L 1;rw[r];rfl
 ·have e:dp ⟨⟨bM L 2 p hub,H⟩,f⟩ q=(⟨r5 ⟨aZ (bM L 2 p hub) 3,H⟩ q,false⟩,gr ⟨aZ (bM L 2 p hub) 3,H⟩ q):=by
   unfold dp;exact (ai (show ¬ (((2:Nat):Int)=0) by decide)).trans ((ai (show ¬ (((2:Nat):Int)=1) by decide)).trans (ak rfl))
  have m:r5 ⟨aZ (bM L 2 p hub) 3,H⟩ q=⟨pS (xz ⟨aZ (bM L 2 p hub) 3,H⟩) q,qC (xz ⟨aZ (bM L 2 p hub) 3,H⟩) q⟩:=ak j;have n:gr ⟨aZ (bM L 2 p hub) 3,H⟩ q=dv (hI (xz ⟨aZ (bM L 2 p hub) 3,H⟩) q):=ak j;rw[e,m,n];have o:eD (xz ⟨aZ (bM L 2 p hub) 3,H⟩).b=mN L 2:=by
   show eD (kT (aZ (bM L 2 p hub) 3) L.mem)=_;have V:kT (aZ (bM L 2 p hub) 3) L.mem=[]:=by
    unfold kT;rw[List.flatMap_eq_nil_iff];intro x _;have N:mE (aZ (bM L 2 p hub) 3).faults x (aZ (bM L 2 p hub) 3).me=false:=by rw[mE,bm];by_cases a:L.mem.length=1;have P:=(h.one a).2.2;simp[aZ,bM,a,o9,P];simp[aZ,bM,a]
    rw[N];rfl
   rw[V];rfl
  obtain⟨r,s,u,w,y⟩:=Fa (z:=xz ⟨aZ (bM L 2 p hub) 3,H⟩) h (k:=2) ae l g i rfl o (zU h 2) q;refine⟨⟨⟨hub,?_⟩,u,w,y,rfl⟩,?_⟩
  ·refine s.trans ?_;by_cases a:L.mem.length=1
   ·rw[ak a];have D:mN L 2=[0]:=by unfold mN;simp
    rw[D];unfold eQ bM aZ xz;simp[a,eV,p8]
   rw[ai a];unfold bM aZ xz;simp[a]
  show dv (hI (xz ⟨aZ (bM L 2 p hub) 3,H⟩) q)=Cm L 2;rw[r];rfl
 ·have e:dp ⟨⟨bM L 3 p hub,H⟩,f⟩ q=(⟨⟨aZ (bM L 3 p hub) 4,H⟩,true⟩,[]):=by
   unfold dp;exact (ai (show ¬ (((3:Nat):Int)=0) by decide)).trans ((ai (show ¬ (((3:Nat):Int)=1) by decide)).trans (ai (show ¬ (((3:Nat):Int)=2) by decide)))
  rw[e];refine⟨⟨⟨hub,?_⟩,l,g,fun x U=>Int.le_trans (i x U) ae,rfl⟩,rfl⟩;show aZ (bM L 3 p hub) 4=_;unfold aZ bM;simp
theorem LI {L:Lone} (h:L.Ok) {k:Nat} (f:k<=4) (p hub:Nat) (e:Int):j0 (bM L k p hub) e=(decide ((k:Int)<4)&&decide (e>=L.start+(k:Int)*L.span)):=by have a:=h.s0;have b:=h.s1;have c:=h.p1;have d:=h.p2;have g:0<=(k:Int)*L.span/\(k:Int)*L.span<=4*1048576:=⟨mZ aa aa,Int.mul_le_mul aa d aa aa⟩;unfold j0;show (decide ((k:Int)<4)&&decide (e>=IntKind.i64.wrap (L.start+IntKind.i64.wrap ((k:Int)*L.span))))=_;rw[ba (a:=(k:Int)*L.span) aa aa,ba aa aa]
theorem Gj {L:Lone} (h:L.Ok) {a:Int} {t u:dF} {o:List (Int × Hbm.aG)} (g:Ticks a t u o):∀ {k p:Nat},k<=4->Stg L k p t->∃ j,k<=j/\j<=4/\Stg L j p u/\bd L k++o=bd L j/\(j=4\/a<L.start+(j:Int)*L.span)/\(a<L.start+(k:Int)*L.span->j=k):=by
 induction g with
 | stop t hd =>intro k p d b;refine⟨k,aI _,d,b,bw _,?_,fun _=>rfl⟩;obtain⟨hub,e⟩:=b.R;have hd:j0 t.z.R a=false:=hd;rw[e,LI h d] at hd;by_cases f:k=4;exact .inl f;refine .inr ?_;rw[Bool.and_eq_false_iff] at hd;rcases hd with hd|hd;have:=Odf hd;have:¬ ((k:Int)<4):=this;omega;have:=Odf hd;have:¬ (a>=L.start+(k:Int)*L.span):=this;omega
 | step t q u o hd _ i =>intro k p d b;obtain⟨hub,e⟩:=b.R;have hd:j0 t.z.R a=true:=hd;rw[e,LI h d] at hd;rw[aX] at hd;have x:(k:Int)<4:=Odt hd.1;have y:a>=L.start+(k:Int)*L.span:=Odt hd.2;obtain⟨s,w⟩:=Tw h aa b q;obtain⟨j,A,l,m,n,r,C⟩:=i (k:=k+1) aa s;refine⟨j,aa,l,m,?_,r,fun c=>aa⟩;rw[<- n,w,<- cH];rfl
theorem LJ {L:Lone} (h:L.Ok) (f:L.mem.length≠1) (p hub:Nat):fg (bM L 4 p hub)=(none,32):=by
 have b:(bM L 4 p hub).deals=[]:=by simp[bM,f]
 have g:cX (bM L 4 p hub)=[]:=by rw[cX,bm,gu];refine List.filter_eq_nil_iff.2 fun x _=>?_;rw[b,ov,bm,pH,nP,Od];simp
 have k:1<=Cp L.mem []:=by have i:=h.n1;have j:=h.n4;have a:L.mem.length=1\/L.mem.length=2\/L.mem.length=3\/L.mem.length=4:=aa;unfold Cp;rcases a with e|e|e|e<;>rw[e]<;>decide
 have d:fJ (bM L 4 p hub)=([],32):=by
  rw[fJ,g,law22.rI,bm,nD];have:cO (bM L 4 p hub).dealers (bM L 4 p hub).old []=([],[],32):=by show cO L.mem [] []=_;rw[cO,ai];rintro⟨_,c⟩;simp at c;omega
  rw[this];rfl
 unfold fg;rw[d];rfl
theorem aa7 {l:List Fr} (h:l.length=1):poly.Ro [] l=l:=by obtain⟨c,rfl⟩:=List.length_eq_one_iff.1 h;unfold poly.Ro;have a:max ([]:List Fr).length [c].length=1:=rfl;have d:range 1=[0]:=rfl;rw[a,d,eI,tY];have b:([]:List Fr).getD 0 0=0:=List.getD_nil ..;have e:[c].getD 0 0=c:=wH ..;rw[b,e,Rg.zero_add]
def iI (L:Lone):List Int × List Pt × Fr × List Int:=([L.me],poly.cM L.a6,poly.pat L.a6 L.me,pX [L.me] (poly.cM L.a6))
theorem EL {L:Lone} (h:L.Ok) (b:L.mem.length=1) (p hub:Nat):fg (bM L 4 p hub)=(some (iI L),0):=by
 obtain⟨w,r,C⟩:=h.one b;have A:=h.rng _ h.mm;have o:(bM L 4 p hub).deals=[(L.me,poly.cM L.a6)]:=by simp[bM,b]
 have y:(bM L 4 p hub).faults=[(L.me,[0])]:=by simp[bM,b]
 have a:(bM L 4 p hub).dealers=[L.me]:=w;have g:(bM L 4 p hub).takers=[L.me]:=w;have d:(bM L 4 p hub).need=1:=r;have f:(bM L 4 p hub).old=[]:=rfl;have j:((poly.cM L.a6).length:Int)=1:=by rw[pD,h.len,r]
 have e:nP [(L.me,poly.cM L.a6)] 1 L.me=true:=by rw[nP,HF,Ex,j];decide
 have s:cX (bM L 4 p hub)=[L.me]:=by
  rw[cX,bm,gu,a,g,d,o,y];have:ov [L.me] 1 L.me [(L.me,poly.cM L.a6)] [(L.me,[0])] (bM L 4 p hub).proofs=true:=by
   rw[ov,bm,pH,e];have x:nu [L.me] L.me [(L.me,[0])]=[]:=by rw[nu,bm];simp[od,C]
   rw[x];rfl
  simp[this]
 have u:cO [L.me] [] [L.me]=([L.me],[],0):=by rw[cO,ak];exact ak rfl;refine⟨?_,?_⟩;simp[kc];omega;unfold Cp;simp;decide
 have k:L.a6.length=1:=by have:=h.len;omega
 have z:fJ (bM L 4 p hub)=(poly.cM L.a6,0):=by rw[fJ,s,law22.rI,bm,nD,a,f,o,d,u];show xn 1 [(L.me,poly.cM L.a6)] [L.me] [] 0=_;rw[xn,ak rfl,ak (by simp[e])];show (jS [(L.me,poly.cM L.a6)] [L.me] [] 1,(0:Int))=_;congr 1;show poly.ik (poly.cM []) (jW [] 0 (cS [(L.me,poly.cM L.a6)] L.me))=_;rw[Ex];show poly.ik (poly.cM []) (poly.cM L.a6)=_;rw[law22.TQ];rw[aa7 k]
 have t:=JJ h b (R:=bM L 4 p hub) (by simp[bM,b]) rfl rfl rfl;have i:dS (bM L 4 p hub) [L.me]=[L.me]:=by unfold dS;simp[t]
 have m:ed (bM L 4 p hub) [L.me]=[poly.pat L.a6 L.me]:=by unfold ed;rw[i];simp[t]
 have n:gC (bM L 4 p hub) [L.me]=(poly.pat L.a6 L.me,0):=by
  rw[gC,i,m,law22.uy,bm,tq,a,f,u];show Fk [L.me] [poly.pat L.a6 L.me] [L.me] [] 0=_;have q:xH [L.me] L.me=0:=by rw[xH,bm,dx];simp
  rw[Fk,ak rfl,ak];show (tS [L.me] [poly.pat L.a6 L.me] [L.me] [] 1,(0:Int))=_;congr 1;show 0+tW [] 0 ([poly.pat L.a6 L.me].getD (xH [L.me] L.me).toNat 0)=_;rw[q];exact Rg.zero_add _;simp[AY,q]
 unfold fg;rw[z,ak rfl,g,ak (show (bM L 4 p hub).me∈[L.me] by show L.me∈_;simp),s,n,ak rfl];rfl
end rite
end Go.Proofs.YtofofalgjibokaaGreatDoor
namespace Go.Proofs
open Go.Shelf
def Tryz.vM:Go.Shelf.Ren:=⟨fun|4=>59|n=>n,fun|22=>24|25=>3|3=>3|4=>4|9=>9|20=>20|0=>0|n=>n,fun|n=>n⟩
theorem Tryz.Wr:Go.Proofs.Lays8.n4 Tryz.prog Tryz.vM:={
 mixed:=ab
 f4:=⟨Tryz.f59.name,ae,Tryz.func59.trans (congrArg some ab)⟩
 t0:=Tryz.underlying0
 a0:=Tryz.isAgg0
 z0:=Tryz.sizeOf0
 v0:=Tryz.zeroValue0
 t3:=Tryz.underlying3
 a3:=Tryz.isAgg3
 z3:=Tryz.sizeOf3
 v3:=Tryz.zeroValue3
 t4:=Tryz.underlying4
 a4:=Tryz.isAgg4
 z4:=Tryz.sizeOf4
 v4:=Tryz.zeroValue4
 t9:=Tryz.underlying9
 a9:=Tryz.isAgg9
 z9:=Tryz.sizeOf9
 v9:=Tryz.zeroValue9
 t20:=Tryz.underlying20
 a20:=Tryz.isAgg20
 z20:=Tryz.sizeOf20
 v20:=Tryz.zeroValue20
 t22:=Tryz.underlying24
 a22:=Tryz.isAgg24
 z22:=Tryz.sizeOf24
 v22:=Tryz.zeroValue24 }
def Tryz.JZ:Go.Shelf.Ren:=⟨fun|20=>29|n=>n,fun|22=>24|3=>3|4=>4|0=>0|n=>n,fun|n=>n⟩
theorem Tryz.Jo:Go.Proofs.Lays2.n20 Tryz.prog Tryz.JZ:={
 mixed:=ab
 f20:=Tryz.func29.trans (congrArg some ab)
 t0:=Tryz.underlying0
 a0:=Tryz.isAgg0
 z0:=Tryz.sizeOf0
 v0:=Tryz.zeroValue0
 t3:=Tryz.underlying3
 a3:=Tryz.isAgg3
 z3:=Tryz.sizeOf3
 v3:=Tryz.zeroValue3
 t4:=Tryz.underlying4
 a4:=Tryz.isAgg4
 z4:=Tryz.sizeOf4
 v4:=Tryz.zeroValue4
 t22:=Tryz.underlying24
 a22:=Tryz.isAgg24
 z22:=Tryz.sizeOf24
 v22:=Tryz.zeroValue24
 i3:=by kernel_rfl }
open Go.RowKit Go.Lib Go.Sort in
theorem Tryz.slices_Compact_int (a b c:Nat) (d:List Int) (w:World) (h:Holds (Value.int .i64) w a b d.toArray) (g:d.length<=9223372036854775807) (f:d.length<=c) :
  Calls Tryz.prog 29 #[.slice (some ⟨a,b,none⟩) d.length c] w fun e i=>e=.returned (.slice (some ⟨a,b,none⟩) (Lib.compact d).length c)/\∃ q,i=putRow (Value.int .i64) (Sort.ahead w q) a b (Lib.compact d++replicate (d.length-(Lib.compact d).length) 0).toArray:=Any.slices_Compact_int Tryz.Jo a b c d w h g f
namespace YtofofalgjibokaaGreatDoor.part
section
variable {α:Type} (z:α) (key:α->Int)
def swp (l:List α) (j:Nat):List α:=(l.set (j+1) (l.getD j z)).set j (l.getD (j+1) z)
def FC (l:List α):Nat->List α
 | 0=>l
 | j+1=>if key (l.getD (j+1) z)<key (l.getD j z) then FC (swp z l j) j else l
def zn (l:List α):Nat->List α
 | 0=>l
 | k+1=>FC z key (zn l k) (k+1)
theorem ML:∀ (l:List α) (j:Nat),j+1<l.length->(swp z l j).Perm l
 | x::y::l,0,_=>List.Perm.swap x y l
 | x::l,j+1,h=>by
  have h:j+1<l.length:=by simpa using h
  exact (ML l j h).cons x
 | [],_,h=>absurd h aw
 | [_],0,h=>absurd h aw
theorem abD (l:List α) (j:Nat):(swp z l j).length=l.length:=by simp[swp]
theorem KD:∀ (j:Nat) (l:List α),j<l.length->(FC z key l j).Perm l
 | 0,l,_=>List.Perm.refl l
 | j+1,l,h=>by unfold FC;split;exact (KD j _ (by rw[abD];omega)).trans (ML z l j h);exact List.Perm.refl l
theorem Fh (l:List α):∀ (k:Nat),k<l.length\/k=0->(zn z key l k).Perm l
 | 0,_=>List.Perm.refl l
 | k+1,h=>by have a:=Fh l k aa;exact (KD z key (k+1) _ (by rw[a.length_eq];omega)).trans a
def Xn (l:List α):List α:=zn z key l (l.length-1)
end
end YtofofalgjibokaaGreatDoor.part
namespace YtofofalgjibokaaGreatDoor.sorti
open Go.Eng Go.RowKit Cr
open Go.IntKind(i64 u64 u8)
def NW:ByteArray:=(ByteArray.mk ((([(0:UInt8),(1:UInt8),(2:UInt8),(2:UInt8),(3:UInt8),(3:UInt8),(3:UInt8),(3:UInt8),(4:UInt8),(4:UInt8),(4:UInt8),(4:UInt8),(4:UInt8),(4:UInt8),(4:UInt8),(4:UInt8),(5:UInt8),(5:UInt8),(5:UInt8),(5:UInt8),(5:UInt8),(5:UInt8),(5:UInt8),(5:UInt8),(5:UInt8),(5:UInt8),(5:UInt8),(5:UInt8),(5:UInt8),(5:UInt8),(5:UInt8),(5:UInt8),(6:UInt8),(6:UInt8),(6:UInt8),(6:UInt8),(6:UInt8),(6:UInt8),(6:UInt8),(6:UInt8),(6:UInt8),(6:UInt8),(6:UInt8),(6:UInt8),(6:UInt8),(6:UInt8),(6:UInt8),(6:UInt8),(6:UInt8),(6:UInt8),(6:UInt8),(6:UInt8),(6:UInt8),(6:UInt8),(6:UInt8),(6:UInt8),(6:UInt8),(6:UInt8),(6:UInt8),(6:UInt8),(6:UInt8),(6:UInt8),(6:UInt8),(6:UInt8)].append [(7:UInt8),(7:UInt8),(7:UInt8),(7:UInt8),(7:UInt8),(7:UInt8),(7:UInt8),(7:UInt8),(7:UInt8),(7:UInt8),(7:UInt8),(7:UInt8),(7:UInt8),(7:UInt8),(7:UInt8),(7:UInt8),(7:UInt8),(7:UInt8),(7:UInt8),(7:UInt8),(7:UInt8),(7:UInt8),(7:UInt8),(7:UInt8),(7:UInt8),(7:UInt8),(7:UInt8),(7:UInt8),(7:UInt8),(7:UInt8),(7:UInt8),(7:UInt8),(7:UInt8),(7:UInt8),(7:UInt8),(7:UInt8),(7:UInt8),(7:UInt8),(7:UInt8),(7:UInt8),(7:UInt8),(7:UInt8),(7:UInt8),(7:UInt8),(7:UInt8),(7:UInt8),(7:UInt8),(7:UInt8),(7:UInt8),(7:UInt8),(7:UInt8),(7:UInt8),(7:UInt8),(7:UInt8),(7:UInt8),(7:UInt8),(7:UInt8),(7:UInt8),(7:UInt8),(7:UInt8),(7:UInt8),(7:UInt8),(7:UInt8),(7:UInt8)]).append ([(8:UInt8),(8:UInt8),(8:UInt8),(8:UInt8),(8:UInt8),(8:UInt8),(8:UInt8),(8:UInt8),(8:UInt8),(8:UInt8),(8:UInt8),(8:UInt8),(8:UInt8),(8:UInt8),(8:UInt8),(8:UInt8),(8:UInt8),(8:UInt8),(8:UInt8),(8:UInt8),(8:UInt8),(8:UInt8),(8:UInt8),(8:UInt8),(8:UInt8),(8:UInt8),(8:UInt8),(8:UInt8),(8:UInt8),(8:UInt8),(8:UInt8),(8:UInt8),(8:UInt8),(8:UInt8),(8:UInt8),(8:UInt8),(8:UInt8),(8:UInt8),(8:UInt8),(8:UInt8),(8:UInt8),(8:UInt8),(8:UInt8),(8:UInt8),(8:UInt8),(8:UInt8),(8:UInt8),(8:UInt8),(8:UInt8),(8:UInt8),(8:UInt8),(8:UInt8),(8:UInt8),(8:UInt8),(8:UInt8),(8:UInt8),(8:UInt8),(8:UInt8),(8:UInt8),(8:UInt8),(8:UInt8),(8:UInt8),(8:UInt8),(8:UInt8)].append [(8:UInt8),(8:UInt8),(8:UInt8),(8:UInt8),(8:UInt8),(8:UInt8),(8:UInt8),(8:UInt8),(8:UInt8),(8:UInt8),(8:UInt8),(8:UInt8),(8:UInt8),(8:UInt8),(8:UInt8),(8:UInt8),(8:UInt8),(8:UInt8),(8:UInt8),(8:UInt8),(8:UInt8),(8:UInt8),(8:UInt8),(8:UInt8),(8:UInt8),(8:UInt8),(8:UInt8),(8:UInt8),(8:UInt8),(8:UInt8),(8:UInt8),(8:UInt8),(8:UInt8),(8:UInt8),(8:UInt8),(8:UInt8),(8:UInt8),(8:UInt8),(8:UInt8),(8:UInt8),(8:UInt8),(8:UInt8),(8:UInt8),(8:UInt8),(8:UInt8),(8:UInt8),(8:UInt8),(8:UInt8),(8:UInt8),(8:UInt8),(8:UInt8),(8:UInt8),(8:UInt8),(8:UInt8),(8:UInt8),(8:UInt8),(8:UInt8),(8:UInt8),(8:UInt8),(8:UInt8),(8:UInt8),(8:UInt8),(8:UInt8),(8:UInt8)])).toArray ))
open part(zn Xn FC swp Fh)
abbrev iK:Kd:=.int .i64
theorem ZR:enters Tryz.prog 147 Tryz.f147:=ek
theorem acU:aO Tryz.prog 147 [iK] [.val .bool] bB (fun _=>True) (fun _=>(false,())):=by refine bg (sp:=aU []) bD mixed ZR ae ae ?_;rintro w b ⟨a,⟨⟩⟩;revert a;intro (a:Int) _ _;refine @aq ((a != a,())=(false,())) _ ?_ ?_;kernel_rfl;simp
def agc:Nat × Eng.Spec:=(147,aK [iK] [.val .bool] (fun _=>True) (fun _=>(false,())))
theorem Vw:enters Tryz.prog 102 Tryz.f102:=ek
theorem Z9:aO Tryz.prog 102 [iK,iK] [.val .bool] bB (fun _=>True) (fun (a,b,_)=>(decide (a<b),())):=by refine bg (sp:=aU [agc]) (aM (aR acU) bD) mixed Vw ae ae ?_;rintro w d ⟨a,b,⟨⟩⟩;revert a b;intro (a:Int) (b:Int) _ _;refine @aq (True/\(false=true->True/\((!false)=true->(true,())=(decide (a<b),()))/\((!false)=false->(decide (a<b),())=(decide (a<b),())))/\(false=false->(decide (a<b),())=(decide (a<b),()))) _ ?_ ?_;kernel_rfl;exact⟨trivial,fun h=>(by cases h),fun _=>rfl⟩
def Uv:Nat × Eng.Spec:=(102,aK [iK,iK] [.val .bool] (fun _=>True) (fun (a,b,_)=>(decide (a<b),())))
abbrev kI:Int->Int:=fun x=>x
theorem ZK:enters Tryz.prog 96 Tryz.f96:=ek
def Gb (n:Nat) (g:Int × List Int):St:=av Tryz.f96.ntmps 25 [(0,ag (.sl 0 0 0 n 1)),(1,sI .i64 0),(2,sI .i64 n),(6,sI .i64 g.1)] [(0,[.ints .i64 n g.2])]
def QP (n:Nat) (i:Int) (g:Int × List Int):St:=av Tryz.f96.ntmps 41 [(0,ag (.sl 0 0 0 n 1)),(1,sI .i64 0),(2,sI .i64 n),(6,sI .i64 i),(7,sI .i64 g.1)] [(0,[.ints .i64 n g.2])]
def isO (n:Nat) (a:List Int):St:=av Tryz.f96.ntmps 25 [] [(0,[.ints .i64 n a])]
abbrev Mh:List Int × HL [iK,iK]->Prop:=fun (d,a,b,_)=>(a:Int)=0/\(b:Int)=(length d:Int)/\length d<=12
def il (a:List Int):List Int:=Xn (0:Int) kI a
def isJ (a:List Int) (g:Int × List Int):Prop:=∃ k:Nat,k+1<=a.length/\g.1=(k:Int)+1/\g.2=zn (0:Int) kI a k
def adW (n:Nat) (a:List Int) (m:Nat) (g:Int × List Int):Prop:=∃ t:Nat,t<=m/\g.1=(t:Int)/\g.2.length=n/\FC (0:Int) kI g.2 t=a
theorem acL:Ft Tryz.prog 96 iK [iK,iK] [] bB Mh (fun (d,_)=>(il d,())):=by
 have m:aJ Tryz.prog (aU [Uv]):=aM (aR Z9) bD;refine B6 (sp:=aU [Uv]) ZK ae ae ab ?_;rintro w L N d ⟨a,b,⟨⟩⟩;revert d a b;intro (d:List Int) (a:Int) (b:Int) r R Q K;obtain⟨z,A,E⟩:=K;have z:a=0:=z;have A:b=(d.length:Int):=A;have E:d.length<=12:=E;have r:0<d.length:=r;subst z A;show Tr _ _ _ _ _ _ _;refine bh m mixed 1 (Gb d.length (1,d)) True ?_ (fun _=>?_);refine aq (X:=((Gb d.length (1,d)).ah True)) ab ?_;exact au trivial;refine pz gO (fun o=>(bo iK 6 o,cT iK 0 o)) (Gb d.length) (isJ d) (fun g=>d.length-g.1.toNat)
  (fun o=>cT iK 0 o) (isO d.length) (fun l=>l=il d) (1,d) (c:=ar (al Tryz.f96) 1) ab ab (ay ab ab ?_) ?_ ?_
 exact⟨0,r,rfl,rfl⟩
 ·rintro⟨i,l⟩ H;revert i l;intro (i:Int) (l:List Int) ⟨k,O,s,q⟩;have s:i=(k:Int)+1:=s;subst s;have q:l=zn (0:Int) kI d k:=q;have D:l.length=d.length:=by rw[q];exact (Fh (0:Int) kI d k aa).length_eq
  refine bh m mixed 2 (Gb d.length ((k:Int)+1,l)) (k+1<d.length) ?_ (fun I=>?_)
  ·refine aq (X:=((decide ((k:Int)+1<(d.length:Int))=true->(Gb d.length ((k:Int)+1,l)).ah (k+1<d.length))/\(decide ((k:Int)+1<(d.length:Int))=false->(isO d.length l).ah (l=il d)))) ab ?_;refine⟨fun h=>au (by have:=Odt h;omega),fun h=>au ?_⟩;have e:d.length-1=k:=by have:=Odf h;omega
   rw[q,il,Xn,e]
  refine mn (c:=ar (aV (ar (al Tryz.f96) 1)) 2) ab ab ?_;refine bh m mixed 1 (QP d.length ((k:Int)+1) ((k:Int)+1,l)) True ?_ (fun _=>?_);refine aq (X:=((QP d.length ((k:Int)+1) ((k:Int)+1,l)).ah True)) ab ?_;exact au trivial;refine cl m mixed gO (fun o=>(bo iK 7 o,cT iK 0 o)) (QP d.length ((k:Int)+1)) (adW d.length (zn (0:Int) kI d (k+1)) (k+1)) (fun g=>g.1.toNat)
   (fun o=>cT iK 0 o) (fun f=>Gb d.length ((k:Int)+1,f)) (fun f=>f=zn (0:Int) kI d (k+1)) ((k:Int)+1,l) (c:=ar (cV (ar (aV (ar (al Tryz.f96) 1)) 2)) 1) ab ab (ay ab ab ?_) ?_ ?_
  exact⟨k+1,aI _,rfl,D,by rw[q];rfl⟩
  ·rintro⟨j,f⟩ H;revert j f;intro (j:Int) (f:List Int) ⟨t,P,x,y,n⟩;have x:j=(t:Int):=x;subst x;have y:f.length=d.length:=y;have n:FC (0:Int) kI f t=zn (0:Int) kI d (k+1):=n;refine @aq ((decide ((t:Int)>0)=true->(0<=(t:Int)/\(t:Int)<(d.length:Int))/\(t:Int).toNat<d.length/\(0<=i64.wrap ((t:Int)-1)/\i64.wrap ((t:Int)-1)<(d.length:Int))/\(i64.wrap ((t:Int)-1)).toNat<d.length/\True/\(decide (f.getD (t:Int).toNat 0<f.getD (i64.wrap ((t:Int)-1)).toNat 0)=true->(0<=i64.wrap ((t:Int)-1)/\i64.wrap ((t:Int)-1)<(d.length:Int))/\(i64.wrap ((t:Int)-1)).toNat<d.length/\(0<=(t:Int)/\(t:Int)<(d.length:Int))/\(t:Int).toNat<d.length/\(0<=(t:Int)/\(t:Int)<(d.length:Int))/\(t:Int).toNat<d.length/\(0<=i64.wrap ((t:Int)-1)/\i64.wrap ((t:Int)-1)<(d.length:Int))/\(i64.wrap ((t:Int)-1)).toNat<d.length/\(QP d.length ((k:Int)+1) (i64.wrap ((t:Int)-1),(f.set (t:Int).toNat (f.getD (i64.wrap ((t:Int)-1)).toNat 0)).set (i64.wrap ((t:Int)-1)).toNat (f.getD (t:Int).toNat 0))).ah (adW d.length (zn 0 kI d (k+1)) (k+1) (i64.wrap ((t:Int)-1),(f.set (t:Int).toNat (f.getD (i64.wrap ((t:Int)-1)).toNat 0)).set (i64.wrap ((t:Int)-1)).toNat (f.getD (t:Int).toNat 0))/\(i64.wrap ((t:Int)-1)).toNat<(t:Int).toNat))/\(decide (f.getD (t:Int).toNat 0<f.getD (i64.wrap ((t:Int)-1)).toNat 0)=false->(Gb d.length ((k:Int)+1,f)).ah (f=zn 0 kI d (k+1))))/\(decide ((t:Int)>0)=false->(Gb d.length ((k:Int)+1,f)).ah (f=zn 0 kI d (k+1)))) _ ?_ ?_;kernel_rfl;have G:∀ u,FC (0:Int) kI f (u+1)=if kI (f.getD (u+1) (0:Int))<kI (f.getD u (0:Int)) then FC (0:Int) kI (swp (0:Int) f u) u else f:=fun u=>rfl;refine⟨fun h=>?_,fun h=>au ?_⟩
   ·obtain⟨u,rfl⟩:∃ u,t=u+1:=⟨t-1,by have:=Odt h;omega⟩;rw[G] at n;have F:i64.wrap (((u+1:Nat):Int)-1)=(u:Int):=by rw[ba aa aa];omega
    rw[F,aF,aF];refine⟨⟨aa,aa⟩,aa,⟨aa,aa⟩,aa,trivial,fun C=>⟨⟨aa,aa⟩,aa,⟨aa,aa⟩,aa,⟨aa,aa⟩,aa,⟨aa,aa⟩,aa,au ⟨⟨u,aa,rfl,?_,?_⟩,aa⟩⟩,fun C=>au ?_⟩;show length _=_;rw[hZ,hZ,y];rw[ak (Odt C)] at n;exact n;rw[ai (Odf C)] at n;exact n
   ·have:t=0:=by have:=Odf h;omega
    subst this;exact n
  intro (f:List Int) (n:f=zn (0:Int) kI d (k+1));refine kk ?_;refine bJ m mixed _ _ ?_;refine @aq ((Gb d.length (i64.wrap ((k:Int)+(1:Int)+1),f)).ah (isJ d (i64.wrap ((k:Int)+(1:Int)+1),f)/\d.length-(i64.wrap ((k:Int)+(1:Int)+1)).toNat<d.length-((k:Int)+1).toNat)) _ ?_ ?_;kernel_rfl;rw[ba aa aa];exact au ⟨⟨k+1,aa,by show _=((k+1:Nat):Int)+1;omega,n⟩,aa⟩
 intro (l:List Int) (q:l=il d);refine bJ m mixed _ _ ?_;refine @aq (d.length=d.length/\(l,())=(il d,())) _ ?_ ?_;kernel_rfl;exact⟨rfl,by rw[q]⟩
def Ck (n:Int):Int:=[0,1,2,2,3,3,3,3,4,4,4,4,4].getD n.toNat 0
theorem SA:enters Tryz.prog 106 Tryz.f106:=ek
theorem VX:aO Tryz.prog 106 [.int .u64] [.val iK] bB (fun (n,_)=>0<=(n:Int)/\(n:Int)<=12) (fun (n,_)=>(Ck n,())):=by
 have a:aJ Tryz.prog (aU []):=bD;refine bL (sp:=aU []) SA ae ae ab ?_;rintro w i ⟨n,⟨⟩⟩;revert n;intro (n:Int) _ ⟨c,d⟩;have c:0<=n:=c;have d:n<=12:=d;show Tr _ _ _ _ _ _ _;refine jQ a mixed 7 (fun e=>(bo (.int .u64) 0 e,bo iK 2 e)) (fun g=>av Tryz.f106.ntmps 56 [(0,sI .u64 g.1),(2,sI .i64 g.2)] []) (fun g=>g=(n,0)) ?_ ?_
 ·refine aq (X:=((decide (n>=4294967296)=true->(0:Int)<=32/\(decide (n.fdiv (2^min 32 u64.bits)>=65536)=true->(0:Int)<=16/\(decide ((n.fdiv (2^min 32 u64.bits)).fdiv (2^min 16 u64.bits)>=256)=true->(0:Int)<=8/\(av Tryz.f106.ntmps 56 [(0,sI u64 (((n.fdiv (2^min 32 u64.bits)).fdiv (2^min 16 u64.bits)).fdiv (2^min 8 u64.bits),i64.wrap (i64.wrap ((32:Int)+16)+8)).fst),(2,sI i64 (((n.fdiv (2^min 32 u64.bits)).fdiv (2^min 16 u64.bits)).fdiv (2^min 8 u64.bits),i64.wrap (i64.wrap ((32:Int)+16)+8)).snd)] []).ah ((((n.fdiv (2^min 32 u64.bits)).fdiv (2^min 16 u64.bits)).fdiv (2^min 8 u64.bits),i64.wrap (i64.wrap ((32:Int)+16)+8))=(n,(0:aH iK))))/\(decide ((n.fdiv (2^min 32 u64.bits)).fdiv (2^min 16 u64.bits)>=256)=false->(av Tryz.f106.ntmps 56 [(0,sI u64 ((n.fdiv (2^min 32 u64.bits)).fdiv (2^min 16 u64.bits),i64.wrap ((32:Int)+16)).fst),(2,sI i64 ((n.fdiv (2^min 32 u64.bits)).fdiv (2^min 16 u64.bits),i64.wrap ((32:Int)+16)).snd)] []).ah (((n.fdiv (2^min 32 u64.bits)).fdiv (2^min 16 u64.bits),i64.wrap ((32:Int)+16))=(n,(0:aH iK)))))/\(decide (n.fdiv (2^min 32 u64.bits)>=65536)=false->(decide (n.fdiv (2^min 32 u64.bits)>=256)=true->(0:Int)<=8/\(av Tryz.f106.ntmps 56 [(0,sI u64 ((n.fdiv (2^min 32 u64.bits)).fdiv (2^min 8 u64.bits),i64.wrap ((32:Int)+8)).fst),(2,sI i64 ((n.fdiv (2^min 32 u64.bits)).fdiv (2^min 8 u64.bits),i64.wrap ((32:Int)+8)).snd)] []).ah (((n.fdiv (2^min 32 u64.bits)).fdiv (2^min 8 u64.bits),i64.wrap ((32:Int)+8))=(n,(0:aH iK))))/\(decide (n.fdiv (2^min 32 u64.bits)>=256)=false->(av Tryz.f106.ntmps 56 [(0,sI u64 (n.fdiv (2^min 32 u64.bits),32).fst),(2,sI i64 (n.fdiv (2^min 32 u64.bits),32).snd)] []).ah ((n.fdiv (2^min 32 u64.bits),32)=(n,(0:aH iK))))))/\(decide (n>=4294967296)=false->(decide (n>=65536)=true->(0:Int)<=16/\(decide (n.fdiv (2^min 16 u64.bits)>=256)=true->(0:Int)<=8/\(av Tryz.f106.ntmps 56 [(0,sI u64 ((n.fdiv (2^min 16 u64.bits)).fdiv (2^min 8 u64.bits),i64.wrap (i64.wrap ((0:Int)+16)+8)).fst),(2,sI i64 ((n.fdiv (2^min 16 u64.bits)).fdiv (2^min 8 u64.bits),i64.wrap (i64.wrap ((0:Int)+16)+8)).snd)] []).ah (((n.fdiv (2^min 16 u64.bits)).fdiv (2^min 8 u64.bits),i64.wrap (i64.wrap ((0:Int)+16)+8))=(n,(0:aH iK))))/\(decide (n.fdiv (2^min 16 u64.bits)>=256)=false->(av Tryz.f106.ntmps 56 [(0,sI u64 (n.fdiv (2^min 16 u64.bits),i64.wrap ((0:Int)+16)).fst),(2,sI i64 (n.fdiv (2^min 16 u64.bits),i64.wrap ((0:Int)+16)).snd)] []).ah ((n.fdiv (2^min 16 u64.bits),i64.wrap ((0:Int)+16))=(n,(0:aH iK)))))/\(decide (n>=65536)=false->(decide (n>=256)=true->(0:Int)<=8/\(av Tryz.f106.ntmps 56 [(0,sI u64 (n.fdiv (2^min 8 u64.bits),i64.wrap ((0:Int)+8)).fst),(2,sI i64 (n.fdiv (2^min 8 u64.bits),i64.wrap ((0:Int)+8)).snd)] []).ah ((n.fdiv (2^min 8 u64.bits),i64.wrap ((0:Int)+8))=(n,(0:aH iK))))/\(decide (n>=256)=false->(av Tryz.f106.ntmps 56 [(0,sI u64 (n,0).fst),(2,sI i64 (n,0).snd)] []).ah ((n,0)=(n,(0:aH iK)))))))) ab ?_;have b:∀ {m:Int} {P:Prop},13<=m->decide (n>=m)=true->P:=fun j h=>by have:=Odt h;omega
  exact⟨b ae,fun _=>⟨b ae,fun _=>⟨b ae,fun _=>au rfl⟩⟩⟩
 rintro g rfl;refine bJ a mixed _ _ ?_;refine @aq ((0<=u8.wrap n/\u8.wrap n<(NW.size:Int))/\(i64.wrap (0+i64.wrap ((jB NW).getD (u8.wrap n).toNat 0)),())=(Ck n,())) _ ?_ ?_;kernel_rfl;have f:n=0\/n=1\/n=2\/n=3\/n=4\/n=5\/n=6\/n=7\/n=8\/n=9\/n=10\/n=11\/n=12:=aa;rcases f with rfl|rfl|rfl|rfl|rfl|rfl|rfl|rfl|rfl|rfl|rfl|rfl|rfl<;>exact⟨⟨ae,ae⟩,ae⟩
def Pw:Nat × Eng.Spec:=(106,aK [.int .u64] [.val iK] (fun (n,_)=>0<=(n:Int)/\(n:Int)<=12) (fun (n,_)=>(Ck n,())))
theorem ZQ:enters Tryz.prog 61 Tryz.f61:=ek
theorem acT:aO Tryz.prog 61 [.int .u64] [.val iK] bB (fun (n,_)=>0<=(n:Int)/\(n:Int)<=12) (fun (n,_)=>(Ck n,())):=by have a:aJ Tryz.prog (aU [Pw]):=aM (aR VX) bD;refine bL (sp:=aU [Pw]) ZQ ae ae ab ?_;rintro w d ⟨n,⟨⟩⟩;revert n;intro (n:Int) _ ⟨b,c⟩;show Tr _ _ _ _ _ _ _;refine bJ a mixed _ _ ?_;refine @aq ((0<=n/\n<=12)/\(Ck n,())=(Ck n,())) _ ?_ ?_;kernel_rfl;exact⟨⟨b,c⟩,rfl⟩
def Y3:Nat × Eng.Spec:=(61,aK [.int .u64] [.val iK] (fun (n,_)=>0<=(n:Int)/\(n:Int)<=12) (fun (n,_)=>(Ck n,())))
def Y2:Nat × Eng.Spec:=(96,yJ iK [iK,iK] [] Mh (fun (a,_)=>(il a,())))
theorem ZS:enters Tryz.prog 60 Tryz.f60:=ek
abbrev Mi:List Int × HL [iK,iK,iK]->Prop:=fun (d,a,b,_)=>(a:Int)=0/\(b:Int)=(length d:Int)/\length d<=12
def Pb (a:List Int) (q:Int) (_:Unit):St:=av Tryz.f60.ntmps 17 [(0,ag (.sl 0 0 0 a.length 1)),(1,sI .i64 0),(2,sI .i64 a.length),(3,sI .i64 q)] [(0,[.ints .i64 a.length a])]
theorem acV:Ft Tryz.prog 60 iK [iK,iK,iK] [] bB Mi (fun (d,_)=>(il d,())):=by
 have f:aJ Tryz.prog (aU [Y2]):=aM (zH acL) bD;refine B6 (sp:=aU [Y2]) ZS ae ae ab ?_;rintro w l m d ⟨a,b,q,⟨⟩⟩;revert d a b q;intro (d:List Int) (a:Int) (b:Int) (q:Int) e o n k;obtain⟨g,i,j⟩:=k;have g:a=0:=g;have i:b=(d.length:Int):=i;have j:d.length<=12:=j;have e:0<d.length:=e;subst g i;show Tr _ _ _ _ _ _ _;refine bh f mixed 2 (Pb d q ()) True ?_ (fun _=>?_);refine aq (X:=((Pb d q ()).ah True)) ab ?_;exact au trivial;refine pz gO (fun _=>()) (Pb d q) (fun _=>True) (fun _=>0)
  (fun _=>()) (Pb d q) (fun _=>False) () (c:=ar (al Tryz.f60) 2) ab ab (ay ab ab ?_) ?_ ?_
 trivial;rintro⟨⟩ _;refine mn (c:=ar (aV (ar (al Tryz.f60) 2)) 0) ab ab ?_;refine bh f mixed 3 (Pb d q ()) False ?_ (fun h=>h.elim);refine @aq ((decide (i64.wrap ((d.length:Int)-0)<=12)=true->d.length=d.length/\0<d.length/\Mh (d,0,(d.length:Int),())/\d.length=d.length/\(il d,())=(il d,()))/\(decide (i64.wrap ((d.length:Int)-0)<=12)=false->(Pb d q ()).ah False)) _ ?_ ?_;kernel_rfl;refine⟨fun _=>⟨rfl,e,⟨rfl,rfl,j⟩,rfl,rfl⟩,fun h=>?_⟩;rw[ba aa aa] at h;have:=Odf h;omega;rintro _ h;exact absurd h id
def Y4:Nat × Eng.Spec:=(60,yJ iK [iK,iK,iK] [] Mi (fun (a,_)=>(il a,())))
theorem VI:enters Tryz.prog 27 Tryz.f27:=ek
abbrev Ik:List Int × HL []->Prop:=fun (a,_)=>length a<=12
theorem aag:Ft Tryz.prog 27 iK [] [] bB Ik (fun (a,_)=>(il a,())):=by have d:aJ Tryz.prog (aU [Y3,Y4]):=aM (aR acT) (aM (zH acV) bD);refine B6 (sp:=aU [Y3,Y4]) VI ae ae ab ?_;rintro w f g a ⟨⟩;revert a;intro (a:List Int) b i h c;have c:a.length<=12:=c;have b:0<a.length:=b;show Tr _ _ _ _ _ _ _;refine bJ d mixed _ _ ?_;refine @aq ((0<=u64.wrap (a.length:Int)/\u64.wrap (a.length:Int)<=12)/\a.length=a.length/\0<a.length/\Mi (a,0,(a.length:Int),Ck (u64.wrap (a.length:Int)),())/\a.length=a.length/\(il a,())=(il a,())) _ ?_ ?_;kernel_rfl;have e:u64.wrap (a.length:Int)=(a.length:Int):=wrap_u64 aa aa;rw[e];exact⟨⟨aa,aa⟩,rfl,b,⟨rfl,rfl,c⟩,rfl,rfl⟩
def ae6:Nat × Eng.Spec:=(27,yJ iK [] [] Ik (fun (a,_)=>(il a,())))
end YtofofalgjibokaaGreatDoor.sorti
namespace YtofofalgjibokaaGreatDoor.cpg
open Go.IntKind(i64 u64 u8)
set_option maxHeartbeats 2000000
open Go.Eng Go.RowKit Cr
open sorti(iK)
theorem Vo:enters Tryz.prog 59 Tryz.f59:=ek
theorem Vl:enters Tryz.prog 29 Tryz.f29:=ek
def J7:Eng.Spec:=fun _ id args _=>match args with
 | [.is (.one (.v (.slice none 0 0))),.is (.one (.v (.int .i64 n)))]=>some { val:=.is (.one (.sl id 0 0 0 1)),new:=[(id,[.ints .i64 0 []])],pre:=[1<=n/\n<=1000] }
 | _=>none
theorem aav:nN Tryz.prog 59 J7:=by
 intro R id args B out b H O P w K C;unfold J7 at b;split at b
 ·rename_i n;simp only[aE] at b;subst b;obtain⟨F,G⟩:1<=n/\n<=1000:=H _ aw;obtain⟨q,N,rfl,d,s,o,rfl,f,g⟩:=K;have g:o=[]:=g;have d:[q]=[Value.slice none 0 0]/\_:=d;have f:[s]=[Value.int .i64 n]/\_:=f;have x:q=.slice none 0 0:=by simpa using d.1
  have y:s=.int .i64 n:=by simpa using f.1
  subst g x y;obtain⟨L,D,j,k,l⟩:=info_parts Tryz.Jo.i3;obtain⟨m,E⟩:∃ m:Nat,n=(m:Int):=⟨n.toNat,aa⟩;subst E;refine .inl ⟨Vo.2 _ _,(Any8.slices_Grow_grow Tryz.Wr L _ D j (by rw[k];decide) none 0 0 m [] w (aI _) aa (by rw[l];omega) aa aw (fun _=>rfl) (fun a h=>by cases h)).mono ?_⟩;rintro e Q ⟨rfl,rfl⟩;refine⟨_,rfl,?_⟩;generalize z:(([]:List Value).toArray++Builtin.zeroCells (Value.int .i64 0).cells (0+m-0)++Builtin.zeroCells (Value.int .i64 0).cells (grownCap w (0+m) 0 (Tryz.vM.t 25)-(0+m)))=A;have I:grownCap w (0+m) 0 (Tryz.vM.t 25)<=A.size:=by rw[<- z];simp only[Array.size_append,size_zeroCells,Bu,eH];have:(Value.int .i64 0).cells.size=1:=rfl;rw[this];omega
  obtain⟨r⟩:=A;refine⟨O.push id w.heap.size ([]++r).length,?_,?_⟩;exact .inr ⟨w.heap.size,0,grownCap w (0+m) 0 3,aC.iF,a8 _,.inl rfl,by rw[aC.ur,bO,tZ];exact I,rfl⟩;refine yF C _ _ (.inl (aI _)) rfl rfl rfl ?_ ?_ (Er w [] r _) ⟨[],[],rfl,⟨rfl,rfl⟩,rfl⟩ (fun _ h=>(nomatch h)) (fun _ h=>(nomatch h));show w.heap.size<=(w.heap.push _).size;simp;intro u i _;exact Below.heap_alloc w.drew _ u i
 cases b
def Ql:Eng.Spec:=fun _ _ args B=>match args with
 | [.is (.one (.sl i 0 0 n 1))]=>match B i with
  | some [.ints .i64 m a]=>some { val:=ag (.ro iK (Lib.compact (a:List Int))),wr:=[(i,[])],pre:=[m=n,0<n,n<=1000] }
  | _=>none
 | _=>none
theorem Mq {M:Mem}:∀ a:List Int,dX (Rd M iK) a (a.map (Value.int .i64))
 | []=>rfl
 | x::a=>⟨[.int .i64 x],a.map (Value.int .i64),rfl,rfl,Mq a⟩
theorem Vb (a:List Int):(Lib.compact a).length<=a.length:=by unfold Lib.compact Lib.compactUpTo;rw[bZ];refine h9 (oU _ _) ?_;simp
theorem Zx:nN Tryz.prog 29 Ql:=by
 intro w0 id args B out x t C us w hv R;unfold Ql at x;split at x
 ·rename_i i n;split at x
  ·rename_i m f O;simp only[aE] at x;subst x;have T:m=n:=t _ aw;have hn:0<n:=t _ aw;have x3:n<=1000:=t _ aw;subst T;obtain⟨u0,x0,rfl,V,k⟩:=hv;have k:x0=[]:=k;subst k;rcases nW V with ⟨hl,_⟩|⟨b,o,E,K,hl,ho,hN,rfl⟩;omega;have ho:o=0:=by rcases ho with ho|ho<;>omega
   subst ho;obtain⟨l,a,y⟩:=R.blks i _ O aw b K;obtain⟨v1,v2,rfl,k1,Y⟩:=y;have Y:v2=[]:=Y;subst Y;obtain⟨W,rfl⟩:f.length=m/\v1=f.map (Value.int .i64):=k1;rw[bw] at a;have H:=a.len;rw[bZ] at H;have hH:Go.Sort.Holds (Value.int .i64) w b 0 f.toArray:=by
    intro j s;have s:j<f.length:=by simpa using s
    rw[bO];refine⟨a.cell ?_,a.frozen aa⟩;rw[dy,bu s];simp[s]
   subst W;refine .inl ⟨Vl.2 _ _,(Tryz.slices_Compact_int b 0 E f w hH aa hl).mono ?_⟩;rintro e w' ⟨rfl,q,rfl⟩;refine⟨_,rfl,?_⟩;obtain⟨r,el,fr,h1,h2,h3⟩:=a;have y:=Vb f;generalize X:Lib.compact f=u;rw[X] at y;generalize hD:(u++replicate (f.length-u.length) 0).toArray=D;have x1:D.size=f.length:=by rw[<- hD];simp;omega
   obtain⟨L,P⟩:∃ L,L=(Go.Sort.putCells (Value.int .i64) 0 D ⟨f.map (Value.int .i64)++r⟩).toList:=⟨_,rfl⟩;have z:(Go.Sort.putRow (Value.int .i64) (Go.Sort.ahead w q) b 0 D).heap[b]?=some (.cells ⟨L⟩ el fr):=by show (w.heap.modify b _)[b]?=_;rw[qE,ak rfl,h1];rw[P];rfl
   have F:L.length=f.length+r.length:=by rw[P];simp[Go.Sort.putCells]
   have U:L≠[]:=by intro c;rw[c] at F;simp at F;omega
   have A:L.take u.length=u.map (Value.int .i64):=by
    refine By fun j=>?_;rw[fE];split
    ·rename_i s;have G:j<f.length:=aa;rw[P,dy,bu s,Array.getElem?_toList];simp only[Go.Sort.putCells,Array.getElem?_mapIdx]
     rw[show (⟨f.map (Value.int .i64)++r⟩:Array Value)[j]?=some (Value.int .i64 f[j]) by
      rw[tG,oS (by simpa using G),dy,bu G];rfl]
     rw[c6,ak ⟨a8 _,aa⟩];rw[<- hD];simp;rw[oS s,bu s];rfl
    rename_i s;rw[dN (by simpa using s)]
   have Q:C.M b=none:=by
    cases N:C.M b with
    | none=>rfl
    | some l=>exact absurd K (R.apart b l N i _ O aw)
   refine⟨⟨C.m,C.n,fun d=>if d=b then some L else C.M d⟩,?_,?_⟩;refine .inr ⟨b,0,E,rfl,aa,L,fun _=>ak rfl,?_,?_⟩;show 0+u.length*1<=_;omega;show dX _ u ((L.drop 0).take (u.length*1));rw[gL,tZ,A];exact Mq u;refine⟨⟨fun _ _ h=>⟨h,rfl⟩,fun d Z h=>?_⟩,fun _ _ h=>.inl h,fun i' d h=>?_,rfl,rfl,rfl,?_,fun d x2 h=>?_,fun _ h=>(nomatch h),fun _ h=>(nomatch h),fun p t q N _=>by simp at t N;rw[t,N],fun p t=>?_,fun d Z h=>?_⟩;show (if d=b then some L else C.M d)=some Z;rw[ai];exact h;intro e;subst e;rw[Q] at h;cases h;show d<(w.heap.modify b _).size;rw[Array.size_modify];exact R.bound i' d h;show w.heap.size<=(w.heap.modify b _).size;rw[Array.size_modify];exact aI _;have I:b≠d:=fun e=>h (i,[]) aw (by subst e;exact K);show (w.heap.modify b _)[d]?=_;rw[qE,ai I];simp at t;subst t;exact⟨⟨_,O,aw⟩,fun _ _ h=>absurd rfl h⟩;have g:(if d=b then some L else C.M d)=some Z:=h;clear h;by_cases e:d=b;rw[ak e] at g;have g:=jV g;subst e;subst g;refine .inr ⟨fun _ h=>(nomatch h),.inr ⟨(i,[]),aw,K,rfl⟩,el,fr,?_⟩;rw[z,yf U];rw[ai e] at g;exact .inl g
  cases x
 cases x
open Go.IntKind(i64)
theorem Qr:enters Tryz.prog 26 Tryz.f26:=ek
abbrev N5:Func:=Tryz.f26
def N6 (a:List (List Int)) (g:Int × Int):St:=av N5.ntmps 40 [(0,ag (.ro (.sl iK) a)),(3,sI .i64 g.1),(9,ag (.ro (.sl iK) a)),(10,sI .i64 a.length),(11,sI .i64 g.2)] []
def X3 (a:List (List Int)) (g:Int × Nat × List Int):St:=av N5.ntmps 88 [(6,ag (.sl 48 0 0 g.2.1 1)),(25,ag (.ro (.sl iK) a)),(26,sI .i64 a.length),(27,sI .i64 g.1)] [(48,[.ints .i64 g.2.1 g.2.2])]
def jq (a:List (List Int)) (k:Nat):List Int:=(a.take k).flatten
theorem I3 {a:List (List Int)} {k:Nat} (h:k<a.length):jq a (k+1)=jq a k++a.getD k []:=by rw[jq,jq,List.take_add_one,bu h,tJ,a2,bu h];simp
theorem C5 (a:List (List Int)) (k:Nat):(jq a k).length<=a.flatten.length:=by
 have:a.flatten=jq a k++(a.drop k).flatten:=by rw[jq,<- tJ,dO]
 rw[this,a7];omega
def ccJ (a:List (List Int)) (g:Int × Int):Prop:=∃ k:Nat,k<=a.length/\g.2=(k:Int)/\g.1=((jq a k).length:Int)
def ccN (a:List (List Int)) (g:Int × Nat × List Int):Prop:=∃ k:Nat,k<=a.length/\g.1=(k:Int)/\g.2.2=jq a k/\g.2.1=(jq a k).length
abbrev Ii:HL [.sl (.sl iK)]->Prop:=fun (a,_)=>length a<=1000/\1<=(List.flatten a).length/\(List.flatten a).length<=1000
theorem SO:aO Tryz.prog 26 [.sl (.sl iK)] [.own iK] bB Ii (fun (a,_)=>(List.flatten a,())):=by
 have f:aJ Tryz.prog (aU [(59,J7)]):=aM aav bD;refine bL (sp:=aU [(59,J7)]) Qr ae ae ab ?_;rintro w N ⟨a,⟨⟩⟩;revert a;intro (a:List (List Int)) _ L;obtain⟨H,F,G⟩:=L;have H:a.length<=1000:=H;have F:1<=a.flatten.length:=F;have G:a.flatten.length<=1000:=G;show Tr _ _ _ _ _ _ _;refine bh f mixed 3 (N6 a (0,0)) True ?_ (fun _=>?_);refine aq (X:=((N6 a (0,0)).ah True)) ab ?_;exact au trivial;refine cl f mixed (fun d=>[]) (fun d=>(bo iK 3 d,bo iK 11 d)) (N6 a) (ccJ a) (fun g=>a.length-g.2.toNat)
  (fun d=>(bo iK 3 d,bo iK 11 d)) (N6 a) (fun g=>g.1=(a.flatten.length:Int)) (0,0) (c:=ar (al N5) 3) ab ab (ay ab ab ?_) ?_ ?_
 exact⟨0,a8 _,rfl,rfl⟩
 ·rintro⟨s,i⟩ D;revert s i;intro (s:Int) (i:Int) ⟨k,I,j,r⟩;have j:i=(k:Int):=j;have r:s=((jq a k).length:Int):=r;subst j r;refine @aq ((decide ((k:Int)<(a.length:Int))=true->(0<=(k:Int)/\(k:Int)<(a.length:Int))/\(k:Int).toNat<a.length/\(decide (i64.wrap ((↑(jq a k).length:Int)+(↑(a.getD (k:Int).toNat []).length:Int))<0)=true->False)/\(decide (i64.wrap ((↑(jq a k).length:Int)+(↑(a.getD (k:Int).toNat []).length:Int))<0)=false->(N6 a (i64.wrap ((↑(jq a k).length:Int)+(↑(a.getD (k:Int).toNat []).length:Int)),i64.wrap ((k:Int)+1))).ah (ccJ a (i64.wrap ((↑(jq a k).length:Int)+(↑(a.getD (k:Int).toNat []).length:Int)),i64.wrap ((k:Int)+1))/\a.length-(i64.wrap ((k:Int)+1)).toNat<a.length-(k:Int).toNat)))/\(decide ((k:Int)<(a.length:Int))=false->(N6 a ((↑(jq a k).length:Int),(k:Int))).ah ((↑(jq a k).length:Int)=(a.flatten.length:Int)))) _ ?_ ?_;kernel_rfl;rw[aF,aS aa];have C:=C5 a k;refine⟨fun h=>?_,fun h=>au ?_⟩
  ·have b:k<a.length:=by have:=Odt h;omega
   have y:=congrArg length (I3 b);rw[a7] at y;have t:=C5 a (k+1);have E:i64.wrap (((jq a k).length:Int)+((a.getD k []).length:Int))=((jq a k).length:Int)+((a.getD k []).length:Int):=ba aa aa;refine⟨⟨aa,aa⟩,b,fun h=>by have h:=Odt h;exact absurd h (by show ¬ i64.wrap (((jq a k).length:Int)+((a.getD k []).length:Int))<0;rw[E];omega),fun _=>au ⟨⟨k+1,b,rfl,?_⟩,?_⟩⟩;show i64.wrap (((jq a k).length:Int)+((a.getD k []).length:Int))=_;rw[E];omega;show a.length-(((k:Nat):Int)+1).toNat<_;omega
  ·have:k=a.length:=by have:=Odf h;omega
   subst this;rw[jq,aT]
 rintro⟨s,i⟩ D;revert s i;intro (s:Int) (i:Int) (r:s=(a.flatten.length:Int));subst r;refine bh f mixed 2 (X3 a (0,0,[])) True ?_ (fun _=>?_);refine aq (X:=((1<=(a.flatten.length:Int)/\(a.flatten.length:Int)<=1000)/\(X3 a (0,0,[])).ah True)) ab ?_;exact⟨⟨aa,aa⟩,au trivial⟩;refine cl f mixed (fun d=>[(48,Mn 6 d)]) (fun d=>(bo iK 27 d,na 6 d,cT iK 48 d)) (X3 a) (ccN a) (fun g=>a.length-g.1.toNat)
  (fun d=>(na 6 d,cT iK 48 d)) (fun g=>av N5.ntmps 88 [(6,ag (.sl 48 0 0 g.1 1))] [(48,[.ints .i64 g.1 g.2])]) (fun g=>g.1=a.flatten.length/\g.2=a.flatten) (0,0,[]) (c:=ar (al N5) 6) ab ab (ay ab ab ?_) ?_ ?_
 exact⟨0,a8 _,rfl,rfl,rfl⟩
 ·rintro⟨i,m,l⟩ D;revert i l;intro (i:Int) (l:List Int) ⟨k,I,n,o,q⟩;have j:i=(k:Int):=n;have u:l=jq a k:=o;have z:m=(jq a k).length:=q;clear n o q;subst j;refine @aq ((decide ((k:Int)<(a.length:Int))=true->(0<=(k:Int)/\(k:Int)<(a.length:Int))/\(k:Int).toNat<a.length/\m<=m/\(m+(a.getD (k:Int).toNat []).length)*8<=140737488355328/\m+(a.getD (k:Int).toNat []).length<=4611686018427387904/\(X3 a (i64.wrap ((k:Int)+1),m+(a.getD (k:Int).toNat []).length,take m l++a.getD (k:Int).toNat [])).ah (ccN a (i64.wrap ((k:Int)+1),m+(a.getD (k:Int).toNat []).length,take m l++a.getD (k:Int).toNat [])/\a.length-(i64.wrap ((k:Int)+1)).toNat<a.length-(k:Int).toNat))/\(decide ((k:Int)<(a.length:Int))=false->(av N5.ntmps 88 [(6,SV.is (TV.one (Cell.sl 48 0 0 (m,l).fst 1)))] [(48,[Cell.ints i64 (m,l).fst (m,l).snd])]).ah (m=a.flatten.length/\l=a.flatten))) _ ?_ ?_;kernel_rfl;rw[aF,aS aa];have C:=C5 a k;have K:l.length=m:=by rw[u,z]
  refine⟨fun h=>?_,fun h=>au ?_⟩
  ·have b:k<a.length:=by have:=Odt h;omega
   have y:=I3 b;have OH:=congrArg length y;rw[a7] at OH;have t:=C5 a (k+1);refine⟨⟨aa,aa⟩,b,aI _,aa,aa,au ⟨⟨k+1,b,rfl,?_,?_⟩,?_⟩⟩;show take m l++a.getD k []=_;rw[bW aa,y,u];show m+(a.getD k []).length=_;omega;show a.length-(((k+1:Nat):Int)).toNat<_;omega
  ·have:k=a.length:=by have:=Odf h;omega
   subst this;have e:jq a a.length=a.flatten:=by rw[jq,aT]
   rw[e] at z u;exact⟨z,u⟩
 rintro⟨m,l⟩ D;revert l;intro (l:List Int) ⟨A,x⟩;have A:m=a.flatten.length:=A;have x:l=a.flatten:=x;refine bJ f mixed _ _ ?_;refine @aq (0+m<=m/\(take m l,())=(a.flatten,())) _ ?_ ?_;kernel_rfl;refine⟨aa,?_⟩;rw[bW (by rw[x,A];exact aI _),x]
def Xe:Nat × Eng.Spec:=(26,aK [.sl (.sl iK)] [.own iK] Ii (fun (a,_)=>(List.flatten a,())))
end YtofofalgjibokaaGreatDoor.cpg
namespace YtofofalgjibokaaGreatDoor.rite
open Go.IntKind(i64 u64 u8)
open Go.IntKind(i64)
set_option maxHeartbeats 4000000
open Go.Eng Go.RowKit Cr hub deal
open Go.Hbn(Talk bb eG)
def ig (mem:List Int) (k:Nat):Int:=if k=0 then 0 else mem.getD (k-1) 0
def lI (mem:List Int) (k:Nat):Prop:=∀ j,j<k->ig mem j<mem.getD j 0/\mem.getD j 0<=9
def ya (a:Int) (mem:List Int):Prop:=lI mem mem.length/\a∈mem
theorem KU:enters Tryz.prog 28 Tryz.f28:=ek
abbrev mL:Func:=Tryz.f28
abbrev We:=aU [law22.ku,YW]
theorem lq:aJ Tryz.prog We:=aM (aR law22.l7) (aM (aR KZ) bD)
abbrev Ym:Code:=ar (al mL) 3
abbrev hnB:List Code:=cV (ar (aV Ym) 2)
def yL (b:Int) (mem:List Int) (l k:Int) (a:List (Nat × SV)):St:=av mL.ntmps 8 ([(0,sI .i64 b),(1,ag (.ro iK mem)),(5,sI .i64 l),(8,ag (.ro iK mem)),(9,sI .i64 mem.length),(10,sI .i64 k)]++a) []
def hnE (b:Int) (mem:List Int) (a:List (Nat × SV)):St:=av mL.ntmps 8 ([(0,sI .i64 b),(1,ag (.ro iK mem))]++a) []
def hnG (a:Int) (n:Nat) (mem:List Int):St:=av mL.ntmps 25 [(27,sI .i64 a),(29,ag (.sl 24 0 0 n 1))] [(24,[.ints .i64 n mem])]
def hnH (a:Int) (n:Nat) (mem:List Int) (b:Nat):St:=av mL.ntmps 66 [(4,ao 65 0)] [(65,[.v (.int .i64 a),.sl 24 0 0 n 1,.v (.map (some b))]),(24,[.ints .i64 n mem])]
section
variable (gl:Nat->Option (Sigma aH)) (w0:World) (M0:Mem) (F0:Nat->Prop)
abbrev Yn:Ob.cf:=Ob.lj Tryz.prog We gl w0 M0 F0
end
theorem S3 {mem:List Int} {k:Nat} (a:k<mem.length) (h:¬ (ig mem k<mem.getD k 0/\mem.getD k 0<=9)):¬ lI mem mem.length:=fun g=>h (g k a)
theorem QG {mem:List Int} {k:Nat} (a:lI mem k) (h:ig mem k<mem.getD k 0/\mem.getD k 0<=9):lI mem (k+1):=fun j b=>by
 rcases bS j k with h2|h2;exact a j h2
 ·have:j=k:=by omega
  rw[this];exact h
theorem aau {mem:List Int} {k:Nat} {q:Int} (b:lI mem k) (d:q=mem.getD k 0) (a:(decide (q<=ig mem k)||decide (q>9))=false):lI mem (k+1):=by rw[Bk] at a;have e:=Odf a.1;have f:=Odf a.2;exact QG b (by rw[<- d];omega)
theorem aat {mem:List Int} {k:Nat} {q:Int} (a:k<mem.length) (b:q=mem.getD k 0) (hb:(decide (q<=ig mem k)||decide (q>9))=true):¬ lI mem mem.length:=by rw[oH] at hb;refine S3 a fun g=>?_;rw[<- b] at g;rcases hb with hb|hb;have:=Odt hb;omega;have:=Odt hb;omega
theorem aaV (gl:Nat->Option (Sigma aH)):Ob.ez Tryz.prog gl 28 (fun z:Int × List Int=>[sI .i64 z.1,ag (.ro iK z.2)]) (fun z=>z.2.length<1000) (fun _=>Ob.aj.none) (fun _ (y:Option (Nat × Nat))=>match y with|some q=>aB q.1|none=>s6) (fun z y=>match y with|some q=>bz ⟨q.1,q.2,z.1,z.2,[]⟩|none=>Ob.aj.none) (fun z y=>match y with|some _=>ya z.1 z.2|none=>¬ ya z.1 z.2):=by
 refine Ob.c9 (sp:=We) KU ab (fun z=>by show 2<=mL.ntmps;exact Odt ab) (fun z y=>by cases y<;>rfl) ?_;rintro⟨d,mem⟩ t w0 M0 F0;have t:mem.length<1000:=t;refine Ob.eK lq 3 (yL d mem (ig mem 0) 0 []) ?_;refine Ob.Li lq mixed (c:=Ym) (fun k=>yL d mem (ig mem k) (k:Int) []) (fun _=>Ob.aj.none) (fun k=>lI mem k) mem.length ab ab (fun j i=>absurd i (wW _)) (fun k r w ids M num=>?_) (fun k r i=>?_) (fun i=>?_);refine aq (X:=((decide ((k:Int)<(mem.length:Int))=true->(yL d mem (ig mem k) (k:Int) []).ah (k<mem.length))/\(decide ((k:Int)<(mem.length:Int))=false->(yL d mem (ig mem k) (k:Int) []).ah (k=mem.length)))) ab ?_;exact⟨fun h=>au (by have:=dec_lt h;omega),fun h=>au (by have:=bX h;omega)⟩
 ·refine Ob.dL (E:=Yn gl w0 M0 F0) (c:=ar (aV Ym) 2) (fun a w=>lI mem (k+1)/\Ob.GH (Yn gl w0 M0 F0) mL.ntmps (yL d mem (ig mem (k+1)) (k:Int) []) Ob.aj.none a w) ab ab ?_ ?_
  ·refine Ob.gcd lq 1 (fun g=>bo iK 7 g) (fun q=>yL d mem (ig mem k) (k:Int) [(7,sI .i64 q)]) (fun q=>q=mem.getD k 0) ?_ (fun q n=>?_);intros;refine @aq ((0<=(k:Int)/\(k:Int)<(mem.length:Int))/\(k:Int).toNat<mem.length/\(yL d mem (ig mem k) (k:Int) [(7,sI IntKind.i64 (mem.getD (k:Int).toNat 0))]).ah (mem.getD (k:Int).toNat 0=mem.getD k 0)) _ ?_ ?_;kernel_rfl;rw[aF];exact⟨⟨aa,aa⟩,r,au rfl⟩;refine Ob.kN lq mixed 1 20 (fun g=>bo .bool 20 g) (fun b=>yL d mem (ig mem k) (k:Int) [(7,sI .i64 q),(20,aA b)]) (fun b=>b=(decide (q<=ig mem k)||decide (q>9))) (fun _=>False) (fun _ _=>False) ?_ (fun b f=>?_) (fun _ _ _ h _=>h.elim) (fun _ _ _ _ h _=>h.elim);intros;refine @aq ((decide (q<=ig mem k)=true->(yL d mem (ig mem k) (k:Int) [(7,sI IntKind.i64 q),(20,aA true)]).ah (true=(decide (q<=ig mem k)||decide (q>(9:aH iK)))))/\(decide (q<=ig mem k)=false->(yL d mem (ig mem k) (k:Int) [(7,sI IntKind.i64 q),(20,aA (decide (q>9)))]).ah (decide (q>9)=(decide (q<=ig mem k)||decide (q>(9:aH iK)))))) _ ?_ ?_;kernel_rfl;exact⟨fun h=>au (by rw[h];rfl),fun h=>au (by rw[h];rfl)⟩;have m:(q:Int)=mem.getD k 0:=n;cases b
   ·have f:=f.symm;refine Ob.e5 (ar hnB 2) ?_;refine Ob.eK lq 1 (yL d mem q (k:Int) []) ?_;refine Ob.cr fun a w o=>⟨aau (q:=q) i m f,?_⟩;have e:ig mem (k+1)=q:=by rw[n];rfl
    rw[e];exact o
   have f:=f.symm;refine Ob.je (ar hnB 2) ?_;refine Ob.iu lq mixed s6 ?_ ⟨none,fun h=>aat (q:=q) r m f h.1,Ob.br _,rfl⟩;intros;refine @aq (SV.is (TV.one (Cell.v (Value.pointer none)))=s6) _ ?_ ?_;kernel_rfl;rfl
  intro a w u o C D F;obtain⟨x,A⟩:=o;refine Ob.pF (l:=(aV Ym).drop 3) lq mixed 1 (fun g=>bo iK 10 g) (fun q=>yL d mem (ig mem (k+1)) q []) (fun q=>q=((k+1:Nat):Int)) (fun _=>False) (fun _ _=>False) ?_ (fun q n=>?_) (fun _ _ _ h _=>h.elim) (fun _ _ _ _ h _=>h.elim) a w u A C D F;intros;refine @aq ((yL d mem (ig mem (k+1)) (IntKind.i64.wrap ((k:Int)+1)) []).ah (IntKind.i64.wrap ((k:Int)+1)=(↑(k+1):Int))) _ ?_ ?_;kernel_rfl;exact au (aS aa);subst n;exact Ob.cr fun _ _ h=>⟨x,h⟩
 refine Ob.gcd lq 1 (fun g=>bo .bool 26 g) (fun b=>hnE d mem [(26,aA b)]) (fun b=>b=!decide (d∈mem)) ?_ (fun b f=>?_);intros;refine @aq (law22.g8 (mem,d,())/\(hnE d mem [(26,aA !decide (d∈mem))]).ah ((!decide (d∈mem))=!decide (d∈mem))) _ ?_ ?_;kernel_rfl;exact⟨by show mem.length<_;omega,au rfl⟩;cases b
 ·have s:d∈mem:=by
   have:decide (d∈mem)=true:=by cases h:decide (d∈mem) with|true=>rfl|false=>rw[h] at f;cases f
   exact Odt this
  refine Ob.e5 (ar (al mL) 5) ?_;refine Ob.ep 11 (bC (ar (al mL) 6)) ?_;refine Ob.gA lq 3 (fun _=>()) (fun _=>hnG d mem.length mem) (fun _=>True) ?_ (fun _ _=>?_);intros;refine @aq (r3 (mem,())/\(hnG d mem.length mem).ah True) _ ?_ ?_;kernel_rfl;exact⟨by show mem.length<_;omega,au trivial⟩;refine Ob.fI (Ob.fq (E:=Yn gl w0 M0 F0) (sv:=fun b:Nat=>ag (.v (.map (some b)))) (G2:=fun b=>Ob.fK b []) (J:=fun _=>True) ab ?_) (fun b _=>?_);rw[show Ob.jl (bC (ar (al mL) 6)) 3=.makeMap 118 none from by kernel_rfl];exact Ob.H8;refine Ob.dT lq 7 (hnH d mem.length mem b) (Ob.ei ?_);refine Ob.sS [.v (.int .i64 d)] 65 24 mem.length 1 (.int .i64) mem (.ints .i64 mem.length mem) [.v (.map (some b))] ae Ob.xm rfl rfl rfl ?_;refine Ob.C9 (E:=Yn gl w0 M0 F0) (bl:=[db d mem b]) 4 [] [65] rfl ab ab rfl ab rfl ab (fun p=>av mL.ntmps 8 [(4,aB p)] []) (fun p=>ay ab ab trivial) (fun p=>?_);refine Ob.gT lq mixed (aB p) ?_ ⟨some (p,b),⟨i,s⟩,Ob.br _,?_⟩;intros;refine @aq (SV.is (TV.one (Cell.v (Value.pointer (some { block:=p,off:=0 }))))=aB p) _ ?_ ?_;kernel_rfl;rfl;show Ob.aj.obj [db d mem b] p (Ob.fK b [])=bz ⟨p,b,d,mem,[]⟩;rw[Ob.bF];unfold bz;show _=Ob.aj.sep _ (Ob.aj.sep (fk b []) (ft []));rw[show ft []=Ob.aj.none from rfl,Ob.pv];rfl
 ·have s:¬ d∈mem:=by
   have:decide (d∈mem)=false:=by cases h:decide (d∈mem) with|false=>rfl|true=>rw[h] at f;cases f
   exact Odf this
  refine Ob.je (ar (al mL) 5) ?_;refine Ob.iu lq mixed s6 ?_ ⟨none,fun h=>s h.2,Ob.br _,rfl⟩;intros;refine @aq (SV.is (TV.one (Cell.v (Value.pointer none)))=s6) _ ?_ ?_;kernel_rfl;rfl
set_option maxHeartbeats 4000000
theorem vI {E:Ob.cf} {N:Nat} {n r:ax} {x:Nat->ax} {l:List Code} {b:St} {G:Ob.aj} (id:Nat) (cell:Cell) (f c:List Cell) (o:b.B id=some f) (i:f≠[]) (g:∀ (k:aC) (j:List Value),az k f j->az k c j)
  (m:Ob.aN E.P l (Ob.GH E N ⟨b.slots,(id,c)::(b.next,[cell])::b.blks,b.next+1⟩ G) n r x):Ob.aN E.P l (Ob.GH E N b G) n r x:=by
 refine Ob.mJ (P:=E.P) (l1:=[]) (l2:=l) (Ob.GH E N ⟨b.slots,(id,c)::(b.next,[cell])::b.blks,b.next+1⟩ G) ?_ m;refine Ob.vJ (fun d=>d=⟨b.slots,(id,c)::(b.next,[cell])::b.blks,b.next+1⟩) (fun _=>False) (fun _ _=>False) (fun w ids M num=>?_) (fun d a w e q=>e▸q) (fun _ _ _ h _=>h.elim) (fun _ _ _ _ h _=>h.elim);exact Ob.PQ id cell f c o i g (kk rfl)
theorem C6:enters Tryz.prog 8 Tryz.f8:=ek
abbrev vT:Func:=Tryz.f8
theorem ac1:aO Tryz.prog 30 [.sl iK] [.val (.sl iK)] bB r3 (fun (c,_)=>(c,())):=KZ.AR
def agi:Nat × Eng.Spec:=(30,aK [.sl iK] [.val (.sl iK)] r3 (fun (c,_)=>(c,())))
theorem ac0:aO Tryz.prog 32 [.sl .fr] [.val (.sl .fr)] bB GC (fun (c,_)=>(c,())):=acy.AR
def agh:Nat × Eng.Spec:=(32,aK [.sl .fr] [.val (.sl .fr)] GC (fun (c,_)=>(c,())))
theorem ac2:aO Tryz.prog 31 [.sl aQ] [.val (.sl aQ)] bB pb (fun (c,_)=>(c,())):=EA.AR
def agj:Nat × Eng.Spec:=(31,aK [.sl aQ] [.val (.sl aQ)] pb (fun (c,_)=>(c,())))
theorem V1:aO Tryz.prog 24 [dR] [.val (.int .i64)] bB GF (fun ((d,t,n,o),_)=>(eR (oX d t n o),())):=VR.out fun ((d,t,n,o),_)=>by show (eR (oX d t n o),())=(oX d t n o,());rw[bm]
def abr:Nat × Eng.Spec:=(24,aK [dR] [.val (.int .i64)] GF (fun ((d,t,n,o),_)=>(eR (oX d t n o),())))
abbrev WB:=aU [abr,law22.ku,cpg.Xe,sorti.ae6,(29,cpg.Ql),agi,agj,agh]
theorem iz:aJ Tryz.prog WB:=aM (aR V1) (aM (aR law22.l7) (aM (aR cpg.SO) (aM (zH sorti.aag) (aM cpg.Zx (aM (aR ac1) (aM (aR ac2) (aM (aR ac0) bD)))))))
structure jD where
 me:Int
 d:List Int
 t:List Int
 need:Int
 old:List Pt
 a6:List Fr
 start:Int
 span:Int
def jD.args (z:jD):List SV:=[sI .i64 z.me,.is (.agg [.ro iK z.d,.ro iK z.t,.v (.int .i64 z.need),.ro aQ z.old]),ag (.ro .fr z.a6),sI .i64 z.start,sI .i64 z.span]
def jD.mem (z:jD):List Int:=Lib.compact (sorti.il (z.d++z.t))
def jD.bad (z:jD):Bool:=(eR (oX z.d z.t z.need z.old) != 0)||decide (z.span<1)||decide (z.span>1048576)||decide (z.start<0)||decide (z.start>1099511627776)
def jD.qu (z:jD):Bool:=decide (z.me∈z.d)&&((z.a6.length:Int) != z.need)
theorem abZ {z:jD} (h:decide (z.me∈z.d)=true):((z.a6.length:Int) != z.need)=z.qu:=by unfold jD.qu;rw[h];rfl
theorem abY {z:jD} (h:decide (z.me∈z.d)=false):false=z.qu:=by unfold jD.qu;rw[h];rfl
structure jD.Pre (z:jD):Prop where
 len:z.d.length+z.t.length<=12
 mem:z.mem.length<1000
 old:z.old.length<1000
 a6:z.a6.length<1000
theorem afx {z:jD} (h:z.bad=false):1<=z.d.length:=by unfold jD.bad at h;simp only[Bk] at h;have a:(eR (oX z.d z.t z.need z.old) != 0)=false:=h.1.1.1.1;rw[bm] at a;by_cases b:z.d.length=0;unfold oX at a;simp[b] at a;omega
def ow (z:jD) (next:Nat) (a:List (Nat × SV)) (bl:List (Nat × List Cell)):St:=av vT.ntmps next ([(0,sI .i64 z.me),(2,ag (.ro .fr z.a6)),(3,sI .i64 z.start),(4,sI .i64 z.span),(6,ao 0 0)]++a) ((0,[.ro iK z.d,.ro iK z.t,.v (.int .i64 z.need),.ro aQ z.old])::bl)
abbrev nl:Cell:=.v (.slice none 0 0)
abbrev zZ:List Cell:=[nl,nl,nl,nl,nl]
abbrev um (z:jD) (c:Cell) (l t:List Cell):List Cell:=[.v (.int .i64 z.me),.ro iK z.d,.ro iK z.t,.v (.int .i64 z.need),.ro aQ z.old,.ro .fr z.a6,.v (.int .i64 z.start),.v (.int .i64 z.span),.v (.int .i64 0),c]++(l++t)
abbrev Vk:List Cell:=[nl,nl]++(replicate 4 (.v (.int .u64 0))++replicate 32 (.v (.int .u8 0)))
def nwT (z:jD) (a:Nat):St:=av vT.ntmps 177 [(10,ao 161 0)] [(161,um z (.ptr 96 0) zZ (Vk++[.v (.int .i64 0)])),(96,db z.me z.mem a)]
def nwU (z:jD) (a:Nat):St:=av vT.ntmps 177 [(10,ao 161 0)] [(161,um z (.v (Ob.pt a)) zZ (bn++[.v (.int .i64 0)]))]
abbrev kY (id c:Nat):Cell:=.sl id 0 0 0 c
def nwV (z:jD) (a:Nat):St:=av vT.ntmps 182 [(10,ao 161 0)] [(161,um z (.v (Ob.pt a)) [kY 177 2,kY 178 2,kY 179 6,kY 180 1,kY 181 4] (bn++[.v (.int .i64 0)])),(177,[.row cy 0 []]),(178,[.row cB 0 []]),(179,[.row cG 0 []]),(180,[.ints .i64 0 []]),(181,[.row .fr 0 []])]
theorem pn {d:aC} {c c':Cell} (h:∀ v,c.rel d v->c'.rel d v) (post:List Cell):∀ (pre:List Cell) (l:List Value),az d (pre++c::post) l->az d (pre++c'::post) l
 | [],_,⟨a,b,e,f,g⟩=>⟨a,b,e,h a f,g⟩
 | _::pre,_,⟨a,b,e,f,g⟩=>⟨a,b,e,f,pn h post pre b g⟩
theorem zd {a:aC} (id c:Nat):∀ v,nl.rel a v->(kY id c).rel a v:=fun _ h=>.inl ⟨rfl,h.1⟩
theorem Pl {a:aC} {cs cs':List Cell} (h:∀ l,az a cs l->az a cs' l):∀ (pre:List Cell) (l:List Value),az a (pre++cs) l->az a (pre++cs') l
 | [],l,g=>h l g
 | _::pre,_,⟨i,b,e,d,f⟩=>⟨i,b,e,d,Pl h pre b f⟩
theorem Iv {b:aC} (k:IntKind) (post:List Cell):∀ (n:Nat) (l:List Value),az b (replicate n (.v (.int k 0))++post) l->az b (.ints k n (replicate n 0)::post) l
 | 0,l,h=>⟨[],l,rfl,⟨rfl,rfl⟩,h⟩
 | n+1,l,⟨o,q,e,a,f⟩=>by obtain⟨j,m,d,⟨_,g⟩,i⟩:=Iv k post n q f;have a:o=[.int k 0]:=a.1;refine⟨.int k 0::j,m,?_,⟨aw,?_⟩,i⟩;rw[e,a,d];rfl;rw[g];rfl
theorem aeh (z:jD) (f:Nat) (g:aC) (h:g 96=some f) (l:List Value) (a:az g (um z (.ptr 96 0) zZ (Vk++[.v (.int .i64 0)])) l):az g (um z (.v (Ob.pt f)) zZ (bn++[.v (.int .i64 0)])) l:=by
 have a:=pn (c:=.ptr 96 0) (c':=.v (Ob.pt f)) (fun v n=>by
  obtain⟨i,b,m⟩:∃ i,g 96=some i/\v=[.pointer (some ⟨i,0,none⟩)]:=n;rw[h] at b;cases b
  exact⟨m,rfl⟩) (zZ++(Vk++[.v (.int .i64 0)])) [.v (.int .i64 z.me),.ro iK z.d,.ro iK z.t,.v (.int .i64 z.need),.ro aQ z.old,.ro .fr z.a6,.v (.int .i64 z.start),.v (.int .i64 z.span),.v (.int .i64 0)] l a
 refine Pl (cs:=replicate 4 (.v (.int .u64 0))++(replicate 32 (.v (.int .u8 0))++[.v (.int .i64 0)])) (cs':=.ints .u64 4 [0,0,0,0]::.ints .u8 32 (replicate 32 0)::[.v (.int .i64 0)]) (fun l a=>?_) (um z (.v (Ob.pt f)) zZ [nl,nl]) l a;obtain⟨o,j,e,b,k⟩:=Iv .u64 _ 4 l a;exact⟨o,j,e,b,Iv .u8 _ 32 j k⟩
theorem Ls (c a:Nat) (b:Int) (mem:List Int):Ob.aj.obj [db b mem a] c (Ob.fK a [])=bz ⟨c,a,b,mem,[]⟩:=by rw[Ob.bF];unfold bz;show _=Ob.aj.sep _ (Ob.aj.sep (fk a []) (ft []));rw[show ft []=Ob.aj.none from rfl,Ob.pv];rfl
section
variable (gl:Nat->Option (Sigma aH)) (w0:World) (M0:Mem) (F0:Nat->Prop)
abbrev D8:Ob.cf:=Ob.lj Tryz.prog WB gl w0 M0 F0
end
theorem LS (gl:Nat->Option (Sigma aH)):Ob.ez Tryz.prog gl 8 jD.args jD.Pre (fun _=>Ob.aj.none) (fun _ (y:Option (Nat × Nat × Nat))=>match y with|some q=>aB q.1|none=>s6)
  (fun z y=>match y with|some q=>dF.cv ⟨⟨⟨q.1,z.me,z.d,z.t,z.need,z.old,z.a6,z.start,z.span,0,q.2.1,[],[],[],[],[],0⟩,⟨q.2.1,q.2.2,z.me,z.mem,[]⟩⟩,false⟩|none=>Ob.aj.none)
  (fun z y=>match y with|some _=>z.bad=false/\z.qu=false/\ya z.me z.mem|none=>¬ (z.bad=false/\z.qu=false/\ya z.me z.mem)):=by
 refine Ob.c9 (sp:=WB) C6 ab (fun z=>by show 5<=vT.ntmps;exact Odt ab) (fun z y=>by cases y<;>rfl) ?_;rintro z w w0 M0 F0;have H:=w.len;refine Ob.eK iz 1 (ow z 16 [] []) ?_;refine Ob.kN iz mixed 1 31 (fun o=>bo .bool 31 o) (fun b=>ow z 16 [(31,aA b)] []) (fun b=>b=z.bad) (fun _=>False) (fun _ _=>False) ?_ (fun b i=>?_) (fun _ _ _ h _=>h.elim) (fun _ _ _ _ h _=>h.elim);intros;refine @aq (GF ((z.d,z.t,z.need,z.old),())/\((eR (oX z.d z.t z.need z.old) != 0)=true->(ow z 16 [(31,aA true)] []).ah (true=z.bad))/\((eR (oX z.d z.t z.need z.old) != 0)=false->(decide (z.span<1)=true->(ow z 16 [(31,aA true)] []).ah (true=z.bad))/\(decide (z.span<1)=false->(decide (z.span>1048576)=true->(ow z 16 [(31,aA true)] []).ah (true=z.bad))/\(decide (z.span>1048576)=false->(decide (z.start<0)=true->(ow z 16 [(31,aA true)] []).ah (true=z.bad))/\(decide (z.start<0)=false->(ow z 16 [(31,aA (decide (z.start>1099511627776)))] []).ah (decide (z.start>1099511627776)=z.bad)))))) _ ?_ ?_;kernel_rfl;refine⟨⟨by show z.d.length<_;omega,by show z.t.length<_;omega⟩,fun h=>au (by unfold jD.bad;rw[h];simp),fun h=>⟨fun r=>au (by unfold jD.bad;rw[h,r];simp),fun r=>⟨fun s=>au (by unfold jD.bad;rw[h,r,s];simp),fun s=>⟨fun C=>au (by unfold jD.bad;rw[h,r,s,C];simp),fun C=>au (by unfold jD.bad;rw[h,r,s,C];simp)⟩⟩⟩⟩;have i:b=z.bad:=i;cases b
 ·have i:=i.symm;have I:=afx i;refine Ob.e5 (ar (al vT) 2) ?_;refine Ob.kN iz mixed 1 42 (fun o=>bo .bool 42 o) (fun b=>ow z 16 [(42,aA b)] []) (fun b=>b=z.qu) (fun _=>False) (fun _ _=>False) ?_ (fun G c=>?_) (fun _ _ _ h _=>h.elim) (fun _ _ _ _ h _=>h.elim);intros;refine @aq (law22.g8 (z.d,z.me,())/\(decide (z.me∈z.d)=true->(ow z 16 [(42,aA ((z.a6.length:Int) != z.need))] []).ah (((z.a6.length:Int) != z.need)=z.qu))/\(decide (z.me∈z.d)=false->(ow z 16 [(42,aA false)] []).ah (false=z.qu))) _ ?_ ?_;kernel_rfl;exact⟨by show z.d.length<_;omega,fun h=>au (abZ h),fun h=>au (abY h)⟩;have c:G=z.qu:=c;cases G
  ·have c:=c.symm;refine Ob.e5 (ar (al vT) 4) ?_;refine Ob.gcd iz 1 (fun o=>(na 11 o,cT iK 56 o)) (fun g:Nat × List Int=>ow z 72 [(11,ag (.sl 56 0 0 g.1 1))] [(56,[.ints .i64 g.1 g.2])]) (fun g=>g.1=z.d.length+z.t.length/\g.2=z.d++z.t) ?_ (fun g K=>?_);intros;refine @aq (0+2<=2/\cpg.Ii (take 2 [z.d,z.t],())/\(ow z 72 [(11,SV.is (TV.one (Cell.sl 56 0 0 (((take 2 [z.d,z.t]).flatten,()).fst.length,((take 2 [z.d,z.t]).flatten,()).fst).fst 1)))] [(56,[Cell.ints IntKind.i64 (((take 2 [z.d,z.t]).flatten,()).fst.length,((take 2 [z.d,z.t]).flatten,()).fst).fst (((take 2 [z.d,z.t]).flatten,()).fst.length,((take 2 [z.d,z.t]).flatten,()).fst).snd])]).ah ((take 2 [z.d,z.t]).flatten.length=z.d.length+z.t.length/\(take 2 [z.d,z.t]).flatten=z.d++z.t)) _ ?_ ?_;kernel_rfl;have e:(take 2 [z.d,z.t]).flatten=z.d++z.t:=aw;have A:(z.d++z.t).length=z.d.length+z.t.length:=a7;refine⟨aI _,⟨by show 2<=1000;decide,?_,?_⟩,au ⟨by rw[e,A],e⟩⟩;show 1<=(take 2 [z.d,z.t]).flatten.length;rw[e,A];omega;show (take 2 [z.d,z.t]).flatten.length<=1000;rw[e,A];omega;obtain⟨m,l⟩:=g;obtain⟨D,u⟩:=K;have D:m=z.d.length+z.t.length:=D;have u:l=z.d++z.t:=u;have N:l.length=m:=by rw[u,D,a7]
   refine Ob.gcd iz 1 (fun _=>()) (fun _=>ow z 72 [(11,ag (.sl 56 0 0 m 1))] [(56,[.ints .i64 m (sorti.il l)])]) (fun _=>True) ?_ (fun _ _=>?_);intros;refine @aq (m=m/\0<m/\sorti.Ik (l,())/\(ow z 72 [(11,SV.is (TV.one (Cell.sl 56 0 0 m 1)))] [(56,[Cell.ints IntKind.i64 m (sorti.il l)])]).ah True) _ ?_ ?_;kernel_rfl;exact⟨rfl,aa,by show l.length<=12;omega,au trivial⟩;refine Ob.ep 7 (bC (ar (al vT) 7)) ?_;refine Ob.gA iz 3 (fun _=>()) (fun _=>ow z 96 [(51,sI .i64 z.me),(53,ag (.ro iK (Lib.compact (sorti.il l))))] []) (fun _=>True) ?_ (fun _ _=>?_);intros;refine @aq (m=m/\0<m/\m<=1000/\(ow z 96 [(51,sI IntKind.i64 z.me),(53,SV.is (TV.one (Cell.ro iK (Lib.compact (sorti.il l)))))] []).ah True) _ ?_ ?_;kernel_rfl;exact⟨rfl,aa,aa,au trivial⟩;rw[show Lib.compact (sorti.il l)=z.mem by rw[u];rfl];refine Ob.fI (Ob.eO (E:=D8 gl w0 M0 F0) (aaV gl) (z.me,z.mem) w.mem ab KU ab ab (fun y=>by cases y<;>rfl)) (fun y n=>?_);cases y with
   | none =>have n:¬ ya z.me z.mem:=n;refine Ob.dT iz 5 (ow z 96 [(12,s6)] []) (Ob.ei ?_);refine Ob.eK iz 1 (ow z 96 [(56,ag .T)] []) ?_;have f:¬ (z.bad=false/\z.qu=false/\ya z.me z.mem):=fun h=>n h.2.2;refine Ob.gqT (ar (al vT) 9) ?_;refine Ob.iu iz mixed s6 ?_ ⟨none,f,Ob.br _,rfl⟩;intros;refine @aq (SV.is (TV.one (Cell.v (Value.pointer none)))=s6) _ ?_ ?_;kernel_rfl;rfl
   | some q =>obtain⟨a,j⟩:=q;have n:ya z.me z.mem:=n;refine Ob.dT iz 5 (ow z 96 [(12,aB a)] []) (Ob.ei ?_);refine Ob.ep 8 (bC (ar (al vT) 8)) ?_;refine Ob.dT iz 1 (ow z 96 [(12,aB a),(55,aB a)] []) ?_;refine Ob.fI (Ob.fq (E:=D8 gl w0 M0 F0) (sv:=fun _:Unit=>ag .F) (G2:=fun _=>bz ⟨a,j,z.me,z.mem,[]⟩) (J:=fun _=>True) ab ?_) (fun _ _=>?_);rw[show Ob.jl (bC (ar (al vT) 8)) 1=.binOp .eql 78 (.tmp 55) (.const (.pointer none)) 78 from by kernel_rfl];exact Ob.xu (p:=a) MN ab ab;refine Ob.ei ?_;refine Ob.gqF (ar (al vT) 9) ?_;refine Ob.fR (ow z 96 [(12,aB a)] []) ?_;refine Ob.gcd iz 3 (fun _=>()) (fun _=>ow z 96 [(12,aB a)] []) (fun _=>True) ?_ (fun _ _=>?_);intros;refine @aq (r3 (z.d,())/\r3 (z.t,())/\pb (z.old,())/\(ow z 96 [(12,aB a)] []).ah True) _ ?_ ?_;kernel_rfl;exact⟨by show z.d.length<_;omega,by show z.t.length<_;omega,by have:=w.old;show z.old.length<_;omega,au trivial⟩;refine Ob.aP (G':=Ob.aj.obj [db z.me z.mem j] a (Ob.fK j [])) (Ls a j z.me z.mem).symm ?_;refine Ob.gR [12] (ow z 97 [(12,ao 96 0)] [(96,db z.me z.mem j)]) ?_;refine Ob.gcd iz 1 (fun _=>()) (fun _=>nwT z j) (fun _=>True) ?_ (fun _ _=>?_);intros;refine @aq (GC (z.a6,())/\(nwT z j).ah True) _ ?_ ?_;kernel_rfl;exact⟨by have:=w.a6;show z.a6.length<_;omega,au trivial⟩;refine Ob.n8 (fun _ _ L=>Ob.Ld (E:=(D8 gl w0 M0 F0).pinned 96 a) 96 a 161 _ (um z (.v (Ob.pt a)) zZ (bn++[.v (.int .i64 0)])) aw ab aw (aeh z a) L) ?_;refine Ob.fj (E:=D8 gl w0 M0 F0) (bl:=[db z.me z.mem j]) [161] [96] 97 (nwU z a) ?_;refine vI (E:=D8 gl w0 M0 F0) 161 (.row cy 0 []) _ (um z (.v (Ob.pt a)) [kY 177 2,nl,nl,nl,nl] (bn++[.v (.int .i64 0)])) ab aw (fun x k h=>pn (zd _ _) ([nl,nl,nl,nl]++(bn++[.v (.int .i64 0)])) (um z (.v (Ob.pt a)) [] []) k h) ?_;refine vI (E:=D8 gl w0 M0 F0) 161 (.row cB 0 []) _ (um z (.v (Ob.pt a)) [kY 177 2,kY 178 2,nl,nl,nl] (bn++[.v (.int .i64 0)])) ab aw (fun x k h=>pn (zd _ _) ([nl,nl,nl]++(bn++[.v (.int .i64 0)])) (um z (.v (Ob.pt a)) [kY 177 2] []) k h) ?_;refine vI (E:=D8 gl w0 M0 F0) 161 (.row cG 0 []) _ (um z (.v (Ob.pt a)) [kY 177 2,kY 178 2,kY 179 6,nl,nl] (bn++[.v (.int .i64 0)])) ab aw (fun x k h=>pn (zd _ _) ([nl,nl]++(bn++[.v (.int .i64 0)])) (um z (.v (Ob.pt a)) [kY 177 2,kY 178 2] []) k h) ?_;refine vI (E:=D8 gl w0 M0 F0) 161 (.ints .i64 0 []) _ (um z (.v (Ob.pt a)) [kY 177 2,kY 178 2,kY 179 6,kY 180 1,nl] (bn++[.v (.int .i64 0)])) ab aw (fun x k h=>pn (zd _ _) ([nl]++(bn++[.v (.int .i64 0)])) (um z (.v (Ob.pt a)) [kY 177 2,kY 178 2,kY 179 6] []) k h) ?_;refine vI (E:=D8 gl w0 M0 F0) 161 (.row .fr 0 []) _ (um z (.v (Ob.pt a)) [kY 177 2,kY 178 2,kY 179 6,kY 180 1,kY 181 4] (bn++[.v (.int .i64 0)])) ab aw (fun x k h=>pn (zd _ _) (bn++[.v (.int .i64 0)]) (um z (.v (Ob.pt a)) [kY 177 2,kY 178 2,kY 179 6,kY 180 1] []) k h) ?_;refine Ob.fR (nwV z a) ?_;refine Ob.C9 (E:=D8 gl w0 M0 F0) (bl:=dE ⟨0,z.me,z.d,z.t,z.need,z.old,z.a6,z.start,z.span,0,a,[],[],[],[],[],0⟩ (bn++[.v (.int .i64 0)])) 10 [] [161,177,178,179,180,181] rfl ab ab rfl ab rfl ab (fun p=>av vT.ntmps 8 [(10,aB p)] []) (fun p=>ay ab ab trivial) (fun p=>?_);refine Ob.gT iz mixed (aB p) ?_ ⟨some (p,a,j),⟨i,c,n⟩,Ob.br _,?_⟩;intros;refine @aq (SV.is (TV.one (Cell.v (Value.pointer (some { block:=p,off:=0 }))))=aB p) _ ?_ ?_;kernel_rfl;rfl;rw[Ls,Ob.bF];rfl
  ·have c:=c.symm;have f:¬ (z.bad=false/\z.qu=false/\ya z.me z.mem):=fun h=>by rw[c] at h;cases h.2.1
   refine Ob.je (ar (al vT) 4) ?_;refine Ob.iu iz mixed s6 ?_ ⟨none,f,Ob.br _,rfl⟩;intros;refine @aq (SV.is (TV.one (Cell.v (Value.pointer none)))=s6) _ ?_ ?_;kernel_rfl;rfl
 ·have i:=i.symm;have f:¬ (z.bad=false/\z.qu=false/\ya z.me z.mem):=fun h=>by rw[i] at h;cases h.1
  refine Ob.je (ar (al vT) 2) ?_;refine Ob.iu iz mixed s6 ?_ ⟨none,f,Ob.br _,rfl⟩;intros;refine @aq (SV.is (TV.one (Cell.v (Value.pointer none)))=s6) _ ?_ ?_;kernel_rfl;rfl
set_option maxHeartbeats 4000000
theorem XB {t:dF} (l:TOk t) (j:t.z.R.phase<4) (q:Nat × Nat × Nat):TOk (dp t q).1:=by
 obtain⟨⟨R,H⟩,f⟩:=t;have j:R.phase<4:=j;have o:0<=R.phase:=l.lo;have n:f=false:=by cases f;rfl;have:R.phase=4:=l.fin rfl;omega
 subst n;obtain⟨c,i,d⟩:=l.inv;have d:eF c R H:=d;have i:c<=28000+2*R.phase.toNat:=i;have m:R.phase=0\/R.phase=1\/R.phase=2\/R.phase=3:=aa;have r:(0:Int).toNat=0:=rfl;have s:(1:Int).toNat=1:=rfl;have u:(2:Int).toNat=2:=rfl;have w:(3:Int).toNat=3:=rfl;rcases m with k|k|k|k;have e:(dp ⟨⟨R,H⟩,false⟩ q).1=⟨la ⟨aZ R 1,H⟩ q,false⟩:=congrArg Prod.fst (ak k);have b:=d.ph 1;have a:(la ⟨aZ R 1,H⟩ q).R.phase=1:=(xj ⟨aZ R 1,H⟩ q).phase;rw[e];exact⟨⟨c+2,by rw[k] at i;rw[a];omega,Lk b q⟩,by show (0:Int)<=_;rw[a];decide,by show _<=(4:Int);rw[a];decide,fun h=>by cases h⟩
 ·have e:(dp ⟨⟨R,H⟩,false⟩ q).1=⟨nt ⟨aZ R 2,H⟩ q,false⟩:=by
   have g:dp ⟨⟨R,H⟩,false⟩ q=(⟨nt ⟨aZ R 2,H⟩ q,false⟩,eS ⟨aZ R 2,H⟩ q):=(ai (show ¬ R.phase=0 by omega)).trans (ak k);rw[g]
  have b:=d.ph 2;have a:(nt ⟨aZ R 2,H⟩ q).R.phase=2:=(zy ⟨aZ R 2,H⟩ q).phase;rw[e];exact⟨⟨c+2,by rw[k] at i;rw[a];omega,NP b q⟩,by show (0:Int)<=_;rw[a];decide,by show _<=(4:Int);rw[a];decide,fun h=>by cases h⟩
 ·have e:(dp ⟨⟨R,H⟩,false⟩ q).1=⟨r5 ⟨aZ R 3,H⟩ q,false⟩:=by
   have g:dp ⟨⟨R,H⟩,false⟩ q=(⟨r5 ⟨aZ R 3,H⟩ q,false⟩,gr ⟨aZ R 3,H⟩ q):=(ai (show ¬ R.phase=0 by omega)).trans ((ai (show ¬ R.phase=1 by omega)).trans (ak k));rw[g]
  have b:=d.ph 3;have a:(r5 ⟨aZ R 3,H⟩ q).R.phase=3:=(Dy ⟨aZ R 3,H⟩ q).phase;rw[e];exact⟨⟨c+2,by rw[k] at i;rw[a];omega,TY b q⟩,by show (0:Int)<=_;rw[a];decide,by show _<=(4:Int);rw[a];decide,fun h=>by cases h⟩
 ·have e:(dp ⟨⟨R,H⟩,false⟩ q).1=⟨⟨aZ R 4,H⟩,true⟩:=by
   have g:dp ⟨⟨R,H⟩,false⟩ q=(⟨⟨aZ R 4,H⟩,true⟩,[]):=(ai (show ¬ R.phase=0 by omega)).trans ((ai (show ¬ R.phase=1 by omega)).trans (ai (show ¬ R.phase=2 by omega)));rw[g]
  have b:=d.ph 4;rw[e];exact⟨⟨c,by show c<=28000+2*(4:Int).toNat;have:(4:Int).toNat=4:=rfl;omega,b⟩,by show (0:Int)<=4;decide,by show (4:Int)<=4;decide,fun _=>rfl⟩
theorem JQ {a:Int} {t u:dF} {o:List (Int × Hbm.aG)} (h:Ticks a t u o):TOk t->TOk u:=by
 induction h with
 | stop t b=>exact id
 | step t q u o b _ d=>exact fun c=>d (XB c (KN b) q)
def g9 (z:jD) (q:Nat × Nat × Nat):dF:=⟨⟨⟨q.1,z.me,z.d,z.t,z.need,z.old,z.a6,z.start,z.span,0,q.2.1,[],[],[],[],[],0⟩,⟨q.2.1,q.2.2,z.me,z.mem,[]⟩⟩,false⟩
theorem abG {z:jD} (b:z.Pre) (c:∀ x,x∈z.d\/x∈z.t\/x=z.me->fy x) (g:∀ x∈z.mem,lk x) (a:z.me∈z.mem) (i:z.need<1000) (q:Nat × Nat × Nat):TOk (g9 z q):=by have j:=b.len;refine⟨⟨0,a8 _,⟨⟨fun e=>?_,b.mem,g,a,List.nodup_nil,fun t h=>(nomatch h),fun t h=>(nomatch h)⟩,rfl,c _ (.inr (.inr rfl)),?_,?_,fun x f=>c x (.inl f),fun x f=>c x (.inr (.inl f)),b.old,b.a6,i,a8 _,fun d h=>(nomatch h),a8 _,fun d h=>(nomatch h),a8 _,rfl,a8 _⟩⟩,Int.le_refl _,by show (0:Int)<=4;decide,fun h=>by cases h⟩;have e:z.mem=[]:=e;rw[e] at a;cases a;show z.d.length<1000;omega;show z.t.length<1000;omega
def Lone.qc (L:Lone):jD:=⟨L.me,L.mem,L.mem,L.need,[],L.a6,L.start,L.span⟩
structure Lone.Set (L:Lone):Prop where
 ris:kc 0 L.mem=true
 cmp:Lib.compact (sorti.il (L.mem++L.mem))=L.mem
 good:lI L.mem L.mem.length
theorem zV {L:Lone} (h:L.Ok) (a:L.Set):L.qc.Pre:=by have b:=h.n1;have e:=h.n4;have c:=h.len;have d:=h.kn;refine⟨by show L.mem.length+L.mem.length<=12;omega,?_,by show 0<1000;decide,by show L.a6.length<1000;omega⟩;show (Lib.compact (sorti.il (L.mem++L.mem))).length<1000;rw[a.cmp];omega
theorem Cn {L:Lone} (h:L.Ok) (f:L.Set):L.qc.bad=false/\L.qc.qu=false/\ya L.qc.me L.qc.mem:=by
 have m:=h.n1;have o:=h.n4;have l:=h.len;have n:=h.kn;have q:=h.k1;refine⟨?_,?_,?_,?_⟩
 ·have e:oX L.mem L.mem L.need []=0:=by
   unfold oX;have g:((L.mem.length:Int)==0)=false:=by simpa using (show ¬ (L.mem.length=0) by omega)
   have i:decide (L.need<1)=false:=cp aa;have j:decide (L.need>(L.mem.length:Int))=false:=cp aa;have k:decide ((([]:List Pt).length:Int)>(L.mem.length:Int))=false:=cp aw;simp only[g,i,j,k,f.ris];simp
  unfold jD.bad;have a:=h.s0;have b:=h.s1;have c:=h.p1;have d:=h.p2;show (((eR (oX L.mem L.mem L.need []) != 0)||decide (L.span<1)||decide (L.span>1048576))||decide (L.start<0)||decide (L.start>1099511627776))=false;rw[bm,e,cp (show ¬ L.span<1 by omega),cp (show ¬ L.span>1048576 by omega),cp (show ¬ L.start<0 by omega),cp (show ¬ L.start>1099511627776 by omega)];rfl
 ·unfold jD.qu;have:((L.a6.length:Int) != L.need)=false:=by rw[l];simp
  show (decide (L.me∈L.mem)&&((L.a6.length:Int) != L.need))=false;rw[this,oL]
 show lI (Lib.compact (sorti.il (L.mem++L.mem))) (Lib.compact (sorti.il (L.mem++L.mem))).length;rw[f.cmp];exact f.good;show L.me∈Lib.compact (sorti.il (L.mem++L.mem));rw[f.cmp];exact h.mm
theorem Gi {L:Lone} (h:L.Ok) (a:L.Set) (q:Nat × Nat × Nat):Stg L 0 q.1 (g9 L.qc q)/\TOk (g9 L.qc q):=by
 have c:=h.kn;have d:=h.n4;have b:∀ x,x∈L.mem->fy x:=fun x hx=>by have:=h.rng x hx;exact⟨aa,aa⟩
 refine⟨⟨⟨q.2.1,?_⟩,rfl,?_,fun x hx=>(nomatch hx),rfl⟩,abG (zV h a) ?_ ?_ ?_ (by show L.need<1000;omega) q⟩;show (⟨q.1,L.me,L.mem,L.mem,L.need,[],L.a6,L.start,L.span,0,q.2.1,[],[],[],[],[],0⟩:Rt)=bM L 0 q.1 q.2.1;unfold bM;simp;exact a.cmp;intro x hx;rcases hx with hx|hx|hx;exact b x hx;exact b x hx;have hx:x=L.me:=hx;rw[hx];exact b _ h.mm;intro x hx;have hx:x∈Lib.compact (sorti.il (L.mem++L.mem)):=hx;rw[a.cmp] at hx;have:=h.rng x hx;exact⟨aa,aa⟩;show L.me∈Lib.compact (sorti.il (L.mem++L.mem));rw[a.cmp];exact h.mm
end YtofofalgjibokaaGreatDoor.rite
namespace YtofofalgjibokaaGreatDoor.law23
open Go.IntKind(i64 u64 u8)
open Go.IntKind(i64)
set_option maxHeartbeats 4000000
open Go.Eng Go.RowKit Cr hub deal rite
abbrev iL:Kd:=.int .i64
theorem k9 {E:Ob.cf} {N:Nat} {d b:St} {G G':Ob.aj} (h:∀ {l:List Code} {n r:ax} {x:Nat->ax},Ob.aN E.P l (Ob.GH E N b G') n r x->Ob.aN E.P l (Ob.GH E N d G) n r x) (a:Act) (w:World) (f:Ob.GH E N d G a w):Ob.GH E N b G' a w:=by have k:=h (l:=[]) (n:=Ob.GH E N b G') (r:=fun _ _=>True) (x:=fun _ _ _=>True) (Ob.cr fun _ _ h=>h) a w (fun e a w=>match e with | .normal=>Ob.GH E N b G' a w|_=>True) f (fun _ _ h=>h) (fun _ _ _=>trivial) (fun _ _ _ _=>trivial);exact k
theorem aeG (p:Nat):cL (aB p) (ag (.fv .pq true)):=fun a v h=>by have h:[v]=[Ob.pt p]/\_:=h;exact⟨⟨some ⟨p,0,none⟩,h.1,rfl⟩,rfl⟩
theorem Ir {a b:List Int} {n:Int}:cL (.is (.agg [.ro iL a,.ro iL b,.v (.int .i64 n),.v (.slice none 0 0)])) (.is (.agg [.ro iL a,.ro iL b,.v (.int .i64 n),.ro aQ []])):=fun f v h=>by obtain⟨l,e,h⟩:=h;refine⟨l,e,pn (c:=.v (.slice none 0 0)) (c':=.ro aQ []) (fun v d=>?_) [] [.ro iL a,.ro iL b,.v (.int .i64 n)] l h⟩;exact .inl ⟨rfl,none,0,d.1,fun _=>rfl⟩
theorem aiQ:poly.pat [jg 9] 2=jg 9:=by rw[poly.Cy];show rY ([]:List Fr) (zm 2)*zm 2+jg 9=jg 9;have:rY ([]:List Fr) (zm 2)=0:=rfl;rw[this,Rg.zero_mul,Rg.zero_add]
theorem KT:enters Tryz.prog 6 Tryz.f6:=ek
abbrev S7:Func:=Tryz.f6
abbrev Wa:=aU [fr.ti,g1.Kj,g1.DC]
theorem gv:aJ Tryz.prog Wa:=aM (aR fr.tw) (aM (aR g1.K9) (aM (aR g1.FY) bD))
def Jj:Lone:=⟨2,[2],1,[jg 9],0,1⟩
theorem F6:Jj.Ok:=⟨ae,ae,List.mem_singleton.2 rfl,fun x a=>by rw[List.mem_singleton.1 a];decide,ae,ae,rfl,ae,ae,ae,ae⟩
theorem Lj:Jj.Set:=⟨ae,ab,by unfold lI;decide⟩
def AT (next:Nat) (b:List (Nat × SV)) (a:List (Nat × List Cell)):St:=av S7.ntmps next b a
def h2B (id p:Nat) (o:List (Int × Hbm.aG)):St:=AT 144 [(1,aB p),(2,ag (.ro bH o)),(3,ao id 0),(4,sI .i64 0),(5,ag .T)] [(id,[.ro iL [2],.ro aQ (poly.cM [jg 9]),.row .fr 1 [poly.pat [jg 9] 2],.ints .u8 32 (pX [2] (poly.cM [jg 9]))])]
def uL (o:List (Int × Hbm.aG)) (a:List (Nat × SV)):St:=AT 144 ([(2,ag (.ro bH o)),(3,ao 112 0),(4,sI .i64 0),(5,ag .T)]++a) [(112,[.ro iL [2],.ro aQ (poly.cM [jg 9]),.row .fr 1 [poly.pat [jg 9] 2],.ints .u8 32 (pX [2] (poly.cM [jg 9]))])]
theorem pE {P:Program} {ops:Array Oper} {i:Nat} {l:List Code} {Pre b n r:ax} {x:Nat->ax} (h:∀ a w,Pre a w->b a w) (c:Ob.pV P ops i l b n r x):Ob.pV P ops i l Pre n r x:=fun a w Q d=>c a w Q (h a w d)
abbrev h2X (c:World) (b:Mem) (a:Nat->Prop):Ob.cf:=Ob.lj Tryz.prog Wa sha.dZ c b a
theorem aaU:Ob.ez Tryz.prog sha.dZ 6 (fun _:Unit=>[]) (fun _=>True) (fun _=>Ob.aj.none) (fun _ (_:Unit)=>aA true) (fun _ _=>Ob.aj.none) (fun _ _=>True):=by
 refine Ob.c9 (sp:=Wa) KT ab (fun z=>a8 _) (fun z y=>rfl) ?_;rintro _ _ r i g;refine Ob.eK gv 1 (AT 8 [] []) ?_;refine Ob.ep 1 (bC (ar (al S7) 1)) ?_;refine Ob.dT gv 2 (AT 24 [(6,ag (.sl 8 0 0 1 1)),(7,ag (.sl 16 0 0 1 1))] [(8,[.ints .i64 1 [2]]),(16,[.ints .i64 1 [2]])]) ?_;refine Ob.kJ (k9 fun h=>Ob.sU 6 8 1 1 .i64 [2] ab ab rfl h) ?_;refine Ob.kJ (k9 fun h=>Ob.sU 7 16 1 1 .i64 [2] ab ab rfl h) ?_;refine Ob.gA gv 5 (fun _=>()) (fun _=>AT 64 [(8,.is (.agg [.ro iL [2],.ro iL [2],.v (.int .i64 1),.v (.slice none 0 0)])),(10,ag (.sl 56 0 0 1 4))] [(56,[.row .fr 1 [jg 9]])]) (fun _=>True) ?_ (fun _ _=>?_);intros;refine @aq (gI 9/\(AT 64 [(8,SV.is (TV.agg [Cell.ro iL [(2:aH iL)],Cell.ro iL [(2:aH iL)],Cell.v (Value.int IntKind.i64 1),Cell.v (Value.slice none 0 0)])),(10,SV.is (TV.one (Cell.sl 56 0 0 1 4)))] [(56,[Cell.row Kd.fr 1 [jg 9]])]).ah True) _ ?_ ?_;kernel_rfl;exact⟨⟨aa,aa⟩,au trivial⟩;refine Ob.kJ (k9 fun h=>Ob.OD 10 56 1 4 .fr [jg 9] ab ab rfl h) ?_;refine Ob.kJ (k9 fun h=>Ob.iw 8 (.is (.agg [.ro iL [2],.ro iL [2],.v (.int .i64 1),.ro aQ []])) (by exact Ir) h) ?_;refine Ob.fI (Ob.eO (E:=h2X r i g) (LS sha.dZ) Jj.qc (zV F6 Lj) ab C6 ab ab (fun y=>by cases y<;>rfl)) (fun y d=>?_);cases y with
 | none=>exact absurd (Cn F6 Lj) d
 | some q =>
  obtain⟨n,f⟩:=Gi F6 Lj q;refine Ob.dT gv 7 (AT 64 [(1,aB q.1)] []) (Ob.ei ?_);refine Ob.aP (G':=(g9 Jj.qc q).cv) rfl ?_;refine Ob.ep 2 (bC (ar (al S7) 2)) ?_;refine Ob.dT gv 1 (AT 64 [(1,aB q.1),(12,aB q.1)] []) ?_;refine Ob.kj (E:=h2X r i g) H7 (g9 Jj.qc q,3) f zG (fun y d=>?_);obtain⟨u,o⟩:=y;have d:Ticks 3 (g9 Jj.qc q) u o:=d;have C:=JQ d f;obtain⟨j,_,D,e,m,l,_⟩:=Gj F6 d (a8 _) n;have l:j=4:=by rcases l with h|h;exact h;have h:(3:Int)<0+(j:Int)*1:=h;omega
  subst l;have m:o=bd Jj 4:=m;obtain⟨hub,k⟩:=e.R;have s:u.z.R.p=q.1:=by rw[k];rfl
  have A:u.fin=true:=e.fin;refine Ob.dT gv 3 (AT 64 [(1,aB q.1),(2,ag (.ro bH o))] []) (Ob.ei ?_);refine Ob.aP (G':=u.cv) rfl ?_;refine Ob.ep 3 (bC (ar (al S7) 3)) ?_;refine Ob.dT gv 1 (AT 64 [(1,aB q.1),(2,ag (.ro bH o)),(15,aB q.1)] []) ?_;have t:mH u=xc [2] (poly.cM [jg 9]) (.row .fr 1 [poly.pat [jg 9] 2]) (.ints .u8 32 (pX [2] (poly.cM [jg 9]))) 0:=by
   have x:fg u.z.R=(some (iI Jj),0):=by rw[k];exact EL F6 rfl q.1 hub
   have w:u.z.R.fault=0:=by rw[k];rfl
   unfold mH;rw[A,x,w];rfl
  refine Ob.fI (Ob.eO (E:=h2X r i g) (yS sha.dZ) u C ab sJ (by rw[s];kernel_rfl) (by rw[s];kernel_rfl) (fun y=>by show (mH u).ids=[];rw[t];rfl)) (fun y _=>?_);rw[t];refine Ob.dT gv 10 (h2B 112 q.1 o) (Ob.ei ?_);refine Ob.iw 1 (ag (.fv .pq true)) (aeG q.1) ?_;refine Ob.iD mixed (rid:=4) (ops:=bC (ar (al S7) 4)) ab ?_;refine Ob.eL gv 2 (fun c=>bo .bool 21 c) (fun b=>uL o [(21,aA b)]) (fun b=>b=true) ae ab ?_ (fun b a=>?_);intros;refine @aq ((uL o [(21,aA true)]).ah (true=true)) _ ?_ ?_;kernel_rfl;exact au rfl;subst a;refine pE (k9 fun h=>Ob.iw 21 (ag .T) Ob.gF h) ?_;refine Ob.eL gv 6 (fun _=>()) (fun _=>uL o [(25,ag .T)]) (fun _=>True) ae ab ?_ (fun _ _=>?_);intros;refine @aq ((uL o [(25,SV.is (TV.one Cell.T))]).ah True) _ ?_ ?_;kernel_rfl;exact au trivial;refine Ob.eL gv 10 (fun c=>bo .bool 29 c) (fun b=>uL o [(29,aA b)]) (fun b=>b=true) ae ab ?_ (fun b a=>?_);intros;refine @aq ((uL o [(29,aA ((0:Int)==0))]).ah (((0:Int)==0)=true)) _ ?_ ?_;kernel_rfl;exact au rfl;subst a;refine pE (k9 fun h=>Ob.iw 29 (ag .T) Ob.gF h) ?_;refine Ob.eL gv 15 (fun c=>bo .bool 34 c) (fun b=>uL o [(34,aA b)]) (fun b=>b=true) ae ab ?_ (fun b a=>?_);intros;refine @aq ((uL o [(34,aA ((o.length:Int)==9))]).ah (((o.length:Int)==9)=true)) _ ?_ ?_;kernel_rfl;exact au (by rw[m];rfl);subst a;refine pE (k9 fun h=>Ob.iw 34 (ag .T) Ob.gF h) ?_;refine Ob.eL gv 21 (fun c=>bo .bool 40 c) (fun b=>uL o [(40,aA b)]) (fun b=>b=true) ae ab ?_ (fun b a=>?_);intros;refine @aq ((uL o [(40,aA ((↑[2].length:Int)==1))]).ah (((↑[2].length:Int)==1)=true)) _ ?_ ?_;kernel_rfl;exact au rfl;subst a;refine pE (k9 fun h=>Ob.iw 40 (ag .T) Ob.gF h) ?_;refine Ob.eL gv 28 (fun c=>bo .bool 47 c) (fun b=>uL o [(47,aA b)]) (fun b=>b=true) ae ab ?_ (fun b a=>?_);intros;refine @aq (((0:Int)<=0/\0<(↑[2].length:Int))/\0<[2].length/\(uL o [(47,aA ((2:Int)==2))]).ah (((2:Int)==2)=true)) _ ?_ ?_;kernel_rfl;exact⟨⟨ae,ae⟩,ae,au rfl⟩;subst a;refine pE (k9 fun h=>Ob.iw 47 (ag .T) Ob.gF h) ?_;refine Ob.eL gv 34 (fun c=>bo .bool 53 c) (fun b=>uL o [(53,aA b)]) (fun b=>b=true) ae ab ?_ (fun b a=>?_);intros;refine @aq (gI 9/\(uL o [(53,aA (jI Kd.fr (poly.pat [jg 9] 2) (jg 9)))]).ah (jI Kd.fr (poly.pat [jg 9] 2) (jg 9)=true)) _ ?_ ?_;kernel_rfl;exact⟨⟨aa,aa⟩,au ((qU _ _).2 aiQ)⟩;subst a;refine pE (k9 fun h=>Ob.iw 53 (ag .T) Ob.gF h) ?_;refine Ob.eL gv 40 (fun c=>bo .bool 59 c) (fun b=>uL o [(59,aA b)]) (fun b=>b=true) ae ab ?_ (fun b a=>?_);intros;refine @aq ((uL o [(59,aA ((↑(poly.cM [jg 9]).length:Int)==1))]).ah (((↑(poly.cM [jg 9]).length:Int)==1)=true)) _ ?_ ?_;kernel_rfl;exact au (by rw[pD];rfl);subst a;refine pE (k9 fun h=>Ob.iw 59 (ag .T) Ob.gF h) ?_;refine Ob.gS gv (fun c=>bo .bool 0 c) (fun b=>AT 8 [(0,aA b)] []) (fun b=>b=true) (Odt ab) ?_ (fun b a=>?_);intros;refine @aq (((0:Int)<=0/\0<(↑(poly.cM [jg 9]).length:Int))/\0<(poly.cM [jg 9]).length/\True/\gI 9/\True/\(AT 8 [(0,aA (jI (Kd.fp.pair Kd.fp) ((poly.cM [jg 9]).getD 0 ((0:Fp),(0:Fp))) (g1.cZ g1.gG (jg 9))))] []).ah (jI (Kd.fp.pair Kd.fp) ((poly.cM [jg 9]).getD 0 ((0:Fp),(0:Fp))) (g1.cZ g1.gG (jg 9))=true)) _ ?_ ?_;kernel_rfl;exact⟨⟨ae,by rw[pD];decide⟩,by rw[pD];decide,trivial,⟨aa,aa⟩,trivial,au ((qU _ _).2 rfl)⟩;subst a;refine Ob.aP (G':=Ob.aj.sep u.cv Ob.aj.none) (Ob.pv _).symm ?_;refine Ob.EE ?_;exact Ob.sn gv (aA true) ⟨(),trivial,Ob.br _,rfl⟩
set_option maxHeartbeats 4000000
theorem VY {P:Program} {G:fZ} {f:FuncId} {fn:Func} (q:enters P f fn) {a:List Kd} {pre:HL a->Prop} (h:Ob.ez P G f (fun d:HL a=>mF a d) pre (fun _=>Ob.aj.none) (fun _ (_:Unit)=>aA true) (fun _ _=>Ob.aj.none) (fun _ _=>True)):aO P f a [.val .bool] G pre (fun _=>(true,())):=by intro w M u d m j c s;refine .inl ⟨q.2 _ _,(h d s w M u (fun _=>False) (fun _ h=>h) m j (fun _ h=>h.elim) (rB (ρ:=aC.start M) c)).mono ?_⟩;rintro e C ⟨y,v,F2,x,A,rfl,l,i,b,g,o,t⟩;refine⟨v,rfl,[v],none,rfl,⟨v,[],rfl,t.1,rfl⟩,⟨b.os,b.tape,b.output,b.size,fun k r=>b.block k r (fun h=>h)⟩⟩
theorem aaq:aO Tryz.prog 7 [.int .i64] [.val (.sl iL)] bB (fun (n,_)=>0<=(n:Int)/\(n:Int)<=1000) (fun (n,_)=>(jC (n:Int).toNat,())):=aaj.AR
def aeW:Nat × Eng.Spec:=(9,aK [DS,.int .i64,.int .i64] [.val (.sl .fr)] tg Ae)
theorem aam:aO Tryz.prog 9 [DS,.int .i64,.int .i64] [.val (.sl .fr)] bB tg Ae:=aaa.AR
structure RIn where
 me:Int
 n:Int
 need:Int
 start:Int
 span:Int
 b:List Int
abbrev YO:SV->Ob.aj->Prop:=fun s G=>∃ _:Unit,True/\cL s (aA true)/\G=Ob.aj.none
theorem ahX:enc (0:Zm Mr)=[0,0,0,0]:=ab
theorem Sh:Canon Mr [0,0,0,0]:=by rw[<- ahX];exact cI _
set_option maxHeartbeats 4000000
theorem ajl {n:Nat} (a:1<=n) (b:n<=4):kc 0 (jC n)=true/\Lib.compact (sorti.il (jC n++jC n))=jC n/\lI (jC n) (jC n).length:=by have h:n=1\/n=2\/n=3\/n=4:=aa;rcases h with rfl|rfl|rfl|rfl;exact⟨ab,ab,by unfold lI;decide⟩;exact⟨ab,ab,by unfold lI;decide⟩;exact⟨ab,ab,by unfold lI;decide⟩;exact⟨ab,ab,by unfold lI;decide⟩
end YtofofalgjibokaaGreatDoor.law23
namespace YtofofalgjibokaaGreatDoor.ref16
open Go.IntKind(i64 u64 u8)
open Go.IntKind(i64)
set_option maxHeartbeats 4000000
open Go.Eng Go.RowKit Cr hub
def pJ (a b:Hbm.aG):Bool:=a.1==b.1&&(a.2.1==b.2.1&&(a.2.2.1==b.2.2.1&&(a.2.2.2.1==b.2.2.2.1&&(a.2.2.2.2.1==b.2.2.2.2.1&&(a.2.2.2.2.2.1==b.2.2.2.2.2.1&&ref01.lR a.2.2.2.2.2.2 b.2.2.2.2.2.2)))))
theorem QZ (a:Hbm.aG):pJ a a=true:=by simp[pJ,ref01.lR]
theorem Qy:enters Tryz.prog 12 Tryz.f12:=ek
theorem SU:aO Tryz.prog 12 [iJ,iJ] [.val .bool] bB (fun ((_,_,_,_,_,_,c),(_,_,_,_,_,_,d),_)=>ref01.vl (c,d,())) (fun (a,b,_)=>(pJ a b,())):=by refine bg (sp:=aU [ref01.ae5]) (aM (aR ref01.aaf) bD) mixed Qy ae ae ?_;rintro w C ⟨⟨e,f,g,h,i,j,k⟩,⟨l,m,n,b4,o,q,r⟩,⟨⟩⟩;revert e f g h i j k l m n b4 o q r;intro (e:Int) (f:Int) (g:Int) (h:Int) (i:Int) (j:Int) (k:List Int) (l:Int) (m:Int) (n:Int) (b4:Int) (o:Int) (q:Int) (r:List Int) _ A;refine @aq (((e==l)=true->((f==m)=true->((g==n)=true->((h==b4)=true->((i==o)=true->((j==q)=true->ref01.vl (k,r,())/\(ref01.lR k r,())=(pJ (e,f,g,h,i,j,k) (l,m,n,b4,o,q,r),()))/\((j==q)=false->(false,())=(pJ (e,f,g,h,i,j,k) (l,m,n,b4,o,q,r),())))/\((i==o)=false->(false,())=(pJ (e,f,g,h,i,j,k) (l,m,n,b4,o,q,r),())))/\((h==b4)=false->(false,())=(pJ (e,f,g,h,i,j,k) (l,m,n,b4,o,q,r),())))/\((g==n)=false->(false,())=(pJ (e,f,g,h,i,j,k) (l,m,n,b4,o,q,r),())))/\((f==m)=false->(false,())=(pJ (e,f,g,h,i,j,k) (l,m,n,b4,o,q,r),())))/\((e==l)=false->(false,())=(pJ (e,f,g,h,i,j,k) (l,m,n,b4,o,q,r),()))) _ ?_ ?_;kernel_rfl;refine⟨fun s=>⟨fun t=>⟨fun u=>⟨fun x=>⟨fun y=>⟨fun z=>⟨A,?_⟩,fun z=>?_⟩,fun y=>?_⟩,fun x=>?_⟩,fun u=>?_⟩,fun t=>?_⟩,fun s=>?_⟩;show (_,())=(e==l&&(f==m&&(g==n&&(h==b4&&(i==o&&(j==q&&ref01.lR k r))))),());rw[s,t,u,x,y,z];rfl;show (_,())=(e==l&&(f==m&&(g==n&&(h==b4&&(i==o&&(j==q&&ref01.lR k r))))),());rw[s,t,u,x,y,z];rfl;show (_,())=(e==l&&(f==m&&(g==n&&(h==b4&&(i==o&&(j==q&&ref01.lR k r))))),());rw[s,t,u,x,y];rfl;show (_,())=(e==l&&(f==m&&(g==n&&(h==b4&&(i==o&&(j==q&&ref01.lR k r))))),());rw[s,t,u,x];rfl;show (_,())=(e==l&&(f==m&&(g==n&&(h==b4&&(i==o&&(j==q&&ref01.lR k r))))),());rw[s,t,u];rfl;show (_,())=(e==l&&(f==m&&(g==n&&(h==b4&&(i==o&&(j==q&&ref01.lR k r))))),());rw[s,t];rfl;show (_,())=(e==l&&(f==m&&(g==n&&(h==b4&&(i==o&&(j==q&&ref01.lR k r))))),());rw[s];rfl
def Xh:Nat × Eng.Spec:=(12,aK [iJ,iJ] [.val .bool] (fun ((_,_,_,_,_,_,c),(_,_,_,_,_,_,d),_)=>ref01.vl (c,d,())) (fun (a,b,_)=>(pJ a b,())))
end YtofofalgjibokaaGreatDoor.ref16
namespace YtofofalgjibokaaGreatDoor.law23
open Go.IntKind(i64 u64 u8)
open Go.IntKind(i64)
open Go.IntKind(i64 u8)
set_option maxHeartbeats 4000000
open Go.Eng Go.RowKit Cr hub deal rite
theorem BS:enters Tryz.prog 3 Tryz.f3:=ek
abbrev jF:Func:=Tryz.f3
def xN (n:Nat):List Int:=eR (jC n)
theorem M1 (n:Nat):xN n=jC n:=bm _
def aeZ:Nat × Eng.Spec:=(7,aK [.int .i64] [.val (.sl iL)] (fun (n,_)=>0<=(n:Int)/\(n:Int)<=1000) (fun (n,_)=>(xN (n:Int).toNat,())))
theorem aap:aO Tryz.prog 7 [.int .i64] [.val (.sl iL)] bB (fun (n,_)=>0<=(n:Int)/\(n:Int)<=1000) (fun (n,_)=>(xN (n:Int).toNat,())):=aaq.out fun (n,_)=>by show (xN (n:Int).toNat,())=(jC (n:Int).toNat,());rw[M1]
abbrev jSp:=aU [aeZ,aeW,ref16.Xh]
theorem cz:aJ Tryz.prog jSp:=aM (aR aap) (aM (aR aam) (aM (aR ref16.SU) bD))
abbrev jX (w0:World) (M0:Mem) (F0:Nat->Prop):Ob.cf:=Ob.lj Tryz.prog jSp sha.dZ w0 M0 F0
structure JIn where
 n:Int
 need:Int
 span:Int
 b:List Int
 jump:Int
def jL (z:JIn):Lone:=⟨1,jC z.n.toNat,z.need,rP z.b 1 z.need.toNat,3,z.span⟩
def jS (next:Nat) (b:List (Nat × SV)) (a:List (Nat × List Cell)):St:=av jF.ntmps next b a
def jA (z:JIn) (next:Nat) (a:List (Nat × SV)):St:=jS next ([(1,sI .i64 z.need),(2,sI .i64 z.span),(3,ag (.ro (.int .u8) z.b)),(4,sI .i64 z.jump),(11,ao 56 0)]++a) [(56,[.ro iL (xN z.n.toNat),.ro iL (xN z.n.toNat),.v (.int .i64 z.need),.v (.slice none 0 0)])]
def jT (a:Int) (h i b d next e f:Nat) (l m:List (Int × Hbm.aG)) (g:List (Nat × SV)):St:=jS next ([(4,sI .i64 a),(12,aB h),(13,aB i),(14,ag (.sl b 0 0 e 8)),(15,ag (.sl d 0 0 f 8))]++g) [(b,[.row bH e l]),(d,[.row bH f m])]
abbrev vR:List (Int × Hbm.aG):=[]
structure p6 (L:Lone) (p:Nat) (last:Int) (z:dF) (l:List (Int × Hbm.aG)) (k:Nat):Prop where
 k4:k<=4
 st:Stg L k p z
 ok:TOk z
 out:l=bd L k
 far:k=4\/last<L.start+(k:Int)*L.span
theorem p6.tick {L:Lone} (e:L.Ok) {p:Nat} {a b:Int} {z u:dF} {l o:List (Int × Hbm.aG)} {k:Nat} (h:p6 L p a z l k) (d:Ticks b z u o):∃ j,p6 L p b u (l++o) j:=by obtain⟨j,_,m,i,g,f,_⟩:=Gj e d h.k4 h.st;exact⟨j,m,i,JQ d h.ok,by rw[h.out];exact g,f⟩
theorem Wu (L:Lone) (h:L.mem.length<=4) (k:Nat):(Cm L k).length<=7:=by
 unfold Cm;have a:(yd L k).length<=3:=by unfold yd;rw[a7];split<;>simp
 have b:(cn (bM L 0 0 0) L.mem).length<=4:=h9 (xi _ _) h;split
 ·have c:(yd L 0).length<=3:=by
   unfold yd;rw[a7];split<;>simp
  rw[a7,dv,bZ];omega
 split;rw[dv,bZ];omega;exact a8 _
theorem xp (L:Lone) (h:L.mem.length<=4):∀ k,(bd L k).length<=7*k
 | 0=>aI _
 | k+1=>by have a:=xp L h k;have b:=Wu L h k;rw[bd,a7];omega
theorem p6.len {L:Lone} (g:L.Ok) {p:Nat} {f:Int} {z:dF} {l:List (Int × Hbm.aG)} {k:Nat} (h:p6 L p f z l k):l.length<=28:=by rw[h.out];have:=xp L g.n4 k;have:=h.k4;omega
theorem p6.p {L:Lone} {p:Nat} {d:Int} {z:dF} {l:List (Int × Hbm.aG)} {k:Nat} (h:p6 L p d z l k):z.z.R.p=p:=by obtain⟨hub,f⟩:=h.st.R;rw[f];rfl
section
variable (w0:World) (M0:Mem) (F0:Nat->Prop)
theorem ad1 (z:JIn) (j:Bs z.b) (l:z.b.length<=100) (a:(jL z).Ok) (e:(jL z).Set) {m r:ax} {x:Nat->ax}
  (h:∀ q c:Nat × Nat × Nat,Ob.aN Tryz.prog ((al jF).drop 12) (Ob.GH (jX w0 M0 F0) jF.ntmps (jS 8 [(4,sI .i64 z.jump),(12,aB q.1),(13,aB c.1)] []) (Ob.aj.sep (g9 (jL z).qc q).cv (g9 (jL z).qc c).cv)) m r x) :
  Ob.aN Tryz.prog ((al jF).drop 10) (Ob.GH (jX w0 M0 F0) jF.ntmps (jA z 64 []) Ob.aj.none) m r x:=by
 have f:=a.k1;have g:=a.kn;have k:=a.n4;have d:tg (z.b,(1:Int),z.need,()):=⟨⟨j,by show z.b.length<=1000;omega⟩,by show 0<=z.need;have:1<=z.need:=f;omega,by show z.need<=1000;have:z.need<=((jL z).mem.length:Int):=g;omega⟩;refine Ob.iD mixed (rid:=10) (ops:=bC (ar (al jF) 10)) ab ?_;refine Ob.eL cz 5 (fun _=>()) (fun _=>jA z 96 [(50,.is (.agg [.ro iL (xN z.n.toNat),.ro iL (xN z.n.toNat),.v (.int .i64 z.need),.v (.slice none 0 0)])),(53,ag (.ro .fr (rP z.b 1 z.need.toNat))),(54,sI .i64 z.span)]) (fun _=>True) ae ab ?_ (fun _ _=>?_);intros;refine @aq (tg (z.b,1,z.need,())/\(jA z 96 [(50,SV.is (TV.agg [Cell.ro iL (xN z.n.toNat),Cell.ro iL (xN z.n.toNat),Cell.v (Value.int i64 z.need),Cell.v (Value.slice none 0 0)])),(53,SV.is (TV.one (Cell.ro Kd.fr (rP z.b 1 z.need.toNat)))),(54,sI i64 z.span)]).ah True) _ ?_ ?_;kernel_rfl;exact⟨d,au trivial⟩;refine pE (k9 fun h=>Ob.iw 50 (.is (.agg [.ro iL (jC z.n.toNat),.ro iL (jC z.n.toNat),.v (.int .i64 z.need),.ro aQ []])) (by rw[<- M1];exact Ir) h) ?_;refine Ob.o1 (Ob.eO (E:=jX w0 M0 F0) (LS sha.dZ) (jL z).qc (zV a e) ab C6 ab ab (fun y=>by cases y<;>rfl)) ab ab (fun y i=>?_);cases y with
 | none=>exact absurd (Cn a e) i
 | some q =>
 refine Ob.gS cz (fun _=>()) (fun _=>jA z 64 [(12,aB q.1)]) (fun _=>True) (Odt ab) ?_ (fun _ _=>?_);intros;refine @aq ((jA z 64 [(12,aB q.fst)]).ah True) _ ?_ ?_;kernel_rfl;exact au trivial;refine Ob.aP (G':=Ob.aj.sep Ob.aj.none (g9 (jL z).qc q).cv) (by rw[Ob.ja,Ob.pv];rfl) ?_;refine Ob.iD mixed (rid:=11) (ops:=bC (ar (al jF) 11)) ab ?_;refine Ob.eL cz 5 (fun _=>()) (fun _=>jA z 96 [(12,aB q.1),(56,.is (.agg [.ro iL (xN z.n.toNat),.ro iL (xN z.n.toNat),.v (.int .i64 z.need),.v (.slice none 0 0)])),(59,ag (.ro .fr (rP z.b 1 z.need.toNat))),(60,sI .i64 z.span)]) (fun _=>True) ae ab ?_ (fun _ _=>?_);intros;refine @aq (tg (z.b,1,z.need,())/\(jA z 96 [(12,aB q.fst),(56,SV.is (TV.agg [Cell.ro iL (xN z.n.toNat),Cell.ro iL (xN z.n.toNat),Cell.v (Value.int i64 z.need),Cell.v (Value.slice none 0 0)])),(59,SV.is (TV.one (Cell.ro Kd.fr (rP z.b 1 z.need.toNat)))),(60,sI i64 z.span)]).ah True) _ ?_ ?_;kernel_rfl;exact⟨d,au trivial⟩;refine pE (k9 fun h=>Ob.iw 56 (.is (.agg [.ro iL (jC z.n.toNat),.ro iL (jC z.n.toNat),.v (.int .i64 z.need),.ro aQ []])) (by rw[<- M1];exact Ir) h) ?_;refine Ob.o1 (Ob.eO (E:=jX w0 M0 F0) (Ob.b5 (fun _=>(g9 (jL z).qc q).cv) (LS sha.dZ)) (jL z).qc (zV a e) ab C6 ab ab (fun y=>by cases y<;>rfl)) ab ab (fun y i=>?_);cases y with
 | none=>exact absurd (Cn a e) i
 | some c =>
 refine Ob.gS cz (fun _=>()) (fun _=>jS 8 [(4,sI .i64 z.jump),(12,aB q.1),(13,aB c.1)] []) (fun _=>True) (Odt ab) ?_ (fun _ _=>?_);intros;refine @aq ((jS 8 [(4,sI i64 z.jump),(12,aB q.fst),(13,aB c.fst)] []).ah True) _ ?_ ?_;kernel_rfl;exact au trivial;refine Ob.aP (G':=Ob.aj.sep (g9 (jL z).qc q).cv (g9 (jL z).qc c).cv) (by rw[Ob.ja];rfl) ?_;exact h q c
theorem aaJ (L:Lone) (K:L.Ok) (d:Int) (hj:1<=d/\d<=32) (f A:Nat) (m:List (Int × Hbm.aG)) (hm:m.length<=28) (G:Ob.aj) (z0:dF) (R:p6 L f (-1) z0 [] 0) (x6:L.start+3*L.span<39) {n r:ax} {x:Nat->ax}
  (h:∀ z:dF,Stg L 4 f z->TOk z->∀ t,Ob.aN Tryz.prog ((al jF).drop 16) (Ob.GH (jX w0 M0 F0) jF.ntmps (jT d f A 8 9 10 (bd L 4).length m.length (bd L 4) m [(16,sI .i64 t)]) (Ob.aj.sep z.cv G)) n r x) :
  Ob.aN Tryz.prog ((al jF).drop 15) (Ob.GH (jX w0 M0 F0) jF.ntmps (jT d f A 8 9 10 (vR).length m.length (vR) m [(16,sI .i64 0)]) (Ob.aj.sep z0.cv G)) n r x:=by
 refine Ob.sV (α:=dF × List (Int × Hbm.aG) × Int) (β:=dF × Int) (c:=ar (al jF) 15) (fun g a w=>(0<=g.2.2/\g.2.2<=40+32/\∃ k,p6 L f (g.2.2-1) g.1 g.2.1 k)/\Ob.GH (jX w0 M0 F0) jF.ntmps (jT d f A 8 9 10 (g.2.1).length m.length (g.2.1) m [(16,sI .i64 g.2.2)]) (Ob.aj.sep g.1.cv G) a w) (fun g=>(40-g.2.2).toNat) (fun o a w=>(Stg L 4 f o.1/\TOk o.1)/\Ob.GH (jX w0 M0 F0) jF.ntmps (jT d f A 8 9 10 (bd L 4).length m.length (bd L 4) m [(16,sI .i64 o.2)]) (Ob.aj.sep o.1.cv G) a w) ab ab (fun a w s=>⟨(z0,[],0),⟨Int.le_refl _,by show (0:Int)<=40+32;decide,0,R.k4,R.st,R.ok,R.out,.inr (by have:=K.s0;show (0:Int)-1<L.start+((0:Nat):Int)*L.span;omega)⟩,s⟩) (fun g=>?_) (fun o=>?_)
 ·obtain⟨H,l,t⟩:=g;revert t;intro (t:Int);intro a w Q s T U V;obtain⟨⟨N,O,k,C⟩,s⟩:=s;have N:0<=t:=N;have O:t<=40+32:=O;have C:p6 L f (t-1) H l k:=C;have x4:=C.len K;have hp:=C.p;revert a w Q;refine fun a w Q T U V s=>(?_:Ob.aN _ _ (Ob.GH (jX w0 M0 F0) jF.ntmps (jT d f A 8 9 10 (l).length m.length (l) m [(16,sI .i64 t)]) (Ob.aj.sep H.cv G)) _ _ _) a w Q s T U V;refine Ob.gcd cz 1 (fun I=>bo .bool 65 I) (fun b=>jT d f A 8 9 10 (l).length m.length (l) m [(16,sI .i64 t),(65,aA b)]) (fun b=>b=decide (t<40)) ?_ (fun b hb=>?_);intros;refine @aq ((jT d f A 8 9 10 l.length m.length l m [(16,sI i64 t),(65,aA (decide (t<40)))]).ah (decide (t<40)=decide (t<40))) _ ?_ ?_;kernel_rfl;exact au rfl;cases b
  ·have x2:40<=t:=by have:=Odf hb.symm;omega
   refine Ob.e5 (ar (aV (ar (al jF) 15)) 1) ?_;refine Ob.ju cz mixed (fun _=>False) (fun _=>False) (fun i P=>i=b7 (ar (al jF) 15)/\P.le (Ob.cm (jX w0 M0 F0)) (jT d f A 8 9 10 (l).length m.length (l) m [(16,sI .i64 t)]) True) ?_ (fun _ _ _ h _=>h.elim) (fun _ _ _ h _=>h.elim) (fun i P a w hx x1=>?_);intros;refine @aq (0=0/\(jT d f A 8 9 10 l.length m.length l m [(16,sI i64 t)]).ah True) _ ?_ ?_;kernel_rfl;exact⟨rfl,au trivial⟩
   ·obtain⟨rfl,hx⟩:=hx;rw[gi];have Z:k=4:=by
     rcases C.far with h|h;exact h;by_cases x3:k<=3;have h1:=K.p1;have:(k:Int)*L.span<=3*L.span:=vt aa aa;omega;have:=C.k4;omega
    subst Z;refine⟨(H,t),⟨C.st,C.ok⟩,?_⟩;have e:=C.out;subst e;exact (x1.le hx).2
  ·have x5:t<40:=Odt hb.symm;refine Ob.je (ar (aV (ar (al jF) 15)) 1) ?_;refine Ob.dL (E:=jX w0 M0 F0) (c:=ar (aV (ar (al jF) 15)) 2) (fun a w=>∃ (u:dF) (D:List (Int × Hbm.aG)),(∃ j,p6 L f t u D j)/\Ob.GH (jX w0 M0 F0) jF.ntmps (jT d f A 8 9 10 (D).length m.length (D) m [(16,sI .i64 t)]) (Ob.aj.sep u.cv G) a w) ab ab ?_ ?_
   ·refine Ob.ep 17 (bC (ar (cV (ar (aV (ar (al jF) 15)) 2)) 0)) ?_;refine Ob.dT cz 3 (jT d f A 8 9 10 (l).length m.length (l) m [(16,sI .i64 t),(68,ag (.sl 8 0 0 l.length 8)),(69,aB f),(70,sI .i64 t)]) ?_;refine Ob.fI (Ob.eO (E:=jX w0 M0 F0) (Ob.b5 (fun _=>G) H7) (H,t) C.ok ab zG (by rw[hp];kernel_rfl) (by rw[hp];kernel_rfl) (fun _=>rfl)) (fun y hy=>?_);obtain⟨u,o⟩:=y;have hy:Ticks t H u o:=hy;obtain⟨j,F⟩:=C.tick K hy;have x0:=F.len K;rw[a7] at x0;refine Ob.gA cz 6 (fun I=>(na 14 I,cT bH 42 I)) (fun g:Nat × List (Int × Hbm.aG)=>jT d f A 42 9 58 g.1 m.length g.2 m [(16,sI .i64 t)]) (fun g=>g.1=l.length+o.length/\g.2=l++o) ?_ (fun g Y=>Ob.ei ?_);intros;refine @aq (l.length<=l.length/\(l.length+o.length)*80<=140737488355328/\l.length+o.length<=4611686018427387904/\(jT d f A 42 9 58 (l.length+o.length,take l.length l++o).fst m.length (l.length+o.length,take l.length l++o).snd m [(16,sI i64 t)]).ah (l.length+o.length=l.length+o.length/\take l.length l++o=l++o)) _ ?_ ?_;kernel_rfl;exact⟨aI _,aa,aa,au ⟨rfl,by rw[aT]⟩⟩;obtain⟨n1,l1⟩:=g;obtain⟨W,X⟩:=Y;have W:n1=l.length+o.length:=W;have X:l1=l++o:=X;have e3:n1=(l++o).length:=by rw[W,a7]
    subst e3 X;refine Ob.xh cz 0 [(8,42),(9,9)] (jT d f A 8 9 10 (l++o).length m.length (l++o) m [(16,sI .i64 t)]) ?_;exact Ob.cr fun a w s=>⟨u,l++o,⟨j,F⟩,s⟩
   intro a w Q' s k1 k2 k3;obtain⟨u,D,⟨j,F⟩,s⟩:=s;refine Ob.pF (l:=(aV (ar (al jF) 15)).drop 3) cz mixed 1 (fun I=>bo iL 16 I) (fun q:Int=>jT d f A 8 9 10 (D).length m.length (D) m [(16,sI .i64 q)]) (fun q=>q=t+1) (fun _=>False) (fun _ _=>False) ?_ (fun q hq=>?_) (fun _ _ _ h _=>h.elim) (fun _ _ _ _ h _=>h.elim) a w Q' s k1 k2 k3;intros;refine @aq ((jT d f A 8 9 10 D.length m.length D m [(16,sI i64 (i64.wrap (t+1)))]).ah (i64.wrap (t+1)=t+(1:aH iL))) _ ?_ ?_;kernel_rfl;exact au (ba aa aa);have hq:q=t+1:=hq;subst hq;exact Ob.cr fun a w s=>⟨(u,D,t+1),⟨⟨by show 0<=t+1;omega,by show t+1<=40+32;omega,j,by rw[show (u,D,t+1).2.2-1=t by show t+1-1=t;omega];exact F⟩,s⟩,by show (40-(t+1)).toNat<(40-t).toNat;omega⟩
 obtain⟨H,t⟩:=o;intro a w Q s T U V;obtain⟨⟨hs,Z⟩,s⟩:=s;exact h H hs Z t a w Q s T U V
theorem aaK (L:Lone) (K:L.Ok) (d:Int) (hj:1<=d/\d<=32) (A f:Nat) (m:List (Int × Hbm.aG)) (hm:m.length<=28) (G:Ob.aj) (z0:dF) (R:p6 L f (-1) z0 [] 0) (x6:L.start+3*L.span<39) {n r:ax} {x:Nat->ax}
  (h:∀ z:dF,Stg L 4 f z->TOk z->∀ t,Ob.aN Tryz.prog ((al jF).drop 18) (Ob.GH (jX w0 M0 F0) jF.ntmps (jT d A f 8 9 10 m.length (bd L 4).length m (bd L 4) [(17,sI .i64 t)]) (Ob.aj.sep z.cv G)) n r x) :
  Ob.aN Tryz.prog ((al jF).drop 17) (Ob.GH (jX w0 M0 F0) jF.ntmps (jT d A f 8 9 10 m.length (vR).length m (vR) [(17,sI .i64 0)]) (Ob.aj.sep z0.cv G)) n r x:=by
 refine Ob.sV (α:=dF × List (Int × Hbm.aG) × Int) (β:=dF × Int) (c:=ar (al jF) 17) (fun g a w=>(0<=g.2.2/\g.2.2<=80+32/\∃ k,p6 L f (g.2.2-d) g.1 g.2.1 k)/\Ob.GH (jX w0 M0 F0) jF.ntmps (jT d A f 8 9 10 m.length (g.2.1).length m (g.2.1) [(17,sI .i64 g.2.2)]) (Ob.aj.sep g.1.cv G) a w) (fun g=>(80-g.2.2).toNat) (fun o a w=>(Stg L 4 f o.1/\TOk o.1)/\Ob.GH (jX w0 M0 F0) jF.ntmps (jT d A f 8 9 10 m.length (bd L 4).length m (bd L 4) [(17,sI .i64 o.2)]) (Ob.aj.sep o.1.cv G) a w) ab ab (fun a w s=>⟨(z0,[],0),⟨Int.le_refl _,by show (0:Int)<=80+32;decide,0,R.k4,R.st,R.ok,R.out,.inr (by have:=K.s0;show (0:Int)-d<L.start+((0:Nat):Int)*L.span;omega)⟩,s⟩) (fun g=>?_) (fun o=>?_)
 ·obtain⟨H,l,t⟩:=g;revert t;intro (t:Int);intro a w Q s T U V;obtain⟨⟨N,O,k,C⟩,s⟩:=s;have N:0<=t:=N;have O:t<=80+32:=O;have C:p6 L f (t-d) H l k:=C;have x4:=C.len K;have hp:=C.p;revert a w Q;refine fun a w Q T U V s=>(?_:Ob.aN _ _ (Ob.GH (jX w0 M0 F0) jF.ntmps (jT d A f 8 9 10 m.length (l).length m (l) [(17,sI .i64 t)]) (Ob.aj.sep H.cv G)) _ _ _) a w Q s T U V;refine Ob.gcd cz 1 (fun I=>bo .bool 74 I) (fun b=>jT d A f 8 9 10 m.length (l).length m (l) [(17,sI .i64 t),(74,aA b)]) (fun b=>b=decide (t<80)) ?_ (fun b hb=>?_);intros;refine @aq ((jT d A f 8 9 10 m.length l.length m l [(17,sI i64 t),(74,aA (decide (t<80)))]).ah (decide (t<80)=decide (t<80))) _ ?_ ?_;kernel_rfl;exact au rfl;cases b
  ·have x2:80<=t:=by have:=Odf hb.symm;omega
   refine Ob.e5 (ar (aV (ar (al jF) 17)) 1) ?_;refine Ob.ju cz mixed (fun _=>False) (fun _=>False) (fun i P=>i=b7 (ar (al jF) 17)/\P.le (Ob.cm (jX w0 M0 F0)) (jT d A f 8 9 10 m.length (l).length m (l) [(17,sI .i64 t)]) True) ?_ (fun _ _ _ h _=>h.elim) (fun _ _ _ h _=>h.elim) (fun i P a w hx x1=>?_);intros;refine @aq (2=2/\(jT d A f 8 9 10 m.length l.length m l [(17,sI i64 t)]).ah True) _ ?_ ?_;kernel_rfl;exact⟨rfl,au trivial⟩
   ·obtain⟨rfl,hx⟩:=hx;rw[gi];have Z:k=4:=by
     rcases C.far with h|h;exact h;by_cases x3:k<=3;have h1:=K.p1;have:(k:Int)*L.span<=3*L.span:=vt aa aa;omega;have:=C.k4;omega
    subst Z;refine⟨(H,t),⟨C.st,C.ok⟩,?_⟩;have e:=C.out;subst e;exact (x1.le hx).2
  ·have x5:t<80:=Odt hb.symm;refine Ob.je (ar (aV (ar (al jF) 17)) 1) ?_;refine Ob.dL (E:=jX w0 M0 F0) (c:=ar (aV (ar (al jF) 17)) 2) (fun a w=>∃ (u:dF) (D:List (Int × Hbm.aG)),(∃ j,p6 L f t u D j)/\Ob.GH (jX w0 M0 F0) jF.ntmps (jT d A f 8 9 10 m.length (D).length m (D) [(17,sI .i64 t)]) (Ob.aj.sep u.cv G) a w) ab ab ?_ ?_
   ·refine Ob.ep 21 (bC (ar (cV (ar (aV (ar (al jF) 17)) 2)) 0)) ?_;refine Ob.dT cz 3 (jT d A f 8 9 10 m.length (l).length m (l) [(17,sI .i64 t),(78,ag (.sl 9 0 0 l.length 8)),(79,aB f),(80,sI .i64 t)]) ?_;refine Ob.fI (Ob.eO (E:=jX w0 M0 F0) (Ob.b5 (fun _=>G) H7) (H,t) C.ok ab zG (by rw[hp];kernel_rfl) (by rw[hp];kernel_rfl) (fun _=>rfl)) (fun y hy=>?_);obtain⟨u,o⟩:=y;have hy:Ticks t H u o:=hy;obtain⟨j,F⟩:=C.tick K hy;have x0:=F.len K;rw[a7] at x0;refine Ob.gA cz 6 (fun I=>(na 15 I,cT bH 42 I)) (fun g:Nat × List (Int × Hbm.aG)=>jT d A f 8 42 58 m.length g.1 m g.2 [(17,sI .i64 t)]) (fun g=>g.1=l.length+o.length/\g.2=l++o) ?_ (fun g Y=>Ob.ei ?_);intros;refine @aq (l.length<=l.length/\(l.length+o.length)*80<=140737488355328/\l.length+o.length<=4611686018427387904/\(jT d A f 8 42 58 m.length (l.length+o.length,take l.length l++o).fst m (l.length+o.length,take l.length l++o).snd [(17,sI i64 t)]).ah (l.length+o.length=l.length+o.length/\take l.length l++o=l++o)) _ ?_ ?_;kernel_rfl;exact⟨aI _,aa,aa,au ⟨rfl,by rw[aT]⟩⟩;obtain⟨n1,l1⟩:=g;obtain⟨W,X⟩:=Y;have W:n1=l.length+o.length:=W;have X:l1=l++o:=X;have e3:n1=(l++o).length:=by rw[W,a7]
    subst e3 X;refine Ob.xh cz 0 [(9,42),(8,8)] (jT d A f 8 9 10 m.length (l++o).length m (l++o) [(17,sI .i64 t)]) ?_;exact Ob.cr fun a w s=>⟨u,l++o,⟨j,F⟩,s⟩
   intro a w Q' s k1 k2 k3;obtain⟨u,D,⟨j,F⟩,s⟩:=s;refine Ob.pF (l:=(aV (ar (al jF) 17)).drop 3) cz mixed 1 (fun I=>bo iL 17 I) (fun q:Int=>jT d A f 8 9 10 m.length (D).length m (D) [(17,sI .i64 q)]) (fun q=>q=t+d) (fun _=>False) (fun _ _=>False) ?_ (fun q hq=>?_) (fun _ _ _ h _=>h.elim) (fun _ _ _ _ h _=>h.elim) a w Q' s k1 k2 k3;intros;refine @aq ((jT d A f 8 9 10 m.length D.length m D [(17,sI i64 (i64.wrap (t+d)))]).ah (i64.wrap (t+d)=t+d)) _ ?_ ?_;kernel_rfl;exact au (ba aa aa);have hq:q=t+d:=hq;subst hq;exact Ob.cr fun a w s=>⟨(u,D,t+d),⟨⟨by show 0<=t+d;omega,by show t+d<=80+32;omega,j,by rw[show (u,D,t+d).2.2-d=t by show t+d-d=t;omega];exact F⟩,s⟩,by show (80-(t+d)).toNat<(80-t).toNat;omega⟩
 obtain⟨H,t⟩:=o;intro a w Q s T U V;obtain⟨⟨hs,Z⟩,s⟩:=s;exact h H hs Z t a w Q s T U V
theorem Gh (L:Lone) (h:L.Ok):∀ k,∀ e∈bd L k,e.2.2.2.2.2.2.2.length<4611686018427387904
 | 0,e,he=>by cases he
 | k+1,e,he=>by
  rw[bd] at he;rcases List.mem_append.1 he with he|he;exact Gh L h k e he
  ·have a:∀ k,∀ e∈dv (yd L k),e.2.2.2.2.2.2.2.length<4611686018427387904:=fun k e he=>by
    rw[dv] at he;obtain⟨m,a,rfl⟩:=mem_map.1 he;have b:=zU h k;unfold yd at a;have:m.2.2.2.2.2.2=mN L k:=by split at a;simp at a;rcases a with rfl|rfl|rfl<;>rfl;simp at a;rcases a with rfl|rfl<;>rfl
    show m.2.2.2.2.2.2.length<_;rw[this];omega
   unfold Cm at he;split at he;rcases List.mem_append.1 he with he|he;unfold cn at he;obtain⟨d,_,rfl⟩:=mem_map.1 he;show (fr.lh _).length<_;rw[yI];decide;exact a 0 e he;split at he;exact a k e he;cases he
theorem ad3 (L:Lone) (G:L.Ok) (H:Int) (e d:Nat) (f g:dF) (sx:Stg L 4 e f) (U:TOk f) (sy:Stg L 4 d g) (V:TOk g) (t:Int) :
  Ob.aN Tryz.prog ((al jF).drop 18) (Ob.GH (jX w0 M0 F0) jF.ntmps (jT H e d 8 9 10 (bd L 4).length (bd L 4).length (bd L 4) (bd L 4) [(17,sI .i64 t)]) (Ob.aj.sep f.cv g.cv)) (Ob.c1 (jX w0 M0 F0) jF YO) (Ob.c1 (jX w0 M0 F0) jF YO) (fun _ _ _=>False):=by
 obtain⟨x,o⟩:=sx.R;obtain⟨y,r⟩:=sy.R;have j:f.z.R.p=e:=by rw[o];rfl
 have m:g.z.R.p=d:=by rw[r];rfl
 have I:f.z.R.phase=4:=by rw[o];rfl
 have K:g.z.R.phase=4:=by rw[r];rfl
 have T:(bd L 4).length<=28:=xp L G.n4 4;refine Ob.OB 14 8 (bd L 4).length 8 bH (bd L 4) ?_;refine Ob.OB 15 9 (bd L 4).length 8 bH (bd L 4) ?_;refine Ob.fR (jS 10 ([(12,aB e),(13,aB d)]++[(14,ag (.ro bH (bd L 4))),(15,ag (.ro bH (bd L 4)))]) []) ?_;refine Ob.ep 22 (bC (ar (al jF) 18)) ?_;refine Ob.gA cz 5 (fun n=>bo .bool 87 n) (fun b=>jS 10 ([(12,aB e),(13,aB d)]++[(14,ag (.ro bH (bd L 4))),(15,ag (.ro bH (bd L 4))),(87,aA b)]) []) (fun b=>b=false) ?_ (fun b i=>?_);intros;refine @aq ((jS 10 ([(12,aB e),(13,aB d)]++[(14,SV.is (TV.one (Cell.ro bH (bd L 4)))),(15,SV.is (TV.one (Cell.ro bH (bd L 4)))),(87,aA ((↑(bd L 4).length:Int) != (↑(bd L 4).length:Int)))]) []).ah (((↑(bd L 4).length:Int) != (↑(bd L 4).length:Int))=false)) _ ?_ ?_;kernel_rfl;exact au aw;have i:b=false:=i;subst i;refine Ob.kJ (k9 fun h=>Ob.iw 87 (ag .F) Ob.pQ h) ?_;refine Ob.dT cz 7 (jS 10 ([(12,aB e),(13,aB d)]++[(14,ag (.ro bH (bd L 4))),(15,ag (.ro bH (bd L 4))),(88,ag .F),(89,aB e)]) []) ?_;refine Ob.fI (Ob.eO (E:=jX w0 M0 F0) (Ob.b5 (fun _=>g.cv) (Jv sha.dZ)) f trivial ab xe (by rw[j];kernel_rfl) (by rw[j];kernel_rfl) (fun _=>rfl)) (fun _ _=>?_);rw[I];refine Ob.kJ (k9 fun h=>Ob.aP (G':=Ob.aj.sep g.cv f.cv) (Ob.ja _ _) h) ?_;refine Ob.gA cz 10 (fun n=>bo .bool 92 n) (fun b=>jS 10 ([(12,aB e),(13,aB d)]++[(14,ag (.ro bH (bd L 4))),(15,ag (.ro bH (bd L 4))),(92,aA b)]) []) (fun b=>b=false) ?_ (fun b i=>?_);intros;refine @aq ((jS 10 ([(12,aB e),(13,aB d)]++[(14,SV.is (TV.one (Cell.ro bH (bd L 4)))),(15,SV.is (TV.one (Cell.ro bH (bd L 4)))),(92,aA (4 != 4))]) []).ah ((4 != 4)=false)) _ ?_ ?_;kernel_rfl;exact au rfl;have i:b=false:=i;subst i;refine Ob.kJ (k9 fun h=>Ob.iw 92 (ag .F) Ob.pQ h) ?_;refine Ob.dT cz 12 (jS 10 ([(12,aB e),(13,aB d)]++[(14,ag (.ro bH (bd L 4))),(15,ag (.ro bH (bd L 4))),(93,ag .F),(94,aB d)]) []) ?_;refine Ob.fI (Ob.eO (E:=jX w0 M0 F0) (Ob.b5 (fun _=>f.cv) (Jv sha.dZ)) g trivial ab xe (by rw[m];kernel_rfl) (by rw[m];kernel_rfl) (fun _=>rfl)) (fun _ _=>?_);rw[K];refine Ob.kJ (k9 fun h=>Ob.aP (G':=Ob.aj.sep f.cv g.cv) (Ob.ja _ _) h) ?_;refine Ob.gA cz 15 (fun n=>bo .bool 97 n) (fun b=>jS 10 ([(12,aB e),(13,aB d)]++[(14,ag (.ro bH (bd L 4))),(15,ag (.ro bH (bd L 4))),(97,aA b)]) []) (fun b=>b=false) ?_ (fun b i=>Ob.ei ?_);intros;refine @aq ((jS 10 ([(12,aB e),(13,aB d)]++[(14,SV.is (TV.one (Cell.ro bH (bd L 4)))),(15,SV.is (TV.one (Cell.ro bH (bd L 4)))),(97,aA (4 != 4))]) []).ah ((4 != 4)=false)) _ ?_ ?_;kernel_rfl;exact au rfl;have i:b=false:=i;subst i;refine Ob.e5 (ar (al jF) 19) ?_;refine Ob.eK cz 1 (jS 10 ([(12,aB e),(13,aB d)]++[(14,ag (.ro bH (bd L 4))),(15,ag (.ro bH (bd L 4))),(99,sI .i64 (bd L 4).length),(100,sI .i64 0)]) []) ?_;refine Ob.vf cz mixed (c:=ar (al jF) 21) (fun k:Nat=>jS 10 ([(12,aB e),(13,aB d)]++[(14,ag (.ro bH (bd L 4))),(15,ag (.ro bH (bd L 4))),(99,sI .i64 (bd L 4).length),(100,sI .i64 (k:Int))]) []) (fun _=>Ob.aj.sep f.cv g.cv) (bd L 4).length ab ab (fun k D w ids M num=>?_) (fun k D=>?_) ?_;refine aq (X:=((decide ((k:Int)<(↑(bd L 4).length:Int))=true->(jS 10 ([(12,aB e),(13,aB d)]++[(14,SV.is (TV.one (Cell.ro bH (bd L 4)))),(15,SV.is (TV.one (Cell.ro bH (bd L 4)))),(99,sI i64 (↑(bd L 4).length:Int)),(100,sI i64 (k:Int))]) []).ah (k<(bd L 4).length))/\(decide ((k:Int)<(↑(bd L 4).length:Int))=false->(jS 10 ([(12,aB e),(13,aB d)]++[(14,SV.is (TV.one (Cell.ro bH (bd L 4)))),(15,SV.is (TV.one (Cell.ro bH (bd L 4)))),(99,sI i64 (↑(bd L 4).length:Int)),(100,sI i64 (k:Int))]) []).ah (k=(bd L 4).length)))) ab ?_;exact⟨fun h=>au (by have:=dec_lt h;omega),fun h=>au (by have:=bX h;omega)⟩;have P:=Gh L G 4 ((bd L 4).getD k (0,(0,0,0,0,0,0,[]))) (by rw[a2,bu D];exact dr D);refine Ob.dL (E:=jX w0 M0 F0) (c:=ar (aV (ar (al jF) 21)) 2) (fun a w=>Ob.GH (jX w0 M0 F0) jF.ntmps (jS 10 ([(12,aB e),(13,aB d)]++[(14,ag (.ro bH (bd L 4))),(15,ag (.ro bH (bd L 4))),(99,sI .i64 (bd L 4).length),(100,sI .i64 (k:Int))]) []) (Ob.aj.sep f.cv g.cv) a w) ab ab ?_ ?_;refine Ob.kN cz mixed 2 127 (fun n=>bo .bool 127 n) (fun b=>jS 10 ([(12,aB e),(13,aB d)]++[(14,ag (.ro bH (bd L 4))),(15,ag (.ro bH (bd L 4))),(99,sI .i64 (bd L 4).length),(100,sI .i64 (k:Int)),(127,aA b)]) []) (fun b=>b=false) (fun _=>False) (fun _ _=>False) ?_ (fun b i=>?_) (fun _ _ _ h _=>h.elim) (fun _ _ _ _ h _=>h.elim);intros;refine @aq ((0<=(k:Int)/\(k:Int)<(↑(bd L 4).length:Int))/\(k:Int).toNat<(bd L 4).length/\(0<=(k:Int)/\(k:Int)<(↑(bd L 4).length:Int))/\(k:Int).toNat<(bd L 4).length/\((((bd L 4).getD (k:Int).toNat (0,0,0,0,0,0,0,[])).fst != ((bd L 4).getD (k:Int).toNat (0,0,0,0,0,0,0,[])).fst)=true->(jS 10 ([(12,aB e),(13,aB d)]++[(14,SV.is (TV.one (Cell.ro bH (bd L 4)))),(15,SV.is (TV.one (Cell.ro bH (bd L 4)))),(99,sI i64 (↑(bd L 4).length:Int)),(100,sI i64 (k:Int)),(127,aA true)]) []).ah (true=false))/\((((bd L 4).getD (k:Int).toNat (0,0,0,0,0,0,0,[])).fst != ((bd L 4).getD (k:Int).toNat (0,0,0,0,0,0,0,[])).fst)=false->(0<=(k:Int)/\(k:Int)<(↑(bd L 4).length:Int))/\(k:Int).toNat<(bd L 4).length/\(0<=(k:Int)/\(k:Int)<(↑(bd L 4).length:Int))/\(k:Int).toNat<(bd L 4).length/\ref01.vl (((bd L 4).getD (k:Int).toNat (0,0,0,0,0,0,0,[])).snd.snd.snd.snd.snd.snd.snd,((bd L 4).getD (k:Int).toNat (0,0,0,0,0,0,0,[])).snd.snd.snd.snd.snd.snd.snd,())/\(jS 10 ([(12,aB e),(13,aB d)]++[(14,SV.is (TV.one (Cell.ro bH (bd L 4)))),(15,SV.is (TV.one (Cell.ro bH (bd L 4)))),(99,sI i64 (↑(bd L 4).length:Int)),(100,sI i64 (k:Int)),(127,aA !(ref16.pJ ((bd L 4).getD (k:Int).toNat (0,0,0,0,0,0,0,[])).snd ((bd L 4).getD (k:Int).toNat (0,0,0,0,0,0,0,[])).snd,()).fst)]) []).ah ((!ref16.pJ ((bd L 4).getD (k:Int).toNat (0,0,0,0,0,0,0,[])).snd ((bd L 4).getD (k:Int).toNat (0,0,0,0,0,0,0,[])).snd)=false))) _ ?_ ?_;kernel_rfl;rw[aF];exact⟨⟨aa,aa⟩,D,⟨aa,aa⟩,D,fun h=>absurd h aw,fun _=>⟨⟨aa,aa⟩,D,⟨aa,aa⟩,D,P,au (by rw[ref16.QZ];rfl)⟩⟩;have i:b=false:=i;subst i;refine Ob.e5 (ar (cV (ar (aV (ar (al jF) 21)) 2)) 2) ?_;refine Ob.fR (jS 10 ([(12,aB e),(13,aB d)]++[(14,ag (.ro bH (bd L 4))),(15,ag (.ro bH (bd L 4))),(99,sI .i64 (bd L 4).length),(100,sI .i64 (k:Int))]) []) ?_;exact Ob.cr fun a w Q=>Q;intro a w W Q Z k2 k3;refine Ob.pF (l:=(aV (ar (al jF) 21)).drop 3) cz mixed 1 (fun n=>bo iL 100 n) (fun q:Int=>jS 10 ([(12,aB e),(13,aB d)]++[(14,ag (.ro bH (bd L 4))),(15,ag (.ro bH (bd L 4))),(99,sI .i64 (bd L 4).length),(100,sI .i64 q)]) []) (fun q=>q=((k+1:Nat):Int)) (fun _=>False) (fun _ _=>False) ?_ (fun q Y=>?_) (fun _ _ _ h _=>h.elim) (fun _ _ _ _ h _=>h.elim) a w W Q Z k2 k3;intros;refine @aq ((jS 10 ([(12,aB e),(13,aB d)]++[(14,SV.is (TV.one (Cell.ro bH (bd L 4)))),(15,SV.is (TV.one (Cell.ro bH (bd L 4)))),(99,sI i64 (↑(bd L 4).length:Int)),(100,sI i64 (i64.wrap ((k:Int)+1)))]) []).ah (i64.wrap ((k:Int)+1)=(↑(k+1):Int))) _ ?_ ?_;kernel_rfl;exact au (aS aa);subst Y;exact Ob.cr fun _ _ h=>h;refine Ob.fR (jS 10 ([(12,aB e),(13,aB d)]++[]) []) ?_;by_cases N:L.mem.length=1
 ·have s:mH f=xc (iI L).1 (iI L).2.1 (.row .fr 1 [(iI L).2.2.1]) (.ints .u8 32 (iI L).2.2.2) 0:=by
   have A:fg f.z.R=(some (iI L),0):=by rw[o];exact EL G N e x
   have O:f.z.R.fault=0:=by rw[o];rfl
   have C:f.fin=true:=sx.fin;unfold mH;rw[C,A,O]
  have u:mH g=xc (iI L).1 (iI L).2.1 (.row .fr 1 [(iI L).2.2.1]) (.ints .u8 32 (iI L).2.2.2) 0:=by
   have A:fg g.z.R=(some (iI L),0):=by rw[r];exact EL G N d y
   have O:g.z.R.fault=0:=by rw[r];rfl
   have C:g.fin=true:=sy.fin;unfold mH;rw[C,A,O]
  refine Ob.ep 30 (bC (ar (al jF) 22)) ?_;refine Ob.dT cz 1 (jS 10 ([(12,aB e),(13,aB d)]++[(130,aB e)]) []) ?_;refine Ob.fI (Ob.eO (E:=jX w0 M0 F0) (Ob.b5 (fun _=>g.cv) (yS sha.dZ)) f U ab sJ (by rw[j];kernel_rfl) (by rw[j];kernel_rfl) (fun _=>by show (mH f).ids=[];rw[s];rfl)) (fun _ _=>?_);rw[s];refine Ob.dT cz 10 (jS 60 ([(13,aB d),(19,ao 58 0),(20,sI .i64 0)]++[]) [(58,[.ro iL (iI L).1,.ro aQ (iI L).2.1,.row .fr 1 [(iI L).2.2.1],.ints .u8 32 (iI L).2.2.2])]) (Ob.ei ?_);refine Ob.aP (G':=Ob.aj.sep g.cv f.cv) (Ob.ja _ _) ?_;refine Ob.ep 31 (bC (ar (al jF) 23)) ?_;refine Ob.dT cz 1 (jS 60 ([(13,aB d),(19,ao 58 0),(20,sI .i64 0)]++[(136,aB d)]) [(58,[.ro iL (iI L).1,.ro aQ (iI L).2.1,.row .fr 1 [(iI L).2.2.1],.ints .u8 32 (iI L).2.2.2])]) ?_;refine Ob.fI (Ob.eO (E:=jX w0 M0 F0) (Ob.b5 (fun _=>f.cv) (yS sha.dZ)) g V ab sJ (by rw[m];kernel_rfl) (by rw[m];kernel_rfl) (fun _=>by show (mH g).ids=[];rw[u];rfl)) (fun _ _=>?_);rw[u];refine Ob.dT cz 10 (jS 110 ([(19,ao 58 0),(20,sI .i64 0),(22,ao 108 0),(23,sI .i64 0)]++[]) [(58,[.ro iL (iI L).1,.ro aQ (iI L).2.1,.row .fr 1 [(iI L).2.2.1],.ints .u8 32 (iI L).2.2.2]),(108,[.ro iL (iI L).1,.ro aQ (iI L).2.1,.row .fr 1 [(iI L).2.2.1],.ints .u8 32 (iI L).2.2.2])]) (Ob.ei ?_);refine Ob.kN cz mixed 1 10 (fun n=>bo .bool 10 n) (fun b=>jS 8 [(10,aA b)] []) (fun b=>b=true) (fun _=>False) (fun _ _=>False) ?_ (fun b i=>?_) (fun _ _ _ h _=>h.elim) (fun _ _ _ _ h _=>h.elim);intros;refine @aq ((((0:Int)==0)=true->(jI (Kd.arr 32 (Kd.int u8)) (pX [L.me] (poly.cM L.a6)) (pX [L.me] (poly.cM L.a6))=true->(jS 8 [(10,aA (jI Kd.fr (poly.pat L.a6 L.me) (poly.pat L.a6 L.me)))] []).ah (jI Kd.fr (poly.pat L.a6 L.me) (poly.pat L.a6 L.me)=true))/\(jI (Kd.arr 32 (Kd.int u8)) (pX [L.me] (poly.cM L.a6)) (pX [L.me] (poly.cM L.a6))=false->(jS 8 [(10,aA false)] []).ah (false=true)))/\(((0:Int)==0)=false->(jS 8 [(10,aA false)] []).ah (false=true))) _ ?_ ?_;kernel_rfl;exact⟨fun _=>⟨fun _=>au ((qU _ _).2 rfl),fun h=>absurd h (by rw[(qU _ _).2 rfl];decide)⟩,fun h=>by cases h⟩;have i:b=true:=i;subst i;refine Ob.aP (G':=Ob.aj.sep (Ob.aj.sep g.cv f.cv) Ob.aj.none) (Ob.pv _).symm ?_;refine Ob.EE ?_;exact Ob.sn cz (aA true) ⟨(),trivial,Ob.br _,rfl⟩
 ·have s:mH f=xc [] [] zF zD 32:=by
   have A:fg f.z.R=(none,32):=by rw[o];exact LJ G N e x
   have C:f.fin=true:=sx.fin;unfold mH;rw[C,A,I];rfl
  have u:mH g=xc [] [] zF zD 32:=by
   have A:fg g.z.R=(none,32):=by rw[r];exact LJ G N d y
   have C:g.fin=true:=sy.fin;unfold mH;rw[C,A,K];rfl
  refine Ob.ep 30 (bC (ar (al jF) 22)) ?_;refine Ob.dT cz 1 (jS 10 ([(12,aB e),(13,aB d)]++[(130,aB e)]) []) ?_;refine Ob.fI (Ob.eO (E:=jX w0 M0 F0) (Ob.b5 (fun _=>g.cv) (yS sha.dZ)) f U ab sJ (by rw[j];kernel_rfl) (by rw[j];kernel_rfl) (fun _=>by show (mH f).ids=[];rw[s];rfl)) (fun _ _=>?_);rw[s];refine Ob.dT cz 10 (jS 60 ([(13,aB d),(19,ao 58 0),(20,sI .i64 32)]++[]) [(58,[.ro iL [],.ro aQ [],zF,zD])]) (Ob.ei ?_);refine Ob.aP (G':=Ob.aj.sep g.cv f.cv) (Ob.ja _ _) ?_;refine Ob.ep 31 (bC (ar (al jF) 23)) ?_;refine Ob.dT cz 1 (jS 60 ([(13,aB d),(19,ao 58 0),(20,sI .i64 32)]++[(136,aB d)]) [(58,[.ro iL [],.ro aQ [],zF,zD])]) ?_;refine Ob.fI (Ob.eO (E:=jX w0 M0 F0) (Ob.b5 (fun _=>f.cv) (yS sha.dZ)) g V ab sJ (by rw[m];kernel_rfl) (by rw[m];kernel_rfl) (fun _=>by show (mH g).ids=[];rw[u];rfl)) (fun _ _=>?_);rw[u];refine Ob.dT cz 10 (jS 110 ([(19,ao 58 0),(20,sI .i64 32),(22,ao 108 0),(23,sI .i64 32)]++[]) [(58,[.ro iL [],.ro aQ [],zF,zD]),(108,[.ro iL [],.ro aQ [],zF,zD])]) (Ob.ei ?_);refine Ob.kN cz mixed 1 10 (fun n=>bo .bool 10 n) (fun b=>jS 8 [(10,aA b)] []) (fun b=>b=true) (fun _=>False) (fun _ _=>False) ?_ (fun b i=>?_) (fun _ _ _ h _=>h.elim) (fun _ _ _ _ h _=>h.elim);intros;refine @aq ((((32:Int)==32)=true->(jI (Kd.arr 32 (Kd.int u8)) (replicate 32 0) (replicate 32 0)=true->Canon Mr [0,0,0,0]/\Canon Mr [0,0,0,0]/\(jS 8 [(10,aA (jI Kd.fr (dec [0,0,0,0]) (dec [0,0,0,0])))] []).ah (jI Kd.fr (dec [0,0,0,0]) (dec [0,0,0,0])=true))/\(jI (Kd.arr 32 (Kd.int u8)) (replicate 32 0) (replicate 32 0)=false->(jS 8 [(10,aA false)] []).ah (false=true)))/\(((32:Int)==32)=false->(jS 8 [(10,aA false)] []).ah (false=true))) _ ?_ ?_;kernel_rfl;exact⟨fun _=>⟨fun _=>⟨Sh,Sh,au ((qU _ _).2 rfl)⟩,fun h=>absurd h (by rw[(qU _ _).2 rfl];decide)⟩,fun h=>by cases h⟩;have i:b=true:=i;subst i;refine Ob.aP (G':=Ob.aj.sep (Ob.aj.sep g.cv f.cv) Ob.aj.none) (Ob.pv _).symm ?_;refine Ob.EE ?_;exact Ob.sn cz (aA true) ⟨(),trivial,Ob.br _,rfl⟩
end
set_option maxHeartbeats 4000000
abbrev jK (n c span:Int) (b:List Int) (a:Int):JIn:=⟨n,c,span,b,a⟩
theorem Qe (n:Int) (m:Nat) (a:m<4294967296):0<=aD .and .i64 n (m:Int)/\aD .and .i64 n (m:Int)<=m:=law22.vu aa aa
theorem afR {z:JIn} (h:1<=z.n) (i:z.n<=2) (a:1<=z.need) (j:z.need<=z.n) (c:1<=z.span) (k:z.span<=8):(jL z).Ok/\(jL z).Set:=by have l:(jC z.n.toNat).length=z.n.toNat:=DL _;obtain⟨e,f,g⟩:=ajl (n:=z.n.toNat) aa aa;refine⟨⟨?_,?_,PS.2 ⟨by show (1:Int)<=1;decide,by show (1:Int)<=_;omega⟩,fun x d=>?_,a,?_,?_,by show (0:Int)<=3;decide,by show (3:Int)<=1099511627776;decide,c,by show z.span<=_;omega⟩,⟨e,f,g⟩⟩;show 1<=(jC z.n.toNat).length;omega;show (jC z.n.toNat).length<=4;omega;have:=PS.1 d;omega;show z.need<=((jC z.n.toNat).length:Int);omega;show ((rP z.b 1 z.need.toNat).length:Int)=z.need;rw[rP,bZ,wR];omega
def jZ (z:JIn) (next:Nat) (a:List (Nat × SV)):St:=jS next ([(0,sI .i64 z.n),(1,sI .i64 z.need),(2,sI .i64 z.span),(3,ag (.ro (.int .u8) z.b)),(4,sI .i64 z.jump)]++a) []
theorem To {L:Lone} (a:L.Ok) (d:L.Set) (q:Nat × Nat × Nat):p6 L q.1 (-1) (g9 L.qc q) [] 0:=by obtain⟨b,c⟩:=Gi a d q;exact⟨ae,b,c,rfl,.inr (by have:=a.s0;show (-1:Int)<L.start+((0:Nat):Int)*L.span;omega)⟩
theorem ad4 (z:JIn) (P:Bs z.b) (i:World) (g:Mem) (f:Nat->Prop):Ob.aN Tryz.prog (al jF) (Ob.GH (jX i g f) jF.ntmps (jZ z 0 []) Ob.aj.none) (Ob.c1 (jX i g f) jF YO) (Ob.c1 (jX i g f) jF YO) (fun _ _ _=>False):=by
 refine Ob.eK cz 1 (jZ z 8 []) ?_;refine Ob.ep 1 (bC (ar (al jF) 1)) ?_;refine Ob.kj (E:=jX i g f) aaU () trivial KT (fun y Z=>?_);refine Ob.kJ (k9 fun h=>Ob.iw 25 (ag .T) Ob.gF h) ?_;refine Ob.dT cz 2 (jZ z 8 [(26,ag .F)]) (Ob.ei ?_);refine Ob.gqF (ar (al jF) 2) ?_;refine Ob.gcd cz 1 (fun d=>bo .bool 29 d) (fun q=>jZ z 8 [(29,aA q)]) (fun q=>q=decide ((z.b.length:Int)>100)) ?_ (fun q U=>?_);intros;refine @aq ((jZ z 8 [(29,aA (decide ((z.b.length:Int)>100)))]).ah (decide ((z.b.length:Int)>100)=decide ((z.b.length:Int)>100))) _ ?_ ?_;kernel_rfl;exact au rfl;cases q
 ·refine Ob.e5 (ar (al jF) 4) ?_;have Q:z.b.length<=100:=by have:=Odf U.symm;omega
  refine Ob.gcd cz 1 (fun d=>bo iL 0 d) (fun v:Int=>jZ (jK (v) (z.need) (z.span) z.b (z.jump)) 8 []) (fun v=>1<=(v:Int)/\(v:Int)<=2) ?_ (fun v A=>?_);intros;refine @aq ((jZ (jK (i64.wrap (1+aD BinOp.and i64 z.n 1)) z.need z.span z.b z.jump) 8 []).ah ((1:aH iL)<=i64.wrap (1+aD BinOp.and i64 z.n 1)/\i64.wrap (1+aD BinOp.and i64 z.n 1)<=(2:aH iL))) _ ?_ ?_;kernel_rfl;have m:=Qe z.n 1 ae;have R:0<=aD .and .i64 z.n 1/\aD .and .i64 z.n 1<=1:=m;have e:i64.wrap (1+aD .and .i64 z.n 1)=1+aD .and .i64 z.n 1:=ba aa aa;exact au (show 1<=i64.wrap (1+aD .and .i64 z.n 1)/\i64.wrap (1+aD .and .i64 z.n 1)<=2 by rw[e];omega);revert v;intro (n:Int) m;have m:1<=n/\n<=2:=m;refine Ob.gcd cz 1 (fun d=>bo iL 1 d) (fun v:Int=>jZ (jK (n) (v) (z.span) z.b (z.jump)) 8 []) (fun v=>1<=(v:Int)/\(v:Int)<=n) ?_ (fun v A=>?_);intros;refine @aq (((jK n z.need z.span z.b z.jump).n=0->False)/\(jZ (jK n (i64.wrap (1+(aD BinOp.and i64 (jK n z.need z.span z.b z.jump).need 1023).tmod (jK n z.need z.span z.b z.jump).n)) z.span z.b z.jump) 8 []).ah ((1:aH iL)<=i64.wrap (1+(aD BinOp.and i64 (jK n z.need z.span z.b z.jump).need 1023).tmod (jK n z.need z.span z.b z.jump).n)/\i64.wrap (1+(aD BinOp.and i64 (jK n z.need z.span z.b z.jump).need 1023).tmod (jK n z.need z.span z.b z.jump).n)<=n)) _ ?_ ?_;kernel_rfl;have o:=Qe z.need 1023 ae;have k:0<=aD .and .i64 z.need 1023/\aD .and .i64 z.need 1023<=1023:=o;have X:=Int.tmod_nonneg n k.1;have Y:=Int.tmod_lt_of_pos (aD .and .i64 z.need 1023) (show (0:Int)<n by omega);have e:i64.wrap (1+(aD .and .i64 z.need 1023).tmod n)=1+(aD .and .i64 z.need 1023).tmod n:=ba aa aa;exact⟨fun h=>absurd (show n=0 from h) aa,au (show 1<=i64.wrap (1+(aD .and .i64 z.need 1023).tmod n)/\i64.wrap (1+(aD .and .i64 z.need 1023).tmod n)<=n by rw[e];omega)⟩;revert v;intro (a:Int) w;obtain⟨K,L⟩:1<=a/\a<=n:=w;refine Ob.gcd cz 1 (fun d=>bo iL 2 d) (fun v:Int=>jZ (jK (n) (a) (v) z.b (z.jump)) 8 []) (fun v=>1<=(v:Int)/\(v:Int)<=8) ?_ (fun v A=>?_);intros;refine @aq ((jZ (jK n a (i64.wrap (1+aD BinOp.and i64 (jK n a z.span z.b z.jump).span 7)) z.b z.jump) 8 []).ah ((1:aH iL)<=i64.wrap (1+aD BinOp.and i64 (jK n a z.span z.b z.jump).span 7)/\i64.wrap (1+aD BinOp.and i64 (jK n a z.span z.b z.jump).span 7)<=(8:aH iL))) _ ?_ ?_;kernel_rfl;have o:=Qe z.span 7 ae;have k:0<=aD .and .i64 z.span 7/\aD .and .i64 z.span 7<=7:=o;have e:i64.wrap (1+aD .and .i64 z.span 7)=1+aD .and .i64 z.span 7:=ba aa aa;exact au (show 1<=i64.wrap (1+aD .and .i64 z.span 7)/\i64.wrap (1+aD .and .i64 z.span 7)<=8 by rw[e];omega);revert v;intro (span:Int) x;obtain⟨N,O⟩:1<=span/\span<=8:=x;refine Ob.gcd cz 1 (fun d=>bo iL 4 d) (fun v:Int=>jZ (jK (n) (a) (span) z.b (v)) 8 []) (fun v=>1<=(v:Int)/\(v:Int)<=32) ?_ (fun v A=>?_);intros;refine @aq ((jZ (jK n a span z.b (i64.wrap (1+aD BinOp.and i64 (jK n a span z.b z.jump).jump 31))) 8 []).ah ((1:aH iL)<=i64.wrap (1+aD BinOp.and i64 (jK n a span z.b z.jump).jump 31)/\i64.wrap (1+aD BinOp.and i64 (jK n a span z.b z.jump).jump 31)<=(32:aH iL))) _ ?_ ?_;kernel_rfl;have o:=Qe z.jump 31 ae;have k:0<=aD .and .i64 z.jump 31/\aD .and .i64 z.jump 31<=31:=o;have e:i64.wrap (1+aD .and .i64 z.jump 31)=1+aD .and .i64 z.jump 31:=ba aa aa;exact au (show 1<=i64.wrap (1+aD .and .i64 z.jump 31)/\i64.wrap (1+aD .and .i64 z.jump 31)<=32 by rw[e];omega);revert v;intro (c:Int) u;obtain⟨D,G⟩:1<=c/\c<=32:=u;refine Ob.gcd cz 1 (fun _=>()) (fun _=>jA (jK (n) (a) (span) z.b (c)) 64 []) (fun _=>True) ?_ (fun _ _=>?_);intros;refine @aq ((0<=(jK n a span z.b c).n/\(jK n a span z.b c).n<=1000)/\(0<=(jK n a span z.b c).n/\(jK n a span z.b c).n<=1000)/\(jA (jK n a span z.b c) 64 []).ah True) _ ?_ ?_;kernel_rfl;have H:0<=n/\n<=1000:=aa;exact⟨H,H,au trivial⟩;obtain⟨j,s⟩:=afR (z:=(jK (n) (a) (span) z.b (c))) m.1 m.2 K L N O;have r:(jL (jK (n) (a) (span) z.b (c))).start+3*(jL (jK (n) (a) (span) z.b (c))).span<39:=by show (3:Int)+3*span<39;omega
  refine ad1 i g f (jK (n) (a) (span) z.b (c)) P Q j s (fun q l=>?_);refine Ob.xh cz 3 [(8,8),(9,24)] (jT c q.1 l.1 8 9 10 vR.length vR.length vR vR [(16,sI .i64 0)]) ?_;refine aaJ i g f _ j c ⟨D,G⟩ q.1 l.1 vR (a8 _) _ _ (To j s q) r (fun C sx V t=>?_);refine Ob.eK cz 1 (jT c q.1 l.1 8 9 10 (bd (jL (jK (n) (a) (span) z.b (c))) 4).length vR.length (bd (jL (jK (n) (a) (span) z.b (c))) 4) vR [(17,sI .i64 0)]) ?_;refine Ob.aP (G':=Ob.aj.sep (g9 (jL (jK (n) (a) (span) z.b (c))).qc l).cv C.cv) (Ob.ja _ _) ?_;refine aaK i g f _ j c ⟨D,G⟩ q.1 l.1 _ (xp _ j.n4 4) _ _ (To j s l) r (fun I sy W t=>?_);refine Ob.aP (G':=Ob.aj.sep C.cv I.cv) (Ob.ja _ _) ?_;exact ad3 i g f _ j c q.1 l.1 C I sx V sy W t
 refine Ob.je (ar (al jF) 4) ?_;refine Ob.iu cz mixed (ag .T) ?_ ⟨(),trivial,Ob.CG,rfl⟩;intros;refine @aq (SV.is (TV.one Cell.T)=SV.is (TV.one Cell.T)) _ ?_ ?_;kernel_rfl;rfl
abbrev WQ:HL [.int .i64,.int .i64,.int .i64,DS,.int .i64]->Prop:=fun (n,c,span,b,a,_)=>fy n/\fy c/\fy span/\preB b/\fy a
theorem VV:aO Tryz.prog 3 [.int .i64,.int .i64,.int .i64,DS,.int .i64] [.val .bool] sha.dZ WQ (fun _=>(true,())):=by refine VY BS ?_;refine Ob.c9 (sp:=jSp) BS ab (fun z=>by show 5<=jF.ntmps;exact Odt ab) (fun z y=>rfl) ?_;rintro⟨n,c,span,b,a,⟨⟩⟩ d g f e;revert n c span b a;intro (n:Int) (c:Int) (span:Int) (b:List Int) (a:Int) d;refine Ob.fR (jZ ⟨n,c,span,b,a⟩ 0 []) ?_;exact ad4 ⟨n,c,span,b,a⟩ d.2.2.2.1.1 g f e
end YtofofalgjibokaaGreatDoor.law23
end Go.Proofs
open Go Go.RowKit Cr
namespace Go.Eng
open Go.ChangeShapes Go.WideShapes Go.ChangeAt
open Go.IntKind(i64 u64 u8)
open Go.IntKind(i64)
open Go.IntKind(i64 u8)
theorem Jn {P:Program} {t e:TypeId} {n:Nat} {k:IntKind} {H:Type} {enc:TypeId × Value->H} {W:World} {fl:Bool} {b:Nat} {g:List Value} {p:List MemPlace} {j:List Int} (E:P.underlying t=some (.array n e)) (C:P.underlying e=some (.int k)) (q:P.cellsOf e=1) (d:P.cellsOf t=n)
  (h:DataW.trod enc P W 0 (fun _=>true) fl b t g=some (.agg (j.map fun x=>.lit (.int k x)),p)):g=j.map (Value.int k):=by
 obtain⟨F,m,rfl,f,a,D,r⟩:=DataW.trod_array E h;simp only[aL,DataW.agg.injEq] at f;obtain⟨f,_⟩:=f;have u:j.length=n:=by have:=congrArg length f;simpa[D] using this
 refine mW (by rw[a,d,bZ,u]) fun i o G=>?_;have s:i<n:=by rw[a,d] at o;exact o
 have w:=r i s;rw[q,tZ,bu aa] at w;obtain⟨z,l,y,_⟩:=DataW.trod_int C w;have A:(g.drop i).take 1=[g[i]]:=by rw[lW o];rfl
 rw[A] at l;simp only[bx,bR] at l;have c:(j.map fun x=>(DataW.lit (.int k x):DataW H))[i]?=(F.map (·.1))[i]?:=by rw[f]
 rw[dy,dy,bu aa,bu aa] at c;simp only[c6,aE] at c;rw[y] at c;simp only[DataW.lit.injEq,Lit.int.injEq,true_and] at c;rw[l,wS,c]
theorem LD {P:Program} {W:World} {m:String} {g n:Nat} {k:IntKind} {f:Array Value} {i:List Int} (o:P.globalNamed m=some g) (d:W.var? P m=some f) (a:f.toList=i.map (Value.int k)) (j:i.length=n):mw (Rd (cb W) (.arr n (.int k))) (width (.arr n (.int k))) (cb W) g 0 [i]:=by
 have b:∃ h fr,W.heap[g]?=some (.cells f h fr):=by simp only[World.var?,o,Option.bind_some] at d;split at d;rename_i c h fr b;simp only[aE] at d;subst d;exact⟨h,fr,b⟩;cases d
 obtain⟨h,fr,b⟩:=b;obtain⟨l⟩:=f;have a:l=i.map (Value.int k):=a;refine⟨l,fun q=>kF b q,?_,?_⟩;simp[width,a,j];rw[gL,bW (by simp[width,a,j])];exact pC ⟨j,vb.2 a⟩
theorem Wq {C:Checked} {f:FuncId} {fn:Func} {s:ChangeSpec} {bt:TypeId} {ts:List TypeId} {L:List Kd} {pre g:HL L->Prop} {H:Type} {enc:TypeId × Value->H} {G:fZ}
  (Z:enters C.prog f fn) (hf:aO C.prog f L [.val .bool] G pre (fun _=>(true,()))) (hl:laidOutB C.prog=true) (d:fn.params.toList=ts) (D:fn.resultTypes=#[bt]) (w:C.prog.underlying bt=some .bool)
  (T:OpnL C.prog ts L g) (m:∀ r,g r->pre r) (F:s.vars=[]) (E:∀ ds:List (DataW H),ds.length=ts.length->s.fn H ds={ results:=[.lit (.bool true)],args:=ds })
  (W:World) (V:rq G (cb W)) (base:Nat) (args:Array Value) (ds O:List (DataW H)) (a:List MemPlace)
  (A:∀ (j:Nat) t v,fn.params[j]?=some t->args[j]?=some v->Value.okWide C.prog W .any base t v)
  (Q:DataW.Whole enc C.prog fn.params.toList s.vars false W args.toList ds O a)
  (o:(DataW.weightsEach C.prog (fn.params.toList++s.plain.varTypes C.prog) (ds++O)).all (· <= reachBytes)=true) :
  Calls C.prog f args W fun e N=>∃ v,e=.returned v/\s.post enc C.prog fn false true false false W args v N:=by
 have k:=Q;have z:∀ x∈a,x.block<W.heap.size:=fun x K=>by simpa using k.lt x K
 obtain⟨p,q,u,P,rfl,x0,x1⟩:=Q;rw[F] at P;obtain⟨rfl,rfl⟩:=trodVars_none P;rw[d] at u;have c:ds.length=ts.length:=by exact NL u
 have I:∀ n∈DataW.weightsEach C.prog ts ds,n<=reachBytes:=by
  intro n hn;have e:s.plain.varTypes C.prog=[]:=by simp[DataSpec.varTypes,ChangeSpec.plain,F]
  rw[e,d,bw,bw,mX] at o;simpa using o n hn
 obtain⟨r,y,hp⟩:=TG T (enc:=enc) (W:=W) (base:=base) (vs:=args.toList) (ds:=ds) (p:=p) (fun j t v U hj=>A j t v (by rw[<- d] at U;simpa using U) (by simpa using hj)) u I;have Y:=hf W (cb W) args.toList r (fun b l h=>h) V y (m r hp);refine (KF Z Y).mono ?_;rintro e N ⟨v,rfl,vs,ob,rfl,⟨v,x2,rfl,i,rfl⟩,R⟩;have i:v=.bool true:=by have h:[v]=[Value.bool true]:=i;simpa using h
 subst i;refine⟨_,rfl,ds,[],p++[],[],p,[],k,?_,?_,?_,?_,fun h=>by cases h⟩;rw[D,bw,E ds c];exact trodAll_mk1 (shut_bool w true);rw[d,bw,E ds c];exact Q8 hl T R u (fun x K=>z x (by simpa using K));rw[F,bw,E ds c];rfl;exact R.frame _
end Go.Eng
open Go.Eng
namespace Go.Proofs.YtofofalgjibokaaGreatDoor
namespace sha
open Go.IntKind(i64 u64 u8)
open Go.IntKind(i64)
open Go.IntKind(i64 u8)
abbrev zh : List (String × DataW Unit) := [("cresset/sha.first", Rows.laid_cresset_sha_first), ("cresset/sha.roots", Rows.laid_cresset_sha_roots)]
theorem adb : Tryz.prog.globalNamed "cresset/sha.first" = some 0 := by kernel_rfl
theorem adf : Tryz.prog.globalNamed "cresset/sha.roots" = some 1 := by kernel_rfl
theorem afd:(Tryz.prog.globals[0]?).map (·.type)=some 227:=ab
theorem afe:(Tryz.prog.globals[1]?).map (·.type)=some 252:=ab
theorem Xa {W:World} (h:laidMetH Tryz.prog zh W):rq dZ (cb W):=by rw[MakeChecks.laidMetH_plain _ _ _ ab] at h;obtain⟨H,⟨E,L,s,A,F,I,d,j,m,b,⟨g1,N,t,D,G,K,f,l,o,c,_,_⟩,_⟩,_,_⟩:=h;obtain rfl:=jV (adb.symm.trans d);obtain rfl:=jV (adf.symm.trans f);obtain rfl:=jV (afd.symm.trans j);obtain rfl:=jV (afe.symm.trans l);have u:(Rows.laid_cresset_sha_first:DataW Unit)=.agg (eh.map fun x=>.lit (.int .u32 x)):=rfl;have w:(Rows.laid_cresset_sha_roots:DataW Unit)=.agg (jz.map fun x=>.lit (.int .u32 x)):=rfl;rw[u] at b;rw[w] at c;have q:=Jn (e:=174) (n:=8) (k:=.u32) ab ab ab ab b;have r:=Jn (e:=174) (n:=64) (k:=.u32) ab ab ab ab c;have y:=LD d m q (n:=8) rfl;have z:=LD f o r (n:=64) rfl;intro g e x a;unfold dZ at a;split at a;rename_i i;subst i;simp only[aE] at a;cases a;exact y;split at a;rename_i i;subst i;simp only[aE] at a;cases a;exact z;cases a
theorem Vj (os:Os) (args:Array Value):laidMetH Tryz.prog zh ((World.doorLaid Tryz.prog 400 os).forCall (fun _ _=>0) ⟨#[],args,[]⟩).memory :=
 laidMetH_of_parts3 (fuel:=8) (laidMet_of_run' 8 ab ab) ab ab
