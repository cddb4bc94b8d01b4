import Derived.Test.YtofofalgjibokaaGreatDoorMLrhPC
set_option maxRecDepth 100000
noncomputable section
open Go Go.Eng Go.RowKit Cr
open List(drop length mem_cons mem_map range replicate take)
open Nat(beq ble blt)
open Int(toNat)
namespace Go.Proofs.YtofofalgjibokaaGreatDoor
namespace poly
open Go.IntKind(i64)
theorem ZC:enters Tryz.prog 49 Tryz.f49:=ek
def Hu (x:Int) (s:Fp × Fp):Fp × Fp:=if x<0 then g1.BW (g1.sL s (js x)) else g1.sL s (js x)
def lV (x:Int):List (Fp × Fp)->Fp × Fp
 | []=>(0,0)
 | p::l=>g1.n8 (Hu x (lV x l)) p
abbrev Cl:HL [.sl aN,.int .i64]->Prop:=fun (c,x,_)=>length c<4611686018427387904/\fh x
abbrev LX:HL [.sl aN,.int .i64]->HO [.val aN]:=fun (c,x,_)=>(lV x c,())
def Ei (c:List (Fp × Fp)) (x:Int) (g:Int × (Fp × Fp)):St:=ar Tryz.f49.ntmps 72 [(0,.is (.one (.ro aN c))),(1,sI .i64 x),(4,.is (.one (.ptr 0 0))),(5,.is (.one (.sl 16 0 0 (js x).length 1))),(6,.is (.one (.ptr 32 0))),(7,sI .i64 g.1)] [(0,g1.pc (0,0)),(16,[.ints .u8 (js x).length (js x)]),(32,g1.pc g.2)]
def UY (c:List (Fp × Fp)) (x:Int) (g:Int × (Fp × Fp)):Prop:=∃ k:Nat,k<=c.length/\g.1=(k:Int)-1/\g.2=lV x (c.drop k)
def abZ (c:List (Fp × Fp)) (x:Int) (g:Int × (Fp × Fp)):Prop:=g.2=lV x c
theorem NV {x:Int} (b:fh x):Bs (js x)/\(js x).length<=8/\num (js x)=e9 x:=by have a:=G1 b;have h:=Kw a.1 (show e9 x<bC 8 from Int.lt_of_le_of_lt a.2 ae) 8 ae;refine⟨h.1,h.2.1,?_⟩;rw[show num (js x)=e9 x/bC (8-8) from h.2.2];exact Int.ediv_one _
theorem SD:aL Tryz.prog 49 [.sl aN,.int .i64] [.val aN] bx Cl LX:=by
 have a:aD Tryz.prog (aP [vk,g1.Pm,g1.YU,g1.J8]):=(aJ (aM sF) (aJ (aM g1.VV) (aJ (aM g1.ac2) (aJ (aM g1.SK) bp))));refine bI (sp:=aP [vk,g1.Pm,g1.YU,g1.J8]) ZC ae ae ab ?_;rintro w z ⟨c,x,⟨⟩⟩;revert c x;intro (c:List (Fp × Fp)) (x:Int) _ y;obtain⟨p,q⟩:=y;have p:c.length<4611686018427387904:=p;show Tr _ _ _ _ _ _ _;obtain⟨r,A,C⟩:=NV q;have t:i64.wrap ((c.length:Int)-1)=(c.length:Int)-1:=ba aa aa;refine bd a mixed 4 (Ei c x (i64.wrap ((c.length:Int)-1),(0,0))) True ?_ (fun _=>?_);refine al (X:=(p9 (x,())/\(Ei c x (i64.wrap ((c.length:Int)-1),(0:Fp),(0:Fp))).ag True)) ab ?_;exact⟨q,ao trivial⟩;refine cd a mixed h9 (fun f=>(bg (.int .i64) 7 f,pP aN 32 f)) (Ei c x) (UY c x) (fun g=>(g.1+1).toNat)
  (fun f=>(bg (.int .i64) 7 f,pP aN 32 f)) (Ei c x) (abZ c x) (i64.wrap ((c.length:Int)-1),(0,0)) (c:=aq (ak Tryz.f49) 4) ab ab (aw ab ab ?_) ?_ ?_
 refine⟨c.length,aE _,t,?_⟩;show (0,0)=_;rw[oC];rfl
 ·rintro⟨i,s⟩ m;revert i s;intro (i:Int) (s:Fp × Fp) ⟨k,D,n,d⟩;have n:i=(k:Int)-1:=n;have d:s=lV x (c.drop k):=d;refine al (X:=((decide (i>=0)=true->0+(js x).length<=(js x).length/\g1.dA (s,take (js x).length (js x),())/\(decide (x<0)=true->True/\(0<=i/\i<(c.length:Int))/\i.toNat<c.length/\True/\(Ei c x (i64.wrap (i-1),g1.n8 (g1.BW (g1.sL s (take (js x).length (js x)))) (c.getD i.toNat ((0:Fp),(0:Fp))))).ag (UY c x (i64.wrap (i-1),g1.n8 (g1.BW (g1.sL s (take (js x).length (js x)))) (c.getD i.toNat ((0:Fp),(0:Fp))))/\toNat (i64.wrap (i-1)+(1:aA (Kd.int i64)))<toNat (i+(1:aA (Kd.int i64)))))/\(decide (x<0)=false->(0<=i/\i<(c.length:Int))/\i.toNat<c.length/\True/\(Ei c x (i64.wrap (i-1),g1.n8 (g1.sL s (take (js x).length (js x))) (c.getD i.toNat ((0:Fp),(0:Fp))))).ag (UY c x (i64.wrap (i-1),g1.n8 (g1.sL s (take (js x).length (js x))) (c.getD i.toNat ((0:Fp),(0:Fp))))/\toNat (i64.wrap (i-1)+(1:aA (Kd.int i64)))<toNat (i+(1:aA (Kd.int i64))))))/\(decide (i>=0)=false->(Ei c x (i,s)).ag (abZ c x (i,s))))) ab ?_;have pt:g1.dA (s,(js x).take (js x).length,()):=by rw[aV];exact⟨r,by show (js x).length<_;omega⟩
  refine⟨fun h=>?_,fun h=>ao ?_⟩
  ·have h:i>=0:=Odt h;have l:i=((k-1:Nat):Int):=aa;have e:k-1<c.length:=aa;have o:c.drop (k-1)=c[k-1]::c.drop k:=by
    rw[lS e,show k-1+1=k by omega]
   have u:c.getD i.toNat (0,0)=c[k-1]:=by rw[l,aB,aX,bz e,ct]
   have j:i64.wrap (i-1)=i-1:=ba aa aa;rw[j,u];rw[aV] at pt ⊢;refine⟨aa,pt,fun b=>⟨trivial,⟨h,aa⟩,aa,trivial,ao ⟨⟨k-1,aa,by show i-1=_;omega,?_⟩,by show (i-1+1).toNat<(i+1).toNat;omega⟩⟩,fun b=>⟨⟨h,aa⟩,aa,trivial,ao ⟨⟨k-1,aa,by show i-1=_;omega,?_⟩,by show (i-1+1).toNat<(i+1).toNat;omega⟩⟩⟩;show g1.n8 _ _=lV x (c.drop (k-1));rw[o,lV,Hu,aj (Odt b),d];show g1.n8 _ _=lV x (c.drop (k-1));rw[o,lV,Hu,ah (Odf b),d]
  have h:¬ i>=0:=Odf h;have:k=0:=aa;subst this;exact d
 rintro⟨i,s⟩ m;revert i s;intro (i:Int) (s:Fp × Fp) (m:s=lV x c);refine bE a mixed _ _ ?_;refine al (X:=((s,())=LX (c,x,()))) ab ?_;rw[m]
def RC:Nat × Eng.Spec:=(49,aH [.sl aN,.int .i64] [.val aN] Cl LX)
theorem Vh:enters Tryz.prog 21 Tryz.f21:=ek
def HH (c:List (Fp × Fp)) (x:Int) (s:Fr):Bool:=decide (g1.cV g1.gG s=lV x c)
abbrev vi:HL [.sl aN,.int .i64,.fr]->Prop:=fun (c,x,_,_)=>length c<4611686018427387904/\fh x
abbrev OU:HL [.sl aN,.int .i64,.fr]->HO [.val .bool]:=fun (c,x,s,_)=>(HH c x s,())
theorem ZX:aL Tryz.prog 21 [.sl aN,.int .i64,.fr] [.val .bool] bx vi OU:=by refine a8 (sp:=aP [g1.J9,g1.Ds,RC]) (aJ (aM g1.K0) (aJ (aM g1.FQ) (aJ (aM SD) bp))) mixed Vh ae ae ?_;rintro w b ⟨c,x,s,⟨⟩⟩;revert c x s;intro (c:List (Fp × Fp)) (x:Int) (s:Fr) _ a;refine al (X:=(True/\True/\Cl (c,x,())/\(mC (Kd.fp.pair Kd.fp) (g1.cV g1.gG s) (lV x c),())=OU (c,x,s,()))) ab ?_;rw[eqP];exact⟨trivial,trivial,a,rfl⟩
theorem vv:enters Tryz.prog 115 Tryz.f115:=ek
def EP (c d:List (Fp × Fp)) (k i:Nat):Fp × Fp:=if i<k then g1.n8 (c.getD i (0,0)) (d.getD i (0,0)) else c.getD i (0,0)
def jL (c d:List (Fp × Fp)) (k:Nat):List (Fp × Fp):=(range (max c.length d.length)).map (EP c d k)
def iz (c d:List (Fp × Fp)):List (Fp × Fp):=jL c d d.length
theorem Q5 {c d:List (Fp × Fp)} {k:Nat} (h:k<d.length):(jL c d k).set k (g1.n8 ((jL c d k).getD k (0,0)) (d.getD k (0,0)))=jL c d (k+1):=by
 have b:k<max c.length d.length:=aa;have a:(jL c d k).getD k (0,0)=c.getD k (0,0):=by simp[jL,EP,b]
 rw[a];refine mQ (by simp[jL]) fun i f g=>?_;rw[List.getElem_set];split;rename_i e;subst e;simp[jL,EP];rename_i e;have:(i<k)↔(i<k+1):=aa;simp[jL,EP,this]
abbrev Dh:HL [.sl aN,.sl aN]->Prop:=fun (c,d,_)=>length c<1048576/\length d<1048576
abbrev mJ:HL [.sl aN,.sl aN]->HO [.own aN]:=fun (c,d,_)=>(iz c d,())
def O1 (d:List (Fp × Fp)) (m:Nat) (g:Int × List (Fp × Fp)):St:=ar Tryz.f115.ntmps 112 [(5,.is (.one (.sl 48 0 0 m 12))),(17,.is (.one (.ro aN d))),(18,sI .i64 d.length),(19,sI .i64 g.1)] [(48,[.row aN m g.2])]
def plJ (c d:List (Fp × Fp)) (g:Int × List (Fp × Fp)):Prop:=∃ k:Nat,k<=d.length/\g.1=(k:Int)/\g.2=jL c d k
def plO (c d:List (Fp × Fp)) (g:Int × List (Fp × Fp)):Prop:=g.2=iz c d
theorem afN (c d:List (Fp × Fp)):take (Nat.min c.length (max c.length d.length)) c++drop (Nat.min c.length (max c.length d.length)) (replicate (max c.length d.length) ((0:Fp),(0:Fp)))=jL c d 0:=by have e:Nat.min c.length (max c.length d.length)=c.length:=iY aa;rw[e,aV,List.drop_replicate];refine mQ (by simp[jL];omega) fun i b f=>?_;simp only[jL,EP,wN,Bc,wQ,dT];by_cases a:i<c.length;rw[List.getElem_append_left a];simp[a];rw[List.getElem_append_right aa];simp[a]
theorem sG:aL Tryz.prog 115 [.sl aN,.sl aN] [.own aN] bx Dh mJ:=by
 have b:aD Tryz.prog (aP [g1.J8]):=(aJ (aM g1.SK) bp);refine bI (sp:=aP [g1.J8]) vv ae ae ab ?_;rintro w t ⟨c,d,⟨⟩⟩;revert c d;intro (c:List (Fp × Fp)) (d:List (Fp × Fp)) _ s;obtain⟨p,j⟩:=s;have p:c.length<1048576:=p;have j:d.length<1048576:=j;show Tr _ _ _ _ _ _ _;have o:(if (d.length:Int)>(c.length:Int) then (d.length:Int) else (c.length:Int))=((max c.length d.length:Nat):Int):=by split<;>omega
 refine jO b mixed 4 (fun e=>cU aN 48 e) (fun l=>O1 d (if (d.length:Int)>(c.length:Int) then (d.length:Int) else (c.length:Int)).toNat (0,l)) (fun l=>l=jL c d 0) ?_ ?_;refine al (X:=(((0<=if (d.length:Int)>(c.length:Int) then (d.length:Int) else (c.length:Int))/\((if (d.length:Int)>(c.length:Int) then (d.length:Int) else (c.length:Int))<=if (d.length:Int)>(c.length:Int) then (d.length:Int) else (c.length:Int))/\((↑(96:Nat):Int)*if (d.length:Int)>(c.length:Int) then (d.length:Int) else (c.length:Int))<=281474976710656/\(if (d.length:Int)>(c.length:Int) then (d.length:Int) else (c.length:Int))<=9223372036854775807)/\0+(if (d.length:Int)>(c.length:Int) then (d.length:Int) else (c.length:Int)).toNat<=(if (d.length:Int)>(c.length:Int) then (d.length:Int) else (c.length:Int)).toNat/\(O1 d (if (d.length:Int)>(c.length:Int) then (d.length:Int) else (c.length:Int)).toNat (0,take 0 (replicate (if (d.length:Int)>(c.length:Int) then (d.length:Int) else (c.length:Int)).toNat ((0:Fp),(0:Fp)))++(take (c.length.min (if (d.length:Int)>(c.length:Int) then (d.length:Int) else (c.length:Int)).toNat) c++drop (0+c.length.min (if (d.length:Int)>(c.length:Int) then (d.length:Int) else (c.length:Int)).toNat) (replicate (if (d.length:Int)>(c.length:Int) then (d.length:Int) else (c.length:Int)).toNat ((0:Fp),(0:Fp)))))).ag (take 0 (replicate (if (d.length:Int)>(c.length:Int) then (d.length:Int) else (c.length:Int)).toNat ((0:Fp),(0:Fp)))++(take (c.length.min (if (d.length:Int)>(c.length:Int) then (d.length:Int) else (c.length:Int)).toNat) c++drop (0+c.length.min (if (d.length:Int)>(c.length:Int) then (d.length:Int) else (c.length:Int)).toNat) (replicate (if (d.length:Int)>(c.length:Int) then (d.length:Int) else (c.length:Int)).toNat ((0:Fp),(0:Fp))))=jL c d 0))) ab ?_;rw[o,aB];refine⟨⟨aa,aa,aa,aa⟩,aa,ao ?_⟩;rw[tK,dH,bH];exact afN c d;rintro l rfl;rw[o,aB];refine cd b mixed h9 (fun e=>(bg (.int .i64) 19 e,cU aN 48 e)) (O1 d (max c.length d.length)) (plJ c d) (fun g=>d.length-g.1.toNat)
  (fun e=>(bg (.int .i64) 19 e,cU aN 48 e)) (O1 d (max c.length d.length)) (plO c d) (0,jL c d 0) (c:=aq (ak Tryz.f115) 4) ab ab (aw ab ab ?_) ?_ ?_
 exact⟨0,a2 _,rfl,rfl⟩
 ·rintro⟨i,l⟩ n;revert i l;intro (i:Int) (l:List (Fp × Fp)) ⟨k,u,m,q⟩;have m:i=(k:Int):=m;have kl:l=jL c d k:=q;subst m;generalize r:max c.length d.length=f at *;refine al (X:=((decide ((k:Int)<(d.length:Int))=true->(0<=(k:Int)/\(k:Int)<(d.length:Int))/\(k:Int).toNat<d.length/\(0<=(k:Int)/\(k:Int)<(f:Int))/\(k:Int).toNat<f/\True/\(0<=(k:Int)/\(k:Int)<(f:Int))/\(k:Int).toNat<f/\(O1 d f (i64.wrap ((k:Int)+1),l.set (k:Int).toNat (g1.n8 (l.getD (k:Int).toNat ((0:Fp),(0:Fp))) (d.getD (k:Int).toNat ((0:Fp),(0:Fp)))))).ag (plJ c d (i64.wrap ((k:Int)+1),l.set (k:Int).toNat (g1.n8 (l.getD (k:Int).toNat ((0:Fp),(0:Fp))) (d.getD (k:Int).toNat ((0:Fp),(0:Fp)))))/\d.length-(i64.wrap ((k:Int)+1)).toNat<d.length-(k:Int).toNat))/\(decide ((k:Int)<(d.length:Int))=false->(O1 d f ((k:Int),l)).ag (plO c d ((k:Int),l))))) ab ?_;rw[aB];refine⟨fun h=>?_,fun h=>ao ?_⟩
  ·have a:k<d.length:=by have:=dec_lt h;omega
   rw[aS aa];refine⟨⟨aa,aa⟩,a,⟨aa,aa⟩,aa,trivial,⟨aa,aa⟩,aa,ao ⟨⟨k+1,a,rfl,?_⟩,?_⟩⟩;show l.set k _=_;rw[kl,Q5 a];show d.length-((k+1:Nat):Int).toNat<d.length-(k:Int).toNat;rw[aB,aB];omega
  ·have:k=d.length:=by have:=bW h;omega
   show l=iz c d;rw[kl,this];rfl
 rintro⟨i,l⟩ n;revert i l;intro (i:Int) (l:List (Fp × Fp)) (n:l=iz c d);refine bE b mixed _ _ ?_;refine al (X:=(0+max c.length d.length<=max c.length d.length/\(take (max c.length d.length) l,())=mJ (c,d,()))) ab ?_;refine⟨aa,?_⟩;show (_,())=(iz c d,());rw[n,bQ (by simp[iz,jL])]
def um:Nat × Eng.Spec:=(115,aH [.sl aN,.sl aN] [.own aN] Dh mJ)
theorem Nh:enters Tryz.prog 157 Tryz.f157:=ek
def q6 (seen:List Int):List Int->Int
 | []=>0
 | x::a=>if x<1\/x>9 then 34 else if x∈seen then 33 else q6 (x::seen) a
def uM (a:List Int) (x:Int):Fr:=eS (wgt (a.map fun y=>(zm y:Fr)) (zm x))
def pW (a:List Int):List Fr:=if q6 [] a=0 then a.map (uM a) else []
abbrev zX:HL [.sl (.int .i64)]->Prop:=fun (a,_)=>length a<4611686018427387904/\∀ x∈(a:List Int),fh x
abbrev pA:HL [.sl (.int .i64)]->HO [.own .fr,.val (.int .i64)]:=fun (a,_)=>(pW a,q6 [] a,())
def GP (done:List Int):List Bool:=(range 10).map fun (v:Nat)=>decide ((v:Int)∈done)
def Y7 (a:List Int) (g:Int × List Bool):St:=ar Tryz.f157.ntmps 48 [(0,.is (.one (.ro (.int .i64) a))),(2,.is (.one (.v (.slice none 0 0)))),(3,sI .i64 0),(4,.is (.one (.ptr 16 0))),(14,.is (.one (.ro (.int .i64) a))),(15,sI .i64 a.length),(16,sI .i64 g.1)] [(16,[.row .bool 10 g.2])]
def w1J (a:List Int) (g:Int × List Bool):Prop:=∃ k:Nat,k<=a.length/\g.1=(k:Int)/\g.2=GP (a.take k).reverse/\q6 [] a=q6 (a.take k).reverse (a.drop k)
def w1O (a:List Int):St:=ar Tryz.f157.ntmps 48 [(0,.is (.one (.ro (.int .i64) a))),(2,.is (.one (.v (.slice none 0 0)))),(3,sI .i64 0)] []
theorem abj {l:List Int} {x:Int} (a:0<=x) (b:x<10):(GP l).getD x.toNat false=decide (x∈l):=by obtain⟨n,rfl⟩:=jQ a;have:n<10:=aa;simp[GP,this]
theorem abk {l:List Int} {x:Int} (a:0<=x) (b:x<10):(GP l).set x.toNat true=GP (x::l):=by
 obtain⟨n,rfl⟩:=jQ a;refine mQ (by simp[GP]) fun i d f=>?_;rw[List.getElem_set];split
 ·rename_i e;have e:n=i:=by simpa using e
  subst e;simp[GP]
 ·rename_i e;have e:¬ (i:Int)=(n:Int):=by simp at e;omega
  simp[GP,e]
def Ea (a:List Int) (g:Int × List Fr):St:=ar Tryz.f157.ntmps 104 [(0,.is (.one (.ro (.int .i64) a))),(2,.is (.one (.v (.slice none 0 0)))),(3,sI .i64 0),(7,.is (.one (.sl 64 0 0 (a.length:Int).toNat 4))),(35,.is (.one (.ro (.int .i64) a))),(36,sI .i64 a.length),(37,sI .i64 g.1)] [(64,[.row .fr (a.length:Int).toNat g.2])]
def w2J (a:List Int) (g:Int × List Fr):Prop:=∃ k:Nat,k<=a.length/\g.1=(k:Int)/\g.2=(a.take k).map (uM a)++replicate (a.length-k) 0
def w2O (a:List Int) (g:Int × List Fr):Prop:=g.2=a.map (uM a)
theorem L6:∀ {a seen:List Int},q6 seen a=0->(∀ x∈a,(1<=x/\x<=9)/\x∉seen)/\a.Nodup
 | [],_,_=>⟨(fun _ h=>nomatch h),List.nodup_nil⟩
 | x::a,seen,h=>by unfold q6 at h;split at h;cases h;rename_i i;split at h;cases h;rename_i d;obtain⟨b,e⟩:=L6 h;refine⟨fun y hy=>?_,List.nodup_cons.2 ⟨fun g=>(b x g).2 au,e⟩⟩;rcases mem_cons.1 hy with rfl|hy;exact⟨aa,d⟩;exact⟨(b y hy).1,fun f=>(b y hy).2 (by simp[f])⟩
theorem ud:∀ (n:Nat) {xs:List Int},xs.Nodup->(∀ x∈xs,1<=x/\x<=(n:Int))->xs.length<=n
 | 0,xs,_,h=>by
  cases xs with
  | nil=>exact aE _
  | cons a l=>have:=h a au;omega
 | n+1,xs,f,h=>by
  have e:=ud n (xs:=xs.erase ((n+1:Nat):Int)) (f.erase _) (fun x j=>by
   have d:=(List.Nodup.mem_erase_iff f).1 j;have:=h x d.2;have g:=d.1
   omega)
  by_cases d:((n+1:Nat):Int)∈xs;rw[A2 d] at e;omega;rw[List.erase_of_not_mem d] at e;omega
theorem aaX {a:List Int} (h:q6 [] a=0):a.length<=9:=by obtain⟨b,d⟩:=L6 h;exact ud 9 d fun x e=>(b x e).1
theorem abH {x y:Int} (a:1<=x/\x<=9) (b:1<=y/\y<=9) (h:(zm x:Fr)=zm y):x=y:=by have h:x%Mr=y%Mr:=congrArg Zm.v h;rw[dd aa (by unfold Mr;omega),dd aa (by unfold Mr;omega)] at h;exact h
theorem ES {F:Type} [Rg F]:∀ (l:List F) (a:F),Gs (l++[a])=Gs l*a
 | [],a=>by show a*1=1*a;rw[Rg.mul_comm]
 | b::l,a=>by show b*Gs (l++[a])=b*Gs l*a;rw[ES l a,Rg.mul_assoc]
def Jn (a:List Int) (x:Int):List Int:=a.filter fun y=>decide (y≠x)
def Fo (a:List Int) (x:Int):Fr:=Gs ((Jn a x).map fun y=>(zm y:Fr))
def Ft (a:List Int) (x:Int):Fr:=Gs ((Jn a x).map fun y=>(zm (y-x):Fr))
theorem zN (a:List Int) (x y:Int):Jn (a++[y]) x=if y=x then Jn a x else Jn a x++[y]:=by unfold Jn;rw[qz];by_cases h:y=x<;>simp[h]
theorem afe {b:List Int} (h:∀ x∈b,1<=x/\x<=9) {x:Int} (f:x∈b):uM b x=Fo b x*fr.sf (Ft b x):=by
 have e:(b.map fun y=>(zm y:Fr)).filter (fun y=>decide (y≠zm x))=(Jn b x).map fun y=>(zm y:Fr):=by rw[List.filter_map,Jn];congr 1;refine List.filter_congr fun y g=>?_;simp only[Function.comp,ne_eq];by_cases a:y=x;simp[a];have:¬ (zm y:Fr)=zm x:=fun e=>a (abH (h y g) (h x f) e);simp[a,this]
 rw[uM,bf,wgt,e,lx];have d:(fun y:Fr=>y-zm x)∘(fun y=>(zm y:Fr))=fun y=>(zm (y-x):Fr):=by funext y;simp only[Function.comp,CP]
 rw[d];rfl
def MW (a:List Int) (k:Nat) (x:Int) (l:List Fr) (g:Int × Fr × Fr):St:=ar Tryz.f157.ntmps 216 [(0,.is (.one (.ro (.int .i64) a))),(2,.is (.one (.v (.slice none 0 0)))),(3,sI .i64 0),(7,.is (.one (.sl 64 0 0 (a.length:Int).toNat 4))),(8,sI .i64 k),(9,sI .i64 x),(10,.is (.one (.ptr 160 0))),(11,.is (.one (.ptr 168 0))),(35,.is (.one (.ro (.int .i64) a))),(36,sI .i64 a.length),(37,sI .i64 k),(44,.is (.one (.ro (.int .i64) a))),(45,sI .i64 a.length),(46,sI .i64 g.1)] [(64,[.row .fr (a.length:Int).toNat l]),(160,[.row .fr 1 [g.2.1]]),(168,[.row .fr 1 [g.2.2]])]
def w3J (a:List Int) (x:Int) (g:Int × Fr × Fr):Prop:=∃ j:Nat,j<=a.length/\g.1=(j:Int)/\g.2.1=Fo (a.take j) x/\g.2.2=Ft (a.take j) x
def w3O (a:List Int) (x:Int) (g:Int × Fr × Fr):Prop:=g.2.1=Fo a x/\g.2.2=Ft a x
theorem Qu:aL Tryz.prog 157 [.sl (.int .i64)] [.own .fr,.val (.int .i64)] bx zX pA:=by
 have p:aD Tryz.prog (aP [fr.ta,fr.kq,Ak,fr.Ka]):=(aJ (aM fr.ti) (aJ (aM fr.nM) (aJ (aM I2) (aJ (aM fr.KS) bp))));refine bI (sp:=aP [fr.ta,fr.kq,Ak,fr.Ka]) Nh ae ae ab ?_;rintro w M0 ⟨d,⟨⟩⟩;revert d;intro (d:List Int) _ hp;obtain⟨V,H⟩:=hp;have V:d.length<4611686018427387904:=V;have H:∀ x∈d,fh x:=H;show Tr _ _ _ _ _ _ _;refine bd p mixed 3 (Y7 d (0,replicate 10 false)) True ?_ (fun _=>?_);refine al (X:=((Y7 d (0,replicate 10 false)).ag True)) ab ?_;exact ao trivial;refine cd p mixed h9 (fun q=>(bg (.int .i64) 16 q,cU .bool 16 q)) (Y7 d) (w1J d) (fun g=>d.length-g.1.toNat)
  (fun _=>()) (fun _=>w1O d) (fun _=>q6 [] d=0) (0,replicate 10 false) (c:=aq (ak Tryz.f157) 3) ab ab (aw ab ab ?_) ?_ ?_
 exact⟨0,a2 _,rfl,rfl,rfl⟩
 ·rintro⟨i,l⟩ C;revert i l;intro (i:Int) (l:List Bool) ⟨k,hk,u,N,r⟩;have u:i=(k:Int):=u;have kl:l=GP (d.take k).reverse:=N;subst u;refine al (X:=((decide ((k:Int)<(d.length:Int))=true->(0<=(k:Int)/\(k:Int)<(d.length:Int))/\(k:Int).toNat<d.length/\(decide (d.getD (k:Int).toNat (0:Int)<1)=true->([],34,())=pA (d,()))/\(decide (d.getD (k:Int).toNat (0:Int)<1)=false->(decide (d.getD (k:Int).toNat (0:Int)>9)=true->([],34,())=pA (d,()))/\(decide (d.getD (k:Int).toNat (0:Int)>9)=false->(0<=d.getD (k:Int).toNat 0/\d.getD (k:Int).toNat 0<(↑(10:Nat):Int))/\(d.getD (k:Int).toNat 0).toNat<10/\(l.getD (d.getD (k:Int).toNat 0).toNat false=true->([],33,())=pA (d,()))/\(l.getD (d.getD (k:Int).toNat 0).toNat false=false->(0<=d.getD (k:Int).toNat 0/\d.getD (k:Int).toNat 0<(↑(10:Nat):Int))/\(d.getD (k:Int).toNat 0).toNat<10/\(Y7 d (i64.wrap ((k:Int)+1),l.set (d.getD (k:Int).toNat 0).toNat true)).ag (w1J d (i64.wrap ((k:Int)+1),l.set (d.getD (k:Int).toNat 0).toNat true)/\d.length-(i64.wrap ((k:Int)+1)).toNat<d.length-(k:Int).toNat)))))/\(decide ((k:Int)<(d.length:Int))=false->(w1O d).ag (q6 [] d=0)))) ab ?_;rw[aB];refine⟨fun h=>?_,fun h=>ao ?_⟩
  ·have f:k<d.length:=by have:=dec_lt h;omega
   have Z:d.drop k=d[k]::d.drop (k+1):=lS f;have hg:d.getD k 0=d[k]:=by rw[aX,bz f,ct]
   rw[hg,aS aa];have W:(d.take (k+1)).reverse=d[k]::(d.take k).reverse:=by rw[cr f,List.reverse_append];rfl
   rw[Z] at r;generalize d[k]=x at *;refine⟨⟨aa,aa⟩,f,fun A=>?_,fun A=>⟨fun m=>?_,fun m=>?_⟩⟩;have A:x<1:=Odt A;show _=(pW d,q6 [] d,());rw[q6,aj (.inl A)] at r;rw[pW,r];rfl;have m:x>9:=Odt m;show _=(pW d,q6 [] d,());rw[q6,aj (.inr m)] at r;rw[pW,r];rfl
   ·have A:¬ x<1:=Odf A;have m:¬ x>9:=Odf m;rw[q6,ah aa] at r;have hm:l.getD x.toNat false=decide (x∈(d.take k).reverse):=by
     rw[kl];exact abj aa aa
    rw[hm];refine⟨⟨aa,aa⟩,aa,fun O=>?_,fun O=>⟨⟨aa,aa⟩,aa,ao ⟨⟨k+1,f,rfl,?_,?_⟩,?_⟩⟩⟩;rw[aj (Odt O)] at r;show _=(pW d,q6 [] d,());rw[pW,r];rfl;show l.set x.toNat true=_;rw[kl,abk aa aa,W];rw[ah (Odf O)] at r;rw[r,W];show d.length-((k+1:Nat):Int).toNat<d.length-(k:Int).toNat;rw[aB,aB];omega
  ·have:k=d.length:=by have:=bW h;omega
   rw[this,oC] at r;exact r
 rintro⟨⟩ z;have z:q6 [] d=0:=z;have x0:d.length<=9:=aaX z;refine bd p mixed 2 (Ea d (0,replicate (d.length:Int).toNat 0)) True ?_ (fun _=>?_);refine al (X:=((0<=(d.length:Int)/\(d.length:Int)<=(d.length:Int)/\(↑(32:Nat):Int)*(d.length:Int)<=281474976710656/\(d.length:Int)<=9223372036854775807)/\(Ea d (0,replicate (d.length:Int).toNat (0:Fr))).ag True)) ab ?_;exact⟨⟨aa,aa,aa,aa⟩,ao trivial⟩;refine pg h9 (fun q=>(bg (.int .i64) 37 q,cU .fr 64 q)) (Ea d) (w2J d) (fun g=>d.length-g.1.toNat)
  (fun q=>(bg (.int .i64) 37 q,cU .fr 64 q)) (Ea d) (w2O d) (0,replicate (d.length:Int).toNat 0) (c:=aq (ak Tryz.f157) 6) ab ab (aw ab ab ?_) ?_ ?_
 exact⟨0,a2 _,rfl,au⟩
 ·rintro⟨i,l⟩ C;revert i l;intro (i:Int) (l:List Fr) ⟨k,hk,u,N⟩;have u:i=(k:Int):=u;have kl:l=(d.take k).map (uM d)++replicate (d.length-k) 0:=N;subst u;refine bd p mixed 2 (Ea d ((k:Int),l)) (k<d.length) ?_ (fun f=>?_)
  ·refine al (X:=((decide ((k:Int)<(d.length:Int))=true->(Ea d ((k:Int),l)).ag (k<d.length))/\(decide ((k:Int)<(d.length:Int))=false->(Ea d ((k:Int),l)).ag (w2O d ((k:Int),l))))) ab ?_;refine⟨fun h=>ao (by have:=dec_lt h;omega),fun h=>ao ?_⟩;have:k=d.length:=by have:=bW h;omega
   show l=_;rw[kl,this,aV,oH];exact bq _
  refine mf (c:=aq (aZ (aq (ak Tryz.f157) 6)) 2) ab ab ?_;have G:d[k]∈d:=dx f;obtain⟨s,_⟩:=L6 z;have s:∀ x∈d,1<=x/\x<=9:=fun x H=>(s x H).1;have P:d.getD k 0=d[k]:=by rw[aX,bz f,ct]
  generalize R:d[k]=x at *;refine bd p mixed 3 (MW d k (d.getD (k:Int).toNat 0) l (0,zm 1,zm 1)) True ?_ (fun _=>?_);refine al (X:=((0<=(k:Int)/\(k:Int)<(d.length:Int))/\(k:Int).toNat<d.length/\gQ 1/\gQ 1/\(MW d k (d.getD (k:Int).toNat 0) l (0,jj 1,jj 1)).ag True)) ab ?_;exact⟨⟨aa,aa⟩,aa,⟨ae,ae⟩,⟨ae,ae⟩,ao trivial⟩;rw[aB,P];refine cd p mixed h9 (fun q=>(bg (.int .i64) 46 q,pP .fr 160 q,pP .fr 168 q)) (MW d k x l) (w3J d x) (fun g=>d.length-g.1.toNat)
   (fun q=>(bg (.int .i64) 46 q,pP .fr 160 q,pP .fr 168 q)) (MW d k x l) (w3O d x) (0,zm 1,zm 1) (c:=aq (da (aq (aZ (aq (ak Tryz.f157) 6)) 2)) 3) ab ab (aw ab ab ?_) ?_ ?_
  exact⟨0,a2 _,rfl,rfl,rfl⟩
  ·rintro⟨j,a,b⟩ C;revert j a b;intro (j:Int) (a:Fr) (b:Fr) ⟨n,hn,L,I,K⟩;have L:j=(n:Int):=L;have D:a=Fo (d.take n) x:=I;have E:b=Ft (d.take n) x:=K;subst L;refine al (X:=((decide ((n:Int)<(d.length:Int))=true->(0<=(n:Int)/\(n:Int)<(d.length:Int))/\(n:Int).toNat<d.length/\((d.getD (n:Int).toNat 0 != x)=true->p9 (d.getD (n:Int).toNat 0,())/\True/\p9 (i64.wrap (d.getD (n:Int).toNat 0-x),())/\True/\(MW d k x l (i64.wrap ((n:Int)+1),a*r6 (d.getD (n:Int).toNat 0),b*r6 (i64.wrap (d.getD (n:Int).toNat 0-x)))).ag (w3J d x (i64.wrap ((n:Int)+1),a*r6 (d.getD (n:Int).toNat 0),b*r6 (i64.wrap (d.getD (n:Int).toNat 0-x)))/\d.length-(i64.wrap ((n:Int)+1)).toNat<d.length-(n:Int).toNat))/\((d.getD (n:Int).toNat 0 != x)=false->(MW d k x l (i64.wrap ((n:Int)+1),a,b)).ag (w3J d x (i64.wrap ((n:Int)+1),a,b)/\d.length-(i64.wrap ((n:Int)+1)).toNat<d.length-(n:Int).toNat)))/\(decide ((n:Int)<(d.length:Int))=false->(MW d k x l ((n:Int),a,b)).ag (w3O d x ((n:Int),a,b))))) ab ?_;rw[aB];refine⟨fun h=>?_,fun h=>ao ?_⟩
   ·have o:n<d.length:=by have:=dec_lt h;omega
    have Q:d.getD n 0=d[n]:=by rw[aX,bz o,ct]
    have T:d[n]∈d:=dx o;have t:d.take (n+1)=d.take n++[d[n]]:=cr o;rw[Q,aS aa];generalize d[n]=y at *;have x2:=s y T;have x1:=s x G;have U:i64.wrap (y-x)=y-x:=ba aa aa;rw[U];have F:d.length-((n+1:Nat):Int).toNat<d.length-(n:Int).toNat:=by rw[aB,aB];omega
    refine⟨⟨aa,aa⟩,o,fun m=>⟨⟨aa,aa⟩,trivial,⟨aa,aa⟩,trivial,ao ⟨⟨n+1,o,rfl,?_,?_⟩,F⟩⟩,fun m=>ao ⟨⟨n+1,o,rfl,?_,?_⟩,F⟩⟩
    ·have m:¬ y=x:=by simpa using m
     show a*r6 y=Fo (d.take (n+1)) x;rw[t,Fo,zN,ah m,de,eI,tP,ES,D,yR];rfl
    ·have m:¬ y=x:=by simpa using m
     show b*r6 (y-x)=Ft (d.take (n+1)) x;rw[t,Ft,zN,ah m,de,eI,tP,ES,E,yR];rfl
    ·have m:y=x:=by simpa using m
     show _=Fo (d.take (n+1)) x;rw[t,Fo,zN,aj m,D];rfl
    ·have m:y=x:=by simpa using m
     show _=Ft (d.take (n+1)) x;rw[t,Ft,zN,aj m,E];rfl
   ·have:n=d.length:=by have:=bW h;omega
    rw[this,aV] at D E;exact⟨D,E⟩
  rintro⟨j,a,b⟩ C;revert j a b;intro (j:Int) (a:Fr) (b:Fr) ⟨I,K⟩;have D:a=Fo d x:=I;have E:b=Ft d x:=K;refine bd p mixed 1 (Ea d ((k:Int),l.set k (a*fr.sf b))) True ?_ (fun _=>?_);refine al (X:=(True/\True/\(0<=(k:Int)/\(k:Int)<(↑(d.length:Int).toNat:Int))/\(k:Int).toNat<(d.length:Int).toNat/\(Ea d ((k:Int),l.set k (a*fr.sf b))).ag True)) ab ?_;exact⟨trivial,trivial,⟨aa,aa⟩,aa,ao trivial⟩;refine ke ?_;refine bE p mixed _ _ ?_;refine al (X:=((Ea d (i64.wrap ((k:Int)+1),l.set k (a*fr.sf b))).ag (w2J d (i64.wrap ((k:Int)+1),l.set k (a*fr.sf b))/\d.length-(i64.wrap ((k:Int)+1)).toNat<d.length-k))) ab ?_;rw[aS aa];refine ao ⟨⟨k+1,f,rfl,?_⟩,by rw[aB];omega⟩;show l.set k (a*fr.sf b)=_;rw[kl,D,E,<- afe s G,qg _ _ (by simp;omega),cr f,R];have e:d.length-k=(d.length-(k+1))+1:=aa;have Y:k-((d.take k).map (uM d)).length=0:=by simp;omega
  rw[Y,e,oN,oy,de,cB];rfl
 rintro⟨i,l⟩ C;revert i l;intro (i:Int) (l:List Fr) (C:l=d.map (uM d));refine bE p mixed _ _ ?_;refine al (X:=(0+(d.length:Int).toNat<=(d.length:Int).toNat/\(take (d.length:Int).toNat l,0,())=pA (d,()))) ab ?_;rw[aB];refine⟨aa,?_⟩;show (_,_,())=(pW d,q6 [] d,());rw[C,pW,aj z,z,bQ au]
def Ur:Nat × Eng.Spec:=(157,aH [.sl (.int .i64)] [.own .fr,.val (.int .i64)] zX pA)
open Rg Fd
theorem VZ {x y:Fr} (h:g1.cV g1.gG x=g1.cV g1.gG y):x=y:=by
 refine gj fun a=>?_;have d:x-y≠0:=GX a;have c:g1.cV g1.gG (x-y)=O2:=by rw[sub_def,g1.mul_add g1.mu,g1.mul_neg g1.mu,h,dZ]
 have b:g1.cV (g1.cV g1.gG (x-y)) (inv (x-y))=g1.gG:=by rw[<- g1.OM g1.mu,mul_inv _ d,g1.mul_one g1.mu]
 rw[c,g1.nY (.inl rfl),yF] at b;exact g1.Yb b.symm
theorem acp (c:List (Fp × Fp)) (x:Int) (s:Fr) {t:Fr} (h:lV x c=g1.cV g1.gG t):HH c x s=decide (s=t):=by rw[HH,h,lp,ik,ik];exact⟨VZ,fun e=>by rw[e]⟩
theorem Zn {x:Int} (b:fh x) (e:Fr):Hu x (g1.cV g1.gG e)=g1.cV g1.gG (e*zm x):=by
 obtain⟨c,i,d⟩:=NV b;have g:=G1 b;have a:=g1.nE g1.mu e;have f:g1.sL (g1.cV g1.gG e) (js x)=g1.cV g1.gG (e*zm (e9 x)):=by rw[g1.aap a.1 c,d,g1.OM g1.mu];refine (g1.LH a ?_).symm;show e9 x%Mr=_;rw[A9 g.1];rfl
 unfold Hu;rw[f];unfold e9;by_cases h:x<0;rw[aj h,aj h,g1.aak,<- g1.mul_neg g1.mu,<- mul_neg,Hh,Int.neg_neg];rw[ah h,ah h]
theorem NX {x:Int} (b:fh x):∀ p:List Fr,lV x (cn p)=g1.cV g1.gG (pat p x)
 | []=>by rw[Cj];show (0,0)=g1.cV g1.gG 0;rw[g1.mul_zero g1.mu]
 | a::p=>by show g1.n8 (Hu x (lV x (cn p))) (g1.cV g1.gG a)=_;rw[NX b p,Zn b,g1.Ot (g1.nE g1.mu _).1 (g1.nE g1.mu _).1,<- g1.mul_add g1.mu,Cj,Cj];rfl
theorem ZV {x:Int} (a:fh x) (p:List Fr) (s:Fr):HH (cn p) x s=decide (s=pat p x):=acp _ _ _ (NX a p)
theorem getD_map {a b:Type} (f:a->b) {l:List a} {k:Nat} (h:k<l.length) (d:b):(l.map f).getD k d=f l[k]:=by rw[aX,dw,bz h];rfl
end poly
namespace law14
open poly
open Go.IntKind(i64)
def scw (b:List Int):Fr:=eS (zm (num b))
end law14
namespace law22
open law14
open Go.IntKind(i64)
abbrev hZ:HL [.sl (.int .i64),.int .i64]->Prop:=fun (a,_,_)=>length a<4611686018427387904
abbrev uR:HL [.sl (.int .i64),.int .i64]->HO [.val .bool]:=fun (a,x,_)=>(decide (x∈(a:List Int)),())
def inJ (a:List Int) (x:Int) (g:Int):Prop:=∃ k:Nat,k<=a.length/\g=(k:Int)/\x∉a.take k
theorem afE (a:List Int) (x:Int):inJ a x 0:=⟨0,a2 _,rfl,au⟩
theorem aay {a:List Int} {x:Int} {k:Nat} (b:a.length<=k) (h:x∉a.take k):x∉a:=by rwa [bQ b] at h
theorem V9 {a:List Int} {x:Int} {k:Nat} (d:k<a.length) (h:x∉a.take k) (b:¬ a.getD k 0=x):x∉a.take (k+1):=by rw[cr d,lu,gk];rw[aX,bz d,ct] at b;exact fun c=>c.elim h (fun c=>b c.symm)
theorem afG {a:List Int} {x:Int} {k:Nat} (c:k<a.length) (b:a.getD k 0=x):x∈a:=by rw[aX,bz c,ct] at b;rw[<- b];exact dx c
theorem Sm:enters Tryz.prog 58 Tryz.f58:=ek
def vG (a:List Int) (x:Int):Int:=if x∈a then ((a.takeWhile fun y=>decide (y≠x)).length:Nat) else -1
theorem aax {a:List Int} {x:Int} {k:Nat} (d:k<a.length) (h:x∉a.take k) (f:a.getD k 0=x):(k:Int)=vG a x:=by
 rw[vG,aj (afG d f)];have b:a[k]=x:=by rwa [aX,bz d,ct] at f
 have e:a=a.take k++x::a.drop (k+1):=by rw[<- b,<- lS d,dR]
 have:a.takeWhile (fun y=>decide (y≠x))=a.take k:=by
  conv=>lhs;rw[e]
  rw[List.takeWhile_append_of_pos (p:=fun y=>decide (y≠x)) (fun y g=>bX (fun c:y=x=>h (by rw[<- c];exact g)))];simp
 rw[this,cX];omega
abbrev zO:HL [.sl (.int .i64),.int .i64]->HO [.val (.int .i64)]:=fun (a,x,_)=>(vG a x,())
def Yn (a:List Int) (x:Int) (g:Int):St:=ar Tryz.f58.ntmps 32 [(0,.is (.one (.ro (.int .i64) a))),(1,sI .i64 x),(7,sI .i64 a.length),(8,sI .i64 g)] []
theorem KR:aL Tryz.prog 58 [.sl (.int .i64),.int .i64] [.val (.int .i64)] bx hZ zO:=by
 have d:aD Tryz.prog (aP []):=bp;refine bI (sp:=aP []) Sm ae ae ab ?_;rintro w n ⟨a,x,⟨⟩⟩;revert a x;intro (a:List Int) (x:Int) _ j;have j:a.length<4611686018427387904:=j;show Tr _ _ _ _ _ _ _;refine bd d mixed 2 (Yn a x 0) True ?_ (fun _=>?_);refine al (X:=((Yn a x 0).ag True)) ab ?_;exact ao trivial;refine cd d mixed h9 (fun m=>bg (.int .i64) 8 m) (Yn a x) (inJ a x) (fun g=>a.length-g.toNat)
  (fun _=>()) (fun _=>ar Tryz.f58.ntmps 32 [] []) (fun _=>x∉a) 0 (c:=aq (ak Tryz.f58) 2) ab ab (aw ab ab ?_) ?_ ?_
 exact afE a x
 ·intro (i:Int) ⟨k,o,l,f⟩;subst l;refine al (X:=((decide ((k:Int)<(a.length:Int))=true->(0<=(k:Int)/\(k:Int)<(a.length:Int))/\(k:Int).toNat<a.length/\((x==a.getD (k:Int).toNat 0)=true->((k:Int),())=zO (a,x,()))/\((x==a.getD (k:Int).toNat 0)=false->(Yn a x (IntKind.i64.wrap ((k:Int)+1))).ag (inJ a x (IntKind.i64.wrap ((k:Int)+1))/\a.length-(IntKind.i64.wrap ((k:Int)+1)).toNat<a.length-(k:Int).toNat)))/\(decide ((k:Int)<(a.length:Int))=false->(ar Tryz.f58.ntmps 32 [] []).ag ¬x∈a))) ab ?_;rw[aB];refine⟨fun h=>?_,fun h=>ao (aay (by have:=bW h;omega) f)⟩;have b:k<a.length:=by have:=dec_lt h;omega
  rw[aS aa];refine⟨⟨aa,aa⟩,b,fun e=>?_,fun e=>ao ⟨⟨k+1,b,rfl,V9 b f (fun c:a.getD k 0=x=>absurd e (by rw[c];simp))⟩,by rw[aB];omega⟩⟩;have e:a.getD k 0=x:=(eq_of_beq e).symm;show ((k:Int),())=(vG a x,());rw[aax b f e]
 rintro⟨⟩ (f:x∉a);refine bE d mixed _ _ ?_;refine al (X:=(((-1:Int),())=zO (a,x,()))) ab ?_;show _=(vG a x,());rw[vG,ah f]
def abr:Nat × Eng.Spec:=(58,aH [.sl (.int .i64),.int .i64] [.val (.int .i64)] hZ zO)
theorem KI:enters Tryz.prog 25 Tryz.f25:=ek
theorem lW:aL Tryz.prog 25 [.sl (.int .i64),.int .i64] [.val .bool] bx hZ uR:=by refine a8 (sp:=aP [abr]) (aJ (aM KR) bp) mixed KI ae ae ?_;rintro w d ⟨a,x,⟨⟩⟩;revert a x;intro (a:List Int) (x:Int) _ b;refine al (X:=(hZ (a,x,())/\(decide (vG a x>=0),())=uR (a,x,()))) ab ?_;refine⟨b,?_⟩;show _=(decide (x∈a),());show (decide ((if x∈a then (((a.takeWhile fun y=>decide (y≠x)).length:Nat):Int) else -1)>=0),())=(decide (x∈a),());by_cases h:x∈a;rw[aj h,bX h,bX aa];rw[ah h,cp h];rfl
def ko:Nat × Eng.Spec:=(25,aH [.sl (.int .i64),.int .i64] [.val .bool] hZ uR)
end law22
namespace hub
open Go.IntKind(i64)
abbrev jz (p:Nat) (b:Int) (mem:List Int) (c:Nat):Ob.ai:=Ob.ai.obj [c5 b mem c] p Ob.ai.none
theorem gp:enters Tryz.prog 80 Tryz.f80:=ek
abbrev qW:Func:=Tryz.f80
def idA (a:Int) (mem:List Int) (b:Nat):St:=ar qW.ntmps 1 [(0,.is (.one (.ptr 0 0)))] [(0,c5 a mem b)]
def idB (a:Int) (mem:List Int) (b:Nat) (q:Bool):St:=ar qW.ntmps 1 [(0,.is (.one (.ptr 0 0))),(2,av q)] [(0,c5 a mem b)]
def idC (q:Bool):St:=ar qW.ntmps 1 [(2,av q)] []
theorem OQ (f:Nat->Option (Sigma aA)):Ob.dG Tryz.prog f 80 (fun z:Nat × Int × List Int × Nat=>[aG z.1]) (fun z=>z.2.2.1≠[]) (fun z=>jz z.1 z.2.1 z.2.2.1 z.2.2.2) (fun _ (_:Unit)=>av false) (fun z _=>jz z.1 z.2.1 z.2.2.1 z.2.2.2) (fun _ _=>True):=by refine Ob.cA (sp:=LQ) gp ab (fun z=>by show 1<=qW.ntmps;exact Odt ab) (fun z _=>rfl) ?_;rintro⟨p,c,mem,d⟩ b k i h;have b:mem≠[]:=b;have g:mem.length≠0:=fun e=>b (dP e);refine Ob.gZ [0] (idA c mem d) ?_;refine Ob.gcd iG 2 (fun l=>bg .bool 2 l) (fun q=>idB c mem d q) (fun q=>q=false) ?_ (fun q j=>?_);intro w ids M num;refine al (X:=((idB c mem d ((mem.length:Int)==0)).ag (((mem.length:Int)==0)=false))) ab ?_;refine ao ?_;rw[beq_eq_false_iff_ne];omega;subst j;refine Ob.fk (E:=oq f k i h) (bl:=[c5 c mem d]) [] [0] 1 (idC false) ?_;refine Ob.g9 iG mixed (av false) ?_ ⟨(),trivial,Ob.a7 _,rfl⟩;intro w ids M num;refine al (X:=(SV.is (TV.one (Cell.v (Value.bool false)))=av false)) ab ?_;rfl
set_option maxHeartbeats 4000000
theorem FL:enters Tryz.prog 121 Tryz.f121:=ek
abbrev kb:Func:=Tryz.f121
abbrev U4:FuncId->Option Eng.Spec:=aP [law22.ko]
theorem qK:aD Tryz.prog U4:=aJ (aM law22.lW) bp
def yn (m:Hbm.aC) (a:Int) (mem:List Int) (b:Nat):St:=ar kb.ntmps 17 [(0,.is (.one (.ptr 0 0))),(3,.is (.one (.ptr 1 0)))] [(0,c5 a mem b),(1,cZ m)]
def DL (a:Int) (mem:List Int) (b:Nat):St:=ar kb.ntmps 17 [(0,.is (.one (.ptr 0 0))),(4,.is (.one .F))] [(0,c5 a mem b)]
def coQ:St:=ar kb.ntmps 17 [(4,.is (.one .F))] []
section
variable (gl:Nat->Option (Sigma aA)) (w0:World) (M0:Mem) (F0:Nat->Prop)
abbrev wY:Ob.b5:=Ob.kO Tryz.prog U4 gl w0 M0 F0
abbrev vt (p:Nat):Ob.b5:=(wY gl w0 M0 F0).pinned 0 p
theorem N2 (p:Nat) (c:Int) (mem:List Int) (d:Nat) {Q:SV->Ob.ai->Prop} (f:Q (.is (.one .F)) (jz p c mem d)) {b:St} {a:Act} {w:World} (h:b.le (Ob.cj (vt gl w0 M0 F0 p)) (DL c mem d) True) (g:Ob.GH (vt gl w0 M0 F0 p) kb.ntmps b Ob.ai.none a w):Ob.cP (wY gl w0 M0 F0) kb Q a w:=by have e:=(Ob.oU (E:=wY gl w0 M0 F0) (bl:=[c5 c mem d]) [] [0] rfl ab ab rfl ab 1 (g.le h).2).le (τ:=coQ) (K:=True) (aw ab ab trivial);exact⟨coQ,_,Ob.cj (wY gl w0 M0 F0),e.2,f⟩
theorem U6 (p:Nat) (m:Hbm.aC) (b:Int) (mem:List Int) (c:Nat) {Q:SV->Ob.ai->Prop} {x:Nat->Act->World->Prop}
  (o:¬ (m.kind=1\/m.kind=2\/m.kind=3)->Q (.is (.one .F)) (jz p b mem c))
  (h:m.kind=1\/m.kind=2\/m.kind=3->Ob.aK Tryz.prog ((ak kb).drop 3) (Ob.GH (vt gl w0 M0 F0 p) kb.ntmps (yn m b mem c) Ob.ai.none) (Ob.cP (wY gl w0 M0 F0) kb Q) (Ob.cP (wY gl w0 M0 F0) kb Q) x) :
  Ob.aK Tryz.prog ((ak kb).drop 1) (Ob.GH (vt gl w0 M0 F0 p) kb.ntmps (yn m b mem c) Ob.ai.none) (Ob.cP (wY gl w0 M0 F0) kb Q) (Ob.cP (wY gl w0 M0 F0) kb Q) x:=by
 obtain⟨mk,d,f,i,mt,g,e⟩:=m;refine Ob.vd qK mixed 2 (fun _=>()) (fun _=>yn (mk,d,f,i,mt,g,e) b mem c) (fun _=>mk=1\/mk=2\/mk=3) (fun s=>¬ (mk=1\/mk=2\/mk=3)/\s.le (Ob.cj (vt gl w0 M0 F0 p)) (DL b mem c) True) (fun _ _=>False) ?_ (fun _ r=>h r) (fun t a w n q=>N2 gl w0 M0 F0 p b mem c (o n.1) n.2 q) (fun _ _ _ _ h _=>h.elim);intro w ids M num;refine al (X:=(((mk != 1)=true->((mk != 2)=true->((mk != 3)=true->(mk=1\/mk=2\/mk=3->False)/\(DL b mem c).ag True)/\((mk != 3)=false->(yn (mk,d,f,i,mt,g,e) b mem c).ag (mk=1\/mk=2\/mk=3)))/\((mk != 2)=false->(yn (mk,d,f,i,mt,g,e) b mem c).ag (mk=1\/mk=2\/mk=3)))/\((mk != 1)=false->(yn (mk,d,f,i,mt,g,e) b mem c).ag (mk=1\/mk=2\/mk=3)))) ab ?_;refine⟨fun j=>⟨fun k=>⟨fun l=>⟨?_,ao trivial⟩,fun l=>ao (.inr (.inr (by simpa using l)))⟩,fun k=>ao (.inr (.inl (by simpa using k)))⟩,fun j=>ao (.inl (by simpa using j))⟩;rintro (h|h|h);simp[h] at j;simp[h] at k;simp[h] at l
theorem U7 (p:Nat) (m:Hbm.aC) (c:Int) (mem:List Int) (d:Nat) {Q:SV->Ob.ai->Prop} {x:Nat->Act->World->Prop}
  (o:¬ (1<=m.bD/\m.bD<=3/\m.body.length<=4096)->Q (.is (.one .F)) (jz p c mem d))
  (h:1<=m.bD/\m.bD<=3/\m.body.length<=4096->Ob.aK Tryz.prog ((ak kb).drop 5) (Ob.GH (vt gl w0 M0 F0 p) kb.ntmps (yn m c mem d) Ob.ai.none) (Ob.cP (wY gl w0 M0 F0) kb Q) (Ob.cP (wY gl w0 M0 F0) kb Q) x) :
  Ob.aK Tryz.prog ((ak kb).drop 3) (Ob.GH (vt gl w0 M0 F0 p) kb.ntmps (yn m c mem d) Ob.ai.none) (Ob.cP (wY gl w0 M0 F0) kb Q) (Ob.cP (wY gl w0 M0 F0) kb Q) x:=by
 obtain⟨mk,e,k,n,mt,l,b⟩:=m;refine Ob.vd qK mixed 2 (fun _=>()) (fun _=>yn (mk,e,k,n,mt,l,b) c mem d) (fun _=>1<=mt/\mt<=3/\b.length<=4096) (fun s=>¬ (1<=mt/\mt<=3/\b.length<=4096)/\s.le (Ob.cj (vt gl w0 M0 F0 p)) (DL c mem d) True) (fun _ _=>False) ?_ (fun _ r=>h r) (fun t a w j q=>N2 gl w0 M0 F0 p c mem d (o j.1) j.2 q) (fun _ _ _ _ h _=>h.elim);intro w ids M num;refine al (X:=((decide (mt<1)=true->(1<=mt/\mt<=3/\b.length<=4096->False)/\(DL c mem d).ag True)/\(decide (mt<1)=false->(decide (mt>3)=true->(1<=mt/\mt<=3/\b.length<=4096->False)/\(DL c mem d).ag True)/\(decide (mt>3)=false->(decide ((b.length:Int)>4096)=true->(1<=mt/\mt<=3/\b.length<=4096->False)/\(DL c mem d).ag True)/\(decide ((b.length:Int)>4096)=false->(yn (mk,e,k,n,mt,l,b) c mem d).ag (1<=mt/\mt<=3/\b.length<=4096)))))) ab ?_;refine⟨fun f=>⟨fun h=>?_,ao trivial⟩,fun f=>⟨fun g=>⟨fun h=>?_,ao trivial⟩,fun g=>⟨fun i=>⟨fun h=>?_,ao trivial⟩,fun i=>ao ?_⟩⟩⟩;have:=Odt f;omega;have:=Odt g;omega;have:=Odt i;omega;have:=Odf f;have:=Odf g;have:=Odf i;omega
def XZ (m:Hbm.aC) (a:Int) (mem:List Int) (b:Nat) (q:SV):St:=ar kb.ntmps 17 [(0,.is (.one (.ptr 0 0))),(3,.is (.one (.ptr 1 0))),(39,q)] [(0,c5 a mem b),(1,cZ m)]
def coV (a:Int) (mem:List Int) (b:Nat) (q:Bool):St:=ar kb.ntmps 17 [(0,.is (.one (.ptr 0 0))),(4,av q)] [(0,c5 a mem b)]
theorem U8 (p:Nat) (m:Hbm.aC) (a:Int) (mem:List Int) (b:Nat) (s:mem.length<1000) {n r:Act->World->Prop} {x:Nat->Act->World->Prop}
  (l:m.aW∉mem->Ob.aK Tryz.prog ((ak kb).drop 6) (Ob.GH (vt gl w0 M0 F0 p) kb.ntmps (DL a mem b) Ob.ai.none) n r x)
  (o:m.aW∈mem->∀ q,q=decide (m.bO∈mem)->Ob.aK Tryz.prog ((ak kb).drop 6) (Ob.GH (vt gl w0 M0 F0 p) kb.ntmps (coV a mem b q) Ob.ai.none) n r x) :
  Ob.aK Tryz.prog ((ak kb).drop 5) (Ob.GH (vt gl w0 M0 F0 p) kb.ntmps (yn m a mem b) Ob.ai.none) n r x:=by
 obtain⟨mk,c,d,e,mt,h,g⟩:=m;have f:∀ v:Int,law22.hZ (mem,v,()):=fun v=>by show mem.length<_;omega
 refine Ob.jy mixed (rid:=5) (ops:=bo (aq (ak kb) 5)) ab ?_;refine Ob.eV qK 8 (fun j=>bg .bool 39 j) (fun q=>XZ (mk,c,d,e,mt,h,g) a mem b (av q)) (fun q=>q=decide (d∈mem)) ae ab ?_ (fun q k=>?_);intro w ids M num;refine al (X:=(law22.hZ (mem,d,())/\(XZ (mk,c,d,e,mt,h,g) a mem b (av (decide (d∈mem)))).ag (decide (d∈mem)=decide (d∈mem)))) ab ?_;exact⟨f _,ao rfl⟩;cases q;refine Ob.qR (E:=vt gl w0 M0 F0 p) 39 (.is (.one .F)) Ob.lK ?_;refine Ob.ua (E:=vt gl w0 M0 F0 p) (τ:=XZ (mk,c,d,e,mt,h,g) a mem b (.is (.one .F))) (K:=True) (aw ab ab trivial) fun _=>?_;refine Ob.g8 qK (fun _=>()) (fun _=>DL a mem b) (fun _=>True) (Odt ab) ?_ (fun _ _=>l (Odf k.symm));intro w ids M num;refine al (X:=((DL a mem b).ag True)) ab ?_;exact ao trivial;refine Ob.qR (E:=vt gl w0 M0 F0 p) 39 (.is (.one .T)) Ob.gf ?_;refine Ob.ua (E:=vt gl w0 M0 F0 p) (τ:=XZ (mk,c,d,e,mt,h,g) a mem b (.is (.one .T))) (K:=True) (aw ab ab trivial) fun _=>?_;refine Ob.g8 qK (fun j=>bg .bool 4 j) (fun q=>coV a mem b q) (fun q=>q=decide (e∈mem)) (Odt ab) ?_ (fun q i=>o (Odt k.symm) q i);intro w ids M num;refine al (X:=(law22.hZ (mem,e,())/\(coV a mem b (decide (e∈mem))).ag (decide (e∈mem)=decide (e∈mem)))) ab ?_;exact⟨f _,ao rfl⟩
end
def AB (mem:List Int) (m:Hbm.aC):Bool:=decide (m.kind=1\/m.kind=2\/m.kind=3)&&(decide (1<=m.bD/\m.bD<=3/\m.body.length<=4096)&&(decide (m.aW∈mem)&&decide (m.bO∈mem)))
def coO (m:Hbm.aC) (a:Int) (mem:List Int) (b:Nat):St:=ar kb.ntmps 1 [(0,.is (.one (.ptr 0 0))),(1,l5 m)] [(0,c5 a mem b)]
def coW (q:Bool):St:=ar kb.ntmps 17 [(4,av q)] []
theorem Tq (c:Nat->Option (Sigma aA)):Ob.dG Tryz.prog c 121 (fun z:(Nat × Int × List Int × Nat) × Hbm.aC=>[aG z.1.1,l5 z.2]) (fun z=>z.1.2.2.1.length<1000) (fun z=>jz z.1.1 z.1.2.1 z.1.2.2.1 z.1.2.2.2) (fun z (_:Unit)=>av (AB z.1.2.2.1 z.2)) (fun z _=>jz z.1.1 z.1.2.1 z.1.2.2.1 z.1.2.2.2) (fun _ _=>True):=by refine Ob.cA (sp:=U4) FL ab (fun z=>by show 2<=kb.ntmps;exact Odt ab) (fun z _=>rfl) ?_;rintro⟨⟨p,a,mem,b⟩,m⟩ j g f d;have j:mem.length<1000:=j;have i:AB mem m=false->∃ _:Unit,True/\cG (.is (.one .F)) (av (AB mem m))/\jz p a mem b=jz p a mem b:=fun e=>⟨(),trivial,by rw[e];exact Ob.q9,rfl⟩;refine Ob.gZ [0] (coO m a mem b) ?_;refine Ob.gcd qK 1 (fun _=>()) (fun _=>yn m a mem b) (fun _=>True) ?_ (fun _ _=>?_);intro w ids M num;refine al (X:=((yn m a mem b).ag True)) ab ?_;exact ao trivial;refine U6 c g f d p m a mem b (fun h=>i (by simp only[AB,cp h,eH])) fun k=>?_;refine U7 c g f d p m a mem b (fun h=>i (by simp only[AB,cp h,eH,fK])) fun l=>?_;refine U8 c g f d p m a mem b j (fun h=>?_) (fun h q n=>?_);refine Ob.fk (E:=wY c g f d) (bl:=[c5 a mem b]) [] [0] 1 coQ ?_;refine Ob.g9 qK mixed (.is (.one .F)) ?_ (i (by simp only[AB,cp h,eH,fK]));intro w ids M num;refine al (X:=(SV.is (TV.one Cell.F)=SV.is (TV.one Cell.F))) ab ?_;rfl;refine Ob.fk (E:=wY c g f d) (bl:=[c5 a mem b]) [] [0] 1 (coW q) ?_;refine Ob.g9 qK mixed (av q) ?_ ⟨(),trivial,by rw[n];show cG _ (av (AB mem m));simp only[AB,bX k,bX l,bX h,dp];exact Ob.a7 _,rfl⟩;intro w ids M num;refine al (X:=(SV.is (TV.one (Cell.v (Value.bool q)))=av q)) ab ?_;rfl
theorem KN:enters Tryz.prog 162 Tryz.f162:=ek
abbrev Ji:Func:=Tryz.f162
def msA (p:Nat):St:=ar Ji.ntmps 8 [(0,aG p)] []
def msB (p:Nat):St:=ar Ji.ntmps 8 [(0,aG p),(3,aG p)] []
def msC (b:Int) (mem:List Int) (c:Nat):St:=ar Ji.ntmps 9 [(0,.is (.one (.ptr 8 0)))] [(8,c5 b mem c)]
def msD (b:Int) (mem:List Int) (c:Nat) (q:Int):St:=ar Ji.ntmps 9 [(0,.is (.one (.ptr 8 0))),(2,sI .i64 q)] [(8,c5 b mem c)]
def msE (q:Int):St:=ar Ji.ntmps 9 [(2,sI .i64 q)] []
theorem aaP (g:Nat->Option (Sigma aA)):Ob.dG Tryz.prog g 162 (fun z:Nat × Int × List Int × Nat=>[aG z.1]) (fun z=>z.2.2.1≠[]/\z.2.2.1.length<1000) (fun z=>jz z.1 z.2.1 z.2.2.1 z.2.2.2) (fun z (_:Unit)=>sI .i64 (((z.2.2.1.length:Int)-1)/3)) (fun z _=>jz z.1 z.2.1 z.2.2.1 z.2.2.2) (fun _ _=>True):=by refine Ob.cA (sp:=LQ) KN ab (fun z=>by show 1<=Ji.ntmps;exact Odt ab) (fun z _=>rfl) ?_;rintro⟨p,d,mem,f⟩ ⟨b,c⟩ j i h;have b:mem≠[]:=b;have c:mem.length<1000:=c;have m:mem.length≠0:=fun e=>b (dP e);refine Ob.gcd iG 1 (fun _=>()) (fun _=>msA p) (fun _=>True) ?_ (fun _ _=>?_);intro w ids M num;refine al (X:=((msA p).ag True)) ab ?_;exact ao trivial;refine Ob.dB 1 (bo (aq (ak Ji) 1)) ?_;refine Ob.fD iG 1 (fun _=>()) (fun _=>msB p) (fun _=>True) ?_ (fun _ _=>?_);intro w ids M num;refine al (X:=((msB p).ag True)) ab ?_;exact ao trivial;refine Ob.gz (E:=oq g j i h) (OQ g) (p,d,mem,f) b gp (fun _ _=>?_);refine Ob.dv ?_;refine Ob.eQ (aq (ak Ji) 2) ?_;refine Ob.gA (msA p) ?_;refine Ob.gZ [0] (msC d mem f) ?_;refine Ob.gcd iG 1 (fun l=>bg (.int .i64) 2 l) (fun q=>msD d mem f q) (fun q=>q=((mem.length:Int)-1)/3) ?_ (fun q k=>?_);intro w ids M num;refine al (X:=(((3:Int)=0->False)/\(msD d mem f (i64.wrap ((i64.wrap ((mem.length:Int)-1)).tdiv 3))).ag (i64.wrap ((i64.wrap ((mem.length:Int)-1)).tdiv 3)=((mem.length:Int)-(1:aA (Kd.int i64)))/(3:aA (Kd.int i64))))) ab ?_;refine⟨ae,ao ?_⟩;rw[ba (a:=(mem.length:Int)-1) aa aa,ss aa];exact ba aa aa;refine Ob.fk (E:=oq g j i h) (bl:=[c5 d mem f]) [] [8] 9 (msE q) ?_;refine Ob.g9 iG mixed (sI .i64 q) ?_ ⟨(),trivial,by rw[k];exact Ob.a7 _,rfl⟩;intro w ids M num;refine al (X:=(SV.is (TV.one (Cell.v (Value.int i64 q)))=SV.is (TV.one (Cell.v (Value.int i64 q))))) ab ?_;rfl
end hub
end Go.Proofs.YtofofalgjibokaaGreatDoor
namespace Go.Hbn
open Go.IntKind(i64)
open Go.Hbm(aC Told gI UK ka di)
structure Talk where
 ptr:Nat
 e:Nat
 r:Nat
 bD:Int
 bO:Int
 begun:Bool
 ready:Bool
 told:Bool
 ech:gI
 rdy:gI
structure a5 where
 p:Nat
 mp:Nat
 me:Int
 mem:List Int
 talks:List Talk
def ad2:Talk:=⟨0,0,0,0,0,false,false,false,[],[]⟩
def lZ (m:aC) (t:Talk):Bool:=t.bD==m.bD&&t.bO==m.bO
def a5.at (H:a5) (m:aC):Nat:=H.talks.findIdx (lZ m)
def a5.get (H:a5) (i:Nat):Talk:=H.talks.getD i ad2
def a5.set (H:a5) (i:Nat) (t:Talk):a5:={ H with talks:=H.talks.set i t }
def a5.of (H:a5) (m:aC) (q:Nat × Nat × Nat):a5:=if H.at m<H.talks.length then H else { H with talks:=H.talks++[⟨q.1,q.2.1,q.2.2,m.bD,m.bO,false,false,false,[],[]⟩] }
def a5.qn (H:a5):Int:=((H.mem.length:Int)-1)/3
def a5.half (H:a5):Int:=((H.mem.length:Int)+H.qn)/2
def own (H:a5) (k:Int) (m:aC):aC:=(k,0,H.me,m.bO,m.bD,0,m.body)
abbrev eF:=a5 × UK
def plus (ms:List aC) (p:eF):eF:=(p.1,ms++p.2.1,p.2.2)
def andThen (p:eF) (f:a5->eF):eF:=((f p.1).1,p.2.1++(f p.1).2.1,p.2.2++(f p.1).2.2)
def kc (H:a5) (i:Nat) (m:aC):eF :=
 if !(H.get i).told&&decide (ka (H.get i).rdy m.body>2*H.qn) then (H.set i { H.get i with told:=true },[],[(m.bD,m.bO,m.body)]) else (H,[],[])
def l8 (rec:a5->aC->eF) (H:a5) (k:Int) (m:aC):eF:=plus [own H k m] (rec H (own H k m))
def dK (rec:a5->aC->eF) (H:a5) (i:Nat) (m:aC):eF :=
 if !(H.get i).ready&&(decide (ka (H.get i).ech m.body>H.half)||decide (ka (H.get i).rdy m.body>H.qn)) then andThen (l8 rec (H.set i { H.get i with ready:=true }) 3 m) (fun H=>kc H i m) else kc H i m
def mF (rec:a5->aC->eF) (H:a5) (i:Nat) (m:aC):eF :=
 if m.kind=1 then
  if m.aW=m.bO/\(H.get i).begun=false then andThen (l8 rec (H.set i { H.get i with begun:=true }) 2 m) (fun H=>dK rec H i m) else dK rec H i m
 else if m.kind=2 then
  if di (H.get i).ech m.aW then (H,[],[]) else dK rec (H.set i { H.get i with ech:=(H.get i).ech++[(m.aW,m.body)] }) i m
 else
  if di (H.get i).rdy m.aW then (H,[],[]) else dK rec (H.set i { H.get i with rdy:=(H.get i).rdy++[(m.aW,m.body)] }) i m
def counts (mem:List Int) (m:aC):Bool:=decide (m.kind=1\/m.kind=2\/m.kind=3)&&(decide (1<=m.bD/\m.bD<=3/\m.body.length<=4096)&&(decide (m.aW∈mem)&&decide (m.bO∈mem)))
def jl (rec:a5->aC->eF) (H:a5) (m:aC):eF:=if counts H.mem m then mF rec H (H.at m) m else (H,[],[])
def kk:Nat->a5->aC->eF
 | 0=>jl fun H _=>(H,[],[])
 | d+1=>jl (kk d)
def jc (H:a5) (m:aC) (q:Nat × Nat × Nat):eF:=kk 2 (if counts H.mem m then H.of m q else H) m
def iW (H:a5) (bD:Int) (body:List Int) (q:Nat × Nat × Nat):eF:=plus [(1,0,H.me,H.me,bD,0,body)] (jc H (1,0,H.me,H.me,bD,0,body) q)
end Go.Hbn
namespace Go.Proofs.YtofofalgjibokaaGreatDoor
namespace hub
open Go.IntKind(i64)
def G3 (t:Hbn.Talk):Ob.ai:=Ob.ai.obj [bY t.begun t.ready t.told t.e t.r] t.ptr (Ob.ai.sep (bP t.r t.rdy) (bP t.e t.ech))
def fu:List Hbn.Talk->Ob.ai
 | []=>Ob.ai.none
 | t::l=>Ob.ai.sep (G3 t) (fu l)
def hI (l:List Hbn.Talk):List ((Int × Int) × Nat):=l.map fun t=>((t.bD,t.bO),t.ptr)
def bu (H:Hbn.a5):Ob.ai:=Ob.ai.sep (jz H.p H.me H.mem H.mp) (Ob.ai.sep (fm H.mp (hI H.talks)) (fu H.talks))
theorem G4:∀ (l:List Hbn.Talk) (i:Nat) (t:Hbn.Talk),i<l.length->fu (l.set i t)=Ob.ai.sep (G3 t) (fu (l.eraseIdx i))
 | [],_,_,h=>by simp at h
 | _::_,0,_,_=>rfl
 | u::l,i+1,t,h=>by rw[Be,List.eraseIdx_cons_succ,fu,fu,G4 l i t (by simpa using h)];ac_rfl
theorem D5:∀ (l:List Hbn.Talk) (t:Hbn.Talk),fu (l++[t])=Ob.ai.sep (G3 t) (fu l)
 | [],_=>rfl
 | u::l,t=>by rw[iX,fu,fu,D5 l t];ac_rfl
open Go.Hbn(Talk a5 eF)
theorem ON:∀ {a b:List Int},a.Nodup->(∀ y∈a,y∈b)->a.length<=b.length
 | [],_,_,_=>a2 _
 | x::a,b,c,f=>by rw[List.nodup_cons] at c;have d:x∈b:=f x au;have h:=ON (a:=a) (b:=b.erase x) c.2 (fun y g=>(List.mem_erase_of_ne (fun e=>c.1 (by rw[<- e];exact g))).2 (f y (by simp[g])));rw[A2 d] at h;have:0<b.length:=List.length_pos_of_mem d;simp only[bG];omega
abbrev Ap (t:Talk):Int × Int:=(t.bD,t.bO)
def tid (t:Talk):(Int × Int) × Nat × Nat × Nat:=((t.bD,t.bO),t.ptr,t.e,t.r)
structure iO (H K:a5):Prop where
 p:K.p=H.p
 mp:K.mp=H.mp
 me:K.me=H.me
 mem:K.mem=H.mem
 ids:K.talks.map tid=H.talks.map tid
theorem iO.rfl {H:a5}:iO H H:=⟨_root_.rfl,_root_.rfl,_root_.rfl,_root_.rfl,_root_.rfl⟩
theorem iO.trans {H K L:a5} (h:iO H K) (k:iO K L):iO H L:=⟨k.p.trans h.p,k.mp.trans h.mp,k.me.trans h.me,k.mem.trans h.mem,k.ids.trans h.ids⟩
def rq (mem:List Int) (s:Hbm.gI):Prop:=(s.map (·.1)).Nodup/\∀ x∈s,x.1∈mem/\Bs x.2/\x.2.length<=4096
structure dr (H:a5):Prop where
 ne:H.mem≠[]
 len:H.mem.length<1000
 i64:∀ x∈H.mem,la x
 me:H.me∈H.mem
 nd:(H.talks.map Ap).Nodup
 k64:∀ t∈H.talks,la t.bD/\la t.bO
 said:∀ t∈H.talks,rq H.mem t.ech/\rq H.mem t.rdy
theorem rq.ok {mem:List Int} {s:Hbm.gI} (h:rq mem s) (f:mem.length<1000) (d:∀ x∈mem,la x):nH s:=by refine⟨fun x a=>⟨d _ (h.2 x a).1,(h.2 x a).2.1,by have:=(h.2 x a).2.2;omega⟩,?_⟩;have:=ON h.1 (b:=mem) (fun y e=>by obtain⟨x,a,rfl⟩:=mem_map.1 e;exact (h.2 x a).1);rw[bU] at this;omega
theorem rq.snoc {mem:List Int} {s:Hbm.gI} (h:rq mem s) {f:Int} {b:List Int} (l:f∈mem) (j:Bs b) (n:b.length<=4096) (o:Hbm.di s f=false):rq mem (s++[(f,b)]):=by
 refine⟨?_,fun x hx=>?_⟩
 ·rw[de,Bi];refine⟨h.1,au,fun a g c d e=>?_⟩;simp only[eI,tP,gk] at d;subst d;subst e;obtain⟨x,hx,e⟩:=mem_map.1 g;have:Hbm.di s a=true:=by unfold Hbm.di;rw[qB];exact⟨x,hx,by simp[e]⟩
  rw[o] at this;cases this
 rcases List.mem_append.1 hx with hx|hx;exact h.2 x hx;rw[gk] at hx;subst hx;exact⟨l,j,n⟩
theorem dr.keys {H:a5} (h:dr H):AT (hI H.talks):=by intro t a;obtain⟨x,b,rfl⟩:=mem_map.1 a;exact h.k64 x b
structure e6 (mem:List Int) (m:Hbm.aC):Prop where
 c:Hbn.counts mem m=true
 b:Bs m.body
theorem e6.kind {mem:List Int} {m:Hbm.aC} (h:e6 mem m):m.kind=1\/m.kind=2\/m.kind=3:=by have:=h.c;unfold Hbn.counts at this;simp only[aQ,jR] at this;exact this.1
theorem e6.bD {mem:List Int} {m:Hbm.aC} (h:e6 mem m):1<=m.bD/\m.bD<=3/\m.body.length<=4096:=by have:=h.c;unfold Hbn.counts at this;simp only[aQ,jR] at this;exact this.2.1
theorem e6.aW {mem:List Int} {m:Hbm.aC} (h:e6 mem m):m.aW∈mem:=by have:=h.c;unfold Hbn.counts at this;simp only[aQ,jR] at this;exact this.2.2.1
theorem e6.bO {mem:List Int} {m:Hbm.aC} (h:e6 mem m):m.bO∈mem:=by have:=h.c;unfold Hbn.counts at this;simp only[aQ,jR] at this;exact this.2.2.2
theorem e6.own {H:a5} {m:Hbm.aC} (h:e6 H.mem m) (d:H.me∈H.mem) {k:Int} (e:k=2\/k=3):e6 H.mem (Hbn.own H k m):=by refine⟨?_,h.b⟩;unfold Hbn.counts;simp only[aQ,jR];exact⟨.inr e,h.bD,d,h.bO⟩
theorem idx_eq (m:Hbm.aC):∀ (a b:List Talk),a.map tid=b.map tid->a.findIdx (Hbn.lZ m)=b.findIdx (Hbn.lZ m)
 | [],[],_=>_root_.rfl
 | [],_::_,e=>by simp at e
 | _::_,[],e=>by simp at e
 | x::a,y::b,e=>by
  simp only[eI,br] at e;have c:=idx_eq m a b e.2;have d:Hbn.lZ m x=Hbn.lZ m y:=by have:=e.1;unfold tid at this;simp only[aI] at this;unfold Hbn.lZ;rw[this.1.1,this.1.2]
  rw[Bk,Bk,c,d]
theorem p6 {H K:a5} (h:iO H K) (m:Hbm.aC):K.at m=H.at m:=idx_eq m _ _ h.ids
theorem kT {H K:a5} (h:iO H K):K.talks.length=H.talks.length:=by have:=congrArg length h.ids;simpa using this
theorem get_at {H:a5} {i:Nat} (a:i<H.talks.length):H.talks[i]?=some (H.get i):=by unfold Hbn.a5.get;rw[aX,bz a];rfl
theorem get_mem {H:a5} {i:Nat} (a:i<H.talks.length):H.get i∈H.talks:=dS (get_at a)
theorem SQ {H:a5} {m:Hbm.aC} (a:H.at m<H.talks.length):Ap (H.get (H.at m))=(m.bD,m.bO):=by
 have h:=get_at a;have e:Hbn.lZ m (H.get (H.at m))=true:=by
  have b:(H.talks[H.at m]'a)=H.get (H.at m):=by rw[bz a] at h;exact jT h
  rw[<- b];exact wA (w:=a)
 unfold Hbn.lZ at e;simp only[aQ,tT] at e;unfold Ap;rw[e.1,e.2]
theorem Ou {H K:a5} (h:iO H K) {i:Nat} (a:i<H.talks.length):tid (K.get i)=tid (H.get i):=by have b:=get_at a;have d:=get_at (show i<K.talks.length by rw[kT h];exact a);have:=congrArg (fun l=>l[i]?) h.ids;simp only[dw,b,d,cY,az] at this;exact this
theorem kE {H:a5} {i:Nat} (a:i<H.talks.length) (t:Talk):(H.set i t).get i=t:=by unfold Hbn.a5.get Hbn.a5.set;simp[aX,a]
theorem j9 {H:a5} {i:Nat} (a:i<H.talks.length) {t:Talk} (e:tid t=tid (H.get i)):iO H (H.set i t):=by refine⟨_root_.rfl,_root_.rfl,_root_.rfl,_root_.rfl,?_⟩;show (H.talks.set i t).map tid=H.talks.map tid;refine Bj fun j=>?_;rw[dw,wL,dw];split;rename_i b;subst b;rw[get_at a];simp[e];rfl
theorem rL {H:a5} (h:dr H) {i:Nat} (b:i<H.talks.length) {t:Talk} (e:tid t=tid (H.get i)) (g:rq H.mem t.ech) (j:rq H.mem t.rdy):dr (H.set i t):=by
 have d:∀ x∈(H.set i t).talks,x=t\/x∈H.talks:=fun x hx=>(List.mem_or_eq_of_mem_set hx).symm;have a:(t.bD,t.bO)=((H.get i).bD,(H.get i).bO):=by unfold tid at e;simp only[aI] at e ⊢;exact e.1
 refine⟨h.ne,h.len,h.i64,h.me,?_,fun x hx=>?_,fun x hx=>?_⟩
 ·have f:(H.set i t).talks.map Ap=H.talks.map Ap:=by
   have:=congrArg (List.map Prod.fst) (j9 b e).ids;simp only[lx] at this;exact this
  rw[f];exact h.nd
 rcases d x hx with rfl|hx;have:=h.k64 _ (get_mem b);simp only[aI] at a;rw[a.1,a.2];exact this;exact h.k64 x hx;rcases d x hx with rfl|hx;exact⟨g,j⟩;exact h.said x hx
theorem dr.sd {H:a5} (h:dr H) {i:Nat} (a:i<H.talks.length):rq H.mem (H.get i).ech/\rq H.mem (H.get i).rdy:=h.said _ (get_mem a)
theorem OA {c g:Type} {f:c->g}:∀ {l:List c},(l.map f).Nodup->∀ {x y:c},x∈l->y∈l->f x=f y->x=y
 | [],_,_,_,b,_,_=>by cases b
 | z::l,a,x,y,b,d,e=>by rw[eI,List.nodup_cons] at a;rcases mem_cons.1 b with h1|h1<;>rcases mem_cons.1 d with h2|h2;rw[h1,h2];exact (a.1 (by rw[<- h1,e];exact mem_map.2 ⟨y,h2,_root_.rfl⟩)).elim;exact (a.1 (by rw[<- h2,<- e];exact mem_map.2 ⟨x,h1,_root_.rfl⟩)).elim;exact OA a.2 h1 h2 e
theorem Zj {H:a5} (h:dr H) {m:Hbm.aC} {tp:Nat} (d:((m.bD,m.bO),tp)∈hI H.talks):H.at m<H.talks.length/\(H.get (H.at m)).ptr=tp:=by
 obtain⟨t,b,e⟩:=mem_map.1 d;simp only[aI] at e;have a:H.at m<H.talks.length:=by refine wu ⟨t,b,?_⟩;unfold Hbn.lZ;rw[e.1.1,e.1.2];simp
 refine⟨a,?_⟩;have c:H.get (H.at m)=t:=OA h.nd (get_mem a) b (by rw[SQ a];unfold Ap;rw[e.1.1,e.1.2]);rw[c];exact e.2
theorem Zi {H:a5} {m:Hbm.aC} (a:∀ t∈hI H.talks,t.1≠(m.bD,m.bO)):¬ H.at m<H.talks.length:=fun h =>
 a ((Ap (H.get (H.at m))),(H.get (H.at m)).ptr) (mem_map.2 ⟨_,get_mem h,rfl⟩) (SQ h)
theorem LS {H:a5} {m:Hbm.aC} (h:H.at m<H.talks.length) (q:Nat × Nat × Nat):H.of m q=H:=by unfold Hbn.a5.of;rw[aj h]
def h8 (m:Hbm.aC) (q:Nat × Nat × Nat):Talk:=⟨q.1,q.2.1,q.2.2,m.bD,m.bO,false,false,false,[],[]⟩
theorem Gk {H:a5} {m:Hbm.aC} (h:¬ H.at m<H.talks.length) (q:Nat × Nat × Nat):H.of m q={ H with talks:=H.talks++[h8 m q] }:=by unfold Hbn.a5.of;rw[ah h];rfl
theorem R4 {H:a5} {m:Hbm.aC} (h:¬ H.at m<H.talks.length) (q:Nat × Nat × Nat):(H.of m q).at m=H.talks.length/\(H.of m q).get ((H.of m q).at m)=h8 m q:=by
 rw[Gk h];have e:Hbn.a5.at { H with talks:=H.talks++[h8 m q] } m=H.talks.length:=by
  have a:H.talks.findIdx (Hbn.lZ m)=H.talks.length:=by have:=List.findIdx_le_length (p:=Hbn.lZ m) (xs:=H.talks);have h:¬ H.talks.findIdx (Hbn.lZ m)<H.talks.length:=h;omega
  show (H.talks++[h8 m q]).findIdx (Hbn.lZ m)=_;rw[List.findIdx_append,a];simp[Hbn.lZ,h8]
 refine⟨e,?_⟩;rw[e];unfold Hbn.a5.get;simp[aX]
theorem YA {H:a5} (h:dr H) {m:Hbm.aC} (k:e6 H.mem m) (q:Nat × Nat × Nat):dr (H.of m q)/\(H.of m q).at m<(H.of m q).talks.length:=by
 by_cases f:H.at m<H.talks.length;rw[LS f];exact⟨h,f⟩
 ·refine⟨?_,by rw[(R4 f q).1,Gk f];simp⟩;rw[Gk f];have d:∀ x∈H.talks++[h8 m q],x∈H.talks\/x=h8 m q:=fun x c=>by simpa using c
  have n:=k.bD;refine⟨h.ne,h.len,h.i64,h.me,?_,fun x c=>?_,fun x c=>?_⟩;show ((H.talks++[h8 m q]).map Ap).Nodup;rw[de,Bi];refine⟨h.nd,au,fun a l b j e=>?_⟩;simp only[eI,tP,gk] at j;obtain⟨x,c,g⟩:=mem_map.1 l;refine f (wu ⟨x,c,?_⟩);subst j;rw[e] at g;unfold Ap h8 at g;simp only[aI] at g;unfold Hbn.lZ;rw[g.1,g.2];simp;rcases d x c with c|rfl;exact h.k64 x c;exact⟨⟨by show _<=m.bD;omega,by show m.bD<=_;omega⟩,h.i64 _ k.bO⟩;rcases d x c with c|rfl;exact h.said x c;exact⟨⟨by simp[h8],fun y i=>by cases i⟩,⟨by simp[h8],fun y i=>by cases i⟩⟩
def Good (H:a5) (r:eF):Prop:=dr r.1/\iO H r.1
def rm (rec:a5->Hbm.aC->eF):Prop:=∀ H m,dr H->e6 H.mem m->H.at m<H.talks.length->Good H (rec H m)
theorem IU {H:a5} (h:dr H) {i:Nat} (a:i<H.talks.length) (m:Hbm.aC):Good H (Hbn.kc H i m):=by unfold Hbn.kc;split;exact⟨rL h a _root_.rfl (h.sd a).1 (h.sd a).2,j9 a _root_.rfl⟩;exact⟨h,.rfl⟩
theorem Dr {rec:a5->Hbm.aC->eF} (e:rm rec) {H:a5} (h:dr H) {m:Hbm.aC} (d:e6 H.mem m) (a:H.at m<H.talks.length) {k:Int} (b:k=2\/k=3):Good H (Hbn.l8 rec H k m) :=
 e H (Hbn.own H k m) h (d.own h.me b) a
theorem wZ {rec:a5->Hbm.aC->eF} (j:rm rec) {H:a5} (h:dr H) {m:Hbm.aC} (f:e6 H.mem m) {i:Nat} (e:i=H.at m) (a:i<H.talks.length):Good H (Hbn.dK rec H i m):=by unfold Hbn.dK;split;have b:iO H (H.set i { H.get i with ready:=true }):=j9 a _root_.rfl;have g:dr (H.set i { H.get i with ready:=true }):=rL h a _root_.rfl (h.sd a).1 (h.sd a).2;have d:=p6 b m;obtain⟨l,n⟩:=Dr j g (m:=m) (by rw[b.mem];exact f) (by rw[d,kT b,<- e];exact a) (k:=3) (.inr _root_.rfl);have c:=b.trans n;obtain⟨o,p⟩:=IU l (i:=i) (by rw[kT c];exact a) m;exact⟨o,c.trans p⟩;exact IU h a m
theorem S5 {rec:a5->Hbm.aC->eF} (g:rm rec) {H:a5} (h:dr H) {m:Hbm.aC} (d:e6 H.mem m) {i:Nat} (e:i=H.at m) (a:i<H.talks.length):Good H (Hbn.mF rec H i m):=by unfold Hbn.mF;split;split;have c:iO H (H.set i { H.get i with begun:=true }):=j9 a _root_.rfl;have f:dr (H.set i { H.get i with begun:=true }):=rL h a _root_.rfl (h.sd a).1 (h.sd a).2;have p:=p6 c m;obtain⟨q,r⟩:=Dr g f (m:=m) (by rw[c.mem];exact d) (by rw[p,kT c,<- e];exact a) (k:=2) (.inl _root_.rfl);have n:=c.trans r;obtain⟨j,l⟩:=wZ g q (m:=m) (by rw[n.mem];exact d) (i:=i) (by rw[p6 n,e]) (by rw[kT n];exact a);exact⟨j,n.trans l⟩;exact wZ g h d e a;split;split;exact⟨h,.rfl⟩;rename_i o;have c:iO H (H.set i { H.get i with ech:=(H.get i).ech++[(m.aW,m.body)] }):=j9 a _root_.rfl;have f:dr (H.set i { H.get i with ech:=(H.get i).ech++[(m.aW,m.body)] }):=rL h a _root_.rfl ((h.sd a).1.snoc d.aW d.b d.bD.2.2 (by simpa using o)) (h.sd a).2;obtain⟨j,l⟩:=wZ g f (m:=m) (by rw[c.mem];exact d) (i:=i) (by rw[p6 c,e]) (by rw[kT c];exact a);exact⟨j,c.trans l⟩;split;exact⟨h,.rfl⟩;rename_i o;have c:iO H (H.set i { H.get i with rdy:=(H.get i).rdy++[(m.aW,m.body)] }):=j9 a _root_.rfl;have f:dr (H.set i { H.get i with rdy:=(H.get i).rdy++[(m.aW,m.body)] }):=rL h a _root_.rfl (h.sd a).1 ((h.sd a).2.snoc d.aW d.b d.bD.2.2 (by simpa using o));obtain⟨j,l⟩:=wZ g f (m:=m) (by rw[c.mem];exact d) (i:=i) (by rw[p6 c,e]) (by rw[kT c];exact a);exact⟨j,c.trans l⟩
theorem Ey {rec:a5->Hbm.aC->eF} (d:rm rec):rm (Hbn.jl rec):=by intro H m h a b;unfold Hbn.jl;rw[aj a.c];exact S5 d h a _root_.rfl b
end hub
end Go.Proofs.YtofofalgjibokaaGreatDoor
namespace Go.Eng
open Go.IntKind(i64)
def fixF:SV->SV
 | .is (.one .F)=>.is (.one (.v (.bool false)))
 | .is (.one .T)=>.is (.one (.v (.bool true)))
 | s=>s
theorem VI (s:SV):cG s (fixF s):=by unfold fixF;split;exact fun a v h=>⟨h,rfl⟩;exact fun a v h=>⟨h,rfl⟩;exact fun a v h=>h
def QT (t:Nat) (a:St):St:=⟨a.slots.set t (fixF (a.S t)),a.blks,a.next⟩
namespace Ob
def inv (a:List Nat) (j:Nat):Nat:=match a with
 | []=>0
 | i::a=>match beq i j with
  | true=>0
  | false=>inv a j+1
def aex (a:List Nat) (e:Edge):Edge:=⟨inv a e.on,e.ground⟩
def EW (a:List Nat) (o:Oper):Oper:=⟨o.dst,o.op,o.type,o.pos,⟨o.after.toList.map (aex a)⟩,match o.guard with
 | none=>none
 | some (j,b)=>some (inv a j,b)⟩
def ac8 (a:Array Oper) (i:Nat):Oper:=match a.toList[i]? with
 | some o=>o
 | none => ⟨none, .move (.const undef), 0, "", ⟨[]⟩, none⟩
def jK (a:List Nat) (ops:Array Oper):Array Oper:=⟨a.map fun i=>EW a (ac8 ops i)⟩
def L5 (b:List Nat) (a:Array Oper):Bool :=
 beq b.length a.size&&kN b&&b.all (fun i=>blt i a.size) &&
 a.toList.all fun o=>(o.after.toList.all fun e=>blt e.on a.size&&ez e.on b)&&match o.guard with
  | none=>true
  | some (j,_)=>blt j a.size&&ez j b
theorem sP:∀ {a:List Nat} {j:Nat},j∈a->a[inv a j]?=some j
 | i::a,j,h=>by
  unfold inv;cases c:beq i j with
  | true=>simp[fa c]
  | false =>have b:i≠j:=Nat.ne_of_beq_eq_false c;rcases mem_cons.1 h with e|h;exact absurd e.symm b;simpa using sP h
theorem Td {a:List Nat} (b:kN a=true) {k i:Nat} (h:a[k]?=some i):inv a i=k :=
 xh a b _ _ i (sP (dS h)) h
theorem adP {a:List Nat} {j:Nat} (h:j∈a):inv a j<a.length:=by have:=sP h;rcases bN (inv a j) a.length with h'|h';exact h';rw[dQ h'] at this;cases this
structure PermOk (π:List Nat) (ops:Array Oper):Prop where
 len:π.length=ops.size
 nd:kN π=true
 lt:∀ i∈π,i<ops.size
 all:∀ i,i<ops.size->i∈π
 edge:∀ (i:Nat) (o:Oper),ops[i]?=some o->∀ e∈o.after.toList,e.on∈π
 fD:∀ (i:Nat) (o:Oper) (j:Nat) (b:Bool),ops[i]?=some o->o.guard=some (j,b)->j∈π
theorem Jj:∀ {n:Nat} {π:List Nat},π.Nodup->(∀ i∈π,i<n)->π.length=n->∀ i,i<n->i∈π
 | 0,_,_,_,_=>fun i c=>aa
 | n+1,π,o,t,z=>by
  intro i c;have b:n∈π:=by
   by_cases h:n∈π;exact h
   ·exfalso;have k:∀ i∈π,i<n:=fun i c=>by
     have:=t i c;have:i≠n:=fun e=>h (e▸c);omega
    -- y u below n
    have p:∀ (m:Nat) (l:List Nat),l.Nodup->(∀ i∈l,i<m)->l.length<=m:=by
     intro m;induction m with
     | zero=>intro l _ f;cases l with
      | nil=>simp
      | cons a l=>have:=f a au;omega
     | succ m x =>
      intro l r f
      have q:=x (l.erase m) (r.erase m) (fun i c=>by
       have d:=f i (A6 c);have w:i≠m:=fun e=>by subst e;exact r.not_mem_erase c
       omega)
      have d:=List.length_erase (a:=m) (l:=l);split at d<;>omega
    have:=p n π o k;omega
  by_cases g:i=n;subst g;exact b
  ·have q:=Jj (n:=n) (π:=π.erase n) (o.erase n) (fun j s=>by
    have d:=t j (A6 s);have w:j≠n:=fun e=>by subst e;exact o.not_mem_erase s
    omega) (by rw[A2 b];omega) i aa
   exact A6 q
theorem LK {a:List Nat} (h:kN a=true):a.Nodup:=by rw[List.nodup_iff_pairwise_ne,List.pairwise_iff_getElem];intro i j b d c e;have:=xh a h i j (a[j]) (by rw[bz b,e]) (bz d);omega
theorem Ns {c:List Nat} {a:Array Oper} (h:L5 c a=true):PermOk c a:=by
 simp only[L5,aQ] at h;obtain⟨⟨⟨g,k⟩,n⟩,l⟩:=h;have m:∀ {j:Nat},ez j c=true->j∈c:=fun {j} s=>by exact dS (H6 c j s)
 have d:∀ i∈c,i<a.size:=fun i r=>fL (List.all_eq_true.1 n i r);refine⟨fa g,k,d,Jj (LK k) d (fa g),fun i o f e p=>?_,fun i o j b f q=>?_⟩;have:=List.all_eq_true.1 l o (dS (by simpa using f));rw[aQ] at this;have:=List.all_eq_true.1 this.1 e p;rw[aQ] at this;exact m this.2;have:=List.all_eq_true.1 l o (dS (by simpa using f));rw[aQ,q] at this;have:=this.2;simp only[aQ] at this;exact m this.2
theorem rQ {a:List Nat} {ops:Array Oper}:(jK a ops).size=a.length:=by simp[jK]
theorem xT {a:List Nat} {ops:Array Oper} {k i:Nat} {o:Oper} (b:a[k]?=some i) (c:ops[i]?=some o):(jK a ops)[k]?=some (EW a o):=by unfold jK ac8;simp only[tx,dw,b,cY];rw[show ops.toList[i]?=some o from by simpa using c]
theorem aey (P:Program) (e:List Nat) (o:Oper) (a:Act) (w:World) (K:Act->World->Prop) (Q:Exit->Act->World->Prop) (h:(EW e o).wp P a w K Q):o.wp P a w K Q:=by obtain⟨c,d,f,pos,b,guard⟩:=o;cases d<;>exact h
theorem WQ (P:Program) (e:List Nat) (o:Oper) (a:Act) (w:World) (h:(EW e o).asks P a w):o.asks P a w:=by obtain⟨c,d,f,pos,b,guard⟩:=o;cases d<;>exact h
theorem Rj {f:List Nat} {ops:Array Oper} (k:PermOk f ops) {i:Nat} {o:Oper} (l:ops[i]?=some o) (a:Array Value):Region.wanted (EW f o) (yielded (jK f ops) a)=Region.wanted o (yielded ops a):=by
 unfold Region.wanted;cases d:o.guard with
 | none=>simp[EW,d]
 | some g =>
  obtain⟨j,b⟩:=g;simp only[EW,d];have h:=k.fD i o j b l d;have e:=k.lt j h;have c:ops[j]?=some ops[j]:=by simp[e]
  unfold yielded;rw[xT (sP h) c,c];rfl
theorem WG {P:Program} {Q:Exit->Act->World->Prop} {g:List Nat} {ops:Array Oper} (y:PermOk g ops):∀ (f:Nat) (c b:Array Bool) (a:Act) (w:World),c.size=ops.size->b.size=ops.size ->
  (∀ k i,g[k]?=some i->b.getD k false=c.getD i false)->wpAny P .any (jK g ops) Q f b a w->wpAny P .any ops Q f c a w:=by
 have j:∀ (c b:Array Bool),c.size=ops.size->b.size=ops.size->(∀ k i,g[k]?=some i->b.getD k false=c.getD i false) ->
   ∀ k i,g[k]?=some i->(k∈Region.ready .any (jK g ops) b↔i∈Region.ready .any ops c):=by
  intro c b n p u k i t;have l:=y.lt i (dS t);have m:ops[i]?=some ops[i]:=by simp[l]
  rw[jC n,jC (ops:=jK g ops) (by rw[rQ,y.len];exact p)];rw[xT t m,m,u k i t];have r:∀ e∈ops[i].after.toList,b.getD (inv g e.on) false=c.getD e.on false:=fun e U=>u _ _ (sP (y.edge i _ m e U));constructor;rintro⟨o,e,g1,g2⟩;cases e;refine⟨_,rfl,g1,fun d I O=>?_⟩;rw[<- r d I];exact g2 (aex g d) (mem_map.2 ⟨d,I,rfl⟩) O;rintro⟨o,e,g1,g2⟩;cases e;refine⟨_,rfl,g1,fun d I O=>?_⟩;obtain⟨L,A,rfl⟩:=mem_map.1 I;show b.getD (inv g L.on) false=true;rw[r L A];exact g2 L A O
 have F:∀ (c b:Array Bool),c.size=ops.size->b.size=ops.size->(∀ k i,g[k]?=some i->b.getD k false=c.getD i false)->Region.ready .any ops c=[]->Region.ready .any (jK g ops) b=[]:=by
  intro c b n p u N;rw[AW];intro k t;obtain⟨o,m,_⟩:=(jC (ops:=jK g ops) (by rw[rQ,y.len];exact p)).1 t;have R:k<g.length:=by rcases bN k g.length with h|h;exact h;rw[eh (by rw[rQ];exact h)] at m;cases m
  have:=(j c b n p u k _ (bz R)).1 t;rw[N] at this;cases this
 intro f;induction f with
 | zero =>
  intro c b a w n p u C;refine⟨?_,C.2⟩;rw[AW];intro i D;have l:=(jC n).1 D;obtain⟨o,m,_⟩:=l;have l:i<ops.size:=by rcases bN i ops.size with h|h;exact h;rw[eh h] at m;cases m
  have:=(j c b n p u _ i (sP (y.all i l))).2 D;rw[C.1] at this;cases this
 | succ f V =>
  intro c b a w n p u C;refine⟨fun N=>C.1 (F c b n p u N),fun i D=>?_⟩;obtain⟨o,m,g1,_⟩:=(jC n).1 D;have l:i<ops.size:=by rcases bN i ops.size with h|h;exact h;rw[eh h] at m;cases m
  have E:=y.all i l;have t:=sP E;have hw:=C.2 _ ((j c b n p u _ i t).2 D);unfold wpOp at hw ⊢;rw[xT t m] at hw;simp only[m];simp only[Rj y m] at hw;have G:∀ K H,g[K]?=some H->(b.setIfInBounds (inv g i) true).getD K false=(c.setIfInBounds i true).getD H false:=by
   intro K H x;have T:inv g i<b.size:=by rw[p,<- y.len];exact adP E
   rw[kE T,kE aa,u K H x];by_cases h:H=i;subst h;rw[Td y.nd x];simp;rw[ah h,ah];rintro rfl;rw[t] at x;exact h (jT x).symm
  have s:∀ a w,wpAny P .any (jK g ops) Q f (b.setIfInBounds (inv g i) true) a w->wpAny P .any ops Q f (c.setIfInBounds i true) a w:=fun a w q=>V _ _ a w (by simpa using n) (by simpa using p) G q;split at hw;rename_i z;rw[aj z];rcases hw with hw|hw;exact .inl (UF (fun _ _ _ _ q=>q) s (aey P g o a w _ Q hw));exact .inr ⟨WQ P g o a w hw.1,hw.2⟩;rename_i z;rw[ah z];exact s _ _ hw
theorem K7 {P:Program} {ops:Array Oper} {l:List Code} {Pre n r:Act->World->Prop} {x:Nat->Act->World->Prop} (g:List Nat) (f:L5 g ops=true) (h:pJ P (jK g ops) 0 l Pre n r x):pJ P ops 0 l Pre n r x:=by
 have f:=Ns f;intro a w Q d m o p c j;have e:(jK g ops).size=ops.size:=by rw[rQ,f.len]
 refine WG f c (gr 0 ops.size) (gr 0 (jK g ops).size) a w (iN (a2 _)) (by rw[iN (a2 _),e]) (fun k i _=>by rw[fj,fj];simp) (h a w Q d m o p c (by rw[e];exact j))
theorem Km {P:Program} {Q d:Exit->Act->World->Prop} (b:∀ e a w,Q e a w->d e a w):∀ (l:List Code) (a:Act) (w:World),ku P l Q a w->ku P l d a w
 | [],a,w,h=>b _ a w h
 | c::l,a,w,h=>wp_mono h fun e a w f=>by
  cases e with
  | normal=>exact Km b l a w f
  | _=>exact b _ a w f
theorem Av {P:Program} {j:Region.Mode} {c:Array Oper} {Q g:Exit->Act->World->Prop} (d:∀ e a w,Q e a w->g e a w):∀ (fuel:Nat) (b:Array Bool) (a:Act) (w:World),wpAny P j c Q fuel b a w->wpAny P j c g fuel b a w
 | 0,_,a,w,h=>⟨h.1,d _ a w h.2⟩
 | fuel+1,_,a,w,h=>⟨fun k=>d _ a w (h.1 k),fun i m=>by
  have:=h.2 i m;cases f:c[i]? with
  | none =>unfold wpOp at this ⊢;simp only[f] at this ⊢;exact Av d fuel _ _ _ this
  | some o=>exact MX (o:=o) f f (fun _ _ _=>rfl) (fun e a w _ l=>d e a w l) (fun a w h=>Av d fuel _ a w h) this⟩
def Uy (a:Array Oper) (k:Nat):Bool:=blt k a.size&&(Region.noSelect a&&Region.free .any a (gr k a.size) k&&(Region.ready .any a (gr k a.size)).contains k)
def Kj (P:Program) (S:cD) (b:Op) (d:TypeId) (c:SV):Prop :=
 ∀ (a:ay) (ev:Operand->Value),(∀ o,(fG S o).rel a (ev o))->∃ v,(∀ o:Oper,o.op=b->o.type=d->∀ w,(execOp ev o).run P w=.ok (.value v) w)/\c.rel a v
theorem Cp {P:Program} {S:cD} {e:TypeId} (x:Operand):Kj P S (.move x) e (fG S x):=fun f ev c=>⟨ev x,fun o d _ w=>by unfold execOp;rw[d];rfl,c x⟩
theorem WL {P:Program} {S:cD} {i t t':TypeId} {x y:Operand} {a b:Int} (g:fG S x=.is (.one (.v (.int .i64 a)))) (h:fG S y=.is (.one (.v (.int .i64 b)))):Kj P S (.binOp .mul t x y t') i (.is (.one (.v (.int .i64 (IntKind.i64.wrap (a*b)))))):=by intro j ev c;have d:ev x=.int .i64 a:=tm g c;have e:ev y=.int .i64 b:=tm h c;exact⟨_,fun o f _ w=>by unfold execOp;rw[f];simp only[d,e];rfl,rfl,rfl⟩
theorem zz {E:b5} {N:Nat} {n r:Act->World->Prop} {x:Nat->Act->World->Prop} {l:List Code} {ops:Array Oper} {k:Nat} {τ:St} {G:ai} (sv:SV) (R:Uy ops k=true) (m:isStep τ.S ops k=true) (hp:Kj E.P τ.S (jo ops k) (pD ops k) sv)
  (h:pJ E.P ops (k+1) l (GH E N (τ.put (nQ ops k) sv) G) n r x):pJ E.P ops k l (GH E N τ G) n r x:=by
 simp only[Uy,aQ] at R;obtain⟨H,⟨q,hf⟩,hr⟩:=R;have H:=fL H;intro a w Q hh x0 x2 hx fuel Y;obtain⟨o,I,g⟩:∃ o,ops[k]?=some o/\lF τ.S ops o.guard=true:=by unfold isStep at m;split at m;rename_i o I;exact⟨o,I,m⟩;cases m
 have O:nQ ops k=o.dst:=by unfold nQ;rw[I]
 have x1:o.op=jo ops k:=by unfold jo;rw[I]
 have x4:o.type=pD ops k:=by unfold pD;rw[I]
 rw[O] at h;obtain⟨F,u,z,V,T,f,C⟩:=hh.kR;have L:Mem.le u.M (b8 w):=fun b l A=>by obtain⟨_,el,fr,h⟩:=f.mem b l A;exact jX h
 obtain⟨v,hv,x3⟩:=hp u a.eval (fun o=>cN.fG (E:=⟨E.P,E.sp,ji w E.gl u τ.next⟩) f o);have s:GH E N (τ.put o.dst sv) G (a.put o.dst v) w:=K3 (w2:=w) (F2:=F) (M2:=u.M) z T f C L V (fun b A=>.inl A) ⟨rfl,rfl,rfl,aE _,fun _ _ _=>rfl⟩ (Mem.le_refl _)
  (fun b l A=>⟨L b l A,fun U=>z.mem b U l A,.inr (.inr A)⟩) (fun x6 Z hM=>SV.fi Z x3)
 have D:Region.wanted o (yielded ops a.tmps)=true:=by
  unfold Region.wanted;cases hq:o.guard with
  | none=>rfl
  | some p =>obtain⟨j,x5⟩:=p;rw[hq] at g;unfold lF at g;simp only at g;split at g;rename_i d hd;have q:=f.slots d;split at g;rename_i hT;rw[hT] at q;have q:[_]=[Value.bool true]:=q;have q:=(mU q).1;simp only[nF hd q];rfl;rename_i U;rw[U] at q;have q:[_]=[Value.bool false]:=q;have q:=(mU q).1;simp only[nF hd q];rfl;cases g;cases g
 let Q':Exit->Act->World->Prop:=fun e a w=>match e with
  | .panic _=>False
  | e=>Q e a w
 have W:∀ e a w,Q' e a w->Q e a w:=fun e a w h=>by
  cases e with
  | panic c=>exact h.elim
  | _=>exact h
 have h1:=h (a.put o.dst v) w Q' s (fun a w h=>x0 a w h) (fun a w h=>x2 a w h) (fun i a w h=>hx i a w h) (fuel-1) aa
 have e:(gr k ops.size).setIfInBounds k true=gr (k+1) ops.size:=zy (by simp[iN (tO H),iN (show k+1<=ops.size from H)]) (fun j=>by
  rw[kE (by rw[iN (tO H)];exact H),fj,fj];by_cases hj:j=k;subst hj;simp
  ·simp only[hj,dT];congr 1
   exact propext ⟨fun _=>aa,fun _=>aa⟩)
 rw[<- e] at h1;have h2:=wpAny_take (fuel:=fuel-1) I q hf hr (fun c a w h=>by exact h.elim) (.inl ⟨D,hv o x1 x4⟩) h1;rw[show fuel-1+1=fuel from by omega] at h2;refine Av (fun e a w X=>?_) fuel _ a w h2;cases e with
 | normal=>exact Km W l a w X
 | panic c=>exact X.elim
 | _=>exact X
theorem gF {E:b5} {n:Act->World->Prop} {x:Nat->Act->World->Prop} (f:aD E.P E.sp) (k:E.P.follows .mixedOrders=true) {fn:Func} {l:List Code} {g:St} {G:ai} {Q:SV->ai->Prop} (q:SV)
  (h:∀ (w:World) (ids:List (Nat × Nat)) (M:Mem) (num:Nat × Nat->Nat),VC ⟨E.P,E.sp,⟨w,ids,E.gl,M,num,g.next⟩⟩ l g (fun _=>False) (lb ⟨E.P,E.sp,cj E⟩ fn fun sv _=>sv=q) (fun _ _=>False)) (m:Q q G) :
  aK E.P l (GH E fn.ntmps g G) n (cP E fn Q) x :=
 kK f k (fun _=>False) _ (fun _ _=>False) h (fun _ _ _ d _=>d.elim) (fun i _ _ d j=>⟨i,G,cj E,j,EY d fun _ _ e=>e▸m⟩) (fun _ _ _ _ h _=>h.elim)
theorem kH {E:b5} {N:Nat} {n r:Act->World->Prop} {x:Nat->Act->World->Prop} (j:aD E.P E.sp) (C:E.P.follows .mixedOrders=true) {l:List Code} {u:St} {G:ai} {s:Type} (k t:Nat) (f:St->s) (d:s->St) (K:s->Prop) (m:St->Prop) (o:Nat->St->Prop)
  (h:∀ (w:World) (ids:List (Nat × Nat)) (M:Mem) (num:Nat × Nat->Nat),VC ⟨E.P,E.sp,⟨w,ids,E.gl,M,num,u.next⟩⟩ (l.take k) u (fun b=>(QT t b).le (cj E) (d (f (QT t b))) (K (f (QT t b)))) m o)
  (z:∀ g,K g->aK E.P (l.drop k) (GH E N (d g) G) n r x) (D:∀ b a w,m b->GH E N b G a w->r a w) (F:∀ i b a w,o i b->GH E N b G a w->x i a w):aK E.P l (GH E N u G) n r x:=by
 rw[<- dR k l];refine mE (fun a w=>∃ g,K g/\GH E N (d g) G a w) (kK j C _ m o h (fun b a w y e=>⟨_,(e.ref t _ (VI _)).le y⟩) D F) ?_;exact FV (Pre':=fun (g:{ g // K g })=>GH E N (d g.1) G) (fun a w ⟨g,A,e⟩=>⟨⟨g,A⟩,e⟩) (fun g=>z g.1 g.2)
theorem Ow {E:b5} {N:Nat} {n r:Act->World->Prop} {x:Nat->Act->World->Prop} {l:List Code} {d:St} {G:ai} (t id k c:Nat) (e:Kd) (f:List (aA e)) (m:d.S t=.is (.one (.sl id 0 0 k c))) (j:d.B id=some [.row e k f]) (p:f.length=k)
  (i:aK E.P l (GH E N ⟨d.slots.set t (.is (.one (.ro e f))),(id,[])::d.blks,d.next⟩ G) n r x):aK E.P l (GH E N d G) n r x:=by
 refine mE (P:=E.P) (l1:=[]) (l2:=l) (GH E N ⟨d.slots.set t (.is (.one (.ro e f))),(id,[])::d.blks,d.next⟩ G) ?_ i;refine vE (fun g=>g=⟨d.slots.set t (.is (.one (.ro e f))),(id,[])::d.blks,d.next⟩) (fun _=>False) (fun _ _=>False) (fun w ids M num=>?_) (fun g a w e o=>e▸o) (fun _ _ _ h _=>h.elim) (fun _ _ _ _ h _=>h.elim);exact UC t id k c e f m j p (ke rfl)
theorem sN {E:b5} {N:Nat} {n r:Act->World->Prop} {x:Nat->Act->World->Prop} {l:List Code} {d:St} {G:ai} (t id k c:Nat) (g:IntKind) (f:List Int) (o:d.S t=.is (.one (.sl id 0 0 k c))) (m:d.B id=some [.ints g k f]) (q:f.length=k)
  (j:aK E.P l (GH E N ⟨d.slots.set t (.is (.one (.ro (.int g) f))),(id,[])::d.blks,d.next⟩ G) n r x):aK E.P l (GH E N d G) n r x:=by
 refine mE (P:=E.P) (l1:=[]) (l2:=l) (GH E N ⟨d.slots.set t (.is (.one (.ro (.int g) f))),(id,[])::d.blks,d.next⟩ G) ?_ j;refine vE (fun i=>i=⟨d.slots.set t (.is (.one (.ro (.int g) f))),(id,[])::d.blks,d.next⟩) (fun _=>False) (fun _ _=>False) (fun w ids M num=>?_) (fun i a w e p=>e▸p) (fun _ _ _ h _=>h.elim) (fun _ _ _ _ h _=>h.elim);exact PH t id k c g f o m q (ke rfl)
theorem Wx {f:List (List Cell)} {p:Nat} {o:ai} (c:List (List Cell)) (z:∀ (t:ay) (i:Nat) (r:List Cell) (l:List Value),f[i]?=some r->ax t r l->∃ g,c[i]?=some g/\ax t g l) (I:f.length<=c.length) (w:World) (M:Mem) (F:Nat->Prop) (h:(ai.obj f p o).P w M F):(ai.obj c p o).P w M F:=by
 obtain⟨d,F2,y,K,A,C,D,E,G⟩:=h;have a:∀ (i b:Nat),(d++replicate (c.length-f.length) (none:Option Nat))[i]?=some (some b)↔d[i]?=some (some b):=by intro i b;rcases bN i d.length with hi|hi;rw[oJ hi];rw[qf hi,dQ hi,su];split<;>simp
 have n:Cd (d++replicate (c.length-f.length) none) w M=Cd d w M:=by
  have e:∀ i:Nat,((d++replicate (c.length-f.length) (none:Option Nat))[i]?).join=(d[i]?).join:=by intro i;rcases bN i d.length with hi|hi;rw[oJ hi];rw[qf hi,dQ hi,su];split<;>rfl
  unfold Cd;congr 1;funext i;exact e i;funext i;rw[e i]
 refine⟨d++replicate (c.length-f.length) none,F2,y,by rw[bb,oL];omega,(a 0 p).2 A,fun b=>(C b).trans ⟨fun q=>q.imp id fun ⟨i,hi⟩=>⟨i,(a i b).2 hi⟩,fun q=>q.imp id fun ⟨i,hi⟩=>⟨i,(a i b).1 hi⟩⟩,fun i b k=>D i b ((a i b).1 k),fun i j b hi H=>E i j b ((a i b).1 hi) ((a j b).1 H),fun i g b hi k=>?_⟩;have k:=(a i b).1 k;have m:i<f.length:=by rcases bN i d.length with hi'|hi';omega;rw[dQ hi'] at k;cases k
 obtain⟨l,g1,g2⟩:=G i _ b (bz m) k;obtain⟨u,s,x⟩:=z _ i _ l (bz m) g2;rw[hi] at s;cases s;exact⟨l,g1,by rw[n];exact x⟩
theorem HM {E:b5} {N:Nat} {n r:Act->World->Prop} {x:Nat->Act->World->Prop} {l:List Code} {a:St} {G G':ai} (d:∀ w M F,G.P w M F->G'.P w M F) (h:aK E.P l (GH E N a G') n r x):aK E.P l (GH E N a G) n r x:=nZ (fun _ _ e=>e.mono d) h
theorem SX {E:b5} {N:Nat} {n r:Act->World->Prop} {x:Nat->Act->World->Prop} {l:List Code} {f:St} {G:ai} (e:E.pins=[]) (id p d:Nat) (h:aK E.P l (GH E N f G) n r x):aK E.P l (GH { E with pins:=[(id,p)],ptop:=d } N f G) n r x:=by refine nZ (fun a w j=>?_) h;obtain⟨W,F,b,g,i⟩:=j;exact⟨W,F,⟨b.gl,b.kep,b.ids,b.foot,b.own,b.mem,b.old,fun q c=>(by rw[e] at c;cases c),fun q c=>(by rw[e] at c;cases c),b.mle⟩,g,i⟩
theorem Ar {E:Env} {N:Nat} {n r:St->Prop} {x:Nat->St->Prop} {l:List Code} {e:St} (t c:Nat) (cell:Cell) (V:e.S t=.is (.one (.v (.slice none 0 0)))) (K:Tr E N l ⟨e.slots.set t (.is (.one (.sl e.next 0 0 0 c))),(e.next,[cell])::e.blks,e.next+1⟩ n r x):Tr E N l e n r x:=by
 intro a w Q O T U W;refine K a w Q ?_ T U W;obtain⟨s,C,d,q⟩:=O;have k:∀ b,C e.next≠some b:=fun b h=>absurd (q _ _ h) (Nat.lt_irrefl _);have j:∀ i f b,St.B ⟨e.slots.set t (.is (.one (.sl e.next 0 0 0 c))),(e.next,[cell])::e.blks,e.next+1⟩ i=some f->C i=some b->e.B i=some f:=by
  intro i f b h z;simp only[St.B,cR] at h;cases F:beq e.next i with
  | true =>have:=fa F;subst this;exact absurd z (k b)
  | false=>rw[F] at h;exact h
 refine⟨by show (e.slots.set t _).length=N;rw[im];exact s,C,{ d with slots:=?_,blks:=?_,inj:=?_,mem:=?_ },fun id b h=>Bg (q id b h)⟩;intro u;show ((e.slots.set t _).getD u .junk).rel C _;rw[aX,wL];split;rename_i D;subst D;split;have A:=d.slots t;rw[V] at A;have A:[a.tmps.getD t Go.undef]=[Value.slice none 0 0]/\_:=A;exact .inl ⟨rfl,A.1⟩;trivial;rw[<- aX];exact d.slots u;intro i f h g b z;exact d.blks i f (j i f b h z) g b z;intro i G f m b h g H y o p;exact d.inj i G f m b (j i f b h o) g (j G m b H p) y o p;intro b l R;obtain⟨I,L⟩:=d.mem b l R;exact⟨fun i f h g o=>I i f (j i f b h o) g o,L⟩
theorem qS {E:b5} {N:Nat} {n r:Act->World->Prop} {x:Nat->Act->World->Prop} {l:List Code} {d:St} {G:ai} (t c:Nat) (cell:Cell) (j:d.S t=.is (.one (.v (.slice none 0 0))))
  (g:aK E.P l (GH E N ⟨d.slots.set t (.is (.one (.sl d.next 0 0 0 c))),(d.next,[cell])::d.blks,d.next+1⟩ G) n r x):aK E.P l (GH E N d G) n r x:=by
 refine mE (P:=E.P) (l1:=[]) (l2:=l) (GH E N ⟨d.slots.set t (.is (.one (.sl d.next 0 0 0 c))),(d.next,[cell])::d.blks,d.next+1⟩ G) ?_ g;refine vE (fun f=>f=⟨d.slots.set t (.is (.one (.sl d.next 0 0 0 c))),(d.next,[cell])::d.blks,d.next+1⟩) (fun _=>False) (fun _ _=>False) (fun w ids M num=>?_) (fun f a w e i=>e▸i) (fun _ _ _ h _=>h.elim) (fun _ _ _ _ h _=>h.elim);exact Ar t c cell j (ke rfl)
theorem PI {E:Env} {N:Nat} {n r:St->Prop} {x:Nat->St->Prop} {l:List Code} {e:St} (id:Nat) (cell:Cell) (p g:List Cell) (T:e.B id=some p) (D:p≠[]) (K:∀ (j:ay) (V:List Value),ax j p V->ax j g V)
  (h2:Tr E N l ⟨e.slots,(id,g)::(e.next,[cell])::e.blks,e.next+1⟩ n r x):Tr E N l e n r x:=by
 intro a w Q hh hn hr hx;refine h2 a w Q ?_ hn hr hx;obtain⟨C,j,f,A⟩:=hh;have o:∀ b,j e.next≠some b:=fun b h=>absurd (A _ _ h) (Nat.lt_irrefl _);have s:∀ i c b,St.B ⟨e.slots,(id,g)::(e.next,[cell])::e.blks,e.next+1⟩ i=some c->j i=some b->(i=id/\c=g)\/e.B i=some c:=by
  intro i c b h m;simp only[St.B,cR] at h;cases L:beq id i with
  | true =>rw[L] at h;exact .inl ⟨(fa L).symm,(jT h).symm⟩
  | false =>
   rw[L] at h;cases u:beq e.next i with
   | true =>have:=fa u;subst this;exact absurd m (o b)
   | false=>rw[u] at h;exact .inr h
 have k:∀ i c b,St.B ⟨e.slots,(id,g)::(e.next,[cell])::e.blks,e.next+1⟩ i=some c->j i=some b->∃ H,e.B i=some H/\(c≠[]->H≠[]):=by intro i c b h m;rcases s i c b h m with ⟨rfl,rfl⟩|h;exact⟨p,T,fun _=>D⟩;exact⟨c,h,fun q=>q⟩
 refine⟨C,j,{ f with blks:=?_,inj:=?_,mem:=?_ },fun id b h=>Bg (A id b h)⟩;intro i c h t b m;rcases s i c b h m with ⟨rfl,rfl⟩|h;obtain⟨l,F,G⟩:=f.blks i p T D b m;exact⟨l,F,K j l G⟩;exact f.blks i c h t b m;intro i U c H b h t Y I y z;obtain⟨d,F,G⟩:=k i c b h y;obtain⟨W,O,R⟩:=k U H b Y z;exact f.inj i U d W b F (G t) O (R I) y z;intro b l hm;obtain⟨Z,h3⟩:=f.mem b l hm;refine⟨fun i c h t y=>?_,h3⟩;obtain⟨d,F,G⟩:=k i c b h y;exact Z i d F (G t) y
theorem yy {E:b5} {N:Nat} {n r:Act->World->Prop} {x:Nat->Act->World->Prop} (q:aD E.P E.sp) (O:E.P.follows .mixedOrders=true) {l:List Code} {c:Code} (I:Nat->St) (G:Nat->ai) (m:Nat) (L:l.head?=some c) (K:dn c=true)
  (C:∀ k,k<=m->∀ (w:World) (ids:List (Nat × Nat)) (M:Mem) (num:Nat × Nat->Nat),VC ⟨E.P,E.sp,⟨w,ids,E.gl,M,num,(I k).next⟩⟩ ((aZ c).take 2) (I k) (fun d=>d.le (cj E) (I k) (k<m)) (fun _=>False) (fun i d=>match beq i (b7 c) with|true=>d.le (cj E) (I k) (k=m)|false=>False))
  (D:∀ k,k<m->aK E.P ((aZ c).drop 2) (GH E N (I k) (G k)) (GH E N (I (k+1)) (G (k+1))) r (fun _ _ _=>False))
  (F:aK E.P l.tail (GH E N (I m) (G m)) n r x):aK E.P l (GH E N (I 0) (G 0)) n r x:=by
 refine zB (α:=Nat) (β:=Unit) (fun k a w=>k<=m/\GH E N (I k) (G k) a w) (fun k=>m-k) (fun _ a w=>GH E N (I m) (G m) a w) L K (fun a w h=>⟨0,a2 _,h⟩) (fun k=>?_) (fun _=>F);rw[<- dR 2 (aZ c)];refine mE (fun a w=>k<m/\GH E N (I k) (G k) a w) ?_ ?_
 ·intro a w Q f s t y;obtain⟨g,o⟩:=f;refine kK (E:=E) (N:=N) (G:=G k) q O _ (fun _=>False) (fun i d=>match beq i (b7 c) with|true=>d.le (cj E) (I k) (k=m)|false=>False) (C k g) (fun d a w h f=>?_) (fun _ _ _ h _=>h.elim) (fun i d a w h f=>?_) a w Q o s t y;exact f.le h
  ·revert h;cases beq i (b7 c) with
   | true =>intro h;obtain⟨e,p⟩:=f.le h;exact⟨(),e▸p⟩
   | false=>intro h;exact h.elim
 intro a w Q f s t y;obtain⟨g,o⟩:=f;exact D k g a w Q o (fun u A j=>s u A ⟨k+1,⟨g,j⟩,aa⟩) t (fun i u A j=>j.elim)
theorem IT {k b:ay} (a:ay.le k b) {c m:Cell} {f:List Cell} (n:∀ v,c.rel k v->m.rel b v):∀ (pre:List Cell) (l:List Value),ax k (pre++c::f) l->ax b (pre++m::f) l
 | [],l,⟨g,h,e,i,j⟩=>⟨g,h,e,n g i,dW a j⟩
 | d::pre,l,⟨g,h,e,i,j⟩=>⟨g,h,e,Cell.fi a i,IT a n pre h j⟩
theorem abC {E:Env} {N:Nat} {n r:St->Prop} {x:Nat->St->Prop} {l:List Code} {z:St} (pre:List Cell) (X id k c:Nat) (e:Kd) (K:List (aA e)) (cell:Cell) (H:List Cell) (z0:X≠id) (x0:∀ (s:ay) (vs:List Value),cell.rel s vs->K.length=k/\dY (Rd s.M e) K vs) (hS:z.B X=some (pre++.sl id 0 0 k c::H)) (hB:z.B id=some [cell]) (hx:K.length=k)
  (W:Tr E N l ⟨z.slots,(id,[])::(X,pre++.ro e K::H)::z.blks,z.next⟩ n r x):Tr E N l z n r x:=by
 classical
 intro a w Q hh hn hr hx;refine W a w Q ?_ hn hr hx;obtain⟨y1,s,d,y0⟩:=hh;refine⟨y1,?_⟩;have x6:∀ i p,St.B ⟨z.slots,(id,[])::(X,pre++.ro e K::H)::z.blks,z.next⟩ i=some p->p≠[]->i≠id/\((X≠i/\z.B i=some p)\/X=i/\p=pre++.ro e K::H):=by
  intro i p h f;simp only[St.B,cR] at h;cases I:beq id i with
  | true=>rw[I] at h;simp only[az] at h;exact absurd h.symm f
  | false =>
   rw[I] at h;refine⟨fun e=>(by subst e;rw[iq] at I;cases I),?_⟩;cases L:beq X i with
   | true=>rw[L] at h;simp only[az] at h;exact .inr ⟨fa L,h.symm⟩
   | false =>rw[L] at h;exact .inl ⟨fun e=>(by subst e;rw[iq] at L;cases L),h⟩
 have A:∀ i p,St.B ⟨z.slots,(id,[])::(X,pre++.ro e K::H)::z.blks,z.next⟩ i=some p->p≠[]->i≠id/\∃ G,z.B i=some G/\G≠[]:=by intro i p h f;obtain⟨D,⟨_,W⟩|⟨rfl,_⟩⟩:=x6 i p h f;exact⟨D,_,W,f⟩;exact⟨D,_,hS,au⟩
 have Y:∀ (t:ay),ay.le s t->(∀ v,(Cell.sl id 0 0 k c).rel s v->(Cell.ro e K).rel t v)->∀ i p,St.B ⟨z.slots,(id,[])::(X,pre++.ro e K::H)::z.blks,z.next⟩ i=some p->p≠[]->∀ b,t i=some b->s i=some b->∃ l,b6 w b (s.n i) l/\ax t p l:=by intro t O hc i p h f b _ I;obtain⟨_,⟨_,W⟩|⟨rfl,rfl⟩⟩:=x6 i p h f;obtain⟨l,D,Z⟩:=d.blks i p W f b I;exact⟨l,D,dW O Z⟩;obtain⟨l,D,Z⟩:=d.blks _ _ hS au b I;exact⟨l,D,IT O hc pre l Z⟩
 by_cases x9:∃ b,s id=some b
 ·obtain⟨b,I⟩:=x9;obtain⟨l0,x7,v1,v2,e1,y5,e2⟩:=d.blks id _ hB au b I;obtain⟨y9,y3⟩:=x0 s v1 y5;have e2:v2=[]:=e2;subst e2;rw[bq] at e1;subst e1;have x3:s.M b=none:=by
   cases C:s.M b with
   | none=>rfl
   | some l=>exact absurd I ((d.mem b l C).1 id _ hB au)
  obtain⟨T,el,fr,x2,y7,_⟩:=x7;have y2:=fun hn=>kB x2 hn;let t:ay:=⟨s.m,s.n,fun j=>if j=b then b8 w b else s.M j⟩;have F:Mem.le s.M t.M:=by intro j l hl;show (if j=b then b8 w b else s.M j)=some l;by_cases e:j=b;subst e;rw[x3] at hl;cases hl;rw[ah e];exact hl
  have O:ay.le s t:=⟨fun _ _ h=>⟨h,rfl⟩,F⟩;have y4:l0++T≠[]->t.M b=some (l0++T):=fun hn=>by show (if b=b then b8 w b else _)=_;rw[aj rfl,y2 hn]
  have x1:∀ v,(Cell.sl id 0 0 k c).rel s v->(Cell.ro e K).rel t v:=by
   intro v U;rcases U with ⟨hz,U⟩|⟨j,o,x5,q,x8,ho,y8,U⟩;have x4:K=[]:=dP aa;subst x4;exact .inl ⟨rfl,none,0,U,fun _=>rfl⟩
   ·have eb:j=b:=by rw[I] at q;simpa using q.symm
    subst eb;rw[U];rcases ho with rfl|rfl;have hl:=fY (fun _ _=>bV) y3;refine .inr ⟨j,0+0*c,x5,by rw[y9],aa,l0++T,y4,by rw[bb,hl];omega,?_⟩;rw[show 0+0*c=0 by omega,gT,<- hl,lr rfl];exact eg (fun _ _ h=>c9 F h) y3;exact .inl ⟨dP aa,some ⟨j,o,none⟩,0,by rw[show k=0 by omega],fun h=>by cases h⟩
  refine⟨t,{ d with slots:=fun u=>SV.fi O (d.slots u),blks:=?_,inj:=?_,mem:=?_,old:=?_,glob:=?_,bound:=d.bound,init:=d.init,memle:=fun j l' q=>F j l' (d.memle j l' q) },y0⟩;intro i p h f j q;exact Y t O x1 i p h f j q q;intro i i' p G j h f h' R g1 g2;obtain⟨_,V,D,n1⟩:=A i p h f;obtain⟨_,d2,W,n2⟩:=A i' G h' R;exact d.inj i i' V d2 j D n1 W n2 g1 g2
  ·intro j l C;have C:(if j=b then b8 w b else s.M j)=some l:=C;by_cases e:j=b
   ·subst e;rw[aj rfl] at C
    refine⟨fun i p h f hi=>by
     obtain⟨g0,V,g1,g2⟩:=A i p h f
     exact g0 (d.inj i id V _ j g1 g2 hB au hi I),?_⟩
    obtain⟨el,fr,hh⟩:=iJ C;exact⟨el,fr,hh⟩
   ·rw[ah e] at C;obtain⟨D,Z⟩:=d.mem j l C
    exact⟨fun i p h f=>by
     obtain⟨_,V,g1,g2⟩:=A i p h f
     exact D i V g1 g2,Z⟩
  intro j l C y6;have C:(if j=b then b8 w b else s.M j)=some l:=C;by_cases e:j=b;subst e;rcases (d.bound id j I).1 with h|h;omega;exact .inl h;rw[ah e] at C;exact d.old j l C y6;intro g κ y hg;exact kg F (d.glob g κ y hg)
 ·have x1:∀ v,(Cell.sl id 0 0 k c).rel s v->(Cell.ro e K).rel s v:=by
   intro v U;rcases U with ⟨hz,U⟩|⟨j,o,x5,q,x8,ho,y8,U⟩;have x4:K=[]:=dP aa;subst x4;exact .inl ⟨rfl,none,0,U,fun _=>rfl⟩;exact absurd ⟨j,q⟩ x9
  refine⟨s,{ d with blks:=?_,inj:=?_,mem:=?_ },y0⟩;intro i p h f j q;exact Y s (ay.le_refl s) x1 i p h f j q q;intro i i' p G j h f h' R g1 g2;obtain⟨_,V,D,n1⟩:=A i p h f;obtain⟨_,d2,W,n2⟩:=A i' G h' R;exact d.inj i i' V d2 j D n1 W n2 g1 g2
  ·intro b l C;obtain⟨D,Z⟩:=d.mem b l C
   exact⟨fun i p h f=>by
    obtain⟨_,V,g1,g2⟩:=A i p h f
    exact D i V g1 g2,Z⟩
theorem sM {E:b5} {N:Nat} {n r:Act->World->Prop} {x:Nat->Act->World->Prop} {l:List Code} {b:St} {G:ai} (pre:List Cell) (i id k c:Nat) (e:Kd) (g:List (aA e)) (cell:Cell) (d:List Cell) (j:i≠id) (f:∀ (p:ay) (o:List Value),cell.rel p o->g.length=k/\dY (Rd p.M e) g o) (u:b.B i=some (pre++.sl id 0 0 k c::d)) (t:b.B id=some [cell]) (z:g.length=k)
  (s:aK E.P l (GH E N ⟨b.slots,(id,[])::(i,pre++.ro e g::d)::b.blks,b.next⟩ G) n r x):aK E.P l (GH E N b G) n r x:=by
 refine mE (P:=E.P) (l1:=[]) (l2:=l) (GH E N ⟨b.slots,(id,[])::(i,pre++.ro e g::d)::b.blks,b.next⟩ G) ?_ s;refine vE (fun m=>m=⟨b.slots,(id,[])::(i,pre++.ro e g::d)::b.blks,b.next⟩) (fun _=>False) (fun _ _=>False) (fun w ids M num=>?_) (fun m a w e y=>e▸y) (fun _ _ _ h _=>h.elim) (fun _ _ _ _ h _=>h.elim);exact abC pre i id k c e g cell d j f u t z (ke rfl)
theorem K9 {E:b5} {N:Nat} {n r:Act->World->Prop} {x:Nat->Act->World->Prop} (u:aD E.P E.sp) (O:E.P.follows .mixedOrders=true) {l:List Code} {c:Code} (I:Nat->St) (G:Nat->ai) (J:Nat->Prop) (m:Nat) (L:l.head?=some c) (H:dn c=true) (A:J 0)
  (C:∀ k,k<=m->∀ (w:World) (ids:List (Nat × Nat)) (M:Mem) (num:Nat × Nat->Nat),VC ⟨E.P,E.sp,⟨w,ids,E.gl,M,num,(I k).next⟩⟩ ((aZ c).take 2) (I k) (fun b=>b.le (cj E) (I k) (k<m)) (fun _=>False) (fun i b=>match beq i (b7 c) with|true=>b.le (cj E) (I k) (k=m)|false=>False))
  (D:∀ k,k<m->J k->aK E.P ((aZ c).drop 2) (GH E N (I k) (G k)) (fun a w=>J (k+1)/\GH E N (I (k+1)) (G (k+1)) a w) r (fun _ _ _=>False))
  (F:J m->aK E.P l.tail (GH E N (I m) (G m)) n r x):aK E.P l (GH E N (I 0) (G 0)) n r x:=by
 refine zB (α:=Nat) (β:=Unit) (fun k a w=>(k<=m/\J k)/\GH E N (I k) (G k) a w) (fun k=>m-k) (fun _ a w=>J m/\GH E N (I m) (G m) a w) L H (fun a w h=>⟨0,⟨a2 _,A⟩,h⟩) (fun k=>?_) (fun _=>?_)
 ·rw[<- dR 2 (aZ c)];refine mE (fun a w=>(k<m/\J k)/\GH E N (I k) (G k) a w) ?_ ?_
  ·intro a w Q d j o s;obtain⟨g,t⟩:=d;refine kK (E:=E) (N:=N) (G:=G k) u O _ (fun _=>False) (fun i b=>match beq i (b7 c) with|true=>b.le (cj E) (I k) (k=m)|false=>False) (C k g.1) (fun b a w h d=>?_) (fun _ _ _ h _=>h.elim) (fun i b a w h d=>?_) a w Q t j o s;obtain⟨e,f⟩:=d.le h;exact⟨⟨e,g.2⟩,f⟩
   ·revert h;cases beq i (b7 c) with
    | true =>intro h;obtain⟨e,f⟩:=d.le h;exact⟨(),e▸g.2,e▸f⟩
    | false=>intro h;exact h.elim
  intro a w Q d j o s;obtain⟨⟨g,K⟩,t⟩:=d;exact D k g K a w Q t (fun y z p=>j y z ⟨k+1,⟨⟨g,p.1⟩,p.2⟩,aa⟩) o (fun i y z p=>p.elim)
 intro a w Q d j o s;exact F d.1 a w Q d.2 j o s
theorem Qz {E:b5} {N:Nat} {n r:Act->World->Prop} {x:Nat->Act->World->Prop} {l:List Code} {e:Array Oper} {i:Nat} {d:St} {bl:List (List Cell)} {id p:Nat} {g:ai} (K L:List Nat) (u:E.pins=[]) (j:(L.all fun i => !ez i K)=true) (a:(ga d.B K&&ga d.B L&&kN L&&xa d.B L)=true) (s:L[0]?=some id) (k:((L.map fun i=>(rY d.B i).map (Cell.rZ (pos L))).map fun q=>q.map Gg)=bl) (f:Nat)
  (o:St) (m:(kD d K id p).le (cj E) o True) (h:kt E.P e i l (GH E N o (ai.obj bl p g)) n r x):kt E.P e i l (GH { E with pins:=[(id,p)],ptop:=f } N d g) n r x :=
 iD (fun _ _ t=>((oU K L u j a s k f t).le m).2) h
theorem xc {e:IntKind} {a:List Int} {k:Nat} (f:ay) (d:List Value) (h:(Cell.ints e k a).rel f d):a.length=k/\dY (Rd f.M (.int e)) a d:=by
 obtain⟨b,rfl⟩:=h;refine⟨b,?_⟩;clear b;induction a with
 | nil=>rfl
 | cons y a g=>exact⟨[_],_,rfl,rfl,g⟩
end Ob
end Go.Eng
namespace Go.Proofs.YtofofalgjibokaaGreatDoor
namespace hub
open Go.IntKind(i64)
open Go.Hbn(Talk a5 eF)
abbrev km:Kd:=.pair (.int .i64) (.pair (.int .i64) (.pair (.int .i64) (.pair (.int .i64) (.pair (.int .i64) (.pair (.int .i64) (.sl (.int .u8)))))))
abbrev fx:Kd:=.pair (.int .i64) (.pair (.int .i64) (.sl (.int .u8)))
abbrev US (n k:Nat) (ms:List Hbm.aC) (a:List Hbm.Told):List (List Cell):=[[.sl 1 0 0 n 7,.sl 2 0 0 k 3],[.row km n ms],[.row fx k a]]
def eX (a:Nat) (ms:List Hbm.aC) (b:List Hbm.Told):Ob.ai:=Ob.ai.obj (US ms.length b.length ms b) a Ob.ai.none
theorem Bp (a n k:Nat) (ms:List Hbm.aC) (b:List Hbm.Told) (d:n=ms.length) (c:k=b.length) (R:Ob.ai):Ob.ai.obj (US n k ms b) a R=Ob.ai.sep R (eX a ms b):=by subst d c;rw[Ob.bB,Ob.wb];rfl
theorem S8 (H:a5) (R:Ob.ai):Ob.ai.sep (bu H) R=Ob.ai.obj [c5 H.me H.mem H.mp] H.p (Ob.ai.sep (Ob.ai.sep (fm H.mp (hI H.talks)) (fu H.talks)) R):=by rw[Ob.bB];unfold bu jz;ac_rfl
def tv (rec:a5->Hbm.aC->eF) (K:Nat):Prop:=∀ H m,(rec H m).2.1.length<=K/\(rec H m).2.2.length<=K
theorem B1 {rec:a5->Hbm.aC->eF} {K:Nat} (h:tv rec K):tv (Hbn.jl rec) (2*K+2):=by
 have b:∀ H i m,(Hbn.kc H i m).2.1.length<=0/\(Hbn.kc H i m).2.2.length<=1:=by intro H i m;unfold Hbn.kc;split<;>simp
 have a:∀ H i m,(Hbn.dK rec H i m).2.1.length<=K+1/\(Hbn.dK rec H i m).2.2.length<=K+1:=by intro H i m;unfold Hbn.dK;split;have c:=h (H.set i { H.get i with ready:=true }) (Hbn.own (H.set i { H.get i with ready:=true }) 3 m);have d:=b ((Hbn.l8 rec (H.set i { H.get i with ready:=true }) 3 m).1) i m;unfold Hbn.andThen Hbn.l8 Hbn.plus at *;simp only[bb,bG,eG] at *;omega;have:=b H i m;omega
 intro H m;unfold Hbn.jl Hbn.mF;split;split;split;have c:=h (H.set (H.at m) { H.get (H.at m) with begun:=true }) (Hbn.own (H.set (H.at m) { H.get (H.at m) with begun:=true }) 2 m);have d:=a ((Hbn.l8 rec (H.set (H.at m) { H.get (H.at m) with begun:=true }) 2 m).1) (H.at m) m;unfold Hbn.andThen Hbn.l8 Hbn.plus at *;simp only[bb,bG,eG] at *;omega;have:=a H (H.at m) m;omega;split;split;simp;have:=a (H.set (H.at m) { H.get (H.at m) with ech:=(H.get (H.at m)).ech++[(m.aW,m.body)] }) (H.at m) m;omega;split;simp;have:=a (H.set (H.at m) { H.get (H.at m) with rdy:=(H.get (H.at m)).rdy++[(m.aW,m.body)] }) (H.at m) m;omega;simp
structure HIn where
 H:a5
 m:Hbm.aC
 a:Nat
 ms:List Hbm.aC
 ts:List Hbm.Told
def tt (gl:Nat->Option (Sigma aA)) (rec:a5->Hbm.aC->eF) (b:a5->Hbm.aC->Prop) (c:Nat):Prop :=
 Ob.dG Tryz.prog gl 81 (fun z:HIn=>[aG z.H.p,l5 z.m,aG z.a]) (fun z=>dr z.H/\e6 z.H.mem z.m/\z.H.at z.m<z.H.talks.length/\z.ms.length+c<=1000/\z.ts.length+c<=1000/\b z.H z.m)
  (fun z=>Ob.ai.sep (bu z.H) (eX z.a z.ms z.ts)) (fun _ (_:Unit)=>.tup []) (fun z _=>Ob.ai.sep (bu (rec z.H z.m).1) (eX z.a (z.ms++(rec z.H z.m).2.1) (z.ts++(rec z.H z.m).2.2))) (fun _ _=>True)
structure SIn where
 H:a5
 k:Int
 m:Hbm.aC
 a:Nat
 ms:List Hbm.aC
 ts:List Hbm.Told
def afi (gl:Nat->Option (Sigma aA)) (rec:a5->Hbm.aC->eF) (b:a5->Hbm.aC->Prop) (c:Nat):Prop :=
 Ob.dG Tryz.prog gl 123 (fun z:SIn=>[aG z.H.p,sI .i64 z.k,l5 z.m,aG z.a]) (fun z=>dr z.H/\e6 z.H.mem z.m/\z.H.at z.m<z.H.talks.length/\(z.k=2\/z.k=3)/\z.ms.length+(c+1)<=1000/\z.ts.length+c<=1000/\b z.H (Hbn.own z.H z.k z.m))
  (fun z=>Ob.ai.sep (bu z.H) (eX z.a z.ms z.ts)) (fun _ (_:Unit)=>.tup []) (fun z _=>Ob.ai.sep (bu (Hbn.l8 rec z.H z.k z.m).1) (eX z.a (z.ms++(Hbn.l8 rec z.H z.k z.m).2.1) (z.ts++(Hbn.l8 rec z.H z.k z.m).2.2))) (fun _ _=>True)
theorem qj:enters Tryz.prog 81 Tryz.f81:=ek
theorem qN:enters Tryz.prog 123 Tryz.f123:=ek
abbrev pf:Func:=Tryz.f123
def syA (p a:Nat) (k:Int) (m:Hbm.aC):St:=ar pf.ntmps 8 [(0,aG p),(1,sI .i64 k),(3,aG a),(6,.is (.one (.ptr 0 0)))] [(0,cZ m)]
def syB (a:Nat) (k:Int) (m:Hbm.aC) (b:Int) (mem:List Int) (c:Nat):St:=ar pf.ntmps 9 [(0,.is (.one (.ptr 8 0))),(1,sI .i64 k),(3,aG a),(6,.is (.one (.ptr 0 0)))] [(8,c5 b mem c),(0,cZ m)]
abbrev MG (a k:Int) (m:Hbm.aC):Hbm.aC:=(k,0,a,m.bO,m.bD,0,m.body)
def syC (a:Nat) (k:Int) (m:Hbm.aC) (b:Int) (mem:List Int) (c:Nat):St:=ar pf.ntmps 129 [(0,.is (.one (.ptr 8 0))),(3,aG a),(8,.is (.one (.ptr 113 0)))] [(8,c5 b mem c),(113,cZ (MG b k m))]
def Ps (p a:Nat) (m:Hbm.aC):St:=ar pf.ntmps 129 [(0,aG p),(3,aG a),(8,.is (.one (.ptr 113 0)))] [(113,cZ m)]
def syE (p:Nat) (m:Hbm.aC) (n k:Nat) (ms:List Hbm.aC) (a:List Hbm.Told):St:=ar pf.ntmps 132 [(0,aG p),(3,.is (.one (.ptr 129 0))),(8,.is (.one (.ptr 113 0)))] [(113,cZ m),(129,[.sl 130 0 0 n 7,.sl 131 0 0 k 3]),(130,[.row km n ms]),(131,[.row fx k a])]
def ae2 (p:Nat) (m:Hbm.aC) (n k:Nat) (ms:List Hbm.aC) (a:List Hbm.Told):St:=ar pf.ntmps 220 [(0,aG p),(3,.is (.one (.ptr 129 0))),(8,.is (.one (.ptr 113 0)))] [(113,cZ m),(129,[.sl 188 0 0 (n+1) 7,.sl 131 0 0 k 3]),(188,[.row km (n+1) ms]),(131,[.row fx k a])]
abbrev Xj:=aP [qv]
theorem yZ:aD Tryz.prog Xj:=aJ ug bp
section
variable (gl:Nat->Option (Sigma aA)) (w0:World) (M0:Mem) (F0:Nat->Prop)
abbrev GZ:Ob.b5:=Ob.kO Tryz.prog Xj gl w0 M0 F0
theorem afX (p a i:Nat) (d:Int) (mem:List Int) (k:Int) (m:Hbm.aC) (j:m.body.length<1048576) (R:Ob.ai) {n r:Act->World->Prop} {x:Nat->Act->World->Prop}
  (h:Ob.aK Tryz.prog ((ak pf).drop 2) (Ob.GH (GZ gl w0 M0 F0) pf.ntmps (Ps p a (MG d k m)) (Ob.ai.obj [c5 d mem i] p R)) n r x) :
  Ob.aK Tryz.prog (ak pf) (Ob.GH (GZ gl w0 M0 F0) pf.ntmps (ln pf [aG p,sI .i64 k,l5 m,aG a] [] 0) (Ob.ai.obj [c5 d mem i] p R)) n r x:=by
 obtain⟨mk,b,e,g,mt,f,c⟩:=m;refine Ob.gcd yZ 1 (fun _=>()) (fun _=>syA p a k (mk,b,e,g,mt,f,c)) (fun _=>True) ?_ (fun _ _=>?_);intro w ids M num;refine al (X:=((syA p a k (mk,b,e,g,mt,f,c)).ag True)) ab ?_;exact ao trivial;refine Ob.gZ [0] (syB a k (mk,b,e,g,mt,f,c) d mem i) ?_;refine Ob.gcd yZ 1 (fun _=>()) (fun _=>syC a k (mk,b,e,g,mt,f,c) d mem i) (fun _=>True) ?_ (fun _ _=>?_);intro w ids M num;refine al (X:=(o4 (c,())/\(syC a k (mk,b,e,g,mt,f,c) d mem i).ag True)) ab ?_;exact⟨j,ao trivial⟩;exact Ob.kj (E:=GZ gl w0 M0 F0) [113] [8] rfl ab ab rfl ab 9 (Ps p a (MG d k (mk,b,e,g,mt,f,c))) (aw ab ab trivial) h
theorem afY (p a:Nat) (m:Hbm.aC) (ms:List Hbm.aC) (c:List Hbm.Told) (k:ms.length<1000) (G:Ob.ai) {n r:Act->World->Prop} {x:Nat->Act->World->Prop}
  (h:Ob.aK Tryz.prog ((ak pf).drop 3) (Ob.GH (GZ gl w0 M0 F0) pf.ntmps (Ps p a m) (Ob.ai.sep G (eX a (ms++[m]) c))) n r x) :
  Ob.aK Tryz.prog ((ak pf).drop 2) (Ob.GH (GZ gl w0 M0 F0) pf.ntmps (Ps p a m) (Ob.ai.sep G (eX a ms c))) n r x:=by
 rw[<- Bp a ms.length c.length ms c rfl rfl G];rw[<- Bp a (ms.length+1) c.length (ms++[m]) c au rfl G] at h;obtain⟨mk,b,e,g,mt,f,d⟩:=m;refine Ob.gZ [3] (syE p (mk,b,e,g,mt,f,d) ms.length c.length ms c) ?_;refine Ob.gcd yZ 1 (fun j=>cU km 188 j) (fun q=>ae2 p (mk,b,e,g,mt,f,d) ms.length c.length q c) (fun q=>q=ms++[(mk,b,e,g,mt,f,d)]) ?_ (fun q i=>?_);intro w ids M num;refine al (X:=(0+1<=1/\ms.length<=ms.length/\(ms.length+1)*72<=140737488355328/\ms.length+1<=4611686018427387904/\(ae2 p (mk,b,e,g,mt,f,d) ms.length c.length (take ms.length ms++take 1 [(mk,b,e,g,mt,f,d)]) c).ag (take ms.length ms++take 1 [(mk,b,e,g,mt,f,d)]=ms++[(mk,b,e,g,mt,f,d)]))) ab ?_;refine⟨ae,aE _,aa,aa,ao ?_⟩;rw[aV];rfl;subst i;exact Ob.kj (E:=GZ gl w0 M0 F0) [113] [129,188,131] rfl ab ab rfl ab 130 (Ps p a (mk,b,e,g,mt,f,d)) (aw ab ab trivial) h
def syG (p a:Nat) (m:Hbm.aC):St:=ar pf.ntmps 129 [(32,aG p),(33,l5 m),(34,aG a)] []
theorem afZ (p a:Nat) (m:Hbm.aC) (G:Ob.ai) {n r:Act->World->Prop} {x:Nat->Act->World->Prop}
  (h:Ob.kt Tryz.prog (bo (aq (ak pf) 3)) 3 ((ak pf).drop 4) (Ob.GH (GZ gl w0 M0 F0) pf.ntmps (syG p a m) G) n r x) :
  Ob.aK Tryz.prog ((ak pf).drop 3) (Ob.GH (GZ gl w0 M0 F0) pf.ntmps (Ps p a m) G) n r x:=by
 obtain⟨mk,b,d,f,mt,e,c⟩:=m;refine Ob.dB 3 (bo (aq (ak pf) 3)) ?_;refine Ob.fD yZ 3 (fun _=>()) (fun _=>syG p a (mk,b,d,f,mt,e,c)) (fun _=>True) ?_ (fun _ _=>h);intro w ids M num;refine al (X:=((syG p a (mk,b,d,f,mt,e,c)).ag True)) ab ?_;exact ao trivial
end
theorem T4 {gl:Nat->Option (Sigma aA)} {rec:a5->Hbm.aC->eF} {h:a5->Hbm.aC->Prop} {c:Nat} (i:tt gl rec h c):afi gl rec h c:=by refine Ob.cA (sp:=Xj) qN ab (fun z=>by show 4<=pf.ntmps;exact Odt ab) (fun z _=>rfl) ?_;rintro⟨H,k,m,a,ms,f⟩ ⟨g,e,j,l,d,b,n⟩ w M F;have d:ms.length+(c+1)<=1000:=d;have b:f.length+c<=1000:=b;have e:e6 H.mem m:=e;have o:=e.bD;refine Ob.aO (S8 H _) ?_;refine afX gl w M F H.p a H.mp H.me H.mem k m aa _ ?_;refine Ob.aO (S8 H _).symm ?_;refine afY gl w M F H.p a (MG H.me k m) ms f aa _ ?_;refine afZ gl w M F H.p a (MG H.me k m) _ ?_;refine Ob.gz (E:=GZ gl w M F) i ⟨H,MG H.me k m,a,ms++[MG H.me k m],f⟩ ⟨g,e.own g.me l,j,by simp only[bb,bG,eG];omega,b,n⟩ qj (fun _ _=>?_);refine Ob.dv ?_;refine Ob.g9 yZ mixed (.tup []) ?_ ⟨(),trivial,Ob.a7 _,?_⟩;intro w ids M num;refine al (X:=(SV.tup []=SV.tup [])) ab ?_;rfl;show Ob.ai.sep (bu (rec H (Hbn.own H k m)).1) (eX a (ms++[Hbn.own H k m]++(rec H (Hbn.own H k m)).2.1) (f++(rec H (Hbn.own H k m)).2.2))=_;rw[cB];rfl
set_option maxHeartbeats 4000000
def Rm (H:a5) (i:Nat) (A:Ob.ai):Ob.ai:=Ob.ai.sep (jz H.p H.me H.mem H.mp) (Ob.ai.sep (fm H.mp (hI H.talks)) (Ob.ai.sep (fu (H.talks.eraseIdx i)) A))
def JG (t:Talk) (R:Ob.ai):Ob.ai:=Ob.ai.obj [bY t.begun t.ready t.told t.e t.r] t.ptr (Ob.ai.sep (bP t.r t.rdy) (Ob.ai.sep (bP t.e t.ech) R))
theorem Wf {H:a5} {i:Nat} (a:i<H.talks.length) {t:Talk} (e:tid t=tid (H.get i)):hI (H.set i t).talks=hI H.talks:=by have:=congrArg (List.map fun q:(Int × Int) × Nat × Nat × Nat=>(q.1,q.2.1)) (j9 a e).ids;simp only[lx] at this;exact this
theorem td {H:a5} {i:Nat} (a:i<H.talks.length) {t:Talk} (e:tid t=tid (H.get i)) (A:Ob.ai):Ob.ai.sep (bu (H.set i t)) A=JG t (Rm H i A):=by unfold bu;rw[Wf a e];show Ob.ai.sep (Ob.ai.sep (jz H.p H.me H.mem H.mp) (Ob.ai.sep (fm H.mp (hI H.talks)) (fu (H.talks.set i t)))) A=_;rw[G4 _ _ _ a];unfold Rm G3 JG;rw[Ob.bB [bY t.begun t.ready t.told t.e t.r] t.ptr (Ob.ai.sep (bP t.r t.rdy) (bP t.e t.ech)),Ob.bB [bY t.begun t.ready t.told t.e t.r] t.ptr (Ob.ai.sep (bP t.r t.rdy) (Ob.ai.sep (bP t.e t.ech) _))];ac_rfl
theorem ri {H:a5} {i:Nat} (a:i<H.talks.length) (A:Ob.ai):Ob.ai.sep (bu H) A=JG (H.get i) (Rm H i A):=by
 rw[<- td a rfl A];have:H.set i (H.get i)=H:=by
  unfold Hbn.a5.set;have h:=get_at a
  rw[show H.talks.set i (H.get i)=H.talks from by
   rw[bz a] at h
   rw[<- jT h];exact List.set_getElem_self a]
 rw[this]
theorem BC:enters Tryz.prog 125 Tryz.f125:=ek
abbrev df:Func:=Tryz.f125
def cnA (p b a:Nat) (m:Hbm.aC):St:=ar df.ntmps 8 [(0,aG p),(1,aG b),(3,aG a),(6,.is (.one (.ptr 0 0)))] [(0,cZ m)]
def ahN (p b a:Nat) (m:Hbm.aC):St:=ar df.ntmps 8 [(0,aG p),(1,aG b),(3,aG a),(6,.is (.one (.ptr 0 0))),(10,aG p)] [(0,cZ m)]
def cnB (p b a:Nat) (m:Hbm.aC) (f:Int):St:=ar df.ntmps 8 [(0,aG p),(1,aG b),(3,aG a),(6,.is (.one (.ptr 0 0))),(8,sI .i64 f)] [(0,cZ m)]
def cnC (d a:Nat) (m:Hbm.aC) (f:Int) (b:Int) (mem:List Int) (c:Nat):St:=ar df.ntmps 9 [(0,.is (.one (.ptr 8 0))),(1,aG d),(3,aG a),(6,.is (.one (.ptr 0 0))),(8,sI .i64 f)] [(8,c5 b mem c),(0,cZ m)]
def cnD (e a:Nat) (m:Hbm.aC) (f:Int) (c:Int) (mem:List Int) (d:Nat) (b:Int):St:=ar df.ntmps 9 [(0,.is (.one (.ptr 8 0))),(1,aG e),(3,aG a),(6,.is (.one (.ptr 0 0))),(8,sI .i64 f),(9,sI .i64 b)] [(8,c5 c mem d),(0,cZ m)]
def DK (p d a:Nat) (m:Hbm.aC) (f c:Int):St:=ar df.ntmps 8 [(0,aG p),(1,aG d),(3,aG a),(6,.is (.one (.ptr 0 0))),(8,sI .i64 f),(9,sI .i64 c)] [(0,cZ m)]
abbrev U2:=aP [qv]
theorem fC:aD Tryz.prog U2:=aJ ug bp
section
variable (gl:Nat->Option (Sigma aA)) (w0:World) (M0:Mem) (F0:Nat->Prop)
abbrev eB:Ob.b5:=Ob.kO Tryz.prog U2 gl w0 M0 F0
theorem afr (p c a i:Nat) (f:Int) (mem:List Int) (m:Hbm.aC) (o:mem≠[]) (s:mem.length<1000) (R:Ob.ai) {n r:Act->World->Prop} {x:Nat->Act->World->Prop}
  (h:Ob.aK Tryz.prog ((ak df).drop 3) (Ob.GH (eB gl w0 M0 F0) df.ntmps (DK p c a m (((mem.length:Int)-1)/3) (((mem.length:Int)+((mem.length:Int)-1)/3)/2)) (Ob.ai.sep (jz p f mem i) R)) n r x) :
  Ob.aK Tryz.prog (ak df) (Ob.GH (eB gl w0 M0 F0) df.ntmps (ln df [aG p,aG c,l5 m,aG a] [] 0) (Ob.ai.sep (jz p f mem i) R)) n r x:=by
 obtain⟨mk,b,g,l,mt,j,d⟩:=m;have z:mem.length≠0:=fun e=>o (dP e);refine Ob.ee fC 1 (cnA p c a (mk,b,g,l,mt,j,d)) ?_;refine Ob.dB 1 (bo (aq (ak df) 1)) ?_;refine Ob.c7 fC 1 (ahN p c a (mk,b,g,l,mt,j,d)) ?_;refine Ob.gz (E:=eB gl w0 M0 F0) (Ob.cJ (fun _=>R) (aaP gl)) (p,f,mem,i) ⟨o,s⟩ KN (fun _ _=>?_);refine Ob.c7 fC 3 (cnB p c a (mk,b,g,l,mt,j,d) (((mem.length:Int)-1)/3)) (Ob.dv ?_);refine Ob.aO (Ob.bB _ _ _).symm ?_;refine Ob.gZ [0] (cnC c a (mk,b,g,l,mt,j,d) (((mem.length:Int)-1)/3) f mem i) ?_;refine Ob.gcd fC 1 (fun y=>bg (.int .i64) 9 y) (fun q=>cnD c a (mk,b,g,l,mt,j,d) (((mem.length:Int)-1)/3) f mem i q) (fun q=>q=((mem.length:Int)+((mem.length:Int)-1)/3)/2) ?_ (fun q u=>?_);intro w ids M num;refine @al (((2:Int)=0->False)/\(cnD c a (mk,b,g,l,mt,j,d) (((mem.length:Int)-1)/3) f mem i (IntKind.i64.wrap ((IntKind.i64.wrap ((mem.length:Int)+((mem.length:Int)-1)/3)).tdiv 2))).ag (IntKind.i64.wrap ((IntKind.i64.wrap ((mem.length:Int)+((mem.length:Int)-1)/3)).tdiv 2)=((mem.length:Int)+((mem.length:Int)-(1:aA (Kd.int IntKind.i64)))/(3:aA (Kd.int IntKind.i64)))/(2:aA (Kd.int IntKind.i64)))) _ ?_ ?_;kernel_rfl;refine⟨ae,ao ?_⟩;rw[ba (a:=(mem.length:Int)+((mem.length:Int)-1)/3) aa aa,ss aa];exact ba aa aa;subst u;refine Ob.fk (E:=eB gl w0 M0 F0) (bl:=[c5 f mem i]) [0] [8] 9 (DK p c a (mk,b,g,l,mt,j,d) (((mem.length:Int)-1)/3) (((mem.length:Int)+((mem.length:Int)-1)/3)/2)) ?_;exact Ob.aO (E:=eB gl w0 M0 F0) (Ob.bB _ _ _) h
abbrev G6 (b rd d:Bool) (e r:Nat):List Cell:=bY b rd d e r
def N1 (p a:Nat) (m:Hbm.aC) (f c:Int) (b rd d:Bool) (e r:Nat) (q:SV):St:=ar df.ntmps 9 [(0,aG p),(1,.is (.one (.ptr 8 0))),(3,aG a),(6,.is (.one (.ptr 0 0))),(8,sI .i64 f),(9,sI .i64 c),(25,q)] [(8,bY b rd d e r),(0,cZ m)]
def ab3 (p a:Nat) (m:Hbm.aC) (f c:Int) (b rd d:Bool) (e r:Nat):St:=ar df.ntmps 9 [(0,aG p),(1,.is (.one (.ptr 8 0))),(3,aG a),(6,.is (.one (.ptr 0 0))),(8,sI .i64 f),(9,sI .i64 c),(25,.is (.one .T)),(29,ny e),(31,lM m.body),(33,sI .i64 c)] [(8,bY b rd d e r),(0,cZ m)]
def KD (p a:Nat) (m:Hbm.aC) (f c:Int) (b rd d:Bool) (e r:Nat) (q:SV):St:=ar df.ntmps 9 [(0,aG p),(1,.is (.one (.ptr 8 0))),(3,aG a),(6,.is (.one (.ptr 0 0))),(8,sI .i64 f),(9,sI .i64 c),(25,.is (.one .T)),(35,q)] [(8,bY b rd d e r),(0,cZ m)]
def ab4 (p a:Nat) (m:Hbm.aC) (f c:Int) (b rd d:Bool) (e r:Nat):St:=ar df.ntmps 9 [(0,aG p),(1,.is (.one (.ptr 8 0))),(3,aG a),(6,.is (.one (.ptr 0 0))),(8,sI .i64 f),(9,sI .i64 c),(25,.is (.one .T)),(35,.is (.one .F)),(39,ny r),(41,lM m.body),(43,sI .i64 f)] [(8,bY b rd d e r),(0,cZ m)]
def Ek (p a:Nat) (m:Hbm.aC) (f c:Int) (b rd d:Bool) (e r:Nat) (q:SV):St:=ar df.ntmps 9 [(0,aG p),(1,.is (.one (.ptr 8 0))),(3,aG a),(6,.is (.one (.ptr 0 0))),(8,sI .i64 f),(9,sI .i64 c),(46,q)] [(8,bY b rd d e r),(0,cZ m)]
def XX (p c a:Nat) (m:Hbm.aC) (f b:Int) (q:SV):St:=ar df.ntmps 8 [(0,aG p),(1,aG c),(3,aG a),(6,.is (.one (.ptr 0 0))),(8,sI .i64 f),(9,sI .i64 b),(46,q)] [(0,cZ m)]
abbrev pi3:List Nat:=[0,1,2,3,4,5,13,6,7,8,9,10,11,12,14,15,23,16,17,18,19,20,21,22,24,25,26]
theorem afs (p z a:Nat) (m:Hbm.aC) (f j:Int) (b rd l:Bool) (e r:Nat) (d i:Hbm.gI) (P:nH d) (Q:nH i) (N:Bs m.body) (O:m.body.length<1048576) (R:Ob.ai) {n L:Act->World->Prop} {x:Nat->Act->World->Prop}
  (h:∀ q,q=(!rd&&(decide (Hbm.ka d m.body>j)||decide (Hbm.ka i m.body>f)))->Ob.aK Tryz.prog ((ak df).drop 4) (Ob.GH (eB gl w0 M0 F0) df.ntmps (XX p z a m f j (av q)) (Ob.ai.obj [bY b rd l e r] z (Ob.ai.sep (bP r i) (Ob.ai.sep (bP e d) R)))) n L x) :
  Ob.aK Tryz.prog ((ak df).drop 3) (Ob.GH (eB gl w0 M0 F0) df.ntmps (DK p z a m f j) (Ob.ai.obj [bY b rd l e r] z (Ob.ai.sep (bP r i) (Ob.ai.sep (bP e d) R)))) n L x:=by
 obtain⟨mk,c,o,y,mt,u,g⟩:=m;have A:∀ q s,cG s (av q)->q=(!rd&&(decide (Hbm.ka d g>j)||decide (Hbm.ka i g>f)))->Ob.aK Tryz.prog ((ak df).drop 4) (Ob.GH ((eB gl w0 M0 F0).pinned 8 z) df.ntmps (Ek p a (mk,c,o,y,mt,u,g) f j b rd l e r s) (Ob.ai.sep (bP r i) (Ob.ai.sep (bP e d) R))) n L x:=by intro q s U C;refine Ob.fE 46 (av q) U ?_;exact Ob.kj (E:=eB gl w0 M0 F0) (bl:=[bY b rd l e r]) [0] [8] rfl ab ab rfl ab 9 (XX p z a (mk,c,o,y,mt,u,g) f j (av q)) (aw ab ab trivial) (h q C)
 refine Ob.jy mixed (rid:=3) (ops:=bo (aq (ak df) 3)) ab ?_;refine Ob.K7 pi3 ab ?_;refine Ob.ql (E:=eB gl w0 M0 F0) [1] ab (N1 p a (mk,c,o,y,mt,u,g) f j b rd l e r .junk) (aw ab ab trivial) ?_;refine Ob.eV fC 6 (fun G=>bg .bool 25 G) (fun q=>N1 p a (mk,c,o,y,mt,u,g) f j b rd l e r (av q)) (fun q=>q=!rd) ae ab ?_ (fun q C=>?_);intro w ids M num;refine @al ((N1 p a (mk,c,o,y,mt,u,g) f j b rd l e r (av !rd)).ag ((!rd)=!rd)) _ ?_ ?_;kernel_rfl;exact ao rfl;cases q;refine Ob.qR (E:=(eB gl w0 M0 F0).pinned 8 z) 25 (.is (.one .F)) Ob.lK ?_;refine Ob.ua (E:=(eB gl w0 M0 F0).pinned 8 z) (τ:=N1 p a (mk,c,o,y,mt,u,g) f j b rd l e r (.is (.one .F))) (K:=True) (aw ab ab trivial) fun _=>?_;refine Ob.g8 fC (fun _=>()) (fun _=>Ek p a (mk,c,o,y,mt,u,g) f j b rd l e r (.is (.one .F))) (fun _=>True) (Odt ab) ?_ (fun _ _=>A false _ Ob.q9 (by rw[<- C];rfl));intro w ids M num;refine @al ((Ek p a (mk,c,o,y,mt,u,g) f j b rd l e r (SV.is (TV.one Cell.F))).ag True) _ ?_ ?_;kernel_rfl;exact ao trivial;refine Ob.qR (E:=(eB gl w0 M0 F0).pinned 8 z) 25 (.is (.one .T)) Ob.gf ?_;refine Ob.ua (E:=(eB gl w0 M0 F0).pinned 8 z) (τ:=N1 p a (mk,c,o,y,mt,u,g) f j b rd l e r (.is (.one .T))) (K:=True) (aw ab ab trivial) fun _=>?_;refine Ob.zz (E:=(eB gl w0 M0 F0).pinned 8 z) (sI .i64 j) ab ab (Ob.Cp (S:=(N1 p a (mk,c,o,y,mt,u,g) f j b rd l e r (.is (.one .T))).S) (.tmp 9)) ?_;refine Ob.eV fC 13 (fun _=>()) (fun _=>ab3 p a (mk,c,o,y,mt,u,g) f j b rd l e r) (fun _=>True) ae ab ?_ (fun _ _=>?_);intro w ids M num;refine @al ((ab3 p a (mk,c,o,y,mt,u,g) f j b rd l e r).ag True) _ ?_ ?_;kernel_rfl;exact ao trivial;refine Ob.sJ (E:=(eB gl w0 M0 F0).pinned 8 z) (G':=Ob.ai.sep (bP e d) (Ob.ai.sep (bP r i) R)) (by ac_rfl) ?_;refine Ob.pZ (Ob.fS (E:=(eB gl w0 M0 F0).pinned 8 z) (Ob.cJ (fun _=>Ob.ai.sep (bP r i) R) (EH gl)) (e,d,g) ⟨P,N,O⟩ ab w6 ab ab (fun _=>rfl)) ab ab (fun _ _=>?_);refine Ob.eV fC 16 (fun G=>bg .bool 35 G) (fun q=>KD p a (mk,c,o,y,mt,u,g) f j b rd l e r (av q)) (fun q=>q=decide (Hbm.ka d g>j)) ae ab ?_ (fun q D=>?_);intro w ids M num;refine @al ((KD p a (mk,c,o,y,mt,u,g) f j b rd l e r (av (decide (Hbm.ka d g>j)))).ag (decide (Hbm.ka d g>j)=decide (Hbm.ka d g>j))) _ ?_ ?_;kernel_rfl;exact ao rfl;cases q;refine Ob.qR (E:=(eB gl w0 M0 F0).pinned 8 z) 35 (.is (.one .F)) Ob.lK ?_;refine Ob.ua (E:=(eB gl w0 M0 F0).pinned 8 z) (τ:=KD p a (mk,c,o,y,mt,u,g) f j b rd l e r (.is (.one .F))) (K:=True) (aw ab ab trivial) fun _=>?_;refine Ob.zz (E:=(eB gl w0 M0 F0).pinned 8 z) (sI .i64 f) ab ab (Ob.Cp (S:=(KD p a (mk,c,o,y,mt,u,g) f j b rd l e r (.is (.one .F))).S) (.tmp 8)) ?_;refine Ob.eV fC 23 (fun _=>()) (fun _=>ab4 p a (mk,c,o,y,mt,u,g) f j b rd l e r) (fun _=>True) ae ab ?_ (fun _ _=>?_);intro w ids M num;refine @al ((ab4 p a (mk,c,o,y,mt,u,g) f j b rd l e r).ag True) _ ?_ ?_;kernel_rfl;exact ao trivial;refine Ob.sJ (E:=(eB gl w0 M0 F0).pinned 8 z) (G':=Ob.ai.sep (bP r i) (Ob.ai.sep (bP e d) R)) (by show Ob.ai.sep (bP e d) (Ob.ai.sep (bP r i) R)=_;ac_rfl) ?_;refine Ob.pZ (Ob.fS (E:=(eB gl w0 M0 F0).pinned 8 z) (Ob.cJ (fun _=>Ob.ai.sep (bP e d) R) (EH gl)) (r,i,g) ⟨Q,N,O⟩ ab w6 ab ab (fun _=>rfl)) ab ab (fun _ _=>?_);refine Ob.g8 fC (fun G=>bg .bool 46 G) (fun q=>Ek p a (mk,c,o,y,mt,u,g) f j b rd l e r (av q)) (fun q=>q=decide (Hbm.ka i g>f)) (Odt ab) ?_ (fun q I=>A q _ (Ob.a7 _) (by rw[<- C,<- D,I];rfl));intro w ids M num;refine @al ((Ek p a (mk,c,o,y,mt,u,g) f j b rd l e r (av (decide (Hbm.ka i g>f)))).ag (decide (Hbm.ka i g>f)=decide (Hbm.ka i g>f))) _ ?_ ?_;kernel_rfl;exact ao rfl;refine Ob.qR (E:=(eB gl w0 M0 F0).pinned 8 z) 35 (.is (.one .T)) Ob.gf ?_;refine Ob.ua (E:=(eB gl w0 M0 F0).pinned 8 z) (τ:=KD p a (mk,c,o,y,mt,u,g) f j b rd l e r (.is (.one .T))) (K:=True) (aw ab ab trivial) fun _=>?_;refine Ob.sJ (E:=(eB gl w0 M0 F0).pinned 8 z) (G':=Ob.ai.sep (bP r i) (Ob.ai.sep (bP e d) R)) (by show Ob.ai.sep (bP e d) (Ob.ai.sep (bP r i) R)=_;ac_rfl) ?_;refine Ob.g8 fC (fun _=>()) (fun _=>Ek p a (mk,c,o,y,mt,u,g) f j b rd l e r (.is (.one .T))) (fun _=>True) (Odt ab) ?_ (fun _ _=>A true _ Ob.Cs (by rw[<- C,<- D];rfl));intro w ids M num;refine @al ((Ek p a (mk,c,o,y,mt,u,g) f j b rd l e r (SV.is (TV.one Cell.T))).ag True) _ ?_ ?_;kernel_rfl;exact ao trivial
end
set_option maxHeartbeats 4000000
abbrev cnI:List Code:=fV (aq (ak df) 4)
def XY (p a:Nat) (m:Hbm.aC) (f b:Int) (c:List Cell):St:=ar df.ntmps 9 [(0,aG p),(1,.is (.one (.ptr 8 0))),(3,aG a),(6,.is (.one (.ptr 0 0))),(8,sI .i64 f),(9,sI .i64 b)] [(8,c),(0,cZ m)]
def cnW (p c a:Nat) (m:Hbm.aC) (f b:Int):St:=ar df.ntmps 8 [(0,aG p),(1,aG c),(3,aG a),(6,.is (.one (.ptr 0 0))),(8,sI .i64 f),(9,sI .i64 b),(50,aG p),(51,l5 m),(52,aG a)] [(0,cZ m)]
section
variable (gl:Nat->Option (Sigma aA)) (w0:World) (M0:Mem) (F0:Nat->Prop)
theorem aft (p g a:Nat) (m:Hbm.aC) (f d:Int) (b rd q:Bool) (e r:Nat) (G:Ob.ai) {n s:Act->World->Prop} {x:Nat->Act->World->Prop}
  (h:Ob.kt Tryz.prog (bo (aq cnI 1)) 3 ((ak df).drop 5) (Ob.GH (eB gl w0 M0 F0) df.ntmps (cnW p g a m f d) (Ob.ai.obj [bY b true q e r] g G)) n s x) :
  Ob.aK Tryz.prog ((ak df).drop 4) (Ob.GH (eB gl w0 M0 F0) df.ntmps (XX p g a m f d (av true)) (Ob.ai.obj [bY b rd q e r] g G)) n s x:=by
 obtain⟨mk,c,j,o,mt,l,i⟩:=m;refine Ob.jx (aq (ak df) 4) ?_;refine Ob.gZ [1] (XY p a (mk,c,j,o,mt,l,i) f d (bY b rd q e r)) ?_;refine Ob.ee fC 1 (XY p a (mk,c,j,o,mt,l,i) f d [.v (.bool b),.T,.v (.bool q),.v (.map (some e)),.v (.map (some r))]) ?_;refine Ob.fk (E:=eB gl w0 M0 F0) (bl:=[bY b true q e r]) [0] [8] 9 (DK p g a (mk,c,j,o,mt,l,i) f d) ?_;refine Ob.dB 5 (bo (aq cnI 1)) ?_;refine Ob.fD fC 3 (fun _=>()) (fun _=>cnW p g a (mk,c,j,o,mt,l,i) f d) (fun _=>True) ?_ (fun _ _=>h);intro w ids M num;refine @al ((cnW p g a (mk,c,j,o,mt,l,i) f d).ag True) _ ?_ ?_;kernel_rfl;exact ao trivial
theorem afw (p d a:Nat) (m:Hbm.aC) (f b:Int) (G:Ob.ai) {n e:Act->World->Prop} {x:Nat->Act->World->Prop}
  (h:Ob.aK Tryz.prog ((ak df).drop 5) (Ob.GH (eB gl w0 M0 F0) df.ntmps (DK p d a m f b) G) n e x) :
  Ob.aK Tryz.prog ((ak df).drop 4) (Ob.GH (eB gl w0 M0 F0) df.ntmps (XX p d a m f b (av false)) G) n e x:=by
 obtain⟨mk,c,i,l,mt,j,g⟩:=m;refine Ob.eQ (aq (ak df) 4) ?_;refine Ob.gA (DK p d a (mk,c,i,l,mt,j,g) f b) ?_;exact h
def KC (p a:Nat) (m:Hbm.aC) (f c:Int) (b rd d:Bool) (e r:Nat) (q:SV):St:=ar df.ntmps 9 [(0,aG p),(1,.is (.one (.ptr 8 0))),(3,aG a),(6,.is (.one (.ptr 0 0))),(8,sI .i64 f),(9,sI .i64 c),(59,q)] [(8,bY b rd d e r),(0,cZ m)]
def cn7 (p a:Nat) (m:Hbm.aC) (f c:Int) (b rd d:Bool) (e r:Nat):St:=ar df.ntmps 9 [(0,aG p),(1,.is (.one (.ptr 8 0))),(3,aG a),(6,.is (.one (.ptr 0 0))),(8,sI .i64 f),(9,sI .i64 c),(59,.is (.one .T)),(63,ny r),(65,lM m.body),(68,sI .i64 (IntKind.i64.wrap (2*f)))] [(8,bY b rd d e r),(0,cZ m)]
def Sa (p a:Nat) (m:Hbm.aC) (f c:Int) (b rd d:Bool) (e r:Nat) (q:SV):St:=ar df.ntmps 9 [(0,aG p),(1,.is (.one (.ptr 8 0))),(3,aG a),(6,.is (.one (.ptr 0 0))),(8,sI .i64 f),(9,sI .i64 c),(70,q)] [(8,bY b rd d e r),(0,cZ m)]
def XW (p d a:Nat) (m:Hbm.aC) (f c:Int) (q:SV):St:=ar df.ntmps 8 [(0,aG p),(1,aG d),(3,aG a),(6,.is (.one (.ptr 0 0))),(8,sI .i64 f),(9,sI .i64 c),(70,q)] [(0,cZ m)]
abbrev pi6:List Nat:=[0,1,2,3,4,5,13,14,6,7,8,9,10,11,12,15,16]
theorem afu (p u a:Nat) (m:Hbm.aC) (f j:Int) (b rd g:Bool) (e r:Nat) (d:Hbm.gI) (I:nH d) (L:Bs m.body) (O:m.body.length<1048576) (N:0<=f/\f<1000) (R:Ob.ai) {n G:Act->World->Prop} {x:Nat->Act->World->Prop}
  (h:∀ q,q=(!g&&decide (Hbm.ka d m.body>2*f))->Ob.aK Tryz.prog ((ak df).drop 6) (Ob.GH (eB gl w0 M0 F0) df.ntmps (XW p u a m f j (av q)) (Ob.ai.obj [bY b rd g e r] u (Ob.ai.sep (bP r d) R))) n G x) :
  Ob.aK Tryz.prog ((ak df).drop 5) (Ob.GH (eB gl w0 M0 F0) df.ntmps (DK p u a m f j) (Ob.ai.obj [bY b rd g e r] u (Ob.ai.sep (bP r d) R))) n G x:=by
 obtain⟨mk,c,k,o,mt,l,i⟩:=m;have D:IntKind.i64.wrap (2*f)=2*f:=ba aa aa;have z:∀ q s,cG s (av q)->q=(!g&&decide (Hbm.ka d i>2*f))->Ob.aK Tryz.prog ((ak df).drop 6) (Ob.GH ((eB gl w0 M0 F0).pinned 8 u) df.ntmps (Sa p a (mk,c,k,o,mt,l,i) f j b rd g e r s) (Ob.ai.sep (bP r d) R)) n G x:=by intro q s P A;refine Ob.fE 70 (av q) P ?_;exact Ob.kj (E:=eB gl w0 M0 F0) (bl:=[bY b rd g e r]) [0] [8] rfl ab ab rfl ab 9 (XW p u a (mk,c,k,o,mt,l,i) f j (av q)) (aw ab ab trivial) (h q A)
 refine Ob.jy mixed (rid:=6) (ops:=bo (aq (ak df) 5)) ab ?_;refine Ob.K7 pi6 ab ?_;refine Ob.ql (E:=eB gl w0 M0 F0) [1] ab (KC p a (mk,c,k,o,mt,l,i) f j b rd g e r .junk) (aw ab ab trivial) ?_;refine Ob.eV fC 6 (fun H=>bg .bool 59 H) (fun q=>KC p a (mk,c,k,o,mt,l,i) f j b rd g e r (av q)) (fun q=>q=!g) ae ab ?_ (fun q A=>?_);intro w ids M num;refine @al ((KC p a (mk,c,k,o,mt,l,i) f j b rd g e r (av !g)).ag ((!g)=!g)) _ ?_ ?_;kernel_rfl;exact ao rfl;cases q;refine Ob.qR (E:=(eB gl w0 M0 F0).pinned 8 u) 59 (.is (.one .F)) Ob.lK ?_;refine Ob.ua (E:=(eB gl w0 M0 F0).pinned 8 u) (τ:=KC p a (mk,c,k,o,mt,l,i) f j b rd g e r (.is (.one .F))) (K:=True) (aw ab ab trivial) fun _=>?_;refine Ob.g8 fC (fun _=>()) (fun _=>Sa p a (mk,c,k,o,mt,l,i) f j b rd g e r (.is (.one .F))) (fun _=>True) (Odt ab) ?_ (fun _ _=>z false _ Ob.q9 (by rw[<- A];rfl));intro w ids M num;refine @al ((Sa p a (mk,c,k,o,mt,l,i) f j b rd g e r (SV.is (TV.one Cell.F))).ag True) _ ?_ ?_;kernel_rfl;exact ao trivial;refine Ob.qR (E:=(eB gl w0 M0 F0).pinned 8 u) 59 (.is (.one .T)) Ob.gf ?_;refine Ob.ua (E:=(eB gl w0 M0 F0).pinned 8 u) (τ:=KC p a (mk,c,k,o,mt,l,i) f j b rd g e r (.is (.one .T))) (K:=True) (aw ab ab trivial) fun _=>?_;refine Ob.zz (E:=(eB gl w0 M0 F0).pinned 8 u) (sI .i64 f) ab ab (Ob.Cp (S:=(KC p a (mk,c,k,o,mt,l,i) f j b rd g e r (.is (.one .T))).S) (.tmp 8)) ?_;refine Ob.zz (E:=(eB gl w0 M0 F0).pinned 8 u) (sI .i64 (IntKind.i64.wrap (2*f))) ab ab (Ob.WL (S:=((KC p a (mk,c,k,o,mt,l,i) f j b rd g e r (.is (.one .T))).put (some 67) (sI .i64 f)).S) (t:=3) (t':=3) (x:=.const (.int .i64 2)) (y:=.tmp 67) (a:=2) (b:=f) ab ab) ?_;refine Ob.eV fC 14 (fun _=>()) (fun _=>cn7 p a (mk,c,k,o,mt,l,i) f j b rd g e r) (fun _=>True) ae ab ?_ (fun _ _=>?_);intro w ids M num;refine @al ((cn7 p a (mk,c,k,o,mt,l,i) f j b rd g e r).ag True) _ ?_ ?_;kernel_rfl;exact ao trivial;refine Ob.pZ (Ob.fS (E:=(eB gl w0 M0 F0).pinned 8 u) (Ob.cJ (fun _=>R) (EH gl)) (r,d,i) ⟨I,L,O⟩ ab w6 ab ab (fun _=>rfl)) ab ab (fun _ _=>?_);refine Ob.g8 fC (fun H=>bg .bool 70 H) (fun q=>Sa p a (mk,c,k,o,mt,l,i) f j b rd g e r (av q)) (fun q=>q=decide (Hbm.ka d i>IntKind.i64.wrap (2*f))) (Odt ab) ?_ (fun q C=>z q _ (Ob.a7 _) (by rw[<- A,C,D];rfl));intro w ids M num;refine @al ((Sa p a (mk,c,k,o,mt,l,i) f j b rd g e r (av (decide (Hbm.ka d i>IntKind.i64.wrap (2*f))))).ag (decide (Hbm.ka d i>IntKind.i64.wrap (2*f))=decide (Hbm.ka d i>IntKind.i64.wrap (2*f)))) _ ?_ ?_;kernel_rfl;exact ao rfl
def cnP (p a:Nat) (m:Hbm.aC) (n k:Nat) (ms:List Hbm.aC) (b:List Hbm.Told):St:=ar df.ntmps 11 [(0,aG p),(1,aG a),(3,.is (.one (.ptr 8 0))),(6,.is (.one (.ptr 0 0)))] [(0,cZ m),(8,[.sl 9 0 0 n 7,.sl 10 0 0 k 3]),(9,[.row km n ms]),(10,[.row fx k b])]
def cnQ (n k:Nat) (ms:List Hbm.aC) (a:List Hbm.Told):St:=ar df.ntmps 155 [(3,.is (.one (.ptr 8 0)))] [(8,[.sl 9 0 0 n 7,.sl 123 0 0 (k+1) 3]),(9,[.row km n ms]),(123,[.row fx (k+1) a])]
def Sb:St:=ar df.ntmps 8 [] []
theorem afv (p j a:Nat) (m:Hbm.aC) (f l:Int) (b rd z:Bool) (e r:Nat) (G k:Ob.ai) (ms:List Hbm.aC) (c:List Hbm.Told) (A:m.body.length<1048576) (F:c.length<1000) (u:Ob.ai.obj [bY b rd true e r] j G=Ob.ai.sep k (eX a ms c)) {n y:Act->World->Prop} {x:Nat->Act->World->Prop}
  (h:Ob.aK Tryz.prog ((ak df).drop 7) (Ob.GH (eB gl w0 M0 F0) df.ntmps Sb (Ob.ai.sep k (eX a ms (c++[(m.bD,m.bO,m.body)])))) n y x) :
  Ob.aK Tryz.prog ((ak df).drop 6) (Ob.GH (eB gl w0 M0 F0) df.ntmps (XW p j a m f l (av true)) (Ob.ai.obj [bY b rd z e r] j G)) n y x:=by
 rw[<- Bp a ms.length (c.length+1) ms (c++[(m.bD,m.bO,m.body)]) rfl au k] at h;rw[<- Bp a ms.length c.length ms c rfl rfl k] at u;obtain⟨mk,g,o,i,mt,s,d⟩:=m;refine Ob.jx (aq (ak df) 6) ?_;refine Ob.gZ [1] (XY p a (mk,g,o,i,mt,s,d) f l (bY b rd z e r)) ?_;refine Ob.ee fC 1 (XY p a (mk,g,o,i,mt,s,d) f l [.v (.bool b),.v (.bool rd),.T,.v (.map (some e)),.v (.map (some r))]) ?_;refine Ob.fk (E:=eB gl w0 M0 F0) (bl:=[bY b rd true e r]) [0] [8] 9 (DK p j a (mk,g,o,i,mt,s,d) f l) ?_;refine Ob.aO u ?_;refine Ob.gZ [3] (cnP p j (mk,g,o,i,mt,s,d) ms.length c.length ms c) ?_;refine Ob.gcd fC 1 (fun D=>cU fx 123 D) (fun q=>cnQ ms.length c.length ms q) (fun q=>q=c++[(mt,i,d)]) ?_ (fun q C=>?_);intro w ids M num;refine @al (o4 (d,())/\0+1<=1/\c.length<=c.length/\(c.length+1)*40<=140737488355328/\c.length+1<=4611686018427387904/\(cnQ ms.length c.length ms (take c.length c++take 1 [(mt,i,(d,()).fst)])).ag (take c.length c++take 1 [(mt,i,d)]=c++[(mt,i,d)])) _ ?_ ?_;kernel_rfl;refine⟨A,ae,aE _,aa,aa,ao ?_⟩;rw[aV];rfl;subst C;exact Ob.kj (E:=eB gl w0 M0 F0) [] [8,9,123] rfl ab ab rfl ab 9 Sb (aw ab ab trivial) h
theorem afx (p e a:Nat) (m:Hbm.aC) (f c:Int) (G:Ob.ai) {n b:Act->World->Prop} {x:Nat->Act->World->Prop}
  (h:Ob.aK Tryz.prog ((ak df).drop 7) (Ob.GH (eB gl w0 M0 F0) df.ntmps Sb G) n b x) :
  Ob.aK Tryz.prog ((ak df).drop 6) (Ob.GH (eB gl w0 M0 F0) df.ntmps (XW p e a m f c (av false)) G) n b x:=by
 obtain⟨mk,d,i,k,mt,j,g⟩:=m;refine Ob.eQ (aq (ak df) 6) ?_;refine Ob.gA Sb ?_;exact h
theorem X0 {H:a5} (h:dr H) {m:Hbm.aC} (o:e6 H.mem m) (i:H.at m<H.talks.length) (p r a:Nat) (f g:Int) (n:f=H.qn) (s:r=(H.get (H.at m)).ptr) (ms:List Hbm.aC) (j:List Hbm.Told) (y:j.length<1000) {Q:SV->Ob.ai->Prop}
  (c:Q (.tup []) (Ob.ai.sep (bu (Hbn.kc H (H.at m) m).1) (eX a (ms++(Hbn.kc H (H.at m) m).2.1) (j++(Hbn.kc H (H.at m) m).2.2)))) :
  Ob.aK Tryz.prog ((ak df).drop 5) (Ob.GH (eB gl w0 M0 F0) df.ntmps (DK p r a m f g) (Ob.ai.sep (bu H) (eX a ms j))) (Ob.cP (eB gl w0 M0 F0) df Q) (Ob.cP (eB gl w0 M0 F0) df Q) (fun _ _ _=>False):=by
 have d:∀ G,Q (.tup []) G->Ob.aK Tryz.prog ((ak df).drop 7) (Ob.GH (eB gl w0 M0 F0) df.ntmps Sb G) (Ob.cP (eB gl w0 M0 F0) df Q) (Ob.cP (eB gl w0 M0 F0) df Q) (fun _ _ _=>False):=by intro G u;exact Ob.pM fC (.tup []) u
 have x:=h.sd i;have z:=o.bD;have A:=h.len;have C:H.mem.length≠0:=fun e=>h.ne (dP e);have l:0<=f/\f<1000:=by rw[n];unfold Hbn.a5.qn;omega
 refine Ob.aO (ri i _) ?_;unfold JG;subst s;refine afu gl w0 M0 F0 p _ a m f g _ _ _ _ _ _ (x.2.ok h.len h.i64) o.b aa l _ fun q w=>?_;unfold Hbn.kc at c;rw[<- n,<- w] at c;cases q;refine afx gl w0 M0 F0 p _ a m f g _ ?_;refine Ob.aO (ri i _).symm ?_;refine d _ ?_;rw[ah ae] at c;rw[bq,bq] at c;exact c;refine afv gl w0 M0 F0 p _ a m f g _ _ _ _ _ _ (bu (H.set (H.at m) { H.get (H.at m) with told:=true })) ms j aa y (td i (t:={ H.get (H.at m) with told:=true }) rfl _).symm ?_;refine d _ ?_;rw[aj rfl] at c;rw[bq] at c;exact c
end
structure CIn where
 H:a5
 m:Hbm.aC
 a:Nat
 ms:List Hbm.aC
 ts:List Hbm.Told
def XK (gl:Nat->Option (Sigma aA)) (rec:a5->Hbm.aC->eF) (b:a5->Hbm.aC->Prop) (c:Nat):Prop :=
 Ob.dG Tryz.prog gl 125 (fun z:CIn=>[aG z.H.p,aG (z.H.get (z.H.at z.m)).ptr,l5 z.m,aG z.a]) (fun z=>dr z.H/\e6 z.H.mem z.m/\z.H.at z.m<z.H.talks.length/\z.ms.length+c<=1000/\z.ts.length+c<=1000/\((z.H.get (z.H.at z.m)).ready=false->b (z.H.set (z.H.at z.m) { z.H.get (z.H.at z.m) with ready:=true }) (Hbn.own z.H 3 z.m)))
  (fun z=>Ob.ai.sep (bu z.H) (eX z.a z.ms z.ts)) (fun _ (_:Unit)=>.tup []) (fun z _=>Ob.ai.sep (bu (Hbn.dK rec z.H (z.H.at z.m) z.m).1) (eX z.a (z.ms++(Hbn.dK rec z.H (z.H.at z.m) z.m).2.1) (z.ts++(Hbn.dK rec z.H (z.H.at z.m) z.m).2.2))) (fun _ _=>True)
theorem ab8 {gl:Nat->Option (Sigma aA)} {rec:a5->Hbm.aC->eF} {N:a5->Hbm.aC->Prop} {c K:Nat} (T:tt gl rec N c) (V:rm rec) (U:tv rec K):XK gl rec N (c+K+1):=by
 refine Ob.cA (sp:=U2) BC ab (fun z=>by show 4<=df.ntmps;exact Odt ab) (fun z _=>rfl) ?_;rintro⟨H,m,a,ms,f⟩ ⟨e,h,d,o,r,I⟩ w M F;have o:ms.length+(c+K+1)<=1000:=o;have r:f.length+(c+K+1)<=1000:=r;have h:e6 H.mem m:=h;have d:H.at m<H.talks.length:=d;have I:(H.get (H.at m)).ready=false->N (H.set (H.at m) { H.get (H.at m) with ready:=true }) (Hbn.own H 3 m):=I;have u:=e.sd d;have Z:=h.bD;refine Ob.aO (G':=Ob.ai.sep (jz H.p H.me H.mem H.mp) (Ob.ai.sep (fm H.mp (hI H.talks)) (Ob.ai.sep (fu H.talks) (eX a ms f)))) (by show Ob.ai.sep (bu H) _=_;unfold bu;ac_rfl) ?_;refine afr gl w M F H.p _ a H.mp H.me H.mem m e.ne e.len _ ?_;refine Ob.aO (G':=Ob.ai.sep (bu H) (eX a ms f)) (by unfold bu;ac_rfl) ?_;refine Ob.aO (ri d _) ?_;unfold JG;refine afs gl w M F H.p _ a m _ _ _ _ _ _ _ _ _ (u.1.ok e.len e.i64) (u.2.ok e.len e.i64) h.b aa _ fun q j=>?_;have j:q=(!(H.get (H.at m)).ready&&(decide (Hbm.ka (H.get (H.at m)).ech m.body>H.half)||decide (Hbm.ka (H.get (H.at m)).rdy m.body>H.qn))):=j;cases q;refine afw gl w M F H.p _ a m _ _ _ ?_;refine Ob.aO (ri d _).symm ?_;refine X0 gl w M F e h d H.p _ a _ _ rfl rfl ms f aa ⟨(),trivial,Ob.a7 _,?_⟩;show _=Ob.ai.sep (bu (Hbn.dK rec H (H.at m) m).1) (eX a (ms++(Hbn.dK rec H (H.at m) m).2.1) (f++(Hbn.dK rec H (H.at m) m).2.2));unfold Hbn.dK;rw[<- j,ah ae]
 ·have L:(H.get (H.at m)).ready=false:=by
   cases R:(H.get (H.at m)).ready with
   | false=>rfl
   | true=>rw[R] at j;cases j
  have nN:iO H (H.set (H.at m) { H.get (H.at m) with ready:=true }):=j9 d rfl;have s:dr (H.set (H.at m) { H.get (H.at m) with ready:=true }):=rL e d rfl u.1 u.2;have A:(H.set (H.at m) { H.get (H.at m) with ready:=true }).at m=H.at m:=p6 nN m;have n:(H.set (H.at m) { H.get (H.at m) with ready:=true }).at m<(H.set (H.at m) { H.get (H.at m) with ready:=true }).talks.length:=by rw[A,kT nN];exact d
  have C:=Dr V s (m:=m) h n (k:=3) (.inr rfl);have G:=U (H.set (H.at m) { H.get (H.at m) with ready:=true }) (Hbn.own (H.set (H.at m) { H.get (H.at m) with ready:=true }) 3 m);have y:Hbn.dK rec H (H.at m) m=Hbn.andThen (Hbn.l8 rec (H.set (H.at m) { H.get (H.at m) with ready:=true }) 3 m) (fun P=>Hbn.kc P (H.at m) m):=by unfold Hbn.dK;rw[<- j,aj rfl]
  have i:(Hbn.l8 rec (H.set (H.at m) { H.get (H.at m) with ready:=true }) 3 m).2.2.length<=K:=G.2;refine aft gl w M F H.p _ a m _ _ _ _ _ _ _ _ ?_;refine Ob.vB (E:=eB gl w M F) (td d (t:={ H.get (H.at m) with ready:=true }) rfl _).symm ?_;refine Ob.gz (E:=eB gl w M F) (T4 T) ⟨H.set (H.at m) { H.get (H.at m) with ready:=true },3,m,a,ms,f⟩ ⟨s,h,n,.inr rfl,(by omega:ms.length+(c+1)<=1000),(by omega:f.length+c<=1000),I L⟩ qN (fun _ _=>?_);refine Ob.dv ?_;revert y C i;show ∀ (_:Good _ (Hbn.l8 rec (H.set (H.at m) { H.get (H.at m) with ready:=true }) 3 m)),_;generalize Y:Hbn.l8 rec (H.set (H.at m) { H.get (H.at m) with ready:=true }) 3 m=X;obtain⟨g,W,O⟩:=X;intro C y i;obtain⟨g1,g2⟩:=C;have g2:iO (H.set (H.at m) { H.get (H.at m) with ready:=true }) g:=g2;have l:iO H g:=nN.trans g2;have x:g.at m=H.at m:=p6 l m;have D:g.at m<g.talks.length:=by rw[x,kT l];exact d
  have Q:(H.get (H.at m)).ptr=(g.get (g.at m)).ptr:=by rw[x];have:=Ou l d;unfold tid at this;simp only[aI] at this;exact this.2.1.symm
  refine Ob.gA (DK H.p (H.get (H.at m)).ptr a m (((H.mem.length:Int)-1)/3) (((H.mem.length:Int)+((H.mem.length:Int)-1)/3)/2)) ?_;refine X0 gl w M F (H:=g) g1 (m:=m) (by rw[l.mem];exact h) D H.p _ a _ _ (by unfold Hbn.a5.qn;rw[l.mem]) Q (ms++W) (f++O) (by rw[bb];have:O.length<=K:=i;omega) ⟨(),trivial,Ob.a7 _,?_⟩;show _=Ob.ai.sep (bu (Hbn.dK rec H (H.at m) m).1) (eX a (ms++(Hbn.dK rec H (H.at m) m).2.1) (f++(Hbn.dK rec H (H.at m) m).2.2));rw[y,x];unfold Hbn.andThen;rw[cB,cB]
set_option maxHeartbeats 4000000
abbrev dk:Func:=Tryz.f81
def Yh (p a:Nat) (m:Hbm.aC):St:=ar dk.ntmps 8 [(0,aG p),(2,aG a),(4,.is (.one (.ptr 0 0)))] [(0,cZ m)]
def Yi (p a:Nat) (m:Hbm.aC):St:=ar dk.ntmps 8 [(0,aG p),(2,aG a),(4,.is (.one (.ptr 0 0))),(7,aG p),(8,l5 m)] [(0,cZ m)]
def hrC (p a:Nat) (m:Hbm.aC) (q:Bool):St:=ar dk.ntmps 8 [(0,aG p),(2,aG a),(4,.is (.one (.ptr 0 0))),(10,av q)] [(0,cZ m)]
def hrD (p a:Nat) (m:Hbm.aC):St:=ar dk.ntmps 8 [(0,aG p),(2,aG a),(4,.is (.one (.ptr 0 0))),(11,aG p),(12,l5 m)] [(0,cZ m)]
def qU (p tp a:Nat) (m:Hbm.aC):St:=ar dk.ntmps 8 [(0,aG p),(2,aG a),(4,.is (.one (.ptr 0 0))),(6,aG tp)] [(0,cZ m)]
def Oz (p b a:Nat) (m:Hbm.aC):St:=ar dk.ntmps 8 [(0,aG p),(2,aG a),(4,.is (.one (.ptr 0 0))),(6,aG b),(15,sI .i64 m.kind)] [(0,cZ m)]
abbrev QE:=aP [qv]
theorem ei:aD Tryz.prog QE:=aJ ug bp
section
variable (gl:Nat->Option (Sigma aA)) (w0:World) (M0:Mem) (F0:Nat->Prop)
abbrev e4:Ob.b5:=Ob.kO Tryz.prog QE gl w0 M0 F0
theorem adz (p a j:Nat) (i:Int) (mem:List Int) (m:Hbm.aC) (l:mem.length<1000) (R:Ob.ai) {Q:SV->Ob.ai->Prop} {n:Act->World->Prop} {x:Nat->Act->World->Prop}
  (o:Hbn.counts mem m=false->Q (.tup []) (Ob.ai.sep (jz p i mem j) R))
  (r:Hbn.counts mem m=true->Ob.aK Tryz.prog ((ak dk).drop 3) (Ob.GH (e4 gl w0 M0 F0) dk.ntmps (Yh p a m) (Ob.ai.sep (jz p i mem j) R)) n (Ob.cP (e4 gl w0 M0 F0) dk Q) x) :
  Ob.aK Tryz.prog (ak dk) (Ob.GH (e4 gl w0 M0 F0) dk.ntmps (ln dk [aG p,l5 m,aG a] [] 0) (Ob.ai.sep (jz p i mem j) R)) n (Ob.cP (e4 gl w0 M0 F0) dk Q) x:=by
 obtain⟨mk,b,d,f,mt,e,c⟩:=m;refine Ob.ee ei 1 (Yh p a (mk,b,d,f,mt,e,c)) ?_;refine Ob.dB 1 (bo (aq (ak dk) 1)) ?_;refine Ob.c7 ei 2 (Yi p a (mk,b,d,f,mt,e,c)) ?_;refine Ob.gz (E:=e4 gl w0 M0 F0) (Ob.cJ (fun _=>R) (Tq gl)) ((p,i,mem,j),(mk,b,d,f,mt,e,c)) l FL (fun _ _=>?_);refine Ob.fD ei 4 (fun s=>bg .bool 10 s) (fun q=>hrC p a (mk,b,d,f,mt,e,c) q) (fun q=>q=!AB mem (mk,b,d,f,mt,e,c)) ?_ (fun q g=>Ob.dv ?_);intro w ids M num;refine @al ((hrC p a (mk,b,d,f,mt,e,c) !AB mem (mk,b,d,f,mt,e,c)).ag ((!AB mem (mk,b,d,f,mt,e,c))=!AB mem (mk,b,d,f,mt,e,c))) _ ?_ ?_;kernel_rfl;exact ao rfl;have g:q=!Hbn.counts mem (mk,b,d,f,mt,e,c):=g;cases q;refine Ob.eQ (aq (ak dk) 2) ?_;refine Ob.gA (Yh p a (mk,b,d,f,mt,e,c)) ?_;exact r (by cases k:Hbn.counts mem (mk,b,d,f,mt,e,c) with|true=>rfl|false=>rw[k] at g;cases g);refine Ob.gF ei mixed (.tup []) ?_ (o (by cases k:Hbn.counts mem (mk,b,d,f,mt,e,c) with|false=>rfl|true=>rw[k] at g;cases g));intro w ids M num;refine @al ((true=true->SV.tup []=SV.tup [])/\(true=false->False)) _ ?_ ?_;kernel_rfl;exact⟨fun _=>rfl,fun h=>by cases h⟩
theorem adA (H:a5) (s:dr H) (m:Hbm.aC) (D:e6 H.mem m) (a:Nat) (A:Ob.ai) {n r:Act->World->Prop} {x:Nat->Act->World->Prop}
  (F:∀ q:Nat × Nat × Nat,Ob.aK Tryz.prog ((ak dk).drop 4) (Ob.GH (e4 gl w0 M0 F0) dk.ntmps (qU H.p ((H.of m q).get ((H.of m q).at m)).ptr a m) (Ob.ai.sep (bu (H.of m q)) A)) n r x) :
  Ob.aK Tryz.prog ((ak dk).drop 3) (Ob.GH (e4 gl w0 M0 F0) dk.ntmps (Yh H.p a m) (Ob.ai.sep (bu H) A)) n r x:=by
 have f:∀ H:a5,Ob.ai.sep (bu H) A=Ob.ai.sep (Ob.ai.obj [c5 H.me H.mem H.mp] H.p (fm H.mp (hI H.talks))) (Ob.ai.sep (fu H.talks) A):=fun H=>by unfold bu jz;rw[Ob.bB [c5 H.me H.mem H.mp] H.p (fm H.mp (hI H.talks))];ac_rfl
 have K:=D.bD;refine Ob.aO (f H) ?_;obtain⟨p,c,i,mem,b⟩:=H;refine Ob.dB 2 (bo (aq (ak dk) 3)) ?_;refine Ob.fD ei 2 (fun _=>()) (fun _=>hrD p a m) (fun _=>True) ?_ (fun _ _=>?_);obtain⟨mk,j,u,z,mt,y,t⟩:=m;intro w ids M num;refine @al ((hrD p a (mk,j,u,z,mt,y,t)).ag True) _ ?_ ?_;kernel_rfl;exact ao trivial;refine Ob.gz (E:=e4 gl w0 M0 F0) (Ob.cJ (fun _=>Ob.ai.sep (fu b) A) (afK gl)) ⟨p,c,i,mem,hI b,m⟩ ⟨s.keys,⟨by show _<=m.bD;omega,by show m.bD<=_;omega⟩,s.i64 _ D.bO⟩ tX ?_;have g:∀ (tp:Nat) (G:Ob.ai),Ob.aK Tryz.prog ((ak dk).drop 4) (Ob.GH (e4 gl w0 M0 F0) dk.ntmps (qU p tp a m) G) n r x->Ob.kt Tryz.prog (bo (aq (ak dk) 3)) 3 ((ak dk).drop 4) (Ob.GH (e4 gl w0 M0 F0) dk.ntmps ((hrD p a m).put (some 13) (aG tp)) G) n r x:=by intro tp G h;refine Ob.fD ei 4 (fun _=>()) (fun _=>qU p tp a m) (fun _=>True) ?_ (fun _ _=>Ob.HK (Odt ab) h);obtain⟨mk,j,u,z,mt,y,t⟩:=m;intro w ids M num;refine @al ((qU p tp a (mk,j,u,z,mt,y,t)).ag True) _ ?_ ?_;kernel_rfl;exact ao trivial
 rintro⟨tp,o⟩ C;refine g tp _ ?_;cases o with
 | none =>obtain⟨l,I⟩:=Zj s (m:=m) (tp:=tp) C;have k:=F (0,0,0);rw[LS l,I] at k;refine Ob.aO (f ⟨p,c,i,mem,b⟩).symm ?_;exact k
 | some q =>obtain⟨e,d⟩:=q;have l:=Zi (H:=⟨p,c,i,mem,b⟩) (m:=m) C;have k:=F (tp,e,d);rw[(R4 l (tp,e,d)).2,Gk l] at k;refine Ob.aO ?_ k;rw[f];show Ob.ai.sep (Ob.ai.obj [c5 i mem c] p (Ob.ai.sep (fm c (hI b++[((m.bD,m.bO),tp)])) (Cb tp e d))) (Ob.ai.sep (fu b) A)=Ob.ai.sep (Ob.ai.obj [c5 i mem c] p (fm c (hI (b++[h8 m (tp,e,d)])))) (Ob.ai.sep (fu (b++[h8 m (tp,e,d)])) A);rw[D5,show hI (b++[h8 m (tp,e,d)])=hI b++[((m.bD,m.bO),tp)] from by unfold hI;rw[de];rfl,show G3 (h8 m (tp,e,d))=Cb tp e d from rfl,Ob.bB [c5 i mem c] p (Ob.ai.sep _ _),Ob.bB [c5 i mem c] p (fm _ _)];ac_rfl
end
set_option maxHeartbeats 4000000
abbrev uz:Code:=aq (ak dk) 5
abbrev V6:List Code:=fV (aq (da uz) 1)
abbrev QD:List Code:=rA (aq (da uz) 1)
abbrev adt:List Code:=fV (aq V6 1)
abbrev adr:List Code:=fV (aq QD 1)
abbrev adv:List Code:=rA (aq QD 1)
abbrev ads:List Code:=fV (aq adv 1)
def AH (p b a:Nat) (m:Hbm.aC) (t:Nat) (q:Bool):St:=ar dk.ntmps 8 [(0,aG p),(2,aG a),(4,.is (.one (.ptr 0 0))),(6,aG b),(15,sI .i64 m.kind),(t,av q)] [(0,cZ m)]
def S7 (p a:Nat) (m:Hbm.aC) (b:List Cell):St:=ar dk.ntmps 9 [(0,aG p),(2,aG a),(4,.is (.one (.ptr 0 0))),(6,.is (.one (.ptr 8 0)))] [(8,b),(0,cZ m)]
def Le (p a:Nat) (m:Hbm.aC) (b:List Cell) (t:Nat) (q:SV):St:=ar dk.ntmps 9 [(0,aG p),(2,aG a),(4,.is (.one (.ptr 0 0))),(6,.is (.one (.ptr 8 0))),(t,q)] [(8,b),(0,cZ m)]
def hrQ (p b a:Nat) (m:Hbm.aC) (t:Nat) (q:Bool):St:=ar dk.ntmps 8 [(0,aG p),(2,aG a),(4,.is (.one (.ptr 0 0))),(6,aG b),(t,av q)] [(0,cZ m)]
def hrW (p b a:Nat) (m:Hbm.aC):St:=ar dk.ntmps 8 [(0,aG p),(2,aG a),(4,.is (.one (.ptr 0 0))),(6,aG b),(33,aG p),(34,l5 m),(35,aG a)] [(0,cZ m)]
def Yj (p a:Nat) (m:Hbm.aC) (d:List Cell) (e b c:Nat):St:=ar dk.ntmps 9 [(0,aG p),(2,aG a),(4,.is (.one (.ptr 0 0))),(6,.is (.one (.ptr 8 0))),(b,ny e),(c,l5 m)] [(8,d),(0,cZ m)]
section
variable (gl:Nat->Option (Sigma aA)) (w0:World) (M0:Mem) (F0:Nat->Prop)
theorem ah5 (p d a:Nat) (m:Hbm.aC) (G:Ob.ai) {n j:Act->World->Prop} {x:Nat->Act->World->Prop}
  (h:Ob.aK Tryz.prog ((ak dk).drop 5) (Ob.GH (e4 gl w0 M0 F0) dk.ntmps (Oz p d a m) G) n j x) :
  Ob.aK Tryz.prog ((ak dk).drop 4) (Ob.GH (e4 gl w0 M0 F0) dk.ntmps (qU p d a m) G) n j x:=by
 obtain⟨mk,b,f,i,mt,g,e⟩:=m;refine Ob.gcd ei 1 (fun _=>()) (fun _=>Oz p d a (mk,b,f,i,mt,g,e)) (fun _=>True) ?_ (fun _ _=>h);intro w ids M num;refine @al ((Oz p d a (mk,b,f,i,mt,g,e)).ag True) _ ?_ ?_;kernel_rfl;exact ao trivial
theorem ady (p l a:Nat) (m:Hbm.aC) (u:m.kind=1) (b rd n:Bool) (e r:Nat) (G:Ob.ai) {s z:Act->World->Prop} {x:Nat->Act->World->Prop}
  (I:m.aW=m.bO/\b=false->Ob.kt Tryz.prog (bo (aq adt 1)) 3 [] (Ob.GH (e4 gl w0 M0 F0) dk.ntmps (hrW p l a m) (Ob.ai.obj [bY true rd n e r] l G)) s z x)
  (F:¬ (m.aW=m.bO/\b=false)->Ob.aK Tryz.prog [] (Ob.GH (e4 gl w0 M0 F0) dk.ntmps (qU p l a m) (Ob.ai.obj [bY b rd n e r] l G)) s z x) :
  Ob.aK Tryz.prog (da uz) (Ob.GH (e4 gl w0 M0 F0) dk.ntmps (Oz p l a m) (Ob.ai.obj [bY b rd n e r] l G)) s z x:=by
 obtain⟨mk,d,f,g,mt,j,i⟩:=m;have u:mk=1:=u;subst u;refine Ob.gcd ei 1 (fun A=>bg .bool 16 A) (fun q=>AH p l a (1,d,f,g,mt,j,i) 16 q) (fun q=>q=true) ?_ (fun q o=>?_);intro w ids M num;refine @al ((AH p l a (1,d,f,g,mt,j,i) 16 (Hbm.aC.kind (1,d,f,g,mt,j,i)==1)).ag ((Hbm.aC.kind (1,d,f,g,mt,j,i)==1)=true)) _ ?_ ?_;kernel_rfl;exact ao rfl;subst o;refine Ob.jx (aq (da uz) 1) ?_;refine Ob.gZ [6] (S7 p a (1,d,f,g,mt,j,i) (bY b rd n e r)) ?_;refine Ob.kH ei mixed 1 29 (fun A=>bg .bool 29 A) (fun q=>Le p a (1,d,f,g,mt,j,i) (bY b rd n e r) 29 (av q)) (fun q=>q=(decide (f=g) && !b)) (fun _=>False) (fun _ _=>False) ?_ (fun q o=>?_) (fun _ _ _ h _=>h.elim) (fun _ _ _ _ h _=>h.elim);intro w ids M num;refine @al (((f==g)=true->(Le p a (1,d,f,g,mt,j,i) (bY b rd n e r) 29 (av !b)).ag ((!b)=(decide (f=g) && !b)))/\((f==g)=false->(Le p a (1,d,f,g,mt,j,i) (bY b rd n e r) 29 (av false)).ag (false=(decide (f=g) && !b)))) _ ?_ ?_;kernel_rfl;refine⟨fun h=>ao ?_,fun h=>ao ?_⟩;rw[bX (show f=g from by simpa using h),dp];rw[cp (show ¬ f=g from by simpa using h),eH];refine Ob.fk (E:=e4 gl w0 M0 F0) (bl:=[bY b rd n e r]) [0] [8] 9 (hrQ p l a (1,d,f,g,mt,j,i) 29 q) ?_;cases q;refine Ob.eQ (aq V6 1) ?_;refine Ob.gA (qU p l a (1,d,f,g,mt,j,i)) ?_;refine F fun C=>?_;have D:f=g:=C.1;rw[C.2,bX D] at o;cases o
 ·have y:f=g/\b=false:=by
   cases b with
   | true=>rw[oF,fK] at o;cases o
   | false=>rw[oE,kF] at o;exact⟨Odt o.symm,rfl⟩
  refine Ob.jx (aq V6 1) ?_;refine Ob.gZ [6] (S7 p a (1,d,f,g,mt,j,i) (bY b rd n e r)) ?_;refine Ob.ee ei 1 (S7 p a (1,d,f,g,mt,j,i) [.T,.v (.bool rd),.v (.bool n),.v (.map (some e)),.v (.map (some r))]) ?_;refine Ob.fk (E:=e4 gl w0 M0 F0) (bl:=[bY true rd n e r]) [0] [8] 9 (qU p l a (1,d,f,g,mt,j,i)) ?_;refine Ob.dB 7 (bo (aq adt 1)) ?_;refine Ob.fD ei 3 (fun _=>()) (fun _=>hrW p l a (1,d,f,g,mt,j,i)) (fun _=>True) ?_ (fun _ _=>I y);intro w ids M num;refine @al ((hrW p l a (1,d,f,g,mt,j,i)).ag True) _ ?_ ?_;kernel_rfl;exact ao trivial
theorem ah3 (p l a:Nat) (m:Hbm.aC) (y:m.kind=2) (b rd n:Bool) (e r:Nat) (ech rdy:Hbm.gI) (z:nH ech) (A:la m.aW) (G:m.body.length<1048576) (R:Ob.ai) {Q:SV->Ob.ai->Prop} {s:Act->World->Prop} {x:Nat->Act->World->Prop}
  (D:Hbm.di ech m.aW=true->Q (.tup []) (Ob.ai.obj [bY b rd n e r] l (Ob.ai.sep (bP r rdy) (Ob.ai.sep (bP e ech) R))))
  (F:Hbm.di ech m.aW=false->Ob.aK Tryz.prog [] (Ob.GH (e4 gl w0 M0 F0) dk.ntmps (qU p l a m) (Ob.ai.obj [bY b rd n e r] l (Ob.ai.sep (bP r rdy) (Ob.ai.sep (bP e (ech++[(m.aW,m.body)])) R)))) s (Ob.cP (e4 gl w0 M0 F0) dk Q) x) :
  Ob.aK Tryz.prog (da uz) (Ob.GH (e4 gl w0 M0 F0) dk.ntmps (Oz p l a m) (Ob.ai.obj [bY b rd n e r] l (Ob.ai.sep (bP r rdy) (Ob.ai.sep (bP e ech) R)))) s (Ob.cP (e4 gl w0 M0 F0) dk Q) x:=by
 obtain⟨mk,d,f,j,mt,i,g⟩:=m;have y:mk=2:=y;subst y;refine Ob.gcd ei 1 (fun u=>bg .bool 16 u) (fun q=>AH p l a (2,d,f,j,mt,i,g) 16 q) (fun q=>q=false) ?_ (fun q o=>?_);intro w ids M num;refine @al ((AH p l a (2,d,f,j,mt,i,g) 16 (Hbm.aC.kind (2,d,f,j,mt,i,g)==1)).ag ((Hbm.aC.kind (2,d,f,j,mt,i,g)==1)=false)) _ ?_ ?_;kernel_rfl;exact ao rfl;subst o;refine Ob.eQ (aq (da uz) 1) ?_;refine Ob.gcd ei 1 (fun u=>bg .bool 37 u) (fun q=>AH p l a (2,d,f,j,mt,i,g) 37 q) (fun q=>q=true) ?_ (fun q o=>?_);intro w ids M num;refine @al ((AH p l a (2,d,f,j,mt,i,g) 37 (Hbm.aC.kind (2,d,f,j,mt,i,g)==2)).ag ((Hbm.aC.kind (2,d,f,j,mt,i,g)==2)=true)) _ ?_ ?_;kernel_rfl;exact ao rfl;subst o;refine Ob.jx (aq QD 1) ?_;refine Ob.jy mixed (rid:=9) (ops:=bo (aq adr 0)) ab ?_;refine Ob.ql (E:=e4 gl w0 M0 F0) [6] ab (S7 p a (2,d,f,j,mt,i,g) (bY b rd n e r)) (aw ab ab trivial) ?_;refine Ob.eV ei 5 (fun _=>()) (fun _=>Yj p a (2,d,f,j,mt,i,g) (bY b rd n e r) e 42 43) (fun _=>True) ae ab ?_ (fun _ _=>?_);intro w ids M num;refine @al ((Yj p a (2,d,f,j,mt,i,g) (bY b rd n e r) e 42 43).ag True) _ ?_ ?_;kernel_rfl;exact ao trivial;refine Ob.sJ (E:=(e4 gl w0 M0 F0).pinned 8 l) (G':=Ob.ai.sep (bP e ech) (Ob.ai.sep (bP r rdy) R)) (by ac_rfl) ?_;refine Ob.pZ (Ob.fS (E:=(e4 gl w0 M0 F0).pinned 8 l) (Ob.cJ (fun _=>Ob.ai.sep (bP r rdy) R) (OR gl)) (e,ech,(2,d,f,j,mt,i,g)) ⟨z,A,G⟩ ab Eo ab ab (fun _=>rfl)) ab ab (fun _ _=>?_);refine Ob.g8 ei (fun u=>bg .bool 45 u) (fun q=>Le p a (2,d,f,j,mt,i,g) (bY b rd n e r) 45 (av q)) (fun q=>q=Hbm.di ech f) (Odt ab) ?_ (fun q o=>?_);intro w ids M num;refine @al ((Le p a (2,d,f,j,mt,i,g) (bY b rd n e r) 45 (av !!Hbm.di ech (Hbm.aC.aW (2,d,f,j,mt,i,g)))).ag ((!!Hbm.di ech (Hbm.aC.aW (2,d,f,j,mt,i,g)))=Hbm.di ech f)) _ ?_ ?_;kernel_rfl;refine ao ?_;show (!!Hbm.di ech f)=_;rw[Bool.not_not];refine Ob.fk (E:=e4 gl w0 M0 F0) (bl:=[bY b rd n e r]) [0] [8] 9 (hrQ p l a (2,d,f,j,mt,i,g) 45 q) ?_;have C:Ob.ai.obj [bY b rd n e r] l (Ob.ai.sep (bP e (if Hbm.di ech f then ech else ech++[(f,g)])) (Ob.ai.sep (bP r rdy) R))=Ob.ai.obj [bY b rd n e r] l (Ob.ai.sep (bP r rdy) (Ob.ai.sep (bP e (if Hbm.di ech f then ech else ech++[(f,g)])) R)):=by congr 1;ac_rfl
 refine Ob.aO C ?_;rw[<- o];cases q;refine Ob.eQ (aq adr 1) ?_;refine Ob.gA (qU p l a (2,d,f,j,mt,i,g)) ?_;exact F o.symm;refine Ob.gF ei mixed (.tup []) ?_ (D o.symm);intro w ids M num;refine @al ((true=true->SV.tup []=SV.tup [])/\(true=false->False)) _ ?_ ?_;kernel_rfl;exact⟨fun _=>rfl,fun h=>by cases h⟩
theorem ah4 (p l a:Nat) (m:Hbm.aC) (y:m.kind=3) (b rd n:Bool) (e r:Nat) (rdy:Hbm.gI) (z:nH rdy) (A:la m.aW) (F:m.body.length<1048576) (R:Ob.ai) {Q:SV->Ob.ai->Prop} {u:Act->World->Prop} {x:Nat->Act->World->Prop}
  (C:Hbm.di rdy m.aW=true->Q (.tup []) (Ob.ai.obj [bY b rd n e r] l (Ob.ai.sep (bP r rdy) R)))
  (D:Hbm.di rdy m.aW=false->Ob.aK Tryz.prog [] (Ob.GH (e4 gl w0 M0 F0) dk.ntmps (qU p l a m) (Ob.ai.obj [bY b rd n e r] l (Ob.ai.sep (bP r (rdy++[(m.aW,m.body)])) R))) u (Ob.cP (e4 gl w0 M0 F0) dk Q) x) :
  Ob.aK Tryz.prog (da uz) (Ob.GH (e4 gl w0 M0 F0) dk.ntmps (Oz p l a m) (Ob.ai.obj [bY b rd n e r] l (Ob.ai.sep (bP r rdy) R))) u (Ob.cP (e4 gl w0 M0 F0) dk Q) x:=by
 obtain⟨mk,d,f,j,mt,i,g⟩:=m;have y:mk=3:=y;subst y;refine Ob.gcd ei 1 (fun s=>bg .bool 16 s) (fun q=>AH p l a (3,d,f,j,mt,i,g) 16 q) (fun q=>q=false) ?_ (fun q o=>?_);intro w ids M num;refine @al ((AH p l a (3,d,f,j,mt,i,g) 16 (Hbm.aC.kind (3,d,f,j,mt,i,g)==1)).ag ((Hbm.aC.kind (3,d,f,j,mt,i,g)==1)=false)) _ ?_ ?_;kernel_rfl;exact ao rfl;subst o;refine Ob.eQ (aq (da uz) 1) ?_;refine Ob.gcd ei 1 (fun s=>bg .bool 37 s) (fun q=>AH p l a (3,d,f,j,mt,i,g) 37 q) (fun q=>q=false) ?_ (fun q o=>?_);intro w ids M num;refine @al ((AH p l a (3,d,f,j,mt,i,g) 37 (Hbm.aC.kind (3,d,f,j,mt,i,g)==2)).ag ((Hbm.aC.kind (3,d,f,j,mt,i,g)==2)=false)) _ ?_ ?_;kernel_rfl;exact ao rfl;subst o;refine Ob.eQ (aq QD 1) ?_;refine Ob.gcd ei 1 (fun s=>bg .bool 46 s) (fun q=>AH p l a (3,d,f,j,mt,i,g) 46 q) (fun q=>q=true) ?_ (fun q o=>?_);intro w ids M num;refine @al ((AH p l a (3,d,f,j,mt,i,g) 46 (Hbm.aC.kind (3,d,f,j,mt,i,g)==3)).ag ((Hbm.aC.kind (3,d,f,j,mt,i,g)==3)=true)) _ ?_ ?_;kernel_rfl;exact ao rfl;subst o;refine Ob.jx (aq adv 1) ?_;refine Ob.jy mixed (rid:=11) (ops:=bo (aq ads 0)) ab ?_;refine Ob.ql (E:=e4 gl w0 M0 F0) [6] ab (S7 p a (3,d,f,j,mt,i,g) (bY b rd n e r)) (aw ab ab trivial) ?_;refine Ob.eV ei 5 (fun _=>()) (fun _=>Yj p a (3,d,f,j,mt,i,g) (bY b rd n e r) r 51 52) (fun _=>True) ae ab ?_ (fun _ _=>?_);intro w ids M num;refine @al ((Yj p a (3,d,f,j,mt,i,g) (bY b rd n e r) r 51 52).ag True) _ ?_ ?_;kernel_rfl;exact ao trivial;refine Ob.pZ (Ob.fS (E:=(e4 gl w0 M0 F0).pinned 8 l) (Ob.cJ (fun _=>R) (OR gl)) (r,rdy,(3,d,f,j,mt,i,g)) ⟨z,A,F⟩ ab Eo ab ab (fun _=>rfl)) ab ab (fun _ _=>?_);refine Ob.g8 ei (fun s=>bg .bool 54 s) (fun q=>Le p a (3,d,f,j,mt,i,g) (bY b rd n e r) 54 (av q)) (fun q=>q=Hbm.di rdy f) (Odt ab) ?_ (fun q o=>?_);intro w ids M num;refine @al ((Le p a (3,d,f,j,mt,i,g) (bY b rd n e r) 54 (av !!Hbm.di rdy (Hbm.aC.aW (3,d,f,j,mt,i,g)))).ag ((!!Hbm.di rdy (Hbm.aC.aW (3,d,f,j,mt,i,g)))=Hbm.di rdy f)) _ ?_ ?_;kernel_rfl;refine ao ?_;show (!!Hbm.di rdy f)=_;rw[Bool.not_not];refine Ob.fk (E:=e4 gl w0 M0 F0) (bl:=[bY b rd n e r]) [0] [8] 9 (hrQ p l a (3,d,f,j,mt,i,g) 54 q) ?_;refine Ob.aO (G':=Ob.ai.obj [bY b rd n e r] l (Ob.ai.sep (bP r (if q then rdy else rdy++[(f,g)])) R)) (by rw[o]) ?_;cases q;refine Ob.eQ (aq ads 1) ?_;refine Ob.gA (qU p l a (3,d,f,j,mt,i,g)) ?_;exact D o.symm;refine Ob.gF ei mixed (.tup []) ?_ (C o.symm);intro w ids M num;refine @al ((true=true->SV.tup []=SV.tup [])/\(true=false->False)) _ ?_ ?_;kernel_rfl;exact⟨fun _=>rfl,fun h=>by cases h⟩
end
set_option maxHeartbeats 4000000
def IG (b:a5->Hbm.aC->Prop) (H:a5) (m:Hbm.aC):Prop :=
 (m.kind=1->∀ a,b a (Hbn.own a 2 m))/\((m.kind=1\/(H.get (H.at m)).ready=false)->∀ a:a5,(a.get (a.at m)).ready=true->b a (Hbn.own a 3 m))
def hrZ (p b a:Nat) (m:Hbm.aC):St:=ar dk.ntmps 8 [(55,aG p),(56,aG b),(57,l5 m),(58,aG a)] []
section
variable (gl:Nat->Option (Sigma aA)) (w0:World) (M0:Mem) (F0:Nat->Prop)
theorem ah6 {rec:a5->Hbm.aC->eF} {f:a5->Hbm.aC->Prop} {c:Nat} (o:XK gl rec f c) {H:a5} (l:dr H) {m:Hbm.aC} (r:e6 H.mem m) (q:H.at m<H.talks.length) (p b a:Nat) (g:p=H.p) (h:b=(H.get (H.at m)).ptr) (ms:List Hbm.aC) (d:List Hbm.Told)
  (i:ms.length+c<=1000) (j:d.length+c<=1000) (s:(H.get (H.at m)).ready=false->f (H.set (H.at m) { H.get (H.at m) with ready:=true }) (Hbn.own H 3 m)) {Q:SV->Ob.ai->Prop}
  (n:Q (.tup []) (Ob.ai.sep (bu (Hbn.dK rec H (H.at m) m).1) (eX a (ms++(Hbn.dK rec H (H.at m) m).2.1) (d++(Hbn.dK rec H (H.at m) m).2.2)))) :
  Ob.aK Tryz.prog ((ak dk).drop 6) (Ob.GH (e4 gl w0 M0 F0) dk.ntmps (qU p b a m) (Ob.ai.sep (bu H) (eX a ms d))) (Ob.cP (e4 gl w0 M0 F0) dk Q) (Ob.cP (e4 gl w0 M0 F0) dk Q) (fun _ _ _=>False):=by
 refine Ob.dB 12 (bo (aq (ak dk) 6)) ?_;refine Ob.fD ei 4 (fun _=>()) (fun _=>hrZ p b a m) (fun _=>True) ?_ (fun _ _=>?_);obtain⟨mk,e,x,z,mt,y,u⟩:=m;intro w ids M num;refine @al ((hrZ p b a (mk,e,x,z,mt,y,u)).ag True) _ ?_ ?_;kernel_rfl;exact ao trivial;subst g h;refine Ob.gz (E:=e4 gl w0 M0 F0) o ⟨H,m,a,ms,d⟩ ⟨l,r,q,i,j,s⟩ BC (fun _ _=>?_);refine Ob.dv ?_;exact Ob.pM ei (.tup []) n
theorem adB {rec:a5->Hbm.aC->eF} {Y:a5->Hbm.aC->Prop} {c K:Nat} (U:tt gl rec Y c) (X:rm rec) (V:tv rec K) {H:a5} (q:dr H) {m:Hbm.aC} (r:e6 H.mem m) (g:H.at m<H.talks.length) (a:Nat) (ms:List Hbm.aC) (i:List Hbm.Told)
  (h1:ms.length+(c+2*K+2)<=1000) (h2:i.length+(c+2*K+2)<=1000) (W:IG Y H m) {Q:SV->Ob.ai->Prop}
  (f:Q (.tup []) (Ob.ai.sep (bu (Hbn.mF rec H (H.at m) m).1) (eX a (ms++(Hbn.mF rec H (H.at m) m).2.1) (i++(Hbn.mF rec H (H.at m) m).2.2)))) :
  Ob.aK Tryz.prog ((ak dk).drop 4) (Ob.GH (e4 gl w0 M0 F0) dk.ntmps (qU H.p (H.get (H.at m)).ptr a m) (Ob.ai.sep (bu H) (eX a ms i))) (Ob.cP (e4 gl w0 M0 F0) dk Q) (Ob.cP (e4 gl w0 M0 F0) dk Q) (fun _ _ _=>False):=by
 have hc:=ab8 U X V;have u:=q.sd g;have T:=r.bD
 -- y,on a hub Z R of this one
 have s:∀ (d:a5) (n:List Hbm.aC) (o:List Hbm.Told),Good H (d,n,o)->n.length+(c+K+1)<=1000->o.length+(c+K+1)<=1000->((d.get (d.at m)).ready=false->m.kind=1\/(H.get (H.at m)).ready=false) ->
   Q (.tup []) (Ob.ai.sep (bu (Hbn.dK rec d (H.at m) m).1) (eX a (n++(Hbn.dK rec d (H.at m) m).2.1) (o++(Hbn.dK rec d (H.at m) m).2.2))) ->
   Ob.aK Tryz.prog ((ak dk).drop 6) (Ob.GH (e4 gl w0 M0 F0) dk.ntmps (qU H.p (H.get (H.at m)).ptr a m) (Ob.ai.sep (bu d) (eX a n o))) (Ob.cP (e4 gl w0 M0 F0) dk Q) (Ob.cP (e4 gl w0 M0 F0) dk Q) (fun _ _ _=>False):=by
  rintro d n o ⟨g1,g2⟩ F G I k4;have g1:dr d:=g1;have g2:iO H d:=g2;have O:=p6 g2 m;have x:d.at m<d.talks.length:=by rw[O,kT g2];exact g
  have et:(H.get (H.at m)).ptr=(d.get (d.at m)).ptr:=by rw[O];have:=Ou g2 g;unfold tid at this;simp only[aI] at this;exact this.2.1.symm
  have FY:iO d (d.set (d.at m) { d.get (d.at m) with ready:=true }):=j9 x rfl;refine ah6 gl w0 M0 F0 hc g1 (m:=m) (by rw[g2.mem];exact r) x _ _ a g2.p.symm et n o F G (fun P=>?_) (by rw[O];exact k4);have:=W.2 (I P) (d.set (d.at m) { d.get (d.at m) with ready:=true }) (by rw[p6 FY,kE x]);exact this
 refine ah5 gl w0 M0 F0 _ _ a m _ ?_;unfold Hbn.mF at f;refine Ob.aO (ri g _) ?_;unfold JG;rcases r.kind with e|e|e
 ·rw[aj e] at f;by_cases L:m.aW=m.bO/\(H.get (H.at m)).begun=false
  ·rw[aj L] at f;have nN:iO H (H.set (H.at m) { H.get (H.at m) with begun:=true }):=j9 g rfl;have l:dr (H.set (H.at m) { H.get (H.at m) with begun:=true }):=rL q g rfl u.1 u.2;have A:(H.set (H.at m) { H.get (H.at m) with begun:=true }).at m<(H.set (H.at m) { H.get (H.at m) with begun:=true }).talks.length:=by rw[p6 nN,kT nN];exact g
   have z:=Dr X l (m:=m) r A (k:=2) (.inl rfl);have C:=V (H.set (H.at m) { H.get (H.at m) with begun:=true }) (Hbn.own (H.set (H.at m) { H.get (H.at m) with begun:=true }) 2 m);have D:(Hbn.l8 rec (H.set (H.at m) { H.get (H.at m) with begun:=true }) 2 m).2.1.length<=K+1/\(Hbn.l8 rec (H.set (H.at m) { H.get (H.at m) with begun:=true }) 2 m).2.2.length<=K:=by refine⟨?_,C.2⟩;have:=C.1;show (Hbn.own (H.set (H.at m) { H.get (H.at m) with begun:=true }) 2 m::(rec (H.set (H.at m) { H.get (H.at m) with begun:=true }) (Hbn.own (H.set (H.at m) { H.get (H.at m) with begun:=true }) 2 m)).2.1).length<=K+1;rw[bG];omega
   refine Ob.eR (E:=e4 gl w0 M0 F0) (c:=uz) (fun b w=>Ob.GH (e4 gl w0 M0 F0) dk.ntmps (qU H.p (H.get (H.at m)).ptr a m) (Ob.ai.sep (bu (Hbn.l8 rec (H.set (H.at m) { H.get (H.at m) with begun:=true }) 2 m).1) (eX a (ms++(Hbn.l8 rec (H.set (H.at m) { H.get (H.at m) with begun:=true }) 2 m).2.1) (i++(Hbn.l8 rec (H.set (H.at m) { H.get (H.at m) with begun:=true }) 2 m).2.2))) b w) ab ab ?_ ?_;refine ady gl w0 M0 F0 _ _ a m e _ _ _ _ _ _ (fun _=>?_) (fun h=>(h L).elim);refine Ob.vB (E:=e4 gl w0 M0 F0) (td g (t:={ H.get (H.at m) with begun:=true }) rfl _).symm ?_;refine Ob.gz (E:=e4 gl w0 M0 F0) (T4 U) ⟨H.set (H.at m) { H.get (H.at m) with begun:=true },2,m,a,ms,i⟩ ⟨l,r,A,.inl rfl,(by omega:ms.length+(c+1)<=1000),(by omega:i.length+c<=1000),W.1 e _⟩ qN (fun _ _=>?_);refine Ob.dv ?_;refine Ob.gA (qU H.p (H.get (H.at m)).ptr a m) ?_;exact Ob.cF fun _ _ h=>h;refine s _ _ _ ⟨z.1,nN.trans z.2⟩ (by rw[bb];have:=D.1;omega) (by rw[bb];have:=D.2;omega) (fun _=>.inl e) ?_;unfold Hbn.andThen at f;rw[cB,cB];exact f
  rw[ah L] at f;refine Ob.eR (E:=e4 gl w0 M0 F0) (c:=uz) (fun b w=>Ob.GH (e4 gl w0 M0 F0) dk.ntmps (qU H.p (H.get (H.at m)).ptr a m) (Ob.ai.sep (bu H) (eX a ms i)) b w) ab ab ?_ ?_;refine ady gl w0 M0 F0 _ _ a m e _ _ _ _ _ _ (fun h=>(L h).elim) (fun _=>?_);refine Ob.aO (ri g _).symm ?_;exact Ob.cF fun _ _ h=>h;exact s H ms i ⟨q,.rfl⟩ aa aa (fun _=>.inl e) f
 rw[ah (by rw[e];decide),aj e] at f;have nN:iO H (H.set (H.at m) { H.get (H.at m) with ech:=(H.get (H.at m)).ech++[(m.aW,m.body)] }):=j9 g rfl;refine Ob.eR (E:=e4 gl w0 M0 F0) (c:=uz) (fun b w=>Hbm.di (H.get (H.at m)).ech m.aW=false/\Ob.GH (e4 gl w0 M0 F0) dk.ntmps (qU H.p (H.get (H.at m)).ptr a m) (Ob.ai.sep (bu (H.set (H.at m) { H.get (H.at m) with ech:=(H.get (H.at m)).ech++[(m.aW,m.body)] })) (eX a ms i)) b w) ab ab ?_ ?_;refine ah3 gl w0 M0 F0 _ _ a m e _ _ _ _ _ _ _ (u.1.ok q.len q.i64) (q.i64 _ r.aW) aa _ (fun j=>?_) (fun j=>?_);rw[aj j] at f;rw[bq,bq] at f;have:=ri (H:=H) g (eX a ms i);unfold JG at this;rw[<- this];exact f;refine Ob.aO (td g (t:={ H.get (H.at m) with ech:=(H.get (H.at m)).ech++[(m.aW,m.body)] }) rfl _).symm ?_;exact Ob.cF fun _ _ h=>⟨j,h⟩;intro b w N ⟨j,z⟩ F G I;rw[ah (by rw[j];decide)] at f;have l:dr (H.set (H.at m) { H.get (H.at m) with ech:=(H.get (H.at m)).ech++[(m.aW,m.body)] }):=rL q g rfl (u.1.snoc r.aW r.b T.2.2 j) u.2;exact s (H.set (H.at m) { H.get (H.at m) with ech:=(H.get (H.at m)).ech++[(m.aW,m.body)] }) ms i ⟨l,nN⟩ aa aa (fun h=>.inr (by rw[p6 nN,kE g] at h;exact h)) f b w N z F G I;rw[ah (by rw[e];decide),ah (by rw[e];decide)] at f;have nN:iO H (H.set (H.at m) { H.get (H.at m) with rdy:=(H.get (H.at m)).rdy++[(m.aW,m.body)] }):=j9 g rfl;refine Ob.eR (E:=e4 gl w0 M0 F0) (c:=uz) (fun b w=>Hbm.di (H.get (H.at m)).rdy m.aW=false/\Ob.GH (e4 gl w0 M0 F0) dk.ntmps (qU H.p (H.get (H.at m)).ptr a m) (Ob.ai.sep (bu (H.set (H.at m) { H.get (H.at m) with rdy:=(H.get (H.at m)).rdy++[(m.aW,m.body)] })) (eX a ms i)) b w) ab ab ?_ ?_;refine ah4 gl w0 M0 F0 _ _ a m e _ _ _ _ _ _ (u.2.ok q.len q.i64) (q.i64 _ r.aW) aa _ (fun j=>?_) (fun j=>?_);rw[aj j] at f;rw[bq,bq] at f;have:=ri (H:=H) g (eX a ms i);unfold JG at this;rw[<- this];exact f;refine Ob.aO (td g (t:={ H.get (H.at m) with rdy:=(H.get (H.at m)).rdy++[(m.aW,m.body)] }) rfl _).symm ?_;exact Ob.cF fun _ _ h=>⟨j,h⟩;intro b w N ⟨j,z⟩ F G I;rw[ah (by rw[j];decide)] at f;have l:dr (H.set (H.at m) { H.get (H.at m) with rdy:=(H.get (H.at m)).rdy++[(m.aW,m.body)] }):=rL q g rfl u.1 (u.2.snoc r.aW r.b T.2.2 j);exact s (H.set (H.at m) { H.get (H.at m) with rdy:=(H.get (H.at m)).rdy++[(m.aW,m.body)] }) ms i ⟨l,nN⟩ aa aa (fun h=>.inr (by rw[p6 nN,kE g] at h;exact h)) f b w N z F G I
end
theorem yA (H:a5) (A:Ob.ai):Ob.ai.sep (bu H) A=Ob.ai.sep (jz H.p H.me H.mem H.mp) (Ob.ai.sep (fm H.mp (hI H.talks)) (Ob.ai.sep (fu H.talks) A)):=by unfold bu;ac_rfl
theorem Oy {gl:Nat->Option (Sigma aA)} {rec:a5->Hbm.aC->eF} {i:a5->Hbm.aC->Prop} {c K:Nat} (k:tt gl rec i c) (o:rm rec) (l:tv rec K):tt gl (Hbn.jl rec) (IG i) (c+2*K+2):=by refine Ob.cA (sp:=QE) qj ab (fun z=>by show 3<=dk.ntmps;exact Odt ab) (fun z _=>rfl) ?_;rintro⟨H,m,a,ms,j⟩ ⟨e,b,d,f,g,n⟩ w M F;have b:e6 H.mem m:=b;have d:H.at m<H.talks.length:=d;refine Ob.aO (yA H _) ?_;refine adz gl w M F H.p a H.mp H.me H.mem m e.len _ (fun h=>by rw[b.c] at h;cases h) fun _=>?_;refine Ob.aO (yA H _).symm ?_;refine adA gl w M F H e m b a _ fun q=>?_;rw[LS d];refine adB gl w M F k o l e b d a ms j f g n ⟨(),trivial,Ob.a7 _,?_⟩;show _=Ob.ai.sep (bu (Hbn.jl rec H m).1) (eX a (ms++(Hbn.jl rec H m).2.1) (j++(Hbn.jl rec H m).2.2));unfold Hbn.jl;rw[aj b.c]
theorem aar (gl:Nat->Option (Sigma aA)):tt gl (fun H _=>(H,[],[])) (fun _ _=>False) 0:=fun _ h=>h.2.2.2.2.2.elim
theorem adp (gl:Nat->Option (Sigma aA)):tt gl (Hbn.kk 0) (IG fun _ _=>False) 2:=Oy (aar gl) (fun H m h _ _=>⟨h,.rfl⟩) (K:=0) (fun H m=>⟨aE _,aE _⟩)
theorem YH:rm (Hbn.kk 0):=Ey fun H m h _ _=>⟨h,.rfl⟩
theorem Ys:tv (Hbn.kk 0) 2:=B1 (K:=0) fun H m=>⟨aE _,aE _⟩
theorem adq (gl:Nat->Option (Sigma aA)):tt gl (Hbn.kk 1) (IG (IG fun _ _=>False)) 8:=Oy (adp gl) YH Ys
theorem rec_1:rm (Hbn.kk 1):=Ey YH
theorem Yt:tv (Hbn.kk 1) 6:=B1 Ys
theorem rec_2:rm (Hbn.kk 2):=Ey rec_1
theorem afI:tv (Hbn.kk 2) 14:=B1 Yt
theorem aeo (H:a5) (m:Hbm.aC):IG (IG (IG fun _ _=>False)) H m:=by refine⟨fun _ b=>⟨fun h=>absurd (show (2:Int)=1 from h) ae,fun _ c a=>⟨fun h=>absurd (show (3:Int)=1 from h) ae,fun h=>?_⟩⟩,fun _ b a=>⟨fun h=>absurd (show (3:Int)=1 from h) ae,fun h=>?_⟩⟩;rcases h with h|h;exact absurd (show (3:Int)=1 from h) ae;have h:(c.get (c.at (Hbn.own b 2 m))).ready=false:=h;rw[a] at h;cases h;rcases h with h|h;exact absurd (show (3:Int)=1 from h) ae;have h:(b.get (b.at m)).ready=false:=h;rw[a] at h;cases h
theorem HW (gl:Nat->Option (Sigma aA)):Ob.dG Tryz.prog gl 81 (fun z:HIn=>[aG z.H.p,l5 z.m,aG z.a]) (fun z=>dr z.H/\Bs z.m.body/\z.ms.length+22<=1000/\z.ts.length+22<=1000)
  (fun z=>Ob.ai.sep (bu z.H) (eX z.a z.ms z.ts)) (fun _ (_:Nat × Nat × Nat)=>.tup []) (fun z q=>Ob.ai.sep (bu (Hbn.jc z.H z.m q).1) (eX z.a (z.ms++(Hbn.jc z.H z.m q).2.1) (z.ts++(Hbn.jc z.H z.m q).2.2))) (fun _ _=>True):=by
 refine Ob.cA (sp:=QE) qj ab (fun z=>by show 3<=dk.ntmps;exact Odt ab) (fun z _=>rfl) ?_;rintro⟨H,m,a,ms,j⟩ ⟨d,o,f,g⟩ w M F;refine Ob.aO (yA H _) ?_;refine adz gl w M F H.p a H.mp H.me H.mem m d.len _ (fun h=>?_) fun h=>?_
 ·refine⟨(0,0,0),trivial,Ob.a7 _,?_⟩;rw[<- yA];show _=Ob.ai.sep (bu (Hbn.jc H m (0,0,0)).1) (eX a (ms++(Hbn.jc H m (0,0,0)).2.1) (j++(Hbn.jc H m (0,0,0)).2.2));have e:Hbn.jc H m (0,0,0)=(H,[],[]):=by
   unfold Hbn.jc;rw[ah (by rw[h];decide)];show Hbn.jl (Hbn.kk 1) H m=_;unfold Hbn.jl;rw[ah (by rw[h];decide)]
  rw[e,bq,bq]
 ·have i:e6 H.mem m:=⟨h,o⟩;refine Ob.aO (yA H _).symm ?_;refine adA gl w M F H d m i a _ fun q=>?_;obtain⟨l,n⟩:=YA d i q;have k:(H.of m q).mem=H.mem/\(H.of m q).p=H.p:=by unfold Hbn.a5.of;split<;>exact⟨rfl,rfl⟩
  have b:e6 (H.of m q).mem m:=by rw[k.1];exact i
  rw[<- k.2];refine adB gl w M F (adq gl) rec_1 Yt l b n a ms j f g (aeo _ _) ⟨q,trivial,Ob.a7 _,?_⟩;show _=Ob.ai.sep (bu (Hbn.jc H m q).1) (eX a (ms++(Hbn.jc H m q).2.1) (j++(Hbn.jc H m q).2.2));have e:Hbn.jc H m q=Hbn.mF (Hbn.kk 1) (H.of m q) ((H.of m q).at m) m:=by unfold Hbn.jc;rw[aj h];show Hbn.jl (Hbn.kk 1) _ m=_;unfold Hbn.jl;rw[aj b.c]
  rw[e]
set_option maxHeartbeats 4000000
theorem UT (a:Nat) (m:Hbm.aC) (w:World) (M:Mem) (F:Nat->Prop) (h:(Ob.ai.obj [[.sl 1 0 0 1 7,.v (.slice none 0 0)],[.row km 1 [m]]] a Ob.ai.none).P w M F):(eX a [m] []).P w M F:=by
 refine Ob.Wx (US 1 0 [m] []) (fun n i e l b c=>?_) (by show 2<=3;omega) w M F h;match i,b with
 | 0,b =>cases b;obtain⟨f,g,rfl,d,j,k,rfl,⟨rfl,_⟩,rfl⟩:=c;exact⟨_,rfl,_,_,rfl,d,_,_,rfl,.inl ⟨rfl,rfl⟩,rfl⟩
 | 1,b =>cases b;exact⟨_,rfl,c⟩
theorem Oc:enters Tryz.prog 107 Tryz.f107:=ek
abbrev jG:Func:=Tryz.f107
def SyA (p:Nat) (t:Int) (b:List Int):St:=ar jG.ntmps 8 [(0,aG p),(1,sI .i64 t),(2,lM b)] []
def SyB (p:Nat) (t:Int) (b:List Int):St:=ar jG.ntmps 8 [(0,aG p),(1,sI .i64 t),(2,lM b),(10,aG p)] []
def SyC (t:Int) (b:List Int) (a:Int) (mem:List Int) (c:Nat):St:=ar jG.ntmps 9 [(0,.is (.one (.ptr 8 0))),(1,sI .i64 t),(2,lM b)] [(8,c5 a mem c)]
def SyD (m:Hbm.aC) (a:Int) (mem:List Int) (b:Nat):St:=ar jG.ntmps 106 [(0,.is (.one (.ptr 8 0))),(8,.is (.one (.ptr 105 0)))] [(105,cZ m),(8,c5 a mem b)]
def SyE (p:Nat) (m:Hbm.aC):St:=ar jG.ntmps 106 [(0,aG p),(8,.is (.one (.ptr 105 0)))] [(105,cZ m)]
def SyG (p:Nat) (m:Hbm.aC):St:=ar jG.ntmps 131 [(0,aG p),(8,.is (.one (.ptr 105 0))),(9,.is (.one (.ptr 130 0)))] [(105,cZ m),(130,[.sl 114 0 0 1 7,.v (.slice none 0 0)]),(114,[.row km 1 [m]])]
def SyH (p a:Nat) (m:Hbm.aC):St:=ar jG.ntmps 106 [(0,aG p),(8,.is (.one (.ptr 105 0))),(9,aG a)] [(105,cZ m)]
def SyI (p a:Nat) (m:Hbm.aC):St:=ar jG.ntmps 8 [(9,aG a),(27,aG p),(28,l5 m)] []
def SyJ (a:Nat):St:=ar jG.ntmps 8 [(9,aG a)] []
def SyK (n k:Nat) (ms:List Hbm.aC) (a:List Hbm.Told):St:=ar jG.ntmps 11 [(9,.is (.one (.ptr 8 0)))] [(8,[.sl 9 0 0 n 7,.sl 10 0 0 k 3]),(9,[.row km n ms]),(10,[.row fx k a])]
def SyL (n k:Nat) (ms:List Hbm.aC) (a:List Hbm.Told):St:=ar jG.ntmps 11 [(6,.is (.one (.sl 9 0 0 n 7))),(7,.is (.one (.sl 10 0 0 k 3)))] [(8,[.sl 9 0 0 n 7,.sl 10 0 0 k 3]),(9,[.row km n ms]),(10,[.row fx k a])]
def SyN (ms:List Hbm.aC) (a:List Hbm.Told):St:=ar jG.ntmps 8 [(6,.is (.one (.ro km ms))),(7,.is (.one (.ro fx a)))] []
abbrev UL:=aP [qv]
theorem sn:aD Tryz.prog UL:=aJ ug bp
section
variable (gl:Nat->Option (Sigma aA)) (w0:World) (M0:Mem) (F0:Nat->Prop)
abbrev uF:Ob.b5:=Ob.kO Tryz.prog UL gl w0 M0 F0
theorem afj (p c:Nat) (a:Int) (mem:List Int) (t:Int) (b:List Int) (e:b.length<1048576) (d:mem≠[]) (R:Ob.ai) {n r:Act->World->Prop} {x:Nat->Act->World->Prop}
  (h:Ob.aK Tryz.prog ((ak jG).drop 4) (Ob.GH (uF gl w0 M0 F0) jG.ntmps (SyE p (1,0,a,a,t,0,b)) (Ob.ai.sep (jz p a mem c) R)) n r x) :
  Ob.aK Tryz.prog (ak jG) (Ob.GH (uF gl w0 M0 F0) jG.ntmps (ln jG [aG p,sI .i64 t,lM b] [] 0) (Ob.ai.sep (jz p a mem c) R)) n r x:=by
 refine Ob.ee sn 1 (SyA p t b) ?_;refine Ob.dB 1 (bo (aq (ak jG) 1)) ?_;refine Ob.c7 sn 1 (SyB p t b) ?_;refine Ob.gz (E:=uF gl w0 M0 F0) (Ob.cJ (fun _=>R) (OQ gl)) (p,a,mem,c) d gp (fun _ _=>?_);refine Ob.dv ?_;refine Ob.eQ (aq (ak jG) 2) ?_;refine Ob.gA (SyA p t b) ?_;refine Ob.aO (Ob.bB _ _ _).symm ?_;refine Ob.gZ [0] (SyC t b a mem c) ?_;refine Ob.gcd sn 1 (fun _=>()) (fun _=>SyD (1,0,a,a,t,0,b) a mem c) (fun _=>True) ?_ (fun _ _=>?_);intro w ids M num;refine @al (o4 (b,())/\(SyD (1,0,a,a,t,0,b) a mem c).ag True) _ ?_ ?_;kernel_rfl;exact⟨e,ao trivial⟩;refine Ob.fk (E:=uF gl w0 M0 F0) (bl:=[c5 a mem c]) [105] [8] 9 (SyE p (1,0,a,a,t,0,b)) ?_;exact Ob.aO (E:=uF gl w0 M0 F0) (Ob.bB _ _ _) h
theorem afk (p:Nat) (m:Hbm.aC) (G:Ob.ai) {n r:Act->World->Prop} {x:Nat->Act->World->Prop}
  (h:∀ a,Ob.aK Tryz.prog ((ak jG).drop 5) (Ob.GH (uF gl w0 M0 F0) jG.ntmps (SyH p a m) (Ob.ai.sep G (eX a [m] []))) n r x) :
  Ob.aK Tryz.prog ((ak jG).drop 4) (Ob.GH (uF gl w0 M0 F0) jG.ntmps (SyE p m) G) n r x:=by
 obtain⟨mk,b,d,f,mt,e,c⟩:=m;refine Ob.ee sn 1 (SyG p (mk,b,d,f,mt,e,c)) ?_;refine Ob.CY (E:=uF gl w0 M0 F0) (bl:=[[.sl 1 0 0 1 7,.v (.slice none 0 0)],[.row km 1 [(mk,b,d,f,mt,e,c)]]]) 9 [105] [130,114] rfl ab ab ab ab rfl ab (fun a=>SyH p a (mk,b,d,f,mt,e,c)) (fun a=>aw ab ab trivial) (fun a=>?_);refine Ob.aO ((Ob.bB _ _ _).trans (Ob.wb _ _)) ?_;refine Ob.HM (E:=uF gl w0 M0 F0) (G':=Ob.ai.sep G (eX a [(mk,b,d,f,mt,e,c)] [])) ?_ (h a);rintro w M F ⟨g,F2,i,j,k,l⟩;exact⟨g,F2,i,UT a _ w M F2 j,k,l⟩
theorem afm (a:Nat) (ms:List Hbm.aC) (b:List Hbm.Told) (G:Ob.ai) {Q:SV->Ob.ai->Prop} (c:Q (.tup [.one (.ro km ms),.one (.ro fx b)]) G) :
  Ob.aK Tryz.prog ((ak jG).drop 6) (Ob.GH (uF gl w0 M0 F0) jG.ntmps (SyJ a) (Ob.ai.sep G (eX a ms b))) (Ob.cP (uF gl w0 M0 F0) jG Q) (Ob.cP (uF gl w0 M0 F0) jG Q) (fun _ _ _=>False):=by
 rw[<- Bp a ms.length b.length ms b rfl rfl G];refine Ob.gZ [9] (SyK ms.length b.length ms b) ?_;refine Ob.ee sn 1 (SyL ms.length b.length ms b) ?_;refine Ob.Yd 6 9 ms.length 7 km ms ?_;refine Ob.Yd 7 10 b.length 3 fx b ?_;refine Ob.SX (E:=uF gl w0 M0 F0) rfl 8 a 9 ?_;refine Ob.gA (SyN ms b) ?_;exact Ob.pM sn _ c
theorem afl (p a:Nat) (m:Hbm.aC) (G:Ob.ai) {n r:Act->World->Prop} {x:Nat->Act->World->Prop}
  (h:Ob.kt Tryz.prog (bo (aq (ak jG) 5)) 2 ((ak jG).drop 6) (Ob.GH (uF gl w0 M0 F0) jG.ntmps (SyI p a m) G) n r x) :
  Ob.aK Tryz.prog ((ak jG).drop 5) (Ob.GH (uF gl w0 M0 F0) jG.ntmps (SyH p a m) G) n r x:=by
 obtain⟨mk,b,d,f,mt,e,c⟩:=m;refine Ob.dB 5 (bo (aq (ak jG) 5)) ?_;refine Ob.fD sn 2 (fun _=>()) (fun _=>SyI p a (mk,b,d,f,mt,e,c)) (fun _=>True) ?_ (fun _ _=>h);intro w ids M num;refine @al ((SyI p a (mk,b,d,f,mt,e,c)).ag True) _ ?_ ?_;kernel_rfl;exact ao trivial
end
theorem ad8 (gl:Nat->Option (Sigma aA)):Ob.dG Tryz.prog gl 107 (fun z:a5 × Int × List Int=>[aG z.1.p,sI .i64 z.2.1,lM z.2.2]) (fun z=>dr z.1/\Bs z.2.2/\z.2.2.length<1048576)
  (fun z=>bu z.1) (fun z (q:Nat × Nat × Nat)=>.tup [.one (.ro km (Hbn.iW z.1 z.2.1 z.2.2 q).2.1),.one (.ro fx (Hbn.iW z.1 z.2.1 z.2.2 q).2.2)]) (fun z q=>bu (Hbn.iW z.1 z.2.1 z.2.2 q).1) (fun _ _=>True):=by
 refine Ob.cA (sp:=UL) Oc ab (fun z=>by show 3<=jG.ntmps;exact Odt ab) (fun z _=>rfl) ?_;rintro⟨H,t,b⟩ ⟨d,e,c⟩ w M F;have c:b.length<1048576:=c;refine Ob.aO (G':=Ob.ai.sep (jz H.p H.me H.mem H.mp) (Ob.ai.sep (fm H.mp (hI H.talks)) (fu H.talks))) rfl ?_;refine afj gl w M F H.p H.mp H.me H.mem t b c d.ne _ ?_;refine Ob.aO (G':=bu H) rfl ?_;refine afk gl w M F H.p (1,0,H.me,H.me,t,0,b) _ fun a=>?_;refine afl gl w M F H.p a _ _ ?_;refine Ob.gz (E:=uF gl w M F) (HW gl) ⟨H,(1,0,H.me,H.me,t,0,b),a,[(1,0,H.me,H.me,t,0,b)],[]⟩ ⟨d,e,by show 1+22<=1000;omega,by show 0+22<=1000;omega⟩ qj (fun q _=>?_);refine Ob.dv ?_;refine Ob.gA (SyJ a) ?_;exact afm gl w M F a _ _ _ ⟨q,trivial,Ob.a7 _,rfl⟩
end hub
end Go.Proofs.YtofofalgjibokaaGreatDoor
namespace Go.Eng
open Go.IntKind(i64)
def du {b:Type} (p:b->Bool) (a:List b):Int:=if a.findIdx p<a.length then (a.findIdx p:Int) else -1
theorem ve {b:Type} {p:b->Bool} {a:List b} {k:Nat} (d:b) (g:k<a.length) (h:k<=a.findIdx p) (f:p (a.getD k d)=true):(k:Int)=du p a:=by
 have e:a.findIdx p=k:=by rcases bN k (a.findIdx p) with c|c;have:=List.not_of_lt_findIdx c;rw[aX,bz g,ct] at f;rw[f] at this;cases this;omega
 rw[du,e,aj g]
theorem qX {b:Type} {p:b->Bool} {xs:List b} {k:Nat} (d:b) (f:k<xs.length) (h:k<=xs.findIdx p) (a:p (xs.getD k d)=false):k+1<=xs.findIdx p:=by
 rcases bN k (xs.findIdx p) with c|c;exact c
 ·have e:xs.findIdx p=k:=by omega
  have:=wA (p:=p) (xs:=xs) (w:=by omega);rw[aX,bz f,ct] at a;simp only[e] at this;rw[this] at a;cases a
theorem sO {b:Type} {p:b->Bool} {a:List b} (h:a.length<=a.findIdx p):du p a=-1:=by rw[du,ah aa]
end Go.Eng
namespace Go.Proofs.YtofofalgjibokaaGreatDoor
namespace deal
open Go.Proofs.YtofofalgjibokaaGreatDoor.law14 Go.Proofs.YtofofalgjibokaaGreatDoor.poly
open Go.IntKind(i64)
abbrev cl:Kd:=.pair (.int .i64) (.sl aN)
abbrev cz:Kd:=.pair (.int .i64) (.pair (.int .i64) .fr)
abbrev iK:Kd:=.int .i64
theorem Vj:enters Tryz.prog 152 Tryz.f152:=ek
theorem ZY:aL Tryz.prog 152 [cl,.ptr iK] [.val .bool] bx (fun _=>True) (fun (d,x,_)=>(d.1==x,())):=by refine a8 (sp:=aP []) bp mixed Vj ae ae ?_;rintro w a ⟨d,x,⟨⟩⟩;revert x;intro (x:Int) _ _;refine al (X:=(0<[x].length/\(d.fst==x,())=(d.fst==x,()))) ab ?_;exact⟨jU,rfl⟩
def Ui:Nat × Eng.Spec:=(152,aH [cl,.ptr iK] [.val .bool] (fun _=>True) (fun (d,x,_)=>(d.1==x,())))
abbrev Fz:Kd:=.cap (.fn 152) iK
theorem ZG:enters Tryz.prog 109 Tryz.f109:=ek
def QH (a:List (Int × List (Fp × Fp))) (x:Int) (g:Int):St:=ar Tryz.f109.ntmps 32 [(0,.is (.one (.ro (cl) a))),(1,.is (.one (.fv Fz ((),x)))),(7,sI .i64 a.length),(8,sI .i64 g)] []
theorem acy:aL Tryz.prog 109 [.sl (cl),Fz] [.val iK] bx (fun (a,_,_)=>length a<4611686018427387904) (fun (a,(_,x),_)=>(du (fun d:Int × List (Fp × Fp)=>d.1==x) a,())):=by
 have e:aD Tryz.prog (aP [Ui]):=aJ (aM ZY) bp;refine bI (sp:=aP [Ui]) ZG ae ae ab ?_;rintro w p ⟨a,⟨⟨⟩,x⟩,⟨⟩⟩;revert a x;intro (a:List (Int × List (Fp × Fp))) (x:Int) _ m;have m:a.length<4611686018427387904:=m;show Tr _ _ _ _ _ _ _;refine bd e mixed 2 (QH a x 0) True ?_ (fun _=>?_);refine al (X:=((QH a x 0).ag True)) ab ?_;exact ao trivial;refine cd e mixed h9 (fun o=>bg (.int .i64) 8 o) (QH a x) (fun g=>∃ k:Nat,k<=a.length/\g=(k:Int)/\k<=a.findIdx (fun d:Int × List (Fp × Fp)=>d.1==x)) (fun g=>a.length-g.toNat)
  (fun _=>()) (fun _=>ar Tryz.f109.ntmps 32 [] []) (fun _=>a.length<=a.findIdx (fun d:Int × List (Fp × Fp)=>d.1==x)) 0 (c:=aq (ak Tryz.f109) 2) ab ab (aw ab ab ?_) ?_ ?_
 exact⟨0,a2 _,rfl,a2 _⟩
 ·intro (i:Int) ⟨k,q,n,j⟩;subst n;refine al (X:=((decide ((k:Int)<(a.length:Int))=true->(0<=(k:Int)/\(k:Int)<(a.length:Int))/\(k:Int).toNat<a.length/\True/\(((a.getD (k:Int).toNat (0,[])).fst==x)=true->((k:Int),())=(du (fun d=>d.fst==x) a,()))/\(((a.getD (k:Int).toNat (0,[])).fst==x)=false->(QH a x (i64.wrap ((k:Int)+1))).ag ((∃ f,f<=a.length/\i64.wrap ((k:Int)+1)=(f:Int)/\f<=List.findIdx (fun d=>d.fst==x) a)/\a.length-(i64.wrap ((k:Int)+1)).toNat<a.length-(k:Int).toNat)))/\(decide ((k:Int)<(a.length:Int))=false->(ar Tryz.f109.ntmps 32 [] []).ag (a.length<=List.findIdx (fun d=>d.fst==x) a)))) ab ?_;rw[aB];refine⟨fun h=>?_,fun h=>ao (by have:=bW h;omega)⟩;have b:k<a.length:=by have:=dec_lt h;omega
  rw[aS aa];refine⟨⟨aa,aa⟩,b,trivial,fun l=>?_,fun l=>ao ⟨⟨k+1,b,rfl,qX ((0:Int),([]:List (Fp × Fp))) b j (by exact l)⟩,by rw[aB];omega⟩⟩;show ((k:Int),())=(du _ a,());rw[ve ((0:Int),([]:List (Fp × Fp))) b j (by exact l)]
 rintro⟨⟩ (j:_<=_);refine bE e mixed _ _ ?_;refine al (X:=(((-1:Int),())=(du (fun d=>d.fst==x) a,()))) ab ?_;show _=(du _ a,());rw[sO j]
theorem Vl:enters Tryz.prog 114 Tryz.f114:=ek
theorem Z0:aL Tryz.prog 114 [cl,.ptr iK] [.val .bool] bx (fun _=>True) (fun (d,x,_)=>(d.1==x,())):=by refine a8 (sp:=aP []) bp mixed Vl ae ae ?_;rintro w a ⟨d,x,⟨⟩⟩;revert x;intro (x:Int) _ _;refine al (X:=(0<[x].length/\(d.fst==x,())=(d.fst==x,()))) ab ?_;exact⟨jU,rfl⟩
def Uk:Nat × Eng.Spec:=(114,aH [cl,.ptr iK] [.val .bool] (fun _=>True) (fun (d,x,_)=>(d.1==x,())))
abbrev FA:Kd:=.cap (.fn 114) iK
theorem ZI:enters Tryz.prog 109 Tryz.f109:=ek
def QJ (a:List (Int × List (Fp × Fp))) (x:Int) (g:Int):St:=ar Tryz.f109.ntmps 32 [(0,.is (.one (.ro (cl) a))),(1,.is (.one (.fv FA ((),x)))),(7,sI .i64 a.length),(8,sI .i64 g)] []
theorem acG:aL Tryz.prog 109 [.sl (cl),FA] [.val iK] bx (fun (a,_,_)=>length a<4611686018427387904) (fun (a,(_,x),_)=>(du (fun d:Int × List (Fp × Fp)=>d.1==x) a,())):=by
 have e:aD Tryz.prog (aP [Uk]):=aJ (aM Z0) bp;refine bI (sp:=aP [Uk]) ZI ae ae ab ?_;rintro w p ⟨a,⟨⟨⟩,x⟩,⟨⟩⟩;revert a x;intro (a:List (Int × List (Fp × Fp))) (x:Int) _ m;have m:a.length<4611686018427387904:=m;show Tr _ _ _ _ _ _ _;refine bd e mixed 2 (QJ a x 0) True ?_ (fun _=>?_);refine al (X:=((QJ a x 0).ag True)) ab ?_;exact ao trivial;refine cd e mixed h9 (fun o=>bg (.int .i64) 8 o) (QJ a x) (fun g=>∃ k:Nat,k<=a.length/\g=(k:Int)/\k<=a.findIdx (fun d:Int × List (Fp × Fp)=>d.1==x)) (fun g=>a.length-g.toNat)
  (fun _=>()) (fun _=>ar Tryz.f109.ntmps 32 [] []) (fun _=>a.length<=a.findIdx (fun d:Int × List (Fp × Fp)=>d.1==x)) 0 (c:=aq (ak Tryz.f109) 2) ab ab (aw ab ab ?_) ?_ ?_
 exact⟨0,a2 _,rfl,a2 _⟩
 ·intro (i:Int) ⟨k,q,n,j⟩;subst n;refine al (X:=((decide ((k:Int)<(a.length:Int))=true->(0<=(k:Int)/\(k:Int)<(a.length:Int))/\(k:Int).toNat<a.length/\True/\(((a.getD (k:Int).toNat (0,[])).fst==x)=true->((k:Int),())=(du (fun d=>d.fst==x) a,()))/\(((a.getD (k:Int).toNat (0,[])).fst==x)=false->(QJ a x (i64.wrap ((k:Int)+1))).ag ((∃ f,f<=a.length/\i64.wrap ((k:Int)+1)=(f:Int)/\f<=List.findIdx (fun d=>d.fst==x) a)/\a.length-(i64.wrap ((k:Int)+1)).toNat<a.length-(k:Int).toNat)))/\(decide ((k:Int)<(a.length:Int))=false->(ar Tryz.f109.ntmps 32 [] []).ag (a.length<=List.findIdx (fun d=>d.fst==x) a)))) ab ?_;rw[aB];refine⟨fun h=>?_,fun h=>ao (by have:=bW h;omega)⟩;have b:k<a.length:=by have:=dec_lt h;omega
  rw[aS aa];refine⟨⟨aa,aa⟩,b,trivial,fun l=>?_,fun l=>ao ⟨⟨k+1,b,rfl,qX ((0:Int),([]:List (Fp × Fp))) b j (by exact l)⟩,by rw[aB];omega⟩⟩;show ((k:Int),())=(du _ a,());rw[ve ((0:Int),([]:List (Fp × Fp))) b j (by exact l)]
 rintro⟨⟩ (j:_<=_);refine bE e mixed _ _ ?_;refine al (X:=(((-1:Int),())=(du (fun d=>d.fst==x) a,()))) ab ?_;show _=(du _ a,());rw[sO j]
theorem Vn:enters Tryz.prog 159 Tryz.f159:=ek
theorem Z2:aL Tryz.prog 159 [iK,.ptr iK] [.val .bool] bx (fun _=>True) (fun (d,x,_)=>(d==x,())):=by refine a8 (sp:=aP []) bp mixed Vn ae ae ?_;rintro w a ⟨d,x,⟨⟩⟩;revert x;intro (x:Int) _ _;refine al (X:=(0<[x].length/\(d==x,())=(d==x,()))) ab ?_;exact⟨jU,rfl⟩
def Um:Nat × Eng.Spec:=(159,aH [iK,.ptr iK] [.val .bool] (fun _=>True) (fun (d,x,_)=>(d==x,())))
abbrev FC:Kd:=.cap (.fn 159) iK
theorem ZK:enters Tryz.prog 158 Tryz.f158:=ek
def QL (a:List (Int)) (x:Int) (g:Int):St:=ar Tryz.f158.ntmps 32 [(0,.is (.one (.ro (iK) a))),(1,.is (.one (.fv FC ((),x)))),(7,sI .i64 a.length),(8,sI .i64 g)] []
theorem acK:aL Tryz.prog 158 [.sl (iK),FC] [.val iK] bx (fun (a,_,_)=>length a<4611686018427387904) (fun (a,(_,x),_)=>(du (fun d:Int=>d==x) a,())):=by
 have e:aD Tryz.prog (aP [Um]):=aJ (aM Z2) bp;refine bI (sp:=aP [Um]) ZK ae ae ab ?_;rintro w p ⟨a,⟨⟨⟩,x⟩,⟨⟩⟩;revert a x;intro (a:List (Int)) (x:Int) _ m;have m:a.length<4611686018427387904:=m;show Tr _ _ _ _ _ _ _;refine bd e mixed 2 (QL a x 0) True ?_ (fun _=>?_);refine al (X:=((QL a x 0).ag True)) ab ?_;exact ao trivial;refine cd e mixed h9 (fun o=>bg (.int .i64) 8 o) (QL a x) (fun g=>∃ k:Nat,k<=a.length/\g=(k:Int)/\k<=a.findIdx (fun d:Int=>d==x)) (fun g=>a.length-g.toNat)
  (fun _=>()) (fun _=>ar Tryz.f158.ntmps 32 [] []) (fun _=>a.length<=a.findIdx (fun d:Int=>d==x)) 0 (c:=aq (ak Tryz.f158) 2) ab ab (aw ab ab ?_) ?_ ?_
 exact⟨0,a2 _,rfl,a2 _⟩
 ·intro (i:Int) ⟨k,q,n,j⟩;subst n;refine al (X:=((decide ((k:Int)<(a.length:Int))=true->(0<=(k:Int)/\(k:Int)<(a.length:Int))/\(k:Int).toNat<a.length/\True/\((a.getD (k:Int).toNat 0==x)=true->((k:Int),())=(du (fun d=>d==x) a,()))/\((a.getD (k:Int).toNat 0==x)=false->(QL a x (i64.wrap ((k:Int)+1))).ag ((∃ f,f<=a.length/\i64.wrap ((k:Int)+1)=(f:Int)/\f<=List.findIdx (fun d=>d==x) a)/\a.length-(i64.wrap ((k:Int)+1)).toNat<a.length-(k:Int).toNat)))/\(decide ((k:Int)<(a.length:Int))=false->(ar Tryz.f158.ntmps 32 [] []).ag (a.length<=List.findIdx (fun d=>d==x) a)))) ab ?_;rw[aB];refine⟨fun h=>?_,fun h=>ao (by have:=bW h;omega)⟩;have b:k<a.length:=by have:=dec_lt h;omega
  rw[aS aa];refine⟨⟨aa,aa⟩,b,trivial,fun l=>?_,fun l=>ao ⟨⟨k+1,b,rfl,qX (0:Int) b j (by exact l)⟩,by rw[aB];omega⟩⟩;show ((k:Int),())=(du _ a,());rw[ve (0:Int) b j (by exact l)]
 rintro⟨⟩ (j:_<=_);refine bE e mixed _ _ ?_;refine al (X:=(((-1:Int),())=(du (fun d=>d==x) a,()))) ab ?_;show _=(du _ a,());rw[sO j]
open law14 poly
theorem Si:enters Tryz.prog 31 Tryz.f31:=ek
abbrev o5:HL [.sl aN]->Prop:=fun (c,_)=>length c<1048576
theorem Er:aL Tryz.prog 31 [.sl aN] [.own aN] bx o5 (fun (c,_)=>(c,())):=by have a:aD Tryz.prog (aP []):=bp;refine w8 (sp:=aP []) Si ae ae ab ?_ ?_;rintro w d ⟨⟩ _ b;show Tr _ _ _ _ _ _ _;refine bE a mixed _ _ ?_;refine al (X:=((([]:List (Fp × Fp)),())=(([]:List (Fp × Fp)),()))) ab rfl;rintro w d c ⟨⟩ _ _ b;revert c;intro (c:List (Fp × Fp)) _ b;have b:c.length<1048576:=b;show Tr _ _ _ _ _ _ _;refine bE a mixed _ _ ?_;refine al (X:=(0<=0/\(0+c.length)*96<=140737488355328/\0+c.length<=4611686018427387904/\0+(0+c.length)<=0+c.length/\(take (0+c.length) (take 0 []++c),())=(c,()))) ab ?_;rw[tK,dH,bH,aV];exact⟨aE _,aa,aa,aa,rfl⟩
def Ip:Nat × Eng.Spec:=(31,aH [.sl aN] [.own aN] o5 (fun (c,_)=>(c,())))
theorem aeE:∀ {b:List Int} {a:Int},j8 a b=true->∀ x∈b,a<x/\x<=9:=by
 intro b;induction b with
 | nil=>intro a _ x hx;cases hx
 | cons y b c =>intro a h x hx;rw[j8] at h;split at h;cases h;rcases mem_cons.1 hx with rfl|hx;omega;have:=c h x hx;omega
theorem Sv:enters Tryz.prog 113 Tryz.f113:=ek
def cK (d:List Int) (o:List (Fp × Fp)) (q:List Int):List Int × List Fr × Int :=
 if j8 0 q=true/\Ca d o<=(q.length:Int) then (if o.length=0 then (q,[],0) else (q.take o.length,pW (q.take o.length),q6 [] (q.take o.length))) else ([],[],32)
abbrev Gx:HL [dU,.sl iK]->Prop:=fun ((_,_,_,o),q,_)=>length o<1048576/\length q<4611686018427387904
abbrev yH:HL [dU,.sl iK]->HO [.val (.sl iK),.own .fr,.val iK]:=fun ((d,_,_,o),q,_)=>((cK d o q).1,(cK d o q).2.1,(cK d o q).2.2,())
theorem KZ:aL Tryz.prog 113 [dU,.sl iK] [.val (.sl iK),.own .fr,.val iK] bx Gx yH:=by
 refine a8 (sp:=aP [MA,abt,yU,Ur]) (aJ (aM I1) (aJ (aM VN) (aJ (aM zr) (aJ (aM Qu) bp)))) mixed Sv ae ae ?_;rintro w r ⟨⟨d,t,n,o⟩,q,⟨⟩⟩;revert d t n o q;intro (d:List Int) (t:List Int) (n:Int) (o:List (Fp × Fp)) (q:List Int) _ m;obtain⟨g,f⟩:=m;have g:o.length<1048576:=g;have f:q.length<4611686018427387904:=f;refine al (X:=(Cn (q,())/\((!j8 0 q)=true->([],[],32,())=yH ((d,t,n,o),q,()))/\((!j8 0 q)=false->True/\(decide ((q.length:Int)<Ca d o)=true->([],[],32,())=yH ((d,t,n,o),q,()))/\(decide ((q.length:Int)<Ca d o)=false->True/\(((o.length:Int)==0)=true->(q,[],0,())=yH ((d,t,n,o),q,()))/\(((o.length:Int)==0)=false->(0<=(o.length:Int)/\(o.length:Int)<=(q.length:Int))/\zX (take ((o.length:Int)-0).toNat q,())/\0+(pW (take ((o.length:Int)-0).toNat q)).length<=(pW (take ((o.length:Int)-0).toNat q)).length/\(take ((o.length:Int)-0).toNat q,take (pW (take ((o.length:Int)-0).toNat q)).length (pW (take ((o.length:Int)-0).toNat q)),q6 [] (take ((o.length:Int)-0).toNat q),())=yH ((d,t,n,o),q,())))))) ab ?_;have j:((o.length:Int)-0).toNat=o.length:=aa;rw[j];refine⟨f,fun h=>?_,fun h=>⟨trivial,fun a=>?_,fun a=>⟨trivial,fun b=>?_,fun b=>?_⟩⟩⟩;show _=((cK d o q).1,(cK d o q).2.1,(cK d o q).2.2,());rw[cK,ah (fun c=>by rw[c.1] at h;cases h)];show _=((cK d o q).1,(cK d o q).2.1,(cK d o q).2.2,());rw[cK,ah (fun c=>by have:=Odt a;omega)];show _=((cK d o q).1,(cK d o q).2.1,(cK d o q).2.2,());have b:(o.length:Int)=0:=eq_of_beq b;have a:=Odf a;rw[cK,aj ⟨by simpa using h,aa⟩,aj aa]
 ·have l:=b;have b:¬ (o.length:Int)=0:=fun c=>by rw[c] at b;simp at b
  have a:=Odf a;have i:j8 0 q=true:=by simpa using h
  have k:Ca d o=(o.length:Int):=by rw[Ca,aj (by rw[l];rfl)]
  have e:(o.length:Int)<=q.length:=by rw[k] at a;omega
  refine⟨⟨aa,e⟩,⟨by show (q.take o.length).length<_;rw[cX];omega,fun x p=>?_⟩,aa,?_⟩;have:=aeE i x (ng p);exact⟨aa,aa⟩;rw[aV];show _=((cK d o q).1,(cK d o q).2.1,(cK d o q).2.2,());rw[cK,aj ⟨i,aa⟩,ah aa]
def Dv:Nat × Eng.Spec:=(113,aH [dU,.sl iK] [.val (.sl iK),.own .fr,.val iK] Gx yH)
abbrev Dl:Type:=Int × List (Fp × Fp)
def ib (a:List Dl) (x:Int):Int:=eS (du (fun d:Dl=>d.1==x) a)
theorem acZ:aL Tryz.prog 109 [.sl cl,FA] [.val iK] bx (fun (a,_,_)=>length a<4611686018427387904) (fun (a,(_,x),_)=>(ib a x,())):=acG.out fun (a,(_,x),_)=>by show (ib a x,())=(du (fun d:Dl=>d.1==x) a,());rw[ib,bf]
def YS:Nat × Eng.Spec:=(109,aH [.sl cl,FA] [.val iK] (fun (a,_,_)=>length a<4611686018427387904) (fun (a,(_,x),_)=>(ib a x,())))
def cO (a:List Dl) (x:Int):List (Fp × Fp):=(a.getD (ib a x).toNat (0,[])).2
def nK (a:List Dl) (n x:Int):Bool:=decide (0<=ib a x)&&decide (((cO a x).length:Int)=n)
def jW (a:List Fr) (k:Nat) (c:List (Fp × Fp)):List (Fp × Fp):=if a.length=0 then c else c.map fun p=>g1.cV p (a.getD k 0)
def jS (a:List Dl) (b:List Int) (d:List Fr):Nat->List (Fp × Fp)
 | 0=>[]
 | k+1=>iz (jS a b d k) (jW d k (cO a (b.getD k 0)))
def xd (n:Int) (b:List Dl) (a:List Int) (d:List Fr) (e:Int):List (Fp × Fp) × Int:=if e=0 then (if a.all (nK b n)=true then (jS b a d a.length,0) else ([],41)) else ([],e)
def nv (d:List Int) (n:Int) (o:List (Fp × Fp)) (q:List Int) (a:List Dl):List (Fp × Fp) × Int:=xd n a (cK d o q).1 (cK d o q).2.1 (cK d o q).2.2
theorem Py (d:List Int) (o:List (Fp × Fp)) (q:List Int):(cK d o q).1.length<=q.length/\((cK d o q).2.2=0->(cK d o q).2.1.length=0\/(cK d o q).2.1.length=(cK d o q).1.length):=by unfold cK;split;split;exact⟨aE _,fun _=>.inl rfl⟩;refine⟨by rw[cX];exact Nat.min_le_right _ _,fun h=>.inr ?_⟩;show (pW _).length=_;rw[pW,aj h,bU];exact⟨a2 _,fun h=>absurd h ae⟩
theorem Vo:enters Tryz.prog 71 Tryz.f71:=ek
abbrev Df:HL [dU,.sl iK,.sl cl]->Prop:=fun ((_,_,n,o),q,a,_)=>length o<1048576/\length q<4611686018427387904/\length a<4611686018427387904/\n<1048576
def xR (f:Fp × Fp->Fp × Fp) (c:List (Fp × Fp)) (j:Nat):List (Fp × Fp):=(c.take j).map f++c.drop j
theorem Tm (f:Fp × Fp->Fp × Fp) (c:List (Fp × Fp)) {j:Nat} (h:j<c.length):(xR f c j).set j (f ((xR f c j).getD j (0,0)))=xR f c (j+1):=by
 have a:(xR f c j).getD j (0,0)=c[j]:=by rw[xR,aX,qf (by simp;omega)];simp[h,iY (tO h)]
 rw[a,xR,xR,qg _ _ (by simp;omega),cr h,de];have b:j-((c.take j).map f).length=0:=by simp;omega
 rw[b,lS h,oy,cB];rfl
def adX (c:List (Fp × Fp)) (f:Fp × Fp->Fp × Fp) (g:Int × List (Fp × Fp)):Prop:=∃ j:Nat,j<=c.length/\g.1=(j:Int)/\g.2=xR f c j
def Yp (n:Int) (b:List Dl) (a:List Int) (d:List Fr) (g:Int × List (Fp × Fp)):Prop:=∃ k:Nat,k<=a.length/\g.1=(k:Int)/\g.2=jS b a d k/\∀ x∈a.take k,nK b n x=true
theorem Te (b:List Dl) (a:List Int) (f:List Fr) (n:Int):∀ k,k<=a.length->(∀ x∈a.take k,nK b n x=true)->(jS b a f k).length=0\/((jS b a f k).length:Int)=n:=by
 intro k;induction k with
 | zero=>intro _ _;exact .inl rfl
 | succ k m =>
  intro j h;have d:k<a.length:=j;have o:=m aa (fun x l=>h x (by rw[cr d];exact gS _ l));have g:=h a[k] (by rw[cr d];exact ij _ (List.mem_singleton.2 rfl));rw[nK,aQ] at g;have p:=Odt g.2;have e:(jW f k (cO b (a.getD k 0))).length=(cO b a[k]).length:=by
   have:a.getD k 0=a[k]:=by rw[aX,bz d,ct]
   rw[this,jW];split;rfl;rw[bU]
  have i:(jS b a f (k+1)).length=max (jS b a f k).length (cO b a[k]).length:=by show (iz _ _).length=_;rw[iz,jL,bU,qA,e]
  right;rw[i];omega
def xw (a:List Int) (x:Int):Int:=eS (du (fun d:Int=>d==x) a)
theorem ac1:aL Tryz.prog 158 [.sl iK,FC] [.val iK] bx (fun (a,_,_)=>length a<4611686018427387904) (fun (a,(_,x),_)=>(xw a x,())):=acK.out fun (a,(_,x),_)=>by show (xw a x,())=(du (fun d:Int=>d==x) a,());rw[xw,bf]
def YT:Nat × Eng.Spec:=(158,aH [.sl iK,FC] [.val iK] (fun (a,_,_)=>length a<4611686018427387904) (fun (a,(_,x),_)=>(xw a x,())))
def AL (a:List Int) (b:List Fr) (x:Int):Bool:=decide (0<=xw a x)&&decide (xw a x<(b.length:Int))
def tW (a:List Fr) (k:Nat) (s:Fr):Fr:=if a.length=0 then s else s*a.getD k 0
def tS (a:List Int) (b:List Fr) (d:List Int) (e:List Fr):Nat->Fr
 | 0=>0
 | k+1=>tS a b d e k+tW e k (b.getD (xw a (d.getD k 0)).toNat 0)
def Fb (b:List Int) (d:List Fr) (a:List Int) (f:List Fr) (e:Int):Fr × Int:=if e=0 then (if a.all (AL b d)=true then (tS b d a f a.length,0) else (0,41)) else (0,e)
def te (d:List Int) (o:List (Fp × Fp)) (q a:List Int) (b:List Fr):Fr × Int:=Fb a b (cK d o q).1 (cK d o q).2.1 (cK d o q).2.2
theorem w7:enters Tryz.prog 116 Tryz.f116:=ek
abbrev zW:HL [dU,.sl iK,.sl iK,.sl .fr]->Prop:=fun ((_,_,_,o),q,a,_,_)=>length o<1048576/\length q<4611686018427387904/\length a<4611686018427387904
abbrev sX:HL [dU,.sl iK,.sl iK,.sl .fr]->HO [.val .fr,.val iK]:=fun ((d,_,_,o),q,a,b,_)=>((te d o q a b).1,(te d o q a b).2,())
def Y4 (b:List Int) (d:List Fr) (f:List Int) (a:List Fr) (e:Int):St:=ar Tryz.f116.ntmps 104 [(2,.is (.one (.ro iK b))),(3,.is (.one (.ro .fr d))),(8,.is (.one (.ptr 8 0))),(9,sI .i64 0),(10,.is (.one (.ro iK f))),(11,.is (.one (.sl 40 0 0 a.length 4))),(12,sI .i64 e)] [(40,[.row .fr a.length a]),(8,[.row .fr 1 [0]])]
def CI (d:List Int) (e:List Fr) (b:List Int) (a:List Fr) (g:Int × Fr):St:=ar Tryz.f116.ntmps 152 [(2,.is (.one (.ro iK d))),(3,.is (.one (.ro .fr e))),(8,.is (.one (.ptr 8 0))),(11,.is (.one (.sl 40 0 0 a.length 4))),(13,.is (.one (.ptr 120 0))),(29,.is (.one (.ro iK b))),(30,sI .i64 b.length),(31,sI .i64 g.1)] [(40,[.row .fr a.length a]),(8,[.row .fr 1 [0]]),(120,[.row .fr 1 [g.2]])]
def ML (d:List Int) (e:List Fr) (b:List Int) (a:List Fr) (k:Nat) (s:Fr) (I:Int):St:=ar Tryz.f116.ntmps 152 [(2,.is (.one (.ro iK d))),(3,.is (.one (.ro .fr e))),(8,.is (.one (.ptr 8 0))),(11,.is (.one (.sl 40 0 0 a.length 4))),(13,.is (.one (.ptr 120 0))),(29,.is (.one (.ro iK b))),(30,sI .i64 b.length),(31,sI .i64 k),(14,sI .i64 k),(16,sI .i64 I)] [(40,[.row .fr a.length a]),(8,[.row .fr 1 [0]]),(120,[.row .fr 1 [s]])]
def lP (b:List Int) (d:List Fr) (a:List Int) (e:List Fr) (g:Int × Fr):Prop:=∃ k:Nat,k<=a.length/\g.1=(k:Int)/\g.2=tS b d a e k/\∀ x∈a.take k,AL b d x=true
theorem VR:aL Tryz.prog 116 [dU,.sl iK,.sl iK,.sl .fr] [.val .fr,.val iK] bx zW sX:=by
 have m:aD Tryz.prog (aP [Dv,YT,fr.kq,fr.jM]):=aJ (aM KZ) (aJ (aM ac1) (aJ (aM fr.nM) (aJ (aM fr.nL) bp)));refine bI (sp:=aP [Dv,YT,fr.kq,fr.jM]) w7 ae ae ab ?_;rintro w M0 ⟨⟨d,t,n,o⟩,q,b,a,⟨⟩⟩;revert d t n o q b a;intro (d:List Int) (t:List Int) (n:Int) (o:List (Fp × Fp)) (q:List Int) (b:List Int) (a:List Fr) _ hp;obtain⟨U,V,C⟩:=hp;have U:o.length<1048576:=U;have V:q.length<4611686018427387904:=V;have C:b.length<4611686018427387904:=C;show Tr _ _ _ _ _ _ _;refine bd m mixed 2 (Y4 b a (cK d o q).1 (cK d o q).2.1 (cK d o q).2.2) True ?_ (fun _=>?_);refine al (X:=(Gx ((d,t,n,o),q,())/\(Y4 b a (cK d o q).fst (cK d o q).snd.fst (cK d o q).snd.snd).ag True)) ab ?_;exact⟨⟨U,V⟩,ao trivial⟩;have T:te d o q b a=Fb b a (cK d o q).1 (cK d o q).2.1 (cK d o q).2.2:=rfl;obtain⟨x0,W⟩:=Py d o q;generalize (cK d o q).1=f at *;generalize (cK d o q).2.1=j at *;generalize (cK d o q).2.2=e at *;refine bd m mixed 4 (CI b a f j (0,0)) (e=0) ?_ (fun he=>?_);refine al (X:=(((e != 0)=true->((0:Fr),e,())=sX ((d,t,n,o),q,b,a,()))/\((e != 0)=false->(CI b a f j (0,(0:Fr))).ag (e=0)))) ab ?_;refine⟨fun h=>?_,fun h=>ao (by simpa using h)⟩;show _=((te d o q b a).1,(te d o q b a).2,());rw[T,Fb,ah (by simpa using h)];subst he;refine pg h9 (fun E=>(bg (.int .i64) 31 E,pP .fr 120 E)) (CI b a f j) (lP b a f j) (fun g=>f.length-g.1.toNat)
  (fun E=>(bg (.int .i64) 31 E,pP .fr 120 E)) (CI b a f j) (fun g=>f.all (AL b a)=true/\g.2=tS b a f j f.length) (0,0) (c:=aq (ak Tryz.f116) 6) ab ab (aw ab ab ?_) ?_ ?_
 exact⟨0,a2 _,rfl,rfl,au⟩
 ·rintro⟨i,s⟩ O;revert i s;intro (i:Int) (s:Fr) ⟨k,hk,A,es,D⟩;have A:i=(k:Int):=A;have ks:s=tS b a f j k:=es;subst A;refine bd m mixed 2 (CI b a f j ((k:Int),s)) (k<f.length) ?_ (fun r=>?_)
  ·refine al (X:=((decide ((k:Int)<(f.length:Int))=true->(CI b a f j ((k:Int),s)).ag (k<f.length))/\(decide ((k:Int)<(f.length:Int))=false->(CI b a f j ((k:Int),s)).ag (f.all (AL b a)=true/\s=tS b a f j f.length)))) ab ?_;refine⟨fun h=>ao (by have:=dec_lt h;omega),fun h=>ao ?_⟩;have:k=f.length:=by have:=bW h;omega
   rw[this,aV] at D;exact⟨List.all_eq_true.2 D,by rw[ks,this]⟩
  refine mf (c:=aq (aZ (aq (ak Tryz.f116) 6)) 2) ab ab ?_;refine bd m mixed 2 (ML b a f j k s (xw b (f.getD (k:Int).toNat 0))) True ?_ (fun _=>?_);refine al (X:=((0<=(k:Int)/\(k:Int)<(f.length:Int))/\(k:Int).toNat<f.length/\b.length<4611686018427387904/\(ML b a f j k s (xw b (f.getD (k:Int).toNat 0))).ag True)) ab ?_;rw[aB];exact⟨⟨aa,aa⟩,r,C,ao trivial⟩;generalize hx:f.getD (k:Int).toNat 0=x;generalize L:xw b x=I;have H:f.getD k 0=x:=by rw[<- hx,aB]
  have K:f[k]=x:=by rwa [aX,bz r,ct] at H
  have Y:x∈f:=K▸dx r;refine jO m mixed 6 (fun E=>((k:Int),pP .fr 120 E)) (CI b a f j) (fun g=>g.1=(k:Int)/\lP b a f j (((k+1:Nat):Int),g.2)) ?_ ?_
  ·refine al (X:=((decide (I<0)=true->((0:Fr),41,())=sX ((d,t,n,o),q,b,a,()))/\(decide (I<0)=false->(decide (I>=(a.length:Int))=true->((0:Fr),41,())=sX ((d,t,n,o),q,b,a,()))/\(decide (I>=(a.length:Int))=false->(0<=I/\I<(a.length:Int))/\I.toNat<a.length/\(decide ((j.length:Int)>0)=true->(0<=(k:Int)/\(k:Int)<(j.length:Int))/\(k:Int).toNat<j.length/\True/\True/\(CI b a f j ((k:Int),s+a.getD I.toNat (0:Fr)*j.getD (k:Int).toNat (0:Fr))).ag ((k:Int)=(k:Int)/\lP b a f j ((↑(k+1):Int),s+a.getD I.toNat (0:Fr)*j.getD (k:Int).toNat (0:Fr))))/\(decide ((j.length:Int)>0)=false->True/\(CI b a f j ((k:Int),s+a.getD I.toNat (0:Fr))).ag ((k:Int)=(k:Int)/\lP b a f j ((↑(k+1):Int),s+a.getD I.toNat (0:Fr)))))))) ab ?_;have z:AL b a x=false->((0:Fr),(41:Int),())=sX ((d,t,n,o),q,b,a,()):=fun hb=>by
    show _=((te d o q b a).1,(te d o q b a).2,());have:¬ f.all (AL b a)=true:=fun c=>by have:=List.all_eq_true.1 c x Y;rw[hb] at this;cases this
    rw[T,Fb,aj rfl,ah this]
   have p:AL b a x=true->∀ u:Fr,u=s+tW j k (a.getD I.toNat 0)->lP b a f j (((k+1:Nat):Int),u):=fun N u e=>by refine⟨k+1,r,rfl,?_,?_⟩;show u=tS b a f j k+tW j k (a.getD (xw b (f.getD k 0)).toNat 0);rw[e,H,L,ks];intro y P;rw[cr r,lu,gk] at P;rcases P with P|rfl;exact D y P;rw[K];exact N
   refine⟨fun h=>z (by rw[AL,L,cp (by have:=Odt h;omega)];rfl),fun h=>?_⟩;have Z:0<=I:=by have:=Odf h;omega
   refine⟨fun R=>z (by rw[AL,L,cp (show ¬ I<(a.length:Int) by have:=Odt R;omega),fK]),fun R=>?_⟩;have h1:I<(a.length:Int):=by have:=Odf R;omega
   have N:AL b a x=true:=by rw[AL,L,bX Z,bX h1];rfl
   rw[aB];refine⟨⟨Z,h1⟩,aa,fun F=>?_,fun F=>?_⟩
   ·have F:=Odt F;have x1:j.length=f.length:=by have:=W rfl;omega
    exact⟨⟨aa,aa⟩,aa,trivial,trivial,ao ⟨rfl,p N _ (by rw[tW,ah aa])⟩⟩
   have F:=Odf F;exact⟨trivial,ao ⟨rfl,p N _ (by rw[tW,aj aa])⟩⟩
  rintro⟨i,u⟩ O;revert i u;intro (i:Int) (u:Fr) ⟨A,O⟩;have A:i=(k:Int):=A;subst A;refine ke ?_;refine bE m mixed _ _ ?_;refine al (X:=((CI b a f j (IntKind.i64.wrap ((k:Int)+1),u)).ag (lP b a f j (IntKind.i64.wrap ((k:Int)+1),u)/\f.length-(IntKind.i64.wrap ((k:Int)+1)).toNat<f.length-(k:Int).toNat))) ab ?_;rw[aS aa];exact ao ⟨O,by rw[aB,aB];omega⟩
 rintro⟨i,l⟩ O;revert i l;intro (i:Int) (l:Fr) ⟨G,Q⟩;have Q:l=tS b a f j f.length:=Q;refine bE m mixed _ _ ?_;refine al (X:=((l,0,())=sX ((d,t,n,o),q,b,a,()))) ab ?_;show _=((te d o q b a).1,(te d o q b a).2,());rw[T,Fb,aj rfl,aj G,Q]
end deal
namespace law22
open law14 poly deal
open Go.IntKind(i64)
def cL (d:List (Fp × Fp)):List Int:=eS (kf d)
theorem K1:aL Tryz.prog 65 [.sl aN] [.own (.int .u8)] bx vW (fun (a,_)=>(cL a,())):=zv.out fun (a,_)=>by show (cL a,())=(kf a,());rw[cL,bf]
def rE (d:List Int) (n:Int) (o:List (Fp × Fp)) (q:List Int) (a:List Dl):List (Fp × Fp) × Int:=eS (nv d n o q a)
theorem Zg (n:Int):0<=aF .and .i64 n 1023/\aF .and .i64 n 1023<=1023:=by
 have h:((BitVec.ofInt 64 n &&& BitVec.ofInt 64 1023:BitVec 64).toNat)<=1023:=by rw[tG];exact Nat.and_le_right
 have e:aF .and .i64 n 1023=(((BitVec.ofInt 64 n &&& BitVec.ofInt 64 1023:BitVec 64).toNat:Nat):Int):=by show IntKind.i64.wrap (((BitVec.ofInt 64 n &&& BitVec.ofInt 64 1023:BitVec 64).toNat:Nat):Int)=_;exact ba aa aa
 rw[e];omega
end law22
namespace poly
open Go.IntKind(i64)
def Rf (p q:List Fr):List Fr:=(range (max p.length q.length)).map fun i=>p.getD i 0+q.getD i 0
end poly
namespace law22
open law14 poly deal
open Go.IntKind(i64)
theorem KB (p:List Fr) (i:Nat):(cn p).getD i (0,0)=g1.cV g1.gG (p.getD i 0):=by by_cases h:i<p.length;rw[cn,getD_map _ h,aX,bz h];rfl;rw[aX,dQ (by rw[cn,bU];omega),aX,dQ aa];show (0,0)=g1.cV g1.gG 0;rw[g1.mul_zero g1.mu]
theorem TH (p q:List Fr):iz (cn p) (cn q)=cn (Rf p q):=by
 have a:(cn p).length=p.length:=by rw[cn,bU]
 have b:(cn q).length=q.length:=by rw[cn,bU]
 rw[iz,jL,a,b];conv=>rhs;rw[cn,Rf,lx]
 refine Ba fun i _=>?_;show EP (cn p) (cn q) q.length i=g1.cV g1.gG (p.getD i 0+q.getD i 0);rw[EP,KB,KB];split;rw[g1.Ot (g1.nE g1.mu _).1 (g1.nE g1.mu _).1,g1.mul_add g1.mu]
 ·rename_i h;have:q.getD i 0=0:=by rw[aX,dQ aa];rfl
  rw[this,Rg.add_zero]
def ur (d:List Int) (o:List (Fp × Fp)) (q a:List Int) (b:List Fr):Fr × Int:=eS (te d o q a b)
theorem VW:aL Tryz.prog 116 [dU,.sl iK,.sl iK,.sl .fr] [.val .fr,.val iK] bx zW (fun ((d,_,_,o),q,a,b,_)=>((ur d o q a b).1,(ur d o q a b).2,())):=VR.out fun ((d,_,_,o),q,a,b,_)=>by show ((ur d o q a b).1,(ur d o q a b).2,())=((te d o q a b).1,(te d o q a b).2,());rw[ur,bf]
def abo:Nat × Eng.Spec:=(116,aH [dU,.sl iK,.sl iK,.sl .fr] [.val .fr,.val iK] zW (fun ((d,_,_,o),q,a,b,_)=>((ur d o q a b).1,(ur d o q a b).2,())))
def sh (c:List (Fp × Fp)) (x:Int) (s:Fr):Bool:=eS (HH c x s)
theorem Oo:aL Tryz.prog 21 [.sl aN,.int .i64,.fr] [.val .bool] bx vi (fun (c,x,s,_)=>(sh c x s,())):=ZX.out fun (c,x,s,_)=>by show (sh c x s,())=(HH c x s,());rw[sh,bf]
def Ue:Nat × Eng.Spec:=(21,aH [.sl aN,.int .i64,.fr] [.val .bool] vi (fun (c,x,s,_)=>(sh c x s,())))
end law22
end Go.Proofs.YtofofalgjibokaaGreatDoor
namespace Cr
open Rg Fd
open Go.IntKind(i64)
section
variable {M:Int} [Md M]
theorem abI (x:Zm M) (n:Nat):zpow x (2*n)=zpow (x*x) n:=by
 induction n with
 | zero=>rfl
 | succ n a=>show zpow x (2*n)*x*x=zpow (x*x) n*(x*x);rw[a,mul_assoc]
end
end Cr
namespace Go.Proofs.YtofofalgjibokaaGreatDoor
namespace fp
open Go.IntKind(i64)
open Go.IntKind(i64 u64)
theorem VB:enters Tryz.prog 165 Tryz.f165:=ek
def Is (x:Fp) (g:Int × List Int):St:=ar Tryz.f165.ntmps 56 [(1,.is (.one (.ptr 0 0))),(2,.is (.one (.ptr 8 0))),(4,.is (.one (.ptr 32 0))),(8,sI .i64 g.1)] [(0,[.row .fp 1 [x]]),(8,[.row .fp 1 [(0:Fp)]]),(32,[.ints .u64 6 g.2])]
def Xe (g:Int × List Int):Int × List Int:=(i64.wrap (g.1+1),g.2.set g.1.toNat (aF .or .u64 (Int.fdiv (g.2.getD g.1.toNat 0) (2^min (toNat 2) u64.bits)) (u64.wrap (g.2.getD (i64.wrap (g.1+1)).toNat 0*2^min (toNat 62) u64.bits))))
def Xb:List Int:=[13402431016077863596,2210141511517208575,7435674573564081700,7239337960414712511,5412103778470702295,1873798617647539866]
def Am:Nat->Int × List Int
 | 0=>(0,Xb)
 | k+1=>Xe (Am k)
def Al (a:List Int):List Int:=a.set 5 (Int.fdiv ((a.drop 5).getD 0 0) (2^min (toNat 2) u64.bits))
theorem Xd:∀ k,k<=5->(Am k).1=(k:Int):=by
 intro k;induction k with
 | zero=>intro _;rfl
 | succ k a=>intro h;show i64.wrap ((Am k).1+1)=_;rw[a aa,aS aa]
def vR:Int:=1000602388805416848354447456433976039139220704984751971333014534031007912622709466110671907282253916009473568139947
theorem Xc:val (Al (Am 5).2)=vR:=by decide +kernel
theorem abw:Ws (Al (Am 5).2):=by
 intro x a;have e:Al (Am 5).2=aT 6 vR:=by decide +kernel
 rw[e] at a;exact jB _ _ x a
def gh (x:Fp):Fp × Bool:=if mO x vR*mO x vR=x then (mO x vR,true) else (0,false)
abbrev vg:HL [.fp]->HO [.val .fp,.val .bool]:=fun (x,_)=>((gh x).1,(gh x).2,())
theorem aab:aL Tryz.prog 165 [.fp] [.val .fp,.val .bool] bx (fun _=>True) vg:=by
 have b:aD Tryz.prog (aP [yV,fT]):=aJ (aM zt) (aJ (aM jw) bp);refine bI (sp:=aP [yV,fT]) VB ae ae ab ?_;rintro w m ⟨x,⟨⟩⟩ _ _;show Tr _ _ _ _ _ _ _;refine bd b mixed 3 (Is x (0,Xb)) True ?_ (fun _=>?_);refine al (X:=(Is x (0,Xb)).ag True) ab (ao trivial);refine fW b mixed (Is x) Am 5 Xe (Is x) (c:=aq (ak Tryz.f165) 3) ab ab (aw ab ab trivial) (fun k f=>rfl) ?_ ?_
 ·intro k f;have e:=Xd k f;generalize Am k=g at *;obtain⟨i,a⟩:=g;simp only at e;subst e
  refine al (X:=((decide ((k:Int)<5)=true->(0<=(k:Int)/\(k:Int)<(6:Int))/\(k:Int).toNat<6/\(0:Int)<=2/\(0<=i64.wrap ((k:Int)+1)/\i64.wrap ((k:Int)+1)<(6:Int))/\(i64.wrap ((k:Int)+1)).toNat<6/\(0:Int)<=62/\(0<=(k:Int)/\(k:Int)<(6:Int))/\(k:Int).toNat<6/\(Is x (Xe ((k:Int),a))).ag (k<5)) /\
   (decide ((k:Int)<5)=false->(Is x ((k:Int),a)).ag (k=5)))) ab ?_
  refine⟨fun h=>?_,fun h=>ao (by have:=bW h;omega)⟩;have d:k<5:=by have:=dec_lt h;omega
  rw[aS aa];exact⟨⟨aa,aa⟩,aa,ae,⟨aa,aa⟩,aa,ae,⟨aa,aa⟩,aa,ao d⟩
 have j:=Xc;have l:=abw;generalize Am 5=g at *;obtain⟨i,a⟩:=g;simp only at j l;refine bE b mixed _ _ ?_
 refine al (X:=((0:Int)<=2/\5<6/\o6 (x,Al a,())/\True /\
  (((!decide (mO x (val (Al a))*mO x (val (Al a))=x))=true->(((0:Fp),false,())=vg (x,()))) /\
   ((!decide (mO x (val (Al a))*mO x (val (Al a))=x))=false->((mO x (val (Al a)),true,())=vg (x,())))))) ab ?_
 rw[j];refine⟨ae,ae,l,trivial,fun h=>?_,fun h=>?_⟩
 ·have h:¬ mO x vR*mO x vR=x:=by simpa using h
  simp[vg,gh,h]
 ·have h:mO x vR*mO x vR=x:=by simpa using h
  simp[vg,gh,h]
def Up:Nat × Eng.Spec:=(165,aH [.fp] [.val .fp,.val .bool] (fun _=>True) vg)
end fp
end Go.Proofs.YtofofalgjibokaaGreatDoor
namespace Cr
open Rg Fd
open Go.IntKind(i64)
open Go.IntKind(i64 u64)
theorem q_4 {F:Type} [Rg F] (a n:F):(a+n)*(a-n)=a*a-n*n :=
 rid [a,n] ((fun (a n:PE)=>((a+n)*(a-n))) (.v 0) (.v 1)) ((fun (a n:PE)=>(a*a-n*n)) (.v 0) (.v 1)) ab
theorem af5 {F:Type} [Fd F] {a b:F} (h:a*a=b*b):a=b\/a=-b:=by
 have:(a+b)*(a-b)=0:=by rw[q_4,h,sub_self]
 rcases mul_eq_zero this with h|h;right;rw[<- neg_neg a,neg_eq h];exact .inl (c6 h)
end Cr
namespace Go.Proofs.YtofofalgjibokaaGreatDoor
namespace fp2
open Rg Fd
open Go.IntKind(i64)
open Go.IntKind(i64 u64)
theorem SO {x:Fp} (h:(fp.gh x).2=true):(fp.gh x).1*(fp.gh x).1=x:=by unfold fp.gh at h ⊢;split at h;rename_i e;rw[aj e];exact e;cases h
theorem Nj:(fp.gh 0).2=true:=by
 unfold fp.gh;have e:mO (0:Fp) fp.vR*mO 0 fp.vR=0:=by
  rw[zd];have:∀ n:Nat,n≠0->zpow (0:Fp) n=0:=by
   intro n a;cases n with
   | zero=>exact absurd rfl a
   | succ n=>show zpow (0:Fp) n*0=0;rw[mul_zero]
  rw[this _ ae,mul_zero]
 rw[aj e]
end fp2
namespace g1
open Go.IntKind(i64)
open Go.IntKind(i64 u64)
theorem FN:enters Tryz.prog 167 Tryz.f167:=ek
def HQ (p:Fp × Fp):Bool:=xP p&&decide (Jq p (-1)=dD (F:=Fp) p)
abbrev uR:HL [aN]->HO [.val .bool]:=fun (p,_)=>(HQ p,())
theorem afA:aL Tryz.prog 167 [aN] [.val .bool] bx (fun _=>True) uR:=by refine a8 (sp:=aP [ajk,fr.ta,fr.Aj,aeV,aeW]) (aJ (aM X7) (aJ (aM fr.ti) (aJ (aM fr.yw) (aJ (aM Oj) (aJ (aM Ol) bp))))) mixed FN ae ae ?_;rintro w a ⟨p,⟨⟩⟩;revert p;intro (p:Fp × Fp) _ _;refine al (X:=(True/\(xP p=true->gQ 1/\IH 3 ((decide ((Jq p (-1)).1=(dD (F:=Fp) p).1)&&decide ((Jq p (-1)).2=(dD (F:=Fp) p).2),())=uR (p,())))/\(xP p=false->(false,())=uR (p,())))) ab ?_;rw[En];refine⟨trivial,fun h=>⟨by constructor<;>decide,PJ ?_ _⟩,fun h=>?_⟩;simp only[uR,HQ,h,dp];simp only[uR,HQ,h,eH]
def pL (p:Fp × Fp):Bool:=eS (HQ p)
theorem afB:aL Tryz.prog 167 [aN] [.val .bool] bx (fun _=>True) (fun (p,_)=>(pL p,())):=afA.out fun (p,_)=>by show (pL p,())=(_,());rw[pL,bf]
def aeN:Nat × Eng.Spec:=(167,aH [aN] [.val .bool] (fun _=>True) (fun (p,_)=>(pL p,())))
theorem GW {p:Fp × Fp} (h:Sub p):pL p=true:=by
 rw[pL,bf,HQ];have a:xP p=true:=(Ez p).2 h.1;have b:Jq p (-1)=dD p:=by have:=mul_neg h 1;rw[mul_one h,cV,bf] at this;exact this
 rw[a,b];simp
theorem ac9 {p:Fp × Fp} (h:IF p):pL p=decide (db p rN=(0,0)):=by
 rw[lp,ik];constructor
 ·intro a;rw[pL,bf,HQ,aQ,ik] at a;have e:Jq p (-1)=db p (rN-1):=by
   have:=nY h (-1);rw[cV,bf] at this;rw[this];rfl
  rw[e] at a;have:db p (rN-1+1)=cc (db p (rN-1)) p:=rfl;rw[a.2,kM] at this;exact this
 intro a;exact GW ⟨h,a⟩
end g1
namespace codec
open Go.IntKind(i64)
open Go.IntKind(i64 u64)
open Go.IntKind(i64 u8)
theorem Vv:enters Tryz.prog 164 Tryz.f164:=ek
def Az (b:List Int):Int:=aF .and .u8 (b.getD 0 0) 224
def mh (b:List Int):List Int:=b.set 0 (aF .andNot .u8 (b.getD 0 0) 224)
def kU (b:List Int):Bool:=aF .and .u8 (Az b) 128 != 0
def p3 (b:List Int):Bool:=aF .and .u8 (Az b) 64 != 0
def yD (b:List Int):Bool:=aF .and .u8 (Az b) 32 != 0
def cq (b:List Int) (n:Int):List Int × Int × Int :=
 if (b.length:Int)≠n/\(b.length:Int)≠2*n then ([],0,10)
 else if kU b≠decide ((b.length:Int)=n) then ([],0,11)
 else if yD b=true/\(kU b=false\/p3 b=true) then ([],0,11)
 else if p3 b=true/\∃ v∈mh b,v≠0 then ([],0,11)
 else (mh b,Az b,0)
abbrev Dg:HL [.sl (.int .u8),.int .i64]->Prop:=fun (b,n,_)=>(Bs b/\length b<=1000000)/\1<=(n:Int)/\(n:Int)<=1000
abbrev pz:HL [.sl (.int .u8),.int .i64]->HO [.own (.int .u8),.val (.int .u8),.val (.int .i64)]:=fun (b,n,_)=>((cq b n).1,(cq b n).2.1,(cq b n).2.2,())
def paC (b:List Int) (n:Int) (g:Int × List Int):St:=ar Tryz.f164.ntmps 200 [(0,.is (.one (.ro (.int .u8) b))),(1,sI .i64 n),(4,.is (.one (.v (.slice none 0 0)))),(5,sI .u8 0),(6,sI .i64 0),(7,.is (.one (.sl 120 0 0 b.length 1))),(8,sI .u8 g.1)] [(120,[.ints .u8 b.length g.2])]
def paK (b:List Int) (n:Int) (g:Int × List Int):Prop:=g.1=Az b/\g.2=mh b/\1<=b.length/\((b.length:Int)=n\/(b.length:Int)=2*n)
def paD (b:List Int) (a:Int) (d:List Int):St:=ar Tryz.f164.ntmps 392 [(4,.is (.one (.v (.slice none 0 0)))),(5,sI .u8 0),(6,sI .i64 0),(7,.is (.one (.sl 120 0 0 b.length 1))),(8,sI .u8 a),(56,.is (.one (.v (.bool (aF .and .u8 a 64 != 0)))))] [(120,[.ints .u8 b.length d])]
def OY (b:List Int) (d:Int) (a:List Int) (g:Int):St:=ar Tryz.f164.ntmps 416 [(4,.is (.one (.v (.slice none 0 0)))),(5,sI .u8 0),(6,sI .i64 0),(7,.is (.one (.sl 120 0 0 b.length 1))),(8,sI .u8 d),(57,.is (.one (.sl 120 0 0 b.length 1))),(58,sI .i64 b.length),(59,sI .i64 g)] [(120,[.ints .u8 b.length a])]
def paJ (a:List Int) (g:Int):Prop:=∃ k:Nat,k<=a.length/\g=(k:Int)/\∀ t,t<k->a.getD t 0=0
theorem Z8:aL Tryz.prog 164 [.sl (.int .u8),.int .i64] [.own (.int .u8),.val (.int .u8),.val (.int .i64)] bx Dg pz:=by
 have f:aD Tryz.prog (aP []):=bp;refine bI (sp:=aP []) Vv ae ae ab ?_;rintro w M0 ⟨b,n,⟨⟩⟩;revert b n;intro (b:List Int) (n:Int) _ hp;obtain⟨⟨hb,U⟩,x,y⟩:=hp;have U:b.length<=1000000:=U;have x:1<=n:=x;have y:n<=1000:=y;show Tr _ _ _ _ _ _ _;have H:i64.wrap (2*n)=2*n:=ba aa aa;refine jO f mixed 6 (fun s=>(bg (.int .u8) 8 s,cU (.int .u8) 120 s)) (paC b n) (paK b n) ?_ ?_
 ·refine al (X:=((((b.length:Int) != n)=true->(((b.length:Int) != i64.wrap ((2:Int)*n))=true->([],(0:Int),(10:Int),())=pz (b,n,()))/\(((b.length:Int) != i64.wrap ((2:Int)*n))=false->b.length*1<=140737488355328/\b.length<=4611686018427387904/\((0:Int)<=(0:Int)/\(0:Int)<(b.length:Int))/\0<b.length/\((0:Int)<=(0:Int)/\(0:Int)<(b.length:Int))/\0<b.length/\((0:Int)<=(0:Int)/\(0:Int)<(b.length:Int))/\0<b.length/\(paC b n (aF BinOp.and u8 (b.getD 0 (0:Int)) (224:Int),b.set 0 (aF BinOp.andNot u8 (b.getD 0 (0:Int)) (224:Int)))).ag (paK b n (aF BinOp.and u8 (b.getD 0 (0:Int)) (224:Int),b.set 0 (aF BinOp.andNot u8 (b.getD 0 (0:Int)) (224:Int))))))/\(((b.length:Int) != n)=false->b.length*1<=140737488355328/\b.length<=4611686018427387904/\((0:Int)<=(0:Int)/\(0:Int)<(b.length:Int))/\0<b.length/\((0:Int)<=(0:Int)/\(0:Int)<(b.length:Int))/\0<b.length/\((0:Int)<=(0:Int)/\(0:Int)<(b.length:Int))/\0<b.length/\(paC b n (aF BinOp.and u8 (b.getD 0 (0:Int)) (224:Int),b.set 0 (aF BinOp.andNot u8 (b.getD 0 (0:Int)) (224:Int)))).ag (paK b n (aF BinOp.and u8 (b.getD 0 (0:Int)) (224:Int),b.set 0 (aF BinOp.andNot u8 (b.getD 0 (0:Int)) (224:Int))))))) ab ?_;rw[H];have R:∀ h:1<=b.length,b.length*1<=140737488355328/\b.length<=4611686018427387904/\((0:Int)<=0/\(0:Int)<(b.length:Int))/\0<b.length:=fun h=>⟨aa,aa,⟨aa,aa⟩,aa⟩;refine⟨fun h=>⟨fun u=>?_,fun u=>?_⟩,fun h=>?_⟩;show _=((cq b n).1,(cq b n).2.1,(cq b n).2.2,());rw[cq,aj ⟨by simpa using h,by simpa using u⟩]
  ·have u:(b.length:Int)=2*n:=by simpa using u
   have l:1<=b.length:=aa;obtain⟨F,G,o,p⟩:=R l;exact⟨F,G,o,p,o,p,o,p,ao ⟨rfl,rfl,l,.inr u⟩⟩
  ·have h:(b.length:Int)=n:=by simpa using h
   have l:1<=b.length:=aa;obtain⟨F,G,o,p⟩:=R l;exact⟨F,G,o,p,o,p,o,p,ao ⟨rfl,rfl,l,.inl h⟩⟩
 rintro⟨a,d⟩ hK;revert a d;intro (a:Int) (d:List Int) ⟨m,r,k3,k4⟩;have m:a=Az b:=m;have r:d=mh b:=r;have e:¬ ((b.length:Int)≠n/\(b.length:Int)≠2*n):=aa;refine bd f mixed 5 (paD b a d) (kU b=decide ((b.length:Int)=n)/\¬ (yD b=true/\(kU b=false\/p3 b=true))) ?_ (fun T=>?_)
 ·refine al (X:=(((!(aF BinOp.and u8 a (128:Int) != (0:Int))==((b.length:Int)==n))=true->([],(0:Int),(11:Int),())=pz (b,n,()))/\((!(aF BinOp.and u8 a (128:Int) != (0:Int))==((b.length:Int)==n))=false->((aF BinOp.and u8 a (32:Int) != (0:Int))=true->((aF BinOp.and u8 a (128:Int)==(0:Int))=true->([],(0:Int),(11:Int),())=pz (b,n,()))/\((aF BinOp.and u8 a (128:Int)==(0:Int))=false->((aF BinOp.and u8 a (64:Int) != (0:Int))=true->([],(0:Int),(11:Int),())=pz (b,n,()))/\((aF BinOp.and u8 a (64:Int) != (0:Int))=false->(paD b a d).ag (kU b=decide ((b.length:Int)=n)/\¬(yD b=true/\(kU b=false\/p3 b=true))))))/\((aF BinOp.and u8 a (32:Int) != (0:Int))=false->(paD b a d).ag (kU b=decide ((b.length:Int)=n)/\¬(yD b=true/\(kU b=false\/p3 b=true))))))) ab ?_;have V:kU b=(aF .and .u8 a 128 != 0):=by rw[kU,m]
  have E:p3 b=(aF .and .u8 a 64 != 0):=by rw[p3,m]
  have s3:yD b=(aF .and .u8 a 32 != 0):=by rw[yD,m]
  have s4:(aF .and .u8 a 128==0)=!kU b:=by rw[V];cases h:(aF .and .u8 a 128==0)<;>simp[bne,h]
  have s5:((b.length:Int)==n)=decide ((b.length:Int)=n):=rfl;rw[s4,<- V,<- E,<- s3,s5];show ((!(kU b==decide ((b.length:Int)=n)))=true->_=((cq b n).1,(cq b n).2.1,(cq b n).2.2,()))/\_;refine⟨fun h=>?_,fun h=>⟨fun j=>⟨fun A=>?_,fun A=>⟨fun C=>?_,fun C=>ao ⟨by simpa using h,?_⟩⟩⟩,fun j=>ao ⟨by simpa using h,?_⟩⟩⟩;rw[cq,ah e,aj (by simpa using h)];show _=((cq b n).1,(cq b n).2.1,(cq b n).2.2,());rw[cq,ah e,ah (by simpa using h),aj ⟨j,.inl (by simpa using A)⟩];show _=((cq b n).1,(cq b n).2.1,(cq b n).2.2,());rw[cq,ah e,ah (by simpa using h),aj ⟨j,.inr C⟩];rintro⟨_,h5|h5⟩;rw[h5] at A;cases A;rw[h5] at C;cases C;rintro⟨h5,_⟩;rw[h5] at j;cases j
 obtain⟨I,q⟩:=T;have Y:d.length=b.length:=by rw[r,mh,im]
 have E:p3 b=(aF .and .u8 a 64 != 0):=by rw[p3,m]
 refine PF (c:=aq (ak Tryz.f164) 11) (aF .and .u8 a 64 != 0) ab ab ab (fun N=>?_) (fun N=>?_)
 ·refine bd f mixed 1 (OY b a d 0) True ?_ (fun _=>?_);refine al (X:=((OY b a d (0:Int)).ag True)) ab ?_;exact ao trivial;refine cd f mixed h9 (fun s=>bg (.int .i64) 59 s) (OY b a d) (paJ d) (fun g=>b.length-g.toNat)
   (fun s=>bg (.int .i64) 59 s) (OY b a d) (fun _=>∀ v∈d,v=0) 0 (c:=aq (fV (aq (ak Tryz.f164) 11)) 1) ab ab (aw ab ab ?_) ?_ ?_
  exact⟨0,a2 _,rfl,fun t h=>absurd h (wQ _)⟩
  ·intro (i:Int) ⟨k,T,W,D⟩;subst W;refine al (X:=((decide ((k:Int)<(b.length:Int))=true->((0:Int)<=(k:Int)/\(k:Int)<(b.length:Int))/\(k:Int).toNat<b.length/\((d.getD (k:Int).toNat (0:Int) != (0:Int))=true->([],(0:Int),(11:Int),())=pz (b,n,()))/\((d.getD (k:Int).toNat (0:Int) != (0:Int))=false->(OY b a d (i64.wrap ((k:Int)+(1:Int)))).ag (paJ d (i64.wrap ((k:Int)+(1:Int)))/\b.length-(i64.wrap ((k:Int)+(1:Int))).toNat<b.length-(k:Int).toNat)))/\(decide ((k:Int)<(b.length:Int))=false->(OY b a d (k:Int)).ag (∀ (v:Int),v∈d->v=(0:Int))))) ab ?_;rw[aB];refine⟨fun h=>?_,fun h=>ao ?_⟩
   ·have K:k<b.length:=by have:=dec_lt h;omega
    have Z:d.getD k 0=d[k]:=by rw[aX,bz aa,ct]
    rw[aS aa];refine⟨⟨aa,aa⟩,K,fun j=>?_,fun j=>ao ⟨⟨k+1,aa,rfl,fun t z=>?_⟩,by rw[aB];omega⟩⟩
    ·have j:d.getD k 0≠0:=by simpa using j
     show _=((cq b n).1,(cq b n).2.1,(cq b n).2.2,());rw[cq,ah e,ah (by simpa using I),ah q,aj ⟨by rw[E,N],d[k],by rw[<- r];exact dx _,by rw[<- Z];exact j⟩]
    by_cases P:t=k;subst P;simpa using j;exact D t aa
   ·have:k=b.length:=by have:=bW h;omega
    intro v Q;obtain⟨t,O,z⟩:=List.mem_iff_getElem.1 Q;have:=D t aa;rw[aX,bz O,ct,z] at this;exact this
  intro (i:Int) (D:∀ v∈d,v=0);refine bE f mixed _ _ ?_;refine al (X:=(0+b.length<=b.length/\(take b.length d,a,(0:Int),())=pz (b,n,()))) ab ?_;refine⟨aa,?_⟩;show _=((cq b n).1,(cq b n).2.1,(cq b n).2.2,());rw[cq,ah e,ah (by simpa using I),ah q,ah (by rintro⟨_,v,Q,L⟩;exact L (D v (by rw[r];exact Q))),m,r,bQ (by rw[mh,im];exact aE _)]
 refine bE f mixed _ _ ?_;refine al (X:=(0+b.length<=b.length/\(take b.length d,a,(0:Int),())=pz (b,n,()))) ab ?_;refine⟨aa,?_⟩;show _=((cq b n).1,(cq b n).2.1,(cq b n).2.2,());rw[cq,ah e,ah (by simpa using I),ah q,ah (by rw[E,N];simp),m,r,bQ (by rw[mh,im];exact aE _)]
def Uo:Nat × Eng.Spec:=(164,aH [.sl (.int .u8),.int .i64] [.own (.int .u8),.val (.int .u8),.val (.int .i64)] Dg pz)
open Go.IntKind(u8)
theorem Qn:enters Tryz.prog 126 Tryz.f126:=ek
def xJ (p:Fp × Fp):(Fp × Fp) × Int:=if p=(0,0) then ((0,0),13) else if g1.oV p=true then (if g1.pL p=true then (p,0) else ((0,0),14)) else ((0,0),13)
def Ry (y:Fp) (l:Bool):Fp:=if decide ((-y).v<y.v)=l then y else -y
def Ae (x:Fp):Fp:=(fp.gh (x*x*x+zm 4)).1
def ov (b:List Int):(Fp × Fp) × Int :=
 if (cq b 48).2.2=0 then
  if p3 b=true then ((0,0),0)
  else if (fp.cI ((mh b).take 48)).2=0 then
   if kU b=true then xJ ((fp.cI ((mh b).take 48)).1,Ry (Ae (fp.cI ((mh b).take 48)).1) (yD b))
   else if (fp.cI ((mh b).drop 48)).2=0 then xJ ((fp.cI ((mh b).take 48)).1,(fp.cI ((mh b).drop 48)).1)
   else ((0,0),12)
  else ((0,0),12)
 else ((0,0),(cq b 48).2.2)
abbrev Gv:HL [.sl (.int .u8)]->Prop:=fun (b,_)=>Bs b/\length b<=1000000
abbrev rO:HL [.sl (.int .u8)]->HO [.val aN,.val (.int .i64)]:=fun (b,_)=>((ov b).1,(ov b).2,())
def rgC (g:Int × List Int):St:=ar Tryz.f126.ntmps 144 [(2,.is (.one (.ptr 0 0))),(3,sI .i64 0),(4,.is (.one (.sl 24 0 0 g.2.length 1))),(5,sI .u8 g.1)] [(0,g1.pc (0,0)),(24,[.ints .u8 g.2.length g.2])]
def rgK (b:List Int) (n:Int) (g:Int × List Int):Prop:=g.1=Az b/\g.2=mh b/\(cq b n).2.2=0/\p3 b=false
theorem Dc {b:List Int} {n:Int} (h:(cq b n).2.2=0):cq b n=(mh b,Az b,0)/\kU b=decide ((b.length:Int)=n)/\((b.length:Int)=n\/(b.length:Int)=2*n):=by unfold cq at h ⊢;split at h;cases h;rename_i c;rw[ah c];split at h;cases h;rename_i a;rw[ah a];split at h;cases h;rename_i d;rw[ah d];split at h;cases h;rename_i e;rw[ah e];refine⟨rfl,by simpa using a,aa⟩
def YJ (p:Fp × Fp):St:=ar Tryz.f126.ntmps 352 [(2,.is (.one (.ptr 0 0))),(3,sI .i64 0),(7,.is (.one (.ptr 144 0)))] [(0,g1.pc (0,0)),(144,g1.pc p)]
theorem Ua {b:List Int} (h:Bs b) {x:Int} (a:0<=x/\x<256):Bs (b.set 0 x):=by intro y hy;rcases List.mem_or_eq_of_mem_set hy with hy|hy;exact h y hy;rw[hy];exact a
theorem R3 {a:Int}:0<=aF .andNot .u8 a 224/\aF .andNot .u8 a 224<256:=by show 0<=u8.wrap _/\u8.wrap _<256;simp only[IntKind.wrap,IntKind.signed,IntKind.bits];simp;omega
theorem abU {b:List Int} (h:Bs b):Bs (mh b):=Ua h R3
theorem Zk (b:List Int):(mh b).length=b.length:=by rw[mh,im]
theorem SJ:aL Tryz.prog 126 [.sl (.int .u8)] [.val aN,.val (.int .i64)] bx Gv rO:=by
 have f:aD Tryz.prog (aP [Uo,fp.Mz,fp.fT,fp.kq,fp.jM,fp.ta,fp.Up,fp.Iq,fp.Aj,g1.aeP,g1.aeN]):=(aJ (aM Z8) (aJ (aM fp.va) (aJ (aM fp.jw) (aJ (aM fp.nM) (aJ (aM fp.nL) (aJ (aM fp.ti) (aJ (aM fp.aab) (aJ (aM fp.KT) (aJ (aM fp.yw) (aJ (aM g1.afC) (aJ (aM g1.afB) bp)))))))))));refine bI (sp:=aP [Uo,fp.Mz,fp.fT,fp.kq,fp.jM,fp.ta,fp.Up,fp.Iq,fp.Aj,g1.aeP,g1.aeN]) Qn ae ae ab ?_;rintro w F ⟨b,⟨⟩⟩;revert b;intro (b:List Int) _ n;obtain⟨q,m⟩:=n;have m:b.length<=1000000:=m;show Tr _ _ _ _ _ _ _;have y:Dg (b,48,()):=⟨⟨q,m⟩,ae,ae⟩;refine jO f mixed 4 (fun l=>(bg (.int .u8) 5 l,cU (.int .u8) 24 l)) rgC (rgK b 48) ?_ ?_
 ·refine al (X:=(Dg (b,48,())/\(((cq b 48).snd.snd != 0)=true->(((0:Fp),(0:Fp)),(cq b 48).snd.snd,())=rO (b,()))/\(((cq b 48).snd.snd != 0)=false->((aF BinOp.and u8 (cq b 48).snd.fst 64 != 0)=true->(((0:Fp),(0:Fp)),(cq b 48).snd.snd,())=rO (b,()))/\((aF BinOp.and u8 (cq b 48).snd.fst 64 != 0)=false->(rgC ((cq b 48).snd.fst,(cq b 48).fst)).ag (rgK b 48 ((cq b 48).snd.fst,(cq b 48).fst)))))) ab ?_;have D:(cq b 48).2.2=0->(aF .and .u8 (cq b 48).2.1 64 != 0)=p3 b:=fun h=>by rw[(Dc h).1];rfl
  refine⟨y,fun h=>?_,fun h=>?_⟩
  ·have h:¬ (cq b 48).2.2=0:=by simpa using h
   show _=((ov b).1,(ov b).2,());rw[ov,ah h]
  ·have h:(cq b 48).2.2=0:=by simpa using h
   rw[D h];refine⟨fun c=>?_,fun c=>ao ⟨?_,?_,h,c⟩⟩;show _=((ov b).1,(ov b).2,());rw[ov,aj h,aj c,h];show (cq b 48).2.1=Az b;rw[(Dc h).1];show (cq b 48).1=mh b;rw[(Dc h).1]
 rintro⟨e,a⟩ G;revert e a;intro (e:Int) (a:List Int) ⟨k,j,s,u⟩;have k:e=Az b:=k;have j:a=mh b:=j;obtain⟨_,K,r⟩:=Dc s;have t:a.length=b.length:=by rw[j,Zk]
 have i:Bs a:=by rw[j];exact abU q
 have C:(aF .and .u8 e 128==0)=!kU b:=by rw[kU,k];cases h:(aF .and .u8 (Az b) 128==0)<;>simp[bne,h]
 have E:(aF .and .u8 e 32 != 0)=yD b:=by rw[yD,k]
 refine jO f mixed 6 (fun l=>pP aN 144 l) YJ (fun p=>ov b=xJ p) ?_ ?_
 ·refine al (X:=(((0:Int)<=48/\48<=(a.length:Int))/\0+48<=a.length/\fp.s9 (take 48 a,())/\(((fp.cI (take 48 a)).snd != 0)=true->(((0:Fp),(0:Fp)),12,())=rO (b,()))/\(((fp.cI (take 48 a)).snd != 0)=false->((aF BinOp.and u8 e (128:Int)==0)=true->((0:Int)<=48/\48<=(a.length:Int))/\48+((a.length:Int)-48).toNat<=a.length/\fp.s9 (take ((a.length:Int)-48).toNat (drop 48 a),())/\(((fp.cI (take ((a.length:Int)-48).toNat (drop 48 a))).snd != 0)=true->(((0:Fp),(0:Fp)),12,())=rO (b,()))/\(((fp.cI (take ((a.length:Int)-48).toNat (drop 48 a))).snd != 0)=false->(YJ ((fp.cI (take 48 a)).fst,(fp.cI (take ((a.length:Int)-48).toNat (drop 48 a))).fst)).ag (ov b=xJ ((fp.cI (take 48 a)).fst,(fp.cI (take ((a.length:Int)-48).toNat (drop 48 a))).fst))))/\((aF BinOp.and u8 e (128:Int)==0)=false->True/\True/\gQ 4/\True/\True/\True/\((!decide ((-(fp.gh ((fp.cI (take 48 a)).fst*(fp.cI (take 48 a)).fst*(fp.cI (take 48 a)).fst+Hi 4)).fst).v<(fp.gh ((fp.cI (take 48 a)).fst*(fp.cI (take 48 a)).fst*(fp.cI (take 48 a)).fst+Hi 4)).fst.v)==(aF BinOp.and u8 e 32 != 0))=true->True/\(YJ ((fp.cI (take 48 a)).fst,-(fp.gh ((fp.cI (take 48 a)).fst*(fp.cI (take 48 a)).fst*(fp.cI (take 48 a)).fst+Hi 4)).fst)).ag (ov b=xJ ((fp.cI (take 48 a)).fst,-(fp.gh ((fp.cI (take 48 a)).fst*(fp.cI (take 48 a)).fst*(fp.cI (take 48 a)).fst+Hi 4)).fst)))/\((!decide ((-(fp.gh ((fp.cI (take 48 a)).fst*(fp.cI (take 48 a)).fst*(fp.cI (take 48 a)).fst+Hi 4)).fst).v<(fp.gh ((fp.cI (take 48 a)).fst*(fp.cI (take 48 a)).fst*(fp.cI (take 48 a)).fst+Hi 4)).fst.v)==(aF BinOp.and u8 e 32 != 0))=false->(YJ ((fp.cI (take 48 a)).fst,(fp.gh ((fp.cI (take 48 a)).fst*(fp.cI (take 48 a)).fst*(fp.cI (take 48 a)).fst+Hi 4)).fst)).ag (ov b=xJ ((fp.cI (take 48 a)).fst,(fp.gh ((fp.cI (take 48 a)).fst*(fp.cI (take 48 a)).fst*(fp.cI (take 48 a)).fst+Hi 4)).fst))))))) ab ?_;rw[C,E,show take ((a.length:Int)-48).toNat (drop 48 a)=drop 48 a from bQ (by simp;omega)];have g:ov b=if (fp.cI (a.take 48)).2=0 then
    if kU b=true then xJ ((fp.cI (a.take 48)).1,Ry (Ae (fp.cI (a.take 48)).1) (yD b))
    else if (fp.cI (a.drop 48)).2=0 then xJ ((fp.cI (a.take 48)).1,(fp.cI (a.drop 48)).1)
    else ((0,0),12)
   else ((0,0),12):=by rw[ov,aj s,ah (by rw[u];decide),j]
  have z:fp.s9 (a.take 48,()):=fun x o=>i x (ng o);have A:fp.s9 (a.drop 48,()):=fun x o=>i x (A7 o);generalize H:(fp.cI (a.take 48))=X at *;generalize I:(fp.cI (a.drop 48))=Y at *;rw[show (fp.gh (X.1*X.1*X.1+Hi 4)).1=Ae X.1 from rfl];refine⟨⟨ae,aa⟩,aa,z,fun h=>?_,fun h=>⟨fun c=>⟨⟨ae,aa⟩,aa,A,fun d=>?_,fun d=>ao ?_⟩,fun c=>⟨trivial,trivial,⟨ae,ae⟩,trivial,trivial,trivial,fun d=>⟨trivial,ao ?_⟩,fun d=>ao ?_⟩⟩⟩;show _=((ov b).1,(ov b).2,());rw[g,ah (by simpa using h)];show _=((ov b).1,(ov b).2,());rw[g,aj (by simpa using h),ah (by simpa using c),ah (by simpa using d)];rw[g,aj (by simpa using h),ah (by simpa using c),aj (by simpa using d)];rw[g,aj (by simpa using h),aj (by simpa using c),Ry,ah (by simpa using d)];rw[g,aj (by simpa using h),aj (by simpa using c),Ry,aj (by simpa using d)]
 intro (p:Fp × Fp) (n:ov b=xJ p);refine bE f mixed _ _ ?_;refine al (X:=((mC (Kd.fp.pair Kd.fp) p ((0:Fp),(0:Fp))=true->(((0:Fp),(0:Fp)),13,())=rO (b,()))/\(mC (Kd.fp.pair Kd.fp) p ((0:Fp),(0:Fp))=false->True/\((!g1.oV p)=true->(((0:Fp),(0:Fp)),13,())=rO (b,()))/\((!g1.oV p)=false->True/\((!g1.pL p)=true->(((0:Fp),(0:Fp)),14,())=rO (b,()))/\((!g1.pL p)=false->(p,0,())=rO (b,())))))) ab ?_;rw[eqP];refine⟨fun h=>?_,fun h=>⟨trivial,fun c=>?_,fun c=>⟨trivial,fun d=>?_,fun d=>?_⟩⟩⟩;all_goals show _=((ov b).1,(ov b).2,())
 all_goals rw[n,xJ]
 rw[aj (Odt h)];rw[ah (Odf h),ah (by simpa using c)];rw[ah (Odf h),aj (by simpa using c),ah (by simpa using d)];rw[ah (Odf h),aj (by simpa using c),aj (by simpa using d)]
theorem yh:∀ v:Fin 32,∀ k:Fin 8,aF .and .u8 ((v.val+32*k.val:Nat):Int) 224=((32*k.val:Nat):Int)/\aF .andNot .u8 ((v.val+32*k.val:Nat):Int) 224=((v.val:Nat):Int)/\(aF .and .u8 ((32*k.val:Nat):Int) 128 != 0)=decide (4<=k.val)/\(aF .and .u8 ((32*k.val:Nat):Int) 64 != 0)=decide (k.val/2%2=1)/\(aF .and .u8 ((32*k.val:Nat):Int) 32 != 0)=decide (k.val%2=1):=by decide +kernel
theorem aef:∀ v:Fin 32,aF .or .u8 ((v.val:Nat):Int) 128=((v.val+32*4:Nat):Int)/\aF .or .u8 ((v.val:Nat):Int) 160=((v.val+32*5:Nat):Int)/\aF .or .u8 ((v.val:Nat):Int) 192=((v.val+32*6:Nat):Int)/\aF .or .u8 ((v.val:Nat):Int) 64=((v.val+32*2:Nat):Int):=by decide +kernel
def BD (l:List Int):Prop:=1<=l.length/\0<=l.getD 0 0/\l.getD 0 0<32
def uH (l:List Int) (k:Nat):List Int:=l.set 0 (l.getD 0 0+((32*k:Nat):Int))
theorem BD.cons {l:List Int} (h:BD l):∃ (v:Nat) (t:List Int),v<32/\l=((v:Nat):Int)::t:=by
 obtain⟨d,b,f⟩:=h;cases l with
 | nil=>simp at d
 | cons a t =>simp at b f;exact⟨a.toNat,t,aa,by rw[A9 b]⟩
theorem Ex (v:Nat) (t:List Int) (k:Nat):uH (((v:Nat):Int)::t) k=((v+32*k:Nat):Int)::t:=by simp[uH]
theorem Ox (l:List Int) (k:Nat):(uH l k).length=l.length:=by rw[uH,im]
theorem HN {l:List Int} (h:BD l) {k:Nat} (a:k<8):Az (uH l k)=((32*k:Nat):Int):=by obtain⟨v,t,b,rfl⟩:=h.cons;rw[Ex];exact (yh ⟨v,b⟩ ⟨k,a⟩).1
theorem aaq {l:List Int} (h:BD l) {k:Nat} (a:k<8):mh (uH l k)=l:=by obtain⟨v,t,b,rfl⟩:=h.cons;rw[Ex,mh];show aF .andNot .u8 ((v+32*k:Nat):Int) 224::t=_;rw[(yh ⟨v,b⟩ ⟨k,a⟩).2.1]
theorem ado {l:List Int} (h:BD l) {k:Nat} (a:k<8):kU (uH l k)=decide (4<=k):=by rw[kU,HN h a];exact (yh ⟨0,ae⟩ ⟨k,a⟩).2.2.1
theorem adl {l:List Int} (h:BD l) {k:Nat} (a:k<8):p3 (uH l k)=decide (k/2%2=1):=by rw[p3,HN h a];exact (yh ⟨0,ae⟩ ⟨k,a⟩).2.2.2.1
theorem adm {l:List Int} (h:BD l) {k:Nat} (a:k<8):yD (uH l k)=decide (k%2=1):=by rw[yD,HN h a];exact (yh ⟨0,ae⟩ ⟨k,a⟩).2.2.2.2
theorem adn {l:List Int} (h:BD l):l.set 0 (aF .or .u8 (l.getD 0 0) 128)=uH l 4/\l.set 0 (aF .or .u8 (l.getD 0 0) 160)=uH l 5/\l.set 0 (aF .or .u8 (l.getD 0 0) 192)=uH l 6/\l.set 0 (aF .or .u8 (l.getD 0 0) 64)=uH l 2:=by obtain⟨v,t,e,rfl⟩:=h.cons;obtain⟨a,b,c,d⟩:=aef ⟨v,e⟩;simp only[Ex];refine⟨?_,?_,?_,?_⟩;exact congrArg (· :: t) a;exact congrArg (· :: t) b;exact congrArg (· :: t) c;exact congrArg (· :: t) d
structure kr (F:Type) where
 n:Nat
 bts:F->List Int
 rd:List Int->F × Int
 lg:F->Bool
 rt:F->F
 oV:F × F->Bool
 pL:F × F->Bool
section
variable {F:Type} [Cr.Fd F] [DecidableEq F]
structure kr.Ok (S:kr F):Prop where
 n0:1<=S.n
 len:∀ x,(S.bts x).length=S.n
 bs:∀ x,Bs (S.bts x)
 hd:∀ x,(S.bts x).getD 0 0<32
 rdb:∀ x,S.rd (S.bts x)=(x,0)
 brd:∀ b,Bs b->(S.rd b).2=0->S.bts (S.rd b).1=b
 lgn:∀ y,y≠0->S.lg (-y)=!S.lg y
 z:S.bts 0=replicate S.n 0
 root:∀ x y,S.oV (x,y)=true->(x,y)≠((0:F),(0:F))->y=S.rt x\/y=-S.rt x
 on0:S.oV (0,0)=true
 in0:S.pL (0,0)=true
 iny:∀ x y,S.oV (x,y)=true->S.pL (x,y)=true->(x,y)≠((0:F),(0:F))->y≠0/\x≠0
 onn:∀ x y,S.oV (x,y)=true->S.oV (x,-y)=true
 inn:∀ x y,S.oV (x,y)=true->S.pL (x,y)=true->S.pL (x,-y)=true
def kr.Ph (S:kr F) (y:F) (l:Bool):F:=if S.lg y=l then y else -y
def kr.mi (S:kr F) (p:F × F):(F × F) × Int:=if p=((0:F),(0:F)) then (((0:F),(0:F)),13) else if S.oV p=true then (if S.pL p=true then (p,0) else (((0:F),(0:F)),14)) else (((0:F),(0:F)),13)
def kr.rg (S:kr F) (b:List Int):(F × F) × Int :=
 if (cq b S.n).2.2=0 then
  if p3 b=true then (((0:F),(0:F)),0)
  else if (S.rd ((mh b).take S.n)).2=0 then
   if kU b=true then S.mi ((S.rd ((mh b).take S.n)).1,S.Ph (S.rt (S.rd ((mh b).take S.n)).1) (yD b))
   else if (S.rd ((mh b).drop S.n)).2=0 then S.mi ((S.rd ((mh b).take S.n)).1,(S.rd ((mh b).drop S.n)).1)
   else (((0:F),(0:F)),12)
  else (((0:F),(0:F)),12)
 else (((0:F),(0:F)),(cq b S.n).2.2)
def kr.short (S:kr F) (p:F × F):List Int:=(S.bts p.1).set 0 (aF .or .u8 ((S.bts p.1).getD 0 0) (if p=((0:F),(0:F)) then (192:Int) else if S.lg p.2=true then 160 else 128))
def kr.full (S:kr F) (p:F × F):List Int:=if p=((0:F),(0:F)) then (S.bts p.1++S.bts p.2).set 0 (aF .or .u8 ((S.bts p.1++S.bts p.2).getD 0 0) 64) else S.bts p.1++S.bts p.2
variable {S:kr F}
omit [DecidableEq F] in
theorem kr.Ok.BD1 (h:S.Ok) (x:F):BD (S.bts x):=by
 have d:=h.len x;have c:=h.n0;refine⟨aa,?_,h.hd x⟩;cases b:S.bts x with
 | nil=>simp
 | cons a t =>have:=h.bs x a (by rw[b];simp);simpa using this.1
theorem kr.Ok.E4 (h:S.Ok) (p:F × F):S.short p=uH (S.bts p.1) (if p=((0:F),(0:F)) then 6 else if S.lg p.2=true then 5 else 4):=by obtain⟨a,b,c,d⟩:=adn (h.BD1 p.1);unfold kr.short;split;exact c;split;exact b;exact a
omit [DecidableEq F] in
theorem kr.Ok.nz (h:S.Ok) {x:F} (f:x≠0):∃ v∈S.bts x,v≠0:=by
 refine gj fun c=>f ?_;have e:S.bts x=replicate S.n 0:=by rw[<- h.len x];refine List.eq_replicate_of_mem fun v d=>gj fun b=>c ⟨v,d,b⟩
 have a:=h.rdb x;rw[e,<- h.z,h.rdb] at a;exact (congrArg Prod.fst a).symm
theorem kr.Ok.aeD {l:List Int} (h:BD l) {k:Nat} (g:k<8):S.rg (uH l k) =
  if l.length≠S.n/\l.length≠2*S.n then (((0:F),(0:F)),10)
  else if decide (4<=k)≠decide (l.length=S.n) then (((0:F),(0:F)),11)
  else if k%2=1/\(k<4\/k/2%2=1) then (((0:F),(0:F)),11)
  else if k/2%2=1 then (if ∃ v∈l,v≠0 then (((0:F),(0:F)),11) else (((0:F),(0:F)),0))
  else if (S.rd (l.take S.n)).2=0 then
   if 4<=k then S.mi ((S.rd (l.take S.n)).1,S.Ph (S.rt (S.rd (l.take S.n)).1) (decide (k%2=1)))
   else if (S.rd (l.drop S.n)).2=0 then S.mi ((S.rd (l.take S.n)).1,(S.rd (l.drop S.n)).1)
   else (((0:F),(0:F)),12)
  else (((0:F),(0:F)),12):=by
 unfold kr.rg cq;rw[aaq h g,ado h g,adl h g,adm h g,Ox];have j:((l.length:Int)≠(S.n:Int)/\(l.length:Int)≠2*(S.n:Int))↔(l.length≠S.n/\l.length≠2*S.n):=aa;have q:decide ((l.length:Int)=(S.n:Int))=decide (l.length=S.n):=by simp[Int.ofNat_inj]
 by_cases b:l.length≠S.n/\l.length≠2*S.n;simp only[aj (j.2 b),aj b];rw[ah ae]
 ·simp only[ah (fun c=>b (j.1 c)),ah b,q];by_cases o:decide (4<=k)≠decide (l.length=S.n);simp only[aj o];rw[ah ae]
  ·simp only[ah o];have m:(decide (k%2=1)=true/\(decide (4<=k)=false\/decide (k/2%2=1)=true))↔(k%2=1/\(k<4\/k/2%2=1)):=by
    simp only[ik,decide_eq_false_iff_not];omega
   by_cases d:k%2=1/\(k<4\/k/2%2=1);simp only[aj (m.2 d),aj d];rw[ah ae]
   ·simp only[ah (fun c=>d (m.1 c)),ah d];by_cases e:k/2%2=1;simp only[aj e,bX e,true_and];by_cases p:∃ v∈l,v≠0;simp only[aj p];rw[ah ae];simp only[ah p];simp only[eA]
    ·have a:¬ (decide (k/2%2=1)=true):=by simpa using e
     simp only[ah e,ah a,ah (show ¬ (decide (k/2%2=1)=true/\∃ v∈l,v≠0) from fun c=>a c.1),eA];by_cases f:4<=k;simp only[aj f,bX f,eA]
     ·have i:¬ (decide (4<=k)=true):=by simpa using f
      simp only[ah f,ah i]
theorem kr.R9 {p:F × F} (a:p≠((0:F),(0:F))) (b:S.oV p=true) (c:S.pL p=true):S.mi p=(p,0):=by rw[kr.mi,ah a,aj b,aj c]
omit [DecidableEq F] in
theorem kr.Ok.aeM (h:S.Ok) {x y:F} (a:(x,y)≠((0:F),(0:F))) (b:S.oV (x,y)=true) (d:S.pL (x,y)=true):S.Ph (S.rt x) (S.lg y)=y:=by obtain⟨g,_⟩:=h.iny x y b d a;unfold kr.Ph;rcases h.root x y b a with e|e;rw[<- e,aj rfl];have f:S.rt x≠0:=fun c=>g (by rw[e,c,Rg.neg_zero]);rw[ah,e];rw[e,h.lgn _ f];cases S.lg (S.rt x)<;>decide
theorem kr.Ok.RA (h:S.Ok) {p:F × F} (d:S.oV p=true) (e:S.pL p=true):S.rg (S.short p)=(p,0):=by
 have l:=h.n0;have k:=h.len p.1;rw[h.E4,kr.Ok.aeD (h.BD1 p.1) (by split;decide;split<;>decide),ah aa];by_cases a:p=((0:F),(0:F));rw[aj a,ah (by simp[k]),ah ae,aj ae,ah,a];rintro⟨v,i,g⟩;rw[a,h.z] at i;exact g (List.eq_of_mem_replicate i)
 ·rw[ah a];obtain⟨x,y⟩:=p;have j:S.rd ((S.bts x).take S.n)=(x,0):=by rw[bQ (by rw[h.len];exact aE _),h.rdb]
  have c:=h.aeM a d e;by_cases b:S.lg y=true;rw[b] at c;rw[aj b,ah (by simp[h.len]),ah ae,ah ae,j,aj rfl,aj ae];show S.mi (x,S.Ph (S.rt x) true)=_;rw[c,kr.R9 a d e]
  ·have f:S.lg y=false:=by simpa using b
   rw[f] at c;rw[ah b,ah (by simp[h.len]),ah ae,ah ae,j,aj rfl,aj ae];show S.mi (x,S.Ph (S.rt x) false)=_;rw[c,kr.R9 a d e]
end
end codec
end Go.Proofs.YtofofalgjibokaaGreatDoor
namespace Cr
open Rg Fd
open Go.IntKind(i64)
open Go.IntKind(i64 u64)
open Go.IntKind(i64 u8)
open Go.IntKind(u8)
section
variable {F:Type} [Fd F] {b:F}
theorem aeY (d:b≠0) {P:F × F} (f:gP b P) {r:Nat} (i:r%2=1) (h:db P r=O2) (c:P.2=0):P=O2:=by
 have e:dD P=P:=by show (P.1,-P.2)=P;rw[c,neg_zero,<- c]
 have g:db P 2=O2:=by
  rw[LJ];have:=dZ P
  rwa [e] at this
 have a:r=2*(r/2)+1:=aa;rw[a,oX d f,<- sS d f,g,yF,jF,EG] at h;exact h
theorem Xa (d:b≠0) {P:F × F} (a:gP b P) {r:Nat} (j:r%3=1) (h:db P r=O2) (c:P.1=0):P=O2:=by
 rcases a with rfl|o;rfl;have a:gP b P:=.inr o;have i:yc P P 0:=by refine⟨?_,?_⟩;rw[zero_mul,sub_self];rw[c,zero_mul,zero_mul,add_zero,add_zero]
 have e:cc P P=dD P:=by rw[eL d o o i,c];show (0*0-0-0,-(P.2+0*_))=(P.1,-P.2);rw[zero_mul,zero_mul,sub_self,sub_self,add_zero,c]
 have g:db P 3=O2:=by show cc (db P 2) P=O2;rw[LJ,e,kM]
 have f:r=3*(r/3)+1:=aa;rw[f,oX d a,<- sS d a,g,yF,jF,EG] at h;exact h
end
theorem Na (n:Nat) (N:Int):dt (n+1) N=dt n (N/256)++[N%256]:=by unfold dt;rw[qD,de];congr 1;apply Ba;intro i a;have a:=List.mem_range.1 a;rw[show n+1-1-i=(n-1-i)+1 by omega];rw[show bC (n-1-i+1)=256*bC (n-1-i) from rfl,<- na ae];simp[bC]
theorem Fw:∀ (n:Nat) (l:List Int),l.length=n->Bs l->dt n (num l)=l:=by
 intro n;induction n with
 | zero=>intro l h _;rw[List.length_eq_zero_iff.1 h];rfl
 | succ n m =>
  intro l h f;have a:l≠[]:=by intro c;rw[c] at h;simp at h
  have e:=List.dropLast_concat_getLast a;have d:=f _ (List.getLast_mem a);have g:Bs l.dropLast:=fun x k=>f x (List.dropLast_subset l k);have i:l.dropLast.length=n:=by rw[List.length_dropLast];omega
  rw[Na];have j:num l=num l.dropLast*256+l.getLast a:=by rw[<- vM,e]
  rw[j,show (num l.dropLast*256+l.getLast a)/256=num l.dropLast by omega,show (num l.dropLast*256+l.getLast a)%256=l.getLast a by omega,m _ i g,e]
theorem Nb (n:Nat):dt n 0=replicate n 0:=by
 have e:((replicate n (0:Int)).length=n):=oL;have a:Bs (replicate n (0:Int)):=fun x c=>by rw[List.eq_of_mem_replicate c];decide
 have d:∀ n:Nat,num (replicate n 0)=0:=by
  intro n;induction n with
  | zero=>rfl
  | succ n f=>rw[List.replicate_succ',vM,f];rfl
 have:=Fw n _ e a
 rwa [d] at this
theorem R8 {N:Int} (c:0<=N) (d:N<Mp):(dt 48 N).getD 0 0<32:=by
 show N/bC 47%256<32;have e:Mp<=32*bC 47:=by decide +kernel
 have a:0<bC 47:=j0 47;have:N/bC 47<32:=Int.ediv_lt_of_lt_mul a aa;have:0<=N/bC 47:=wP c (eJ a);omega
theorem ad1 {y:Fp} (h:y≠0):(-y).v=Mp-y.v:=by have a:=y.nn;have d:=y.lt;have:y.v≠0:=fun c=>h (Zm.ext (by rw[c,uv]));rw[J1,<- Bb];rw[dd aa aa];omega
theorem adY {y:Fp} (h:y≠0):decide ((- -y).v<(-y).v)=!decide ((-y).v<y.v):=by
 rw[neg_neg];have e:=ad1 h;have a:Mp%2=1:=by decide +kernel
 by_cases c:(-y).v<y.v;rw[bX c,cp aa];rfl;rw[cp c,bX aa];rfl
end Cr
namespace Go.Proofs.YtofofalgjibokaaGreatDoor
namespace codec
open Rg Fd
open Go.IntKind(i64)
open Go.IntKind(i64 u64)
open Go.IntKind(i64 u8)
open Go.IntKind(u8)
theorem SP (y:Fp):(fp.gh (y*y)).2=true:=by
 by_cases c:y=0;rw[c,mul_zero];exact fp2.Nj
 ·unfold fp.gh;have e:mO (y*y) fp.vR*mO (y*y) fp.vR=y*y:=by
   have a:=PX c;rw[zd] at a ⊢;rw[<- abI,<- zpow_add];have d:2*fp.vR.toNat+2*fp.vR.toNat=(4002409555221667393417789825735904156556882819939007885332058136124031650490837864442687629129015664037894272559785:Int).toNat+1+1+1:=Odt ab;rw[d];generalize (4002409555221667393417789825735904156556882819939007885332058136124031650490837864442687629129015664037894272559785:Int).toNat=m at *;show zpow y m*y*y*y=y*y;rw[mul_comm (zpow y m) y,a,one_mul]
  rw[aj e]
theorem afR (x:Fp):fp.cI (dt 48 x.v)=(x,0):=by have a:x.v<bC 48:=Int.lt_trans x.lt (by decide +kernel);rw[fp.cI,aj (gO _ _),Gj 48 _ x.nn a,aj x.lt,jf]
theorem afq {b:List Int} (c:Bs b) (h:(fp.cI b).2=0):dt 48 (fp.cI b).1.v=b/\b.length=48:=by
 unfold fp.cI at h ⊢;split at h
 ·rename_i a;rw[aj a];split at h
  ·rename_i d;rw[aj d];refine⟨?_,a⟩;have:(zm (num b):Fp).v=num b:=by rw[Ay];exact dd (Cc c).1 d
   show dt 48 (zm (num b):Fp).v=b;rw[this,Fw 48 b a c]
  cases h
 cases h
def BU:kr Fp:=⟨48,fun x=>dt 48 x.v,fp.cI,fun y=>decide ((-y).v<y.v),Ae,g1.oV,g1.pL⟩
theorem Tc {x y:Fp} (c:g1.oV (x,y)=true) (a:g1.pL (x,y)=true):g1.Sub (x,y):=by have o:=(g1.vb _).1 c;rw[g1.ac9 o,ik] at a;exact⟨o,a⟩
theorem HJ:BU.Ok where
 n0:=ae
 len x:=gO _ _
 bs x:=wV _ _
 hd x:=R8 x.nn x.lt
 rdb x:=afR x
 brd b hb h:=(afq hb h).1
 lgn y hy:=adY hy
 z:=Nb 48
 root x y h h0:=by rcases (g1.vb _).1 h with c|c;exact absurd c h0;have c:y*y=x*x*x+zm 4:=c;have:=fp2.SO (SP y);show y=Ae x\/y=-Ae x;rw[Ae,<- c];exact af5 this.symm
 on0:=(g1.vb _).2 (.inl rfl)
 in0:=by rw[show ((0:Fp),(0:Fp))=O2 from rfl];exact g1.GW ⟨.inl rfl,yF _⟩
 iny x y h1 h2 h0:=by obtain⟨o,hr⟩:=Tc h1 h2;exact⟨fun c=>h0 (aeY g1.np o (by decide +kernel) hr c),fun c=>h0 (Xa g1.np o (by decide +kernel) hr c)⟩
 onn x y h:=(g1.vb _).2 (l6 ((g1.vb _).1 h))
 inn x y h1 h2:=by obtain⟨o,hr⟩:=Tc h1 h2;refine g1.GW ⟨l6 o,?_⟩;show db (dD (x,y)) g1.rN=O2;rw[Wo g1.np o,hr,rS]
theorem aeC (b:List Int):ov b=BU.rg b:=rfl
theorem ac4 (p:Fp × Fp):AF p=BU.short p:=by
 obtain⟨x,y⟩:=p;unfold AF kr.short;have e:(decide (x=0)&&decide (y=0))=decide ((x,y)=((0:Fp),(0:Fp))):=by rw[lp];simp
 show List.set _ 0 (aF .or .u8 _ (if (decide (x=0)&&decide (y=0))=true then _ else _))=_;rw[e];simp only[BU,jR]
def DZ (p:Fp × Fp):List Int:=eS (BU.short p)
theorem Gm (p:Fp × Fp):DZ p=BU.short p:=bf _
def pO (b:List Int):(Fp × Fp) × Int:=eS (BU.rg b)
theorem Tz (b:List Int):pO b=BU.rg b:=bf _
theorem SL:aL Tryz.prog 126 [.sl (.int .u8)] [.val aN,.val (.int .i64)] bx Gv (fun (b,_)=>((pO b).1,(pO b).2,())):=SJ.out fun (b,_)=>by show ((pO b).1,(pO b).2,())=((ov b).1,(ov b).2,());rw[Tz,aeC]
def My:Nat × Eng.Spec:=(126,aH [.sl (.int .u8)] [.val aN,.val (.int .i64)] Gv (fun (b,_)=>((pO b).1,(pO b).2,())))
end codec
namespace deal
open law22 poly
open Go.IntKind(i64)
open Go.IntKind(i64 u64)
open Go.IntKind(i64 u8)
open Go.IntKind(u8)
theorem vw:enters Tryz.prog 82 Tryz.f82:=ek
def vU (b:List Int) (i:Nat):List Int:=(b.drop (48*i)).take 48
def mD (b:List Int):Nat->Int
 | 0=>0
 | k+1=>if mD b k=0 then (codec.pO (vU b k)).2 else mD b k
def q7 (b:List Int) (k:Nat):List (Fp × Fp):=(range k).map fun i=>(codec.pO (vU b i)).1
theorem Og {b:List Int}:∀ {k m:Nat},k<=m->mD b k≠0->mD b m=mD b k
 | k,0,h,_=>by rw[Nat.le_zero.1 h]
 | k,m+1,h,a=>by by_cases c:k=m+1;rw[c];have:=Og (b:=b) (k:=k) (m:=m) aa a;rw[mD,ah (by rw[this];exact a),this]
theorem WK (b:List Int) (k:Nat):q7 b (k+1)=q7 b k++[(codec.pO (vU b k)).1]:=by rw[q7,qD,de];rfl
theorem yK (b:List Int) (k:Nat):(q7 b k).length=k:=by rw[q7];simp
def o8 (d:List Int) (n:Int) (o:List (Fp × Fp)) (a:Int) (b:List Int):List (Fp × Fp) × Int :=
 if a∈d then
  if b.length%48=0/\((b.length/48:Nat):Int)=n then
   if mD b (b.length/48)=0 then
    if o=[]\/(1<=b.length/48/\(q7 b (b.length/48)).getD 0 (0,0)=lV a o) then (q7 b (b.length/48),0) else ([],31)
   else ([],mD b (b.length/48))
  else ([],10)
 else ([],34)
abbrev J4:HL [dU,.int .i64,.sl (.int .u8)]->Prop:=fun ((d,_,_,o),a,b,_)=>length d<4611686018427387904/\Cl (o,a,())/\Bs b/\length b<=1000000
abbrev uT:HL [dU,.int .i64,.sl (.int .u8)]->HO [.own aN,.val (.int .i64)]:=fun ((d,_,n,o),a,b,_)=>((o8 d n o a b).1,(o8 d n o a b).2,())
abbrev sC (d t:List Int) (n:Int) (o:List (Fp × Fp)):List Cell:=[.ro (.int .i64) d,.ro (.int .i64) t,.v (.int .i64 n),.ro aN o]
def Ie (d t:List Int) (n:Int) (o:List (Fp × Fp)) (a:Int) (g:List Int × Nat × Nat × List (Fp × Fp)):St:=ar Tryz.f82.ntmps 192 [(1,sI .i64 a),(2,.is (.one (.ro (.int .u8) g.1))),(3,.is (.one (.ptr 0 0))),(6,.is (.one (.v (.slice none 0 0)))),(7,sI .i64 0),(8,.is (.one (.sl 176 0 0 g.2.1 12)))] [(0,sC d t n o),(176,[.row aN g.2.2.1 g.2.2.2])]
def Ri (b:List Int) (g:List Int × Nat × Nat × List (Fp × Fp)):Prop:=g.2.1<=b.length/48/\g.1=b.drop (48*g.2.1)/\g.2.2.2.take g.2.1=q7 b g.2.1/\mD b g.2.1=0/\g.2.1<=g.2.2.1/\g.2.2.1=g.2.2.2.length
def aev (b:List Int) (g:List Int × Nat × Nat × List (Fp × Fp)):Prop:=g.2.1=b.length/48/\g.2.2.2.take g.2.1=q7 b g.2.1/\mD b g.2.1=0/\g.2.1<=g.2.2.1/\g.2.2.1=g.2.2.2.length
theorem va:aL Tryz.prog 82 [dU,.int .i64,.sl (.int .u8)] [.own aN,.val (.int .i64)] bx J4 uT:=by
 have s:aD Tryz.prog (aP [ko,codec.My,yU,RC]):=(aJ (aM lW) (aJ (aM codec.SL) (aJ (aM zr) (aJ (aM SD) bp))));refine bI (sp:=aP [ko,codec.My,yU,RC]) vw ae ae ab ?_;rintro w M0 ⟨⟨d,t,n,o⟩,r,b,⟨⟩⟩;revert d t n o r b;intro (d:List Int) (t:List Int) (n:Int) (o:List (Fp × Fp)) (a:Int) (b:List Int) _ hp;obtain⟨Z,Y,V,P⟩:=hp;have P:b.length<=1000000:=P;show Tr _ _ _ _ _ _ _;refine jO s mixed 6 (fun j=>(GB (.int .u8) 2 j,ou 8 j,rdN 176 j,cU aN 176 j)) (Ie d t n o a) (fun g=>Ri b g/\a∈d/\b.length%48=0/\((b.length/48:Nat):Int)=n) ?_ ?_
 ·refine al (X:=(hZ (d,a,())/\((!decide (a∈d))=true->([],34,())=uT ((d,t,n,o),a,b,()))/\((!decide (a∈d))=false->((48:Int)=0->False)/\(((b.length:Int).tmod 48 != 0)=true->([],10,())=uT ((d,t,n,o),a,b,()))/\(((b.length:Int).tmod 48 != 0)=false->((48:Int)=0->False)/\((IntKind.i64.wrap ((b.length:Int).tdiv 48) != n)=true->([],10,())=uT ((d,t,n,o),a,b,()))/\((IntKind.i64.wrap ((b.length:Int).tdiv 48) != n)=false->((0:Int)<=0/\0<=n/\(↑(96:Nat):Int)*n<=281474976710656/\n<=9223372036854775807)/\(Ie d t n o a (b,0,n.toNat,replicate n.toNat ((0:Fp),(0:Fp)))).ag (Ri b (b,0,n.toNat,replicate n.toNat ((0:Fp),(0:Fp)))/\a∈d/\b.length%48=0/\(↑(b.length/48):Int)=n)))))) ab ?_;have R:(b.length:Int).tmod 48=((b.length%48:Nat):Int):=rfl;have T:(b.length:Int).tdiv 48=((b.length/48:Nat):Int):=rfl;rw[R,T,ba aa aa];refine⟨Z,fun h=>?_,fun h=>⟨ae,fun f=>?_,fun f=>⟨ae,fun i=>?_,fun i=>?_⟩⟩⟩
  ·have h:¬ a∈d:=by simpa using h
   show _=((o8 d n o a b).1,(o8 d n o a b).2,());rw[o8,ah h]
  ·have h:a∈d:=by simpa using h
   have f:¬ b.length%48=0:=fun c=>by rw[c] at f;simp at f
   show _=((o8 d n o a b).1,(o8 d n o a b).2,());rw[o8,aj h,ah (fun c=>f c.1)]
  ·have h:a∈d:=by simpa using h
   have i:¬ ((b.length/48:Nat):Int)=n:=bne_iff_ne.1 i;show _=((o8 d n o a b).1,(o8 d n o a b).2,());rw[o8,aj h,ah (fun c=>i c.2)]
  ·have h:a∈d:=by simpa using h
   have f:b.length%48=0:=by have:((b.length%48:Nat):Int)=0:=by simpa using f
                            omega
   have i:((b.length/48:Nat):Int)=n:=by simpa using i
   have I:n.toNat=b.length/48:=aa;refine⟨⟨ae,aa,aa,aa⟩,ao ⟨⟨a2 _,?_,?_,rfl,a2 _,?_⟩,h,f,i⟩⟩;show b=drop (48*0) b;simp;rfl;show n.toNat=(replicate n.toNat ((0:Fp),(0:Fp))).length;rw[oL]
 rintro⟨e,k,m,l⟩ hK;revert e l;intro (e:List Int) (l:List (Fp × Fp)) ⟨H,C,A,I⟩;refine cd s mixed (fun j=>[(176,Mg 8 j)]) (fun j=>(GB (.int .u8) 2 j,ou 8 j,rdN 176 j,cU aN 176 j)) (Ie d t n o a) (Ri b) (fun g=>b.length/48-g.2.1)
  (fun j=>(GB (.int .u8) 2 j,ou 8 j,rdN 176 j,cU aN 176 j)) (Ie d t n o a) (aev b) (e,k,m,l) (c:=aq (ak Tryz.f82) 6) ab ab (aw ab ab H) ?_ ?_
 ·rintro⟨e,k,m,l⟩ H;revert e l;intro (e:List Int) (l:List (Fp × Fp)) ⟨z,F,p,q,u,G⟩;refine al (X:=((decide ((e.length:Int)>0)=true->((0:Int)<=48/\48<=(e.length:Int))/\codec.Gv (take 48 e,())/\(((codec.pO (take 48 e)).snd != 0)=true->([],(codec.pO (take 48 e)).snd,())=uT ((d,t,n,o),a,b,()))/\(((codec.pO (take 48 e)).snd != 0)=false->0+1<=1/\k<=m/\(k+1)*96<=140737488355328/\k+1<=4611686018427387904/\((0:Int)<=48/\48<=(e.length:Int))/\(Ie d t n o a (take ((e.length:Int)-48).toNat (drop 48 e),k+1,k+1,take k l++take 1 [(codec.pO (take 48 e)).fst])).ag (Ri b (take ((e.length:Int)-48).toNat (drop 48 e),k+1,k+1,take k l++take 1 [(codec.pO (take 48 e)).fst])/\b.length/48-(k+1)<b.length/48-k)))/\(decide ((e.length:Int)>0)=false->(Ie d t n o a (e,k,m,l)).ag (aev b (e,k,m,l))))) ab ?_;have z:k<=b.length/48:=z;have F:e=b.drop (48*k):=F;have p:l.take k=q7 b k:=p;have q:mD b k=0:=q;have u:k<=m:=u;have W:e.length=b.length-48*k:=by rw[F,gm]
  have K:take 48 e=vU b k:=by rw[F];rfl
  rw[K];refine⟨fun h=>?_,fun h=>ao ?_⟩
  ·have D:k<b.length/48:=by
    have:=Odt h;omega
   have L:48<=e.length:=aa;refine⟨⟨aa,aa⟩,⟨fun x hx=>V x (A7 (ng hx)),by show (vU b k).length<=_;rw[vU];exact ja (List.length_take_le _ _) ae⟩,fun f=>?_,fun f=>⟨ae,u,aa,aa,⟨aa,aa⟩,ao ⟨⟨D,?_,?_,?_,aE _,?_⟩,aa⟩⟩⟩
   ·have f:¬ (codec.pO (vU b k)).2=0:=bne_iff_ne.1 f;have N:mD b (k+1)=(codec.pO (vU b k)).2:=by rw[mD,aj q]
    have Q:mD b (b.length/48)=(codec.pO (vU b k)).2:=by rw[<- N];exact Og D (by rw[N];exact f)
    show _=((o8 d n o a b).1,(o8 d n o a b).2,());rw[o8,aj C,aj ⟨A,I⟩,ah (by rw[Q];exact f),Q]
   show take ((e.length:Int)-48).toNat (drop 48 e)=b.drop (48*(k+1));rw[bQ (by rw[gm];omega),F,fJ];congr 1;show take (k+1) (take k l++[_])=q7 b (k+1);rw[p,WK,bQ (by rw[bb,yK];simp)];show mD b (k+1)=0;rw[mD,aj q];simpa using f;show k+1=(take k l++[_]).length;rw[p,bb,yK];rfl
  ·have y:k=b.length/48:=by
    have:=Odf h;omega
   exact⟨y,p,q,u,G⟩
 rintro⟨e,k,m,l⟩ H;revert e l;intro (e:List Int) (l:List (Fp × Fp)) ⟨z,p,q,u,G⟩;refine bE s mixed _ _ ?_;refine al (X:=(True/\((!(o.length:Int)==0)=true->(((k:Int)==0)=true->([],31,())=uT ((d,t,n,o),a,b,()))/\(((k:Int)==0)=false->((0:Int)<=0/\0<(k:Int))/\0<m/\Cl (o,a,())/\((!mC (Kd.fp.pair Kd.fp) (l.getD 0 ((0:Fp),(0:Fp))) (lV a o))=true->([],31,())=uT ((d,t,n,o),a,b,()))/\((!mC (Kd.fp.pair Kd.fp) (l.getD 0 ((0:Fp),(0:Fp))) (lV a o))=false->0+k<=m/\(take k l,0,())=uT ((d,t,n,o),a,b,()))))/\((!(o.length:Int)==0)=false->0+k<=m/\(take k l,0,())=uT ((d,t,n,o),a,b,())))) ab ?_;have z:k=b.length/48:=z;have p:l.take k=q7 b k:=p;have q:mD b k=0:=q;have u:k<=m:=u;have G:m=l.length:=G;have U:o8 d n o a b=if o=[]\/(1<=k/\(q7 b k).getD 0 (0,0)=lV a o) then (q7 b k,0) else ([],31):=by rw[o8,aj C,aj ⟨A,I⟩,<- z,aj q]
 have O:1<=k->l.getD 0 ((0:Fp),(0:Fp))=(q7 b k).getD 0 (0,0):=fun h=>by rw[<- p,aX,aX,fI,aj aa]
 have kp:((k:Int)==0)=false->(0:Int)<(k:Int):=fun h=>by
  have:¬ (k:Int)=0:=by simpa using h
  omega
 rw[eqP,p];refine⟨trivial,fun h=>⟨fun f=>?_,fun f=>⟨⟨ae,kp f⟩,?_,Y,fun i=>?_,fun i=>⟨aa,?_⟩⟩⟩,fun h=>⟨aa,?_⟩⟩;all_goals try show _=((o8 d n o a b).1,(o8 d n o a b).2,())
 all_goals try rw[U]
 ·have f:(k:Int)=0:=by simpa using f
  have E:¬ o=[]:=fun c=>by rw[c] at h;simp at h
  rw[ah (fun c=>c.elim E (fun c=>aa))]
 ·have:¬ (k:Int)=0:=by simpa using f
  omega
 ·have y:1<=k:=by have:¬ (k:Int)=0:=by simpa using f
                  omega
  have E:¬ o=[]:=fun c=>by rw[c] at h;simp at h
  rw[O y] at i;have i:¬ (q7 b k).getD 0 (0,0)=lV a o:=by simpa using i
  rw[ah (fun c=>c.elim E (fun c=>i c.2))]
 ·have y:1<=k:=by have:¬ (k:Int)=0:=by simpa using f
                  omega
  rw[O y] at i;have i:(q7 b k).getD 0 (0,0)=lV a o:=by simpa using i
  rw[aj (.inr ⟨y,i⟩)]
 ·have E:o=[]:=dP (by have:(o.length:Int)=0:=by simpa using h
                      omega)
  rw[aj (.inl E)]
end deal
namespace rite
open Go.IntKind(i64)
open Go.IntKind(i64 u64)
open Go.IntKind(i64 u8)
open Go.IntKind(u8)
set_option maxHeartbeats 4000000
open hub deal
abbrev iK:Kd:=.int .i64
abbrev cu:Kd:=.pair iK (.sl iK)
abbrev Pt:=Fp × Fp
structure Rt where
 p:Nat
 me:Int
 dealers:List Int
 takers:List Int
 need:Int
 old:List Pt
 aY:List Fr
 start:Int
 span:Int
 phase:Int
 hub:Nat
 deals:List (Int × List Pt)
 faults:List (Int × List Int)
 proofs:List (Int × Int × Fr)
 aW:List Int
 shares:List Fr
 fault:Int
abbrev bh:List Cell:=[.v (.slice none 0 0),.v (.slice none 0 0),.ints .u64 4 [0,0,0,0],.ints .u8 32 (replicate 32 0)]
abbrev kG (e:List Int × List Pt × Fr × List Int):List Cell:=[.ro iK e.1,.ro aN e.2.1,.row .fr 1 [e.2.2.1],.ints .u8 32 e.2.2.2]
abbrev lH (R:Rt) (a b c d e f g h i j:Nat) (t:List Cell):List Cell:=.v (.int .i64 R.me)::.ro iK R.dealers::.ro iK R.takers::.v (.int .i64 R.need)::.ro aN R.old::.ro .fr R.aY::.v (.int .i64 R.start)::.v (.int .i64 R.span)::.v (.int .i64 R.phase)::.v (Ob.pt R.hub) ::
 .sl a 0 0 f 2::.sl b 0 0 g 2::.sl c 0 0 h 6::.sl d 0 0 i 1::.sl e 0 0 j 4::t
abbrev dF (R:Rt) (t:List Cell):List (List Cell):=[lH R 1 2 3 4 5 R.deals.length R.faults.length R.proofs.length R.aW.length R.shares.length t,[.row cl R.deals.length R.deals],[.row cu R.faults.length R.faults],[.row cz R.proofs.length R.proofs],[.ints .i64 R.aW.length R.aW],[.row .fr R.shares.length R.shares]]
def bw (R:Rt):Ob.ai:=Ob.ai.obj (dF R (bh++[.v (.int .i64 R.fault)])) R.p Ob.ai.none
def pQ (R:Rt) (e:List Int × List Pt × Fr × List Int):Ob.ai:=Ob.ai.obj (dF R (kG e++[.v (.int .i64 R.fault)])) R.p Ob.ai.none
abbrev xV:=aP [law22.ko]
theorem ca:aD Tryz.prog xV:=aJ (aM law22.lW) bp
abbrev pR (e:Nat->Option (Sigma aA)) (f:World) (d:Mem) (a:Nat->Prop):Ob.b5:=Ob.kO Tryz.prog xV e f d a
abbrev ig (R:Rt) (t:List Cell):List (Nat × List Cell):=[(8,lH R 9 10 11 12 13 R.deals.length R.faults.length R.proofs.length R.aW.length R.shares.length t),(9,[.row cl R.deals.length R.deals]),(10,[.row cu R.faults.length R.faults]),(11,[.row cz R.proofs.length R.proofs]),(12,[.ints .i64 R.aW.length R.aW]),(13,[.row .fr R.shares.length R.shares])]
theorem zl:enters Tryz.prog 63 Tryz.f63:=ek
abbrev Sf:Func:=Tryz.f63
def dlA (R:Rt):St:=ar Sf.ntmps 14 [(0,.is (.one (.ptr 8 0)))] (ig R (bh++[.v (.int .i64 R.fault)]))
def dlB (R:Rt) (q:Bool):St:=ar Sf.ntmps 14 [(2,av q)] (ig R (bh++[.v (.int .i64 R.fault)]))
def dlC (q:Bool):St:=ar Sf.ntmps 8 [(2,av q)] []
def dlZ (p:Nat):St:=ar Sf.ntmps 8 [(0,aG p)] []
theorem Jk (a:Nat->Option (Sigma aA)):Ob.dG Tryz.prog a 63 (fun R:Rt=>[aG R.p]) (fun R=>R.dealers.length<1000) bw (fun R (_:Unit)=>av (decide (R.me∈R.dealers))) (fun R _=>bw R) (fun _ _=>True):=by refine Ob.cA (sp:=xV) zl ab (fun z=>by show 1<=Sf.ntmps;exact Odt ab) (fun z _=>rfl) ?_;intro R i g e d;unfold bw;refine Ob.ee ca 1 (dlZ R.p) ?_;refine Ob.gZ [0] (dlA R) ?_;refine Ob.gcd ca 1 (fun h=>bg .bool 2 h) (fun q=>dlB R q) (fun q=>q=decide (R.me∈R.dealers)) ?_ (fun q f=>?_);intro w ids M num;refine @al (law22.hZ (R.dealers,R.me,())/\(dlB R (decide (R.me∈R.dealers))).ag (decide (R.me∈R.dealers)=decide (R.me∈R.dealers))) _ ?_ ?_;kernel_rfl;exact⟨by show R.dealers.length<_;omega,ao rfl⟩;refine Ob.fk (E:=pR a g e d) (bl:=dF R (bh++[.v (.int .i64 R.fault)])) [] [8,9,10,11,12,13] 9 (dlC q) ?_;exact Ob.pM ca (av q) ⟨(),trivial,by rw[f];exact Ob.a7 _,rfl⟩
theorem BI:enters Tryz.prog 66 Tryz.f66:=ek
abbrev UA:Func:=Tryz.f66
def AM (R:Rt):St:=ar UA.ntmps 14 [(0,.is (.one (.ptr 8 0)))] (ig R (bh++[.v (.int .i64 R.fault)]))
def MK (R:Rt) (q:Bool):St:=ar UA.ntmps 14 [(2,av q)] (ig R (bh++[.v (.int .i64 R.fault)]))
def G6 (q:Bool):St:=ar UA.ntmps 8 [(2,av q)] []
def tkZ (p:Nat):St:=ar UA.ntmps 8 [(0,aG p)] []
theorem LN (a:Nat->Option (Sigma aA)):Ob.dG Tryz.prog a 66 (fun R:Rt=>[aG R.p]) (fun R=>R.takers.length<1000) bw (fun R (_:Unit)=>av (decide (R.me∈R.takers))) (fun R _=>bw R) (fun _ _=>True):=by refine Ob.cA (sp:=xV) BI ab (fun z=>by show 1<=UA.ntmps;exact Odt ab) (fun z _=>rfl) ?_;intro R i g e d;unfold bw;refine Ob.ee ca 1 (tkZ R.p) ?_;refine Ob.gZ [0] (AM R) ?_;refine Ob.gcd ca 1 (fun h=>bg .bool 2 h) (fun q=>MK R q) (fun q=>q=decide (R.me∈R.takers)) ?_ (fun q f=>?_);intro w ids M num;refine @al (law22.hZ (R.takers,R.me,())/\(MK R (decide (R.me∈R.takers))).ag (decide (R.me∈R.takers)=decide (R.me∈R.takers))) _ ?_ ?_;kernel_rfl;exact⟨by show R.takers.length<_;omega,ao rfl⟩;refine Ob.fk (E:=pR a g e d) (bl:=dF R (bh++[.v (.int .i64 R.fault)])) [] [8,9,10,11,12,13] 9 (G6 q) ?_;exact Ob.pM ca (av q) ⟨(),trivial,by rw[f];exact Ob.a7 _,rfl⟩
set_option maxHeartbeats 4000000
abbrev X8 (x:Fr):SV:=.is (.agg [.row .fr 1 [x]])
theorem KM:enters Tryz.prog 45 Tryz.f45:=ek
abbrev F9:Func:=Tryz.f45
def kpA (p:Nat) (d:Int) (x:Fr):St:=ar F9.ntmps 8 [(0,aG p),(1,sI .i64 d),(5,.is (.one (.ptr 0 0)))] [(0,[.row .fr 1 [x]])]
def kpB (R:Rt) (d:Int) (x:Fr):St:=ar F9.ntmps 14 [(0,.is (.one (.ptr 8 0))),(1,sI .i64 d),(5,.is (.one (.ptr 0 0)))] ((0,[.row .fr 1 [x]])::ig R (bh++[.v (.int .i64 R.fault)]))
def kpC (R:Rt) (d:Int) (x:Fr) (q:Bool):St:=ar F9.ntmps 14 [(0,.is (.one (.ptr 8 0))),(1,sI .i64 d),(5,.is (.one (.ptr 0 0))),(11,av q)] ((0,[.row .fr 1 [x]])::ig R (bh++[.v (.int .i64 R.fault)]))
def kpN (q:SV):St:=ar F9.ntmps 8 [(11,q)] []
def kpD (R:Rt) (x:Fr) (fl:List Int):St:=ar F9.ntmps 71 [(0,.is (.one (.ptr 8 0))),(5,.is (.one (.ptr 0 0)))]
 [(0,[.row .fr 1 [x]]),(8,lH R 9 10 11 70 13 R.deals.length R.faults.length R.proofs.length (R.aW.length+1) R.shares.length (bh++[.v (.int .i64 R.fault)])),(9,[.row cl R.deals.length R.deals]),(10,[.row cu R.faults.length R.faults]),(11,[.row cz R.proofs.length R.proofs]),(70,[.ints .i64 (R.aW.length+1) fl]),(13,[.row .fr R.shares.length R.shares])]
def kpE (R:Rt) (fl:List Int) (a:List Fr):St:=ar F9.ntmps 128 []
 [(8,lH R 9 10 11 70 127 R.deals.length R.faults.length R.proofs.length (R.aW.length+1) (R.shares.length+1) (bh++[.v (.int .i64 R.fault)])),(9,[.row cl R.deals.length R.deals]),(10,[.row cu R.faults.length R.faults]),(11,[.row cz R.proofs.length R.proofs]),(70,[.ints .i64 (R.aW.length+1) fl]),(127,[.row .fr (R.shares.length+1) a])]
def kpZ:St:=ar F9.ntmps 8 [] []
def eY (R:Rt) (d:Int) (x:Fr):Rt:=if d∈R.aW then R else { R with aW:=R.aW++[d],shares:=R.shares++[x] }
theorem aaO (c:Nat->Option (Sigma aA)):Ob.dG Tryz.prog c 45 (fun z:Rt × Int × Fr=>[aG z.1.p,sI .i64 z.2.1,X8 z.2.2]) (fun z=>z.1.aW.length<1000000/\z.1.shares.length<1000000) (fun z=>bw z.1) (fun _ (_:Unit)=>.tup []) (fun z _=>bw (eY z.1 z.2.1 z.2.2)) (fun _ _=>True):=by refine Ob.cA (sp:=xV) KM ab (fun z=>by show 3<=F9.ntmps;exact Odt ab) (fun z _=>rfl) ?_;rintro⟨R,d,x⟩ ⟨i,j⟩ k g f;have i:R.aW.length<1000000:=i;have j:R.shares.length<1000000:=j;show Ob.aK _ _ (Ob.GH _ _ _ (bw R)) _ _ _;unfold bw;refine Ob.ee ca 1 (kpA R.p d x) ?_;refine Ob.gZ [0] (kpB R d x) ?_;refine Ob.gcd ca 1 (fun b=>bg .bool 11 b) (fun q=>kpC R d x q) (fun q=>q=decide (d∈R.aW)) ?_ (fun q a=>?_);intro w ids M num;refine @al (0+R.aW.length<=R.aW.length/\law22.hZ (take R.aW.length R.aW,d,())/\(kpC R d x (decide (d∈take R.aW.length R.aW))).ag (decide (d∈take R.aW.length R.aW)=decide (d∈R.aW))) _ ?_ ?_;kernel_rfl;rw[aV];exact⟨aa,by show R.aW.length<_;omega,ao rfl⟩;cases q;have e:¬ d∈R.aW:=Odf a.symm;refine Ob.eQ (aq (ak F9) 2) ?_;refine Ob.gcd ca 1 (fun b=>cU iK 70 b) (fun q=>kpD R x q) (fun q=>q=R.aW++[d]) ?_ (fun q a=>?_);intro w ids M num;refine @al (0+1<=1/\R.aW.length<=R.aW.length/\(R.aW.length+1)*8<=140737488355328/\R.aW.length+1<=4611686018427387904/\(kpD R x (take R.aW.length R.aW++take 1 [d])).ag (take R.aW.length R.aW++take 1 [d]=R.aW++[d])) _ ?_ ?_;kernel_rfl;refine⟨ae,aE _,aa,aa,ao ?_⟩;rw[aV];rfl;subst a;refine Ob.gcd ca 1 (fun b=>cU .fr 127 b) (fun q=>kpE R (R.aW++[d]) q) (fun q=>q=R.shares++[x]) ?_ (fun q a=>?_);intro w ids M num;refine @al (0+1<=1/\R.shares.length<=R.shares.length/\(R.shares.length+1)*32<=140737488355328/\R.shares.length+1<=4611686018427387904/\(kpE R (R.aW++[d]) (take R.shares.length R.shares++take 1 [x])).ag (take R.shares.length R.shares++take 1 [x]=R.shares++[x])) _ ?_ ?_;kernel_rfl;refine⟨ae,aE _,aa,aa,ao ?_⟩;rw[aV];rfl;subst a;refine Ob.fk (E:=pR c k g f) (bl:=[lH R 1 2 3 4 5 R.deals.length R.faults.length R.proofs.length (R.aW.length+1) (R.shares.length+1) (bh++[.v (.int .i64 R.fault)]),[.row cl R.deals.length R.deals],[.row cu R.faults.length R.faults],[.row cz R.proofs.length R.proofs],[.ints .i64 (R.aW.length+1) (R.aW++[d])],[.row .fr (R.shares.length+1) (R.shares++[x])]]) [] [8,9,10,11,70,127] 9 kpZ ?_;refine Ob.g9 ca mixed (.tup []) ?_ ⟨(),trivial,Ob.a7 _,?_⟩;intro w ids M num;refine @al (SV.tup []=SV.tup []) _ ?_ ?_;kernel_rfl;rfl;show _=bw (eY R d x);unfold eY;rw[ah e];unfold bw dF lH;simp only[bb,bG,eG,bH];have e:d∈R.aW:=Odt a.symm;refine Ob.fk (E:=pR c k g f) (bl:=dF R (bh++[.v (.int .i64 R.fault)])) [] [8,9,10,11,12,13] 9 (kpN (av true)) ?_;refine Ob.gF ca mixed (.tup []) ?_ ⟨(),trivial,Ob.a7 _,?_⟩;intro w ids M num;refine @al ((true=true->SV.tup []=SV.tup [])/\(true=false->False)) _ ?_ ?_;kernel_rfl;exact⟨fun _=>rfl,fun h=>by cases h⟩;show _=bw (eY R d x);unfold eY;rw[aj e];rfl
theorem MH:Tryz.prog.underlying 78=some (.pointer 120):=ab
theorem gp:enters Tryz.prog 35 Tryz.f35:=ek
abbrev qW:Func:=Tryz.f35
def idZ (p:Nat):St:=ar qW.ntmps 8 [(0,aG p)] []
def idN:St:=ar qW.ntmps 8 [(2,.is (.one .F))] []
theorem oS:enters Tryz.prog 11 Tryz.f11:=ek
abbrev ui:Func:=Tryz.f11
def YD (p:Nat):St:=ar ui.ntmps 8 [(0,aG p)] []
def phY (p:Nat):St:=ar ui.ntmps 8 [(0,aG p),(3,aG p)] []
def phN (q:Int):St:=ar ui.ntmps 8 [(2,sI .i64 q)] []
def ait (R:Rt):St:=ar qW.ntmps 14 [(0,.is (.one (.ptr 8 0)))] (ig R (bh++[.v (.int .i64 R.fault)]))
def aiv (R:Rt):St:=ar qW.ntmps 14 [(0,.is (.one (.ptr 8 0))),(5,.is (.one .F)),(9,aG R.hub)] (ig R (bh++[.v (.int .i64 R.fault)]))
def aix (R:Rt):St:=ar qW.ntmps 14 [(2,.is (.one .F))] (ig R (bh++[.v (.int .i64 R.fault)]))
theorem zM (a:Nat->Option (Sigma aA)):Ob.dG Tryz.prog a 35 (fun R:Rt=>[aG R.p]) (fun _=>True) (fun R=>bw R) (fun _ (_:Unit)=>av false) (fun R _=>bw R) (fun _ _=>True):=by refine Ob.cA (sp:=xV) gp ab (fun z=>by show 1<=qW.ntmps;exact Odt ab) (fun z _=>rfl) ?_;intro R _ d c b;unfold bw;refine Ob.ee ca 1 (idZ R.p) ?_;refine Ob.dB 1 (bo (aq (ak qW) 1)) ?_;refine Ob.sK (E:=pR a d c b) [0] ab (ait R) (aw ab ab trivial) ?_;refine Ob.c7 ca 7 (aiv R) ?_;refine Ob.gK (Ob.ft (E:=(pR a d c b).pinned 8 R.p) (sv:=fun _:Unit=>.is (.one .F)) (G2:=fun _=>Ob.ai.none) (J:=fun _=>True) ab ?_) (fun _ _=>?_);rw[show Ob.jo (bo (aq (ak qW) 1)) 7=.binOp .eql 78 (.tmp 9) (.const (.pointer none)) 78 from by kernel_rfl];exact Ob.xi (p:=R.hub) MH ab ab;refine Ob.c7 ca 10 (aix R) (Ob.dv ?_);refine Ob.fk (E:=pR a d c b) (bl:=dF R (bh++[.v (.int .i64 R.fault)])) [] [8,9,10,11,12,13] 9 idN ?_;exact Ob.pM ca (.is (.one .F)) ⟨(),trivial,Ob.q9,rfl⟩
def aiN (R:Rt):St:=ar ui.ntmps 14 [(0,.is (.one (.ptr 8 0)))] (ig R (bh++[.v (.int .i64 R.fault)]))
def aiP (R:Rt) (q:Int):St:=ar ui.ntmps 14 [(2,sI .i64 q)] (ig R (bh++[.v (.int .i64 R.fault)]))
theorem Jl (a:Nat->Option (Sigma aA)):Ob.dG Tryz.prog a 11 (fun R:Rt=>[aG R.p]) (fun _=>True) (fun R=>bw R) (fun R (_:Unit)=>sI .i64 R.phase) (fun R _=>bw R) (fun _ _=>True):=by refine Ob.cA (sp:=xV) oS ab (fun z=>by show 1<=ui.ntmps;exact Odt ab) (fun z _=>rfl) ?_;intro R _ d c b;refine Ob.ee ca 1 (YD R.p) ?_;refine Ob.dB 1 (bo (aq (ak ui) 1)) ?_;refine Ob.c7 ca 1 (phY R.p) ?_;refine Ob.gz (E:=pR a d c b) (zM a) R trivial gp (fun _ _=>?_);refine Ob.dv ?_;refine Ob.eQ (aq (ak ui) 2) ?_;refine Ob.gA (YD R.p) ?_;unfold bw;refine Ob.gZ [0] (aiN R) ?_;refine Ob.ee ca 1 (aiP R R.phase) ?_;refine Ob.fk (E:=pR a d c b) (bl:=dF R (bh++[.v (.int .i64 R.fault)])) [] [8,9,10,11,12,13] 9 (phN R.phase) ?_;exact Ob.pM ca (sI .i64 R.phase) ⟨(),trivial,Ob.a7 _,rfl⟩
def ais (R:Rt) (e:List Int × List Pt × Fr × List Int):St:=ar qW.ntmps 14 [(0,.is (.one (.ptr 8 0)))] (ig R (kG e++[.v (.int .i64 R.fault)]))
def aiu (R:Rt) (e:List Int × List Pt × Fr × List Int):St:=ar qW.ntmps 14 [(0,.is (.one (.ptr 8 0))),(5,.is (.one .F)),(9,aG R.hub)] (ig R (kG e++[.v (.int .i64 R.fault)]))
def aiw (R:Rt) (e:List Int × List Pt × Fr × List Int):St:=ar qW.ntmps 14 [(2,.is (.one .F))] (ig R (kG e++[.v (.int .i64 R.fault)]))
theorem EI (a:Nat->Option (Sigma aA)) (e:List Int × List Pt × Fr × List Int):Ob.dG Tryz.prog a 35 (fun R:Rt=>[aG R.p]) (fun _=>True) (fun R=>pQ R e) (fun _ (_:Unit)=>av false) (fun R _=>pQ R e) (fun _ _=>True):=by refine Ob.cA (sp:=xV) gp ab (fun z=>by show 1<=qW.ntmps;exact Odt ab) (fun z _=>rfl) ?_;intro R _ d c b;unfold pQ;refine Ob.ee ca 1 (idZ R.p) ?_;refine Ob.dB 1 (bo (aq (ak qW) 1)) ?_;refine Ob.sK (E:=pR a d c b) [0] ab (ais R e) (aw ab ab trivial) ?_;refine Ob.c7 ca 7 (aiu R e) ?_;refine Ob.gK (Ob.ft (E:=(pR a d c b).pinned 8 R.p) (sv:=fun _:Unit=>.is (.one .F)) (G2:=fun _=>Ob.ai.none) (J:=fun _=>True) ab ?_) (fun _ _=>?_);rw[show Ob.jo (bo (aq (ak qW) 1)) 7=.binOp .eql 78 (.tmp 9) (.const (.pointer none)) 78 from by kernel_rfl];exact Ob.xi (p:=R.hub) MH ab ab;refine Ob.c7 ca 10 (aiw R e) (Ob.dv ?_);refine Ob.fk (E:=pR a d c b) (bl:=dF R (kG e++[.v (.int .i64 R.fault)])) [] [8,9,10,11,12,13] 9 idN ?_;exact Ob.pM ca (.is (.one .F)) ⟨(),trivial,Ob.q9,rfl⟩
def aiM (R:Rt) (e:List Int × List Pt × Fr × List Int):St:=ar ui.ntmps 14 [(0,.is (.one (.ptr 8 0)))] (ig R (kG e++[.v (.int .i64 R.fault)]))
def aiO (R:Rt) (e:List Int × List Pt × Fr × List Int) (q:Int):St:=ar ui.ntmps 14 [(2,sI .i64 q)] (ig R (kG e++[.v (.int .i64 R.fault)]))
theorem Tu (a:Nat->Option (Sigma aA)) (e:List Int × List Pt × Fr × List Int):Ob.dG Tryz.prog a 11 (fun R:Rt=>[aG R.p]) (fun _=>True) (fun R=>pQ R e) (fun R (_:Unit)=>sI .i64 R.phase) (fun R _=>pQ R e) (fun _ _=>True):=by refine Ob.cA (sp:=xV) oS ab (fun z=>by show 1<=ui.ntmps;exact Odt ab) (fun z _=>rfl) ?_;intro R _ d c b;refine Ob.ee ca 1 (YD R.p) ?_;refine Ob.dB 1 (bo (aq (ak ui) 1)) ?_;refine Ob.c7 ca 1 (phY R.p) ?_;refine Ob.gz (E:=pR a d c b) (EI a e) R trivial gp (fun _ _=>?_);refine Ob.dv ?_;refine Ob.eQ (aq (ak ui) 2) ?_;refine Ob.gA (YD R.p) ?_;unfold pQ;refine Ob.gZ [0] (aiM R e) ?_;refine Ob.ee ca 1 (aiO R e R.phase) ?_;refine Ob.fk (E:=pR a d c b) (bl:=dF R (kG e++[.v (.int .i64 R.fault)])) [] [8,9,10,11,12,13] 9 (phN R.phase) ?_;exact Ob.pM ca (sI .i64 R.phase) ⟨(),trivial,Ob.a7 _,rfl⟩
end rite
end Go.Proofs.YtofofalgjibokaaGreatDoor
namespace Go.Eng
open Go.IntKind(i64)
open Go.IntKind(i64 u64)
open Go.IntKind(i64 u8)
open Go.IntKind(u8)
def ajc (id:Nat) (b:St):Option Nat:=match b.B id with
 | some a=>match a.getLast? with
  | some (.sl _ _ _ n _)=>some n
  | some (.v (.slice none 0 0))=>some 0
  | _=>none
 | _=>none
def rdT (id:Nat) (a:St):Nat:=Jm 0 (ajc id a)
def ajb (d id:Nat) (b:St):Nat:=match b.B id with
 | some a=>match a.getLast? with
  | some (.sl i _ _ _ _)=>i
  | _=>d
 | _=>d
end Go.Eng
namespace Go.Proofs.YtofofalgjibokaaGreatDoor
namespace rite
open Go.IntKind(i64)
open Go.IntKind(i64 u64)
open Go.IntKind(i64 u8)
open Go.IntKind(u8)
set_option maxHeartbeats 4000000
open hub deal
abbrev cH:Kd:=.pair iK km
def dN (ms:List Hbm.aC):List (Int × Hbm.aC):=ms.map fun m=>(0,(m.1,0,m.2.2))
abbrev fg:SV:=.is (.one (.v (.slice none 0 0)))
theorem ZB:enters Tryz.prog 48 Tryz.f48:=ek
abbrev alF:Func:=Tryz.f48
def alA (ms:List Hbm.aC):St:=ar alF.ntmps 8 [(3,fg),(6,.is (.one (.ro km ms))),(7,sI .i64 ms.length),(8,sI .i64 0)] []
def XO (ms:List Hbm.aC) (g:Int × Nat × List (Int × Hbm.aC)):St:=ar alF.ntmps 9 [(3,.is (.one (.sl 8 0 0 g.2.1 8))),(6,.is (.one (.ro km ms))),(7,sI .i64 ms.length),(8,sI .i64 g.1)] [(8,[.row cH g.2.1 g.2.2])]
theorem acu:aL Tryz.prog 48 [.sl km] [.own cH] bx (fun (ms,_)=>length ms<1048576) (fun (ms,_)=>(dN ms,())):=by
 have j:aD Tryz.prog (aP []):=bp;refine bI (sp:=aP []) ZB ae ae ab ?_;rintro w p ⟨ms,⟨⟩⟩;revert ms;intro (ms:List Hbm.aC) _ o;have o:ms.length<1048576:=o;show Tr _ _ _ _ _ _ _;refine bd j mixed 3 (alA ms) True ?_ (fun _=>?_);refine al (X:=((alA ms).ag True)) ab ?_;exact ao trivial;refine Ob.Ar 3 8 (.row cH 0 []) ab ?_;refine cd j mixed (fun d=>[(8,Mg 3 d)]) (fun d=>(bg iK 8 d,ou 3 d,cU cH 8 d)) (XO ms) (fun g=>∃ k:Nat,k<=ms.length/\g.1=(k:Int)/\g.2.1=k/\g.2.2=dN (ms.take k)) (fun g=>ms.length-g.1.toNat)
  (fun d=>(bg iK 8 d,ou 3 d,cU cH 8 d)) (XO ms) (fun g=>g.2.1=ms.length/\g.2.2=dN ms) (0,0,[]) (c:=aq (ak alF) 3) ab ab (aw ab ab ?_) ?_ ?_
 exact⟨0,a2 _,rfl,rfl,rfl⟩
 ·rintro⟨i,n,l⟩ q;revert i n l;intro (i:Int) (n:Nat) (l:List (Int × Hbm.aC)) ⟨k,r,m,e,a⟩;have m:i=(k:Int):=m;have e:n=k:=e;subst e;subst m;refine @al ((decide ((n:Int)<(ms.length:Int))=true->(0<=(n:Int)/\(n:Int)<(ms.length:Int))/\(n:Int).toNat<ms.length/\0+1<=1/\n<=n/\(n+1)*80<=140737488355328/\n+1<=4611686018427387904/\(XO ms (i64.wrap ((n:Int)+1),n+1,take n l++take 1 [(0,(ms.getD (n:Int).toNat (0,0,0,0,0,0,[])).fst,0,(ms.getD (n:Int).toNat (0,0,0,0,0,0,[])).snd.snd)])).ag ((∃ k,k<=ms.length/\i64.wrap ((n:Int)+1)=(k:Int)/\n+1=k/\take n l++take 1 [(0,(ms.getD (n:Int).toNat (0,0,0,0,0,0,[])).fst,0,(ms.getD (n:Int).toNat (0,0,0,0,0,0,[])).snd.snd)]=dN (take k ms))/\ms.length-(i64.wrap ((n:Int)+1)).toNat<ms.length-(n:Int).toNat))/\(decide ((n:Int)<(ms.length:Int))=false->(XO ms ((n:Int),n,l)).ag (n=ms.length/\l=dN ms))) _ ?_ ?_;kernel_rfl;have a:l=dN (ms.take n):=a;have f:l.length=n:=by rw[a,dN,bU,cX];omega
  rw[aB,show take n l=l from by rw[<- f,aV]];refine⟨fun h=>?_,fun h=>ao ?_⟩
  ·have b:n<ms.length:=by have:=dec_lt h;omega
   rw[aS aa];refine⟨⟨aa,aa⟩,b,ae,aE _,aa,aa,ao ⟨⟨n+1,b,rfl,rfl,?_⟩,by rw[aB];omega⟩⟩;rw[a,cr b,dN,dN,de,aX,bz b];rfl
  ·have:n=ms.length:=by have:=bW h;omega
   rw[this,aV] at a;exact⟨this,a⟩
 ·rintro⟨i,n,l⟩ s;revert i n l;intro (i:Int) (n:Nat) (l:List (Int × Hbm.aC)) ⟨e,a⟩;have e:n=ms.length:=e;have a:l=dN ms:=a;have f:l.length=n:=by rw[a,e,dN,bU]
  refine bE j mixed _ _ ?_;refine @al (0+n<=n/\(take n l,())=(dN ms,())) _ ?_ ?_;kernel_rfl;rw[show take n l=l from by rw[<- f,aV],a];exact⟨aa,rfl⟩
def RB:Nat × Eng.Spec:=(48,aH [.sl km] [.val (.sl cH)] (fun (ms,_)=>length ms<1048576) (fun (ms,_)=>(dN ms,())))
theorem aee:nI Tryz.prog RB.1 RB.2:=aM acu.AE
def tZ (t:Hbm.Told):Int × List Int:=(t.2.1,t.2.2)
theorem Sk:enters Tryz.prog 83 Tryz.f83:=ek
abbrev ftF:Func:=Tryz.f83
def ftA (bO:Int) (b:List Int):St:=ar ftF.ntmps 41 [(2,.is (.one (.ptr 8 0))),(3,.is (.one (.ptr 40 0))),(10,.is (.one (.ro (.int .u8) b))),(11,sI .i64 b.length),(12,sI .i64 0)] [(8,[.v (.int .i64 0),.v (.slice none 0 0)]),(40,[.v (.int .i64 bO),.v (.slice none 0 0)])]
def Ya (bO:Int) (b:List Int) (g:Int × Nat × List Int):St:=ar ftF.ntmps 42 [(2,.is (.one (.ptr 8 0))),(3,.is (.one (.ptr 40 0))),(10,.is (.one (.ro (.int .u8) b))),(11,sI .i64 b.length),(12,sI .i64 g.1)] [(8,[.v (.int .i64 0),.v (.slice none 0 0)]),(40,[.v (.int .i64 bO),.sl 41 0 0 g.2.1 1]),(41,[.ints .i64 g.2.1 g.2.2])]
theorem VL:aL Tryz.prog 83 [fx] [.val cu] bx (fun (t,_)=>length t.2.2<1048576/\Bs t.2.2) (fun (t,_)=>(tZ t,())):=by
 have j:aD Tryz.prog (aP []):=bp;refine bI (sp:=aP []) Sk ae ae ab ?_;rintro w x ⟨⟨q,bO,b⟩,⟨⟩⟩;revert q bO b;intro (q:Int) (bO:Int) (b:List Int) _ ⟨r,o⟩;have r:b.length<1048576:=r;have o:Bs b:=o;show Tr _ _ _ _ _ _ _;refine bd j mixed 3 (ftA bO b) True ?_ (fun _=>?_);refine al (X:=((ftA bO b).ag True)) ab ?_;exact ao trivial;refine Ob.PI 40 (.ints .i64 0 []) [.v (.int .i64 bO),.v (.slice none 0 0)] [.v (.int .i64 bO),.sl 41 0 0 0 1] ab au (fun I H u=>?_) ?_;obtain⟨D,E,rfl,s,F,G,rfl,⟨rfl,_⟩,rfl⟩:=u;exact⟨_,_,rfl,s,_,_,rfl,.inl ⟨rfl,rfl⟩,rfl⟩;refine cd j mixed (fun e=>[(41,ajb 41 40 e)]) (fun e=>(bg iK 12 e,rdT 40 e,cU iK 41 e)) (Ya bO b) (fun g=>∃ k:Nat,k<=b.length/\g.1=(k:Int)/\g.2.1=k/\g.2.2=b.take k) (fun g=>b.length-g.1.toNat)
  (fun e=>(bg iK 12 e,rdT 40 e,cU iK 41 e)) (Ya bO b) (fun g=>g.2.1=b.length/\g.2.2=b) (0,0,[]) (c:=aq (ak ftF) 3) ab ab (aw ab ab ?_) ?_ ?_
 exact⟨0,a2 _,rfl,rfl,rfl⟩
 ·rintro⟨i,n,l⟩ y;revert i n l;intro (i:Int) (n:Nat) (l:List Int) ⟨k,z,m,f,a⟩;have m:i=(k:Int):=m;have f:n=k:=f;subst f;subst m;refine @al ((decide ((n:Int)<(b.length:Int))=true->(0<=(n:Int)/\(n:Int)<(b.length:Int))/\(n:Int).toNat<b.length/\0+1<=1/\n<=n/\(n+1)*8<=140737488355328/\n+1<=4611686018427387904/\(Ya bO b (i64.wrap ((n:Int)+1),n+1,take n l++take 1 [i64.wrap (b.getD (n:Int).toNat 0)])).ag ((∃ k,k<=b.length/\i64.wrap ((n:Int)+1)=(k:Int)/\n+1=k/\take n l++take 1 [i64.wrap (b.getD (n:Int).toNat 0)]=take k b)/\b.length-(i64.wrap ((n:Int)+1)).toNat<b.length-(n:Int).toNat))/\(decide ((n:Int)<(b.length:Int))=false->(Ya bO b ((n:Int),n,l)).ag (n=b.length/\l=b))) _ ?_ ?_;kernel_rfl;have a:l=b.take n:=a;have p:l.length=n:=by rw[a,cX];omega
  rw[aB,show take n l=l from by rw[<- p,aV]];refine⟨fun h=>?_,fun h=>ao ?_⟩
  ·have d:n<b.length:=by have:=dec_lt h;omega
   rw[aS aa];refine⟨⟨aa,aa⟩,d,ae,aE _,aa,aa,ao ⟨⟨n+1,d,rfl,rfl,?_⟩,by rw[aB];omega⟩⟩;have C:=o _ (dx d);rw[a,cr d,aX,bz d,ct,ba aa aa];rfl
  ·have:n=b.length:=by have:=bW h;omega
   rw[this,aV] at a;exact⟨this,a⟩
 rintro⟨i,n,l⟩ A;revert i n l;intro (i:Int) (n:Nat) (l:List Int) ⟨f,a⟩;have f:n=b.length:=f;have a:l=b:=a;refine bE j mixed _ _ ?_;refine @al (0+n<=n/\((bO,take n l),())=(tZ (q,bO,b),())) _ ?_ ?_;kernel_rfl;rw[show take n l=l from by rw[a,f,aV],a];exact⟨aa,rfl⟩
def abq:Nat × Eng.Spec:=(83,aH [fx] [.val cu] (fun (t,_)=>length t.2.2<1048576/\Bs t.2.2) (fun (t,_)=>(tZ t,())))
end rite
namespace fr
open Go.IntKind(i64)
open Go.IntKind(i64 u64)
open Go.IntKind(i64 u8)
open Go.IntKind(u8)
theorem vw:enters Tryz.prog 44 Tryz.f44:=ek
def Cq (a:List Int):Fr × Int:=if a.length=32 then (if num a<Mr then (zm (num a),0) else (0,12)) else (0,10)
abbrev iH:HL [.sl (.int .u8)]->HO [.val .fr,.val (.int .i64)]:=fun (a,_)=>((Cq a).1,(Cq a).2,())
theorem va:aL Tryz.prog 44 [.sl (.int .u8)] [.val .fr,.val (.int .i64)] bx (fun (a,_)=>Bs a) iH:=by
 refine a8 (sp:=aP [yW,pd,re,tb,iI]) (aJ (aM zu) (aJ (aM nr) (aJ (aM oT) (aJ (aM sH) (aJ (aM gV) bp))))) mixed vw ae ae ?_;rintro w k ⟨a,⟨⟩⟩ _ d;have d:Bs a:=d
 refine al (X:=(((((a.length:Int) != 32)=true->(((0:Fr),10,())=iH (a,()))) /\
  (((a.length:Int) != 32)=false->o7 (a,())/\True/\n9 (aT 4 (num a),ms,()) /\
   ((((if val (aT 4 (num a))<val ms then (1:Int) else 0)==0)=true->(((0:Fr),(12:Int),())=iH (a,()))) /\
    (((if val (aT 4 (num a))<val ms then (1:Int) else 0)==0)=false->True/\dA (enc (R2:Fr),aT 4 (num a),())/\Canon Mr (aT 4 (val (enc (R2:Fr))*val (aT 4 (num a))*rinv%M))/\((dec (aT 4 (val (enc (R2:Fr))*val (aT 4 (num a))*rinv%M)),(0:Int),())=iH (a,())))))))) ab ?_
 refine⟨fun h=>?_,fun h=>?_⟩
 ·have:¬ a.length=32:=by intro e;rw[e] at h;exact absurd h ae
  simp[iH,Cq,this]
 ·have g:a.length=32:=by
   have:¬ ((a.length:Int)≠32):=by simpa using h
   omega
  have b:=Cc d;rw[g] at b;have j:bC 32=pw 4:=vS 4;have i:val (aT 4 (num a))=num a:=sc b.1 (by rw[<- j];exact b.2);refine⟨⟨d,by show length a<=32;omega⟩,trivial,⟨jB _ _,pH⟩,fun h=>?_,fun h=>⟨trivial,⟨e5 _,jB _ _,(cC _).2.2⟩,?_⟩⟩
  ·rw[i,fX] at h;have:¬ num a<Mr:=by intro f;rw[aj f] at h;exact absurd h ae
   simp[iH,Cq,g,this]
  ·rw[i,fX] at h;have:num a<Mr:=Decidable.byContradiction fun f=>by rw[ah f] at h;exact absurd h ae
   rw[show aT 4 (val (enc (R2:Fr))*val (aT 4 (num a))*rinv%M)=enc (zm (val (aT 4 (num a))):Fr) from rb (M:=Mr),i];refine⟨cC _,?_⟩;rw[dM];simp[iH,Cq,g,this]
def ro (d:List Int):Fr × Int:=eS (Cq d)
theorem aai:aL Tryz.prog 44 [.sl (.int .u8)] [.val .fr,.val (.int .i64)] bx (fun (a,_)=>Bs a) (fun (a,_)=>((ro a).1,(ro a).2,())):=va.out fun (a,_)=>by show ((ro a).1,(ro a).2,())=((Cq a).1,(Cq a).2,());rw[ro,bf]
def Ug:Nat × Eng.Spec:=(44,aH [.sl (.int .u8)] [.val .fr,.val (.int .i64)] (fun (a,_)=>Bs a) (fun (a,_)=>((ro a).1,(ro a).2,())))
end fr
namespace rite
open Go.IntKind(i64)
open Go.IntKind(i64 u64)
open Go.IntKind(i64 u8)
open Go.IntKind(u8)
set_option maxHeartbeats 4000000
open Go.Proofs.YtofofalgjibokaaGreatDoor.hub Go.Proofs.YtofofalgjibokaaGreatDoor.deal
def Co (bO:Int) (b:List Int):List (Int × Int × Fr):=if (fr.ro ((b.drop 1).take 32)).2=0 then [(bO,b.getD 0 0,(fr.ro ((b.drop 1).take 32)).1)] else []
def pV (bO:Int):Nat->List Int->List (Int × Int × Fr)
 | 0,_=>[]
 | n+1,b=>Co bO b++pV bO n (b.drop 33)
def eW (t:Hbm.Told):List (Int × Int × Fr):=pV t.2.1 (t.2.2.length/33) t.2.2
theorem Js (bO:Int):∀ (n:Nat) (b:List Int),pV bO (n+1) b=pV bO n b++Co bO (b.drop (33*n))
 | 0,b=>by simp[pV]
 | n+1,b=>by rw[pV,Js bO n (b.drop 33),pV,fJ,cB];congr 4;omega
theorem Qm:enters Tryz.prog 84 Tryz.f84:=ek
abbrev pfF:Func:=Tryz.f84
abbrev Dz (t:Hbm.Told):List Cell:=[.v (.int .i64 t.1),.v (.int .i64 t.2.1),.ro (.int .u8) t.2.2]
def pfA (t:Hbm.Told):St:=ar pfF.ntmps 8 [(1,.is (.one (.ptr 0 0))),(3,fg),(4,.is (.one (.ro (.int .u8) t.2.2)))] [(0,Dz t)]
def TG (t:Hbm.Told) (g:List Int × Nat × List (Int × Int × Fr)):St:=ar pfF.ntmps 9 [(1,.is (.one (.ptr 0 0))),(3,.is (.one (.sl 8 0 0 g.2.1 6))),(4,.is (.one (.ro (.int .u8) g.1)))] [(0,Dz t),(8,[.row cz g.2.1 g.2.2])]
theorem SI:aL Tryz.prog 84 [fx] [.own cz] bx (fun (t,_)=>length t.2.2<1048576/\Bs t.2.2) (fun (t,_)=>(eW t,())):=by
 have j:aD Tryz.prog (aP [fr.Ug]):=aJ (aM fr.aai) bp;refine bI (sp:=aP [fr.Ug]) Qm ae ae ab ?_;rintro w D ⟨⟨a,bO,b⟩,⟨⟩⟩;revert a bO b;intro (a:Int) (bO:Int) (b:List Int) _ ⟨y,u⟩;have y:b.length<1048576:=y;have u:Bs b:=u;show Tr _ _ _ _ _ _ _;refine bd j mixed 3 (pfA (a,bO,b)) True ?_ (fun _=>?_);refine al (X:=((pfA (a,bO,b)).ag True)) ab ?_;exact ao trivial;refine Ob.Ar 3 6 (.row cz 0 []) ab ?_;refine cd j mixed (fun f=>[(8,Mg 3 f)]) (fun f=>(GB (.int .u8) 4 f,ou 3 f,cU cz 8 f)) (TG (a,bO,b)) (fun g=>∃ k:Nat,33*k<=b.length/\g.1=b.drop (33*k)/\g.2.1=g.2.2.length/\g.2.2=pV bO k b) (fun g=>g.1.length)
  (fun f=>(GB (.int .u8) 4 f,ou 3 f,cU cz 8 f)) (TG (a,bO,b)) (fun g=>g.2.1=g.2.2.length/\g.2.2=eW (a,bO,b)) (b,0,[]) (c:=aq (ak pfF) 3) ab ab (aw ab ab ?_) ?_ ?_
 exact⟨0,a2 _,rfl,rfl,rfl⟩
 ·rintro⟨c,n,l⟩ F;revert c n l;intro (c:List Int) (n:Nat) (l:List (Int × Int × Fr)) ⟨k,G,m,d,e⟩;have m:c=b.drop (33*k):=m;have d:n=l.length:=d;have e:l=pV bO k b:=e;have o:Bs c:=by rw[m];exact yb u _
  have z:c.length=b.length-33*k:=by rw[m,gm]
  have A:l.length<=k:=by
   rw[e];have:∀ (k:Nat) (b:List Int),(pV bO k b).length<=k:=by
    intro k;induction k with
    | zero=>intro b;exact aE _
    | succ k C =>
     intro b;rw[pV,bb];have E:=C (b.drop 33);have q:(Co bO b).length<=1:=by unfold Co;split<;>simp
     omega
   exact this k b
  have i:=Js bO k b;rw[<- m,<- e] at i;refine @al ((decide ((c.length:Int)>=33)=true->((0:Int)<=1/\(1:Int)<=33/\33<=(c.length:Int))/\Bs (take 32 (drop 1 c))/\(((fr.ro (take 32 (drop 1 c))).snd==0)=true->((0:Int)<=0/\0<(c.length:Int))/\0<c.length/\0+1<=1/\n<=n/\(n+1)*48<=140737488355328/\n+1<=4611686018427387904/\((0:Int)<=33/\33<=(c.length:Int))/\(TG (a,bO,b) (take ((c.length:Int)-33).toNat (drop 33 c),n+1,take n l++take 1 [(bO,IntKind.i64.wrap (c.getD 0 0),((fr.ro (take 32 (drop 1 c))).fst,(fr.ro (take 32 (drop 1 c))).snd,()).fst)])).ag ((∃ k,33*k<=b.length/\take ((c.length:Int)-33).toNat (drop 33 c)=drop (33*k) b/\n+1=(take n l++take 1 [(bO,IntKind.i64.wrap (c.getD 0 0),(fr.ro (take 32 (drop 1 c))).fst)]).length/\take n l++take 1 [(bO,IntKind.i64.wrap (c.getD 0 0),(fr.ro (take 32 (drop 1 c))).fst)]=pV bO k b)/\(take ((c.length:Int)-33).toNat (drop 33 c)).length<c.length))/\(((fr.ro (take 32 (drop 1 c))).snd==0)=false->((0:Int)<=33/\33<=(c.length:Int))/\(TG (a,bO,b) (take ((c.length:Int)-33).toNat (drop 33 c),n,l)).ag ((∃ k,33*k<=b.length/\take ((c.length:Int)-33).toNat (drop 33 c)=drop (33*k) b/\n=l.length/\l=pV bO k b)/\(take ((c.length:Int)-33).toNat (drop 33 c)).length<c.length)))/\(decide ((c.length:Int)>=33)=false->(TG (a,bO,b) (c,n,l)).ag (n=l.length/\l=eW (a,bO,b)))) _ ?_ ?_;kernel_rfl;rw[show take n l=l from by rw[d,aV]];refine⟨fun h=>?_,fun h=>ao ?_⟩
  ·have s:33<=c.length:=by have:=Odt h;omega
   have I:=o _ (dx (show 0<c.length by omega));have x:take ((c.length:Int)-33).toNat (drop 33 c)=b.drop (33*(k+1)):=by rw[bQ (by rw[gm];omega),m,fJ];congr 1
   have p:(take ((c.length:Int)-33).toNat (drop 33 c)).length<c.length:=by rw[cX,gm];omega
   refine⟨⟨aa,aa,aa⟩,CQ (yb o _) _,fun q=>?_,fun q=>?_⟩
   ·have r:(fr.ro ((c.drop 1).take 32)).2=0:=by simpa using q
    refine⟨⟨aa,aa⟩,aa,ae,aE _,aa,aa,⟨aa,aa⟩,ao ⟨⟨k+1,aa,x,?_,?_⟩,p⟩⟩;rw[bb,d];rfl;rw[i,Co,aj r,aX,bz (show 0<c.length by omega),ct,ba aa aa];rfl
   ·have r:¬ (fr.ro ((c.drop 1).take 32)).2=0:=by simpa using q
    refine⟨⟨aa,aa⟩,ao ⟨⟨k+1,aa,x,d,?_⟩,p⟩⟩;rw[i,Co,ah r,bq]
  ·refine⟨d,?_⟩;have s:c.length<33:=by have:=Odf h;omega
   rw[e,eW];congr 1;show k=b.length/33;omega
 rintro⟨c,n,l⟩ H;revert c n l;intro (c:List Int) (n:Nat) (l:List (Int × Int × Fr)) ⟨d,e⟩;have d:n=l.length:=d;have e:l=eW (a,bO,b):=e;refine bE j mixed _ _ ?_;refine @al (0+n<=n/\(take n l,())=(eW (a,bO,b),())) _ ?_ ?_;kernel_rfl;rw[show take n l=l from by rw[d,aV],e];exact⟨aa,rfl⟩
end rite
end Go.Proofs.YtofofalgjibokaaGreatDoor
namespace Go.Eng
open Go.IntKind(i64)
open Go.IntKind(i64 u64)
open Go.IntKind(i64 u8)
open Go.IntKind(u8)
theorem aL.ahR {P:Program} {f:FuncId} {a:List Kd} {e q:Kd} {G:gi} {pre:HL a->Prop} {F:HL a->HO [.own e,.val q]} (h:aL P f a [.own e,.val q] G pre F):aL P f a [.val (.sl e),.val q] G pre F:=by intro w M T t C A k N;refine (h w M T t C A k N).mono ?_;rintro v W ⟨V,Y,Q,⟨s,p,u,m,⟨U,i,x,z,y⟩⟩,E⟩;refine⟨V,none,Q,⟨s,p,u,?_,⟨U,i,x,Au (fun _ h=>c9 EL h) z,y⟩⟩,E⟩;show Rd (dq w.heap.size M none W) (.sl e) _ [s];rcases m with ⟨R,rfl⟩|⟨b,o,j,n,l,L,D,rfl,H,m,O,c,d⟩;exact .inl ⟨R,none,0,rfl,fun _=>rfl⟩;rcases m with rfl|rfl;have r:=fY (fun _ _=>bV) d;obtain⟨g,X,fr,I,_⟩:=c;refine .inr ⟨b,0,j,rfl,H,l++g,fun K=>?_,by rw[bb,r];omega,?_⟩;unfold dq;rw[ah au,aj D];exact kB I K;rw[gT,<- r,lr];exact eg (fun _ _ h=>c9 EL h) d;rfl;exact .inl ⟨dP aa,some ⟨b,o,none⟩,0,by rw[show (F t).1.length=0 by omega],fun h=>by cases h⟩
