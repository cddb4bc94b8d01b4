import Derived.Test.YtofofalgjibokaaGreatDoorMLrkPC
set_option maxRecDepth 100000
noncomputable section
open Go Go.Eng Go.RowKit Cr
open List(drop length mem_cons mem_map range replicate take)
open Nat(beq ble blt)
open Int(toNat)
namespace Go.Proofs.YtofofalgjibokaaGreatDoor
namespace poly
open Go.IntKind(i64)
theorem ZH:enters Tryz.prog 49 Tryz.f49:=ek
def HC (x:Int) (s:Fp × Fp):Fp × Fp:=if x<0 then g1.Cb (g1.sR s (jo x)) else g1.sR s (jo x)
def l6 (x:Int):List (Fp × Fp)->Fp × Fp
 | []=>(0,0)
 | p::l=>g1.oe (HC x (l6 x l)) p
abbrev CA:HL [.sl aQ,.int .i64]->Prop:=fun (c,x,_)=>length c<4611686018427387904/\fy x
abbrev L4:HL [.sl aQ,.int .i64]->HO [.val aQ]:=fun (c,x,_)=>(l6 x c,())
def Es (c:List (Fp × Fp)) (x:Int) (g:Int × (Fp × Fp)):St:=av Tryz.f49.ntmps 72 [(0,ag (.ro aQ c)),(1,sI .i64 x),(4,ao 0 0),(5,ag (.sl 16 0 0 (jo x).length 1)),(6,ao 32 0),(7,sI .i64 g.1)] [(0,g1.pc (0,0)),(16,[.ints .u8 (jo x).length (jo x)]),(32,g1.pc g.2)]
def U5 (c:List (Fp × Fp)) (x:Int) (g:Int × (Fp × Fp)):Prop:=∃ k:Nat,k<=c.length/\g.1=(k:Int)-1/\g.2=l6 x (c.drop k)
def ab4 (c:List (Fp × Fp)) (x:Int) (g:Int × (Fp × Fp)):Prop:=g.2=l6 x c
theorem N2 {x:Int} (b:fy x):Bs (jo x)/\(jo x).length<=8/\num (jo x)=e9 x:=by have a:=Ha b;have h:=KE a.1 (show e9 x<bG 8 from Int.lt_of_le_of_lt a.2 ae) 8 ae;refine⟨h.1,h.2.1,?_⟩;rw[show num (jo x)=e9 x/bG (8-8) from h.2.2];exact Int.ediv_one _
theorem SM:aO Tryz.prog 49 [.sl aQ,.int .i64] [.val aQ] bB CA L4:=by
 have a:aJ Tryz.prog (aU [vn,g1.Pv,g1.Y0,g1.Ki]):=(aM (aR sM) (aM (aR g1.V4) (aM (aR g1.ac8) (aM (aR g1.SW) bD))));refine bL (sp:=aU [vn,g1.Pv,g1.Y0,g1.Ki]) ZH ae ae ab ?_;rintro w A ⟨c,x,⟨⟩⟩;revert c x;intro (c:List (Fp × Fp)) (x:Int) _ z;obtain⟨q,r⟩:=z;have q:c.length<4611686018427387904:=q;show Tr _ _ _ _ _ _ _;obtain⟨t,C,D⟩:=N2 r;have u:i64.wrap ((c.length:Int)-1)=(c.length:Int)-1:=ba aa aa;refine bh a mixed 4 (Es c x (i64.wrap ((c.length:Int)-1),(0,0))) True ?_ (fun _=>?_);refine aq (X:=(qi (x,())/\(Es c x (i64.wrap ((c.length:Int)-1),(0:Fp),(0:Fp))).ah True)) ab ?_;exact⟨r,au trivial⟩;refine cl a mixed gO (fun f=>(bo (.int .i64) 7 f,p3 aQ 32 f)) (Es c x) (U5 c x) (fun g=>(g.1+1).toNat)
  (fun f=>(bo (.int .i64) 7 f,p3 aQ 32 f)) (Es c x) (ab4 c x) (i64.wrap ((c.length:Int)-1),(0,0)) (c:=ar (al Tryz.f49) 4) ab ab (ay ab ab ?_) ?_ ?_
 refine⟨c.length,aI _,u,?_⟩;show (0,0)=_;rw[oG];rfl
 ·rintro⟨i,s⟩ m;revert i s;intro (i:Int) (s:Fp × Fp) ⟨k,E,n,d⟩;have n:i=(k:Int)-1:=n;have d:s=l6 x (c.drop k):=d;refine aq (X:=((decide (i>=0)=true->0+(jo x).length<=(jo x).length/\g1.dB (s,take (jo x).length (jo x),())/\(decide (x<0)=true->True/\(0<=i/\i<(c.length:Int))/\i.toNat<c.length/\True/\(Es c x (i64.wrap (i-1),g1.oe (g1.Cb (g1.sR s (take (jo x).length (jo x)))) (c.getD i.toNat ((0:Fp),(0:Fp))))).ah (U5 c x (i64.wrap (i-1),g1.oe (g1.Cb (g1.sR s (take (jo x).length (jo x)))) (c.getD i.toNat ((0:Fp),(0:Fp))))/\toNat (i64.wrap (i-1)+(1:aH (Kd.int i64)))<toNat (i+(1:aH (Kd.int i64)))))/\(decide (x<0)=false->(0<=i/\i<(c.length:Int))/\i.toNat<c.length/\True/\(Es c x (i64.wrap (i-1),g1.oe (g1.sR s (take (jo x).length (jo x))) (c.getD i.toNat ((0:Fp),(0:Fp))))).ah (U5 c x (i64.wrap (i-1),g1.oe (g1.sR s (take (jo x).length (jo x))) (c.getD i.toNat ((0:Fp),(0:Fp))))/\toNat (i64.wrap (i-1)+(1:aH (Kd.int i64)))<toNat (i+(1:aH (Kd.int i64))))))/\(decide (i>=0)=false->(Es c x (i,s)).ah (ab4 c x (i,s))))) ab ?_;have pt:g1.dB (s,(jo x).take (jo x).length,()):=by rw[aT];exact⟨t,by show (jo x).length<_;omega⟩
  refine⟨fun h=>?_,fun h=>au ?_⟩
  ·have h:i>=0:=Odt h;have l:i=((k-1:Nat):Int):=aa;have e:k-1<c.length:=aa;have o:c.drop (k-1)=c[k-1]::c.drop k:=by
    rw[lW e,show k-1+1=k by omega]
   have y:c.getD i.toNat (0,0)=c[k-1]:=by rw[l,aF,a2,bu e,cx]
   have j:i64.wrap (i-1)=i-1:=ba aa aa;rw[j,y];rw[aT] at pt ⊢;refine⟨aa,pt,fun b=>⟨trivial,⟨h,aa⟩,aa,trivial,au ⟨⟨k-1,aa,by show i-1=_;omega,?_⟩,by show (i-1+1).toNat<(i+1).toNat;omega⟩⟩,fun b=>⟨⟨h,aa⟩,aa,trivial,au ⟨⟨k-1,aa,by show i-1=_;omega,?_⟩,by show (i-1+1).toNat<(i+1).toNat;omega⟩⟩⟩;show g1.oe _ _=l6 x (c.drop (k-1));rw[o,l6,HC,ak (Odt b),d];show g1.oe _ _=l6 x (c.drop (k-1));rw[o,l6,HC,ai (Odf b),d]
  have h:¬ i>=0:=Odf h;have:k=0:=aa;subst this;exact d
 rintro⟨i,s⟩ m;revert i s;intro (i:Int) (s:Fp × Fp) (m:s=l6 x c);refine bJ a mixed _ _ ?_;refine aq (X:=((s,())=L4 (c,x,()))) ab ?_;rw[m]
def RK:Nat × Eng.Spec:=(49,aK [.sl aQ,.int .i64] [.val aQ] CA L4)
theorem Vn:enters Tryz.prog 21 Tryz.f21:=ek
def HQ (c:List (Fp × Fp)) (x:Int) (s:Fr):Bool:=decide (g1.cZ g1.gG s=l6 x c)
abbrev vk:HL [.sl aQ,.int .i64,.fr]->Prop:=fun (c,x,_,_)=>length c<4611686018427387904/\fy x
abbrev O3:HL [.sl aQ,.int .i64,.fr]->HO [.val .bool]:=fun (c,x,s,_)=>(HQ c x s,())
theorem Z2:aO Tryz.prog 21 [.sl aQ,.int .i64,.fr] [.val .bool] bB vk O3:=by refine bg (sp:=aU [g1.Kj,g1.DC,RK]) (aM (aR g1.K9) (aM (aR g1.FY) (aM (aR SM) bD))) mixed Vn ae ae ?_;rintro w b ⟨c,x,s,⟨⟩⟩;revert c x s;intro (c:List (Fp × Fp)) (x:Int) (s:Fr) _ a;refine aq (X:=(True/\True/\CA (c,x,())/\(jI (Kd.fp.pair Kd.fp) (g1.cZ g1.gG s) (l6 x c),())=O3 (c,x,s,()))) ab ?_;rw[eqP];exact⟨trivial,trivial,a,rfl⟩
theorem vB:enters Tryz.prog 115 Tryz.f115:=ek
def EY (c d:List (Fp × Fp)) (k i:Nat):Fp × Fp:=if i<k then g1.oe (c.getD i (0,0)) (d.getD i (0,0)) else c.getD i (0,0)
def jN (c d:List (Fp × Fp)) (k:Nat):List (Fp × Fp):=(range (max c.length d.length)).map (EY c d k)
def ik (c d:List (Fp × Fp)):List (Fp × Fp):=jN c d d.length
theorem Rf {c d:List (Fp × Fp)} {k:Nat} (h:k<d.length):(jN c d k).set k (g1.oe ((jN c d k).getD k (0,0)) (d.getD k (0,0)))=jN c d (k+1):=by
 have b:k<max c.length d.length:=aa;have a:(jN c d k).getD k (0,0)=c.getD k (0,0):=by simp[jN,EY,b]
 rw[a];refine mW (by simp[jN]) fun i f g=>?_;rw[List.getElem_set];split;rename_i e;subst e;simp[jN,EY];rename_i e;have:(i<k)↔(i<k+1):=aa;simp[jN,EY,this]
abbrev Dt:HL [.sl aQ,.sl aQ]->Prop:=fun (c,d,_)=>length c<1048576/\length d<1048576
abbrev mP:HL [.sl aQ,.sl aQ]->HO [.own aQ]:=fun (c,d,_)=>(ik c d,())
def Pa (d:List (Fp × Fp)) (m:Nat) (g:Int × List (Fp × Fp)):St:=av Tryz.f115.ntmps 112 [(5,ag (.sl 48 0 0 m 12)),(17,ag (.ro aQ d)),(18,sI .i64 d.length),(19,sI .i64 g.1)] [(48,[.row aQ m g.2])]
def plJ (c d:List (Fp × Fp)) (g:Int × List (Fp × Fp)):Prop:=∃ k:Nat,k<=d.length/\g.1=(k:Int)/\g.2=jN c d k
def plO (c d:List (Fp × Fp)) (g:Int × List (Fp × Fp)):Prop:=g.2=ik c d
theorem afX (c d:List (Fp × Fp)):take (Nat.min c.length (max c.length d.length)) c++drop (Nat.min c.length (max c.length d.length)) (replicate (max c.length d.length) ((0:Fp),(0:Fp)))=jN c d 0:=by have e:Nat.min c.length (max c.length d.length)=c.length:=iU aa;rw[e,aT,List.drop_replicate];refine mW (by simp[jN];omega) fun i b f=>?_;simp only[jN,EY,wS,Bq,wW,dQ];by_cases a:i<c.length;rw[List.getElem_append_left a];simp[a];rw[List.getElem_append_right aa];simp[a]
theorem sN:aO Tryz.prog 115 [.sl aQ,.sl aQ] [.own aQ] bB Dt mP:=by
 have b:aJ Tryz.prog (aU [g1.Ki]):=(aM (aR g1.SW) bD);refine bL (sp:=aU [g1.Ki]) vB ae ae ab ?_;rintro w u ⟨c,d,⟨⟩⟩;revert c d;intro (c:List (Fp × Fp)) (d:List (Fp × Fp)) _ t;obtain⟨q,j⟩:=t;have q:c.length<1048576:=q;have j:d.length<1048576:=j;show Tr _ _ _ _ _ _ _;have o:(if (d.length:Int)>(c.length:Int) then (d.length:Int) else (c.length:Int))=((max c.length d.length:Nat):Int):=by split<;>omega
 refine jQ b mixed 4 (fun e=>cT aQ 48 e) (fun l=>Pa d (if (d.length:Int)>(c.length:Int) then (d.length:Int) else (c.length:Int)).toNat (0,l)) (fun l=>l=jN c d 0) ?_ ?_;refine aq (X:=(((0<=if (d.length:Int)>(c.length:Int) then (d.length:Int) else (c.length:Int))/\((if (d.length:Int)>(c.length:Int) then (d.length:Int) else (c.length:Int))<=if (d.length:Int)>(c.length:Int) then (d.length:Int) else (c.length:Int))/\((↑(96:Nat):Int)*if (d.length:Int)>(c.length:Int) then (d.length:Int) else (c.length:Int))<=281474976710656/\(if (d.length:Int)>(c.length:Int) then (d.length:Int) else (c.length:Int))<=9223372036854775807)/\0+(if (d.length:Int)>(c.length:Int) then (d.length:Int) else (c.length:Int)).toNat<=(if (d.length:Int)>(c.length:Int) then (d.length:Int) else (c.length:Int)).toNat/\(Pa d (if (d.length:Int)>(c.length:Int) then (d.length:Int) else (c.length:Int)).toNat (0,take 0 (replicate (if (d.length:Int)>(c.length:Int) then (d.length:Int) else (c.length:Int)).toNat ((0:Fp),(0:Fp)))++(take (c.length.min (if (d.length:Int)>(c.length:Int) then (d.length:Int) else (c.length:Int)).toNat) c++drop (0+c.length.min (if (d.length:Int)>(c.length:Int) then (d.length:Int) else (c.length:Int)).toNat) (replicate (if (d.length:Int)>(c.length:Int) then (d.length:Int) else (c.length:Int)).toNat ((0:Fp),(0:Fp)))))).ah (take 0 (replicate (if (d.length:Int)>(c.length:Int) then (d.length:Int) else (c.length:Int)).toNat ((0:Fp),(0:Fp)))++(take (c.length.min (if (d.length:Int)>(c.length:Int) then (d.length:Int) else (c.length:Int)).toNat) c++drop (0+c.length.min (if (d.length:Int)>(c.length:Int) then (d.length:Int) else (c.length:Int)).toNat) (replicate (if (d.length:Int)>(c.length:Int) then (d.length:Int) else (c.length:Int)).toNat ((0:Fp),(0:Fp))))=jN c d 0))) ab ?_;rw[o,aF];refine⟨⟨aa,aa,aa,aa⟩,aa,au ?_⟩;rw[tR,dG,bO];exact afX c d;rintro l rfl;rw[o,aF];refine cl b mixed gO (fun e=>(bo (.int .i64) 19 e,cT aQ 48 e)) (Pa d (max c.length d.length)) (plJ c d) (fun g=>d.length-g.1.toNat)
  (fun e=>(bo (.int .i64) 19 e,cT aQ 48 e)) (Pa d (max c.length d.length)) (plO c d) (0,jN c d 0) (c:=ar (al Tryz.f115) 4) ab ab (ay ab ab ?_) ?_ ?_
 exact⟨0,a8 _,rfl,rfl⟩
 ·rintro⟨i,l⟩ n;revert i l;intro (i:Int) (l:List (Fp × Fp)) ⟨k,x,m,r⟩;have m:i=(k:Int):=m;have kl:l=jN c d k:=r;subst m;generalize s:max c.length d.length=f at *;refine aq (X:=((decide ((k:Int)<(d.length:Int))=true->(0<=(k:Int)/\(k:Int)<(d.length:Int))/\(k:Int).toNat<d.length/\(0<=(k:Int)/\(k:Int)<(f:Int))/\(k:Int).toNat<f/\True/\(0<=(k:Int)/\(k:Int)<(f:Int))/\(k:Int).toNat<f/\(Pa d f (i64.wrap ((k:Int)+1),l.set (k:Int).toNat (g1.oe (l.getD (k:Int).toNat ((0:Fp),(0:Fp))) (d.getD (k:Int).toNat ((0:Fp),(0:Fp)))))).ah (plJ c d (i64.wrap ((k:Int)+1),l.set (k:Int).toNat (g1.oe (l.getD (k:Int).toNat ((0:Fp),(0:Fp))) (d.getD (k:Int).toNat ((0:Fp),(0:Fp)))))/\d.length-(i64.wrap ((k:Int)+1)).toNat<d.length-(k:Int).toNat))/\(decide ((k:Int)<(d.length:Int))=false->(Pa d f ((k:Int),l)).ah (plO c d ((k:Int),l))))) ab ?_;rw[aF];refine⟨fun h=>?_,fun h=>au ?_⟩
  ·have a:k<d.length:=by have:=dec_lt h;omega
   rw[aS aa];refine⟨⟨aa,aa⟩,a,⟨aa,aa⟩,aa,trivial,⟨aa,aa⟩,aa,au ⟨⟨k+1,a,rfl,?_⟩,?_⟩⟩;show l.set k _=_;rw[kl,Rf a];show d.length-((k+1:Nat):Int).toNat<d.length-(k:Int).toNat;rw[aF,aF];omega
  ·have:k=d.length:=by have:=bX h;omega
   show l=ik c d;rw[kl,this];rfl
 rintro⟨i,l⟩ n;revert i l;intro (i:Int) (l:List (Fp × Fp)) (n:l=ik c d);refine bJ b mixed _ _ ?_;refine aq (X:=(0+max c.length d.length<=max c.length d.length/\(take (max c.length d.length) l,())=mP (c,d,()))) ab ?_;refine⟨aa,?_⟩;show (_,())=(ik c d,());rw[n,bW (by simp[ik,jN])]
def uv:Nat × Eng.Spec:=(115,aK [.sl aQ,.sl aQ] [.own aQ] Dt mP)
theorem Np:enters Tryz.prog 157 Tryz.f157:=ek
def ra (seen:List Int):List Int->Int
 | []=>0
 | x::a=>if x<1\/x>9 then 34 else if x∈seen then 33 else ra (x::seen) a
def wA (a:List Int) (x:Int):Fr:=eR (wgt (a.map fun y=>(zm y:Fr)) (zm x))
def p9 (a:List Int):List Fr:=if ra [] a=0 then a.map (wA a) else []
abbrev Ak:HL [.sl (.int .i64)]->Prop:=fun (a,_)=>length a<4611686018427387904/\∀ x∈(a:List Int),fy x
abbrev pM:HL [.sl (.int .i64)]->HO [.own .fr,.val (.int .i64)]:=fun (a,_)=>(p9 a,ra [] a,())
def GY (done:List Int):List Bool:=(range 10).map fun (v:Nat)=>decide ((v:Int)∈done)
def Zd (a:List Int) (g:Int × List Bool):St:=av Tryz.f157.ntmps 48 [(0,ag (.ro (.int .i64) a)),(2,ag (.v (.slice none 0 0))),(3,sI .i64 0),(4,ao 16 0),(14,ag (.ro (.int .i64) a)),(15,sI .i64 a.length),(16,sI .i64 g.1)] [(16,[.row .bool 10 g.2])]
def w1J (a:List Int) (g:Int × List Bool):Prop:=∃ k:Nat,k<=a.length/\g.1=(k:Int)/\g.2=GY (a.take k).reverse/\ra [] a=ra (a.take k).reverse (a.drop k)
def w1O (a:List Int):St:=av Tryz.f157.ntmps 48 [(0,ag (.ro (.int .i64) a)),(2,ag (.v (.slice none 0 0))),(3,sI .i64 0)] []
theorem abp {l:List Int} {x:Int} (a:0<=x) (b:x<10):(GY l).getD x.toNat false=decide (x∈l):=by obtain⟨n,rfl⟩:=jU a;have:n<10:=aa;simp[GY,this]
theorem abq {l:List Int} {x:Int} (a:0<=x) (b:x<10):(GY l).set x.toNat true=GY (x::l):=by
 obtain⟨n,rfl⟩:=jU a;refine mW (by simp[GY]) fun i d f=>?_;rw[List.getElem_set];split
 ·rename_i e;have e:n=i:=by simpa using e
  subst e;simp[GY]
 ·rename_i e;have e:¬ (i:Int)=(n:Int):=by simp at e;omega
  simp[GY,e]
def Ek (a:List Int) (g:Int × List Fr):St:=av Tryz.f157.ntmps 104 [(0,ag (.ro (.int .i64) a)),(2,ag (.v (.slice none 0 0))),(3,sI .i64 0),(7,ag (.sl 64 0 0 (a.length:Int).toNat 4)),(35,ag (.ro (.int .i64) a)),(36,sI .i64 a.length),(37,sI .i64 g.1)] [(64,[.row .fr (a.length:Int).toNat g.2])]
def w2J (a:List Int) (g:Int × List Fr):Prop:=∃ k:Nat,k<=a.length/\g.1=(k:Int)/\g.2=(a.take k).map (wA a)++replicate (a.length-k) 0
def w2O (a:List Int) (g:Int × List Fr):Prop:=g.2=a.map (wA a)
theorem Me:∀ {a seen:List Int},ra seen a=0->(∀ x∈a,(1<=x/\x<=9)/\x∉seen)/\a.Nodup
 | [],_,_=>⟨(fun _ h=>nomatch h),List.nodup_nil⟩
 | x::a,seen,h=>by unfold ra at h;split at h;cases h;rename_i i;split at h;cases h;rename_i d;obtain⟨b,e⟩:=Me h;refine⟨fun y hy=>?_,List.nodup_cons.2 ⟨fun g=>(b x g).2 aw,e⟩⟩;rcases mem_cons.1 hy with rfl|hy;exact⟨aa,d⟩;exact⟨(b y hy).1,fun f=>(b y hy).2 (by simp[f])⟩
theorem uj:∀ (n:Nat) {xs:List Int},xs.Nodup->(∀ x∈xs,1<=x/\x<=(n:Int))->xs.length<=n
 | 0,xs,_,h=>by
  cases xs with
  | nil=>exact aI _
  | cons a l=>have:=h a aw;omega
 | n+1,xs,f,h=>by
  have e:=uj n (xs:=xs.erase ((n+1:Nat):Int)) (f.erase _) (fun x j=>by
   have d:=(List.Nodup.mem_erase_iff f).1 j;have:=h x d.2;have g:=d.1
   omega)
  by_cases d:((n+1:Nat):Int)∈xs;rw[Bf d] at e;omega;rw[List.erase_of_not_mem d] at e;omega
theorem aa5 {a:List Int} (h:ra [] a=0):a.length<=9:=by obtain⟨b,d⟩:=Me h;exact uj 9 d fun x e=>(b x e).1
theorem abN {x y:Int} (a:1<=x/\x<=9) (b:1<=y/\y<=9) (h:(zm x:Fr)=zm y):x=y:=by have h:x%Mr=y%Mr:=congrArg Zm.v h;rw[de aa (by unfold Mr;omega),de aa (by unfold Mr;omega)] at h;exact h
theorem E0 {F:Type} [Rg F]:∀ (l:List F) (a:F),GA (l++[a])=GA l*a
 | [],a=>by show a*1=1*a;rw[Rg.mul_comm]
 | b::l,a=>by show b*GA (l++[a])=b*GA l*a;rw[E0 l a,Rg.mul_assoc]
def Jy (a:List Int) (x:Int):List Int:=a.filter fun y=>decide (y≠x)
def Fy (a:List Int) (x:Int):Fr:=GA ((Jy a x).map fun y=>(zm y:Fr))
def FB (a:List Int) (x:Int):Fr:=GA ((Jy a x).map fun y=>(zm (y-x):Fr))
theorem Ab (a:List Int) (x y:Int):Jy (a++[y]) x=if y=x then Jy a x else Jy a x++[y]:=by unfold Jy;rw[qH];by_cases h:y=x<;>simp[h]
theorem afn {b:List Int} (h:∀ x∈b,1<=x/\x<=9) {x:Int} (f:x∈b):wA b x=Fy b x*fr.sk (FB b x):=by
 have e:(b.map fun y=>(zm y:Fr)).filter (fun y=>decide (y≠zm x))=(Jy b x).map fun y=>(zm y:Fr):=by rw[List.filter_map,Jy];congr 1;refine List.filter_congr fun y g=>?_;simp only[Function.comp,ne_eq];by_cases a:y=x;simp[a];have:¬ (zm y:Fr)=zm x:=fun e=>a (abN (h y g) (h x f) e);simp[a,this]
 rw[wA,bm,wgt,e,lC];have d:(fun y:Fr=>y-zm x)∘(fun y=>(zm y:Fr))=fun y=>(zm (y-x):Fr):=by funext y;simp only[Function.comp,C1]
 rw[d];rfl
def M5 (a:List Int) (k:Nat) (x:Int) (l:List Fr) (g:Int × Fr × Fr):St:=av Tryz.f157.ntmps 216 [(0,ag (.ro (.int .i64) a)),(2,ag (.v (.slice none 0 0))),(3,sI .i64 0),(7,ag (.sl 64 0 0 (a.length:Int).toNat 4)),(8,sI .i64 k),(9,sI .i64 x),(10,ao 160 0),(11,ao 168 0),(35,ag (.ro (.int .i64) a)),(36,sI .i64 a.length),(37,sI .i64 k),(44,ag (.ro (.int .i64) a)),(45,sI .i64 a.length),(46,sI .i64 g.1)] [(64,[.row .fr (a.length:Int).toNat l]),(160,[.row .fr 1 [g.2.1]]),(168,[.row .fr 1 [g.2.2]])]
def w3J (a:List Int) (x:Int) (g:Int × Fr × Fr):Prop:=∃ j:Nat,j<=a.length/\g.1=(j:Int)/\g.2.1=Fy (a.take j) x/\g.2.2=FB (a.take j) x
def w3O (a:List Int) (x:Int) (g:Int × Fr × Fr):Prop:=g.2.1=Fy a x/\g.2.2=FB a x
theorem QD:aO Tryz.prog 157 [.sl (.int .i64)] [.own .fr,.val (.int .i64)] bB Ak pM:=by
 have q:aJ Tryz.prog (aU [fr.ti,fr.kx,Ax,fr.Kk]):=(aM (aR fr.tw) (aM (aR fr.nR) (aM (aR Jd) (aM (aR fr.K1) bD))));refine bL (sp:=aU [fr.ti,fr.kx,Ax,fr.Kk]) Np ae ae ab ?_;rintro w M0 ⟨d,⟨⟩⟩;revert d;intro (d:List Int) _ hp;obtain⟨W,I⟩:=hp;have W:d.length<4611686018427387904:=W;have I:∀ x∈d,fy x:=I;show Tr _ _ _ _ _ _ _;refine bh q mixed 3 (Zd d (0,replicate 10 false)) True ?_ (fun _=>?_);refine aq (X:=((Zd d (0,replicate 10 false)).ah True)) ab ?_;exact au trivial;refine cl q mixed gO (fun r=>(bo (.int .i64) 16 r,cT .bool 16 r)) (Zd d) (w1J d) (fun g=>d.length-g.1.toNat)
  (fun _=>()) (fun _=>w1O d) (fun _=>ra [] d=0) (0,replicate 10 false) (c:=ar (al Tryz.f157) 3) ab ab (ay ab ab ?_) ?_ ?_
 exact⟨0,a8 _,rfl,rfl,rfl⟩
 ·rintro⟨i,l⟩ D;revert i l;intro (i:Int) (l:List Bool) ⟨k,hk,z,O,s⟩;have z:i=(k:Int):=z;have kl:l=GY (d.take k).reverse:=O;subst z;refine aq (X:=((decide ((k:Int)<(d.length:Int))=true->(0<=(k:Int)/\(k:Int)<(d.length:Int))/\(k:Int).toNat<d.length/\(decide (d.getD (k:Int).toNat (0:Int)<1)=true->([],34,())=pM (d,()))/\(decide (d.getD (k:Int).toNat (0:Int)<1)=false->(decide (d.getD (k:Int).toNat (0:Int)>9)=true->([],34,())=pM (d,()))/\(decide (d.getD (k:Int).toNat (0:Int)>9)=false->(0<=d.getD (k:Int).toNat 0/\d.getD (k:Int).toNat 0<(↑(10:Nat):Int))/\(d.getD (k:Int).toNat 0).toNat<10/\(l.getD (d.getD (k:Int).toNat 0).toNat false=true->([],33,())=pM (d,()))/\(l.getD (d.getD (k:Int).toNat 0).toNat false=false->(0<=d.getD (k:Int).toNat 0/\d.getD (k:Int).toNat 0<(↑(10:Nat):Int))/\(d.getD (k:Int).toNat 0).toNat<10/\(Zd d (i64.wrap ((k:Int)+1),l.set (d.getD (k:Int).toNat 0).toNat true)).ah (w1J d (i64.wrap ((k:Int)+1),l.set (d.getD (k:Int).toNat 0).toNat true)/\d.length-(i64.wrap ((k:Int)+1)).toNat<d.length-(k:Int).toNat)))))/\(decide ((k:Int)<(d.length:Int))=false->(w1O d).ah (ra [] d=0)))) ab ?_;rw[aF];refine⟨fun h=>?_,fun h=>au ?_⟩
  ·have f:k<d.length:=by have:=dec_lt h;omega
   have hd:d.drop k=d[k]::d.drop (k+1):=lW f;have hg:d.getD k 0=d[k]:=by rw[a2,bu f,cx]
   rw[hg,aS aa];have Y:(d.take (k+1)).reverse=d[k]::(d.take k).reverse:=by rw[cw f,List.reverse_append];rfl
   rw[hd] at s;generalize d[k]=x at *;refine⟨⟨aa,aa⟩,f,fun C=>?_,fun C=>⟨fun m=>?_,fun m=>?_⟩⟩;have C:x<1:=Odt C;show _=(p9 d,ra [] d,());rw[ra,ak (.inl C)] at s;rw[p9,s];rfl;have m:x>9:=Odt m;show _=(p9 d,ra [] d,());rw[ra,ak (.inr m)] at s;rw[p9,s];rfl
   ·have C:¬ x<1:=Odf C;have m:¬ x>9:=Odf m;rw[ra,ai aa] at s;have hm:l.getD x.toNat false=decide (x∈(d.take k).reverse):=by
     rw[kl];exact abp aa aa
    rw[hm];refine⟨⟨aa,aa⟩,aa,fun P=>?_,fun P=>⟨⟨aa,aa⟩,aa,au ⟨⟨k+1,f,rfl,?_,?_⟩,?_⟩⟩⟩;rw[ak (Odt P)] at s;show _=(p9 d,ra [] d,());rw[p9,s];rfl;show l.set x.toNat true=_;rw[kl,abq aa aa,Y];rw[ai (Odf P)] at s;rw[s,Y];show d.length-((k+1:Nat):Int).toNat<d.length-(k:Int).toNat;rw[aF,aF];omega
  ·have:k=d.length:=by have:=bX h;omega
   rw[this,oG] at s;exact s
 rintro⟨⟩ A;have A:ra [] d=0:=A;have x0:d.length<=9:=aa5 A;refine bh q mixed 2 (Ek d (0,replicate (d.length:Int).toNat 0)) True ?_ (fun _=>?_);refine aq (X:=((0<=(d.length:Int)/\(d.length:Int)<=(d.length:Int)/\(↑(32:Nat):Int)*(d.length:Int)<=281474976710656/\(d.length:Int)<=9223372036854775807)/\(Ek d (0,replicate (d.length:Int).toNat (0:Fr))).ah True)) ab ?_;exact⟨⟨aa,aa,aa,aa⟩,au trivial⟩;refine pz gO (fun r=>(bo (.int .i64) 37 r,cT .fr 64 r)) (Ek d) (w2J d) (fun g=>d.length-g.1.toNat)
  (fun r=>(bo (.int .i64) 37 r,cT .fr 64 r)) (Ek d) (w2O d) (0,replicate (d.length:Int).toNat 0) (c:=ar (al Tryz.f157) 6) ab ab (ay ab ab ?_) ?_ ?_
 exact⟨0,a8 _,rfl,aw⟩
 ·rintro⟨i,l⟩ D;revert i l;intro (i:Int) (l:List Fr) ⟨k,hk,z,O⟩;have z:i=(k:Int):=z;have kl:l=(d.take k).map (wA d)++replicate (d.length-k) 0:=O;subst z;refine bh q mixed 2 (Ek d ((k:Int),l)) (k<d.length) ?_ (fun f=>?_)
  ·refine aq (X:=((decide ((k:Int)<(d.length:Int))=true->(Ek d ((k:Int),l)).ah (k<d.length))/\(decide ((k:Int)<(d.length:Int))=false->(Ek d ((k:Int),l)).ah (w2O d ((k:Int),l))))) ab ?_;refine⟨fun h=>au (by have:=dec_lt h;omega),fun h=>au ?_⟩;have:k=d.length:=by have:=bX h;omega
   show l=_;rw[kl,this,aT,oO];exact bw _
  refine mn (c:=ar (aV (ar (al Tryz.f157) 6)) 2) ab ab ?_;have H:d[k]∈d:=dr f;obtain⟨t,_⟩:=Me A;have t:∀ x∈d,1<=x/\x<=9:=fun x I=>(t x I).1;have Q:d.getD k 0=d[k]:=by rw[a2,bu f,cx]
  generalize T:d[k]=x at *;refine bh q mixed 3 (M5 d k (d.getD (k:Int).toNat 0) l (0,zm 1,zm 1)) True ?_ (fun _=>?_);refine aq (X:=((0<=(k:Int)/\(k:Int)<(d.length:Int))/\(k:Int).toNat<d.length/\gI 1/\gI 1/\(M5 d k (d.getD (k:Int).toNat 0) l (0,jg 1,jg 1)).ah True)) ab ?_;exact⟨⟨aa,aa⟩,aa,⟨ae,ae⟩,⟨ae,ae⟩,au trivial⟩;rw[aF,Q];refine cl q mixed gO (fun r=>(bo (.int .i64) 46 r,p3 .fr 160 r,p3 .fr 168 r)) (M5 d k x l) (w3J d x) (fun g=>d.length-g.1.toNat)
   (fun r=>(bo (.int .i64) 46 r,p3 .fr 160 r,p3 .fr 168 r)) (M5 d k x l) (w3O d x) (0,zm 1,zm 1) (c:=ar (cV (ar (aV (ar (al Tryz.f157) 6)) 2)) 3) ab ab (ay ab ab ?_) ?_ ?_
  exact⟨0,a8 _,rfl,rfl,rfl⟩
  ·rintro⟨j,a,b⟩ D;revert j a b;intro (j:Int) (a:Fr) (b:Fr) ⟨n,hn,N,K,L⟩;have N:j=(n:Int):=N;have E:a=Fy (d.take n) x:=K;have F:b=FB (d.take n) x:=L;subst N;refine aq (X:=((decide ((n:Int)<(d.length:Int))=true->(0<=(n:Int)/\(n:Int)<(d.length:Int))/\(n:Int).toNat<d.length/\((d.getD (n:Int).toNat 0 != x)=true->qi (d.getD (n:Int).toNat 0,())/\True/\qi (i64.wrap (d.getD (n:Int).toNat 0-x),())/\True/\(M5 d k x l (i64.wrap ((n:Int)+1),a*sb (d.getD (n:Int).toNat 0),b*sb (i64.wrap (d.getD (n:Int).toNat 0-x)))).ah (w3J d x (i64.wrap ((n:Int)+1),a*sb (d.getD (n:Int).toNat 0),b*sb (i64.wrap (d.getD (n:Int).toNat 0-x)))/\d.length-(i64.wrap ((n:Int)+1)).toNat<d.length-(n:Int).toNat))/\((d.getD (n:Int).toNat 0 != x)=false->(M5 d k x l (i64.wrap ((n:Int)+1),a,b)).ah (w3J d x (i64.wrap ((n:Int)+1),a,b)/\d.length-(i64.wrap ((n:Int)+1)).toNat<d.length-(n:Int).toNat)))/\(decide ((n:Int)<(d.length:Int))=false->(M5 d k x l ((n:Int),a,b)).ah (w3O d x ((n:Int),a,b))))) ab ?_;rw[aF];refine⟨fun h=>?_,fun h=>au ?_⟩
   ·have o:n<d.length:=by have:=dec_lt h;omega
    have R:d.getD n 0=d[n]:=by rw[a2,bu o,cx]
    have U:d[n]∈d:=dr o;have u:d.take (n+1)=d.take n++[d[n]]:=cw o;rw[R,aS aa];generalize d[n]=y at *;have x2:=t y U;have x1:=t x H;have V:i64.wrap (y-x)=y-x:=ba aa aa;rw[V];have G:d.length-((n+1:Nat):Int).toNat<d.length-(n:Int).toNat:=by rw[aF,aF];omega
    refine⟨⟨aa,aa⟩,o,fun m=>⟨⟨aa,aa⟩,trivial,⟨aa,aa⟩,trivial,au ⟨⟨n+1,o,rfl,?_,?_⟩,G⟩⟩,fun m=>au ⟨⟨n+1,o,rfl,?_,?_⟩,G⟩⟩
    ·have m:¬ y=x:=by simpa using m
     show a*sb y=Fy (d.take (n+1)) x;rw[u,Fy,Ab,ai m,di,eI,tY,E0,E,zf];rfl
    ·have m:¬ y=x:=by simpa using m
     show b*sb (y-x)=FB (d.take (n+1)) x;rw[u,FB,Ab,ai m,di,eI,tY,E0,F,zf];rfl
    ·have m:y=x:=by simpa using m
     show _=Fy (d.take (n+1)) x;rw[u,Fy,Ab,ak m,E];rfl
    ·have m:y=x:=by simpa using m
     show _=FB (d.take (n+1)) x;rw[u,FB,Ab,ak m,F];rfl
   ·have:n=d.length:=by have:=bX h;omega
    rw[this,aT] at E F;exact⟨E,F⟩
  rintro⟨j,a,b⟩ D;revert j a b;intro (j:Int) (a:Fr) (b:Fr) ⟨K,L⟩;have E:a=Fy d x:=K;have F:b=FB d x:=L;refine bh q mixed 1 (Ek d ((k:Int),l.set k (a*fr.sk b))) True ?_ (fun _=>?_);refine aq (X:=(True/\True/\(0<=(k:Int)/\(k:Int)<(↑(d.length:Int).toNat:Int))/\(k:Int).toNat<(d.length:Int).toNat/\(Ek d ((k:Int),l.set k (a*fr.sk b))).ah True)) ab ?_;exact⟨trivial,trivial,⟨aa,aa⟩,aa,au trivial⟩;refine kk ?_;refine bJ q mixed _ _ ?_;refine aq (X:=((Ek d (i64.wrap ((k:Int)+1),l.set k (a*fr.sk b))).ah (w2J d (i64.wrap ((k:Int)+1),l.set k (a*fr.sk b))/\d.length-(i64.wrap ((k:Int)+1)).toNat<d.length-k))) ab ?_;rw[aS aa];refine au ⟨⟨k+1,f,rfl,?_⟩,by rw[aF];omega⟩;show l.set k (a*fr.sk b)=_;rw[kl,E,F,<- afn t H,qp _ _ (by simp;omega),cw f,T];have e:d.length-k=(d.length-(k+1))+1:=aa;have Z:k-((d.take k).map (wA d)).length=0:=by simp;omega
  rw[Z,e,oV,oD,di,cH];rfl
 rintro⟨i,l⟩ D;revert i l;intro (i:Int) (l:List Fr) (D:l=d.map (wA d));refine bJ q mixed _ _ ?_;refine aq (X:=(0+(d.length:Int).toNat<=(d.length:Int).toNat/\(take (d.length:Int).toNat l,0,())=pM (d,()))) ab ?_;rw[aF];refine⟨aa,?_⟩;show (_,_,())=(p9 d,ra [] d,());rw[D,p9,ak A,A,bW aw]
def Uz:Nat × Eng.Spec:=(157,aK [.sl (.int .i64)] [.own .fr,.val (.int .i64)] Ak pM)
open Rg Fd
theorem V8 {x y:Fr} (h:g1.cZ g1.gG x=g1.cZ g1.gG y):x=y:=by
 refine ga fun a=>?_;have d:x-y≠0:=G7 a;have c:g1.cZ g1.gG (x-y)=O2:=by rw[sub_def,g1.mul_add g1.mA,g1.mul_neg g1.mA,h,dY]
 have b:g1.cZ (g1.cZ g1.gG (x-y)) (inv (x-y))=g1.gG:=by rw[<- g1.OU g1.mA,mul_inv _ d,g1.mul_one g1.mA]
 rw[c,g1.n7 (.inl rfl),yR] at b;exact g1.Yj b.symm
theorem acw (c:List (Fp × Fp)) (x:Int) (s:Fr) {t:Fr} (h:l6 x c=g1.cZ g1.gG t):HQ c x s=decide (s=t):=by rw[HQ,h,nr,hX,hX];exact⟨V8,fun e=>by rw[e]⟩
theorem Zs {x:Int} (b:fy x) (e:Fr):HC x (g1.cZ g1.gG e)=g1.cZ g1.gG (e*zm x):=by
 obtain⟨c,i,d⟩:=N2 b;have g:=Ha b;have a:=g1.nJ g1.mA e;have f:g1.sR (g1.cZ g1.gG e) (jo x)=g1.cZ g1.gG (e*zm (e9 x)):=by rw[g1.aaw a.1 c,d,g1.OU g1.mA];refine (g1.LO a ?_).symm;show e9 x%Mr=_;rw[Bn g.1];rfl
 unfold HC;rw[f];unfold e9;by_cases h:x<0;rw[ak h,ak h,g1.aar,<- g1.mul_neg g1.mA,<- mul_neg,Hp,Int.neg_neg];rw[ai h,ai h]
theorem N4 {x:Int} (b:fy x):∀ p:List Fr,l6 x (cM p)=g1.cZ g1.gG (pat p x)
 | []=>by rw[Cy];show (0,0)=g1.cZ g1.gG 0;rw[g1.mul_zero g1.mA]
 | a::p=>by show g1.oe (HC x (l6 x (cM p))) (g1.cZ g1.gG a)=_;rw[N4 b p,Zs b,g1.Oz (g1.nJ g1.mA _).1 (g1.nJ g1.mA _).1,<- g1.mul_add g1.mA,Cy,Cy];rfl
theorem Z0 {x:Int} (a:fy x) (p:List Fr) (s:Fr):HQ (cM p) x s=decide (s=pat p x):=acw _ _ _ (N4 a p)
theorem getD_map {a b:Type} (f:a->b) {l:List a} {k:Nat} (h:k<l.length) (d:b):(l.map f).getD k d=f l[k]:=by rw[a2,dy,bu h];rfl
end poly
namespace law14
open poly
open Go.IntKind(i64)
def scw (b:List Int):Fr:=eR (zm (num b))
end law14
namespace law22
open law14
open Go.IntKind(i64)
abbrev g8:HL [.sl (.int .i64),.int .i64]->Prop:=fun (a,_,_)=>length a<4611686018427387904
abbrev uT:HL [.sl (.int .i64),.int .i64]->HO [.val .bool]:=fun (a,x,_)=>(decide (x∈(a:List Int)),())
def inJ (a:List Int) (x:Int) (g:Int):Prop:=∃ k:Nat,k<=a.length/\g=(k:Int)/\x∉a.take k
theorem afN (a:List Int) (x:Int):inJ a x 0:=⟨0,a8 _,rfl,aw⟩
theorem aaF {a:List Int} {x:Int} {k:Nat} (b:a.length<=k) (h:x∉a.take k):x∉a:=by rwa [bW b] at h
theorem Wj {a:List Int} {x:Int} {k:Nat} (d:k<a.length) (h:x∉a.take k) (b:¬ a.getD k 0=x):x∉a.take (k+1):=by rw[cw d,lA,gb];rw[a2,bu d,cx] at b;exact fun c=>c.elim h (fun c=>b c.symm)
theorem afP {a:List Int} {x:Int} {k:Nat} (c:k<a.length) (b:a.getD k 0=x):x∈a:=by rw[a2,bu c,cx] at b;rw[<- b];exact dr c
theorem Sx:enters Tryz.prog 58 Tryz.f58:=ek
def vK (a:List Int) (x:Int):Int:=if x∈a then ((a.takeWhile fun y=>decide (y≠x)).length:Nat) else -1
theorem aaE {a:List Int} {x:Int} {k:Nat} (d:k<a.length) (h:x∉a.take k) (f:a.getD k 0=x):(k:Int)=vK a x:=by
 rw[vK,ak (afP d f)];have b:a[k]=x:=by rwa [a2,bu d,cx] at f
 have e:a=a.take k++x::a.drop (k+1):=by rw[<- b,<- lW d,dO]
 have:a.takeWhile (fun y=>decide (y≠x))=a.take k:=by
  conv=>lhs;rw[e]
  rw[List.takeWhile_append_of_pos (p:=fun y=>decide (y≠x)) (fun y g=>cg (fun c:y=x=>h (by rw[<- c];exact g)))];simp
 rw[this,c5];omega
abbrev Ac:HL [.sl (.int .i64),.int .i64]->HO [.val (.int .i64)]:=fun (a,x,_)=>(vK a x,())
def Yu (a:List Int) (x:Int) (g:Int):St:=av Tryz.f58.ntmps 32 [(0,ag (.ro (.int .i64) a)),(1,sI .i64 x),(7,sI .i64 a.length),(8,sI .i64 g)] []
theorem K0:aO Tryz.prog 58 [.sl (.int .i64),.int .i64] [.val (.int .i64)] bB g8 Ac:=by
 have d:aJ Tryz.prog (aU []):=bD;refine bL (sp:=aU []) Sx ae ae ab ?_;rintro w n ⟨a,x,⟨⟩⟩;revert a x;intro (a:List Int) (x:Int) _ j;have j:a.length<4611686018427387904:=j;show Tr _ _ _ _ _ _ _;refine bh d mixed 2 (Yu a x 0) True ?_ (fun _=>?_);refine aq (X:=((Yu a x 0).ah True)) ab ?_;exact au trivial;refine cl d mixed gO (fun m=>bo (.int .i64) 8 m) (Yu a x) (inJ a x) (fun g=>a.length-g.toNat)
  (fun _=>()) (fun _=>av Tryz.f58.ntmps 32 [] []) (fun _=>x∉a) 0 (c:=ar (al Tryz.f58) 2) ab ab (ay ab ab ?_) ?_ ?_
 exact afN a x
 ·intro (i:Int) ⟨k,o,l,f⟩;subst l;refine aq (X:=((decide ((k:Int)<(a.length:Int))=true->(0<=(k:Int)/\(k:Int)<(a.length:Int))/\(k:Int).toNat<a.length/\((x==a.getD (k:Int).toNat 0)=true->((k:Int),())=Ac (a,x,()))/\((x==a.getD (k:Int).toNat 0)=false->(Yu a x (IntKind.i64.wrap ((k:Int)+1))).ah (inJ a x (IntKind.i64.wrap ((k:Int)+1))/\a.length-(IntKind.i64.wrap ((k:Int)+1)).toNat<a.length-(k:Int).toNat)))/\(decide ((k:Int)<(a.length:Int))=false->(av Tryz.f58.ntmps 32 [] []).ah ¬x∈a))) ab ?_;rw[aF];refine⟨fun h=>?_,fun h=>au (aaF (by have:=bX h;omega) f)⟩;have b:k<a.length:=by have:=dec_lt h;omega
  rw[aS aa];refine⟨⟨aa,aa⟩,b,fun e=>?_,fun e=>au ⟨⟨k+1,b,rfl,Wj b f (fun c:a.getD k 0=x=>absurd e (by rw[c];simp))⟩,by rw[aF];omega⟩⟩;have e:a.getD k 0=x:=(eq_of_beq e).symm;show ((k:Int),())=(vK a x,());rw[aaE b f e]
 rintro⟨⟩ (f:x∉a);refine bJ d mixed _ _ ?_;refine aq (X:=(((-1:Int),())=Ac (a,x,()))) ab ?_;show _=(vK a x,());rw[vK,ai f]
def abz:Nat × Eng.Spec:=(58,aK [.sl (.int .i64),.int .i64] [.val (.int .i64)] g8 Ac)
theorem KR:enters Tryz.prog 25 Tryz.f25:=ek
theorem l7:aO Tryz.prog 25 [.sl (.int .i64),.int .i64] [.val .bool] bB g8 uT:=by refine bg (sp:=aU [abz]) (aM (aR K0) bD) mixed KR ae ae ?_;rintro w d ⟨a,x,⟨⟩⟩;revert a x;intro (a:List Int) (x:Int) _ b;refine aq (X:=(g8 (a,x,())/\(decide (vK a x>=0),())=uT (a,x,()))) ab ?_;refine⟨b,?_⟩;show _=(decide (x∈a),());show (decide ((if x∈a then (((a.takeWhile fun y=>decide (y≠x)).length:Nat):Int) else -1)>=0),())=(decide (x∈a),());by_cases h:x∈a;rw[ak h,cg h,cg aa];rw[ai h,cp h];rfl
def ku:Nat × Eng.Spec:=(25,aK [.sl (.int .i64),.int .i64] [.val .bool] g8 uT)
end law22
namespace hub
open Go.IntKind(i64)
abbrev jv (p:Nat) (b:Int) (mem:List Int) (c:Nat):Ob.aj:=Ob.aj.obj [db b mem c] p Ob.aj.none
theorem kM:enters Tryz.prog 80 Tryz.f80:=ek
abbrev rG:Func:=Tryz.f80
def idA (a:Int) (mem:List Int) (b:Nat):St:=av rG.ntmps 1 [(0,ao 0 0)] [(0,db a mem b)]
def idB (a:Int) (mem:List Int) (b:Nat) (q:Bool):St:=av rG.ntmps 1 [(0,ao 0 0),(2,aA q)] [(0,db a mem b)]
def idC (q:Bool):St:=av rG.ntmps 1 [(2,aA q)] []
theorem OY (f:Nat->Option (Sigma aH)):Ob.ez Tryz.prog f 80 (fun z:Nat × Int × List Int × Nat=>[aB z.1]) (fun z=>z.2.2.1≠[]) (fun z=>jv z.1 z.2.1 z.2.2.1 z.2.2.2) (fun _ (_:Unit)=>aA false) (fun z _=>jv z.1 z.2.1 z.2.2.1 z.2.2.2) (fun _ _=>True):=by refine Ob.c9 (sp:=LY) kM ab (fun z=>by show 1<=rG.ntmps;exact Odt ab) (fun z _=>rfl) ?_;rintro⟨p,c,mem,d⟩ b k i h;have b:mem≠[]:=b;have g:mem.length≠0:=fun e=>b (dM e);refine Ob.gR [0] (idA c mem d) ?_;refine Ob.gcd iA 2 (fun l=>bo .bool 2 l) (fun q=>idB c mem d q) (fun q=>q=false) ?_ (fun q j=>?_);intros;refine aq (X:=((idB c mem d ((mem.length:Int)==0)).ah (((mem.length:Int)==0)=false))) ab ?_;refine au ?_;rw[beq_eq_false_iff_ne];omega;subst j;refine Ob.fj (E:=ox f k i h) (bl:=[db c mem d]) [] [0] 1 (idC false) ?_;refine Ob.gT iA mixed (aA false) ?_ ⟨(),trivial,Ob.br _,rfl⟩;intros;refine aq (X:=(SV.is (TV.one (Cell.v (Value.bool false)))=aA false)) ab ?_;rfl
set_option maxHeartbeats 4000000
theorem FU:enters Tryz.prog 121 Tryz.f121:=ek
abbrev kg:Func:=Tryz.f121
abbrev Va:FuncId->Option Eng.Spec:=aU [law22.ku]
theorem qR:aJ Tryz.prog Va:=aM (aR law22.l7) bD
def yB (m:Hbm.aG) (a:Int) (mem:List Int) (b:Nat):St:=av kg.ntmps 17 [(0,ao 0 0),(3,ao 1 0)] [(0,db a mem b),(1,df m)]
def DW (a:Int) (mem:List Int) (b:Nat):St:=av kg.ntmps 17 [(0,ao 0 0),(4,ag .F)] [(0,db a mem b)]
def coQ:St:=av kg.ntmps 17 [(4,ag .F)] []
section
variable (gl:Nat->Option (Sigma aH)) (w0:World) (M0:Mem) (F0:Nat->Prop)
abbrev w9:Ob.cf:=Ob.lj Tryz.prog Va gl w0 M0 F0
abbrev vz (p:Nat):Ob.cf:=(w9 gl w0 M0 F0).pinned 0 p
theorem N9 (p:Nat) (c:Int) (mem:List Int) (d:Nat) {Q:SV->Ob.aj->Prop} (f:Q (ag .F) (jv p c mem d)) {b:St} {a:Act} {w:World} (h:b.le (Ob.cm (vz gl w0 M0 F0 p)) (DW c mem d) True) (g:Ob.GH (vz gl w0 M0 F0 p) kg.ntmps b Ob.aj.none a w):Ob.c1 (w9 gl w0 M0 F0) kg Q a w:=by have e:=(Ob.oZ (E:=w9 gl w0 M0 F0) (bl:=[db c mem d]) [] [0] rfl ab ab rfl ab 1 (g.le h).2).le (τ:=coQ) (K:=True) (ay ab ab trivial);exact⟨coQ,_,Ob.cm (w9 gl w0 M0 F0),e.2,f⟩
theorem Vc (p:Nat) (m:Hbm.aG) (b:Int) (mem:List Int) (c:Nat) {Q:SV->Ob.aj->Prop} {x:Nat->ax}
  (o:¬ (m.kind=1\/m.kind=2\/m.kind=3)->Q (ag .F) (jv p b mem c))
  (h:m.kind=1\/m.kind=2\/m.kind=3->Ob.aN Tryz.prog ((al kg).drop 3) (Ob.GH (vz gl w0 M0 F0 p) kg.ntmps (yB m b mem c) Ob.aj.none) (Ob.c1 (w9 gl w0 M0 F0) kg Q) (Ob.c1 (w9 gl w0 M0 F0) kg Q) x) :
  Ob.aN Tryz.prog ((al kg).drop 1) (Ob.GH (vz gl w0 M0 F0 p) kg.ntmps (yB m b mem c) Ob.aj.none) (Ob.c1 (w9 gl w0 M0 F0) kg Q) (Ob.c1 (w9 gl w0 M0 F0) kg Q) x:=by
 obtain⟨mk,d,f,i,mt,g,e⟩:=m;refine Ob.pF qR mixed 2 (fun _=>()) (fun _=>yB (mk,d,f,i,mt,g,e) b mem c) (fun _=>mk=1\/mk=2\/mk=3) (fun s=>¬ (mk=1\/mk=2\/mk=3)/\s.le (Ob.cm (vz gl w0 M0 F0 p)) (DW b mem c) True) (fun _ _=>False) ?_ (fun _ r=>h r) (fun t a w n q=>N9 gl w0 M0 F0 p b mem c (o n.1) n.2 q) (fun _ _ _ _ h _=>h.elim);intros;refine aq (X:=(((mk != 1)=true->((mk != 2)=true->((mk != 3)=true->(mk=1\/mk=2\/mk=3->False)/\(DW b mem c).ah True)/\((mk != 3)=false->(yB (mk,d,f,i,mt,g,e) b mem c).ah (mk=1\/mk=2\/mk=3)))/\((mk != 2)=false->(yB (mk,d,f,i,mt,g,e) b mem c).ah (mk=1\/mk=2\/mk=3)))/\((mk != 1)=false->(yB (mk,d,f,i,mt,g,e) b mem c).ah (mk=1\/mk=2\/mk=3)))) ab ?_;refine⟨fun j=>⟨fun k=>⟨fun l=>⟨?_,au trivial⟩,fun l=>au (.inr (.inr (by simpa using l)))⟩,fun k=>au (.inr (.inl (by simpa using k)))⟩,fun j=>au (.inl (by simpa using j))⟩;rintro (h|h|h);simp[h] at j;simp[h] at k;simp[h] at l
theorem Vd (p:Nat) (m:Hbm.aG) (c:Int) (mem:List Int) (d:Nat) {Q:SV->Ob.aj->Prop} {x:Nat->ax}
  (o:¬ (1<=m.bI/\m.bI<=3/\m.body.length<=4096)->Q (ag .F) (jv p c mem d))
  (h:1<=m.bI/\m.bI<=3/\m.body.length<=4096->Ob.aN Tryz.prog ((al kg).drop 5) (Ob.GH (vz gl w0 M0 F0 p) kg.ntmps (yB m c mem d) Ob.aj.none) (Ob.c1 (w9 gl w0 M0 F0) kg Q) (Ob.c1 (w9 gl w0 M0 F0) kg Q) x) :
  Ob.aN Tryz.prog ((al kg).drop 3) (Ob.GH (vz gl w0 M0 F0 p) kg.ntmps (yB m c mem d) Ob.aj.none) (Ob.c1 (w9 gl w0 M0 F0) kg Q) (Ob.c1 (w9 gl w0 M0 F0) kg Q) x:=by
 obtain⟨mk,e,k,n,mt,l,b⟩:=m;refine Ob.pF qR mixed 2 (fun _=>()) (fun _=>yB (mk,e,k,n,mt,l,b) c mem d) (fun _=>1<=mt/\mt<=3/\b.length<=4096) (fun s=>¬ (1<=mt/\mt<=3/\b.length<=4096)/\s.le (Ob.cm (vz gl w0 M0 F0 p)) (DW c mem d) True) (fun _ _=>False) ?_ (fun _ r=>h r) (fun t a w j q=>N9 gl w0 M0 F0 p c mem d (o j.1) j.2 q) (fun _ _ _ _ h _=>h.elim);intros;refine aq (X:=((decide (mt<1)=true->(1<=mt/\mt<=3/\b.length<=4096->False)/\(DW c mem d).ah True)/\(decide (mt<1)=false->(decide (mt>3)=true->(1<=mt/\mt<=3/\b.length<=4096->False)/\(DW c mem d).ah True)/\(decide (mt>3)=false->(decide ((b.length:Int)>4096)=true->(1<=mt/\mt<=3/\b.length<=4096->False)/\(DW c mem d).ah True)/\(decide ((b.length:Int)>4096)=false->(yB (mk,e,k,n,mt,l,b) c mem d).ah (1<=mt/\mt<=3/\b.length<=4096)))))) ab ?_;refine⟨fun f=>⟨fun h=>?_,au trivial⟩,fun f=>⟨fun g=>⟨fun h=>?_,au trivial⟩,fun g=>⟨fun i=>⟨fun h=>?_,au trivial⟩,fun i=>au ?_⟩⟩⟩;have:=Odt f;omega;have:=Odt g;omega;have:=Odt i;omega;have:=Odf f;have:=Odf g;have:=Odf i;omega
def X7 (m:Hbm.aG) (a:Int) (mem:List Int) (b:Nat) (q:SV):St:=av kg.ntmps 17 [(0,ao 0 0),(3,ao 1 0),(39,q)] [(0,db a mem b),(1,df m)]
def coV (a:Int) (mem:List Int) (b:Nat) (q:Bool):St:=av kg.ntmps 17 [(0,ao 0 0),(4,aA q)] [(0,db a mem b)]
theorem Ve (p:Nat) (m:Hbm.aG) (a:Int) (mem:List Int) (b:Nat) (s:mem.length<1000) {n r:ax} {x:Nat->ax}
  (l:m.a5∉mem->Ob.aN Tryz.prog ((al kg).drop 6) (Ob.GH (vz gl w0 M0 F0 p) kg.ntmps (DW a mem b) Ob.aj.none) n r x)
  (o:m.a5∈mem->∀ q,q=decide (m.bU∈mem)->Ob.aN Tryz.prog ((al kg).drop 6) (Ob.GH (vz gl w0 M0 F0 p) kg.ntmps (coV a mem b q) Ob.aj.none) n r x) :
  Ob.aN Tryz.prog ((al kg).drop 5) (Ob.GH (vz gl w0 M0 F0 p) kg.ntmps (yB m a mem b) Ob.aj.none) n r x:=by
 obtain⟨mk,c,d,e,mt,h,g⟩:=m;have f:∀ v:Int,law22.g8 (mem,v,()):=fun v=>by show mem.length<_;omega
 refine Ob.iD mixed (rid:=5) (ops:=bC (ar (al kg) 5)) ab ?_;refine Ob.eL qR 8 (fun j=>bo .bool 39 j) (fun q=>X7 (mk,c,d,e,mt,h,g) a mem b (aA q)) (fun q=>q=decide (d∈mem)) ae ab ?_ (fun q k=>?_);intros;refine aq (X:=(law22.g8 (mem,d,())/\(X7 (mk,c,d,e,mt,h,g) a mem b (aA (decide (d∈mem)))).ah (decide (d∈mem)=decide (d∈mem)))) ab ?_;exact⟨f _,au rfl⟩;cases q;refine Ob.qX (E:=vz gl w0 M0 F0 p) 39 (ag .F) Ob.pQ ?_;refine Ob.ug (E:=vz gl w0 M0 F0 p) (τ:=X7 (mk,c,d,e,mt,h,g) a mem b (ag .F)) (K:=True) (ay ab ab trivial) fun _=>?_;refine Ob.gS qR (fun _=>()) (fun _=>DW a mem b) (fun _=>True) (Odt ab) ?_ (fun _ _=>l (Odf k.symm));intros;refine aq (X:=((DW a mem b).ah True)) ab ?_;exact au trivial;refine Ob.qX (E:=vz gl w0 M0 F0 p) 39 (ag .T) Ob.gF ?_;refine Ob.ug (E:=vz gl w0 M0 F0 p) (τ:=X7 (mk,c,d,e,mt,h,g) a mem b (ag .T)) (K:=True) (ay ab ab trivial) fun _=>?_;refine Ob.gS qR (fun j=>bo .bool 4 j) (fun q=>coV a mem b q) (fun q=>q=decide (e∈mem)) (Odt ab) ?_ (fun q i=>o (Odt k.symm) q i);intros;refine aq (X:=(law22.g8 (mem,e,())/\(coV a mem b (decide (e∈mem))).ah (decide (e∈mem)=decide (e∈mem)))) ab ?_;exact⟨f _,au rfl⟩
end
def AP (mem:List Int) (m:Hbm.aG):Bool:=decide (m.kind=1\/m.kind=2\/m.kind=3)&&(decide (1<=m.bI/\m.bI<=3/\m.body.length<=4096)&&(decide (m.a5∈mem)&&decide (m.bU∈mem)))
def coO (m:Hbm.aG) (a:Int) (mem:List Int) (b:Nat):St:=av kg.ntmps 1 [(0,ao 0 0),(1,mb m)] [(0,db a mem b)]
def coW (q:Bool):St:=av kg.ntmps 17 [(4,aA q)] []
theorem TB (c:Nat->Option (Sigma aH)):Ob.ez Tryz.prog c 121 (fun z:(Nat × Int × List Int × Nat) × Hbm.aG=>[aB z.1.1,mb z.2]) (fun z=>z.1.2.2.1.length<1000) (fun z=>jv z.1.1 z.1.2.1 z.1.2.2.1 z.1.2.2.2) (fun z (_:Unit)=>aA (AP z.1.2.2.1 z.2)) (fun z _=>jv z.1.1 z.1.2.1 z.1.2.2.1 z.1.2.2.2) (fun _ _=>True):=by refine Ob.c9 (sp:=Va) FU ab (fun z=>by show 2<=kg.ntmps;exact Odt ab) (fun z _=>rfl) ?_;rintro⟨⟨p,a,mem,b⟩,m⟩ j g f d;have j:mem.length<1000:=j;have i:AP mem m=false->∃ _:Unit,True/\cL (ag .F) (aA (AP mem m))/\jv p a mem b=jv p a mem b:=fun e=>⟨(),trivial,by rw[e];exact Ob.rf,rfl⟩;refine Ob.gR [0] (coO m a mem b) ?_;refine Ob.gcd qR 1 (fun _=>()) (fun _=>yB m a mem b) (fun _=>True) ?_ (fun _ _=>?_);intros;refine aq (X:=((yB m a mem b).ah True)) ab ?_;exact au trivial;refine Vc c g f d p m a mem b (fun h=>i (by simp only[AP,cp h,l5])) fun k=>?_;refine Vd c g f d p m a mem b (fun h=>i (by simp only[AP,cp h,l5,oL])) fun l=>?_;refine Ve c g f d p m a mem b j (fun h=>?_) (fun h q n=>?_);refine Ob.fj (E:=w9 c g f d) (bl:=[db a mem b]) [] [0] 1 coQ ?_;refine Ob.gT qR mixed (ag .F) ?_ (i (by simp only[AP,cp h,l5,oL]));intros;refine aq (X:=(SV.is (TV.one Cell.F)=SV.is (TV.one Cell.F))) ab ?_;rfl;refine Ob.fj (E:=w9 c g f d) (bl:=[db a mem b]) [] [0] 1 (coW q) ?_;refine Ob.gT qR mixed (aA q) ?_ ⟨(),trivial,by rw[n];show cL _ (aA (AP mem m));simp only[AP,cg k,cg l,cg h,h8];exact Ob.br _,rfl⟩;intros;refine aq (X:=(SV.is (TV.one (Cell.v (Value.bool q)))=aA q)) ab ?_;rfl
theorem KW:enters Tryz.prog 162 Tryz.f162:=ek
abbrev Js:Func:=Tryz.f162
def msA (p:Nat):St:=av Js.ntmps 8 [(0,aB p)] []
def msB (p:Nat):St:=av Js.ntmps 8 [(0,aB p),(3,aB p)] []
def msC (b:Int) (mem:List Int) (c:Nat):St:=av Js.ntmps 9 [(0,ao 8 0)] [(8,db b mem c)]
def msD (b:Int) (mem:List Int) (c:Nat) (q:Int):St:=av Js.ntmps 9 [(0,ao 8 0),(2,sI .i64 q)] [(8,db b mem c)]
def msE (q:Int):St:=av Js.ntmps 9 [(2,sI .i64 q)] []
theorem aaX (g:Nat->Option (Sigma aH)):Ob.ez Tryz.prog g 162 (fun z:Nat × Int × List Int × Nat=>[aB z.1]) (fun z=>z.2.2.1≠[]/\z.2.2.1.length<1000) (fun z=>jv z.1 z.2.1 z.2.2.1 z.2.2.2) (fun z (_:Unit)=>sI .i64 (((z.2.2.1.length:Int)-1)/3)) (fun z _=>jv z.1 z.2.1 z.2.2.1 z.2.2.2) (fun _ _=>True):=by refine Ob.c9 (sp:=LY) KW ab (fun z=>by show 1<=Js.ntmps;exact Odt ab) (fun z _=>rfl) ?_;rintro⟨p,d,mem,f⟩ ⟨b,c⟩ j i h;have b:mem≠[]:=b;have c:mem.length<1000:=c;have m:mem.length≠0:=fun e=>b (dM e);refine Ob.gcd iA 1 (fun _=>()) (fun _=>msA p) (fun _=>True) ?_ (fun _ _=>?_);intros;refine aq (X:=((msA p).ah True)) ab ?_;exact au trivial;refine Ob.ep 1 (bC (ar (al Js) 1)) ?_;refine Ob.gA iA 1 (fun _=>()) (fun _=>msB p) (fun _=>True) ?_ (fun _ _=>?_);intros;refine aq (X:=((msB p).ah True)) ab ?_;exact au trivial;refine Ob.kj (E:=ox g j i h) (OY g) (p,d,mem,f) b kM (fun _ _=>?_);refine Ob.ei ?_;refine Ob.e5 (ar (al Js) 2) ?_;refine Ob.fR (msA p) ?_;refine Ob.gR [0] (msC d mem f) ?_;refine Ob.gcd iA 1 (fun l=>bo (.int .i64) 2 l) (fun q=>msD d mem f q) (fun q=>q=((mem.length:Int)-1)/3) ?_ (fun q k=>?_);intros;refine aq (X:=(((3:Int)=0->False)/\(msD d mem f (i64.wrap ((i64.wrap ((mem.length:Int)-1)).tdiv 3))).ah (i64.wrap ((i64.wrap ((mem.length:Int)-1)).tdiv 3)=((mem.length:Int)-(1:aH (Kd.int i64)))/(3:aH (Kd.int i64))))) ab ?_;refine⟨ae,au ?_⟩;rw[ba (a:=(mem.length:Int)-1) aa aa,sE aa];exact ba aa aa;refine Ob.fj (E:=ox g j i h) (bl:=[db d mem f]) [] [8] 9 (msE q) ?_;refine Ob.gT iA mixed (sI .i64 q) ?_ ⟨(),trivial,by rw[k];exact Ob.br _,rfl⟩;intros;refine aq (X:=(SV.is (TV.one (Cell.v (Value.int i64 q)))=SV.is (TV.one (Cell.v (Value.int i64 q))))) ab ?_;rfl
end hub
end Go.Proofs.YtofofalgjibokaaGreatDoor
namespace Go.Hbn
open Go.IntKind(i64)
open Go.Hbm(aG Told gw UT kf dk)
structure Talk where
 ptr:Nat
 e:Nat
 r:Nat
 bI:Int
 bU:Int
 begun:Bool
 ready:Bool
 told:Bool
 ech:gw
 rdy:gw
structure bb where
 p:Nat
 mp:Nat
 me:Int
 mem:List Int
 talks:List Talk
def aec:Talk:=⟨0,0,0,0,0,false,false,false,[],[]⟩
def ma (m:aG) (t:Talk):Bool:=t.bI==m.bI&&t.bU==m.bU
def bb.at (H:bb) (m:aG):Nat:=H.talks.findIdx (ma m)
def bb.get (H:bb) (i:Nat):Talk:=H.talks.getD i aec
def bb.set (H:bb) (i:Nat) (t:Talk):bb:={ H with talks:=H.talks.set i t }
def bb.of (H:bb) (m:aG) (q:Nat × Nat × Nat):bb:=if H.at m<H.talks.length then H else { H with talks:=H.talks++[⟨q.1,q.2.1,q.2.2,m.bI,m.bU,false,false,false,[],[]⟩] }
def bb.qy (H:bb):Int:=((H.mem.length:Int)-1)/3
def bb.half (H:bb):Int:=((H.mem.length:Int)+H.qy)/2
def own (H:bb) (k:Int) (m:aG):aG:=(k,0,H.me,m.bU,m.bI,0,m.body)
abbrev eG:=bb × UT
def plus (ms:List aG) (p:eG):eG:=(p.1,ms++p.2.1,p.2.2)
def andThen (p:eG) (f:bb->eG):eG:=((f p.1).1,p.2.1++(f p.1).2.1,p.2.2++(f p.1).2.2)
def kh (H:bb) (i:Nat) (m:aG):eG :=
 if !(H.get i).told&&decide (kf (H.get i).rdy m.body>2*H.qy) then (H.set i { H.get i with told:=true },[],[(m.bI,m.bU,m.body)]) else (H,[],[])
def mg (rec:bb->aG->eG) (H:bb) (k:Int) (m:aG):eG:=plus [own H k m] (rec H (own H k m))
def dJ (rec:bb->aG->eG) (H:bb) (i:Nat) (m:aG):eG :=
 if !(H.get i).ready&&(decide (kf (H.get i).ech m.body>H.half)||decide (kf (H.get i).rdy m.body>H.qy)) then andThen (mg rec (H.set i { H.get i with ready:=true }) 3 m) (fun H=>kh H i m) else kh H i m
def mK (rec:bb->aG->eG) (H:bb) (i:Nat) (m:aG):eG :=
 if m.kind=1 then
  if m.a5=m.bU/\(H.get i).begun=false then andThen (mg rec (H.set i { H.get i with begun:=true }) 2 m) (fun H=>dJ rec H i m) else dJ rec H i m
 else if m.kind=2 then
  if dk (H.get i).ech m.a5 then (H,[],[]) else dJ rec (H.set i { H.get i with ech:=(H.get i).ech++[(m.a5,m.body)] }) i m
 else
  if dk (H.get i).rdy m.a5 then (H,[],[]) else dJ rec (H.set i { H.get i with rdy:=(H.get i).rdy++[(m.a5,m.body)] }) i m
def counts (mem:List Int) (m:aG):Bool:=decide (m.kind=1\/m.kind=2\/m.kind=3)&&(decide (1<=m.bI/\m.bI<=3/\m.body.length<=4096)&&(decide (m.a5∈mem)&&decide (m.bU∈mem)))
def ji (rec:bb->aG->eG) (H:bb) (m:aG):eG:=if counts H.mem m then mK rec H (H.at m) m else (H,[],[])
def kt:Nat->bb->aG->eG
 | 0=>ji fun H _=>(H,[],[])
 | d+1=>ji (kt d)
def iX (H:bb) (m:aG) (q:Nat × Nat × Nat):eG:=kt 2 (if counts H.mem m then H.of m q else H) m
def iS (H:bb) (bI:Int) (body:List Int) (q:Nat × Nat × Nat):eG:=plus [(1,0,H.me,H.me,bI,0,body)] (iX H (1,0,H.me,H.me,bI,0,body) q)
end Go.Hbn
namespace Go.Proofs.YtofofalgjibokaaGreatDoor
namespace hub
open Go.IntKind(i64)
def Hb (t:Hbn.Talk):Ob.aj:=Ob.aj.obj [b8 t.begun t.ready t.told t.e t.r] t.ptr (Ob.aj.sep (bV t.r t.rdy) (bV t.e t.ech))
def ft:List Hbn.Talk->Ob.aj
 | []=>Ob.aj.none
 | t::l=>Ob.aj.sep (Hb t) (ft l)
def gU (l:List Hbn.Talk):List ((Int × Int) × Nat):=l.map fun t=>((t.bI,t.bU),t.ptr)
def bz (H:Hbn.bb):Ob.aj:=Ob.aj.sep (jv H.p H.me H.mem H.mp) (Ob.aj.sep (fk H.mp (gU H.talks)) (ft H.talks))
theorem Hc:∀ (l:List Hbn.Talk) (i:Nat) (t:Hbn.Talk),i<l.length->ft (l.set i t)=Ob.aj.sep (Hb t) (ft (l.eraseIdx i))
 | [],_,_,h=>by simp at h
 | _::_,0,_,_=>rfl
 | u::l,i+1,t,h=>by rw[Bt,List.eraseIdx_cons_succ,ft,ft,Hc l i t (by simpa using h)];ac_rfl
theorem Ef:∀ (l:List Hbn.Talk) (t:Hbn.Talk),ft (l++[t])=Ob.aj.sep (Hb t) (ft l)
 | [],_=>rfl
 | u::l,t=>by rw[iT,ft,ft,Ef l t];ac_rfl
open Go.Hbn(Talk bb eG)
theorem OV:∀ {a b:List Int},a.Nodup->(∀ y∈a,y∈b)->a.length<=b.length
 | [],_,_,_=>a8 _
 | x::a,b,c,f=>by rw[List.nodup_cons] at c;have d:x∈b:=f x aw;have h:=OV (a:=a) (b:=b.erase x) c.2 (fun y g=>(List.mem_erase_of_ne (fun e=>c.1 (by rw[<- e];exact g))).2 (f y (by simp[g])));rw[Bf d] at h;have:0<b.length:=List.length_pos_of_mem d;simp only[bN];omega
abbrev AD (t:Talk):Int × Int:=(t.bI,t.bU)
def tid (t:Talk):(Int × Int) × Nat × Nat × Nat:=((t.bI,t.bU),t.ptr,t.e,t.r)
structure iH (H K:bb):Prop where
 p:K.p=H.p
 mp:K.mp=H.mp
 me:K.me=H.me
 mem:K.mem=H.mem
 ids:K.talks.map tid=H.talks.map tid
theorem iH.rfl {H:bb}:iH H H:=⟨_root_.rfl,_root_.rfl,_root_.rfl,_root_.rfl,_root_.rfl⟩
theorem iH.trans {H K L:bb} (h:iH H K) (k:iH K L):iH H L:=⟨k.p.trans h.p,k.mp.trans h.mp,k.me.trans h.me,k.mem.trans h.mem,k.ids.trans h.ids⟩
def rv (mem:List Int) (s:Hbm.gw):Prop:=(s.map (·.1)).Nodup/\∀ x∈s,x.1∈mem/\Bs x.2/\x.2.length<=4096
structure du (H:bb):Prop where
 ne:H.mem≠[]
 len:H.mem.length<1000
 i64:∀ x∈H.mem,lk x
 me:H.me∈H.mem
 nd:(H.talks.map AD).Nodup
 k64:∀ t∈H.talks,lk t.bI/\lk t.bU
 said:∀ t∈H.talks,rv H.mem t.ech/\rv H.mem t.rdy
theorem rv.ok {mem:List Int} {s:Hbm.gw} (h:rv mem s) (f:mem.length<1000) (d:∀ x∈mem,lk x):nM s:=by refine⟨fun x a=>⟨d _ (h.2 x a).1,(h.2 x a).2.1,by have:=(h.2 x a).2.2;omega⟩,?_⟩;have:=OV h.1 (b:=mem) (fun y e=>by obtain⟨x,a,rfl⟩:=mem_map.1 e;exact (h.2 x a).1);rw[bZ] at this;omega
theorem rv.snoc {mem:List Int} {s:Hbm.gw} (h:rv mem s) {f:Int} {b:List Int} (l:f∈mem) (j:Bs b) (n:b.length<=4096) (o:Hbm.dk s f=false):rv mem (s++[(f,b)]):=by
 refine⟨?_,fun x hx=>?_⟩
 ·rw[di,Bx];refine⟨h.1,aw,fun a g c d e=>?_⟩;simp only[eI,tY,gb] at d;subst d;subst e;obtain⟨x,hx,e⟩:=mem_map.1 g;have:Hbm.dk s a=true:=by unfold Hbm.dk;rw[qI];exact⟨x,hx,by simp[e]⟩
  rw[o] at this;cases this
 rcases List.mem_append.1 hx with hx|hx;exact h.2 x hx;rw[gb] at hx;subst hx;exact⟨l,j,n⟩
theorem du.keys {H:bb} (h:du H):A6 (gU H.talks):=by intro t a;obtain⟨x,b,rfl⟩:=mem_map.1 a;exact h.k64 x b
structure e6 (mem:List Int) (m:Hbm.aG):Prop where
 c:Hbn.counts mem m=true
 b:Bs m.body
theorem e6.kind {mem:List Int} {m:Hbm.aG} (h:e6 mem m):m.kind=1\/m.kind=2\/m.kind=3:=by have:=h.c;unfold Hbn.counts at this;simp only[aX,lZ] at this;exact this.1
theorem e6.bI {mem:List Int} {m:Hbm.aG} (h:e6 mem m):1<=m.bI/\m.bI<=3/\m.body.length<=4096:=by have:=h.c;unfold Hbn.counts at this;simp only[aX,lZ] at this;exact this.2.1
theorem e6.a5 {mem:List Int} {m:Hbm.aG} (h:e6 mem m):m.a5∈mem:=by have:=h.c;unfold Hbn.counts at this;simp only[aX,lZ] at this;exact this.2.2.1
theorem e6.bU {mem:List Int} {m:Hbm.aG} (h:e6 mem m):m.bU∈mem:=by have:=h.c;unfold Hbn.counts at this;simp only[aX,lZ] at this;exact this.2.2.2
theorem e6.own {H:bb} {m:Hbm.aG} (h:e6 H.mem m) (d:H.me∈H.mem) {k:Int} (e:k=2\/k=3):e6 H.mem (Hbn.own H k m):=by refine⟨?_,h.b⟩;unfold Hbn.counts;simp only[aX,lZ];exact⟨.inr e,h.bI,d,h.bU⟩
theorem idx_eq (m:Hbm.aG):∀ (a b:List Talk),a.map tid=b.map tid->a.findIdx (Hbn.ma m)=b.findIdx (Hbn.ma m)
 | [],[],_=>_root_.rfl
 | [],_::_,e=>by simp at e
 | _::_,[],e=>by simp at e
 | x::a,y::b,e=>by
  simp only[eI,bx] at e;have c:=idx_eq m a b e.2;have d:Hbn.ma m x=Hbn.ma m y:=by have:=e.1;unfold tid at this;simp only[aL] at this;unfold Hbn.ma;rw[this.1.1,this.1.2]
  rw[Bz,Bz,c,d]
theorem qf {H K:bb} (h:iH H K) (m:Hbm.aG):K.at m=H.at m:=idx_eq m _ _ h.ids
theorem kW {H K:bb} (h:iH H K):K.talks.length=H.talks.length:=by have:=congrArg length h.ids;simpa using this
theorem get_at {H:bb} {i:Nat} (a:i<H.talks.length):H.talks[i]?=some (H.get i):=by unfold Hbn.bb.get;rw[a2,bu a];rfl
theorem get_mem {H:bb} {i:Nat} (a:i<H.talks.length):H.get i∈H.talks:=dP (get_at a)
theorem S2 {H:bb} {m:Hbm.aG} (a:H.at m<H.talks.length):AD (H.get (H.at m))=(m.bI,m.bU):=by
 have h:=get_at a;have e:Hbn.ma m (H.get (H.at m))=true:=by
  have b:(H.talks[H.at m]'a)=H.get (H.at m):=by rw[bu a] at h;exact jV h
  rw[<- b];exact wG (w:=a)
 unfold Hbn.ma at e;simp only[aX,beq_iff_eq] at e;unfold AD;rw[e.1,e.2]
theorem OA {H K:bb} (h:iH H K) {i:Nat} (a:i<H.talks.length):tid (K.get i)=tid (H.get i):=by have b:=get_at a;have d:=get_at (show i<K.talks.length by rw[kW h];exact a);have:=congrArg (fun l=>l[i]?) h.ids;simp only[dy,b,d,c6,aE] at this;exact this
theorem kK {H:bb} {i:Nat} (a:i<H.talks.length) (t:Talk):(H.set i t).get i=t:=by unfold Hbn.bb.get Hbn.bb.set;simp[a2,a]
theorem ke {H:bb} {i:Nat} (a:i<H.talks.length) {t:Talk} (e:tid t=tid (H.get i)):iH H (H.set i t):=by refine⟨_root_.rfl,_root_.rfl,_root_.rfl,_root_.rfl,?_⟩;show (H.talks.set i t).map tid=H.talks.map tid;refine By fun j=>?_;rw[dy,wP,dy];split;rename_i b;subst b;rw[get_at a];simp[e];rfl
theorem rR {H:bb} (h:du H) {i:Nat} (b:i<H.talks.length) {t:Talk} (e:tid t=tid (H.get i)) (g:rv H.mem t.ech) (j:rv H.mem t.rdy):du (H.set i t):=by
 have d:∀ x∈(H.set i t).talks,x=t\/x∈H.talks:=fun x hx=>(List.mem_or_eq_of_mem_set hx).symm;have a:(t.bI,t.bU)=((H.get i).bI,(H.get i).bU):=by unfold tid at e;simp only[aL] at e ⊢;exact e.1
 refine⟨h.ne,h.len,h.i64,h.me,?_,fun x hx=>?_,fun x hx=>?_⟩
 ·have f:(H.set i t).talks.map AD=H.talks.map AD:=by
   have:=congrArg (List.map Prod.fst) (ke b e).ids;simp only[lC] at this;exact this
  rw[f];exact h.nd
 rcases d x hx with rfl|hx;have:=h.k64 _ (get_mem b);simp only[aL] at a;rw[a.1,a.2];exact this;exact h.k64 x hx;rcases d x hx with rfl|hx;exact⟨g,j⟩;exact h.said x hx
theorem du.sd {H:bb} (h:du H) {i:Nat} (a:i<H.talks.length):rv H.mem (H.get i).ech/\rv H.mem (H.get i).rdy:=h.said _ (get_mem a)
theorem OI {c g:Type} {f:c->g}:∀ {l:List c},(l.map f).Nodup->∀ {x y:c},x∈l->y∈l->f x=f y->x=y
 | [],_,_,_,b,_,_=>by cases b
 | z::l,a,x,y,b,d,e=>by rw[eI,List.nodup_cons] at a;rcases mem_cons.1 b with h1|h1<;>rcases mem_cons.1 d with h2|h2;rw[h1,h2];exact (a.1 (by rw[<- h1,e];exact mem_map.2 ⟨y,h2,_root_.rfl⟩)).elim;exact (a.1 (by rw[<- h2,<- e];exact mem_map.2 ⟨x,h1,_root_.rfl⟩)).elim;exact OI a.2 h1 h2 e
theorem Zp {H:bb} (h:du H) {m:Hbm.aG} {tp:Nat} (d:((m.bI,m.bU),tp)∈gU H.talks):H.at m<H.talks.length/\(H.get (H.at m)).ptr=tp:=by
 obtain⟨t,b,e⟩:=mem_map.1 d;simp only[aL] at e;have a:H.at m<H.talks.length:=by refine wD ⟨t,b,?_⟩;unfold Hbn.ma;rw[e.1.1,e.1.2];simp
 refine⟨a,?_⟩;have c:H.get (H.at m)=t:=OI h.nd (get_mem a) b (by rw[S2 a];unfold AD;rw[e.1.1,e.1.2]);rw[c];exact e.2
theorem Zo {H:bb} {m:Hbm.aG} (a:∀ t∈gU H.talks,t.1≠(m.bI,m.bU)):¬ H.at m<H.talks.length:=fun h =>
 a ((AD (H.get (H.at m))),(H.get (H.at m)).ptr) (mem_map.2 ⟨_,get_mem h,rfl⟩) (S2 h)
theorem L0 {H:bb} {m:Hbm.aG} (h:H.at m<H.talks.length) (q:Nat × Nat × Nat):H.of m q=H:=by unfold Hbn.bb.of;rw[ak h]
def g9 (m:Hbm.aG) (q:Nat × Nat × Nat):Talk:=⟨q.1,q.2.1,q.2.2,m.bI,m.bU,false,false,false,[],[]⟩
theorem Gt {H:bb} {m:Hbm.aG} (h:¬ H.at m<H.talks.length) (q:Nat × Nat × Nat):H.of m q={ H with talks:=H.talks++[g9 m q] }:=by unfold Hbn.bb.of;rw[ai h];rfl
theorem Sc {H:bb} {m:Hbm.aG} (h:¬ H.at m<H.talks.length) (q:Nat × Nat × Nat):(H.of m q).at m=H.talks.length/\(H.of m q).get ((H.of m q).at m)=g9 m q:=by
 rw[Gt h];have e:Hbn.bb.at { H with talks:=H.talks++[g9 m q] } m=H.talks.length:=by
  have a:H.talks.findIdx (Hbn.ma m)=H.talks.length:=by have:=List.findIdx_le_length (p:=Hbn.ma m) (xs:=H.talks);have h:¬ H.talks.findIdx (Hbn.ma m)<H.talks.length:=h;omega
  show (H.talks++[g9 m q]).findIdx (Hbn.ma m)=_;rw[List.findIdx_append,a];simp[Hbn.ma,g9]
 refine⟨e,?_⟩;rw[e];unfold Hbn.bb.get;simp[a2]
theorem YG {H:bb} (h:du H) {m:Hbm.aG} (k:e6 H.mem m) (q:Nat × Nat × Nat):du (H.of m q)/\(H.of m q).at m<(H.of m q).talks.length:=by
 by_cases f:H.at m<H.talks.length;rw[L0 f];exact⟨h,f⟩
 ·refine⟨?_,by rw[(Sc f q).1,Gt f];simp⟩;rw[Gt f];have d:∀ x∈H.talks++[g9 m q],x∈H.talks\/x=g9 m q:=fun x c=>by simpa using c
  have n:=k.bI;refine⟨h.ne,h.len,h.i64,h.me,?_,fun x c=>?_,fun x c=>?_⟩;show ((H.talks++[g9 m q]).map AD).Nodup;rw[di,Bx];refine⟨h.nd,aw,fun a l b j e=>?_⟩;simp only[eI,tY,gb] at j;obtain⟨x,c,g⟩:=mem_map.1 l;refine f (wD ⟨x,c,?_⟩);subst j;rw[e] at g;unfold AD g9 at g;simp only[aL] at g;unfold Hbn.ma;rw[g.1,g.2];simp;rcases d x c with c|rfl;exact h.k64 x c;exact⟨⟨by show _<=m.bI;omega,by show m.bI<=_;omega⟩,h.i64 _ k.bU⟩;rcases d x c with c|rfl;exact h.said x c;exact⟨⟨by simp[g9],fun y i=>by cases i⟩,⟨by simp[g9],fun y i=>by cases i⟩⟩
def Good (H:bb) (r:eG):Prop:=du r.1/\iH H r.1
def ru (rec:bb->Hbm.aG->eG):Prop:=∀ H m,du H->e6 H.mem m->H.at m<H.talks.length->Good H (rec H m)
theorem I5 {H:bb} (h:du H) {i:Nat} (a:i<H.talks.length) (m:Hbm.aG):Good H (Hbn.kh H i m):=by unfold Hbn.kh;split;exact⟨rR h a _root_.rfl (h.sd a).1 (h.sd a).2,ke a _root_.rfl⟩;exact⟨h,.rfl⟩
theorem DB {rec:bb->Hbm.aG->eG} (e:ru rec) {H:bb} (h:du H) {m:Hbm.aG} (d:e6 H.mem m) (a:H.at m<H.talks.length) {k:Int} (b:k=2\/k=3):Good H (Hbn.mg rec H k m) :=
 e H (Hbn.own H k m) h (d.own h.me b) a
theorem xa {rec:bb->Hbm.aG->eG} (j:ru rec) {H:bb} (h:du H) {m:Hbm.aG} (f:e6 H.mem m) {i:Nat} (e:i=H.at m) (a:i<H.talks.length):Good H (Hbn.dJ rec H i m):=by unfold Hbn.dJ;split;have b:iH H (H.set i { H.get i with ready:=true }):=ke a _root_.rfl;have g:du (H.set i { H.get i with ready:=true }):=rR h a _root_.rfl (h.sd a).1 (h.sd a).2;have d:=qf b m;obtain⟨l,n⟩:=DB j g (m:=m) (by rw[b.mem];exact f) (by rw[d,kW b,<- e];exact a) (k:=3) (.inr _root_.rfl);have c:=b.trans n;obtain⟨o,q⟩:=I5 l (i:=i) (by rw[kW c];exact a) m;exact⟨o,c.trans q⟩;exact I5 h a m
theorem Te {rec:bb->Hbm.aG->eG} (g:ru rec) {H:bb} (h:du H) {m:Hbm.aG} (d:e6 H.mem m) {i:Nat} (e:i=H.at m) (a:i<H.talks.length):Good H (Hbn.mK rec H i m):=by unfold Hbn.mK;split;split;have c:iH H (H.set i { H.get i with begun:=true }):=ke a _root_.rfl;have f:du (H.set i { H.get i with begun:=true }):=rR h a _root_.rfl (h.sd a).1 (h.sd a).2;have q:=qf c m;obtain⟨r,s⟩:=DB g f (m:=m) (by rw[c.mem];exact d) (by rw[q,kW c,<- e];exact a) (k:=2) (.inl _root_.rfl);have n:=c.trans s;obtain⟨j,l⟩:=xa g r (m:=m) (by rw[n.mem];exact d) (i:=i) (by rw[qf n,e]) (by rw[kW n];exact a);exact⟨j,n.trans l⟩;exact xa g h d e a;split;split;exact⟨h,.rfl⟩;rename_i o;have c:iH H (H.set i { H.get i with ech:=(H.get i).ech++[(m.a5,m.body)] }):=ke a _root_.rfl;have f:du (H.set i { H.get i with ech:=(H.get i).ech++[(m.a5,m.body)] }):=rR h a _root_.rfl ((h.sd a).1.snoc d.a5 d.b d.bI.2.2 (by simpa using o)) (h.sd a).2;obtain⟨j,l⟩:=xa g f (m:=m) (by rw[c.mem];exact d) (i:=i) (by rw[qf c,e]) (by rw[kW c];exact a);exact⟨j,c.trans l⟩;split;exact⟨h,.rfl⟩;rename_i o;have c:iH H (H.set i { H.get i with rdy:=(H.get i).rdy++[(m.a5,m.body)] }):=ke a _root_.rfl;have f:du (H.set i { H.get i with rdy:=(H.get i).rdy++[(m.a5,m.body)] }):=rR h a _root_.rfl (h.sd a).1 ((h.sd a).2.snoc d.a5 d.b d.bI.2.2 (by simpa using o));obtain⟨j,l⟩:=xa g f (m:=m) (by rw[c.mem];exact d) (i:=i) (by rw[qf c,e]) (by rw[kW c];exact a);exact⟨j,c.trans l⟩
theorem EG {rec:bb->Hbm.aG->eG} (d:ru rec):ru (Hbn.ji rec):=by intro H m h a b;unfold Hbn.ji;rw[ak a.c];exact Te d h a _root_.rfl b
end hub
end Go.Proofs.YtofofalgjibokaaGreatDoor
namespace Go.Eng
open Go.IntKind(i64)
def fixF:SV->SV
 | .is (.one .F)=>.is (.one (.v (.bool false)))
 | .is (.one .T)=>.is (.one (.v (.bool true)))
 | s=>s
theorem VQ (s:SV):cL s (fixF s):=by unfold fixF;split;exact fun a v h=>⟨h,rfl⟩;exact fun a v h=>⟨h,rfl⟩;exact fun a v h=>h
def Q3 (t:Nat) (a:St):St:=⟨a.slots.set t (fixF (a.S t)),a.blks,a.next⟩
namespace Ob
def inv (a:List Nat) (j:Nat):Nat:=match a with
 | []=>0
 | i::a=>match beq i j with
  | true=>0
  | false=>inv a j+1
def aeH (a:List Nat) (e:Edge):Edge:=⟨inv a e.on,e.ground⟩
def E5 (a:List Nat) (o:Oper):Oper:=⟨o.dst,o.op,o.type,o.pos,⟨o.after.toList.map (aeH a)⟩,match o.guard with
 | none=>none
 | some (j,b)=>some (inv a j,b)⟩
def adg (a:Array Oper) (i:Nat):Oper:=match a.toList[i]? with
 | some o=>o
 | none => ⟨none, .move (.const undef), 0, "", ⟨[]⟩, none⟩
def jM (a:List Nat) (ops:Array Oper):Array Oper:=⟨a.map fun i=>E5 a (adg ops i)⟩
def Mc (b:List Nat) (a:Array Oper):Bool :=
 beq b.length a.size&&kR b&&b.all (fun i=>blt i a.size) &&
 a.toList.all fun o=>(o.after.toList.all fun e=>blt e.on a.size&&eA e.on b)&&match o.guard with
  | none=>true
  | some (j,_)=>blt j a.size&&eA j b
theorem sX:∀ {a:List Nat} {j:Nat},j∈a->a[inv a j]?=some j
 | i::a,j,h=>by
  unfold inv;cases c:beq i j with
  | true=>simp[fa c]
  | false =>have b:i≠j:=Nat.ne_of_beq_eq_false c;rcases mem_cons.1 h with e|h;exact absurd e.symm b;simpa using sX h
theorem Tm {a:List Nat} (b:kR a=true) {k i:Nat} (h:a[k]?=some i):inv a i=k :=
 xt a b _ _ i (sX (dP h)) h
theorem adV {a:List Nat} {j:Nat} (h:j∈a):inv a j<a.length:=by have:=sX h;rcases bS (inv a j) a.length with h'|h';exact h';rw[dN h'] at this;cases this
structure PermOk (π:List Nat) (ops:Array Oper):Prop where
 len:π.length=ops.size
 nd:kR π=true
 lt:∀ i∈π,i<ops.size
 all:∀ i,i<ops.size->i∈π
 edge:∀ (i:Nat) (o:Oper),ops[i]?=some o->∀ e∈o.after.toList,e.on∈π
 gA:∀ (i:Nat) (o:Oper) (j:Nat) (b:Bool),ops[i]?=some o->o.guard=some (j,b)->j∈π
theorem Jt:∀ {n:Nat} {π:List Nat},π.Nodup->(∀ i∈π,i<n)->π.length=n->∀ i,i<n->i∈π
 | 0,_,_,_,_=>fun i c=>aa
 | n+1,π,o,u,A=>by
  intro i c;have b:n∈π:=by
   by_cases h:n∈π;exact h
   ·exfalso;have k:∀ i∈π,i<n:=fun i c=>by
     have:=u i c;have:i≠n:=fun e=>h (e▸c);omega
    -- z w below n
    have q:∀ (m:Nat) (l:List Nat),l.Nodup->(∀ i∈l,i<m)->l.length<=m:=by
     intro m;induction m with
     | zero=>intro l _ f;cases l with
      | nil=>simp
      | cons a l=>have:=f a aw;omega
     | succ m y =>
      intro l s f
      have r:=y (l.erase m) (s.erase m) (fun i c=>by
       have d:=f i (Bj c);have x:i≠m:=fun e=>by subst e;exact s.not_mem_erase c
       omega)
      have d:=List.length_erase (a:=m) (l:=l);split at d<;>omega
    have:=q n π o k;omega
  by_cases g:i=n;subst g;exact b
  ·have r:=Jt (n:=n) (π:=π.erase n) (o.erase n) (fun j t=>by
    have d:=u j (Bj t);have x:j≠n:=fun e=>by subst e;exact o.not_mem_erase t
    omega) (by rw[Bf b];omega) i aa
   exact Bj r
theorem LR {a:List Nat} (h:kR a=true):a.Nodup:=by rw[List.nodup_iff_pairwise_ne,List.pairwise_iff_getElem];intro i j b d c e;have:=xt a h i j (a[j]) (by rw[bu b,e]) (bu d);omega
theorem Nz {c:List Nat} {a:Array Oper} (h:Mc c a=true):PermOk c a:=by
 simp only[Mc,aX] at h;obtain⟨⟨⟨g,k⟩,n⟩,l⟩:=h;have m:∀ {j:Nat},eA j c=true->j∈c:=fun {j} t=>by exact dP (Ih c j t)
 have d:∀ i∈c,i<a.size:=fun i s=>fG (List.all_eq_true.1 n i s);refine⟨fa g,k,d,Jt (LR k) d (fa g),fun i o f e q=>?_,fun i o j b f r=>?_⟩;have:=List.all_eq_true.1 l o (dP (by simpa using f));rw[aX] at this;have:=List.all_eq_true.1 this.1 e q;rw[aX] at this;exact m this.2;have:=List.all_eq_true.1 l o (dP (by simpa using f));rw[aX,r] at this;have:=this.2;simp only[aX] at this;exact m this.2
theorem rX {a:List Nat} {ops:Array Oper}:(jM a ops).size=a.length:=by simp[jM]
theorem yg {a:List Nat} {ops:Array Oper} {k i:Nat} {o:Oper} (b:a[k]?=some i) (c:ops[i]?=some o):(jM a ops)[k]?=some (E5 a o):=by unfold jM adg;simp only[tG,dy,b,c6];rw[show ops.toList[i]?=some o from by simpa using c]
theorem aeI (P:Program) (e:List Nat) (o:Oper) (a:Act) (w:World) (K:ax) (Q:Exit->ax) (h:(E5 e o).wp P a w K Q):o.wp P a w K Q:=by obtain⟨c,d,f,pos,b,guard⟩:=o;cases d<;>exact h
theorem WZ (P:Program) (e:List Nat) (o:Oper) (a:Act) (w:World) (h:(E5 e o).asks P a w):o.asks P a w:=by obtain⟨c,d,f,pos,b,guard⟩:=o;cases d<;>exact h
theorem Rr {f:List Nat} {ops:Array Oper} (k:PermOk f ops) {i:Nat} {o:Oper} (l:ops[i]?=some o) (a:Array Value):Region.wanted (E5 f o) (yielded (jM f ops) a)=Region.wanted o (yielded ops a):=by
 unfold Region.wanted;cases d:o.guard with
 | none=>simp[E5,d]
 | some g =>
  obtain⟨j,b⟩:=g;simp only[E5,d];have h:=k.gA i o j b l d;have e:=k.lt j h;have c:ops[j]?=some ops[j]:=by simp[e]
  unfold yielded;rw[yg (sX h) c,c];rfl
theorem WO {P:Program} {Q:Exit->ax} {g:List Nat} {ops:Array Oper} (z:PermOk g ops):∀ (f:Nat) (c b:Array Bool) (a:Act) (w:World),c.size=ops.size->b.size=ops.size ->
  (∀ k i,g[k]?=some i->b.getD k false=c.getD i false)->wpAny P .any (jM g ops) Q f b a w->wpAny P .any ops Q f c a w:=by
 have j:∀ (c b:Array Bool),c.size=ops.size->b.size=ops.size->(∀ k i,g[k]?=some i->b.getD k false=c.getD i false) ->
   ∀ k i,g[k]?=some i->(k∈Region.ready .any (jM g ops) b↔i∈Region.ready .any ops c):=by
  intro c b n r x k i u;have l:=z.lt i (dP u);have m:ops[i]?=some ops[i]:=by simp[l]
  rw[jy n,jy (ops:=jM g ops) (by rw[rX,z.len];exact r)];rw[yg u m,m,x k i u];have s:∀ e∈ops[i].after.toList,b.getD (inv g e.on) false=c.getD e.on false:=fun e V=>x _ _ (sX (z.edge i _ m e V));constructor;rintro⟨o,e,g1,g2⟩;cases e;refine⟨_,rfl,g1,fun d K R=>?_⟩;rw[<- s d K];exact g2 (aeH g d) (mem_map.2 ⟨d,K,rfl⟩) R;rintro⟨o,e,g1,g2⟩;cases e;refine⟨_,rfl,g1,fun d K R=>?_⟩;obtain⟨N,C,rfl⟩:=mem_map.1 K;show b.getD (inv g N.on) false=true;rw[s N C];exact g2 N C R
 have G:∀ (c b:Array Bool),c.size=ops.size->b.size=ops.size->(∀ k i,g[k]?=some i->b.getD k false=c.getD i false)->Region.ready .any ops c=[]->Region.ready .any (jM g ops) b=[]:=by
  intro c b n r x O;rw[A9];intro k u;obtain⟨o,m,_⟩:=(jy (ops:=jM g ops) (by rw[rX,z.len];exact r)).1 u;have T:k<g.length:=by rcases bS k g.length with h|h;exact h;rw[ef (by rw[rX];exact h)] at m;cases m
  have:=(j c b n r x k _ (bu T)).1 u;rw[O] at this;cases this
 intro f;induction f with
 | zero =>
  intro c b a w n r x D;refine⟨?_,D.2⟩;rw[A9];intro i E;have l:=(jy n).1 E;obtain⟨o,m,_⟩:=l;have l:i<ops.size:=by rcases bS i ops.size with h|h;exact h;rw[ef h] at m;cases m
  have:=(j c b n r x _ i (sX (z.all i l))).2 E;rw[D.1] at this;cases this
 | succ f W =>
  intro c b a w n r x D;refine⟨fun O=>D.1 (G c b n r x O),fun i E=>?_⟩;obtain⟨o,m,g1,_⟩:=(jy n).1 E;have l:i<ops.size:=by rcases bS i ops.size with h|h;exact h;rw[ef h] at m;cases m
  have F:=z.all i l;have u:=sX F;have hw:=D.2 _ ((j c b n r x _ i u).2 E);unfold wpOp at hw ⊢;rw[yg u m] at hw;simp only[m];simp only[Rr z m] at hw;have H:∀ L I,g[L]?=some I->(b.setIfInBounds (inv g i) true).getD L false=(c.setIfInBounds i true).getD I false:=by
   intro L I y;have U:inv g i<b.size:=by rw[r,<- z.len];exact adV F
   rw[kK U,kK aa,x L I y];by_cases h:I=i;subst h;rw[Tm z.nd y];simp;rw[ai h,ai];rintro rfl;rw[u] at y;exact h (jV y).symm
  have t:∀ a w,wpAny P .any (jM g ops) Q f (b.setIfInBounds (inv g i) true) a w->wpAny P .any ops Q f (c.setIfInBounds i true) a w:=fun a w q=>W _ _ a w (by simpa using n) (by simpa using r) H q;split at hw;rename_i A;rw[ak A];rcases hw with hw|hw;exact .inl (UN (fun _ _ _ _ q=>q) t (aeI P g o a w _ Q hw));exact .inr ⟨WZ P g o a w hw.1,hw.2⟩;rename_i A;rw[ai A];exact t _ _ hw
theorem Lg {P:Program} {ops:Array Oper} {l:List Code} {Pre n r:ax} {x:Nat->ax} (g:List Nat) (f:Mc g ops=true) (h:pV P (jM g ops) 0 l Pre n r x):pV P ops 0 l Pre n r x:=by
 have f:=Nz f;intro a w Q d m o q c j;have e:(jM g ops).size=ops.size:=by rw[rX,f.len]
 refine WO f c (gk 0 ops.size) (gk 0 (jM g ops).size) a w (iG (a8 _)) (by rw[iG (a8 _),e]) (fun k i _=>by rw[fi,fi];simp) (h a w Q d m o q c (by rw[e];exact j))
theorem Ku {P:Program} {Q d:Exit->ax} (b:∀ e a w,Q e a w->d e a w):∀ (l:List Code) (a:Act) (w:World),kA P l Q a w->kA P l d a w
 | [],a,w,h=>b _ a w h
 | c::l,a,w,h=>wp_mono h fun e a w f=>by
  cases e with
  | normal=>exact Ku b l a w f
  | _=>exact b _ a w f
theorem AJ {P:Program} {j:Region.Mode} {c:Array Oper} {Q g:Exit->ax} (d:∀ e a w,Q e a w->g e a w):∀ (fuel:Nat) (b:Array Bool) (a:Act) (w:World),wpAny P j c Q fuel b a w->wpAny P j c g fuel b a w
 | 0,_,a,w,h=>⟨h.1,d _ a w h.2⟩
 | fuel+1,_,a,w,h=>⟨fun k=>d _ a w (h.1 k),fun i m=>by
  have:=h.2 i m;cases f:c[i]? with
  | none =>unfold wpOp at this ⊢;simp only[f] at this ⊢;exact AJ d fuel _ _ _ this
  | some o=>exact M6 (o:=o) f f (fun _ _ _=>rfl) (fun e a w _ l=>d e a w l) (fun a w h=>AJ d fuel _ a w h) this⟩
def UG (a:Array Oper) (k:Nat):Bool:=blt k a.size&&(Region.noSelect a&&Region.free .any a (gk k a.size) k&&(Region.ready .any a (gk k a.size)).contains k)
def Kr (P:Program) (S:cJ) (b:Op) (d:TypeId) (c:SV):Prop :=
 ∀ (a:aC) (ev:Operand->Value),(∀ o,(fC S o).rel a (ev o))->∃ v,(∀ o:Oper,o.op=b->o.type=d->∀ w,(execOp ev o).run P w=.ok (.value v) w)/\c.rel a v
theorem CE {P:Program} {S:cJ} {e:TypeId} (x:Operand):Kr P S (.move x) e (fC S x):=fun f ev c=>⟨ev x,fun o d _ w=>by unfold execOp;rw[d];rfl,c x⟩
theorem WV {P:Program} {S:cJ} {i t t':TypeId} {x y:Operand} {a b:Int} (g:fC S x=ag (.v (.int .i64 a))) (h:fC S y=ag (.v (.int .i64 b))):Kr P S (.binOp .mul t x y t') i (ag (.v (.int .i64 (IntKind.i64.wrap (a*b))))):=by intro j ev c;have d:ev x=.int .i64 a:=tz g c;have e:ev y=.int .i64 b:=tz h c;exact⟨_,fun o f _ w=>by unfold execOp;rw[f];simp only[d,e];rfl,rfl,rfl⟩
theorem zQ {E:cf} {N:Nat} {n r:ax} {x:Nat->ax} {l:List Code} {ops:Array Oper} {k:Nat} {τ:St} {G:aj} (sv:SV) (R:UG ops k=true) (m:isStep τ.S ops k=true) (hp:Kr E.P τ.S (jl ops k) (pP ops k) sv)
  (h:pV E.P ops (k+1) l (GH E N (τ.put (nV ops k) sv) G) n r x):pV E.P ops k l (GH E N τ G) n r x:=by
 simp only[UG,aX] at R;obtain⟨H,⟨q,hf⟩,hr⟩:=R;have H:=fG H;intro a w Q hh x0 x2 hx fuel Y;obtain⟨o,I,g⟩:∃ o,ops[k]?=some o/\lJ τ.S ops o.guard=true:=by unfold isStep at m;split at m;rename_i o I;exact⟨o,I,m⟩;cases m
 have O:nV ops k=o.dst:=by unfold nV;rw[I]
 have x1:o.op=jl ops k:=by unfold jl;rw[I]
 have x4:o.type=pP ops k:=by unfold pP;rw[I]
 rw[O] at h;obtain⟨F,u,z,V,T,f,C⟩:=hh.kU;have L:Mem.le u.M (cb w):=fun b l A=>by obtain⟨_,el,fr,h⟩:=f.mem b l A;exact j8 h
 obtain⟨v,hv,x3⟩:=hp u a.eval (fun o=>cR.fC (E:=⟨E.P,E.sp,jf w E.gl u τ.next⟩) f o);have s:GH E N (τ.put o.dst sv) G (a.put o.dst v) w:=Lc (w2:=w) (F2:=F) (M2:=u.M) z T f C L V (fun b A=>.inl A) ⟨rfl,rfl,rfl,aI _,fun _ _ _=>rfl⟩ (Mem.le_refl _)
  (fun b l A=>⟨L b l A,fun U=>z.mem b U l A,.inr (.inr A)⟩) (fun x6 Z hM=>SV.fh Z x3)
 have D:Region.wanted o (yielded ops a.tmps)=true:=by
  unfold Region.wanted;cases hq:o.guard with
  | none=>rfl
  | some p =>obtain⟨j,x5⟩:=p;rw[hq] at g;unfold lJ at g;simp only at g;split at g;rename_i d hd;have q:=f.slots d;split at g;rename_i hT;rw[hT] at q;have q:[_]=[Value.bool true]:=q;have q:=(m5 q).1;simp only[nK hd q];rfl;rename_i U;rw[U] at q;have q:[_]=[Value.bool false]:=q;have q:=(m5 q).1;simp only[nK hd q];rfl;cases g;cases g
 let Q':Exit->ax:=fun e a w=>match e with
  | .panic _=>False
  | e=>Q e a w
 have W:∀ e a w,Q' e a w->Q e a w:=fun e a w h=>by
  cases e with
  | panic c=>exact h.elim
  | _=>exact h
 have h1:=h (a.put o.dst v) w Q' s (fun a w h=>x0 a w h) (fun a w h=>x2 a w h) (fun i a w h=>hx i a w h) (fuel-1) aa
 have e:(gk k ops.size).setIfInBounds k true=gk (k+1) ops.size:=zP (by simp[iG (tX H),iG (show k+1<=ops.size from H)]) (fun j=>by
  rw[kK (by rw[iG (tX H)];exact H),fi,fi];by_cases hj:j=k;subst hj;simp
  ·simp only[hj,dQ];congr 1
   exact propext ⟨fun _=>aa,fun _=>aa⟩)
 rw[<- e] at h1;have h2:=wpAny_take (fuel:=fuel-1) I q hf hr (fun c a w h=>by exact h.elim) (.inl ⟨D,hv o x1 x4⟩) h1;rw[show fuel-1+1=fuel from by omega] at h2;refine AJ (fun e a w X=>?_) fuel _ a w h2;cases e with
 | normal=>exact Ku W l a w X
 | panic c=>exact X.elim
 | _=>exact X
theorem iu {E:cf} {n:ax} {x:Nat->ax} (d:aJ E.P E.sp) (j:E.P.follows .mixedOrders=true) {fn:Func} {l:List Code} {f:St} {G:aj} {Q:SV->aj->Prop} (q:SV)
  (h:∀ (w:World) (ids:List (Nat × Nat)) (M:Mem) (num:Nat × Nat->Nat),VC ⟨E.P,E.sp,⟨w,ids,E.gl,M,num,f.next⟩⟩ l f (fun _=>False) (ll ⟨E.P,E.sp,cm E⟩ fn fun sv _=>sv=q) (fun _ _=>False)) (k:Q q G) :
  aN E.P l (GH E fn.ntmps f G) n (c1 E fn Q) x :=
 ju d j (fun _=>False) _ (fun _ _=>False) h (fun _ _ _ a _=>a.elim) (fun g _ _ a i=>⟨g,G,cm E,i,E7 a fun _ _ e=>e▸k⟩) (fun _ _ _ _ h _=>h.elim)
theorem kN {E:cf} {N:Nat} {n r:ax} {x:Nat->ax} (j:aJ E.P E.sp) (C:E.P.follows .mixedOrders=true) {l:List Code} {u:St} {G:aj} {s:Type} (k t:Nat) (f:St->s) (d:s->St) (K:s->Prop) (m:St->Prop) (o:Nat->St->Prop)
  (h:∀ (w:World) (ids:List (Nat × Nat)) (M:Mem) (num:Nat × Nat->Nat),VC ⟨E.P,E.sp,⟨w,ids,E.gl,M,num,u.next⟩⟩ (l.take k) u (fun b=>(Q3 t b).le (cm E) (d (f (Q3 t b))) (K (f (Q3 t b)))) m o)
  (z:∀ g,K g->aN E.P (l.drop k) (GH E N (d g) G) n r x) (D:∀ b a w,m b->GH E N b G a w->r a w) (F:∀ i b a w,o i b->GH E N b G a w->x i a w):aN E.P l (GH E N u G) n r x:=by
 rw[<- dO k l];refine mJ (fun a w=>∃ g,K g/\GH E N (d g) G a w) (ju j C _ m o h (fun b a w y e=>⟨_,(e.ref t _ (VQ _)).le y⟩) D F) ?_;exact F5 (Pre':=fun (g:{ g // K g })=>GH E N (d g.1) G) (fun a w ⟨g,A,e⟩=>⟨⟨g,A⟩,e⟩) (fun g=>z g.1 g.2)
theorem OD {E:cf} {N:Nat} {n r:ax} {x:Nat->ax} {l:List Code} {d:St} {G:aj} (t id k c:Nat) (e:Kd) (f:List (aH e)) (m:d.S t=ag (.sl id 0 0 k c)) (j:d.B id=some [.row e k f]) (q:f.length=k)
  (i:aN E.P l (GH E N ⟨d.slots.set t (ag (.ro e f)),(id,[])::d.blks,d.next⟩ G) n r x):aN E.P l (GH E N d G) n r x:=by
 refine mJ (P:=E.P) (l1:=[]) (l2:=l) (GH E N ⟨d.slots.set t (ag (.ro e f)),(id,[])::d.blks,d.next⟩ G) ?_ i;refine vJ (fun g=>g=⟨d.slots.set t (ag (.ro e f)),(id,[])::d.blks,d.next⟩) (fun _=>False) (fun _ _=>False) (fun w ids M num=>?_) (fun g a w e o=>e▸o) (fun _ _ _ h _=>h.elim) (fun _ _ _ _ h _=>h.elim);exact UK t id k c e f m j q (kk rfl)
theorem sU {E:cf} {N:Nat} {n r:ax} {x:Nat->ax} {l:List Code} {d:St} {G:aj} (t id k c:Nat) (g:IntKind) (f:List Int) (o:d.S t=ag (.sl id 0 0 k c)) (m:d.B id=some [.ints g k f]) (s:f.length=k)
  (j:aN E.P l (GH E N ⟨d.slots.set t (ag (.ro (.int g) f)),(id,[])::d.blks,d.next⟩ G) n r x):aN E.P l (GH E N d G) n r x:=by
 refine mJ (P:=E.P) (l1:=[]) (l2:=l) (GH E N ⟨d.slots.set t (ag (.ro (.int g) f)),(id,[])::d.blks,d.next⟩ G) ?_ j;refine vJ (fun i=>i=⟨d.slots.set t (ag (.ro (.int g) f)),(id,[])::d.blks,d.next⟩) (fun _=>False) (fun _ _=>False) (fun w ids M num=>?_) (fun i a w e q=>e▸q) (fun _ _ _ h _=>h.elim) (fun _ _ _ _ h _=>h.elim);exact PO t id k c g f o m s (kk rfl)
theorem WG {f:List (List Cell)} {p:Nat} {o:aj} (c:List (List Cell)) (z:∀ (t:aC) (i:Nat) (r:List Cell) (l:List Value),f[i]?=some r->az t r l->∃ g,c[i]?=some g/\az t g l) (I:f.length<=c.length) (w:World) (M:Mem) (F:Nat->Prop) (h:(aj.obj f p o).P w M F):(aj.obj c p o).P w M F:=by
 obtain⟨d,F2,y,K,A,C,D,E,G⟩:=h;have a:∀ (i b:Nat),(d++replicate (c.length-f.length) (none:Option Nat))[i]?=some (some b)↔d[i]?=some (some b):=by intro i b;rcases bS i d.length with hi|hi;rw[oS hi];rw[qo hi,dN hi,sF];split<;>simp
 have n:Ct (d++replicate (c.length-f.length) none) w M=Ct d w M:=by
  have e:∀ i:Nat,((d++replicate (c.length-f.length) (none:Option Nat))[i]?).join=(d[i]?).join:=by intro i;rcases bS i d.length with hi|hi;rw[oS hi];rw[qo hi,dN hi,sF];split<;>rfl
  unfold Ct;congr 1;funext i;exact e i;funext i;rw[e i]
 refine⟨d++replicate (c.length-f.length) none,F2,y,by rw[a7,oT];omega,(a 0 p).2 A,fun b=>(C b).trans ⟨fun q=>q.imp id fun ⟨i,hi⟩=>⟨i,(a i b).2 hi⟩,fun q=>q.imp id fun ⟨i,hi⟩=>⟨i,(a i b).1 hi⟩⟩,fun i b k=>D i b ((a i b).1 k),fun i j b hi H=>E i j b ((a i b).1 hi) ((a j b).1 H),fun i g b hi k=>?_⟩;have k:=(a i b).1 k;have m:i<f.length:=by rcases bS i d.length with hi'|hi';omega;rw[dN hi'] at k;cases k
 obtain⟨l,g1,g2⟩:=G i _ b (bu m) k;obtain⟨u,s,x⟩:=z _ i _ l (bu m) g2;rw[hi] at s;cases s;exact⟨l,g1,by rw[n];exact x⟩
theorem HV {E:cf} {N:Nat} {n r:ax} {x:Nat->ax} {l:List Code} {a:St} {G G':aj} (d:∀ w M F,G.P w M F->G'.P w M F) (h:aN E.P l (GH E N a G') n r x):aN E.P l (GH E N a G) n r x:=n8 (fun _ _ e=>e.mono d) h
theorem S6 {E:cf} {N:Nat} {n r:ax} {x:Nat->ax} {l:List Code} {f:St} {G:aj} (e:E.pins=[]) (id p d:Nat) (h:aN E.P l (GH E N f G) n r x):aN E.P l (GH { E with pins:=[(id,p)],ptop:=d } N f G) n r x:=by refine n8 (fun a w j=>?_) h;obtain⟨W,F,b,g,i⟩:=j;exact⟨W,F,⟨b.gl,b.kep,b.ids,b.foot,b.own,b.mem,b.old,fun q c=>(by rw[e] at c;cases c),fun q c=>(by rw[e] at c;cases c),b.mle⟩,g,i⟩
theorem AF {E:Env} {N:Nat} {n r:St->Prop} {x:Nat->St->Prop} {l:List Code} {e:St} (t c:Nat) (cell:Cell) (W:e.S t=ag (.v (.slice none 0 0))) (L:Tr E N l ⟨e.slots.set t (ag (.sl e.next 0 0 0 c)),(e.next,[cell])::e.blks,e.next+1⟩ n r x):Tr E N l e n r x:=by
 intro a w Q R U V Y;refine L a w Q ?_ U V Y;obtain⟨y,D,d,s⟩:=R;have k:∀ b,D e.next≠some b:=fun b h=>absurd (s _ _ h) (Nat.lt_irrefl _);have j:∀ i f b,St.B ⟨e.slots.set t (ag (.sl e.next 0 0 0 c)),(e.next,[cell])::e.blks,e.next+1⟩ i=some f->D i=some b->e.B i=some f:=by
  intro i f b h A;simp only[St.B,cW] at h;cases G:beq e.next i with
  | true =>have:=fa G;subst this;exact absurd A (k b)
  | false=>rw[G] at h;exact h
 refine⟨by show (e.slots.set t _).length=N;rw[hZ];exact y,D,{ d with slots:=?_,blks:=?_,inj:=?_,mem:=?_ },fun id b h=>Bv (s id b h)⟩;intro u;show ((e.slots.set t _).getD u .junk).rel D _;rw[a2,wP];split;rename_i F;subst F;split;have C:=d.slots t;rw[W] at C;have C:[a.tmps.getD t Go.undef]=[Value.slice none 0 0]/\_:=C;exact .inl ⟨rfl,C.1⟩;trivial;rw[<- a2];exact d.slots u;intro i f h g b A;exact d.blks i f (j i f b h A) g b A;intro i H f m b h g I z o q;exact d.inj i H f m b (j i f b h o) g (j H m b I q) z o q;intro b l T;obtain⟨K,O⟩:=d.mem b l T;exact⟨fun i f h g o=>K i f (j i f b h o) g o,O⟩
theorem qY {E:cf} {N:Nat} {n r:ax} {x:Nat->ax} {l:List Code} {d:St} {G:aj} (t c:Nat) (cell:Cell) (j:d.S t=ag (.v (.slice none 0 0)))
  (g:aN E.P l (GH E N ⟨d.slots.set t (ag (.sl d.next 0 0 0 c)),(d.next,[cell])::d.blks,d.next+1⟩ G) n r x):aN E.P l (GH E N d G) n r x:=by
 refine mJ (P:=E.P) (l1:=[]) (l2:=l) (GH E N ⟨d.slots.set t (ag (.sl d.next 0 0 0 c)),(d.next,[cell])::d.blks,d.next+1⟩ G) ?_ g;refine vJ (fun f=>f=⟨d.slots.set t (ag (.sl d.next 0 0 0 c)),(d.next,[cell])::d.blks,d.next+1⟩) (fun _=>False) (fun _ _=>False) (fun w ids M num=>?_) (fun f a w e i=>e▸i) (fun _ _ _ h _=>h.elim) (fun _ _ _ _ h _=>h.elim);exact AF t c cell j (kk rfl)
theorem PQ {E:Env} {N:Nat} {n r:St->Prop} {x:Nat->St->Prop} {l:List Code} {e:St} (id:Nat) (cell:Cell) (s g:List Cell) (U:e.B id=some s) (F:s≠[]) (L:∀ (j:aC) (W:List Value),az j s W->az j g W)
  (h2:Tr E N l ⟨e.slots,(id,g)::(e.next,[cell])::e.blks,e.next+1⟩ n r x):Tr E N l e n r x:=by
 intro a w Q hh hn hr hx;refine h2 a w Q ?_ hn hr hx;obtain⟨D,j,f,C⟩:=hh;have o:∀ b,j e.next≠some b:=fun b h=>absurd (C _ _ h) (Nat.lt_irrefl _);have t:∀ i c b,St.B ⟨e.slots,(id,g)::(e.next,[cell])::e.blks,e.next+1⟩ i=some c->j i=some b->(i=id/\c=g)\/e.B i=some c:=by
  intro i c b h m;simp only[St.B,cW] at h;cases O:beq id i with
  | true =>rw[O] at h;exact .inl ⟨(fa O).symm,(jV h).symm⟩
  | false =>
   rw[O] at h;cases y:beq e.next i with
   | true =>have:=fa y;subst this;exact absurd m (o b)
   | false=>rw[y] at h;exact .inr h
 have k:∀ i c b,St.B ⟨e.slots,(id,g)::(e.next,[cell])::e.blks,e.next+1⟩ i=some c->j i=some b->∃ I,e.B i=some I/\(c≠[]->I≠[]):=by intro i c b h m;rcases t i c b h m with ⟨rfl,rfl⟩|h;exact⟨s,U,fun _=>F⟩;exact⟨c,h,fun q=>q⟩
 refine⟨D,j,{ f with blks:=?_,inj:=?_,mem:=?_ },fun id b h=>Bv (C id b h)⟩;intro i c h u b m;rcases t i c b h m with ⟨rfl,rfl⟩|h;obtain⟨l,G,H⟩:=f.blks i s U F b m;exact⟨l,G,L j l H⟩;exact f.blks i c h u b m;intro i V c I b h u Z K z A;obtain⟨d,G,H⟩:=k i c b h z;obtain⟨Y,R,T⟩:=k V I b Z A;exact f.inj i V d Y b G (H u) R (T K) z A;intro b l hm;obtain⟨h1,h3⟩:=f.mem b l hm;refine⟨fun i c h u z=>?_,h3⟩;obtain⟨d,G,H⟩:=k i c b h z;exact h1 i d G (H u) z
theorem vf {E:cf} {N:Nat} {n r:ax} {x:Nat->ax} (s:aJ E.P E.sp) (T:E.P.follows .mixedOrders=true) {l:List Code} {c:Code} (I:Nat->St) (G:Nat->aj) (m:Nat) (O:l.head?=some c) (L:dq c=true)
  (D:∀ k,k<=m->∀ (w:World) (ids:List (Nat × Nat)) (M:Mem) (num:Nat × Nat->Nat),VC ⟨E.P,E.sp,⟨w,ids,E.gl,M,num,(I k).next⟩⟩ ((aV c).take 2) (I k) (fun d=>d.le (cm E) (I k) (k<m)) (fun _=>False) (fun i d=>match beq i (b7 c) with|true=>d.le (cm E) (I k) (k=m)|false=>False))
  (F:∀ k,k<m->aN E.P ((aV c).drop 2) (GH E N (I k) (G k)) (GH E N (I (k+1)) (G (k+1))) r (fun _ _ _=>False))
  (K:aN E.P l.tail (GH E N (I m) (G m)) n r x):aN E.P l (GH E N (I 0) (G 0)) n r x:=by
 refine sV (α:=Nat) (β:=Unit) (fun k a w=>k<=m/\GH E N (I k) (G k) a w) (fun k=>m-k) (fun _ a w=>GH E N (I m) (G m) a w) O L (fun a w h=>⟨0,a8 _,h⟩) (fun k=>?_) (fun _=>K);rw[<- dO 2 (aV c)];refine mJ (fun a w=>k<m/\GH E N (I k) (G k) a w) ?_ ?_
 ·intro a w Q f t u A;obtain⟨g,o⟩:=f;refine ju (E:=E) (N:=N) (G:=G k) s T _ (fun _=>False) (fun i d=>match beq i (b7 c) with|true=>d.le (cm E) (I k) (k=m)|false=>False) (D k g) (fun d a w h f=>?_) (fun _ _ _ h _=>h.elim) (fun i d a w h f=>?_) a w Q o t u A;exact f.le h
  ·revert h;cases beq i (b7 c) with
   | true =>intro h;obtain⟨e,q⟩:=f.le h;exact⟨(),e▸q⟩
   | false=>intro h;exact h.elim
 intro a w Q f t u A;obtain⟨g,o⟩:=f;exact F k g a w Q o (fun y C j=>t y C ⟨k+1,⟨g,j⟩,aa⟩) u (fun i y C j=>j.elim)
theorem I4 {k b:aC} (a:aC.le k b) {c m:Cell} {f:List Cell} (n:∀ v,c.rel k v->m.rel b v):∀ (pre:List Cell) (l:List Value),az k (pre++c::f) l->az b (pre++m::f) l
 | [],l,⟨g,h,e,i,j⟩=>⟨g,h,e,n g i,dU a j⟩
 | d::pre,l,⟨g,h,e,i,j⟩=>⟨g,h,e,Cell.fh a i,I4 a n pre h j⟩
theorem abI {E:Env} {N:Nat} {n r:St->Prop} {x:Nat->St->Prop} {l:List Code} {A:St} (pre:List Cell) (Y id k c:Nat) (e:Kd) (L:List (aH e)) (cell:Cell) (I:List Cell) (z0:Y≠id) (x0:∀ (t:aC) (vs:List Value),cell.rel t vs->L.length=k/\dX (Rd t.M e) L vs) (hS:A.B Y=some (pre++.sl id 0 0 k c::I)) (hB:A.B id=some [cell]) (hx:L.length=k)
  (X:Tr E N l ⟨A.slots,(id,[])::(Y,pre++.ro e L::I)::A.blks,A.next⟩ n r x):Tr E N l A n r x:=by
 classical
 intro a w Q hh hn hr hx;refine X a w Q ?_ hn hr hx;obtain⟨y1,t,d,y0⟩:=hh;refine⟨y1,?_⟩;have x6:∀ i q,St.B ⟨A.slots,(id,[])::(Y,pre++.ro e L::I)::A.blks,A.next⟩ i=some q->q≠[]->i≠id/\((Y≠i/\A.B i=some q)\/Y=i/\q=pre++.ro e L::I):=by
  intro i q h f;simp only[St.B,cW] at h;cases K:beq id i with
  | true=>rw[K] at h;simp only[aE] at h;exact absurd h.symm f
  | false =>
   rw[K] at h;refine⟨fun e=>(by subst e;rw[gi] at K;cases K),?_⟩;cases O:beq Y i with
   | true=>rw[O] at h;simp only[aE] at h;exact .inr ⟨fa O,h.symm⟩
   | false =>rw[O] at h;exact .inl ⟨fun e=>(by subst e;rw[gi] at O;cases O),h⟩
 have C:∀ i q,St.B ⟨A.slots,(id,[])::(Y,pre++.ro e L::I)::A.blks,A.next⟩ i=some q->q≠[]->i≠id/\∃ H,A.B i=some H/\H≠[]:=by intro i q h f;obtain⟨F,⟨_,X⟩|⟨rfl,_⟩⟩:=x6 i q h f;exact⟨F,_,X,f⟩;exact⟨F,_,hS,aw⟩
 have Z:∀ (z:aC),aC.le t z->(∀ v,(Cell.sl id 0 0 k c).rel t v->(Cell.ro e L).rel z v)->∀ i q,St.B ⟨A.slots,(id,[])::(Y,pre++.ro e L::I)::A.blks,A.next⟩ i=some q->q≠[]->∀ b,z i=some b->t i=some b->∃ l,ca w b (t.n i) l/\az z q l:=by intro z R hc i q h f b _ K;obtain⟨_,⟨_,X⟩|⟨rfl,rfl⟩⟩:=x6 i q h f;obtain⟨l,F,h3⟩:=d.blks i q X f b K;exact⟨l,F,dU R h3⟩;obtain⟨l,F,h3⟩:=d.blks _ _ hS aw b K;exact⟨l,F,I4 R hc pre l h3⟩
 by_cases x9:∃ b,t id=some b
 ·obtain⟨b,K⟩:=x9;obtain⟨l0,x7,v1,v2,e1,y5,e2⟩:=d.blks id _ hB aw b K;obtain⟨y9,y3⟩:=x0 t v1 y5;have e2:v2=[]:=e2;subst e2;rw[bw] at e1;subst e1;have x3:t.M b=none:=by
   cases D:t.M b with
   | none=>rfl
   | some l=>exact absurd K ((d.mem b l D).1 id _ hB aw)
  obtain⟨U,el,fr,x2,y7,_⟩:=x7;have y2:=fun hn=>kF x2 hn;let z:aC:=⟨t.m,t.n,fun j=>if j=b then cb w b else t.M j⟩;have G:Mem.le t.M z.M:=by intro j l hl;show (if j=b then cb w b else t.M j)=some l;by_cases e:j=b;subst e;rw[x3] at hl;cases hl;rw[ai e];exact hl
  have R:aC.le t z:=⟨fun _ _ h=>⟨h,rfl⟩,G⟩;have y4:l0++U≠[]->z.M b=some (l0++U):=fun hn=>by show (if b=b then cb w b else _)=_;rw[ak rfl,y2 hn]
  have x1:∀ v,(Cell.sl id 0 0 k c).rel t v->(Cell.ro e L).rel z v:=by
   intro v V;rcases V with ⟨hz,V⟩|⟨j,o,x5,s,x8,ho,y8,V⟩;have x4:L=[]:=dM aa;subst x4;exact .inl ⟨rfl,none,0,V,fun _=>rfl⟩
   ·have eb:j=b:=by rw[K] at s;simpa using s.symm
    subst eb;rw[V];rcases ho with rfl|rfl;have hl:=fS (fun _ _=>b6) y3;refine .inr ⟨j,0+0*c,x5,by rw[y9],aa,l0++U,y4,by rw[a7,hl];omega,?_⟩;rw[show 0+0*c=0 by omega,gL,<- hl,lz rfl];exact ee (fun _ _ h=>dd G h) y3;exact .inl ⟨dM aa,some ⟨j,o,none⟩,0,by rw[show k=0 by omega],fun h=>by cases h⟩
  refine⟨z,{ d with slots:=fun u=>SV.fh R (d.slots u),blks:=?_,inj:=?_,mem:=?_,old:=?_,glob:=?_,bound:=d.bound,init:=d.init,memle:=fun j l' s=>G j l' (d.memle j l' s) },y0⟩;intro i q h f j s;exact Z z R x1 i q h f j s s;intro i i' q H j h f h' T g1 g2;obtain⟨_,W,F,n1⟩:=C i q h f;obtain⟨_,d2,X,n2⟩:=C i' H h' T;exact d.inj i i' W d2 j F n1 X n2 g1 g2
  ·intro j l D;have D:(if j=b then cb w b else t.M j)=some l:=D;by_cases e:j=b
   ·subst e;rw[ak rfl] at D
    refine⟨fun i q h f hi=>by
     obtain⟨g0,W,g1,g2⟩:=C i q h f
     exact g0 (d.inj i id W _ j g1 g2 hB aw hi K),?_⟩
    obtain⟨el,fr,hh⟩:=iE D;exact⟨el,fr,hh⟩
   ·rw[ai e] at D;obtain⟨F,h3⟩:=d.mem j l D
    exact⟨fun i q h f=>by
     obtain⟨_,W,g1,g2⟩:=C i q h f
     exact F i W g1 g2,h3⟩
  intro j l D y6;have D:(if j=b then cb w b else t.M j)=some l:=D;by_cases e:j=b;subst e;rcases (d.bound id j K).1 with h|h;omega;exact .inl h;rw[ai e] at D;exact d.old j l D y6;intro g κ y hg;exact ko G (d.glob g κ y hg)
 ·have x1:∀ v,(Cell.sl id 0 0 k c).rel t v->(Cell.ro e L).rel t v:=by
   intro v V;rcases V with ⟨hz,V⟩|⟨j,o,x5,s,x8,ho,y8,V⟩;have x4:L=[]:=dM aa;subst x4;exact .inl ⟨rfl,none,0,V,fun _=>rfl⟩;exact absurd ⟨j,s⟩ x9
  refine⟨t,{ d with blks:=?_,inj:=?_,mem:=?_ },y0⟩;intro i q h f j s;exact Z t (aC.le_refl t) x1 i q h f j s s;intro i i' q H j h f h' T g1 g2;obtain⟨_,W,F,n1⟩:=C i q h f;obtain⟨_,d2,X,n2⟩:=C i' H h' T;exact d.inj i i' W d2 j F n1 X n2 g1 g2
  ·intro b l D;obtain⟨F,h3⟩:=d.mem b l D
   exact⟨fun i q h f=>by
    obtain⟨_,W,g1,g2⟩:=C i q h f
    exact F i W g1 g2,h3⟩
theorem sS {E:cf} {N:Nat} {n r:ax} {x:Nat->ax} {l:List Code} {b:St} {G:aj} (pre:List Cell) (i id k c:Nat) (e:Kd) (g:List (aH e)) (cell:Cell) (d:List Cell) (j:i≠id) (f:∀ (s:aC) (o:List Value),cell.rel s o->g.length=k/\dX (Rd s.M e) g o) (y:b.B i=some (pre++.sl id 0 0 k c::d)) (u:b.B id=some [cell]) (A:g.length=k)
  (t:aN E.P l (GH E N ⟨b.slots,(id,[])::(i,pre++.ro e g::d)::b.blks,b.next⟩ G) n r x):aN E.P l (GH E N b G) n r x:=by
 refine mJ (P:=E.P) (l1:=[]) (l2:=l) (GH E N ⟨b.slots,(id,[])::(i,pre++.ro e g::d)::b.blks,b.next⟩ G) ?_ t;refine vJ (fun m=>m=⟨b.slots,(id,[])::(i,pre++.ro e g::d)::b.blks,b.next⟩) (fun _=>False) (fun _ _=>False) (fun w ids M num=>?_) (fun m a w e z=>e▸z) (fun _ _ _ h _=>h.elim) (fun _ _ _ _ h _=>h.elim);exact abI pre i id k c e g cell d j f y u A (kk rfl)
theorem Li {E:cf} {N:Nat} {n r:ax} {x:Nat->ax} (y:aJ E.P E.sp) (R:E.P.follows .mixedOrders=true) {l:List Code} {c:Code} (I:Nat->St) (G:Nat->aj) (J:Nat->Prop) (m:Nat) (O:l.head?=some c) (K:dq c=true) (C:J 0)
  (D:∀ k,k<=m->∀ (w:World) (ids:List (Nat × Nat)) (M:Mem) (num:Nat × Nat->Nat),VC ⟨E.P,E.sp,⟨w,ids,E.gl,M,num,(I k).next⟩⟩ ((aV c).take 2) (I k) (fun b=>b.le (cm E) (I k) (k<m)) (fun _=>False) (fun i b=>match beq i (b7 c) with|true=>b.le (cm E) (I k) (k=m)|false=>False))
  (F:∀ k,k<m->J k->aN E.P ((aV c).drop 2) (GH E N (I k) (G k)) (fun a w=>J (k+1)/\GH E N (I (k+1)) (G (k+1)) a w) r (fun _ _ _=>False))
  (H:J m->aN E.P l.tail (GH E N (I m) (G m)) n r x):aN E.P l (GH E N (I 0) (G 0)) n r x:=by
 refine sV (α:=Nat) (β:=Unit) (fun k a w=>(k<=m/\J k)/\GH E N (I k) (G k) a w) (fun k=>m-k) (fun _ a w=>J m/\GH E N (I m) (G m) a w) O K (fun a w h=>⟨0,⟨a8 _,C⟩,h⟩) (fun k=>?_) (fun _=>?_)
 ·rw[<- dO 2 (aV c)];refine mJ (fun a w=>(k<m/\J k)/\GH E N (I k) (G k) a w) ?_ ?_
  ·intro a w Q d j o t;obtain⟨g,u⟩:=d;refine ju (E:=E) (N:=N) (G:=G k) y R _ (fun _=>False) (fun i b=>match beq i (b7 c) with|true=>b.le (cm E) (I k) (k=m)|false=>False) (D k g.1) (fun b a w h d=>?_) (fun _ _ _ h _=>h.elim) (fun i b a w h d=>?_) a w Q u j o t;obtain⟨e,f⟩:=d.le h;exact⟨⟨e,g.2⟩,f⟩
   ·revert h;cases beq i (b7 c) with
    | true =>intro h;obtain⟨e,f⟩:=d.le h;exact⟨(),e▸g.2,e▸f⟩
    | false=>intro h;exact h.elim
  intro a w Q d j o t;obtain⟨⟨g,L⟩,u⟩:=d;exact F k g L a w Q u (fun z A s=>j z A ⟨k+1,⟨⟨g,s.1⟩,s.2⟩,aa⟩) o (fun i z A s=>s.elim)
 intro a w Q d j o t;exact H d.1 a w Q d.2 j o t
theorem QI {E:cf} {N:Nat} {n r:ax} {x:Nat->ax} {l:List Code} {e:Array Oper} {i:Nat} {d:St} {bl:List (List Cell)} {id p:Nat} {g:aj} (K L:List Nat) (u:E.pins=[]) (j:(L.all fun i => !eA i K)=true) (a:(fU d.B K&&fU d.B L&&kR L&&xk d.B L)=true) (s:L[0]?=some id) (k:((L.map fun i=>(r6 d.B i).map (Cell.r7 (pos L))).map fun q=>q.map Gp)=bl) (f:Nat)
  (o:St) (m:(kH d K id p).le (cm E) o True) (h:kz E.P e i l (GH E N o (aj.obj bl p g)) n r x):kz E.P e i l (GH { E with pins:=[(id,p)],ptop:=f } N d g) n r x :=
 kJ (fun _ _ t=>((oZ K L u j a s k f t).le m).2) h
theorem xm {e:IntKind} {a:List Int} {k:Nat} (f:aC) (d:List Value) (h:(Cell.ints e k a).rel f d):a.length=k/\dX (Rd f.M (.int e)) a d:=by
 obtain⟨b,rfl⟩:=h;refine⟨b,?_⟩;clear b;induction a with
 | nil=>rfl
 | cons y a g=>exact⟨[_],_,rfl,rfl,g⟩
end Ob
end Go.Eng
namespace Go.Proofs.YtofofalgjibokaaGreatDoor
namespace hub
open Go.IntKind(i64)
open Go.Hbn(Talk bb eG)
abbrev iJ:Kd:=.pair (.int .i64) (.pair (.int .i64) (.pair (.int .i64) (.pair (.int .i64) (.pair (.int .i64) (.pair (.int .i64) (.sl (.int .u8)))))))
abbrev fu:Kd:=.pair (.int .i64) (.pair (.int .i64) (.sl (.int .u8)))
abbrev U1 (n k:Nat) (ms:List Hbm.aG) (a:List Hbm.Told):List (List Cell):=[[.sl 1 0 0 n 7,.sl 2 0 0 k 3],[.row iJ n ms],[.row fu k a]]
def eW (a:Nat) (ms:List Hbm.aG) (b:List Hbm.Told):Ob.aj:=Ob.aj.obj (U1 ms.length b.length ms b) a Ob.aj.none
theorem BF (a n k:Nat) (ms:List Hbm.aG) (b:List Hbm.Told) (d:n=ms.length) (c:k=b.length) (R:Ob.aj):Ob.aj.obj (U1 n k ms b) a R=Ob.aj.sep R (eW a ms b):=by subst d c;rw[Ob.bF,Ob.ja];rfl
theorem Th (H:bb) (R:Ob.aj):Ob.aj.sep (bz H) R=Ob.aj.obj [db H.me H.mem H.mp] H.p (Ob.aj.sep (Ob.aj.sep (fk H.mp (gU H.talks)) (ft H.talks)) R):=by rw[Ob.bF];unfold bz jv;ac_rfl
def tE (rec:bb->Hbm.aG->eG) (K:Nat):Prop:=∀ H m,(rec H m).2.1.length<=K/\(rec H m).2.2.length<=K
theorem Ce {rec:bb->Hbm.aG->eG} {K:Nat} (h:tE rec K):tE (Hbn.ji rec) (2*K+2):=by
 have b:∀ H i m,(Hbn.kh H i m).2.1.length<=0/\(Hbn.kh H i m).2.2.length<=1:=by intro H i m;unfold Hbn.kh;split<;>simp
 have a:∀ H i m,(Hbn.dJ rec H i m).2.1.length<=K+1/\(Hbn.dJ rec H i m).2.2.length<=K+1:=by intro H i m;unfold Hbn.dJ;split;have c:=h (H.set i { H.get i with ready:=true }) (Hbn.own (H.set i { H.get i with ready:=true }) 3 m);have d:=b ((Hbn.mg rec (H.set i { H.get i with ready:=true }) 3 m).1) i m;unfold Hbn.andThen Hbn.mg Hbn.plus at *;simp only[a7,bN,eH] at *;omega;have:=b H i m;omega
 intro H m;unfold Hbn.ji Hbn.mK;split;split;split;have c:=h (H.set (H.at m) { H.get (H.at m) with begun:=true }) (Hbn.own (H.set (H.at m) { H.get (H.at m) with begun:=true }) 2 m);have d:=a ((Hbn.mg rec (H.set (H.at m) { H.get (H.at m) with begun:=true }) 2 m).1) (H.at m) m;unfold Hbn.andThen Hbn.mg Hbn.plus at *;simp only[a7,bN,eH] at *;omega;have:=a H (H.at m) m;omega;split;split;simp;have:=a (H.set (H.at m) { H.get (H.at m) with ech:=(H.get (H.at m)).ech++[(m.a5,m.body)] }) (H.at m) m;omega;split;simp;have:=a (H.set (H.at m) { H.get (H.at m) with rdy:=(H.get (H.at m)).rdy++[(m.a5,m.body)] }) (H.at m) m;omega;simp
structure HIn where
 H:bb
 m:Hbm.aG
 a:Nat
 ms:List Hbm.aG
 ts:List Hbm.Told
def tC (gl:Nat->Option (Sigma aH)) (rec:bb->Hbm.aG->eG) (b:bb->Hbm.aG->Prop) (c:Nat):Prop :=
 Ob.ez Tryz.prog gl 81 (fun z:HIn=>[aB z.H.p,mb z.m,aB z.a]) (fun z=>du z.H/\e6 z.H.mem z.m/\z.H.at z.m<z.H.talks.length/\z.ms.length+c<=1000/\z.ts.length+c<=1000/\b z.H z.m)
  (fun z=>Ob.aj.sep (bz z.H) (eW z.a z.ms z.ts)) (fun _ (_:Unit)=>.tup []) (fun z _=>Ob.aj.sep (bz (rec z.H z.m).1) (eW z.a (z.ms++(rec z.H z.m).2.1) (z.ts++(rec z.H z.m).2.2))) (fun _ _=>True)
structure SIn where
 H:bb
 k:Int
 m:Hbm.aG
 a:Nat
 ms:List Hbm.aG
 ts:List Hbm.Told
def afr (gl:Nat->Option (Sigma aH)) (rec:bb->Hbm.aG->eG) (b:bb->Hbm.aG->Prop) (c:Nat):Prop :=
 Ob.ez Tryz.prog gl 123 (fun z:SIn=>[aB z.H.p,sI .i64 z.k,mb z.m,aB z.a]) (fun z=>du z.H/\e6 z.H.mem z.m/\z.H.at z.m<z.H.talks.length/\(z.k=2\/z.k=3)/\z.ms.length+(c+1)<=1000/\z.ts.length+c<=1000/\b z.H (Hbn.own z.H z.k z.m))
  (fun z=>Ob.aj.sep (bz z.H) (eW z.a z.ms z.ts)) (fun _ (_:Unit)=>.tup []) (fun z _=>Ob.aj.sep (bz (Hbn.mg rec z.H z.k z.m).1) (eW z.a (z.ms++(Hbn.mg rec z.H z.k z.m).2.1) (z.ts++(Hbn.mg rec z.H z.k z.m).2.2))) (fun _ _=>True)
theorem qv:enters Tryz.prog 81 Tryz.f81:=ek
theorem qT:enters Tryz.prog 123 Tryz.f123:=ek
abbrev py:Func:=Tryz.f123
def syA (p a:Nat) (k:Int) (m:Hbm.aG):St:=av py.ntmps 8 [(0,aB p),(1,sI .i64 k),(3,aB a),(6,ao 0 0)] [(0,df m)]
def syB (a:Nat) (k:Int) (m:Hbm.aG) (b:Int) (mem:List Int) (c:Nat):St:=av py.ntmps 9 [(0,ao 8 0),(1,sI .i64 k),(3,aB a),(6,ao 0 0)] [(8,db b mem c),(0,df m)]
abbrev MM (a k:Int) (m:Hbm.aG):Hbm.aG:=(k,0,a,m.bU,m.bI,0,m.body)
def syC (a:Nat) (k:Int) (m:Hbm.aG) (b:Int) (mem:List Int) (c:Nat):St:=av py.ntmps 129 [(0,ao 8 0),(3,aB a),(8,ao 113 0)] [(8,db b mem c),(113,df (MM b k m))]
def PA (p a:Nat) (m:Hbm.aG):St:=av py.ntmps 129 [(0,aB p),(3,aB a),(8,ao 113 0)] [(113,df m)]
def syE (p:Nat) (m:Hbm.aG) (n k:Nat) (ms:List Hbm.aG) (a:List Hbm.Told):St:=av py.ntmps 132 [(0,aB p),(3,ao 129 0),(8,ao 113 0)] [(113,df m),(129,[.sl 130 0 0 n 7,.sl 131 0 0 k 3]),(130,[.row iJ n ms]),(131,[.row fu k a])]
def afb (p:Nat) (m:Hbm.aG) (n k:Nat) (ms:List Hbm.aG) (a:List Hbm.Told):St:=av py.ntmps 220 [(0,aB p),(3,ao 129 0),(8,ao 113 0)] [(113,df m),(129,[.sl 188 0 0 (n+1) 7,.sl 131 0 0 k 3]),(188,[.row iJ (n+1) ms]),(131,[.row fu k a])]
abbrev Xr:=aU [qD]
theorem zp:aJ Tryz.prog Xr:=aM uo bD
section
variable (gl:Nat->Option (Sigma aH)) (w0:World) (M0:Mem) (F0:Nat->Prop)
abbrev G9:Ob.cf:=Ob.lj Tryz.prog Xr gl w0 M0 F0
theorem af7 (p a i:Nat) (d:Int) (mem:List Int) (k:Int) (m:Hbm.aG) (j:m.body.length<1048576) (R:Ob.aj) {n r:ax} {x:Nat->ax}
  (h:Ob.aN Tryz.prog ((al py).drop 2) (Ob.GH (G9 gl w0 M0 F0) py.ntmps (PA p a (MM d k m)) (Ob.aj.obj [db d mem i] p R)) n r x) :
  Ob.aN Tryz.prog (al py) (Ob.GH (G9 gl w0 M0 F0) py.ntmps (lx py [aB p,sI .i64 k,mb m,aB a] [] 0) (Ob.aj.obj [db d mem i] p R)) n r x:=by
 obtain⟨mk,b,e,g,mt,f,c⟩:=m;refine Ob.gcd zp 1 (fun _=>()) (fun _=>syA p a k (mk,b,e,g,mt,f,c)) (fun _=>True) ?_ (fun _ _=>?_);intros;refine aq (X:=((syA p a k (mk,b,e,g,mt,f,c)).ah True)) ab ?_;exact au trivial;refine Ob.gR [0] (syB a k (mk,b,e,g,mt,f,c) d mem i) ?_;refine Ob.gcd zp 1 (fun _=>()) (fun _=>syC a k (mk,b,e,g,mt,f,c) d mem i) (fun _=>True) ?_ (fun _ _=>?_);intros;refine aq (X:=(pa (c,())/\(syC a k (mk,b,e,g,mt,f,c) d mem i).ah True)) ab ?_;exact⟨j,au trivial⟩;exact Ob.kr (E:=G9 gl w0 M0 F0) [113] [8] rfl ab ab rfl ab 9 (PA p a (MM d k (mk,b,e,g,mt,f,c))) (ay ab ab trivial) h
theorem af8 (p a:Nat) (m:Hbm.aG) (ms:List Hbm.aG) (c:List Hbm.Told) (k:ms.length<1000) (G:Ob.aj) {n r:ax} {x:Nat->ax}
  (h:Ob.aN Tryz.prog ((al py).drop 3) (Ob.GH (G9 gl w0 M0 F0) py.ntmps (PA p a m) (Ob.aj.sep G (eW a (ms++[m]) c))) n r x) :
  Ob.aN Tryz.prog ((al py).drop 2) (Ob.GH (G9 gl w0 M0 F0) py.ntmps (PA p a m) (Ob.aj.sep G (eW a ms c))) n r x:=by
 rw[<- BF a ms.length c.length ms c rfl rfl G];rw[<- BF a (ms.length+1) c.length (ms++[m]) c aw rfl G] at h;obtain⟨mk,b,e,g,mt,f,d⟩:=m;refine Ob.gR [3] (syE p (mk,b,e,g,mt,f,d) ms.length c.length ms c) ?_;refine Ob.gcd zp 1 (fun j=>cT iJ 188 j) (fun q=>afb p (mk,b,e,g,mt,f,d) ms.length c.length q c) (fun q=>q=ms++[(mk,b,e,g,mt,f,d)]) ?_ (fun q i=>?_);intros;refine aq (X:=(0+1<=1/\ms.length<=ms.length/\(ms.length+1)*72<=140737488355328/\ms.length+1<=4611686018427387904/\(afb p (mk,b,e,g,mt,f,d) ms.length c.length (take ms.length ms++take 1 [(mk,b,e,g,mt,f,d)]) c).ah (take ms.length ms++take 1 [(mk,b,e,g,mt,f,d)]=ms++[(mk,b,e,g,mt,f,d)]))) ab ?_;refine⟨ae,aI _,aa,aa,au ?_⟩;rw[aT];rfl;subst i;exact Ob.kr (E:=G9 gl w0 M0 F0) [113] [129,188,131] rfl ab ab rfl ab 130 (PA p a (mk,b,e,g,mt,f,d)) (ay ab ab trivial) h
def syG (p a:Nat) (m:Hbm.aG):St:=av py.ntmps 129 [(32,aB p),(33,mb m),(34,aB a)] []
theorem af9 (p a:Nat) (m:Hbm.aG) (G:Ob.aj) {n r:ax} {x:Nat->ax}
  (h:Ob.kz Tryz.prog (bC (ar (al py) 3)) 3 ((al py).drop 4) (Ob.GH (G9 gl w0 M0 F0) py.ntmps (syG p a m) G) n r x) :
  Ob.aN Tryz.prog ((al py).drop 3) (Ob.GH (G9 gl w0 M0 F0) py.ntmps (PA p a m) G) n r x:=by
 obtain⟨mk,b,d,f,mt,e,c⟩:=m;refine Ob.ep 3 (bC (ar (al py) 3)) ?_;refine Ob.gA zp 3 (fun _=>()) (fun _=>syG p a (mk,b,d,f,mt,e,c)) (fun _=>True) ?_ (fun _ _=>h);intros;refine aq (X:=((syG p a (mk,b,d,f,mt,e,c)).ah True)) ab ?_;exact au trivial
end
theorem Uc {gl:Nat->Option (Sigma aH)} {rec:bb->Hbm.aG->eG} {h:bb->Hbm.aG->Prop} {c:Nat} (i:tC gl rec h c):afr gl rec h c:=by refine Ob.c9 (sp:=Xr) qT ab (fun z=>by show 4<=py.ntmps;exact Odt ab) (fun z _=>rfl) ?_;rintro⟨H,k,m,a,ms,f⟩ ⟨g,e,j,l,d,b,n⟩ w M F;have d:ms.length+(c+1)<=1000:=d;have b:f.length+c<=1000:=b;have e:e6 H.mem m:=e;have o:=e.bI;refine Ob.aP (Th H _) ?_;refine af7 gl w M F H.p a H.mp H.me H.mem k m aa _ ?_;refine Ob.aP (Th H _).symm ?_;refine af8 gl w M F H.p a (MM H.me k m) ms f aa _ ?_;refine af9 gl w M F H.p a (MM H.me k m) _ ?_;refine Ob.kj (E:=G9 gl w M F) i ⟨H,MM H.me k m,a,ms++[MM H.me k m],f⟩ ⟨g,e.own g.me l,j,by simp only[a7,bN,eH];omega,b,n⟩ qv (fun _ _=>?_);refine Ob.ei ?_;refine Ob.gT zp mixed (.tup []) ?_ ⟨(),trivial,Ob.br _,?_⟩;intros;refine aq (X:=(SV.tup []=SV.tup [])) ab ?_;rfl;show Ob.aj.sep (bz (rec H (Hbn.own H k m)).1) (eW a (ms++[Hbn.own H k m]++(rec H (Hbn.own H k m)).2.1) (f++(rec H (Hbn.own H k m)).2.2))=_;rw[cH];rfl
set_option maxHeartbeats 4000000
def Rv (H:bb) (i:Nat) (A:Ob.aj):Ob.aj:=Ob.aj.sep (jv H.p H.me H.mem H.mp) (Ob.aj.sep (fk H.mp (gU H.talks)) (Ob.aj.sep (ft (H.talks.eraseIdx i)) A))
def JP (t:Talk) (R:Ob.aj):Ob.aj:=Ob.aj.obj [b8 t.begun t.ready t.told t.e t.r] t.ptr (Ob.aj.sep (bV t.r t.rdy) (Ob.aj.sep (bV t.e t.ech) R))
theorem Wp {H:bb} {i:Nat} (a:i<H.talks.length) {t:Talk} (e:tid t=tid (H.get i)):gU (H.set i t).talks=gU H.talks:=by have:=congrArg (List.map fun q:(Int × Int) × Nat × Nat × Nat=>(q.1,q.2.1)) (ke a e).ids;simp only[lC] at this;exact this
theorem tn {H:bb} {i:Nat} (a:i<H.talks.length) {t:Talk} (e:tid t=tid (H.get i)) (A:Ob.aj):Ob.aj.sep (bz (H.set i t)) A=JP t (Rv H i A):=by unfold bz;rw[Wp a e];show Ob.aj.sep (Ob.aj.sep (jv H.p H.me H.mem H.mp) (Ob.aj.sep (fk H.mp (gU H.talks)) (ft (H.talks.set i t)))) A=_;rw[Hc _ _ _ a];unfold Rv Hb JP;rw[Ob.bF [b8 t.begun t.ready t.told t.e t.r] t.ptr (Ob.aj.sep (bV t.r t.rdy) (bV t.e t.ech)),Ob.bF [b8 t.begun t.ready t.told t.e t.r] t.ptr (Ob.aj.sep (bV t.r t.rdy) (Ob.aj.sep (bV t.e t.ech) _))];ac_rfl
theorem rm {H:bb} {i:Nat} (a:i<H.talks.length) (A:Ob.aj):Ob.aj.sep (bz H) A=JP (H.get i) (Rv H i A):=by
 rw[<- tn a rfl A];have:H.set i (H.get i)=H:=by
  unfold Hbn.bb.set;have h:=get_at a
  rw[show H.talks.set i (H.get i)=H.talks from by
   rw[bu a] at h
   rw[<- jV h];exact List.set_getElem_self a]
 rw[this]
theorem BR:enters Tryz.prog 125 Tryz.f125:=ek
abbrev dj:Func:=Tryz.f125
def cnA (p b a:Nat) (m:Hbm.aG):St:=av dj.ntmps 8 [(0,aB p),(1,aB b),(3,aB a),(6,ao 0 0)] [(0,df m)]
def ahW (p b a:Nat) (m:Hbm.aG):St:=av dj.ntmps 8 [(0,aB p),(1,aB b),(3,aB a),(6,ao 0 0),(10,aB p)] [(0,df m)]
def cnB (p b a:Nat) (m:Hbm.aG) (f:Int):St:=av dj.ntmps 8 [(0,aB p),(1,aB b),(3,aB a),(6,ao 0 0),(8,sI .i64 f)] [(0,df m)]
def cnC (d a:Nat) (m:Hbm.aG) (f:Int) (b:Int) (mem:List Int) (c:Nat):St:=av dj.ntmps 9 [(0,ao 8 0),(1,aB d),(3,aB a),(6,ao 0 0),(8,sI .i64 f)] [(8,db b mem c),(0,df m)]
def cnD (e a:Nat) (m:Hbm.aG) (f:Int) (c:Int) (mem:List Int) (d:Nat) (b:Int):St:=av dj.ntmps 9 [(0,ao 8 0),(1,aB e),(3,aB a),(6,ao 0 0),(8,sI .i64 f),(9,sI .i64 b)] [(8,db c mem d),(0,df m)]
def DV (p d a:Nat) (m:Hbm.aG) (f c:Int):St:=av dj.ntmps 8 [(0,aB p),(1,aB d),(3,aB a),(6,ao 0 0),(8,sI .i64 f),(9,sI .i64 c)] [(0,df m)]
abbrev U8:=aU [qD]
theorem fA:aJ Tryz.prog U8:=aM uo bD
section
variable (gl:Nat->Option (Sigma aH)) (w0:World) (M0:Mem) (F0:Nat->Prop)
abbrev eC:Ob.cf:=Ob.lj Tryz.prog U8 gl w0 M0 F0
theorem afA (p c a i:Nat) (f:Int) (mem:List Int) (m:Hbm.aG) (o:mem≠[]) (s:mem.length<1000) (R:Ob.aj) {n r:ax} {x:Nat->ax}
  (h:Ob.aN Tryz.prog ((al dj).drop 3) (Ob.GH (eC gl w0 M0 F0) dj.ntmps (DV p c a m (((mem.length:Int)-1)/3) (((mem.length:Int)+((mem.length:Int)-1)/3)/2)) (Ob.aj.sep (jv p f mem i) R)) n r x) :
  Ob.aN Tryz.prog (al dj) (Ob.GH (eC gl w0 M0 F0) dj.ntmps (lx dj [aB p,aB c,mb m,aB a] [] 0) (Ob.aj.sep (jv p f mem i) R)) n r x:=by
 obtain⟨mk,b,g,l,mt,j,d⟩:=m;have y:mem.length≠0:=fun e=>o (dM e);refine Ob.eK fA 1 (cnA p c a (mk,b,g,l,mt,j,d)) ?_;refine Ob.ep 1 (bC (ar (al dj) 1)) ?_;refine Ob.dT fA 1 (ahW p c a (mk,b,g,l,mt,j,d)) ?_;refine Ob.kj (E:=eC gl w0 M0 F0) (Ob.b5 (fun _=>R) (aaX gl)) (p,f,mem,i) ⟨o,s⟩ KW (fun _ _=>?_);refine Ob.dT fA 3 (cnB p c a (mk,b,g,l,mt,j,d) (((mem.length:Int)-1)/3)) (Ob.ei ?_);refine Ob.aP (Ob.bF _ _ _).symm ?_;refine Ob.gR [0] (cnC c a (mk,b,g,l,mt,j,d) (((mem.length:Int)-1)/3) f mem i) ?_;refine Ob.gcd fA 1 (fun w=>bo (.int .i64) 9 w) (fun q=>cnD c a (mk,b,g,l,mt,j,d) (((mem.length:Int)-1)/3) f mem i q) (fun q=>q=((mem.length:Int)+((mem.length:Int)-1)/3)/2) ?_ (fun q u=>?_);intros;refine @aq (((2:Int)=0->False)/\(cnD c a (mk,b,g,l,mt,j,d) (((mem.length:Int)-1)/3) f mem i (IntKind.i64.wrap ((IntKind.i64.wrap ((mem.length:Int)+((mem.length:Int)-1)/3)).tdiv 2))).ah (IntKind.i64.wrap ((IntKind.i64.wrap ((mem.length:Int)+((mem.length:Int)-1)/3)).tdiv 2)=((mem.length:Int)+((mem.length:Int)-(1:aH (Kd.int IntKind.i64)))/(3:aH (Kd.int IntKind.i64)))/(2:aH (Kd.int IntKind.i64)))) _ ?_ ?_;kernel_rfl;refine⟨ae,au ?_⟩;rw[ba (a:=(mem.length:Int)+((mem.length:Int)-1)/3) aa aa,sE aa];exact ba aa aa;subst u;refine Ob.fj (E:=eC gl w0 M0 F0) (bl:=[db f mem i]) [0] [8] 9 (DV p c a (mk,b,g,l,mt,j,d) (((mem.length:Int)-1)/3) (((mem.length:Int)+((mem.length:Int)-1)/3)/2)) ?_;exact Ob.aP (E:=eC gl w0 M0 F0) (Ob.bF _ _ _) h
abbrev Hf (b rd d:Bool) (e r:Nat):List Cell:=b8 b rd d e r
def N8 (p a:Nat) (m:Hbm.aG) (f c:Int) (b rd d:Bool) (e r:Nat) (q:SV):St:=av dj.ntmps 9 [(0,aB p),(1,ao 8 0),(3,aB a),(6,ao 0 0),(8,sI .i64 f),(9,sI .i64 c),(25,q)] [(8,b8 b rd d e r),(0,df m)]
def ab8 (p a:Nat) (m:Hbm.aG) (f c:Int) (b rd d:Bool) (e r:Nat):St:=av dj.ntmps 9 [(0,aB p),(1,ao 8 0),(3,aB a),(6,ao 0 0),(8,sI .i64 f),(9,sI .i64 c),(25,ag .T),(29,nE e),(31,lP m.body),(33,sI .i64 c)] [(8,b8 b rd d e r),(0,df m)]
def KL (p a:Nat) (m:Hbm.aG) (f c:Int) (b rd d:Bool) (e r:Nat) (q:SV):St:=av dj.ntmps 9 [(0,aB p),(1,ao 8 0),(3,aB a),(6,ao 0 0),(8,sI .i64 f),(9,sI .i64 c),(25,ag .T),(35,q)] [(8,b8 b rd d e r),(0,df m)]
def ab9 (p a:Nat) (m:Hbm.aG) (f c:Int) (b rd d:Bool) (e r:Nat):St:=av dj.ntmps 9 [(0,aB p),(1,ao 8 0),(3,aB a),(6,ao 0 0),(8,sI .i64 f),(9,sI .i64 c),(25,ag .T),(35,ag .F),(39,nE r),(41,lP m.body),(43,sI .i64 f)] [(8,b8 b rd d e r),(0,df m)]
def Eu (p a:Nat) (m:Hbm.aG) (f c:Int) (b rd d:Bool) (e r:Nat) (q:SV):St:=av dj.ntmps 9 [(0,aB p),(1,ao 8 0),(3,aB a),(6,ao 0 0),(8,sI .i64 f),(9,sI .i64 c),(46,q)] [(8,b8 b rd d e r),(0,df m)]
def X5 (p c a:Nat) (m:Hbm.aG) (f b:Int) (q:SV):St:=av dj.ntmps 8 [(0,aB p),(1,aB c),(3,aB a),(6,ao 0 0),(8,sI .i64 f),(9,sI .i64 b),(46,q)] [(0,df m)]
abbrev pi3:List Nat:=[0,1,2,3,4,5,13,6,7,8,9,10,11,12,14,15,23,16,17,18,19,20,21,22,24,25,26]
theorem afB (p y a:Nat) (m:Hbm.aG) (f j:Int) (b rd l:Bool) (e r:Nat) (d i:Hbm.gw) (O:nM d) (P:nM i) (L:Bs m.body) (N:m.body.length<1048576) (R:Ob.aj) {n I:ax} {x:Nat->ax}
  (h:∀ q,q=(!rd&&(decide (Hbm.kf d m.body>j)||decide (Hbm.kf i m.body>f)))->Ob.aN Tryz.prog ((al dj).drop 4) (Ob.GH (eC gl w0 M0 F0) dj.ntmps (X5 p y a m f j (aA q)) (Ob.aj.obj [b8 b rd l e r] y (Ob.aj.sep (bV r i) (Ob.aj.sep (bV e d) R)))) n I x) :
  Ob.aN Tryz.prog ((al dj).drop 3) (Ob.GH (eC gl w0 M0 F0) dj.ntmps (DV p y a m f j) (Ob.aj.obj [b8 b rd l e r] y (Ob.aj.sep (bV r i) (Ob.aj.sep (bV e d) R)))) n I x:=by
 obtain⟨mk,c,o,w,mt,u,g⟩:=m;have z:∀ q s,cL s (aA q)->q=(!rd&&(decide (Hbm.kf d g>j)||decide (Hbm.kf i g>f)))->Ob.aN Tryz.prog ((al dj).drop 4) (Ob.GH ((eC gl w0 M0 F0).pinned 8 y) dj.ntmps (Eu p a (mk,c,o,w,mt,u,g) f j b rd l e r s) (Ob.aj.sep (bV r i) (Ob.aj.sep (bV e d) R))) n I x:=by intro q s Q A;refine Ob.iw 46 (aA q) Q ?_;exact Ob.kr (E:=eC gl w0 M0 F0) (bl:=[b8 b rd l e r]) [0] [8] rfl ab ab rfl ab 9 (X5 p y a (mk,c,o,w,mt,u,g) f j (aA q)) (ay ab ab trivial) (h q A)
 refine Ob.iD mixed (rid:=3) (ops:=bC (ar (al dj) 3)) ab ?_;refine Ob.Lg pi3 ab ?_;refine Ob.qw (E:=eC gl w0 M0 F0) [1] ab (N8 p a (mk,c,o,w,mt,u,g) f j b rd l e r .junk) (ay ab ab trivial) ?_;refine Ob.eL fA 6 (fun D=>bo .bool 25 D) (fun q=>N8 p a (mk,c,o,w,mt,u,g) f j b rd l e r (aA q)) (fun q=>q=!rd) ae ab ?_ (fun q A=>?_);intros;refine @aq ((N8 p a (mk,c,o,w,mt,u,g) f j b rd l e r (aA !rd)).ah ((!rd)=!rd)) _ ?_ ?_;kernel_rfl;exact au rfl;cases q;refine Ob.qX (E:=(eC gl w0 M0 F0).pinned 8 y) 25 (ag .F) Ob.pQ ?_;refine Ob.ug (E:=(eC gl w0 M0 F0).pinned 8 y) (τ:=N8 p a (mk,c,o,w,mt,u,g) f j b rd l e r (ag .F)) (K:=True) (ay ab ab trivial) fun _=>?_;refine Ob.gS fA (fun _=>()) (fun _=>Eu p a (mk,c,o,w,mt,u,g) f j b rd l e r (ag .F)) (fun _=>True) (Odt ab) ?_ (fun _ _=>z false _ Ob.rf (by rw[<- A];rfl));intros;refine @aq ((Eu p a (mk,c,o,w,mt,u,g) f j b rd l e r (SV.is (TV.one Cell.F))).ah True) _ ?_ ?_;kernel_rfl;exact au trivial;refine Ob.qX (E:=(eC gl w0 M0 F0).pinned 8 y) 25 (ag .T) Ob.gF ?_;refine Ob.ug (E:=(eC gl w0 M0 F0).pinned 8 y) (τ:=N8 p a (mk,c,o,w,mt,u,g) f j b rd l e r (ag .T)) (K:=True) (ay ab ab trivial) fun _=>?_;refine Ob.zQ (E:=(eC gl w0 M0 F0).pinned 8 y) (sI .i64 j) ab ab (Ob.CE (S:=(N8 p a (mk,c,o,w,mt,u,g) f j b rd l e r (ag .T)).S) (.tmp 9)) ?_;refine Ob.eL fA 13 (fun _=>()) (fun _=>ab8 p a (mk,c,o,w,mt,u,g) f j b rd l e r) (fun _=>True) ae ab ?_ (fun _ _=>?_);intros;refine @aq ((ab8 p a (mk,c,o,w,mt,u,g) f j b rd l e r).ah True) _ ?_ ?_;kernel_rfl;exact au trivial;refine Ob.sP (E:=(eC gl w0 M0 F0).pinned 8 y) (G':=Ob.aj.sep (bV e d) (Ob.aj.sep (bV r i) R)) (by ac_rfl) ?_;refine Ob.o1 (Ob.eO (E:=(eC gl w0 M0 F0).pinned 8 y) (Ob.b5 (fun _=>Ob.aj.sep (bV r i) R) (EP gl)) (e,d,g) ⟨O,L,N⟩ ab xd ab ab (fun _=>rfl)) ab ab (fun _ _=>?_);refine Ob.eL fA 16 (fun D=>bo .bool 35 D) (fun q=>KL p a (mk,c,o,w,mt,u,g) f j b rd l e r (aA q)) (fun q=>q=decide (Hbm.kf d g>j)) ae ab ?_ (fun q C=>?_);intros;refine @aq ((KL p a (mk,c,o,w,mt,u,g) f j b rd l e r (aA (decide (Hbm.kf d g>j)))).ah (decide (Hbm.kf d g>j)=decide (Hbm.kf d g>j))) _ ?_ ?_;kernel_rfl;exact au rfl;cases q;refine Ob.qX (E:=(eC gl w0 M0 F0).pinned 8 y) 35 (ag .F) Ob.pQ ?_;refine Ob.ug (E:=(eC gl w0 M0 F0).pinned 8 y) (τ:=KL p a (mk,c,o,w,mt,u,g) f j b rd l e r (ag .F)) (K:=True) (ay ab ab trivial) fun _=>?_;refine Ob.zQ (E:=(eC gl w0 M0 F0).pinned 8 y) (sI .i64 f) ab ab (Ob.CE (S:=(KL p a (mk,c,o,w,mt,u,g) f j b rd l e r (ag .F)).S) (.tmp 8)) ?_;refine Ob.eL fA 23 (fun _=>()) (fun _=>ab9 p a (mk,c,o,w,mt,u,g) f j b rd l e r) (fun _=>True) ae ab ?_ (fun _ _=>?_);intros;refine @aq ((ab9 p a (mk,c,o,w,mt,u,g) f j b rd l e r).ah True) _ ?_ ?_;kernel_rfl;exact au trivial;refine Ob.sP (E:=(eC gl w0 M0 F0).pinned 8 y) (G':=Ob.aj.sep (bV r i) (Ob.aj.sep (bV e d) R)) (by show Ob.aj.sep (bV e d) (Ob.aj.sep (bV r i) R)=_;ac_rfl) ?_;refine Ob.o1 (Ob.eO (E:=(eC gl w0 M0 F0).pinned 8 y) (Ob.b5 (fun _=>Ob.aj.sep (bV e d) R) (EP gl)) (r,i,g) ⟨P,L,N⟩ ab xd ab ab (fun _=>rfl)) ab ab (fun _ _=>?_);refine Ob.gS fA (fun D=>bo .bool 46 D) (fun q=>Eu p a (mk,c,o,w,mt,u,g) f j b rd l e r (aA q)) (fun q=>q=decide (Hbm.kf i g>f)) (Odt ab) ?_ (fun q G=>z q _ (Ob.br _) (by rw[<- A,<- C,G];rfl));intros;refine @aq ((Eu p a (mk,c,o,w,mt,u,g) f j b rd l e r (aA (decide (Hbm.kf i g>f)))).ah (decide (Hbm.kf i g>f)=decide (Hbm.kf i g>f))) _ ?_ ?_;kernel_rfl;exact au rfl;refine Ob.qX (E:=(eC gl w0 M0 F0).pinned 8 y) 35 (ag .T) Ob.gF ?_;refine Ob.ug (E:=(eC gl w0 M0 F0).pinned 8 y) (τ:=KL p a (mk,c,o,w,mt,u,g) f j b rd l e r (ag .T)) (K:=True) (ay ab ab trivial) fun _=>?_;refine Ob.sP (E:=(eC gl w0 M0 F0).pinned 8 y) (G':=Ob.aj.sep (bV r i) (Ob.aj.sep (bV e d) R)) (by show Ob.aj.sep (bV e d) (Ob.aj.sep (bV r i) R)=_;ac_rfl) ?_;refine Ob.gS fA (fun _=>()) (fun _=>Eu p a (mk,c,o,w,mt,u,g) f j b rd l e r (ag .T)) (fun _=>True) (Odt ab) ?_ (fun _ _=>z true _ Ob.CG (by rw[<- A,<- C];rfl));intros;refine @aq ((Eu p a (mk,c,o,w,mt,u,g) f j b rd l e r (SV.is (TV.one Cell.T))).ah True) _ ?_ ?_;kernel_rfl;exact au trivial
end
set_option maxHeartbeats 4000000
abbrev cnI:List Code:=fX (ar (al dj) 4)
def X6 (p a:Nat) (m:Hbm.aG) (f b:Int) (c:List Cell):St:=av dj.ntmps 9 [(0,aB p),(1,ao 8 0),(3,aB a),(6,ao 0 0),(8,sI .i64 f),(9,sI .i64 b)] [(8,c),(0,df m)]
def cnW (p c a:Nat) (m:Hbm.aG) (f b:Int):St:=av dj.ntmps 8 [(0,aB p),(1,aB c),(3,aB a),(6,ao 0 0),(8,sI .i64 f),(9,sI .i64 b),(50,aB p),(51,mb m),(52,aB a)] [(0,df m)]
section
variable (gl:Nat->Option (Sigma aH)) (w0:World) (M0:Mem) (F0:Nat->Prop)
theorem afC (p g a:Nat) (m:Hbm.aG) (f d:Int) (b rd q:Bool) (e r:Nat) (G:Ob.aj) {n s:ax} {x:Nat->ax}
  (h:Ob.kz Tryz.prog (bC (ar cnI 1)) 3 ((al dj).drop 5) (Ob.GH (eC gl w0 M0 F0) dj.ntmps (cnW p g a m f d) (Ob.aj.obj [b8 b true q e r] g G)) n s x) :
  Ob.aN Tryz.prog ((al dj).drop 4) (Ob.GH (eC gl w0 M0 F0) dj.ntmps (X5 p g a m f d (aA true)) (Ob.aj.obj [b8 b rd q e r] g G)) n s x:=by
 obtain⟨mk,c,j,o,mt,l,i⟩:=m;refine Ob.je (ar (al dj) 4) ?_;refine Ob.gR [1] (X6 p a (mk,c,j,o,mt,l,i) f d (b8 b rd q e r)) ?_;refine Ob.eK fA 1 (X6 p a (mk,c,j,o,mt,l,i) f d [.v (.bool b),.T,.v (.bool q),.v (.map (some e)),.v (.map (some r))]) ?_;refine Ob.fj (E:=eC gl w0 M0 F0) (bl:=[b8 b true q e r]) [0] [8] 9 (DV p g a (mk,c,j,o,mt,l,i) f d) ?_;refine Ob.ep 5 (bC (ar cnI 1)) ?_;refine Ob.gA fA 3 (fun _=>()) (fun _=>cnW p g a (mk,c,j,o,mt,l,i) f d) (fun _=>True) ?_ (fun _ _=>h);intros;refine @aq ((cnW p g a (mk,c,j,o,mt,l,i) f d).ah True) _ ?_ ?_;kernel_rfl;exact au trivial
theorem afF (p d a:Nat) (m:Hbm.aG) (f b:Int) (G:Ob.aj) {n e:ax} {x:Nat->ax}
  (h:Ob.aN Tryz.prog ((al dj).drop 5) (Ob.GH (eC gl w0 M0 F0) dj.ntmps (DV p d a m f b) G) n e x) :
  Ob.aN Tryz.prog ((al dj).drop 4) (Ob.GH (eC gl w0 M0 F0) dj.ntmps (X5 p d a m f b (aA false)) G) n e x:=by
 obtain⟨mk,c,i,l,mt,j,g⟩:=m;refine Ob.e5 (ar (al dj) 4) ?_;refine Ob.fR (DV p d a (mk,c,i,l,mt,j,g) f b) ?_;exact h
def KK (p a:Nat) (m:Hbm.aG) (f c:Int) (b rd d:Bool) (e r:Nat) (q:SV):St:=av dj.ntmps 9 [(0,aB p),(1,ao 8 0),(3,aB a),(6,ao 0 0),(8,sI .i64 f),(9,sI .i64 c),(59,q)] [(8,b8 b rd d e r),(0,df m)]
def cn7 (p a:Nat) (m:Hbm.aG) (f c:Int) (b rd d:Bool) (e r:Nat):St:=av dj.ntmps 9 [(0,aB p),(1,ao 8 0),(3,aB a),(6,ao 0 0),(8,sI .i64 f),(9,sI .i64 c),(59,ag .T),(63,nE r),(65,lP m.body),(68,sI .i64 (IntKind.i64.wrap (2*f)))] [(8,b8 b rd d e r),(0,df m)]
def Sj (p a:Nat) (m:Hbm.aG) (f c:Int) (b rd d:Bool) (e r:Nat) (q:SV):St:=av dj.ntmps 9 [(0,aB p),(1,ao 8 0),(3,aB a),(6,ao 0 0),(8,sI .i64 f),(9,sI .i64 c),(70,q)] [(8,b8 b rd d e r),(0,df m)]
def X4 (p d a:Nat) (m:Hbm.aG) (f c:Int) (q:SV):St:=av dj.ntmps 8 [(0,aB p),(1,aB d),(3,aB a),(6,ao 0 0),(8,sI .i64 f),(9,sI .i64 c),(70,q)] [(0,df m)]
abbrev pi6:List Nat:=[0,1,2,3,4,5,13,14,6,7,8,9,10,11,12,15,16]
theorem afD (p u a:Nat) (m:Hbm.aG) (f j:Int) (b rd g:Bool) (e r:Nat) (d:Hbm.gw) (H:nM d) (I:Bs m.body) (N:m.body.length<1048576) (L:0<=f/\f<1000) (R:Ob.aj) {n D:ax} {x:Nat->ax}
  (h:∀ q,q=(!g&&decide (Hbm.kf d m.body>2*f))->Ob.aN Tryz.prog ((al dj).drop 6) (Ob.GH (eC gl w0 M0 F0) dj.ntmps (X4 p u a m f j (aA q)) (Ob.aj.obj [b8 b rd g e r] u (Ob.aj.sep (bV r d) R))) n D x) :
  Ob.aN Tryz.prog ((al dj).drop 5) (Ob.GH (eC gl w0 M0 F0) dj.ntmps (DV p u a m f j) (Ob.aj.obj [b8 b rd g e r] u (Ob.aj.sep (bV r d) R))) n D x:=by
 obtain⟨mk,c,k,o,mt,l,i⟩:=m;have C:IntKind.i64.wrap (2*f)=2*f:=ba aa aa;have w:∀ q s,cL s (aA q)->q=(!g&&decide (Hbm.kf d i>2*f))->Ob.aN Tryz.prog ((al dj).drop 6) (Ob.GH ((eC gl w0 M0 F0).pinned 8 u) dj.ntmps (Sj p a (mk,c,k,o,mt,l,i) f j b rd g e r s) (Ob.aj.sep (bV r d) R)) n D x:=by intro q s O z;refine Ob.iw 70 (aA q) O ?_;exact Ob.kr (E:=eC gl w0 M0 F0) (bl:=[b8 b rd g e r]) [0] [8] rfl ab ab rfl ab 9 (X4 p u a (mk,c,k,o,mt,l,i) f j (aA q)) (ay ab ab trivial) (h q z)
 refine Ob.iD mixed (rid:=6) (ops:=bC (ar (al dj) 5)) ab ?_;refine Ob.Lg pi6 ab ?_;refine Ob.qw (E:=eC gl w0 M0 F0) [1] ab (KK p a (mk,c,k,o,mt,l,i) f j b rd g e r .junk) (ay ab ab trivial) ?_;refine Ob.eL fA 6 (fun G=>bo .bool 59 G) (fun q=>KK p a (mk,c,k,o,mt,l,i) f j b rd g e r (aA q)) (fun q=>q=!g) ae ab ?_ (fun q z=>?_);intros;refine @aq ((KK p a (mk,c,k,o,mt,l,i) f j b rd g e r (aA !g)).ah ((!g)=!g)) _ ?_ ?_;kernel_rfl;exact au rfl;cases q;refine Ob.qX (E:=(eC gl w0 M0 F0).pinned 8 u) 59 (ag .F) Ob.pQ ?_;refine Ob.ug (E:=(eC gl w0 M0 F0).pinned 8 u) (τ:=KK p a (mk,c,k,o,mt,l,i) f j b rd g e r (ag .F)) (K:=True) (ay ab ab trivial) fun _=>?_;refine Ob.gS fA (fun _=>()) (fun _=>Sj p a (mk,c,k,o,mt,l,i) f j b rd g e r (ag .F)) (fun _=>True) (Odt ab) ?_ (fun _ _=>w false _ Ob.rf (by rw[<- z];rfl));intros;refine @aq ((Sj p a (mk,c,k,o,mt,l,i) f j b rd g e r (SV.is (TV.one Cell.F))).ah True) _ ?_ ?_;kernel_rfl;exact au trivial;refine Ob.qX (E:=(eC gl w0 M0 F0).pinned 8 u) 59 (ag .T) Ob.gF ?_;refine Ob.ug (E:=(eC gl w0 M0 F0).pinned 8 u) (τ:=KK p a (mk,c,k,o,mt,l,i) f j b rd g e r (ag .T)) (K:=True) (ay ab ab trivial) fun _=>?_;refine Ob.zQ (E:=(eC gl w0 M0 F0).pinned 8 u) (sI .i64 f) ab ab (Ob.CE (S:=(KK p a (mk,c,k,o,mt,l,i) f j b rd g e r (ag .T)).S) (.tmp 8)) ?_;refine Ob.zQ (E:=(eC gl w0 M0 F0).pinned 8 u) (sI .i64 (IntKind.i64.wrap (2*f))) ab ab (Ob.WV (S:=((KK p a (mk,c,k,o,mt,l,i) f j b rd g e r (ag .T)).put (some 67) (sI .i64 f)).S) (t:=3) (t':=3) (x:=.const (.int .i64 2)) (y:=.tmp 67) (a:=2) (b:=f) ab ab) ?_;refine Ob.eL fA 14 (fun _=>()) (fun _=>cn7 p a (mk,c,k,o,mt,l,i) f j b rd g e r) (fun _=>True) ae ab ?_ (fun _ _=>?_);intros;refine @aq ((cn7 p a (mk,c,k,o,mt,l,i) f j b rd g e r).ah True) _ ?_ ?_;kernel_rfl;exact au trivial;refine Ob.o1 (Ob.eO (E:=(eC gl w0 M0 F0).pinned 8 u) (Ob.b5 (fun _=>R) (EP gl)) (r,d,i) ⟨H,I,N⟩ ab xd ab ab (fun _=>rfl)) ab ab (fun _ _=>?_);refine Ob.gS fA (fun G=>bo .bool 70 G) (fun q=>Sj p a (mk,c,k,o,mt,l,i) f j b rd g e r (aA q)) (fun q=>q=decide (Hbm.kf d i>IntKind.i64.wrap (2*f))) (Odt ab) ?_ (fun q A=>w q _ (Ob.br _) (by rw[<- z,A,C];rfl));intros;refine @aq ((Sj p a (mk,c,k,o,mt,l,i) f j b rd g e r (aA (decide (Hbm.kf d i>IntKind.i64.wrap (2*f))))).ah (decide (Hbm.kf d i>IntKind.i64.wrap (2*f))=decide (Hbm.kf d i>IntKind.i64.wrap (2*f)))) _ ?_ ?_;kernel_rfl;exact au rfl
def cnP (p a:Nat) (m:Hbm.aG) (n k:Nat) (ms:List Hbm.aG) (b:List Hbm.Told):St:=av dj.ntmps 11 [(0,aB p),(1,aB a),(3,ao 8 0),(6,ao 0 0)] [(0,df m),(8,[.sl 9 0 0 n 7,.sl 10 0 0 k 3]),(9,[.row iJ n ms]),(10,[.row fu k b])]
def cnQ (n k:Nat) (ms:List Hbm.aG) (a:List Hbm.Told):St:=av dj.ntmps 155 [(3,ao 8 0)] [(8,[.sl 9 0 0 n 7,.sl 123 0 0 (k+1) 3]),(9,[.row iJ n ms]),(123,[.row fu (k+1) a])]
def Sk:St:=av dj.ntmps 8 [] []
theorem afE (p j a:Nat) (m:Hbm.aG) (f l:Int) (b rd y:Bool) (e r:Nat) (G k:Ob.aj) (ms:List Hbm.aG) (c:List Hbm.Told) (z:m.body.length<1048576) (D:c.length<1000) (u:Ob.aj.obj [b8 b rd true e r] j G=Ob.aj.sep k (eW a ms c)) {n w:ax} {x:Nat->ax}
  (h:Ob.aN Tryz.prog ((al dj).drop 7) (Ob.GH (eC gl w0 M0 F0) dj.ntmps Sk (Ob.aj.sep k (eW a ms (c++[(m.bI,m.bU,m.body)])))) n w x) :
  Ob.aN Tryz.prog ((al dj).drop 6) (Ob.GH (eC gl w0 M0 F0) dj.ntmps (X4 p j a m f l (aA true)) (Ob.aj.obj [b8 b rd y e r] j G)) n w x:=by
 rw[<- BF a ms.length (c.length+1) ms (c++[(m.bI,m.bU,m.body)]) rfl aw k] at h;rw[<- BF a ms.length c.length ms c rfl rfl k] at u;obtain⟨mk,g,o,i,mt,s,d⟩:=m;refine Ob.je (ar (al dj) 6) ?_;refine Ob.gR [1] (X6 p a (mk,g,o,i,mt,s,d) f l (b8 b rd y e r)) ?_;refine Ob.eK fA 1 (X6 p a (mk,g,o,i,mt,s,d) f l [.v (.bool b),.v (.bool rd),.T,.v (.map (some e)),.v (.map (some r))]) ?_;refine Ob.fj (E:=eC gl w0 M0 F0) (bl:=[b8 b rd true e r]) [0] [8] 9 (DV p j a (mk,g,o,i,mt,s,d) f l) ?_;refine Ob.aP u ?_;refine Ob.gR [3] (cnP p j (mk,g,o,i,mt,s,d) ms.length c.length ms c) ?_;refine Ob.gcd fA 1 (fun C=>cT fu 123 C) (fun q=>cnQ ms.length c.length ms q) (fun q=>q=c++[(mt,i,d)]) ?_ (fun q A=>?_);intros;refine @aq (pa (d,())/\0+1<=1/\c.length<=c.length/\(c.length+1)*40<=140737488355328/\c.length+1<=4611686018427387904/\(cnQ ms.length c.length ms (take c.length c++take 1 [(mt,i,(d,()).fst)])).ah (take c.length c++take 1 [(mt,i,d)]=c++[(mt,i,d)])) _ ?_ ?_;kernel_rfl;refine⟨z,ae,aI _,aa,aa,au ?_⟩;rw[aT];rfl;subst A;exact Ob.kr (E:=eC gl w0 M0 F0) [] [8,9,123] rfl ab ab rfl ab 9 Sk (ay ab ab trivial) h
theorem afG (p e a:Nat) (m:Hbm.aG) (f c:Int) (G:Ob.aj) {n b:ax} {x:Nat->ax}
  (h:Ob.aN Tryz.prog ((al dj).drop 7) (Ob.GH (eC gl w0 M0 F0) dj.ntmps Sk G) n b x) :
  Ob.aN Tryz.prog ((al dj).drop 6) (Ob.GH (eC gl w0 M0 F0) dj.ntmps (X4 p e a m f c (aA false)) G) n b x:=by
 obtain⟨mk,d,i,k,mt,j,g⟩:=m;refine Ob.e5 (ar (al dj) 6) ?_;refine Ob.fR Sk ?_;exact h
theorem X8 {H:bb} (h:du H) {m:Hbm.aG} (o:e6 H.mem m) (i:H.at m<H.talks.length) (p r a:Nat) (f g:Int) (n:f=H.qy) (s:r=(H.get (H.at m)).ptr) (ms:List Hbm.aG) (j:List Hbm.Told) (y:j.length<1000) {Q:SV->Ob.aj->Prop}
  (c:Q (.tup []) (Ob.aj.sep (bz (Hbn.kh H (H.at m) m).1) (eW a (ms++(Hbn.kh H (H.at m) m).2.1) (j++(Hbn.kh H (H.at m) m).2.2)))) :
  Ob.aN Tryz.prog ((al dj).drop 5) (Ob.GH (eC gl w0 M0 F0) dj.ntmps (DV p r a m f g) (Ob.aj.sep (bz H) (eW a ms j))) (Ob.c1 (eC gl w0 M0 F0) dj Q) (Ob.c1 (eC gl w0 M0 F0) dj Q) (fun _ _ _=>False):=by
 have d:∀ G,Q (.tup []) G->Ob.aN Tryz.prog ((al dj).drop 7) (Ob.GH (eC gl w0 M0 F0) dj.ntmps Sk G) (Ob.c1 (eC gl w0 M0 F0) dj Q) (Ob.c1 (eC gl w0 M0 F0) dj Q) (fun _ _ _=>False):=by intro G u;exact Ob.sn fA (.tup []) u
 have x:=h.sd i;have z:=o.bI;have A:=h.len;have C:H.mem.length≠0:=fun e=>h.ne (dM e);have l:0<=f/\f<1000:=by rw[n];unfold Hbn.bb.qy;omega
 refine Ob.aP (rm i _) ?_;unfold JP;subst s;refine afD gl w0 M0 F0 p _ a m f g _ _ _ _ _ _ (x.2.ok h.len h.i64) o.b aa l _ fun q w=>?_;unfold Hbn.kh at c;rw[<- n,<- w] at c;cases q;refine afG gl w0 M0 F0 p _ a m f g _ ?_;refine Ob.aP (rm i _).symm ?_;refine d _ ?_;rw[ai ae] at c;rw[bw,bw] at c;exact c;refine afE gl w0 M0 F0 p _ a m f g _ _ _ _ _ _ (bz (H.set (H.at m) { H.get (H.at m) with told:=true })) ms j aa y (tn i (t:={ H.get (H.at m) with told:=true }) rfl _).symm ?_;refine d _ ?_;rw[ak rfl] at c;rw[bw] at c;exact c
end
structure CIn where
 H:bb
 m:Hbm.aG
 a:Nat
 ms:List Hbm.aG
 ts:List Hbm.Told
def XS (gl:Nat->Option (Sigma aH)) (rec:bb->Hbm.aG->eG) (b:bb->Hbm.aG->Prop) (c:Nat):Prop :=
 Ob.ez Tryz.prog gl 125 (fun z:CIn=>[aB z.H.p,aB (z.H.get (z.H.at z.m)).ptr,mb z.m,aB z.a]) (fun z=>du z.H/\e6 z.H.mem z.m/\z.H.at z.m<z.H.talks.length/\z.ms.length+c<=1000/\z.ts.length+c<=1000/\((z.H.get (z.H.at z.m)).ready=false->b (z.H.set (z.H.at z.m) { z.H.get (z.H.at z.m) with ready:=true }) (Hbn.own z.H 3 z.m)))
  (fun z=>Ob.aj.sep (bz z.H) (eW z.a z.ms z.ts)) (fun _ (_:Unit)=>.tup []) (fun z _=>Ob.aj.sep (bz (Hbn.dJ rec z.H (z.H.at z.m) z.m).1) (eW z.a (z.ms++(Hbn.dJ rec z.H (z.H.at z.m) z.m).2.1) (z.ts++(Hbn.dJ rec z.H (z.H.at z.m) z.m).2.2))) (fun _ _=>True)
theorem ace {gl:Nat->Option (Sigma aH)} {rec:bb->Hbm.aG->eG} {N:bb->Hbm.aG->Prop} {c K:Nat} (T:tC gl rec N c) (V:ru rec) (U:tE rec K):XS gl rec N (c+K+1):=by
 refine Ob.c9 (sp:=U8) BR ab (fun z=>by show 4<=dj.ntmps;exact Odt ab) (fun z _=>rfl) ?_;rintro⟨H,m,a,ms,f⟩ ⟨e,h,d,o,r,I⟩ w M F;have o:ms.length+(c+K+1)<=1000:=o;have r:f.length+(c+K+1)<=1000:=r;have h:e6 H.mem m:=h;have d:H.at m<H.talks.length:=d;have I:(H.get (H.at m)).ready=false->N (H.set (H.at m) { H.get (H.at m) with ready:=true }) (Hbn.own H 3 m):=I;have u:=e.sd d;have Z:=h.bI;refine Ob.aP (G':=Ob.aj.sep (jv H.p H.me H.mem H.mp) (Ob.aj.sep (fk H.mp (gU H.talks)) (Ob.aj.sep (ft H.talks) (eW a ms f)))) (by show Ob.aj.sep (bz H) _=_;unfold bz;ac_rfl) ?_;refine afA gl w M F H.p _ a H.mp H.me H.mem m e.ne e.len _ ?_;refine Ob.aP (G':=Ob.aj.sep (bz H) (eW a ms f)) (by unfold bz;ac_rfl) ?_;refine Ob.aP (rm d _) ?_;unfold JP;refine afB gl w M F H.p _ a m _ _ _ _ _ _ _ _ _ (u.1.ok e.len e.i64) (u.2.ok e.len e.i64) h.b aa _ fun q j=>?_;have j:q=(!(H.get (H.at m)).ready&&(decide (Hbm.kf (H.get (H.at m)).ech m.body>H.half)||decide (Hbm.kf (H.get (H.at m)).rdy m.body>H.qy))):=j;cases q;refine afF gl w M F H.p _ a m _ _ _ ?_;refine Ob.aP (rm d _).symm ?_;refine X8 gl w M F e h d H.p _ a _ _ rfl rfl ms f aa ⟨(),trivial,Ob.br _,?_⟩;show _=Ob.aj.sep (bz (Hbn.dJ rec H (H.at m) m).1) (eW a (ms++(Hbn.dJ rec H (H.at m) m).2.1) (f++(Hbn.dJ rec H (H.at m) m).2.2));unfold Hbn.dJ;rw[<- j,ai ae]
 ·have L:(H.get (H.at m)).ready=false:=by
   cases R:(H.get (H.at m)).ready with
   | false=>rfl
   | true=>rw[R] at j;cases j
  have nS:iH H (H.set (H.at m) { H.get (H.at m) with ready:=true }):=ke d rfl;have s:du (H.set (H.at m) { H.get (H.at m) with ready:=true }):=rR e d rfl u.1 u.2;have A:(H.set (H.at m) { H.get (H.at m) with ready:=true }).at m=H.at m:=qf nS m;have n:(H.set (H.at m) { H.get (H.at m) with ready:=true }).at m<(H.set (H.at m) { H.get (H.at m) with ready:=true }).talks.length:=by rw[A,kW nS];exact d
  have C:=DB V s (m:=m) h n (k:=3) (.inr rfl);have G:=U (H.set (H.at m) { H.get (H.at m) with ready:=true }) (Hbn.own (H.set (H.at m) { H.get (H.at m) with ready:=true }) 3 m);have y:Hbn.dJ rec H (H.at m) m=Hbn.andThen (Hbn.mg rec (H.set (H.at m) { H.get (H.at m) with ready:=true }) 3 m) (fun P=>Hbn.kh P (H.at m) m):=by unfold Hbn.dJ;rw[<- j,ak rfl]
  have i:(Hbn.mg rec (H.set (H.at m) { H.get (H.at m) with ready:=true }) 3 m).2.2.length<=K:=G.2;refine afC gl w M F H.p _ a m _ _ _ _ _ _ _ _ ?_;refine Ob.vH (E:=eC gl w M F) (tn d (t:={ H.get (H.at m) with ready:=true }) rfl _).symm ?_;refine Ob.kj (E:=eC gl w M F) (Uc T) ⟨H.set (H.at m) { H.get (H.at m) with ready:=true },3,m,a,ms,f⟩ ⟨s,h,n,.inr rfl,(by omega:ms.length+(c+1)<=1000),(by omega:f.length+c<=1000),I L⟩ qT (fun _ _=>?_);refine Ob.ei ?_;revert y C i;show ∀ (_:Good _ (Hbn.mg rec (H.set (H.at m) { H.get (H.at m) with ready:=true }) 3 m)),_;generalize Y:Hbn.mg rec (H.set (H.at m) { H.get (H.at m) with ready:=true }) 3 m=X;obtain⟨g,W,O⟩:=X;intro C y i;obtain⟨g1,g2⟩:=C;have g2:iH (H.set (H.at m) { H.get (H.at m) with ready:=true }) g:=g2;have l:iH H g:=nS.trans g2;have x:g.at m=H.at m:=qf l m;have D:g.at m<g.talks.length:=by rw[x,kW l];exact d
  have Q:(H.get (H.at m)).ptr=(g.get (g.at m)).ptr:=by rw[x];have:=OA l d;unfold tid at this;simp only[aL] at this;exact this.2.1.symm
  refine Ob.fR (DV H.p (H.get (H.at m)).ptr a m (((H.mem.length:Int)-1)/3) (((H.mem.length:Int)+((H.mem.length:Int)-1)/3)/2)) ?_;refine X8 gl w M F (H:=g) g1 (m:=m) (by rw[l.mem];exact h) D H.p _ a _ _ (by unfold Hbn.bb.qy;rw[l.mem]) Q (ms++W) (f++O) (by rw[a7];have:O.length<=K:=i;omega) ⟨(),trivial,Ob.br _,?_⟩;show _=Ob.aj.sep (bz (Hbn.dJ rec H (H.at m) m).1) (eW a (ms++(Hbn.dJ rec H (H.at m) m).2.1) (f++(Hbn.dJ rec H (H.at m) m).2.2));rw[y,x];unfold Hbn.andThen;rw[cH,cH]
set_option maxHeartbeats 4000000
abbrev dn:Func:=Tryz.f81
def Yo (p a:Nat) (m:Hbm.aG):St:=av dn.ntmps 8 [(0,aB p),(2,aB a),(4,ao 0 0)] [(0,df m)]
def Yp (p a:Nat) (m:Hbm.aG):St:=av dn.ntmps 8 [(0,aB p),(2,aB a),(4,ao 0 0),(7,aB p),(8,mb m)] [(0,df m)]
def hrC (p a:Nat) (m:Hbm.aG) (q:Bool):St:=av dn.ntmps 8 [(0,aB p),(2,aB a),(4,ao 0 0),(10,aA q)] [(0,df m)]
def hrD (p a:Nat) (m:Hbm.aG):St:=av dn.ntmps 8 [(0,aB p),(2,aB a),(4,ao 0 0),(11,aB p),(12,mb m)] [(0,df m)]
def q0 (p tp a:Nat) (m:Hbm.aG):St:=av dn.ntmps 8 [(0,aB p),(2,aB a),(4,ao 0 0),(6,aB tp)] [(0,df m)]
def OG (p b a:Nat) (m:Hbm.aG):St:=av dn.ntmps 8 [(0,aB p),(2,aB a),(4,ao 0 0),(6,aB b),(15,sI .i64 m.kind)] [(0,df m)]
abbrev QN:=aU [qD]
theorem eg:aJ Tryz.prog QN:=aM uo bD
section
variable (gl:Nat->Option (Sigma aH)) (w0:World) (M0:Mem) (F0:Nat->Prop)
abbrev eZ:Ob.cf:=Ob.lj Tryz.prog QN gl w0 M0 F0
theorem adF (p a j:Nat) (i:Int) (mem:List Int) (m:Hbm.aG) (l:mem.length<1000) (R:Ob.aj) {Q:SV->Ob.aj->Prop} {n:ax} {x:Nat->ax}
  (o:Hbn.counts mem m=false->Q (.tup []) (Ob.aj.sep (jv p i mem j) R))
  (r:Hbn.counts mem m=true->Ob.aN Tryz.prog ((al dn).drop 3) (Ob.GH (eZ gl w0 M0 F0) dn.ntmps (Yo p a m) (Ob.aj.sep (jv p i mem j) R)) n (Ob.c1 (eZ gl w0 M0 F0) dn Q) x) :
  Ob.aN Tryz.prog (al dn) (Ob.GH (eZ gl w0 M0 F0) dn.ntmps (lx dn [aB p,mb m,aB a] [] 0) (Ob.aj.sep (jv p i mem j) R)) n (Ob.c1 (eZ gl w0 M0 F0) dn Q) x:=by
 obtain⟨mk,b,d,f,mt,e,c⟩:=m;refine Ob.eK eg 1 (Yo p a (mk,b,d,f,mt,e,c)) ?_;refine Ob.ep 1 (bC (ar (al dn) 1)) ?_;refine Ob.dT eg 2 (Yp p a (mk,b,d,f,mt,e,c)) ?_;refine Ob.kj (E:=eZ gl w0 M0 F0) (Ob.b5 (fun _=>R) (TB gl)) ((p,i,mem,j),(mk,b,d,f,mt,e,c)) l FU (fun _ _=>?_);refine Ob.gA eg 4 (fun s=>bo .bool 10 s) (fun q=>hrC p a (mk,b,d,f,mt,e,c) q) (fun q=>q=!AP mem (mk,b,d,f,mt,e,c)) ?_ (fun q g=>Ob.ei ?_);intros;refine @aq ((hrC p a (mk,b,d,f,mt,e,c) !AP mem (mk,b,d,f,mt,e,c)).ah ((!AP mem (mk,b,d,f,mt,e,c))=!AP mem (mk,b,d,f,mt,e,c))) _ ?_ ?_;kernel_rfl;exact au rfl;have g:q=!Hbn.counts mem (mk,b,d,f,mt,e,c):=g;cases q;refine Ob.e5 (ar (al dn) 2) ?_;refine Ob.fR (Yo p a (mk,b,d,f,mt,e,c)) ?_;exact r (by cases k:Hbn.counts mem (mk,b,d,f,mt,e,c) with|true=>rfl|false=>rw[k] at g;cases g);refine Ob.iu eg mixed (.tup []) ?_ (o (by cases k:Hbn.counts mem (mk,b,d,f,mt,e,c) with|false=>rfl|true=>rw[k] at g;cases g));intros;refine @aq ((true=true->SV.tup []=SV.tup [])/\(true=false->False)) _ ?_ ?_;kernel_rfl;exact⟨fun _=>rfl,fun h=>by cases h⟩
theorem adG (H:bb) (s:du H) (m:Hbm.aG) (C:e6 H.mem m) (a:Nat) (A:Ob.aj) {n r:ax} {x:Nat->ax}
  (D:∀ q:Nat × Nat × Nat,Ob.aN Tryz.prog ((al dn).drop 4) (Ob.GH (eZ gl w0 M0 F0) dn.ntmps (q0 H.p ((H.of m q).get ((H.of m q).at m)).ptr a m) (Ob.aj.sep (bz (H.of m q)) A)) n r x) :
  Ob.aN Tryz.prog ((al dn).drop 3) (Ob.GH (eZ gl w0 M0 F0) dn.ntmps (Yo H.p a m) (Ob.aj.sep (bz H) A)) n r x:=by
 have f:∀ H:bb,Ob.aj.sep (bz H) A=Ob.aj.sep (Ob.aj.obj [db H.me H.mem H.mp] H.p (fk H.mp (gU H.talks))) (Ob.aj.sep (ft H.talks) A):=fun H=>by unfold bz jv;rw[Ob.bF [db H.me H.mem H.mp] H.p (fk H.mp (gU H.talks))];ac_rfl
 have I:=C.bI;refine Ob.aP (f H) ?_;obtain⟨p,c,i,mem,b⟩:=H;refine Ob.ep 2 (bC (ar (al dn) 3)) ?_;refine Ob.gA eg 2 (fun _=>()) (fun _=>hrD p a m) (fun _=>True) ?_ (fun _ _=>?_);obtain⟨mk,j,u,y,mt,w,t⟩:=m;intros;refine @aq ((hrD p a (mk,j,u,y,mt,w,t)).ah True) _ ?_ ?_;kernel_rfl;exact au trivial;refine Ob.kj (E:=eZ gl w0 M0 F0) (Ob.b5 (fun _=>Ob.aj.sep (ft b) A) (afU gl)) ⟨p,c,i,mem,gU b,m⟩ ⟨s.keys,⟨by show _<=m.bI;omega,by show m.bI<=_;omega⟩,s.i64 _ C.bU⟩ ud ?_;have g:∀ (tp:Nat) (G:Ob.aj),Ob.aN Tryz.prog ((al dn).drop 4) (Ob.GH (eZ gl w0 M0 F0) dn.ntmps (q0 p tp a m) G) n r x->Ob.kz Tryz.prog (bC (ar (al dn) 3)) 3 ((al dn).drop 4) (Ob.GH (eZ gl w0 M0 F0) dn.ntmps ((hrD p a m).put (some 13) (aB tp)) G) n r x:=by intro tp G h;refine Ob.gA eg 4 (fun _=>()) (fun _=>q0 p tp a m) (fun _=>True) ?_ (fun _ _=>Ob.HU (Odt ab) h);obtain⟨mk,j,u,y,mt,w,t⟩:=m;intros;refine @aq ((q0 p tp a (mk,j,u,y,mt,w,t)).ah True) _ ?_ ?_;kernel_rfl;exact au trivial
 rintro⟨tp,o⟩ z;refine g tp _ ?_;cases o with
 | none =>obtain⟨l,F⟩:=Zp s (m:=m) (tp:=tp) z;have k:=D (0,0,0);rw[L0 l,F] at k;refine Ob.aP (f ⟨p,c,i,mem,b⟩).symm ?_;exact k
 | some q =>obtain⟨e,d⟩:=q;have l:=Zo (H:=⟨p,c,i,mem,b⟩) (m:=m) z;have k:=D (tp,e,d);rw[(Sc l (tp,e,d)).2,Gt l] at k;refine Ob.aP ?_ k;rw[f];show Ob.aj.sep (Ob.aj.obj [db i mem c] p (Ob.aj.sep (fk c (gU b++[((m.bI,m.bU),tp)])) (Cq tp e d))) (Ob.aj.sep (ft b) A)=Ob.aj.sep (Ob.aj.obj [db i mem c] p (fk c (gU (b++[g9 m (tp,e,d)])))) (Ob.aj.sep (ft (b++[g9 m (tp,e,d)])) A);rw[Ef,show gU (b++[g9 m (tp,e,d)])=gU b++[((m.bI,m.bU),tp)] from by unfold gU;rw[di];rfl,show Hb (g9 m (tp,e,d))=Cq tp e d from rfl,Ob.bF [db i mem c] p (Ob.aj.sep _ _),Ob.bF [db i mem c] p (fk _ _)];ac_rfl
end
set_option maxHeartbeats 4000000
abbrev uE:Code:=ar (al dn) 5
abbrev Wf:List Code:=fX (ar (cV uE) 1)
abbrev QM:List Code:=rD (ar (cV uE) 1)
abbrev adz:List Code:=fX (ar Wf 1)
abbrev adx:List Code:=fX (ar QM 1)
abbrev adB:List Code:=rD (ar QM 1)
abbrev ady:List Code:=fX (ar adB 1)
def AU (p b a:Nat) (m:Hbm.aG) (t:Nat) (q:Bool):St:=av dn.ntmps 8 [(0,aB p),(2,aB a),(4,ao 0 0),(6,aB b),(15,sI .i64 m.kind),(t,aA q)] [(0,df m)]
def Tg (p a:Nat) (m:Hbm.aG) (b:List Cell):St:=av dn.ntmps 9 [(0,aB p),(2,aB a),(4,ao 0 0),(6,ao 8 0)] [(8,b),(0,df m)]
def Lo (p a:Nat) (m:Hbm.aG) (b:List Cell) (t:Nat) (q:SV):St:=av dn.ntmps 9 [(0,aB p),(2,aB a),(4,ao 0 0),(6,ao 8 0),(t,q)] [(8,b),(0,df m)]
def hrQ (p b a:Nat) (m:Hbm.aG) (t:Nat) (q:Bool):St:=av dn.ntmps 8 [(0,aB p),(2,aB a),(4,ao 0 0),(6,aB b),(t,aA q)] [(0,df m)]
def hrW (p b a:Nat) (m:Hbm.aG):St:=av dn.ntmps 8 [(0,aB p),(2,aB a),(4,ao 0 0),(6,aB b),(33,aB p),(34,mb m),(35,aB a)] [(0,df m)]
def Yq (p a:Nat) (m:Hbm.aG) (d:List Cell) (e b c:Nat):St:=av dn.ntmps 9 [(0,aB p),(2,aB a),(4,ao 0 0),(6,ao 8 0),(b,nE e),(c,mb m)] [(8,d),(0,df m)]
section
variable (gl:Nat->Option (Sigma aH)) (w0:World) (M0:Mem) (F0:Nat->Prop)
theorem aic (p d a:Nat) (m:Hbm.aG) (G:Ob.aj) {n j:ax} {x:Nat->ax}
  (h:Ob.aN Tryz.prog ((al dn).drop 5) (Ob.GH (eZ gl w0 M0 F0) dn.ntmps (OG p d a m) G) n j x) :
  Ob.aN Tryz.prog ((al dn).drop 4) (Ob.GH (eZ gl w0 M0 F0) dn.ntmps (q0 p d a m) G) n j x:=by
 obtain⟨mk,b,f,i,mt,g,e⟩:=m;refine Ob.gcd eg 1 (fun _=>()) (fun _=>OG p d a (mk,b,f,i,mt,g,e)) (fun _=>True) ?_ (fun _ _=>h);intros;refine @aq ((OG p d a (mk,b,f,i,mt,g,e)).ah True) _ ?_ ?_;kernel_rfl;exact au trivial
theorem adE (p l a:Nat) (m:Hbm.aG) (u:m.kind=1) (b rd n:Bool) (e r:Nat) (G:Ob.aj) {s y:ax} {x:Nat->ax}
  (F:m.a5=m.bU/\b=false->Ob.kz Tryz.prog (bC (ar adz 1)) 3 [] (Ob.GH (eZ gl w0 M0 F0) dn.ntmps (hrW p l a m) (Ob.aj.obj [b8 true rd n e r] l G)) s y x)
  (D:¬ (m.a5=m.bU/\b=false)->Ob.aN Tryz.prog [] (Ob.GH (eZ gl w0 M0 F0) dn.ntmps (q0 p l a m) (Ob.aj.obj [b8 b rd n e r] l G)) s y x) :
  Ob.aN Tryz.prog (cV uE) (Ob.GH (eZ gl w0 M0 F0) dn.ntmps (OG p l a m) (Ob.aj.obj [b8 b rd n e r] l G)) s y x:=by
 obtain⟨mk,d,f,g,mt,j,i⟩:=m;have u:mk=1:=u;subst u;refine Ob.gcd eg 1 (fun z=>bo .bool 16 z) (fun q=>AU p l a (1,d,f,g,mt,j,i) 16 q) (fun q=>q=true) ?_ (fun q o=>?_);intros;refine @aq ((AU p l a (1,d,f,g,mt,j,i) 16 (Hbm.aG.kind (1,d,f,g,mt,j,i)==1)).ah ((Hbm.aG.kind (1,d,f,g,mt,j,i)==1)=true)) _ ?_ ?_;kernel_rfl;exact au rfl;subst o;refine Ob.je (ar (cV uE) 1) ?_;refine Ob.gR [6] (Tg p a (1,d,f,g,mt,j,i) (b8 b rd n e r)) ?_;refine Ob.kN eg mixed 1 29 (fun z=>bo .bool 29 z) (fun q=>Lo p a (1,d,f,g,mt,j,i) (b8 b rd n e r) 29 (aA q)) (fun q=>q=(decide (f=g) && !b)) (fun _=>False) (fun _ _=>False) ?_ (fun q o=>?_) (fun _ _ _ h _=>h.elim) (fun _ _ _ _ h _=>h.elim);intros;refine @aq (((f==g)=true->(Lo p a (1,d,f,g,mt,j,i) (b8 b rd n e r) 29 (aA !b)).ah ((!b)=(decide (f=g) && !b)))/\((f==g)=false->(Lo p a (1,d,f,g,mt,j,i) (b8 b rd n e r) 29 (aA false)).ah (false=(decide (f=g) && !b)))) _ ?_ ?_;kernel_rfl;refine⟨fun h=>au ?_,fun h=>au ?_⟩;rw[cg (show f=g from by simpa using h),h8];rw[cp (show ¬ f=g from by simpa using h),l5];refine Ob.fj (E:=eZ gl w0 M0 F0) (bl:=[b8 b rd n e r]) [0] [8] 9 (hrQ p l a (1,d,f,g,mt,j,i) 29 q) ?_;cases q;refine Ob.e5 (ar Wf 1) ?_;refine Ob.fR (q0 p l a (1,d,f,g,mt,j,i)) ?_;refine D fun A=>?_;have C:f=g:=A.1;rw[A.2,cg C] at o;cases o
 ·have w:f=g/\b=false:=by
   cases b with
   | true=>rw[oM,oL] at o;cases o
   | false=>rw[oJ,Bool.and_true] at o;exact⟨Odt o.symm,rfl⟩
  refine Ob.je (ar Wf 1) ?_;refine Ob.gR [6] (Tg p a (1,d,f,g,mt,j,i) (b8 b rd n e r)) ?_;refine Ob.eK eg 1 (Tg p a (1,d,f,g,mt,j,i) [.T,.v (.bool rd),.v (.bool n),.v (.map (some e)),.v (.map (some r))]) ?_;refine Ob.fj (E:=eZ gl w0 M0 F0) (bl:=[b8 true rd n e r]) [0] [8] 9 (q0 p l a (1,d,f,g,mt,j,i)) ?_;refine Ob.ep 7 (bC (ar adz 1)) ?_;refine Ob.gA eg 3 (fun _=>()) (fun _=>hrW p l a (1,d,f,g,mt,j,i)) (fun _=>True) ?_ (fun _ _=>F w);intros;refine @aq ((hrW p l a (1,d,f,g,mt,j,i)).ah True) _ ?_ ?_;kernel_rfl;exact au trivial
theorem aia (p l a:Nat) (m:Hbm.aG) (w:m.kind=2) (b rd n:Bool) (e r:Nat) (ech rdy:Hbm.gw) (y:nM ech) (z:lk m.a5) (F:m.body.length<1048576) (R:Ob.aj) {Q:SV->Ob.aj->Prop} {s:ax} {x:Nat->ax}
  (C:Hbm.dk ech m.a5=true->Q (.tup []) (Ob.aj.obj [b8 b rd n e r] l (Ob.aj.sep (bV r rdy) (Ob.aj.sep (bV e ech) R))))
  (D:Hbm.dk ech m.a5=false->Ob.aN Tryz.prog [] (Ob.GH (eZ gl w0 M0 F0) dn.ntmps (q0 p l a m) (Ob.aj.obj [b8 b rd n e r] l (Ob.aj.sep (bV r rdy) (Ob.aj.sep (bV e (ech++[(m.a5,m.body)])) R)))) s (Ob.c1 (eZ gl w0 M0 F0) dn Q) x) :
  Ob.aN Tryz.prog (cV uE) (Ob.GH (eZ gl w0 M0 F0) dn.ntmps (OG p l a m) (Ob.aj.obj [b8 b rd n e r] l (Ob.aj.sep (bV r rdy) (Ob.aj.sep (bV e ech) R)))) s (Ob.c1 (eZ gl w0 M0 F0) dn Q) x:=by
 obtain⟨mk,d,f,j,mt,i,g⟩:=m;have w:mk=2:=w;subst w;refine Ob.gcd eg 1 (fun u=>bo .bool 16 u) (fun q=>AU p l a (2,d,f,j,mt,i,g) 16 q) (fun q=>q=false) ?_ (fun q o=>?_);intros;refine @aq ((AU p l a (2,d,f,j,mt,i,g) 16 (Hbm.aG.kind (2,d,f,j,mt,i,g)==1)).ah ((Hbm.aG.kind (2,d,f,j,mt,i,g)==1)=false)) _ ?_ ?_;kernel_rfl;exact au rfl;subst o;refine Ob.e5 (ar (cV uE) 1) ?_;refine Ob.gcd eg 1 (fun u=>bo .bool 37 u) (fun q=>AU p l a (2,d,f,j,mt,i,g) 37 q) (fun q=>q=true) ?_ (fun q o=>?_);intros;refine @aq ((AU p l a (2,d,f,j,mt,i,g) 37 (Hbm.aG.kind (2,d,f,j,mt,i,g)==2)).ah ((Hbm.aG.kind (2,d,f,j,mt,i,g)==2)=true)) _ ?_ ?_;kernel_rfl;exact au rfl;subst o;refine Ob.je (ar QM 1) ?_;refine Ob.iD mixed (rid:=9) (ops:=bC (ar adx 0)) ab ?_;refine Ob.qw (E:=eZ gl w0 M0 F0) [6] ab (Tg p a (2,d,f,j,mt,i,g) (b8 b rd n e r)) (ay ab ab trivial) ?_;refine Ob.eL eg 5 (fun _=>()) (fun _=>Yq p a (2,d,f,j,mt,i,g) (b8 b rd n e r) e 42 43) (fun _=>True) ae ab ?_ (fun _ _=>?_);intros;refine @aq ((Yq p a (2,d,f,j,mt,i,g) (b8 b rd n e r) e 42 43).ah True) _ ?_ ?_;kernel_rfl;exact au trivial;refine Ob.sP (E:=(eZ gl w0 M0 F0).pinned 8 l) (G':=Ob.aj.sep (bV e ech) (Ob.aj.sep (bV r rdy) R)) (by ac_rfl) ?_;refine Ob.o1 (Ob.eO (E:=(eZ gl w0 M0 F0).pinned 8 l) (Ob.b5 (fun _=>Ob.aj.sep (bV r rdy) R) (OZ gl)) (e,ech,(2,d,f,j,mt,i,g)) ⟨y,z,F⟩ ab Ez ab ab (fun _=>rfl)) ab ab (fun _ _=>?_);refine Ob.gS eg (fun u=>bo .bool 45 u) (fun q=>Lo p a (2,d,f,j,mt,i,g) (b8 b rd n e r) 45 (aA q)) (fun q=>q=Hbm.dk ech f) (Odt ab) ?_ (fun q o=>?_);intros;refine @aq ((Lo p a (2,d,f,j,mt,i,g) (b8 b rd n e r) 45 (aA !!Hbm.dk ech (Hbm.aG.a5 (2,d,f,j,mt,i,g)))).ah ((!!Hbm.dk ech (Hbm.aG.a5 (2,d,f,j,mt,i,g)))=Hbm.dk ech f)) _ ?_ ?_;kernel_rfl;refine au ?_;show (!!Hbm.dk ech f)=_;rw[Bool.not_not];refine Ob.fj (E:=eZ gl w0 M0 F0) (bl:=[b8 b rd n e r]) [0] [8] 9 (hrQ p l a (2,d,f,j,mt,i,g) 45 q) ?_;have A:Ob.aj.obj [b8 b rd n e r] l (Ob.aj.sep (bV e (if Hbm.dk ech f then ech else ech++[(f,g)])) (Ob.aj.sep (bV r rdy) R))=Ob.aj.obj [b8 b rd n e r] l (Ob.aj.sep (bV r rdy) (Ob.aj.sep (bV e (if Hbm.dk ech f then ech else ech++[(f,g)])) R)):=by congr 1;ac_rfl
 refine Ob.aP A ?_;rw[<- o];cases q;refine Ob.e5 (ar adx 1) ?_;refine Ob.fR (q0 p l a (2,d,f,j,mt,i,g)) ?_;exact D o.symm;refine Ob.iu eg mixed (.tup []) ?_ (C o.symm);intros;refine @aq ((true=true->SV.tup []=SV.tup [])/\(true=false->False)) _ ?_ ?_;kernel_rfl;exact⟨fun _=>rfl,fun h=>by cases h⟩
theorem aib (p l a:Nat) (m:Hbm.aG) (w:m.kind=3) (b rd n:Bool) (e r:Nat) (rdy:Hbm.gw) (y:nM rdy) (z:lk m.a5) (D:m.body.length<1048576) (R:Ob.aj) {Q:SV->Ob.aj->Prop} {u:ax} {x:Nat->ax}
  (A:Hbm.dk rdy m.a5=true->Q (.tup []) (Ob.aj.obj [b8 b rd n e r] l (Ob.aj.sep (bV r rdy) R)))
  (C:Hbm.dk rdy m.a5=false->Ob.aN Tryz.prog [] (Ob.GH (eZ gl w0 M0 F0) dn.ntmps (q0 p l a m) (Ob.aj.obj [b8 b rd n e r] l (Ob.aj.sep (bV r (rdy++[(m.a5,m.body)])) R))) u (Ob.c1 (eZ gl w0 M0 F0) dn Q) x) :
  Ob.aN Tryz.prog (cV uE) (Ob.GH (eZ gl w0 M0 F0) dn.ntmps (OG p l a m) (Ob.aj.obj [b8 b rd n e r] l (Ob.aj.sep (bV r rdy) R))) u (Ob.c1 (eZ gl w0 M0 F0) dn Q) x:=by
 obtain⟨mk,d,f,j,mt,i,g⟩:=m;have w:mk=3:=w;subst w;refine Ob.gcd eg 1 (fun s=>bo .bool 16 s) (fun q=>AU p l a (3,d,f,j,mt,i,g) 16 q) (fun q=>q=false) ?_ (fun q o=>?_);intros;refine @aq ((AU p l a (3,d,f,j,mt,i,g) 16 (Hbm.aG.kind (3,d,f,j,mt,i,g)==1)).ah ((Hbm.aG.kind (3,d,f,j,mt,i,g)==1)=false)) _ ?_ ?_;kernel_rfl;exact au rfl;subst o;refine Ob.e5 (ar (cV uE) 1) ?_;refine Ob.gcd eg 1 (fun s=>bo .bool 37 s) (fun q=>AU p l a (3,d,f,j,mt,i,g) 37 q) (fun q=>q=false) ?_ (fun q o=>?_);intros;refine @aq ((AU p l a (3,d,f,j,mt,i,g) 37 (Hbm.aG.kind (3,d,f,j,mt,i,g)==2)).ah ((Hbm.aG.kind (3,d,f,j,mt,i,g)==2)=false)) _ ?_ ?_;kernel_rfl;exact au rfl;subst o;refine Ob.e5 (ar QM 1) ?_;refine Ob.gcd eg 1 (fun s=>bo .bool 46 s) (fun q=>AU p l a (3,d,f,j,mt,i,g) 46 q) (fun q=>q=true) ?_ (fun q o=>?_);intros;refine @aq ((AU p l a (3,d,f,j,mt,i,g) 46 (Hbm.aG.kind (3,d,f,j,mt,i,g)==3)).ah ((Hbm.aG.kind (3,d,f,j,mt,i,g)==3)=true)) _ ?_ ?_;kernel_rfl;exact au rfl;subst o;refine Ob.je (ar adB 1) ?_;refine Ob.iD mixed (rid:=11) (ops:=bC (ar ady 0)) ab ?_;refine Ob.qw (E:=eZ gl w0 M0 F0) [6] ab (Tg p a (3,d,f,j,mt,i,g) (b8 b rd n e r)) (ay ab ab trivial) ?_;refine Ob.eL eg 5 (fun _=>()) (fun _=>Yq p a (3,d,f,j,mt,i,g) (b8 b rd n e r) r 51 52) (fun _=>True) ae ab ?_ (fun _ _=>?_);intros;refine @aq ((Yq p a (3,d,f,j,mt,i,g) (b8 b rd n e r) r 51 52).ah True) _ ?_ ?_;kernel_rfl;exact au trivial;refine Ob.o1 (Ob.eO (E:=(eZ gl w0 M0 F0).pinned 8 l) (Ob.b5 (fun _=>R) (OZ gl)) (r,rdy,(3,d,f,j,mt,i,g)) ⟨y,z,D⟩ ab Ez ab ab (fun _=>rfl)) ab ab (fun _ _=>?_);refine Ob.gS eg (fun s=>bo .bool 54 s) (fun q=>Lo p a (3,d,f,j,mt,i,g) (b8 b rd n e r) 54 (aA q)) (fun q=>q=Hbm.dk rdy f) (Odt ab) ?_ (fun q o=>?_);intros;refine @aq ((Lo p a (3,d,f,j,mt,i,g) (b8 b rd n e r) 54 (aA !!Hbm.dk rdy (Hbm.aG.a5 (3,d,f,j,mt,i,g)))).ah ((!!Hbm.dk rdy (Hbm.aG.a5 (3,d,f,j,mt,i,g)))=Hbm.dk rdy f)) _ ?_ ?_;kernel_rfl;refine au ?_;show (!!Hbm.dk rdy f)=_;rw[Bool.not_not];refine Ob.fj (E:=eZ gl w0 M0 F0) (bl:=[b8 b rd n e r]) [0] [8] 9 (hrQ p l a (3,d,f,j,mt,i,g) 54 q) ?_;refine Ob.aP (G':=Ob.aj.obj [b8 b rd n e r] l (Ob.aj.sep (bV r (if q then rdy else rdy++[(f,g)])) R)) (by rw[o]) ?_;cases q;refine Ob.e5 (ar ady 1) ?_;refine Ob.fR (q0 p l a (3,d,f,j,mt,i,g)) ?_;exact C o.symm;refine Ob.iu eg mixed (.tup []) ?_ (A o.symm);intros;refine @aq ((true=true->SV.tup []=SV.tup [])/\(true=false->False)) _ ?_ ?_;kernel_rfl;exact⟨fun _=>rfl,fun h=>by cases h⟩
end
set_option maxHeartbeats 4000000
def IS (b:bb->Hbm.aG->Prop) (H:bb) (m:Hbm.aG):Prop :=
 (m.kind=1->∀ a,b a (Hbn.own a 2 m))/\((m.kind=1\/(H.get (H.at m)).ready=false)->∀ a:bb,(a.get (a.at m)).ready=true->b a (Hbn.own a 3 m))
def hrZ (p b a:Nat) (m:Hbm.aG):St:=av dn.ntmps 8 [(55,aB p),(56,aB b),(57,mb m),(58,aB a)] []
section
variable (gl:Nat->Option (Sigma aH)) (w0:World) (M0:Mem) (F0:Nat->Prop)
theorem aid {rec:bb->Hbm.aG->eG} {f:bb->Hbm.aG->Prop} {c:Nat} (o:XS gl rec f c) {H:bb} (l:du H) {m:Hbm.aG} (r:e6 H.mem m) (q:H.at m<H.talks.length) (p b a:Nat) (g:p=H.p) (h:b=(H.get (H.at m)).ptr) (ms:List Hbm.aG) (d:List Hbm.Told)
  (i:ms.length+c<=1000) (j:d.length+c<=1000) (s:(H.get (H.at m)).ready=false->f (H.set (H.at m) { H.get (H.at m) with ready:=true }) (Hbn.own H 3 m)) {Q:SV->Ob.aj->Prop}
  (n:Q (.tup []) (Ob.aj.sep (bz (Hbn.dJ rec H (H.at m) m).1) (eW a (ms++(Hbn.dJ rec H (H.at m) m).2.1) (d++(Hbn.dJ rec H (H.at m) m).2.2)))) :
  Ob.aN Tryz.prog ((al dn).drop 6) (Ob.GH (eZ gl w0 M0 F0) dn.ntmps (q0 p b a m) (Ob.aj.sep (bz H) (eW a ms d))) (Ob.c1 (eZ gl w0 M0 F0) dn Q) (Ob.c1 (eZ gl w0 M0 F0) dn Q) (fun _ _ _=>False):=by
 refine Ob.ep 12 (bC (ar (al dn) 6)) ?_;refine Ob.gA eg 4 (fun _=>()) (fun _=>hrZ p b a m) (fun _=>True) ?_ (fun _ _=>?_);obtain⟨mk,e,w,y,mt,x,u⟩:=m;intros;refine @aq ((hrZ p b a (mk,e,w,y,mt,x,u)).ah True) _ ?_ ?_;kernel_rfl;exact au trivial;subst g h;refine Ob.kj (E:=eZ gl w0 M0 F0) o ⟨H,m,a,ms,d⟩ ⟨l,r,q,i,j,s⟩ BR (fun _ _=>?_);refine Ob.ei ?_;exact Ob.sn eg (.tup []) n
theorem adH {rec:bb->Hbm.aG->eG} {Y:bb->Hbm.aG->Prop} {c K:Nat} (U:tC gl rec Y c) (X:ru rec) (V:tE rec K) {H:bb} (q:du H) {m:Hbm.aG} (r:e6 H.mem m) (g:H.at m<H.talks.length) (a:Nat) (ms:List Hbm.aG) (i:List Hbm.Told)
  (h1:ms.length+(c+2*K+2)<=1000) (h2:i.length+(c+2*K+2)<=1000) (W:IS Y H m) {Q:SV->Ob.aj->Prop}
  (f:Q (.tup []) (Ob.aj.sep (bz (Hbn.mK rec H (H.at m) m).1) (eW a (ms++(Hbn.mK rec H (H.at m) m).2.1) (i++(Hbn.mK rec H (H.at m) m).2.2)))) :
  Ob.aN Tryz.prog ((al dn).drop 4) (Ob.GH (eZ gl w0 M0 F0) dn.ntmps (q0 H.p (H.get (H.at m)).ptr a m) (Ob.aj.sep (bz H) (eW a ms i))) (Ob.c1 (eZ gl w0 M0 F0) dn Q) (Ob.c1 (eZ gl w0 M0 F0) dn Q) (fun _ _ _=>False):=by
 have hc:=ace U X V;have u:=q.sd g;have T:=r.bI
 -- y,on a hub Z R of this one
 have s:∀ (d:bb) (n:List Hbm.aG) (o:List Hbm.Told),Good H (d,n,o)->n.length+(c+K+1)<=1000->o.length+(c+K+1)<=1000->((d.get (d.at m)).ready=false->m.kind=1\/(H.get (H.at m)).ready=false) ->
   Q (.tup []) (Ob.aj.sep (bz (Hbn.dJ rec d (H.at m) m).1) (eW a (n++(Hbn.dJ rec d (H.at m) m).2.1) (o++(Hbn.dJ rec d (H.at m) m).2.2))) ->
   Ob.aN Tryz.prog ((al dn).drop 6) (Ob.GH (eZ gl w0 M0 F0) dn.ntmps (q0 H.p (H.get (H.at m)).ptr a m) (Ob.aj.sep (bz d) (eW a n o))) (Ob.c1 (eZ gl w0 M0 F0) dn Q) (Ob.c1 (eZ gl w0 M0 F0) dn Q) (fun _ _ _=>False):=by
  rintro d n o ⟨g1,g2⟩ F G I k4;have g1:du d:=g1;have g2:iH H d:=g2;have O:=qf g2 m;have x:d.at m<d.talks.length:=by rw[O,kW g2];exact g
  have et:(H.get (H.at m)).ptr=(d.get (d.at m)).ptr:=by rw[O];have:=OA g2 g;unfold tid at this;simp only[aL] at this;exact this.2.1.symm
  have OH:iH d (d.set (d.at m) { d.get (d.at m) with ready:=true }):=ke x rfl;refine aid gl w0 M0 F0 hc g1 (m:=m) (by rw[g2.mem];exact r) x _ _ a g2.p.symm et n o F G (fun P=>?_) (by rw[O];exact k4);have:=W.2 (I P) (d.set (d.at m) { d.get (d.at m) with ready:=true }) (by rw[qf OH,kK x]);exact this
 refine aic gl w0 M0 F0 _ _ a m _ ?_;unfold Hbn.mK at f;refine Ob.aP (rm g _) ?_;unfold JP;rcases r.kind with e|e|e
 ·rw[ak e] at f;by_cases L:m.a5=m.bU/\(H.get (H.at m)).begun=false
  ·rw[ak L] at f;have nS:iH H (H.set (H.at m) { H.get (H.at m) with begun:=true }):=ke g rfl;have l:du (H.set (H.at m) { H.get (H.at m) with begun:=true }):=rR q g rfl u.1 u.2;have A:(H.set (H.at m) { H.get (H.at m) with begun:=true }).at m<(H.set (H.at m) { H.get (H.at m) with begun:=true }).talks.length:=by rw[qf nS,kW nS];exact g
   have z:=DB X l (m:=m) r A (k:=2) (.inl rfl);have C:=V (H.set (H.at m) { H.get (H.at m) with begun:=true }) (Hbn.own (H.set (H.at m) { H.get (H.at m) with begun:=true }) 2 m);have D:(Hbn.mg rec (H.set (H.at m) { H.get (H.at m) with begun:=true }) 2 m).2.1.length<=K+1/\(Hbn.mg rec (H.set (H.at m) { H.get (H.at m) with begun:=true }) 2 m).2.2.length<=K:=by refine⟨?_,C.2⟩;have:=C.1;show (Hbn.own (H.set (H.at m) { H.get (H.at m) with begun:=true }) 2 m::(rec (H.set (H.at m) { H.get (H.at m) with begun:=true }) (Hbn.own (H.set (H.at m) { H.get (H.at m) with begun:=true }) 2 m)).2.1).length<=K+1;rw[bN];omega
   refine Ob.dL (E:=eZ gl w0 M0 F0) (c:=uE) (fun b w=>Ob.GH (eZ gl w0 M0 F0) dn.ntmps (q0 H.p (H.get (H.at m)).ptr a m) (Ob.aj.sep (bz (Hbn.mg rec (H.set (H.at m) { H.get (H.at m) with begun:=true }) 2 m).1) (eW a (ms++(Hbn.mg rec (H.set (H.at m) { H.get (H.at m) with begun:=true }) 2 m).2.1) (i++(Hbn.mg rec (H.set (H.at m) { H.get (H.at m) with begun:=true }) 2 m).2.2))) b w) ab ab ?_ ?_;refine adE gl w0 M0 F0 _ _ a m e _ _ _ _ _ _ (fun _=>?_) (fun h=>(h L).elim);refine Ob.vH (E:=eZ gl w0 M0 F0) (tn g (t:={ H.get (H.at m) with begun:=true }) rfl _).symm ?_;refine Ob.kj (E:=eZ gl w0 M0 F0) (Uc U) ⟨H.set (H.at m) { H.get (H.at m) with begun:=true },2,m,a,ms,i⟩ ⟨l,r,A,.inl rfl,(by omega:ms.length+(c+1)<=1000),(by omega:i.length+c<=1000),W.1 e _⟩ qT (fun _ _=>?_);refine Ob.ei ?_;refine Ob.fR (q0 H.p (H.get (H.at m)).ptr a m) ?_;exact Ob.cr fun _ _ h=>h;refine s _ _ _ ⟨z.1,nS.trans z.2⟩ (by rw[a7];have:=D.1;omega) (by rw[a7];have:=D.2;omega) (fun _=>.inl e) ?_;unfold Hbn.andThen at f;rw[cH,cH];exact f
  rw[ai L] at f;refine Ob.dL (E:=eZ gl w0 M0 F0) (c:=uE) (fun b w=>Ob.GH (eZ gl w0 M0 F0) dn.ntmps (q0 H.p (H.get (H.at m)).ptr a m) (Ob.aj.sep (bz H) (eW a ms i)) b w) ab ab ?_ ?_;refine adE gl w0 M0 F0 _ _ a m e _ _ _ _ _ _ (fun h=>(L h).elim) (fun _=>?_);refine Ob.aP (rm g _).symm ?_;exact Ob.cr fun _ _ h=>h;exact s H ms i ⟨q,.rfl⟩ aa aa (fun _=>.inl e) f
 rw[ai (by rw[e];decide),ak e] at f;have nS:iH H (H.set (H.at m) { H.get (H.at m) with ech:=(H.get (H.at m)).ech++[(m.a5,m.body)] }):=ke g rfl;refine Ob.dL (E:=eZ gl w0 M0 F0) (c:=uE) (fun b w=>Hbm.dk (H.get (H.at m)).ech m.a5=false/\Ob.GH (eZ gl w0 M0 F0) dn.ntmps (q0 H.p (H.get (H.at m)).ptr a m) (Ob.aj.sep (bz (H.set (H.at m) { H.get (H.at m) with ech:=(H.get (H.at m)).ech++[(m.a5,m.body)] })) (eW a ms i)) b w) ab ab ?_ ?_;refine aia gl w0 M0 F0 _ _ a m e _ _ _ _ _ _ _ (u.1.ok q.len q.i64) (q.i64 _ r.a5) aa _ (fun j=>?_) (fun j=>?_);rw[ak j] at f;rw[bw,bw] at f;have:=rm (H:=H) g (eW a ms i);unfold JP at this;rw[<- this];exact f;refine Ob.aP (tn g (t:={ H.get (H.at m) with ech:=(H.get (H.at m)).ech++[(m.a5,m.body)] }) rfl _).symm ?_;exact Ob.cr fun _ _ h=>⟨j,h⟩;intro b w N ⟨j,z⟩ F G I;rw[ai (by rw[j];decide)] at f;have l:du (H.set (H.at m) { H.get (H.at m) with ech:=(H.get (H.at m)).ech++[(m.a5,m.body)] }):=rR q g rfl (u.1.snoc r.a5 r.b T.2.2 j) u.2;exact s (H.set (H.at m) { H.get (H.at m) with ech:=(H.get (H.at m)).ech++[(m.a5,m.body)] }) ms i ⟨l,nS⟩ aa aa (fun h=>.inr (by rw[qf nS,kK g] at h;exact h)) f b w N z F G I;rw[ai (by rw[e];decide),ai (by rw[e];decide)] at f;have nS:iH H (H.set (H.at m) { H.get (H.at m) with rdy:=(H.get (H.at m)).rdy++[(m.a5,m.body)] }):=ke g rfl;refine Ob.dL (E:=eZ gl w0 M0 F0) (c:=uE) (fun b w=>Hbm.dk (H.get (H.at m)).rdy m.a5=false/\Ob.GH (eZ gl w0 M0 F0) dn.ntmps (q0 H.p (H.get (H.at m)).ptr a m) (Ob.aj.sep (bz (H.set (H.at m) { H.get (H.at m) with rdy:=(H.get (H.at m)).rdy++[(m.a5,m.body)] })) (eW a ms i)) b w) ab ab ?_ ?_;refine aib gl w0 M0 F0 _ _ a m e _ _ _ _ _ _ (u.2.ok q.len q.i64) (q.i64 _ r.a5) aa _ (fun j=>?_) (fun j=>?_);rw[ak j] at f;rw[bw,bw] at f;have:=rm (H:=H) g (eW a ms i);unfold JP at this;rw[<- this];exact f;refine Ob.aP (tn g (t:={ H.get (H.at m) with rdy:=(H.get (H.at m)).rdy++[(m.a5,m.body)] }) rfl _).symm ?_;exact Ob.cr fun _ _ h=>⟨j,h⟩;intro b w N ⟨j,z⟩ F G I;rw[ai (by rw[j];decide)] at f;have l:du (H.set (H.at m) { H.get (H.at m) with rdy:=(H.get (H.at m)).rdy++[(m.a5,m.body)] }):=rR q g rfl u.1 (u.2.snoc r.a5 r.b T.2.2 j);exact s (H.set (H.at m) { H.get (H.at m) with rdy:=(H.get (H.at m)).rdy++[(m.a5,m.body)] }) ms i ⟨l,nS⟩ aa aa (fun h=>.inr (by rw[qf nS,kK g] at h;exact h)) f b w N z F G I
end
theorem yM (H:bb) (A:Ob.aj):Ob.aj.sep (bz H) A=Ob.aj.sep (jv H.p H.me H.mem H.mp) (Ob.aj.sep (fk H.mp (gU H.talks)) (Ob.aj.sep (ft H.talks) A)):=by unfold bz;ac_rfl
theorem OF {gl:Nat->Option (Sigma aH)} {rec:bb->Hbm.aG->eG} {i:bb->Hbm.aG->Prop} {c K:Nat} (k:tC gl rec i c) (o:ru rec) (l:tE rec K):tC gl (Hbn.ji rec) (IS i) (c+2*K+2):=by refine Ob.c9 (sp:=QN) qv ab (fun z=>by show 3<=dn.ntmps;exact Odt ab) (fun z _=>rfl) ?_;rintro⟨H,m,a,ms,j⟩ ⟨e,b,d,f,g,n⟩ w M F;have b:e6 H.mem m:=b;have d:H.at m<H.talks.length:=d;refine Ob.aP (yM H _) ?_;refine adF gl w M F H.p a H.mp H.me H.mem m e.len _ (fun h=>by rw[b.c] at h;cases h) fun _=>?_;refine Ob.aP (yM H _).symm ?_;refine adG gl w M F H e m b a _ fun q=>?_;rw[L0 d];refine adH gl w M F k o l e b d a ms j f g n ⟨(),trivial,Ob.br _,?_⟩;show _=Ob.aj.sep (bz (Hbn.ji rec H m).1) (eW a (ms++(Hbn.ji rec H m).2.1) (j++(Hbn.ji rec H m).2.2));unfold Hbn.ji;rw[ak b.c]
theorem aay (gl:Nat->Option (Sigma aH)):tC gl (fun H _=>(H,[],[])) (fun _ _=>False) 0:=fun _ h=>h.2.2.2.2.2.elim
theorem adv (gl:Nat->Option (Sigma aH)):tC gl (Hbn.kt 0) (IS fun _ _=>False) 2:=OF (aay gl) (fun H m h _ _=>⟨h,.rfl⟩) (K:=0) (fun H m=>⟨aI _,aI _⟩)
theorem YN:ru (Hbn.kt 0):=EG fun H m h _ _=>⟨h,.rfl⟩
theorem Yz:tE (Hbn.kt 0) 2:=Ce (K:=0) fun H m=>⟨aI _,aI _⟩
theorem adw (gl:Nat->Option (Sigma aH)):tC gl (Hbn.kt 1) (IS (IS fun _ _=>False)) 8:=OF (adv gl) YN Yz
theorem rec_1:ru (Hbn.kt 1):=EG YN
theorem YA:tE (Hbn.kt 1) 6:=Ce Yz
theorem rec_2:ru (Hbn.kt 2):=EG rec_1
theorem afS:tE (Hbn.kt 2) 14:=Ce YA
theorem aex (H:bb) (m:Hbm.aG):IS (IS (IS fun _ _=>False)) H m:=by refine⟨fun _ b=>⟨fun h=>absurd (show (2:Int)=1 from h) ae,fun _ c a=>⟨fun h=>absurd (show (3:Int)=1 from h) ae,fun h=>?_⟩⟩,fun _ b a=>⟨fun h=>absurd (show (3:Int)=1 from h) ae,fun h=>?_⟩⟩;rcases h with h|h;exact absurd (show (3:Int)=1 from h) ae;have h:(c.get (c.at (Hbn.own b 2 m))).ready=false:=h;rw[a] at h;cases h;rcases h with h|h;exact absurd (show (3:Int)=1 from h) ae;have h:(b.get (b.at m)).ready=false:=h;rw[a] at h;cases h
theorem H6 (gl:Nat->Option (Sigma aH)):Ob.ez Tryz.prog gl 81 (fun z:HIn=>[aB z.H.p,mb z.m,aB z.a]) (fun z=>du z.H/\Bs z.m.body/\z.ms.length+22<=1000/\z.ts.length+22<=1000)
  (fun z=>Ob.aj.sep (bz z.H) (eW z.a z.ms z.ts)) (fun _ (_:Nat × Nat × Nat)=>.tup []) (fun z q=>Ob.aj.sep (bz (Hbn.iX z.H z.m q).1) (eW z.a (z.ms++(Hbn.iX z.H z.m q).2.1) (z.ts++(Hbn.iX z.H z.m q).2.2))) (fun _ _=>True):=by
 refine Ob.c9 (sp:=QN) qv ab (fun z=>by show 3<=dn.ntmps;exact Odt ab) (fun z _=>rfl) ?_;rintro⟨H,m,a,ms,j⟩ ⟨d,o,f,g⟩ w M F;refine Ob.aP (yM H _) ?_;refine adF gl w M F H.p a H.mp H.me H.mem m d.len _ (fun h=>?_) fun h=>?_
 ·refine⟨(0,0,0),trivial,Ob.br _,?_⟩;rw[<- yM];show _=Ob.aj.sep (bz (Hbn.iX H m (0,0,0)).1) (eW a (ms++(Hbn.iX H m (0,0,0)).2.1) (j++(Hbn.iX H m (0,0,0)).2.2));have e:Hbn.iX H m (0,0,0)=(H,[],[]):=by
   unfold Hbn.iX;rw[ai (by rw[h];decide)];show Hbn.ji (Hbn.kt 1) H m=_;unfold Hbn.ji;rw[ai (by rw[h];decide)]
  rw[e,bw,bw]
 ·have i:e6 H.mem m:=⟨h,o⟩;refine Ob.aP (yM H _).symm ?_;refine adG gl w M F H d m i a _ fun q=>?_;obtain⟨l,n⟩:=YG d i q;have k:(H.of m q).mem=H.mem/\(H.of m q).p=H.p:=by unfold Hbn.bb.of;split<;>exact⟨rfl,rfl⟩
  have b:e6 (H.of m q).mem m:=by rw[k.1];exact i
  rw[<- k.2];refine adH gl w M F (adw gl) rec_1 YA l b n a ms j f g (aex _ _) ⟨q,trivial,Ob.br _,?_⟩;show _=Ob.aj.sep (bz (Hbn.iX H m q).1) (eW a (ms++(Hbn.iX H m q).2.1) (j++(Hbn.iX H m q).2.2));have e:Hbn.iX H m q=Hbn.mK (Hbn.kt 1) (H.of m q) ((H.of m q).at m) m:=by unfold Hbn.iX;rw[ak h];show Hbn.ji (Hbn.kt 1) _ m=_;unfold Hbn.ji;rw[ak b.c]
  rw[e]
set_option maxHeartbeats 4000000
theorem U2 (a:Nat) (m:Hbm.aG) (w:World) (M:Mem) (F:Nat->Prop) (h:(Ob.aj.obj [[.sl 1 0 0 1 7,.v (.slice none 0 0)],[.row iJ 1 [m]]] a Ob.aj.none).P w M F):(eW a [m] []).P w M F:=by
 refine Ob.WG (U1 1 0 [m] []) (fun n i e l b c=>?_) (by show 2<=3;omega) w M F h;match i,b with
 | 0,b =>cases b;obtain⟨f,g,rfl,d,j,k,rfl,⟨rfl,_⟩,rfl⟩:=c;exact⟨_,rfl,_,_,rfl,d,_,_,rfl,.inl ⟨rfl,rfl⟩,rfl⟩
 | 1,b =>cases b;exact⟨_,rfl,c⟩
theorem Oi:enters Tryz.prog 107 Tryz.f107:=ek
abbrev jG:Func:=Tryz.f107
def SyA (p:Nat) (t:Int) (b:List Int):St:=av jG.ntmps 8 [(0,aB p),(1,sI .i64 t),(2,lP b)] []
def SyB (p:Nat) (t:Int) (b:List Int):St:=av jG.ntmps 8 [(0,aB p),(1,sI .i64 t),(2,lP b),(10,aB p)] []
def SyC (t:Int) (b:List Int) (a:Int) (mem:List Int) (c:Nat):St:=av jG.ntmps 9 [(0,ao 8 0),(1,sI .i64 t),(2,lP b)] [(8,db a mem c)]
def SyD (m:Hbm.aG) (a:Int) (mem:List Int) (b:Nat):St:=av jG.ntmps 106 [(0,ao 8 0),(8,ao 105 0)] [(105,df m),(8,db a mem b)]
def SyE (p:Nat) (m:Hbm.aG):St:=av jG.ntmps 106 [(0,aB p),(8,ao 105 0)] [(105,df m)]
def SyG (p:Nat) (m:Hbm.aG):St:=av jG.ntmps 131 [(0,aB p),(8,ao 105 0),(9,ao 130 0)] [(105,df m),(130,[.sl 114 0 0 1 7,.v (.slice none 0 0)]),(114,[.row iJ 1 [m]])]
def SyH (p a:Nat) (m:Hbm.aG):St:=av jG.ntmps 106 [(0,aB p),(8,ao 105 0),(9,aB a)] [(105,df m)]
def SyI (p a:Nat) (m:Hbm.aG):St:=av jG.ntmps 8 [(9,aB a),(27,aB p),(28,mb m)] []
def SyJ (a:Nat):St:=av jG.ntmps 8 [(9,aB a)] []
def SyK (n k:Nat) (ms:List Hbm.aG) (a:List Hbm.Told):St:=av jG.ntmps 11 [(9,ao 8 0)] [(8,[.sl 9 0 0 n 7,.sl 10 0 0 k 3]),(9,[.row iJ n ms]),(10,[.row fu k a])]
def SyL (n k:Nat) (ms:List Hbm.aG) (a:List Hbm.Told):St:=av jG.ntmps 11 [(6,ag (.sl 9 0 0 n 7)),(7,ag (.sl 10 0 0 k 3))] [(8,[.sl 9 0 0 n 7,.sl 10 0 0 k 3]),(9,[.row iJ n ms]),(10,[.row fu k a])]
def SyN (ms:List Hbm.aG) (a:List Hbm.Told):St:=av jG.ntmps 8 [(6,ag (.ro iJ ms)),(7,ag (.ro fu a))] []
abbrev UU:=aU [qD]
theorem su:aJ Tryz.prog UU:=aM uo bD
section
variable (gl:Nat->Option (Sigma aH)) (w0:World) (M0:Mem) (F0:Nat->Prop)
abbrev uJ:Ob.cf:=Ob.lj Tryz.prog UU gl w0 M0 F0
theorem afs (p c:Nat) (a:Int) (mem:List Int) (t:Int) (b:List Int) (e:b.length<1048576) (d:mem≠[]) (R:Ob.aj) {n r:ax} {x:Nat->ax}
  (h:Ob.aN Tryz.prog ((al jG).drop 4) (Ob.GH (uJ gl w0 M0 F0) jG.ntmps (SyE p (1,0,a,a,t,0,b)) (Ob.aj.sep (jv p a mem c) R)) n r x) :
  Ob.aN Tryz.prog (al jG) (Ob.GH (uJ gl w0 M0 F0) jG.ntmps (lx jG [aB p,sI .i64 t,lP b] [] 0) (Ob.aj.sep (jv p a mem c) R)) n r x:=by
 refine Ob.eK su 1 (SyA p t b) ?_;refine Ob.ep 1 (bC (ar (al jG) 1)) ?_;refine Ob.dT su 1 (SyB p t b) ?_;refine Ob.kj (E:=uJ gl w0 M0 F0) (Ob.b5 (fun _=>R) (OY gl)) (p,a,mem,c) d kM (fun _ _=>?_);refine Ob.ei ?_;refine Ob.e5 (ar (al jG) 2) ?_;refine Ob.fR (SyA p t b) ?_;refine Ob.aP (Ob.bF _ _ _).symm ?_;refine Ob.gR [0] (SyC t b a mem c) ?_;refine Ob.gcd su 1 (fun _=>()) (fun _=>SyD (1,0,a,a,t,0,b) a mem c) (fun _=>True) ?_ (fun _ _=>?_);intros;refine @aq (pa (b,())/\(SyD (1,0,a,a,t,0,b) a mem c).ah True) _ ?_ ?_;kernel_rfl;exact⟨e,au trivial⟩;refine Ob.fj (E:=uJ gl w0 M0 F0) (bl:=[db a mem c]) [105] [8] 9 (SyE p (1,0,a,a,t,0,b)) ?_;exact Ob.aP (E:=uJ gl w0 M0 F0) (Ob.bF _ _ _) h
theorem aft (p:Nat) (m:Hbm.aG) (G:Ob.aj) {n r:ax} {x:Nat->ax}
  (h:∀ a,Ob.aN Tryz.prog ((al jG).drop 5) (Ob.GH (uJ gl w0 M0 F0) jG.ntmps (SyH p a m) (Ob.aj.sep G (eW a [m] []))) n r x) :
  Ob.aN Tryz.prog ((al jG).drop 4) (Ob.GH (uJ gl w0 M0 F0) jG.ntmps (SyE p m) G) n r x:=by
 obtain⟨mk,b,d,f,mt,e,c⟩:=m;refine Ob.eK su 1 (SyG p (mk,b,d,f,mt,e,c)) ?_;refine Ob.C9 (E:=uJ gl w0 M0 F0) (bl:=[[.sl 1 0 0 1 7,.v (.slice none 0 0)],[.row iJ 1 [(mk,b,d,f,mt,e,c)]]]) 9 [105] [130,114] rfl ab ab ab ab rfl ab (fun a=>SyH p a (mk,b,d,f,mt,e,c)) (fun a=>ay ab ab trivial) (fun a=>?_);refine Ob.aP ((Ob.bF _ _ _).trans (Ob.ja _ _)) ?_;refine Ob.HV (E:=uJ gl w0 M0 F0) (G':=Ob.aj.sep G (eW a [(mk,b,d,f,mt,e,c)] [])) ?_ (h a);rintro w M F ⟨g,F2,i,j,k,l⟩;exact⟨g,F2,i,U2 a _ w M F2 j,k,l⟩
theorem afv (a:Nat) (ms:List Hbm.aG) (b:List Hbm.Told) (G:Ob.aj) {Q:SV->Ob.aj->Prop} (c:Q (.tup [.one (.ro iJ ms),.one (.ro fu b)]) G) :
  Ob.aN Tryz.prog ((al jG).drop 6) (Ob.GH (uJ gl w0 M0 F0) jG.ntmps (SyJ a) (Ob.aj.sep G (eW a ms b))) (Ob.c1 (uJ gl w0 M0 F0) jG Q) (Ob.c1 (uJ gl w0 M0 F0) jG Q) (fun _ _ _=>False):=by
 rw[<- BF a ms.length b.length ms b rfl rfl G];refine Ob.gR [9] (SyK ms.length b.length ms b) ?_;refine Ob.eK su 1 (SyL ms.length b.length ms b) ?_;refine Ob.OB 6 9 ms.length 7 iJ ms ?_;refine Ob.OB 7 10 b.length 3 fu b ?_;refine Ob.S6 (E:=uJ gl w0 M0 F0) rfl 8 a 9 ?_;refine Ob.fR (SyN ms b) ?_;exact Ob.sn su _ c
theorem afu (p a:Nat) (m:Hbm.aG) (G:Ob.aj) {n r:ax} {x:Nat->ax}
  (h:Ob.kz Tryz.prog (bC (ar (al jG) 5)) 2 ((al jG).drop 6) (Ob.GH (uJ gl w0 M0 F0) jG.ntmps (SyI p a m) G) n r x) :
  Ob.aN Tryz.prog ((al jG).drop 5) (Ob.GH (uJ gl w0 M0 F0) jG.ntmps (SyH p a m) G) n r x:=by
 obtain⟨mk,b,d,f,mt,e,c⟩:=m;refine Ob.ep 5 (bC (ar (al jG) 5)) ?_;refine Ob.gA su 2 (fun _=>()) (fun _=>SyI p a (mk,b,d,f,mt,e,c)) (fun _=>True) ?_ (fun _ _=>h);intros;refine @aq ((SyI p a (mk,b,d,f,mt,e,c)).ah True) _ ?_ ?_;kernel_rfl;exact au trivial
end
theorem aei (gl:Nat->Option (Sigma aH)):Ob.ez Tryz.prog gl 107 (fun z:bb × Int × List Int=>[aB z.1.p,sI .i64 z.2.1,lP z.2.2]) (fun z=>du z.1/\Bs z.2.2/\z.2.2.length<1048576)
  (fun z=>bz z.1) (fun z (q:Nat × Nat × Nat)=>.tup [.one (.ro iJ (Hbn.iS z.1 z.2.1 z.2.2 q).2.1),.one (.ro fu (Hbn.iS z.1 z.2.1 z.2.2 q).2.2)]) (fun z q=>bz (Hbn.iS z.1 z.2.1 z.2.2 q).1) (fun _ _=>True):=by
 refine Ob.c9 (sp:=UU) Oi ab (fun z=>by show 3<=jG.ntmps;exact Odt ab) (fun z _=>rfl) ?_;rintro⟨H,t,b⟩ ⟨d,e,c⟩ w M F;have c:b.length<1048576:=c;refine Ob.aP (G':=Ob.aj.sep (jv H.p H.me H.mem H.mp) (Ob.aj.sep (fk H.mp (gU H.talks)) (ft H.talks))) rfl ?_;refine afs gl w M F H.p H.mp H.me H.mem t b c d.ne _ ?_;refine Ob.aP (G':=bz H) rfl ?_;refine aft gl w M F H.p (1,0,H.me,H.me,t,0,b) _ fun a=>?_;refine afu gl w M F H.p a _ _ ?_;refine Ob.kj (E:=uJ gl w M F) (H6 gl) ⟨H,(1,0,H.me,H.me,t,0,b),a,[(1,0,H.me,H.me,t,0,b)],[]⟩ ⟨d,e,by show 1+22<=1000;omega,by show 0+22<=1000;omega⟩ qv (fun q _=>?_);refine Ob.ei ?_;refine Ob.fR (SyJ a) ?_;exact afv gl w M F a _ _ _ ⟨q,trivial,Ob.br _,rfl⟩
end hub
end Go.Proofs.YtofofalgjibokaaGreatDoor
namespace Go.Eng
open Go.IntKind(i64)
def dx {b:Type} (p:b->Bool) (a:List b):Int:=if a.findIdx p<a.length then (a.findIdx p:Int) else -1
theorem vg {b:Type} {p:b->Bool} {a:List b} {k:Nat} (d:b) (g:k<a.length) (h:k<=a.findIdx p) (f:p (a.getD k d)=true):(k:Int)=dx p a:=by
 have e:a.findIdx p=k:=by rcases bS k (a.findIdx p) with c|c;have:=List.not_of_lt_findIdx c;rw[a2,bu g,cx] at f;rw[f] at this;cases this;omega
 rw[dx,e,ak g]
theorem q7 {b:Type} {p:b->Bool} {xs:List b} {k:Nat} (d:b) (f:k<xs.length) (h:k<=xs.findIdx p) (a:p (xs.getD k d)=false):k+1<=xs.findIdx p:=by
 rcases bS k (xs.findIdx p) with c|c;exact c
 ·have e:xs.findIdx p=k:=by omega
  have:=wG (p:=p) (xs:=xs) (w:=by omega);rw[a2,bu f,cx] at a;simp only[e] at this;rw[this] at a;cases a
theorem sW {b:Type} {p:b->Bool} {a:List b} (h:a.length<=a.findIdx p):dx p a=-1:=by rw[dx,ai aa]
end Go.Eng
namespace Go.Proofs.YtofofalgjibokaaGreatDoor
namespace deal
open Go.Proofs.YtofofalgjibokaaGreatDoor.law14 Go.Proofs.YtofofalgjibokaaGreatDoor.poly
open Go.IntKind(i64)
abbrev cy:Kd:=.pair (.int .i64) (.sl aQ)
abbrev cG:Kd:=.pair (.int .i64) (.pair (.int .i64) .fr)
abbrev iK:Kd:=.int .i64
theorem Vp:enters Tryz.prog 152 Tryz.f152:=ek
theorem Z3:aO Tryz.prog 152 [cy,.ptr iK] [.val .bool] bB (fun _=>True) (fun (d,x,_)=>(d.1==x,())):=by refine bg (sp:=aU []) bD mixed Vp ae ae ?_;rintro w a ⟨d,x,⟨⟩⟩;revert x;intro (x:Int) _ _;refine aq (X:=(0<[x].length/\(d.fst==x,())=(d.fst==x,()))) ab ?_;exact⟨jY,rfl⟩
def Uq:Nat × Eng.Spec:=(152,aK [cy,.ptr iK] [.val .bool] (fun _=>True) (fun (d,x,_)=>(d.1==x,())))
abbrev FH:Kd:=.cap (.fn 152) iK
theorem ZL:enters Tryz.prog 109 Tryz.f109:=ek
def QQ (a:List (Int × List (Fp × Fp))) (x:Int) (g:Int):St:=av Tryz.f109.ntmps 32 [(0,ag (.ro (cy) a)),(1,ag (.fv FH ((),x))),(7,sI .i64 a.length),(8,sI .i64 g)] []
theorem acM:aO Tryz.prog 109 [.sl (cy),FH] [.val iK] bB (fun (a,_,_)=>length a<4611686018427387904) (fun (a,(_,x),_)=>(dx (fun d:Int × List (Fp × Fp)=>d.1==x) a,())):=by
 have e:aJ Tryz.prog (aU [Uq]):=aM (aR Z3) bD;refine bL (sp:=aU [Uq]) ZL ae ae ab ?_;rintro w q ⟨a,⟨⟨⟩,x⟩,⟨⟩⟩;revert a x;intro (a:List (Int × List (Fp × Fp))) (x:Int) _ m;have m:a.length<4611686018427387904:=m;show Tr _ _ _ _ _ _ _;refine bh e mixed 2 (QQ a x 0) True ?_ (fun _=>?_);refine aq (X:=((QQ a x 0).ah True)) ab ?_;exact au trivial;refine cl e mixed gO (fun o=>bo (.int .i64) 8 o) (QQ a x) (fun g=>∃ k:Nat,k<=a.length/\g=(k:Int)/\k<=a.findIdx (fun d:Int × List (Fp × Fp)=>d.1==x)) (fun g=>a.length-g.toNat)
  (fun _=>()) (fun _=>av Tryz.f109.ntmps 32 [] []) (fun _=>a.length<=a.findIdx (fun d:Int × List (Fp × Fp)=>d.1==x)) 0 (c:=ar (al Tryz.f109) 2) ab ab (ay ab ab ?_) ?_ ?_
 exact⟨0,a8 _,rfl,a8 _⟩
 ·intro (i:Int) ⟨k,r,n,j⟩;subst n;refine aq (X:=((decide ((k:Int)<(a.length:Int))=true->(0<=(k:Int)/\(k:Int)<(a.length:Int))/\(k:Int).toNat<a.length/\True/\(((a.getD (k:Int).toNat (0,[])).fst==x)=true->((k:Int),())=(dx (fun d=>d.fst==x) a,()))/\(((a.getD (k:Int).toNat (0,[])).fst==x)=false->(QQ a x (i64.wrap ((k:Int)+1))).ah ((∃ f,f<=a.length/\i64.wrap ((k:Int)+1)=(f:Int)/\f<=List.findIdx (fun d=>d.fst==x) a)/\a.length-(i64.wrap ((k:Int)+1)).toNat<a.length-(k:Int).toNat)))/\(decide ((k:Int)<(a.length:Int))=false->(av Tryz.f109.ntmps 32 [] []).ah (a.length<=List.findIdx (fun d=>d.fst==x) a)))) ab ?_;rw[aF];refine⟨fun h=>?_,fun h=>au (by have:=bX h;omega)⟩;have b:k<a.length:=by have:=dec_lt h;omega
  rw[aS aa];refine⟨⟨aa,aa⟩,b,trivial,fun l=>?_,fun l=>au ⟨⟨k+1,b,rfl,q7 ((0:Int),([]:List (Fp × Fp))) b j (by exact l)⟩,by rw[aF];omega⟩⟩;show ((k:Int),())=(dx _ a,());rw[vg ((0:Int),([]:List (Fp × Fp))) b j (by exact l)]
 rintro⟨⟩ (j:_<=_);refine bJ e mixed _ _ ?_;refine aq (X:=(((-1:Int),())=(dx (fun d=>d.fst==x) a,()))) ab ?_;show _=(dx _ a,());rw[sW j]
theorem Vr:enters Tryz.prog 114 Tryz.f114:=ek
theorem Z5:aO Tryz.prog 114 [cy,.ptr iK] [.val .bool] bB (fun _=>True) (fun (d,x,_)=>(d.1==x,())):=by refine bg (sp:=aU []) bD mixed Vr ae ae ?_;rintro w a ⟨d,x,⟨⟩⟩;revert x;intro (x:Int) _ _;refine aq (X:=(0<[x].length/\(d.fst==x,())=(d.fst==x,()))) ab ?_;exact⟨jY,rfl⟩
def Us:Nat × Eng.Spec:=(114,aK [cy,.ptr iK] [.val .bool] (fun _=>True) (fun (d,x,_)=>(d.1==x,())))
abbrev FI:Kd:=.cap (.fn 114) iK
theorem ZN:enters Tryz.prog 109 Tryz.f109:=ek
def QS (a:List (Int × List (Fp × Fp))) (x:Int) (g:Int):St:=av Tryz.f109.ntmps 32 [(0,ag (.ro (cy) a)),(1,ag (.fv FI ((),x))),(7,sI .i64 a.length),(8,sI .i64 g)] []
theorem acP:aO Tryz.prog 109 [.sl (cy),FI] [.val iK] bB (fun (a,_,_)=>length a<4611686018427387904) (fun (a,(_,x),_)=>(dx (fun d:Int × List (Fp × Fp)=>d.1==x) a,())):=by
 have e:aJ Tryz.prog (aU [Us]):=aM (aR Z5) bD;refine bL (sp:=aU [Us]) ZN ae ae ab ?_;rintro w q ⟨a,⟨⟨⟩,x⟩,⟨⟩⟩;revert a x;intro (a:List (Int × List (Fp × Fp))) (x:Int) _ m;have m:a.length<4611686018427387904:=m;show Tr _ _ _ _ _ _ _;refine bh e mixed 2 (QS a x 0) True ?_ (fun _=>?_);refine aq (X:=((QS a x 0).ah True)) ab ?_;exact au trivial;refine cl e mixed gO (fun o=>bo (.int .i64) 8 o) (QS a x) (fun g=>∃ k:Nat,k<=a.length/\g=(k:Int)/\k<=a.findIdx (fun d:Int × List (Fp × Fp)=>d.1==x)) (fun g=>a.length-g.toNat)
  (fun _=>()) (fun _=>av Tryz.f109.ntmps 32 [] []) (fun _=>a.length<=a.findIdx (fun d:Int × List (Fp × Fp)=>d.1==x)) 0 (c:=ar (al Tryz.f109) 2) ab ab (ay ab ab ?_) ?_ ?_
 exact⟨0,a8 _,rfl,a8 _⟩
 ·intro (i:Int) ⟨k,r,n,j⟩;subst n;refine aq (X:=((decide ((k:Int)<(a.length:Int))=true->(0<=(k:Int)/\(k:Int)<(a.length:Int))/\(k:Int).toNat<a.length/\True/\(((a.getD (k:Int).toNat (0,[])).fst==x)=true->((k:Int),())=(dx (fun d=>d.fst==x) a,()))/\(((a.getD (k:Int).toNat (0,[])).fst==x)=false->(QS a x (i64.wrap ((k:Int)+1))).ah ((∃ f,f<=a.length/\i64.wrap ((k:Int)+1)=(f:Int)/\f<=List.findIdx (fun d=>d.fst==x) a)/\a.length-(i64.wrap ((k:Int)+1)).toNat<a.length-(k:Int).toNat)))/\(decide ((k:Int)<(a.length:Int))=false->(av Tryz.f109.ntmps 32 [] []).ah (a.length<=List.findIdx (fun d=>d.fst==x) a)))) ab ?_;rw[aF];refine⟨fun h=>?_,fun h=>au (by have:=bX h;omega)⟩;have b:k<a.length:=by have:=dec_lt h;omega
  rw[aS aa];refine⟨⟨aa,aa⟩,b,trivial,fun l=>?_,fun l=>au ⟨⟨k+1,b,rfl,q7 ((0:Int),([]:List (Fp × Fp))) b j (by exact l)⟩,by rw[aF];omega⟩⟩;show ((k:Int),())=(dx _ a,());rw[vg ((0:Int),([]:List (Fp × Fp))) b j (by exact l)]
 rintro⟨⟩ (j:_<=_);refine bJ e mixed _ _ ?_;refine aq (X:=(((-1:Int),())=(dx (fun d=>d.fst==x) a,()))) ab ?_;show _=(dx _ a,());rw[sW j]
theorem Vt:enters Tryz.prog 159 Tryz.f159:=ek
theorem Z7:aO Tryz.prog 159 [iK,.ptr iK] [.val .bool] bB (fun _=>True) (fun (d,x,_)=>(d==x,())):=by refine bg (sp:=aU []) bD mixed Vt ae ae ?_;rintro w a ⟨d,x,⟨⟩⟩;revert x;intro (x:Int) _ _;refine aq (X:=(0<[x].length/\(d==x,())=(d==x,()))) ab ?_;exact⟨jY,rfl⟩
def Uu:Nat × Eng.Spec:=(159,aK [iK,.ptr iK] [.val .bool] (fun _=>True) (fun (d,x,_)=>(d==x,())))
abbrev FK:Kd:=.cap (.fn 159) iK
theorem ZP:enters Tryz.prog 158 Tryz.f158:=ek
def QU (a:List (Int)) (x:Int) (g:Int):St:=av Tryz.f158.ntmps 32 [(0,ag (.ro (iK) a)),(1,ag (.fv FK ((),x))),(7,sI .i64 a.length),(8,sI .i64 g)] []
theorem acR:aO Tryz.prog 158 [.sl (iK),FK] [.val iK] bB (fun (a,_,_)=>length a<4611686018427387904) (fun (a,(_,x),_)=>(dx (fun d:Int=>d==x) a,())):=by
 have e:aJ Tryz.prog (aU [Uu]):=aM (aR Z7) bD;refine bL (sp:=aU [Uu]) ZP ae ae ab ?_;rintro w q ⟨a,⟨⟨⟩,x⟩,⟨⟩⟩;revert a x;intro (a:List (Int)) (x:Int) _ m;have m:a.length<4611686018427387904:=m;show Tr _ _ _ _ _ _ _;refine bh e mixed 2 (QU a x 0) True ?_ (fun _=>?_);refine aq (X:=((QU a x 0).ah True)) ab ?_;exact au trivial;refine cl e mixed gO (fun o=>bo (.int .i64) 8 o) (QU a x) (fun g=>∃ k:Nat,k<=a.length/\g=(k:Int)/\k<=a.findIdx (fun d:Int=>d==x)) (fun g=>a.length-g.toNat)
  (fun _=>()) (fun _=>av Tryz.f158.ntmps 32 [] []) (fun _=>a.length<=a.findIdx (fun d:Int=>d==x)) 0 (c:=ar (al Tryz.f158) 2) ab ab (ay ab ab ?_) ?_ ?_
 exact⟨0,a8 _,rfl,a8 _⟩
 ·intro (i:Int) ⟨k,r,n,j⟩;subst n;refine aq (X:=((decide ((k:Int)<(a.length:Int))=true->(0<=(k:Int)/\(k:Int)<(a.length:Int))/\(k:Int).toNat<a.length/\True/\((a.getD (k:Int).toNat 0==x)=true->((k:Int),())=(dx (fun d=>d==x) a,()))/\((a.getD (k:Int).toNat 0==x)=false->(QU a x (i64.wrap ((k:Int)+1))).ah ((∃ f,f<=a.length/\i64.wrap ((k:Int)+1)=(f:Int)/\f<=List.findIdx (fun d=>d==x) a)/\a.length-(i64.wrap ((k:Int)+1)).toNat<a.length-(k:Int).toNat)))/\(decide ((k:Int)<(a.length:Int))=false->(av Tryz.f158.ntmps 32 [] []).ah (a.length<=List.findIdx (fun d=>d==x) a)))) ab ?_;rw[aF];refine⟨fun h=>?_,fun h=>au (by have:=bX h;omega)⟩;have b:k<a.length:=by have:=dec_lt h;omega
  rw[aS aa];refine⟨⟨aa,aa⟩,b,trivial,fun l=>?_,fun l=>au ⟨⟨k+1,b,rfl,q7 (0:Int) b j (by exact l)⟩,by rw[aF];omega⟩⟩;show ((k:Int),())=(dx _ a,());rw[vg (0:Int) b j (by exact l)]
 rintro⟨⟩ (j:_<=_);refine bJ e mixed _ _ ?_;refine aq (X:=(((-1:Int),())=(dx (fun d=>d==x) a,()))) ab ?_;show _=(dx _ a,());rw[sW j]
open law14 poly
theorem Ss:enters Tryz.prog 31 Tryz.f31:=ek
abbrev pb:HL [.sl aQ]->Prop:=fun (c,_)=>length c<1048576
theorem EA:aO Tryz.prog 31 [.sl aQ] [.own aQ] bB pb (fun (c,_)=>(c,())):=by have a:aJ Tryz.prog (aU []):=bD;refine xg (sp:=aU []) Ss ae ae ab ?_ ?_;rintro w d ⟨⟩ _ b;show Tr _ _ _ _ _ _ _;refine bJ a mixed _ _ ?_;refine aq (X:=((([]:List (Fp × Fp)),())=(([]:List (Fp × Fp)),()))) ab rfl;rintro w d c ⟨⟩ _ _ b;revert c;intro (c:List (Fp × Fp)) _ b;have b:c.length<1048576:=b;show Tr _ _ _ _ _ _ _;refine bJ a mixed _ _ ?_;refine aq (X:=(0<=0/\(0+c.length)*96<=140737488355328/\0+c.length<=4611686018427387904/\0+(0+c.length)<=0+c.length/\(take (0+c.length) (take 0 []++c),())=(c,()))) ab ?_;rw[tR,dG,bO,aT];exact⟨aI _,aa,aa,aa,rfl⟩
def IA:Nat × Eng.Spec:=(31,aK [.sl aQ] [.own aQ] pb (fun (c,_)=>(c,())))
theorem aeM:∀ {b:List Int} {a:Int},kc a b=true->∀ x∈b,a<x/\x<=9:=by
 intro b;induction b with
 | nil=>intro a _ x hx;cases hx
 | cons y b c =>intro a h x hx;rw[kc] at h;split at h;cases h;rcases mem_cons.1 hx with rfl|hx;omega;have:=c h x hx;omega
theorem SE:enters Tryz.prog 113 Tryz.f113:=ek
def cO (d:List Int) (o:List (Fp × Fp)) (q:List Int):List Int × List Fr × Int :=
 if kc 0 q=true/\Cp d o<=(q.length:Int) then (if o.length=0 then (q,[],0) else (q.take o.length,p9 (q.take o.length),ra [] (q.take o.length))) else ([],[],32)
abbrev GG:HL [dR,.sl iK]->Prop:=fun ((_,_,_,o),q,_)=>length o<1048576/\length q<4611686018427387904
abbrev yV:HL [dR,.sl iK]->HO [.val (.sl iK),.own .fr,.val iK]:=fun ((d,_,_,o),q,_)=>((cO d o q).1,(cO d o q).2.1,(cO d o q).2.2,())
theorem K8:aO Tryz.prog 113 [dR,.sl iK] [.val (.sl iK),.own .fr,.val iK] bB GG yV:=by
 refine bg (sp:=aU [MF,abA,zi,Uz]) (aM (aR Jb) (aM (aR VW) (aM (aR zJ) (aM (aR QD) bD)))) mixed SE ae ae ?_;rintro w s ⟨⟨d,t,n,o⟩,q,⟨⟩⟩;revert d t n o q;intro (d:List Int) (t:List Int) (n:Int) (o:List (Fp × Fp)) (q:List Int) _ m;obtain⟨g,f⟩:=m;have g:o.length<1048576:=g;have f:q.length<4611686018427387904:=f;refine aq (X:=(CC (q,())/\((!kc 0 q)=true->([],[],32,())=yV ((d,t,n,o),q,()))/\((!kc 0 q)=false->True/\(decide ((q.length:Int)<Cp d o)=true->([],[],32,())=yV ((d,t,n,o),q,()))/\(decide ((q.length:Int)<Cp d o)=false->True/\(((o.length:Int)==0)=true->(q,[],0,())=yV ((d,t,n,o),q,()))/\(((o.length:Int)==0)=false->(0<=(o.length:Int)/\(o.length:Int)<=(q.length:Int))/\Ak (take ((o.length:Int)-0).toNat q,())/\0+(p9 (take ((o.length:Int)-0).toNat q)).length<=(p9 (take ((o.length:Int)-0).toNat q)).length/\(take ((o.length:Int)-0).toNat q,take (p9 (take ((o.length:Int)-0).toNat q)).length (p9 (take ((o.length:Int)-0).toNat q)),ra [] (take ((o.length:Int)-0).toNat q),())=yV ((d,t,n,o),q,())))))) ab ?_;have j:((o.length:Int)-0).toNat=o.length:=aa;rw[j];refine⟨f,fun h=>?_,fun h=>⟨trivial,fun a=>?_,fun a=>⟨trivial,fun b=>?_,fun b=>?_⟩⟩⟩;show _=((cO d o q).1,(cO d o q).2.1,(cO d o q).2.2,());rw[cO,ai (fun c=>by rw[c.1] at h;cases h)];show _=((cO d o q).1,(cO d o q).2.1,(cO d o q).2.2,());rw[cO,ai (fun c=>by have:=Odt a;omega)];show _=((cO d o q).1,(cO d o q).2.1,(cO d o q).2.2,());have b:(o.length:Int)=0:=eq_of_beq b;have a:=Odf a;rw[cO,ak ⟨by simpa using h,aa⟩,ak aa]
 ·have l:=b;have b:¬ (o.length:Int)=0:=fun c=>by rw[c] at b;simp at b
  have a:=Odf a;have i:kc 0 q=true:=by simpa using h
  have k:Cp d o=(o.length:Int):=by rw[Cp,ak (by rw[l];rfl)]
  have e:(o.length:Int)<=q.length:=by rw[k] at a;omega
  refine⟨⟨aa,e⟩,⟨by show (q.take o.length).length<_;rw[c5];omega,fun x r=>?_⟩,aa,?_⟩;have:=aeM i x (nm r);exact⟨aa,aa⟩;rw[aT];show _=((cO d o q).1,(cO d o q).2.1,(cO d o q).2.2,());rw[cO,ak ⟨i,aa⟩,ai aa]
def DF:Nat × Eng.Spec:=(113,aK [dR,.sl iK] [.val (.sl iK),.own .fr,.val iK] GG yV)
abbrev Dl:Type:=Int × List (Fp × Fp)
def hO (a:List Dl) (x:Int):Int:=eR (dx (fun d:Dl=>d.1==x) a)
theorem ac5:aO Tryz.prog 109 [.sl cy,FI] [.val iK] bB (fun (a,_,_)=>length a<4611686018427387904) (fun (a,(_,x),_)=>(hO a x,())):=acP.out fun (a,(_,x),_)=>by show (hO a x,())=(dx (fun d:Dl=>d.1==x) a,());rw[hO,bm]
def YY:Nat × Eng.Spec:=(109,aK [.sl cy,FI] [.val iK] (fun (a,_,_)=>length a<4611686018427387904) (fun (a,(_,x),_)=>(hO a x,())))
def cS (a:List Dl) (x:Int):List (Fp × Fp):=(a.getD (hO a x).toNat (0,[])).2
def nP (a:List Dl) (n x:Int):Bool:=decide (0<=hO a x)&&decide (((cS a x).length:Int)=n)
def jW (a:List Fr) (k:Nat) (c:List (Fp × Fp)):List (Fp × Fp):=if a.length=0 then c else c.map fun p=>g1.cZ p (a.getD k 0)
def jS (a:List Dl) (b:List Int) (d:List Fr):Nat->List (Fp × Fp)
 | 0=>[]
 | k+1=>ik (jS a b d k) (jW d k (cS a (b.getD k 0)))
def xn (n:Int) (b:List Dl) (a:List Int) (d:List Fr) (e:Int):List (Fp × Fp) × Int:=if e=0 then (if a.all (nP b n)=true then (jS b a d a.length,0) else ([],41)) else ([],e)
def nD (d:List Int) (n:Int) (o:List (Fp × Fp)) (q:List Int) (a:List Dl):List (Fp × Fp) × Int:=xn n a (cO d o q).1 (cO d o q).2.1 (cO d o q).2.2
theorem PG (d:List Int) (o:List (Fp × Fp)) (q:List Int):(cO d o q).1.length<=q.length/\((cO d o q).2.2=0->(cO d o q).2.1.length=0\/(cO d o q).2.1.length=(cO d o q).1.length):=by unfold cO;split;split;exact⟨aI _,fun _=>.inl rfl⟩;refine⟨by rw[c5];exact Nat.min_le_right _ _,fun h=>.inr ?_⟩;show (p9 _).length=_;rw[p9,ak h,bZ];exact⟨a8 _,fun h=>absurd h ae⟩
theorem Vu:enters Tryz.prog 71 Tryz.f71:=ek
abbrev Dr:HL [dR,.sl iK,.sl cy]->Prop:=fun ((_,_,n,o),q,a,_)=>length o<1048576/\length q<4611686018427387904/\length a<4611686018427387904/\n<1048576
def ye (f:Fp × Fp->Fp × Fp) (c:List (Fp × Fp)) (j:Nat):List (Fp × Fp):=(c.take j).map f++c.drop j
theorem Tx (f:Fp × Fp->Fp × Fp) (c:List (Fp × Fp)) {j:Nat} (h:j<c.length):(ye f c j).set j (f ((ye f c j).getD j (0,0)))=ye f c (j+1):=by
 have a:(ye f c j).getD j (0,0)=c[j]:=by rw[ye,a2,qo (by simp;omega)];simp[h,iU (tX h)]
 rw[a,ye,ye,qp _ _ (by simp;omega),cw h,di];have b:j-((c.take j).map f).length=0:=by simp;omega
 rw[b,lW h,oD,cH];rfl
def ad7 (c:List (Fp × Fp)) (f:Fp × Fp->Fp × Fp) (g:Int × List (Fp × Fp)):Prop:=∃ j:Nat,j<=c.length/\g.1=(j:Int)/\g.2=ye f c j
def Yw (n:Int) (b:List Dl) (a:List Int) (d:List Fr) (g:Int × List (Fp × Fp)):Prop:=∃ k:Nat,k<=a.length/\g.1=(k:Int)/\g.2=jS b a d k/\∀ x∈a.take k,nP b n x=true
theorem Tn (b:List Dl) (a:List Int) (f:List Fr) (n:Int):∀ k,k<=a.length->(∀ x∈a.take k,nP b n x=true)->(jS b a f k).length=0\/((jS b a f k).length:Int)=n:=by
 intro k;induction k with
 | zero=>intro _ _;exact .inl rfl
 | succ k m =>
  intro j h;have d:k<a.length:=j;have o:=m aa (fun x l=>h x (by rw[cw d];exact gK _ l));have g:=h a[k] (by rw[cw d];exact hV _ (List.mem_singleton.2 rfl));rw[nP,aX] at g;have q:=Odt g.2;have e:(jW f k (cS b (a.getD k 0))).length=(cS b a[k]).length:=by
   have:a.getD k 0=a[k]:=by rw[a2,bu d,cx]
   rw[this,jW];split;rfl;rw[bZ]
  have i:(jS b a f (k+1)).length=max (jS b a f k).length (cS b a[k]).length:=by show (ik _ _).length=_;rw[ik,jN,bZ,wR,e]
  right;rw[i];omega
def xH (a:List Int) (x:Int):Int:=eR (dx (fun d:Int=>d==x) a)
theorem ac7:aO Tryz.prog 158 [.sl iK,FK] [.val iK] bB (fun (a,_,_)=>length a<4611686018427387904) (fun (a,(_,x),_)=>(xH a x,())):=acR.out fun (a,(_,x),_)=>by show (xH a x,())=(dx (fun d:Int=>d==x) a,());rw[xH,bm]
def YZ:Nat × Eng.Spec:=(158,aK [.sl iK,FK] [.val iK] (fun (a,_,_)=>length a<4611686018427387904) (fun (a,(_,x),_)=>(xH a x,())))
def AY (a:List Int) (b:List Fr) (x:Int):Bool:=decide (0<=xH a x)&&decide (xH a x<(b.length:Int))
def tW (a:List Fr) (k:Nat) (s:Fr):Fr:=if a.length=0 then s else s*a.getD k 0
def tS (a:List Int) (b:List Fr) (d:List Int) (e:List Fr):Nat->Fr
 | 0=>0
 | k+1=>tS a b d e k+tW e k (b.getD (xH a (d.getD k 0)).toNat 0)
def Fk (b:List Int) (d:List Fr) (a:List Int) (f:List Fr) (e:Int):Fr × Int:=if e=0 then (if a.all (AY b d)=true then (tS b d a f a.length,0) else (0,41)) else (0,e)
def tq (d:List Int) (o:List (Fp × Fp)) (q a:List Int) (b:List Fr):Fr × Int:=Fk a b (cO d o q).1 (cO d o q).2.1 (cO d o q).2.2
theorem xf:enters Tryz.prog 116 Tryz.f116:=ek
abbrev Aj:HL [dR,.sl iK,.sl iK,.sl .fr]->Prop:=fun ((_,_,_,o),q,a,_,_)=>length o<1048576/\length q<4611686018427387904/\length a<4611686018427387904
abbrev tb:HL [dR,.sl iK,.sl iK,.sl .fr]->HO [.val .fr,.val iK]:=fun ((d,_,_,o),q,a,b,_)=>((tq d o q a b).1,(tq d o q a b).2,())
def Za (b:List Int) (d:List Fr) (f:List Int) (a:List Fr) (e:Int):St:=av Tryz.f116.ntmps 104 [(2,ag (.ro iK b)),(3,ag (.ro .fr d)),(8,ao 8 0),(9,sI .i64 0),(10,ag (.ro iK f)),(11,ag (.sl 40 0 0 a.length 4)),(12,sI .i64 e)] [(40,[.row .fr a.length a]),(8,[.row .fr 1 [0]])]
def CV (d:List Int) (e:List Fr) (b:List Int) (a:List Fr) (g:Int × Fr):St:=av Tryz.f116.ntmps 152 [(2,ag (.ro iK d)),(3,ag (.ro .fr e)),(8,ao 8 0),(11,ag (.sl 40 0 0 a.length 4)),(13,ao 120 0),(29,ag (.ro iK b)),(30,sI .i64 b.length),(31,sI .i64 g.1)] [(40,[.row .fr a.length a]),(8,[.row .fr 1 [0]]),(120,[.row .fr 1 [g.2]])]
def MS (d:List Int) (e:List Fr) (b:List Int) (a:List Fr) (k:Nat) (s:Fr) (I:Int):St:=av Tryz.f116.ntmps 152 [(2,ag (.ro iK d)),(3,ag (.ro .fr e)),(8,ao 8 0),(11,ag (.sl 40 0 0 a.length 4)),(13,ao 120 0),(29,ag (.ro iK b)),(30,sI .i64 b.length),(31,sI .i64 k),(14,sI .i64 k),(16,sI .i64 I)] [(40,[.row .fr a.length a]),(8,[.row .fr 1 [0]]),(120,[.row .fr 1 [s]])]
def lT (b:List Int) (d:List Fr) (a:List Int) (e:List Fr) (g:Int × Fr):Prop:=∃ k:Nat,k<=a.length/\g.1=(k:Int)/\g.2=tS b d a e k/\∀ x∈a.take k,AY b d x=true
theorem V0:aO Tryz.prog 116 [dR,.sl iK,.sl iK,.sl .fr] [.val .fr,.val iK] bB Aj tb:=by
 have m:aJ Tryz.prog (aU [DF,YZ,fr.kx,fr.jO]):=aM (aR K8) (aM (aR ac7) (aM (aR fr.nR) (aM (aR fr.nQ) bD)));refine bL (sp:=aU [DF,YZ,fr.kx,fr.jO]) xf ae ae ab ?_;rintro w M0 ⟨⟨d,t,n,o⟩,q,b,a,⟨⟩⟩;revert d t n o q b a;intro (d:List Int) (t:List Int) (n:Int) (o:List (Fp × Fp)) (q:List Int) (b:List Int) (a:List Fr) _ hp;obtain⟨V,W,D⟩:=hp;have V:o.length<1048576:=V;have W:q.length<4611686018427387904:=W;have D:b.length<4611686018427387904:=D;show Tr _ _ _ _ _ _ _;refine bh m mixed 2 (Za b a (cO d o q).1 (cO d o q).2.1 (cO d o q).2.2) True ?_ (fun _=>?_);refine aq (X:=(GG ((d,t,n,o),q,())/\(Za b a (cO d o q).fst (cO d o q).snd.fst (cO d o q).snd.snd).ah True)) ab ?_;exact⟨⟨V,W⟩,au trivial⟩;have U:tq d o q b a=Fk b a (cO d o q).1 (cO d o q).2.1 (cO d o q).2.2:=rfl;obtain⟨x0,Y⟩:=PG d o q;generalize (cO d o q).1=f at *;generalize (cO d o q).2.1=j at *;generalize (cO d o q).2.2=e at *;refine bh m mixed 4 (CV b a f j (0,0)) (e=0) ?_ (fun he=>?_);refine aq (X:=(((e != 0)=true->((0:Fr),e,())=tb ((d,t,n,o),q,b,a,()))/\((e != 0)=false->(CV b a f j (0,(0:Fr))).ah (e=0)))) ab ?_;refine⟨fun h=>?_,fun h=>au (by simpa using h)⟩;show _=((tq d o q b a).1,(tq d o q b a).2,());rw[U,Fk,ai (by simpa using h)];subst he;refine pz gO (fun F=>(bo (.int .i64) 31 F,p3 .fr 120 F)) (CV b a f j) (lT b a f j) (fun g=>f.length-g.1.toNat)
  (fun F=>(bo (.int .i64) 31 F,p3 .fr 120 F)) (CV b a f j) (fun g=>f.all (AY b a)=true/\g.2=tS b a f j f.length) (0,0) (c:=ar (al Tryz.f116) 6) ab ab (ay ab ab ?_) ?_ ?_
 exact⟨0,a8 _,rfl,rfl,aw⟩
 ·rintro⟨i,s⟩ P;revert i s;intro (i:Int) (s:Fr) ⟨k,hk,C,es,E⟩;have C:i=(k:Int):=C;have ks:s=tS b a f j k:=es;subst C;refine bh m mixed 2 (CV b a f j ((k:Int),s)) (k<f.length) ?_ (fun u=>?_)
  ·refine aq (X:=((decide ((k:Int)<(f.length:Int))=true->(CV b a f j ((k:Int),s)).ah (k<f.length))/\(decide ((k:Int)<(f.length:Int))=false->(CV b a f j ((k:Int),s)).ah (f.all (AY b a)=true/\s=tS b a f j f.length)))) ab ?_;refine⟨fun h=>au (by have:=dec_lt h;omega),fun h=>au ?_⟩;have:k=f.length:=by have:=bX h;omega
   rw[this,aT] at E;exact⟨List.all_eq_true.2 E,by rw[ks,this]⟩
  refine mn (c:=ar (aV (ar (al Tryz.f116) 6)) 2) ab ab ?_;refine bh m mixed 2 (MS b a f j k s (xH b (f.getD (k:Int).toNat 0))) True ?_ (fun _=>?_);refine aq (X:=((0<=(k:Int)/\(k:Int)<(f.length:Int))/\(k:Int).toNat<f.length/\b.length<4611686018427387904/\(MS b a f j k s (xH b (f.getD (k:Int).toNat 0))).ah True)) ab ?_;rw[aF];exact⟨⟨aa,aa⟩,u,D,au trivial⟩;generalize hx:f.getD (k:Int).toNat 0=x;generalize N:xH b x=I;have K:f.getD k 0=x:=by rw[<- hx,aF]
  have L:f[k]=x:=by rwa [a2,bu u,cx] at K
  have Z:x∈f:=L▸dr u;refine jQ m mixed 6 (fun F=>((k:Int),p3 .fr 120 F)) (CV b a f j) (fun g=>g.1=(k:Int)/\lT b a f j (((k+1:Nat):Int),g.2)) ?_ ?_
  ·refine aq (X:=((decide (I<0)=true->((0:Fr),41,())=tb ((d,t,n,o),q,b,a,()))/\(decide (I<0)=false->(decide (I>=(a.length:Int))=true->((0:Fr),41,())=tb ((d,t,n,o),q,b,a,()))/\(decide (I>=(a.length:Int))=false->(0<=I/\I<(a.length:Int))/\I.toNat<a.length/\(decide ((j.length:Int)>0)=true->(0<=(k:Int)/\(k:Int)<(j.length:Int))/\(k:Int).toNat<j.length/\True/\True/\(CV b a f j ((k:Int),s+a.getD I.toNat (0:Fr)*j.getD (k:Int).toNat (0:Fr))).ah ((k:Int)=(k:Int)/\lT b a f j ((↑(k+1):Int),s+a.getD I.toNat (0:Fr)*j.getD (k:Int).toNat (0:Fr))))/\(decide ((j.length:Int)>0)=false->True/\(CV b a f j ((k:Int),s+a.getD I.toNat (0:Fr))).ah ((k:Int)=(k:Int)/\lT b a f j ((↑(k+1):Int),s+a.getD I.toNat (0:Fr)))))))) ab ?_;have A:AY b a x=false->((0:Fr),(41:Int),())=tb ((d,t,n,o),q,b,a,()):=fun hb=>by
    show _=((tq d o q b a).1,(tq d o q b a).2,());have:¬ f.all (AY b a)=true:=fun c=>by have:=List.all_eq_true.1 c x Z;rw[hb] at this;cases this
    rw[U,Fk,ak rfl,ai this]
   have r:AY b a x=true->∀ z:Fr,z=s+tW j k (a.getD I.toNat 0)->lT b a f j (((k+1:Nat):Int),z):=fun O z e=>by refine⟨k+1,u,rfl,?_,?_⟩;show z=tS b a f j k+tW j k (a.getD (xH b (f.getD k 0)).toNat 0);rw[e,K,N,ks];intro y Q;rw[cw u,lA,gb] at Q;rcases Q with Q|rfl;exact E y Q;rw[L];exact O
   refine⟨fun h=>A (by rw[AY,N,cp (by have:=Odt h;omega)];rfl),fun h=>?_⟩;have h0:0<=I:=by have:=Odf h;omega
   refine⟨fun T=>A (by rw[AY,N,cp (show ¬ I<(a.length:Int) by have:=Odt T;omega),oL]),fun T=>?_⟩;have h1:I<(a.length:Int):=by have:=Odf T;omega
   have O:AY b a x=true:=by rw[AY,N,cg h0,cg h1];rfl
   rw[aF];refine⟨⟨h0,h1⟩,aa,fun G=>?_,fun G=>?_⟩
   ·have G:=Odt G;have x1:j.length=f.length:=by have:=Y rfl;omega
    exact⟨⟨aa,aa⟩,aa,trivial,trivial,au ⟨rfl,r O _ (by rw[tW,ai aa])⟩⟩
   have G:=Odf G;exact⟨trivial,au ⟨rfl,r O _ (by rw[tW,ak aa])⟩⟩
  rintro⟨i,z⟩ P;revert i z;intro (i:Int) (z:Fr) ⟨C,P⟩;have C:i=(k:Int):=C;subst C;refine kk ?_;refine bJ m mixed _ _ ?_;refine aq (X:=((CV b a f j (IntKind.i64.wrap ((k:Int)+1),z)).ah (lT b a f j (IntKind.i64.wrap ((k:Int)+1),z)/\f.length-(IntKind.i64.wrap ((k:Int)+1)).toNat<f.length-(k:Int).toNat))) ab ?_;rw[aS aa];exact au ⟨P,by rw[aF,aF];omega⟩
 rintro⟨i,l⟩ P;revert i l;intro (i:Int) (l:Fr) ⟨H,R⟩;have R:l=tS b a f j f.length:=R;refine bJ m mixed _ _ ?_;refine aq (X:=((l,0,())=tb ((d,t,n,o),q,b,a,()))) ab ?_;show _=((tq d o q b a).1,(tq d o q b a).2,());rw[U,Fk,ak rfl,ak H,R]
end deal
namespace ref01
open Go.IntKind(i64)
theorem VG:enters Tryz.prog 40 Tryz.f40:=ek
abbrev vl:HL [.sl (.int .u8),.sl (.int .u8)]->Prop:=fun (a,_,_)=>length a<4611686018427387904
def lR (a b:List Int):Bool:=decide (a=b)
abbrev yU:HL [.sl (.int .u8),.sl (.int .u8)]->HO [.val .bool]:=fun (a,b,_)=>(lR a b,())
def Pp (a b:List Int) (g:Int):St:=av Tryz.f40.ntmps 72 [(0,ag (.ro (.int .u8) a)),(1,ag (.ro (.int .u8) b)),(4,ag .F),(12,sI .i64 a.length),(13,sI .i64 g)] []
def saJ (a b:List Int) (g:Int):Prop:=∃ k:Nat,k<=a.length/\g=(k:Int)/\a.take k=b.take k
theorem aaf:aO Tryz.prog 40 [.sl (.int .u8),.sl (.int .u8)] [.val .bool] bB vl yU:=by
 have j:aJ Tryz.prog (aU []):=bD;refine bL (sp:=aU []) VG ae ae ab ?_;rintro w t ⟨a,b,⟨⟩⟩;revert a b;intro (a:List Int) (b:List Int) _ n;have n:a.length<4611686018427387904:=n;show Tr _ _ _ _ _ _ _;refine bh j mixed 4 (Pp a b 0) (a.length=b.length) ?_ (fun s=>?_)
 ·refine aq (X:=((((a.length:Int) != (b.length:Int))=true->(false,())=yU (a,b,()))/\(((a.length:Int) != (b.length:Int))=false->(Pp a b 0).ah (a.length=b.length)))) ab ?_;refine⟨fun h=>?_,fun h=>au (by simp at h;omega)⟩;have h:¬ a.length=b.length:=by simp at h;omega
  show _=(lR a b,());rw[lR,cp (fun e=>h (by rw[e]))]
 refine cl j mixed gO (fun m=>bo (.int .i64) 13 m) (Pp a b) (saJ a b) (fun g=>a.length-g.toNat)
  (fun m=>bo (.int .i64) 13 m) (Pp a b) (fun _=>a=b) 0 (c:=ar (al Tryz.f40) 4) ab ab (ay ab ab ?_) ?_ ?_
 exact⟨0,a8 _,rfl,rfl⟩
 ·intro (i:Int) ⟨k,u,o,l⟩;subst o;refine aq (X:=((decide ((k:Int)<(a.length:Int))=true->(0<=(k:Int)/\(k:Int)<(a.length:Int))/\(k:Int).toNat<a.length/\(0<=(k:Int)/\(k:Int)<(b.length:Int))/\(k:Int).toNat<b.length/\((a.getD (k:Int).toNat 0 != b.getD (k:Int).toNat 0)=true->(false,())=yU (a,b,()))/\((a.getD (k:Int).toNat 0 != b.getD (k:Int).toNat 0)=false->(Pp a b (IntKind.i64.wrap ((k:Int)+1))).ah (saJ a b (IntKind.i64.wrap ((k:Int)+1))/\a.length-(IntKind.i64.wrap ((k:Int)+1)).toNat<a.length-(k:Int).toNat)))/\(decide ((k:Int)<(a.length:Int))=false->(Pp a b (k:Int)).ah (a=b)))) ab ?_;rw[aF];refine⟨fun h=>?_,fun h=>au ?_⟩
  ·have d:k<a.length:=by have:=dec_lt h;omega
   have q:a.getD k 0=a[k]:=by rw[a2,bu d,cx]
   have r:b.getD k 0=b[k]:=by rw[a2,bu aa,cx]
   rw[aS aa,q,r];refine⟨⟨aa,aa⟩,d,⟨aa,aa⟩,aa,fun f=>?_,fun f=>au ⟨⟨k+1,d,rfl,?_⟩,by rw[aF];omega⟩⟩
   ·have f:a[k]≠b[k]:=by simpa using f
    show _=(lR a b,());rw[lR,cp (fun e=>f (by subst e;rfl))]
   ·have f:a[k]=b[k]:=by simpa using f
    rw[cw d,cw aa,l,f]
  ·have:k=a.length:=by have:=bX h;omega
   subst this;rw[aT] at l;rw[l,s,aT]
 intro (i:Int) (h:a=b);refine bJ j mixed _ _ ?_;refine aq (X:=((true,())=yU (a,b,()))) ab ?_;show _=(lR a b,());rw[lR,cg h]
def ae5:Nat × Eng.Spec:=(40,aK [.sl (.int .u8),.sl (.int .u8)] [.val .bool] vl yU)
end ref01
namespace law22
open law14 poly deal
open Go.IntKind(i64)
def cP (d:List (Fp × Fp)):List Int:=eR (km d)
theorem La:aO Tryz.prog 65 [.sl aQ] [.own (.int .u8)] bB wc (fun (a,_)=>(cP a,())):=zM.out fun (a,_)=>by show (cP a,())=(km a,());rw[cP,bm]
def rI (d:List Int) (n:Int) (o:List (Fp × Fp)) (q:List Int) (a:List Dl):List (Fp × Fp) × Int:=eR (nD d n o q a)
end law22
namespace poly
open Go.IntKind(i64)
def Ro (p q:List Fr):List Fr:=(range (max p.length q.length)).map fun i=>p.getD i 0+q.getD i 0
end poly
namespace law22
open law14 poly deal
open Go.IntKind(i64)
theorem KJ (p:List Fr) (i:Nat):(cM p).getD i (0,0)=g1.cZ g1.gG (p.getD i 0):=by by_cases h:i<p.length;rw[cM,getD_map _ h,a2,bu h];rfl;rw[a2,dN (by rw[cM,bZ];omega),a2,dN aa];show (0,0)=g1.cZ g1.gG 0;rw[g1.mul_zero g1.mA]
theorem TQ (p q:List Fr):ik (cM p) (cM q)=cM (Ro p q):=by
 have a:(cM p).length=p.length:=by rw[cM,bZ]
 have b:(cM q).length=q.length:=by rw[cM,bZ]
 rw[ik,jN,a,b];conv=>rhs;rw[cM,Ro,lC]
 refine Bo fun i _=>?_;show EY (cM p) (cM q) q.length i=g1.cZ g1.gG (p.getD i 0+q.getD i 0);rw[EY,KJ,KJ];split;rw[g1.Oz (g1.nJ g1.mA _).1 (g1.nJ g1.mA _).1,g1.mul_add g1.mA]
 ·rename_i h;have:q.getD i 0=0:=by rw[a2,dN aa];rfl
  rw[this,Rg.add_zero]
def uy (d:List Int) (o:List (Fp × Fp)) (q a:List Int) (b:List Fr):Fr × Int:=eR (tq d o q a b)
theorem V5:aO Tryz.prog 116 [dR,.sl iK,.sl iK,.sl .fr] [.val .fr,.val iK] bB Aj (fun ((d,_,_,o),q,a,b,_)=>((uy d o q a b).1,(uy d o q a b).2,())):=V0.out fun ((d,_,_,o),q,a,b,_)=>by show ((uy d o q a b).1,(uy d o q a b).2,())=((tq d o q a b).1,(tq d o q a b).2,());rw[uy,bm]
def abw:Nat × Eng.Spec:=(116,aK [dR,.sl iK,.sl iK,.sl .fr] [.val .fr,.val iK] Aj (fun ((d,_,_,o),q,a,b,_)=>((uy d o q a b).1,(uy d o q a b).2,())))
def sm (c:List (Fp × Fp)) (x:Int) (s:Fr):Bool:=eR (HQ c x s)
theorem Ox:aO Tryz.prog 21 [.sl aQ,.int .i64,.fr] [.val .bool] bB vk (fun (c,x,s,_)=>(sm c x s,())):=Z2.out fun (c,x,s,_)=>by show (sm c x s,())=(HQ c x s,());rw[sm,bm]
def Um:Nat × Eng.Spec:=(21,aK [.sl aQ,.int .i64,.fr] [.val .bool] vk (fun (c,x,s,_)=>(sm c x s,())))
theorem vu {x m:Int} (c:0<=m) (f:m<4294967296):0<=aD .and .i64 x m/\aD .and .i64 x m<=m:=by
 have b:((2^64:Nat):Int)=18446744073709551616:=ae;have d:(BitVec.ofInt 64 m).toNat=m.toNat:=by rw[BitVec.toNat_ofInt,de c (by rw[b];omega)]
 have h:((BitVec.ofInt 64 x &&& BitVec.ofInt 64 m:BitVec 64).toNat)<=m.toNat:=by rw[wT,d];exact Nat.and_le_right
 have e:aD .and .i64 x m=(((BitVec.ofInt 64 x &&& BitVec.ofInt 64 m:BitVec 64).toNat:Nat):Int):=by show IntKind.i64.wrap (((BitVec.ofInt 64 x &&& BitVec.ofInt 64 m:BitVec 64).toNat:Nat):Int)=_;exact ba aa aa
 rw[e];omega
end law22
end Go.Proofs.YtofofalgjibokaaGreatDoor
namespace Cr
open Rg Fd
open Go.IntKind(i64)
section
variable {M:Int} [Md M]
theorem abO (x:Zm M) (n:Nat):zpow x (2*n)=zpow (x*x) n:=by
 induction n with
 | zero=>rfl
 | succ n a=>show zpow x (2*n)*x*x=zpow (x*x) n*(x*x);rw[a,mul_assoc]
end
end Cr
namespace Go.Proofs.YtofofalgjibokaaGreatDoor
namespace fp
open Go.IntKind(i64)
open Go.IntKind(i64 u64)
theorem VJ:enters Tryz.prog 165 Tryz.f165:=ek
def ID (x:Fp) (g:Int × List Int):St:=av Tryz.f165.ntmps 56 [(1,ao 0 0),(2,ao 8 0),(4,ao 32 0),(8,sI .i64 g.1)] [(0,[.row .fp 1 [x]]),(8,[.row .fp 1 [(0:Fp)]]),(32,[.ints .u64 6 g.2])]
def Xm (g:Int × List Int):Int × List Int:=(i64.wrap (g.1+1),g.2.set g.1.toNat (aD .or .u64 (Int.fdiv (g.2.getD g.1.toNat 0) (2^min (toNat 2) u64.bits)) (u64.wrap (g.2.getD (i64.wrap (g.1+1)).toNat 0*2^min (toNat 62) u64.bits))))
def Xj:List Int:=[13402431016077863596,2210141511517208575,7435674573564081700,7239337960414712511,5412103778470702295,1873798617647539866]
def Az:Nat->Int × List Int
 | 0=>(0,Xj)
 | k+1=>Xm (Az k)
def Ay (a:List Int):List Int:=a.set 5 (Int.fdiv ((a.drop 5).getD 0 0) (2^min (toNat 2) u64.bits))
theorem Xl:∀ k,k<=5->(Az k).1=(k:Int):=by
 intro k;induction k with
 | zero=>intro _;rfl
 | succ k a=>intro h;show i64.wrap ((Az k).1+1)=_;rw[a aa,aS aa]
def vX:Int:=1000602388805416848354447456433976039139220704984751971333014534031007912622709466110671907282253916009473568139947
theorem Xk:val (Ay (Az 5).2)=vX:=by decide +kernel
theorem abC:Ws (Ay (Az 5).2):=by
 intro x a;have e:Ay (Az 5).2=aY 6 vX:=by decide +kernel
 rw[e] at a;exact jx _ _ x a
def fW (x:Fp):Fp × Bool:=if mU x vX*mU x vX=x then (mU x vX,true) else (0,false)
abbrev vi:HL [.fp]->HO [.val .fp,.val .bool]:=fun (x,_)=>((fW x).1,(fW x).2,())
theorem aah:aO Tryz.prog 165 [.fp] [.val .fp,.val .bool] bB (fun _=>True) vi:=by
 have b:aJ Tryz.prog (aU [zj,fN]):=aM (aR zK) (aM (aR js) bD);refine bL (sp:=aU [zj,fN]) VJ ae ae ab ?_;rintro w m ⟨x,⟨⟩⟩ _ _;show Tr _ _ _ _ _ _ _;refine bh b mixed 3 (ID x (0,Xj)) True ?_ (fun _=>?_);refine aq (X:=(ID x (0,Xj)).ah True) ab (au trivial);refine fP b mixed (ID x) Az 5 Xm (ID x) (c:=ar (al Tryz.f165) 3) ab ab (ay ab ab trivial) (fun k f=>rfl) ?_ ?_
 ·intro k f;have e:=Xl k f;generalize Az k=g at *;obtain⟨i,a⟩:=g;simp only at e;subst e
  refine aq (X:=((decide ((k:Int)<5)=true->(0<=(k:Int)/\(k:Int)<(6:Int))/\(k:Int).toNat<6/\(0:Int)<=2/\(0<=i64.wrap ((k:Int)+1)/\i64.wrap ((k:Int)+1)<(6:Int))/\(i64.wrap ((k:Int)+1)).toNat<6/\(0:Int)<=62/\(0<=(k:Int)/\(k:Int)<(6:Int))/\(k:Int).toNat<6/\(ID x (Xm ((k:Int),a))).ah (k<5)) /\
   (decide ((k:Int)<5)=false->(ID x ((k:Int),a)).ah (k=5)))) ab ?_
  refine⟨fun h=>?_,fun h=>au (by have:=bX h;omega)⟩;have d:k<5:=by have:=dec_lt h;omega
  rw[aS aa];exact⟨⟨aa,aa⟩,aa,ae,⟨aa,aa⟩,aa,ae,⟨aa,aa⟩,aa,au d⟩
 have j:=Xk;have l:=abC;generalize Az 5=g at *;obtain⟨i,a⟩:=g;simp only at j l;refine bJ b mixed _ _ ?_
 refine aq (X:=((0:Int)<=2/\5<6/\pd (x,Ay a,())/\True /\
  (((!decide (mU x (val (Ay a))*mU x (val (Ay a))=x))=true->(((0:Fp),false,())=vi (x,()))) /\
   ((!decide (mU x (val (Ay a))*mU x (val (Ay a))=x))=false->((mU x (val (Ay a)),true,())=vi (x,())))))) ab ?_
 rw[j];refine⟨ae,ae,l,trivial,fun h=>?_,fun h=>?_⟩
 ·have h:¬ mU x vX*mU x vX=x:=by simpa using h
  simp[vi,fW,h]
 ·have h:mU x vX*mU x vX=x:=by simpa using h
  simp[vi,fW,h]
def Ux:Nat × Eng.Spec:=(165,aK [.fp] [.val .fp,.val .bool] (fun _=>True) vi)
end fp
end Go.Proofs.YtofofalgjibokaaGreatDoor
namespace Cr
open Rg Fd
open Go.IntKind(i64)
open Go.IntKind(i64 u64)
theorem q_4 {F:Type} [Rg F] (a n:F):(a+n)*(a-n)=a*a-n*n :=
 rid [a,n] ((fun (a n:PE)=>((a+n)*(a-n))) (.v 0) (.v 1)) ((fun (a n:PE)=>(a*a-n*n)) (.v 0) (.v 1)) ab
theorem agf {F:Type} [Fd F] {a b:F} (h:a*a=b*b):a=b\/a=-b:=by
 have:(a+b)*(a-b)=0:=by rw[q_4,h,sub_self]
 rcases mul_eq_zero this with h|h;right;rw[<- neg_neg a,neg_eq h];exact .inl (dc h)
end Cr
namespace Go.Proofs.YtofofalgjibokaaGreatDoor
namespace fp2
open Rg Fd
open Go.IntKind(i64)
open Go.IntKind(i64 u64)
theorem S0 {x:Fp} (h:(fp.fW x).2=true):(fp.fW x).1*(fp.fW x).1=x:=by unfold fp.fW at h ⊢;split at h;rename_i e;rw[ak e];exact e;cases h
theorem Nr:(fp.fW 0).2=true:=by
 unfold fp.fW;have e:mU (0:Fp) fp.vX*mU 0 fp.vX=0:=by
  rw[zu];have:∀ n:Nat,n≠0->zpow (0:Fp) n=0:=by
   intro n a;cases n with
   | zero=>exact absurd rfl a
   | succ n=>show zpow (0:Fp) n*0=0;rw[mul_zero]
  rw[this _ ae,mul_zero]
 rw[ak e]
end fp2
namespace g1
open Go.IntKind(i64)
open Go.IntKind(i64 u64)
theorem acm:enters Tryz.prog 167 Tryz.f167:=ek
def HY (p:Fp × Fp):Bool:=yb p&&decide (JA p (-1)=dD (F:=Fp) p)
abbrev uT:HL [aQ]->HO [.val .bool]:=fun (p,_)=>(HY p,())
theorem afJ:aO Tryz.prog 167 [aQ] [.val .bool] bB (fun _=>True) uT:=by refine bg (sp:=aU [ajo,fr.ti,fr.Aw,ae3,ae4]) (aM (aR Yf) (aM (aR fr.tw) (aM (aR fr.yK) (aM (aR Ou) (aM (aR Ov) bD))))) mixed acm ae ae ?_;rintro w a ⟨p,⟨⟩⟩;revert p;intro (p:Fp × Fp) _ _;refine aq (X:=(True/\(yb p=true->gI 1/\IT 3 ((decide ((JA p (-1)).1=(dD (F:=Fp) p).1)&&decide ((JA p (-1)).2=(dD (F:=Fp) p).2),())=uT (p,())))/\(yb p=false->(false,())=uT (p,())))) ab ?_;rw[Ey];refine⟨trivial,fun h=>⟨by constructor<;>decide,PR ?_ _⟩,fun h=>?_⟩;simp only[uT,HY,h,h8];simp only[uT,HY,h,l5]
def pY (p:Fp × Fp):Bool:=eR (HY p)
theorem afK:aO Tryz.prog 167 [aQ] [.val .bool] bB (fun _=>True) (fun (p,_)=>(pY p,())):=afJ.out fun (p,_)=>by show (pY p,())=(_,());rw[pY,bm]
def aeV:Nat × Eng.Spec:=(167,aK [aQ] [.val .bool] (fun _=>True) (fun (p,_)=>(pY p,())))
theorem G6 {p:Fp × Fp} (h:Sub p):pY p=true:=by
 rw[pY,bm,HY];have a:yb p=true:=(EH p).2 h.1;have b:JA p (-1)=dD p:=by have:=mul_neg h 1;rw[mul_one h,cZ,bm] at this;exact this
 rw[a,b];simp
theorem adh {p:Fp × Fp} (h:IQ p):pY p=decide (dg p rN=(0,0)):=by
 rw[nr,hX];constructor
 ·intro a;rw[pY,bm,HY,aX,hX] at a;have e:JA p (-1)=dg p (rN-1):=by
   have:=n7 h (-1);rw[cZ,bm] at this;rw[this];rfl
  rw[e] at a;have:dg p (rN-1+1)=cq (dg p (rN-1)) p:=rfl;rw[a.2,kQ] at this;exact this
 intro a;exact G6 ⟨h,a⟩
end g1
namespace codec
open Go.IntKind(i64)
open Go.IntKind(i64 u64)
open Go.IntKind(i64 u8)
theorem VB:enters Tryz.prog 164 Tryz.f164:=ek
def AN (b:List Int):Int:=aD .and .u8 (b.getD 0 0) 224
def mq (b:List Int):List Int:=b.set 0 (aD .andNot .u8 (b.getD 0 0) 224)
def kX (b:List Int):Bool:=aD .and .u8 (AN b) 128 != 0
def vL (b:List Int):Bool:=aD .and .u8 (AN b) 64 != 0
def yP (b:List Int):Bool:=aD .and .u8 (AN b) 32 != 0
def cA (b:List Int) (n:Int):List Int × Int × Int :=
 if (b.length:Int)≠n/\(b.length:Int)≠2*n then ([],0,10)
 else if kX b≠decide ((b.length:Int)=n) then ([],0,11)
 else if yP b=true/\(kX b=false\/vL b=true) then ([],0,11)
 else if vL b=true/\∃ v∈mq b,v≠0 then ([],0,11)
 else (mq b,AN b,0)
abbrev Ds:HL [.sl (.int .u8),.int .i64]->Prop:=fun (b,n,_)=>(Bs b/\length b<=1000000)/\1<=(n:Int)/\(n:Int)<=1000
abbrev pL:HL [.sl (.int .u8),.int .i64]->HO [.own (.int .u8),.val (.int .u8),.val (.int .i64)]:=fun (b,n,_)=>((cA b n).1,(cA b n).2.1,(cA b n).2.2,())
def paC (b:List Int) (n:Int) (g:Int × List Int):St:=av Tryz.f164.ntmps 200 [(0,ag (.ro (.int .u8) b)),(1,sI .i64 n),(4,ag (.v (.slice none 0 0))),(5,sI .u8 0),(6,sI .i64 0),(7,ag (.sl 120 0 0 b.length 1)),(8,sI .u8 g.1)] [(120,[.ints .u8 b.length g.2])]
def paK (b:List Int) (n:Int) (g:Int × List Int):Prop:=g.1=AN b/\g.2=mq b/\1<=b.length/\((b.length:Int)=n\/(b.length:Int)=2*n)
def paD (b:List Int) (a:Int) (d:List Int):St:=av Tryz.f164.ntmps 392 [(4,ag (.v (.slice none 0 0))),(5,sI .u8 0),(6,sI .i64 0),(7,ag (.sl 120 0 0 b.length 1)),(8,sI .u8 a),(56,ag (.v (.bool (aD .and .u8 a 64 != 0))))] [(120,[.ints .u8 b.length d])]
def O7 (b:List Int) (d:Int) (a:List Int) (g:Int):St:=av Tryz.f164.ntmps 416 [(4,ag (.v (.slice none 0 0))),(5,sI .u8 0),(6,sI .i64 0),(7,ag (.sl 120 0 0 b.length 1)),(8,sI .u8 d),(57,ag (.sl 120 0 0 b.length 1)),(58,sI .i64 b.length),(59,sI .i64 g)] [(120,[.ints .u8 b.length a])]
def paJ (a:List Int) (g:Int):Prop:=∃ k:Nat,k<=a.length/\g=(k:Int)/\∀ t,t<k->a.getD t 0=0
theorem aad:aO Tryz.prog 164 [.sl (.int .u8),.int .i64] [.own (.int .u8),.val (.int .u8),.val (.int .i64)] bB Ds pL:=by
 have f:aJ Tryz.prog (aU []):=bD;refine bL (sp:=aU []) VB ae ae ab ?_;rintro w M0 ⟨b,n,⟨⟩⟩;revert b n;intro (b:List Int) (n:Int) _ hp;obtain⟨⟨hb,V⟩,y,z⟩:=hp;have V:b.length<=1000000:=V;have y:1<=n:=y;have z:n<=1000:=z;show Tr _ _ _ _ _ _ _;have I:i64.wrap (2*n)=2*n:=ba aa aa;refine jQ f mixed 6 (fun u=>(bo (.int .u8) 8 u,cT (.int .u8) 120 u)) (paC b n) (paK b n) ?_ ?_
 ·refine aq (X:=((((b.length:Int) != n)=true->(((b.length:Int) != i64.wrap ((2:Int)*n))=true->([],(0:Int),(10:Int),())=pL (b,n,()))/\(((b.length:Int) != i64.wrap ((2:Int)*n))=false->b.length*1<=140737488355328/\b.length<=4611686018427387904/\((0:Int)<=(0:Int)/\(0:Int)<(b.length:Int))/\0<b.length/\((0:Int)<=(0:Int)/\(0:Int)<(b.length:Int))/\0<b.length/\((0:Int)<=(0:Int)/\(0:Int)<(b.length:Int))/\0<b.length/\(paC b n (aD BinOp.and u8 (b.getD 0 (0:Int)) (224:Int),b.set 0 (aD BinOp.andNot u8 (b.getD 0 (0:Int)) (224:Int)))).ah (paK b n (aD BinOp.and u8 (b.getD 0 (0:Int)) (224:Int),b.set 0 (aD BinOp.andNot u8 (b.getD 0 (0:Int)) (224:Int))))))/\(((b.length:Int) != n)=false->b.length*1<=140737488355328/\b.length<=4611686018427387904/\((0:Int)<=(0:Int)/\(0:Int)<(b.length:Int))/\0<b.length/\((0:Int)<=(0:Int)/\(0:Int)<(b.length:Int))/\0<b.length/\((0:Int)<=(0:Int)/\(0:Int)<(b.length:Int))/\0<b.length/\(paC b n (aD BinOp.and u8 (b.getD 0 (0:Int)) (224:Int),b.set 0 (aD BinOp.andNot u8 (b.getD 0 (0:Int)) (224:Int)))).ah (paK b n (aD BinOp.and u8 (b.getD 0 (0:Int)) (224:Int),b.set 0 (aD BinOp.andNot u8 (b.getD 0 (0:Int)) (224:Int))))))) ab ?_;rw[I];have T:∀ h:1<=b.length,b.length*1<=140737488355328/\b.length<=4611686018427387904/\((0:Int)<=0/\(0:Int)<(b.length:Int))/\0<b.length:=fun h=>⟨aa,aa,⟨aa,aa⟩,aa⟩;refine⟨fun h=>⟨fun x=>?_,fun x=>?_⟩,fun h=>?_⟩;show _=((cA b n).1,(cA b n).2.1,(cA b n).2.2,());rw[cA,ak ⟨by simpa using h,by simpa using x⟩]
  ·have x:(b.length:Int)=2*n:=by simpa using x
   have l:1<=b.length:=aa;obtain⟨G,H,o,q⟩:=T l;exact⟨G,H,o,q,o,q,o,q,au ⟨rfl,rfl,l,.inr x⟩⟩
  ·have h:(b.length:Int)=n:=by simpa using h
   have l:1<=b.length:=aa;obtain⟨G,H,o,q⟩:=T l;exact⟨G,H,o,q,o,q,o,q,au ⟨rfl,rfl,l,.inl h⟩⟩
 rintro⟨a,d⟩ hK;revert a d;intro (a:Int) (d:List Int) ⟨m,s,k3,k4⟩;have m:a=AN b:=m;have s:d=mq b:=s;have e:¬ ((b.length:Int)≠n/\(b.length:Int)≠2*n):=aa;refine bh f mixed 5 (paD b a d) (kX b=decide ((b.length:Int)=n)/\¬ (yP b=true/\(kX b=false\/vL b=true))) ?_ (fun U=>?_)
 ·refine aq (X:=(((!(aD BinOp.and u8 a (128:Int) != (0:Int))==((b.length:Int)==n))=true->([],(0:Int),(11:Int),())=pL (b,n,()))/\((!(aD BinOp.and u8 a (128:Int) != (0:Int))==((b.length:Int)==n))=false->((aD BinOp.and u8 a (32:Int) != (0:Int))=true->((aD BinOp.and u8 a (128:Int)==(0:Int))=true->([],(0:Int),(11:Int),())=pL (b,n,()))/\((aD BinOp.and u8 a (128:Int)==(0:Int))=false->((aD BinOp.and u8 a (64:Int) != (0:Int))=true->([],(0:Int),(11:Int),())=pL (b,n,()))/\((aD BinOp.and u8 a (64:Int) != (0:Int))=false->(paD b a d).ah (kX b=decide ((b.length:Int)=n)/\¬(yP b=true/\(kX b=false\/vL b=true))))))/\((aD BinOp.and u8 a (32:Int) != (0:Int))=false->(paD b a d).ah (kX b=decide ((b.length:Int)=n)/\¬(yP b=true/\(kX b=false\/vL b=true))))))) ab ?_;have W:kX b=(aD .and .u8 a 128 != 0):=by rw[kX,m]
  have F:vL b=(aD .and .u8 a 64 != 0):=by rw[vL,m]
  have s3:yP b=(aD .and .u8 a 32 != 0):=by rw[yP,m]
  have s4:(aD .and .u8 a 128==0)=!kX b:=by rw[W];cases h:(aD .and .u8 a 128==0)<;>simp[bne,h]
  have s5:((b.length:Int)==n)=decide ((b.length:Int)=n):=rfl;rw[s4,<- W,<- F,<- s3,s5];show ((!(kX b==decide ((b.length:Int)=n)))=true->_=((cA b n).1,(cA b n).2.1,(cA b n).2.2,()))/\_;refine⟨fun h=>?_,fun h=>⟨fun j=>⟨fun C=>?_,fun C=>⟨fun D=>?_,fun D=>au ⟨by simpa using h,?_⟩⟩⟩,fun j=>au ⟨by simpa using h,?_⟩⟩⟩;rw[cA,ai e,ak (by simpa using h)];show _=((cA b n).1,(cA b n).2.1,(cA b n).2.2,());rw[cA,ai e,ai (by simpa using h),ak ⟨j,.inl (by simpa using C)⟩];show _=((cA b n).1,(cA b n).2.1,(cA b n).2.2,());rw[cA,ai e,ai (by simpa using h),ak ⟨j,.inr D⟩];rintro⟨_,h5|h5⟩;rw[h5] at C;cases C;rw[h5] at D;cases D;rintro⟨h5,_⟩;rw[h5] at j;cases j
 obtain⟨K,r⟩:=U;have Z:d.length=b.length:=by rw[s,mq,hZ]
 have F:vL b=(aD .and .u8 a 64 != 0):=by rw[vL,m]
 refine PM (c:=ar (al Tryz.f164) 11) (aD .and .u8 a 64 != 0) ab ab ab (fun O=>?_) (fun O=>?_)
 ·refine bh f mixed 1 (O7 b a d 0) True ?_ (fun _=>?_);refine aq (X:=((O7 b a d (0:Int)).ah True)) ab ?_;exact au trivial;refine cl f mixed gO (fun u=>bo (.int .i64) 59 u) (O7 b a d) (paJ d) (fun g=>b.length-g.toNat)
   (fun u=>bo (.int .i64) 59 u) (O7 b a d) (fun _=>∀ v∈d,v=0) 0 (c:=ar (fX (ar (al Tryz.f164) 11)) 1) ab ab (ay ab ab ?_) ?_ ?_
  exact⟨0,a8 _,rfl,fun t h=>absurd h (wW _)⟩
  ·intro (i:Int) ⟨k,U,Y,E⟩;subst Y;refine aq (X:=((decide ((k:Int)<(b.length:Int))=true->((0:Int)<=(k:Int)/\(k:Int)<(b.length:Int))/\(k:Int).toNat<b.length/\((d.getD (k:Int).toNat (0:Int) != (0:Int))=true->([],(0:Int),(11:Int),())=pL (b,n,()))/\((d.getD (k:Int).toNat (0:Int) != (0:Int))=false->(O7 b a d (i64.wrap ((k:Int)+(1:Int)))).ah (paJ d (i64.wrap ((k:Int)+(1:Int)))/\b.length-(i64.wrap ((k:Int)+(1:Int))).toNat<b.length-(k:Int).toNat)))/\(decide ((k:Int)<(b.length:Int))=false->(O7 b a d (k:Int)).ah (∀ (v:Int),v∈d->v=(0:Int))))) ab ?_;rw[aF];refine⟨fun h=>?_,fun h=>au ?_⟩
   ·have L:k<b.length:=by have:=dec_lt h;omega
    have hg:d.getD k 0=d[k]:=by rw[a2,bu aa,cx]
    rw[aS aa];refine⟨⟨aa,aa⟩,L,fun j=>?_,fun j=>au ⟨⟨k+1,aa,rfl,fun t A=>?_⟩,by rw[aF];omega⟩⟩
    ·have j:d.getD k 0≠0:=by simpa using j
     show _=((cA b n).1,(cA b n).2.1,(cA b n).2.2,());rw[cA,ai e,ai (by simpa using K),ai r,ak ⟨by rw[F,O],d[k],by rw[<- s];exact dr _,by rw[<- hg];exact j⟩]
    by_cases Q:t=k;subst Q;simpa using j;exact E t aa
   ·have:k=b.length:=by have:=bX h;omega
    intro v R;obtain⟨t,P,A⟩:=List.mem_iff_getElem.1 R;have:=E t aa;rw[a2,bu P,cx,A] at this;exact this
  intro (i:Int) (E:∀ v∈d,v=0);refine bJ f mixed _ _ ?_;refine aq (X:=(0+b.length<=b.length/\(take b.length d,a,(0:Int),())=pL (b,n,()))) ab ?_;refine⟨aa,?_⟩;show _=((cA b n).1,(cA b n).2.1,(cA b n).2.2,());rw[cA,ai e,ai (by simpa using K),ai r,ai (by rintro⟨_,v,R,N⟩;exact N (E v (by rw[s];exact R))),m,s,bW (by rw[mq,hZ];exact aI _)]
 refine bJ f mixed _ _ ?_;refine aq (X:=(0+b.length<=b.length/\(take b.length d,a,(0:Int),())=pL (b,n,()))) ab ?_;refine⟨aa,?_⟩;show _=((cA b n).1,(cA b n).2.1,(cA b n).2.2,());rw[cA,ai e,ai (by simpa using K),ai r,ai (by rw[F,O];simp),m,s,bW (by rw[mq,hZ];exact aI _)]
def Uw:Nat × Eng.Spec:=(164,aK [.sl (.int .u8),.int .i64] [.own (.int .u8),.val (.int .u8),.val (.int .i64)] Ds pL)
open Go.IntKind(u8)
theorem Qw:enters Tryz.prog 126 Tryz.f126:=ek
def xV (p:Fp × Fp):(Fp × Fp) × Int:=if p=(0,0) then ((0,0),13) else if g1.o0 p=true then (if g1.pY p=true then (p,0) else ((0,0),14)) else ((0,0),13)
def RG (y:Fp) (l:Bool):Fp:=if decide ((-y).v<y.v)=l then y else -y
def Ar (x:Fp):Fp:=(fp.fW (x*x*x+zm 4)).1
def oz (b:List Int):(Fp × Fp) × Int :=
 if (cA b 48).2.2=0 then
  if vL b=true then ((0,0),0)
  else if (fp.cN ((mq b).take 48)).2=0 then
   if kX b=true then xV ((fp.cN ((mq b).take 48)).1,RG (Ar (fp.cN ((mq b).take 48)).1) (yP b))
   else if (fp.cN ((mq b).drop 48)).2=0 then xV ((fp.cN ((mq b).take 48)).1,(fp.cN ((mq b).drop 48)).1)
   else ((0,0),12)
  else ((0,0),12)
 else ((0,0),(cA b 48).2.2)
abbrev GD:HL [.sl (.int .u8)]->Prop:=fun (b,_)=>Bs b/\length b<=1000000
abbrev rV:HL [.sl (.int .u8)]->HO [.val aQ,.val (.int .i64)]:=fun (b,_)=>((oz b).1,(oz b).2,())
def rgC (g:Int × List Int):St:=av Tryz.f126.ntmps 144 [(2,ao 0 0),(3,sI .i64 0),(4,ag (.sl 24 0 0 g.2.length 1)),(5,sI .u8 g.1)] [(0,g1.pc (0,0)),(24,[.ints .u8 g.2.length g.2])]
def rgK (b:List Int) (n:Int) (g:Int × List Int):Prop:=g.1=AN b/\g.2=mq b/\(cA b n).2.2=0/\vL b=false
theorem Dn {b:List Int} {n:Int} (h:(cA b n).2.2=0):cA b n=(mq b,AN b,0)/\kX b=decide ((b.length:Int)=n)/\((b.length:Int)=n\/(b.length:Int)=2*n):=by unfold cA at h ⊢;split at h;cases h;rename_i c;rw[ai c];split at h;cases h;rename_i a;rw[ai a];split at h;cases h;rename_i d;rw[ai d];split at h;cases h;rename_i e;rw[ai e];refine⟨rfl,by simpa using a,aa⟩
def YP (p:Fp × Fp):St:=av Tryz.f126.ntmps 352 [(2,ao 0 0),(3,sI .i64 0),(7,ao 144 0)] [(0,g1.pc (0,0)),(144,g1.pc p)]
theorem Ui {b:List Int} (h:Bs b) {x:Int} (a:0<=x/\x<256):Bs (b.set 0 x):=by intro y hy;rcases List.mem_or_eq_of_mem_set hy with hy|hy;exact h y hy;rw[hy];exact a
theorem Sb {a:Int}:0<=aD .andNot .u8 a 224/\aD .andNot .u8 a 224<256:=by show 0<=u8.wrap _/\u8.wrap _<256;simp only[IntKind.wrap,IntKind.signed,IntKind.bits];simp;omega
theorem ab0 {b:List Int} (h:Bs b):Bs (mq b):=Ui h Sb
theorem Zq (b:List Int):(mq b).length=b.length:=by rw[mq,hZ]
theorem SS:aO Tryz.prog 126 [.sl (.int .u8)] [.val aQ,.val (.int .i64)] bB GD rV:=by
 have f:aJ Tryz.prog (aU [Uw,fp.ME,fp.fN,fp.kx,fp.jO,fp.ti,fp.Ux,fp.IB,fp.Aw,g1.aeX,g1.aeV]):=(aM (aR aad) (aM (aR fp.vd) (aM (aR fp.js) (aM (aR fp.nR) (aM (aR fp.nQ) (aM (aR fp.tw) (aM (aR fp.aah) (aM (aR fp.K2) (aM (aR fp.yK) (aM (aR g1.afL) (aM (aR g1.afK) bD)))))))))));refine bL (sp:=aU [Uw,fp.ME,fp.fN,fp.kx,fp.jO,fp.ti,fp.Ux,fp.IB,fp.Aw,g1.aeX,g1.aeV]) Qw ae ae ab ?_;rintro w F ⟨b,⟨⟩⟩;revert b;intro (b:List Int) _ n;obtain⟨q,m⟩:=n;have m:b.length<=1000000:=m;show Tr _ _ _ _ _ _ _;have y:Ds (b,48,()):=⟨⟨q,m⟩,ae,ae⟩;refine jQ f mixed 4 (fun l=>(bo (.int .u8) 5 l,cT (.int .u8) 24 l)) rgC (rgK b 48) ?_ ?_
 ·refine aq (X:=(Ds (b,48,())/\(((cA b 48).snd.snd != 0)=true->(((0:Fp),(0:Fp)),(cA b 48).snd.snd,())=rV (b,()))/\(((cA b 48).snd.snd != 0)=false->((aD BinOp.and u8 (cA b 48).snd.fst 64 != 0)=true->(((0:Fp),(0:Fp)),(cA b 48).snd.snd,())=rV (b,()))/\((aD BinOp.and u8 (cA b 48).snd.fst 64 != 0)=false->(rgC ((cA b 48).snd.fst,(cA b 48).fst)).ah (rgK b 48 ((cA b 48).snd.fst,(cA b 48).fst)))))) ab ?_;have D:(cA b 48).2.2=0->(aD .and .u8 (cA b 48).2.1 64 != 0)=vL b:=fun h=>by rw[(Dn h).1];rfl
  refine⟨y,fun h=>?_,fun h=>?_⟩
  ·have h:¬ (cA b 48).2.2=0:=by simpa using h
   show _=((oz b).1,(oz b).2,());rw[oz,ai h]
  ·have h:(cA b 48).2.2=0:=by simpa using h
   rw[D h];refine⟨fun c=>?_,fun c=>au ⟨?_,?_,h,c⟩⟩;show _=((oz b).1,(oz b).2,());rw[oz,ak h,ak c,h];show (cA b 48).2.1=AN b;rw[(Dn h).1];show (cA b 48).1=mq b;rw[(Dn h).1]
 rintro⟨e,a⟩ G;revert e a;intro (e:Int) (a:List Int) ⟨k,j,s,u⟩;have k:e=AN b:=k;have j:a=mq b:=j;obtain⟨_,K,r⟩:=Dn s;have t:a.length=b.length:=by rw[j,Zq]
 have i:Bs a:=by rw[j];exact ab0 q
 have C:(aD .and .u8 e 128==0)=!kX b:=by rw[kX,k];cases h:(aD .and .u8 (AN b) 128==0)<;>simp[bne,h]
 have E:(aD .and .u8 e 32 != 0)=yP b:=by rw[yP,k]
 refine jQ f mixed 6 (fun l=>p3 aQ 144 l) YP (fun p=>oz b=xV p) ?_ ?_
 ·refine aq (X:=(((0:Int)<=48/\48<=(a.length:Int))/\0+48<=a.length/\fp.th (take 48 a,())/\(((fp.cN (take 48 a)).snd != 0)=true->(((0:Fp),(0:Fp)),12,())=rV (b,()))/\(((fp.cN (take 48 a)).snd != 0)=false->((aD BinOp.and u8 e (128:Int)==0)=true->((0:Int)<=48/\48<=(a.length:Int))/\48+((a.length:Int)-48).toNat<=a.length/\fp.th (take ((a.length:Int)-48).toNat (drop 48 a),())/\(((fp.cN (take ((a.length:Int)-48).toNat (drop 48 a))).snd != 0)=true->(((0:Fp),(0:Fp)),12,())=rV (b,()))/\(((fp.cN (take ((a.length:Int)-48).toNat (drop 48 a))).snd != 0)=false->(YP ((fp.cN (take 48 a)).fst,(fp.cN (take ((a.length:Int)-48).toNat (drop 48 a))).fst)).ah (oz b=xV ((fp.cN (take 48 a)).fst,(fp.cN (take ((a.length:Int)-48).toNat (drop 48 a))).fst))))/\((aD BinOp.and u8 e (128:Int)==0)=false->True/\True/\gI 4/\True/\True/\True/\((!decide ((-(fp.fW ((fp.cN (take 48 a)).fst*(fp.cN (take 48 a)).fst*(fp.cN (take 48 a)).fst+Hq 4)).fst).v<(fp.fW ((fp.cN (take 48 a)).fst*(fp.cN (take 48 a)).fst*(fp.cN (take 48 a)).fst+Hq 4)).fst.v)==(aD BinOp.and u8 e 32 != 0))=true->True/\(YP ((fp.cN (take 48 a)).fst,-(fp.fW ((fp.cN (take 48 a)).fst*(fp.cN (take 48 a)).fst*(fp.cN (take 48 a)).fst+Hq 4)).fst)).ah (oz b=xV ((fp.cN (take 48 a)).fst,-(fp.fW ((fp.cN (take 48 a)).fst*(fp.cN (take 48 a)).fst*(fp.cN (take 48 a)).fst+Hq 4)).fst)))/\((!decide ((-(fp.fW ((fp.cN (take 48 a)).fst*(fp.cN (take 48 a)).fst*(fp.cN (take 48 a)).fst+Hq 4)).fst).v<(fp.fW ((fp.cN (take 48 a)).fst*(fp.cN (take 48 a)).fst*(fp.cN (take 48 a)).fst+Hq 4)).fst.v)==(aD BinOp.and u8 e 32 != 0))=false->(YP ((fp.cN (take 48 a)).fst,(fp.fW ((fp.cN (take 48 a)).fst*(fp.cN (take 48 a)).fst*(fp.cN (take 48 a)).fst+Hq 4)).fst)).ah (oz b=xV ((fp.cN (take 48 a)).fst,(fp.fW ((fp.cN (take 48 a)).fst*(fp.cN (take 48 a)).fst*(fp.cN (take 48 a)).fst+Hq 4)).fst))))))) ab ?_;rw[C,E,show take ((a.length:Int)-48).toNat (drop 48 a)=drop 48 a from bW (by simp;omega)];have g:oz b=if (fp.cN (a.take 48)).2=0 then
    if kX b=true then xV ((fp.cN (a.take 48)).1,RG (Ar (fp.cN (a.take 48)).1) (yP b))
    else if (fp.cN (a.drop 48)).2=0 then xV ((fp.cN (a.take 48)).1,(fp.cN (a.drop 48)).1)
    else ((0,0),12)
   else ((0,0),12):=by rw[oz,ak s,ai (by rw[u];decide),j]
  have z:fp.th (a.take 48,()):=fun x o=>i x (nm o);have A:fp.th (a.drop 48,()):=fun x o=>i x (Bl o);generalize H:(fp.cN (a.take 48))=X at *;generalize I:(fp.cN (a.drop 48))=Y at *;rw[show (fp.fW (X.1*X.1*X.1+Hq 4)).1=Ar X.1 from rfl];refine⟨⟨ae,aa⟩,aa,z,fun h=>?_,fun h=>⟨fun c=>⟨⟨ae,aa⟩,aa,A,fun d=>?_,fun d=>au ?_⟩,fun c=>⟨trivial,trivial,⟨ae,ae⟩,trivial,trivial,trivial,fun d=>⟨trivial,au ?_⟩,fun d=>au ?_⟩⟩⟩;show _=((oz b).1,(oz b).2,());rw[g,ai (by simpa using h)];show _=((oz b).1,(oz b).2,());rw[g,ak (by simpa using h),ai (by simpa using c),ai (by simpa using d)];rw[g,ak (by simpa using h),ai (by simpa using c),ak (by simpa using d)];rw[g,ak (by simpa using h),ak (by simpa using c),RG,ai (by simpa using d)];rw[g,ak (by simpa using h),ak (by simpa using c),RG,ak (by simpa using d)]
 intro (p:Fp × Fp) (n:oz b=xV p);refine bJ f mixed _ _ ?_;refine aq (X:=((jI (Kd.fp.pair Kd.fp) p ((0:Fp),(0:Fp))=true->(((0:Fp),(0:Fp)),13,())=rV (b,()))/\(jI (Kd.fp.pair Kd.fp) p ((0:Fp),(0:Fp))=false->True/\((!g1.o0 p)=true->(((0:Fp),(0:Fp)),13,())=rV (b,()))/\((!g1.o0 p)=false->True/\((!g1.pY p)=true->(((0:Fp),(0:Fp)),14,())=rV (b,()))/\((!g1.pY p)=false->(p,0,())=rV (b,())))))) ab ?_;rw[eqP];refine⟨fun h=>?_,fun h=>⟨trivial,fun c=>?_,fun c=>⟨trivial,fun d=>?_,fun d=>?_⟩⟩⟩;all_goals show _=((oz b).1,(oz b).2,())
 all_goals rw[n,xV]
 rw[ak (Odt h)];rw[ai (Odf h),ai (by simpa using c)];rw[ai (Odf h),ak (by simpa using c),ai (by simpa using d)];rw[ai (Odf h),ak (by simpa using c),ak (by simpa using d)]
theorem yv:∀ v:Fin 32,∀ k:Fin 8,aD .and .u8 ((v.val+32*k.val:Nat):Int) 224=((32*k.val:Nat):Int)/\aD .andNot .u8 ((v.val+32*k.val:Nat):Int) 224=((v.val:Nat):Int)/\(aD .and .u8 ((32*k.val:Nat):Int) 128 != 0)=decide (4<=k.val)/\(aD .and .u8 ((32*k.val:Nat):Int) 64 != 0)=decide (k.val/2%2=1)/\(aD .and .u8 ((32*k.val:Nat):Int) 32 != 0)=decide (k.val%2=1):=by decide +kernel
theorem aeo:∀ v:Fin 32,aD .or .u8 ((v.val:Nat):Int) 128=((v.val+32*4:Nat):Int)/\aD .or .u8 ((v.val:Nat):Int) 160=((v.val+32*5:Nat):Int)/\aD .or .u8 ((v.val:Nat):Int) 192=((v.val+32*6:Nat):Int)/\aD .or .u8 ((v.val:Nat):Int) 64=((v.val+32*2:Nat):Int):=by decide +kernel
def BD (l:List Int):Prop:=1<=l.length/\0<=l.getD 0 0/\l.getD 0 0<32
def uM (l:List Int) (k:Nat):List Int:=l.set 0 (l.getD 0 0+((32*k:Nat):Int))
theorem BD.cons {l:List Int} (h:BD l):∃ (v:Nat) (t:List Int),v<32/\l=((v:Nat):Int)::t:=by
 obtain⟨d,b,f⟩:=h;cases l with
 | nil=>simp at d
 | cons a t =>simp at b f;exact⟨a.toNat,t,aa,by rw[Bn b]⟩
theorem EF (v:Nat) (t:List Int) (k:Nat):uM (((v:Nat):Int)::t) k=((v+32*k:Nat):Int)::t:=by simp[uM]
theorem OE (l:List Int) (k:Nat):(uM l k).length=l.length:=by rw[uM,hZ]
theorem HW {l:List Int} (h:BD l) {k:Nat} (a:k<8):AN (uM l k)=((32*k:Nat):Int):=by obtain⟨v,t,b,rfl⟩:=h.cons;rw[EF];exact (yv ⟨v,b⟩ ⟨k,a⟩).1
theorem aax {l:List Int} (h:BD l) {k:Nat} (a:k<8):mq (uM l k)=l:=by obtain⟨v,t,b,rfl⟩:=h.cons;rw[EF,mq];show aD .andNot .u8 ((v+32*k:Nat):Int) 224::t=_;rw[(yv ⟨v,b⟩ ⟨k,a⟩).2.1]
theorem adu {l:List Int} (h:BD l) {k:Nat} (a:k<8):kX (uM l k)=decide (4<=k):=by rw[kX,HW h a];exact (yv ⟨0,ae⟩ ⟨k,a⟩).2.2.1
theorem adr {l:List Int} (h:BD l) {k:Nat} (a:k<8):vL (uM l k)=decide (k/2%2=1):=by rw[vL,HW h a];exact (yv ⟨0,ae⟩ ⟨k,a⟩).2.2.2.1
theorem ads {l:List Int} (h:BD l) {k:Nat} (a:k<8):yP (uM l k)=decide (k%2=1):=by rw[yP,HW h a];exact (yv ⟨0,ae⟩ ⟨k,a⟩).2.2.2.2
theorem adt {l:List Int} (h:BD l):l.set 0 (aD .or .u8 (l.getD 0 0) 128)=uM l 4/\l.set 0 (aD .or .u8 (l.getD 0 0) 160)=uM l 5/\l.set 0 (aD .or .u8 (l.getD 0 0) 192)=uM l 6/\l.set 0 (aD .or .u8 (l.getD 0 0) 64)=uM l 2:=by obtain⟨v,t,e,rfl⟩:=h.cons;obtain⟨a,b,c,d⟩:=aeo ⟨v,e⟩;simp only[EF];refine⟨?_,?_,?_,?_⟩;exact congrArg (· :: t) a;exact congrArg (· :: t) b;exact congrArg (· :: t) c;exact congrArg (· :: t) d
structure ky (F:Type) where
 n:Nat
 bts:F->List Int
 rd:List Int->F × Int
 lg:F->Bool
 rt:F->F
 o0:F × F->Bool
 pY:F × F->Bool
section
variable {F:Type} [Cr.Fd F] [DecidableEq F]
structure ky.Ok (S:ky F):Prop where
 n0:1<=S.n
 len:∀ x,(S.bts x).length=S.n
 bs:∀ x,Bs (S.bts x)
 hd:∀ x,(S.bts x).getD 0 0<32
 rdb:∀ x,S.rd (S.bts x)=(x,0)
 brd:∀ b,Bs b->(S.rd b).2=0->S.bts (S.rd b).1=b
 lgn:∀ y,y≠0->S.lg (-y)=!S.lg y
 z:S.bts 0=replicate S.n 0
 root:∀ x y,S.o0 (x,y)=true->(x,y)≠((0:F),(0:F))->y=S.rt x\/y=-S.rt x
 on0:S.o0 (0,0)=true
 in0:S.pY (0,0)=true
 iny:∀ x y,S.o0 (x,y)=true->S.pY (x,y)=true->(x,y)≠((0:F),(0:F))->y≠0/\x≠0
 onn:∀ x y,S.o0 (x,y)=true->S.o0 (x,-y)=true
 inn:∀ x y,S.o0 (x,y)=true->S.pY (x,y)=true->S.pY (x,-y)=true
def ky.Pq (S:ky F) (y:F) (l:Bool):F:=if S.lg y=l then y else -y
def ky.oX (S:ky F) (p:F × F):(F × F) × Int:=if p=((0:F),(0:F)) then (((0:F),(0:F)),13) else if S.o0 p=true then (if S.pY p=true then (p,0) else (((0:F),(0:F)),14)) else (((0:F),(0:F)),13)
def ky.rg (S:ky F) (b:List Int):(F × F) × Int :=
 if (cA b S.n).2.2=0 then
  if vL b=true then (((0:F),(0:F)),0)
  else if (S.rd ((mq b).take S.n)).2=0 then
   if kX b=true then S.oX ((S.rd ((mq b).take S.n)).1,S.Pq (S.rt (S.rd ((mq b).take S.n)).1) (yP b))
   else if (S.rd ((mq b).drop S.n)).2=0 then S.oX ((S.rd ((mq b).take S.n)).1,(S.rd ((mq b).drop S.n)).1)
   else (((0:F),(0:F)),12)
  else (((0:F),(0:F)),12)
 else (((0:F),(0:F)),(cA b S.n).2.2)
def ky.short (S:ky F) (p:F × F):List Int:=(S.bts p.1).set 0 (aD .or .u8 ((S.bts p.1).getD 0 0) (if p=((0:F),(0:F)) then (192:Int) else if S.lg p.2=true then 160 else 128))
def ky.full (S:ky F) (p:F × F):List Int:=if p=((0:F),(0:F)) then (S.bts p.1++S.bts p.2).set 0 (aD .or .u8 ((S.bts p.1++S.bts p.2).getD 0 0) 64) else S.bts p.1++S.bts p.2
variable {S:ky F}
omit [DecidableEq F] in
theorem ky.Ok.BD1 (h:S.Ok) (x:F):BD (S.bts x):=by
 have d:=h.len x;have c:=h.n0;refine⟨aa,?_,h.hd x⟩;cases b:S.bts x with
 | nil=>simp
 | cons a t =>have:=h.bs x a (by rw[b];simp);simpa using this.1
theorem ky.Ok.Fc (h:S.Ok) (p:F × F):S.short p=uM (S.bts p.1) (if p=((0:F),(0:F)) then 6 else if S.lg p.2=true then 5 else 4):=by obtain⟨a,b,c,d⟩:=adt (h.BD1 p.1);unfold ky.short;split;exact c;split;exact b;exact a
omit [DecidableEq F] in
theorem ky.Ok.nz (h:S.Ok) {x:F} (f:x≠0):∃ v∈S.bts x,v≠0:=by
 refine ga fun c=>f ?_;have e:S.bts x=replicate S.n 0:=by rw[<- h.len x];refine List.eq_replicate_of_mem fun v d=>ga fun b=>c ⟨v,d,b⟩
 have a:=h.rdb x;rw[e,<- h.z,h.rdb] at a;exact (congrArg Prod.fst a).symm
theorem ky.Ok.aeL {l:List Int} (h:BD l) {k:Nat} (g:k<8):S.rg (uM l k) =
  if l.length≠S.n/\l.length≠2*S.n then (((0:F),(0:F)),10)
  else if decide (4<=k)≠decide (l.length=S.n) then (((0:F),(0:F)),11)
  else if k%2=1/\(k<4\/k/2%2=1) then (((0:F),(0:F)),11)
  else if k/2%2=1 then (if ∃ v∈l,v≠0 then (((0:F),(0:F)),11) else (((0:F),(0:F)),0))
  else if (S.rd (l.take S.n)).2=0 then
   if 4<=k then S.oX ((S.rd (l.take S.n)).1,S.Pq (S.rt (S.rd (l.take S.n)).1) (decide (k%2=1)))
   else if (S.rd (l.drop S.n)).2=0 then S.oX ((S.rd (l.take S.n)).1,(S.rd (l.drop S.n)).1)
   else (((0:F),(0:F)),12)
  else (((0:F),(0:F)),12):=by
 unfold ky.rg cA;rw[aax h g,adu h g,adr h g,ads h g,OE];have j:((l.length:Int)≠(S.n:Int)/\(l.length:Int)≠2*(S.n:Int))↔(l.length≠S.n/\l.length≠2*S.n):=aa;have r:decide ((l.length:Int)=(S.n:Int))=decide (l.length=S.n):=by simp[Int.ofNat_inj]
 by_cases b:l.length≠S.n/\l.length≠2*S.n;simp only[ak (j.2 b),ak b];rw[ai ae]
 ·simp only[ai (fun c=>b (j.1 c)),ai b,r];by_cases o:decide (4<=k)≠decide (l.length=S.n);simp only[ak o];rw[ai ae]
  ·simp only[ai o];have m:(decide (k%2=1)=true/\(decide (4<=k)=false\/decide (k/2%2=1)=true))↔(k%2=1/\(k<4\/k/2%2=1)):=by
    simp only[hX,decide_eq_false_iff_not];omega
   by_cases d:k%2=1/\(k<4\/k/2%2=1);simp only[ak (m.2 d),ak d];rw[ai ae]
   ·simp only[ai (fun c=>d (m.1 c)),ai d];by_cases e:k/2%2=1;simp only[ak e,cg e,true_and];by_cases q:∃ v∈l,v≠0;simp only[ak q];rw[ai ae];simp only[ai q];simp only[eB]
    ·have a:¬ (decide (k/2%2=1)=true):=by simpa using e
     simp only[ai e,ai a,ai (show ¬ (decide (k/2%2=1)=true/\∃ v∈l,v≠0) from fun c=>a c.1),eB];by_cases f:4<=k;simp only[ak f,cg f,eB]
     ·have i:¬ (decide (4<=k)=true):=by simpa using f
      simp only[ai f,ai i]
theorem ky.Si {p:F × F} (a:p≠((0:F),(0:F))) (b:S.o0 p=true) (c:S.pY p=true):S.oX p=(p,0):=by rw[ky.oX,ai a,ak b,ak c]
omit [DecidableEq F] in
theorem ky.Ok.aeU (h:S.Ok) {x y:F} (a:(x,y)≠((0:F),(0:F))) (b:S.o0 (x,y)=true) (d:S.pY (x,y)=true):S.Pq (S.rt x) (S.lg y)=y:=by obtain⟨g,_⟩:=h.iny x y b d a;unfold ky.Pq;rcases h.root x y b a with e|e;rw[<- e,ak rfl];have f:S.rt x≠0:=fun c=>g (by rw[e,c,Rg.neg_zero]);rw[ai,e];rw[e,h.lgn _ f];cases S.lg (S.rt x)<;>decide
theorem ky.Ok.RI (h:S.Ok) {p:F × F} (d:S.o0 p=true) (e:S.pY p=true):S.rg (S.short p)=(p,0):=by
 have l:=h.n0;have k:=h.len p.1;rw[h.Fc,ky.Ok.aeL (h.BD1 p.1) (by split;decide;split<;>decide),ai aa];by_cases a:p=((0:F),(0:F));rw[ak a,ai (by simp[k]),ai ae,ak ae,ai,a];rintro⟨v,i,g⟩;rw[a,h.z] at i;exact g (List.eq_of_mem_replicate i)
 ·rw[ai a];obtain⟨x,y⟩:=p;have j:S.rd ((S.bts x).take S.n)=(x,0):=by rw[bW (by rw[h.len];exact aI _),h.rdb]
  have c:=h.aeU a d e;by_cases b:S.lg y=true;rw[b] at c;rw[ak b,ai (by simp[h.len]),ai ae,ai ae,j,ak rfl,ak ae];show S.oX (x,S.Pq (S.rt x) true)=_;rw[c,ky.Si a d e]
  ·have f:S.lg y=false:=by simpa using b
   rw[f] at c;rw[ai b,ai (by simp[h.len]),ai ae,ai ae,j,ak rfl,ak ae];show S.oX (x,S.Pq (S.rt x) false)=_;rw[c,ky.Si a d e]
end
end codec
end Go.Proofs.YtofofalgjibokaaGreatDoor
namespace Cr
open Rg Fd
open Go.IntKind(i64)
open Go.IntKind(i64 u64)
open Go.IntKind(i64 u8)
open Go.IntKind(u8)
section
variable {F:Type} [Fd F] {b:F}
theorem ae7 (d:b≠0) {P:F × F} (f:gH b P) {r:Nat} (i:r%2=1) (h:dg P r=O2) (c:P.2=0):P=O2:=by
 have e:dD P=P:=by show (P.1,-P.2)=P;rw[c,neg_zero,<- c]
 have g:dg P 2=O2:=by
  rw[LQ];have:=dY P
  rwa [e] at this
 have a:r=2*(r/2)+1:=aa;rw[a,o4 d f,<- s7 d f,g,yR,jE,EO] at h;exact h
theorem Xi (d:b≠0) {P:F × F} (a:gH b P) {r:Nat} (j:r%3=1) (h:dg P r=O2) (c:P.1=0):P=O2:=by
 rcases a with rfl|o;rfl;have a:gH b P:=.inr o;have i:yp P P 0:=by refine⟨?_,?_⟩;rw[zero_mul,sub_self];rw[c,zero_mul,zero_mul,add_zero,add_zero]
 have e:cq P P=dD P:=by rw[eN d o o i,c];show (0*0-0-0,-(P.2+0*_))=(P.1,-P.2);rw[zero_mul,zero_mul,sub_self,sub_self,add_zero,c]
 have g:dg P 3=O2:=by show cq (dg P 2) P=O2;rw[LQ,e,kQ]
 have f:r=3*(r/3)+1:=aa;rw[f,o4 d a,<- s7 d a,g,yR,jE,EO] at h;exact h
end
theorem Ni (n:Nat) (N:Int):dw (n+1) N=dw n (N/256)++[N%256]:=by unfold dw;rw[qK,di];congr 1;apply Bo;intro i a;have a:=List.mem_range.1 a;rw[show n+1-1-i=(n-1-i)+1 by omega];rw[show bG (n-1-i+1)=256*bG (n-1-i) from rfl,<- nj ae];simp[bG]
theorem FE:∀ (n:Nat) (l:List Int),l.length=n->Bs l->dw n (num l)=l:=by
 intro n;induction n with
 | zero=>intro l h _;rw[List.length_eq_zero_iff.1 h];rfl
 | succ n m =>
  intro l h f;have a:l≠[]:=by intro c;rw[c] at h;simp at h
  have e:=List.dropLast_concat_getLast a;have d:=f _ (List.getLast_mem a);have g:Bs l.dropLast:=fun x k=>f x (List.dropLast_subset l k);have i:l.dropLast.length=n:=by rw[List.length_dropLast];omega
  rw[Ni];have j:num l=num l.dropLast*256+l.getLast a:=by rw[<- vS,e]
  rw[j,show (num l.dropLast*256+l.getLast a)/256=num l.dropLast by omega,show (num l.dropLast*256+l.getLast a)%256=l.getLast a by omega,m _ i g,e]
theorem Nj (n:Nat):dw n 0=replicate n 0:=by
 have e:((replicate n (0:Int)).length=n):=oT;have a:Bs (replicate n (0:Int)):=fun x c=>by rw[List.eq_of_mem_replicate c];decide
 have d:∀ n:Nat,num (replicate n 0)=0:=by
  intro n;induction n with
  | zero=>rfl
  | succ n f=>rw[List.replicate_succ',vS,f];rfl
 have:=FE n _ e a
 rwa [d] at this
theorem Sg {N:Int} (c:0<=N) (d:N<Mp):(dw 48 N).getD 0 0<32:=by
 show N/bG 47%256<32;have e:Mp<=32*bG 47:=by decide +kernel
 have a:0<bG 47:=kb 47;have:N/bG 47<32:=Int.ediv_lt_of_lt_mul a aa;have:0<=N/bG 47:=wV c (eJ a);omega
theorem aeb {y:Fp} (h:y≠0):(-y).v=Mp-y.v:=by have a:=y.nn;have d:=y.lt;have:y.v≠0:=fun c=>h (Zm.ext (by rw[c,uA]));rw[J9,<- Bp];rw[de aa aa];omega
theorem ad8 {y:Fp} (h:y≠0):decide ((- -y).v<(-y).v)=!decide ((-y).v<y.v):=by
 rw[neg_neg];have e:=aeb h;have a:Mp%2=1:=by decide +kernel
 by_cases c:(-y).v<y.v;rw[cg c,cp aa];rfl;rw[cp c,cg aa];rfl
end Cr
namespace Go.Proofs.YtofofalgjibokaaGreatDoor
namespace codec
open Rg Fd
open Go.IntKind(i64)
open Go.IntKind(i64 u64)
open Go.IntKind(i64 u8)
open Go.IntKind(u8)
theorem S1 (y:Fp):(fp.fW (y*y)).2=true:=by
 by_cases c:y=0;rw[c,mul_zero];exact fp2.Nr
 ·unfold fp.fW;have e:mU (y*y) fp.vX*mU (y*y) fp.vX=y*y:=by
   have a:=P7 c;rw[zu] at a ⊢;rw[<- abO,<- zpow_add];have d:2*fp.vX.toNat+2*fp.vX.toNat=(4002409555221667393417789825735904156556882819939007885332058136124031650490837864442687629129015664037894272559785:Int).toNat+1+1+1:=Odt ab;rw[d];generalize (4002409555221667393417789825735904156556882819939007885332058136124031650490837864442687629129015664037894272559785:Int).toNat=m at *;show zpow y m*y*y*y=y*y;rw[mul_comm (zpow y m) y,a,one_mul]
  rw[ak e]
theorem af1 (x:Fp):fp.cN (dw 48 x.v)=(x,0):=by have a:x.v<bG 48:=Int.lt_trans x.lt (by decide +kernel);rw[fp.cN,ak (gE _ _),Gs 48 _ x.nn a,ak x.lt,jb]
theorem afz {b:List Int} (c:Bs b) (h:(fp.cN b).2=0):dw 48 (fp.cN b).1.v=b/\b.length=48:=by
 unfold fp.cN at h ⊢;split at h
 ·rename_i a;rw[ak a];split at h
  ·rename_i d;rw[ak d];refine⟨?_,a⟩;have:(zm (num b):Fp).v=num b:=by rw[AM];exact de (Cs c).1 d
   show dw 48 (zm (num b):Fp).v=b;rw[this,FE 48 b a c]
  cases h
 cases h
def Ca:ky Fp:=⟨48,fun x=>dw 48 x.v,fp.cN,fun y=>decide ((-y).v<y.v),Ar,g1.o0,g1.pY⟩
theorem Tl {x y:Fp} (c:g1.o0 (x,y)=true) (a:g1.pY (x,y)=true):g1.Sub (x,y):=by have o:=(g1.ve _).1 c;rw[g1.adh o,hX] at a;exact⟨o,a⟩
theorem HT:Ca.Ok where
 n0:=ae
 len x:=gE _ _
 bs x:=w6 _ _
 hd x:=Sg x.nn x.lt
 rdb x:=af1 x
 brd b hb h:=(afz hb h).1
 lgn y hy:=ad8 hy
 z:=Nj 48
 root x y h h0:=by rcases (g1.ve _).1 h with c|c;exact absurd c h0;have c:y*y=x*x*x+zm 4:=c;have:=fp2.S0 (S1 y);show y=Ar x\/y=-Ar x;rw[Ar,<- c];exact agf this.symm
 on0:=(g1.ve _).2 (.inl rfl)
 in0:=by rw[show ((0:Fp),(0:Fp))=O2 from rfl];exact g1.G6 ⟨.inl rfl,yR _⟩
 iny x y h1 h2 h0:=by obtain⟨o,hr⟩:=Tl h1 h2;exact⟨fun c=>h0 (ae7 g1.nv o (by decide +kernel) hr c),fun c=>h0 (Xi g1.nv o (by decide +kernel) hr c)⟩
 onn x y h:=(g1.ve _).2 (mc ((g1.ve _).1 h))
 inn x y h1 h2:=by obtain⟨o,hr⟩:=Tl h1 h2;refine g1.G6 ⟨mc o,?_⟩;show dg (dD (x,y)) g1.rN=O2;rw[Wx g1.nv o,hr,rZ]
theorem aeK (b:List Int):oz b=Ca.rg b:=rfl
theorem ada (p:Fp × Fp):AS p=Ca.short p:=by
 obtain⟨x,y⟩:=p;unfold AS ky.short;have e:(decide (x=0)&&decide (y=0))=decide ((x,y)=((0:Fp),(0:Fp))):=by rw[nr];simp
 show List.set _ 0 (aD .or .u8 _ (if (decide (x=0)&&decide (y=0))=true then _ else _))=_;rw[e];simp only[Ca,lZ]
def D9 (p:Fp × Fp):List Int:=eR (Ca.short p)
theorem Gv (p:Fp × Fp):D9 p=Ca.short p:=bm _
def pZ (b:List Int):(Fp × Fp) × Int:=eR (Ca.rg b)
theorem TH (b:List Int):pZ b=Ca.rg b:=bm _
theorem SX:aO Tryz.prog 126 [.sl (.int .u8)] [.val aQ,.val (.int .i64)] bB GD (fun (b,_)=>((pZ b).1,(pZ b).2,())):=SS.out fun (b,_)=>by show ((pZ b).1,(pZ b).2,())=((oz b).1,(oz b).2,());rw[TH,aeK]
def MD:Nat × Eng.Spec:=(126,aK [.sl (.int .u8)] [.val aQ,.val (.int .i64)] GD (fun (b,_)=>((pZ b).1,(pZ b).2,())))
end codec
namespace deal
open law22 poly
open Go.IntKind(i64)
open Go.IntKind(i64 u64)
open Go.IntKind(i64 u8)
open Go.IntKind(u8)
theorem vD:enters Tryz.prog 82 Tryz.f82:=ek
def wa (b:List Int) (i:Nat):List Int:=(b.drop (48*i)).take 48
def mI (b:List Int):Nat->Int
 | 0=>0
 | k+1=>if mI b k=0 then (codec.pZ (wa b k)).2 else mI b k
def rb (b:List Int) (k:Nat):List (Fp × Fp):=(range k).map fun i=>(codec.pZ (wa b i)).1
theorem Oo {b:List Int}:∀ {k m:Nat},k<=m->mI b k≠0->mI b m=mI b k
 | k,0,h,_=>by rw[Nat.le_zero.1 h]
 | k,m+1,h,a=>by by_cases c:k=m+1;rw[c];have:=Oo (b:=b) (k:=k) (m:=m) aa a;rw[mI,ai (by rw[this];exact a),this]
theorem WU (b:List Int) (k:Nat):rb b (k+1)=rb b k++[(codec.pZ (wa b k)).1]:=by rw[rb,qK,di];rfl
theorem yZ (b:List Int) (k:Nat):(rb b k).length=k:=by rw[rb];simp
def pg (d:List Int) (n:Int) (o:List (Fp × Fp)) (a:Int) (b:List Int):List (Fp × Fp) × Int :=
 if a∈d then
  if b.length%48=0/\((b.length/48:Nat):Int)=n then
   if mI b (b.length/48)=0 then
    if o=[]\/(1<=b.length/48/\(rb b (b.length/48)).getD 0 (0,0)=l6 a o) then (rb b (b.length/48),0) else ([],31)
   else ([],mI b (b.length/48))
  else ([],10)
 else ([],34)
abbrev Kc:HL [dR,.int .i64,.sl (.int .u8)]->Prop:=fun ((d,_,_,o),a,b,_)=>length d<4611686018427387904/\CA (o,a,())/\Bs b/\length b<=1000000
abbrev uV:HL [dR,.int .i64,.sl (.int .u8)]->HO [.own aQ,.val (.int .i64)]:=fun ((d,_,n,o),a,b,_)=>((pg d n o a b).1,(pg d n o a b).2,())
abbrev sC (d t:List Int) (n:Int) (o:List (Fp × Fp)):List Cell:=[.ro (.int .i64) d,.ro (.int .i64) t,.v (.int .i64 n),.ro aQ o]
def Ip (d t:List Int) (n:Int) (o:List (Fp × Fp)) (a:Int) (g:List Int × Nat × Nat × List (Fp × Fp)):St:=av Tryz.f82.ntmps 192 [(1,sI .i64 a),(2,ag (.ro (.int .u8) g.1)),(3,ao 0 0),(6,ag (.v (.slice none 0 0))),(7,sI .i64 0),(8,ag (.sl 176 0 0 g.2.1 12))] [(0,sC d t n o),(176,[.row aQ g.2.2.1 g.2.2.2])]
def Rq (b:List Int) (g:List Int × Nat × Nat × List (Fp × Fp)):Prop:=g.2.1<=b.length/48/\g.1=b.drop (48*g.2.1)/\g.2.2.2.take g.2.1=rb b g.2.1/\mI b g.2.1=0/\g.2.1<=g.2.2.1/\g.2.2.1=g.2.2.2.length
def aeE (b:List Int) (g:List Int × Nat × Nat × List (Fp × Fp)):Prop:=g.2.1=b.length/48/\g.2.2.2.take g.2.1=rb b g.2.1/\mI b g.2.1=0/\g.2.1<=g.2.2.1/\g.2.2.1=g.2.2.2.length
theorem vd:aO Tryz.prog 82 [dR,.int .i64,.sl (.int .u8)] [.own aQ,.val (.int .i64)] bB Kc uV:=by
 have u:aJ Tryz.prog (aU [ku,codec.MD,zi,RK]):=(aM (aR l7) (aM (aR codec.SX) (aM (aR zJ) (aM (aR SM) bD))));refine bL (sp:=aU [ku,codec.MD,zi,RK]) vD ae ae ab ?_;rintro w M0 ⟨⟨d,t,n,o⟩,s,b,⟨⟩⟩;revert d t n o s b;intro (d:List Int) (t:List Int) (n:Int) (o:List (Fp × Fp)) (a:Int) (b:List Int) _ hp;obtain⟨hd,Z,W,Q⟩:=hp;have Q:b.length<=1000000:=Q;show Tr _ _ _ _ _ _ _;refine jQ u mixed 6 (fun j=>(GL (.int .u8) 2 j,na 8 j,rdN 176 j,cT aQ 176 j)) (Ip d t n o a) (fun g=>Rq b g/\a∈d/\b.length%48=0/\((b.length/48:Nat):Int)=n) ?_ ?_
 ·refine aq (X:=(g8 (d,a,())/\((!decide (a∈d))=true->([],34,())=uV ((d,t,n,o),a,b,()))/\((!decide (a∈d))=false->((48:Int)=0->False)/\(((b.length:Int).tmod 48 != 0)=true->([],10,())=uV ((d,t,n,o),a,b,()))/\(((b.length:Int).tmod 48 != 0)=false->((48:Int)=0->False)/\((IntKind.i64.wrap ((b.length:Int).tdiv 48) != n)=true->([],10,())=uV ((d,t,n,o),a,b,()))/\((IntKind.i64.wrap ((b.length:Int).tdiv 48) != n)=false->((0:Int)<=0/\0<=n/\(↑(96:Nat):Int)*n<=281474976710656/\n<=9223372036854775807)/\(Ip d t n o a (b,0,n.toNat,replicate n.toNat ((0:Fp),(0:Fp)))).ah (Rq b (b,0,n.toNat,replicate n.toNat ((0:Fp),(0:Fp)))/\a∈d/\b.length%48=0/\(↑(b.length/48):Int)=n)))))) ab ?_;have T:(b.length:Int).tmod 48=((b.length%48:Nat):Int):=rfl;have U:(b.length:Int).tdiv 48=((b.length/48:Nat):Int):=rfl;rw[T,U,ba aa aa];refine⟨hd,fun h=>?_,fun h=>⟨ae,fun f=>?_,fun f=>⟨ae,fun i=>?_,fun i=>?_⟩⟩⟩
  ·have h:¬ a∈d:=by simpa using h
   show _=((pg d n o a b).1,(pg d n o a b).2,());rw[pg,ai h]
  ·have h:a∈d:=by simpa using h
   have f:¬ b.length%48=0:=fun c=>by rw[c] at f;simp at f
   show _=((pg d n o a b).1,(pg d n o a b).2,());rw[pg,ak h,ai (fun c=>f c.1)]
  ·have h:a∈d:=by simpa using h
   have i:¬ ((b.length/48:Nat):Int)=n:=bne_iff_ne.1 i;show _=((pg d n o a b).1,(pg d n o a b).2,());rw[pg,ak h,ai (fun c=>i c.2)]
  ·have h:a∈d:=by simpa using h
   have f:b.length%48=0:=by have:((b.length%48:Nat):Int)=0:=by simpa using f
                            omega
   have i:((b.length/48:Nat):Int)=n:=by simpa using i
   have K:n.toNat=b.length/48:=aa;refine⟨⟨ae,aa,aa,aa⟩,au ⟨⟨a8 _,?_,?_,rfl,a8 _,?_⟩,h,f,i⟩⟩;show b=drop (48*0) b;simp;rfl;show n.toNat=(replicate n.toNat ((0:Fp),(0:Fp))).length;rw[oT]
 rintro⟨e,k,m,l⟩ hK;revert e l;intro (e:List Int) (l:List (Fp × Fp)) ⟨I,D,C,K⟩;refine cl u mixed (fun j=>[(176,Mn 8 j)]) (fun j=>(GL (.int .u8) 2 j,na 8 j,rdN 176 j,cT aQ 176 j)) (Ip d t n o a) (Rq b) (fun g=>b.length/48-g.2.1)
  (fun j=>(GL (.int .u8) 2 j,na 8 j,rdN 176 j,cT aQ 176 j)) (Ip d t n o a) (aeE b) (e,k,m,l) (c:=ar (al Tryz.f82) 6) ab ab (ay ab ab I) ?_ ?_
 ·rintro⟨e,k,m,l⟩ I;revert e l;intro (e:List Int) (l:List (Fp × Fp)) ⟨A,G,q,r,y,H⟩;refine aq (X:=((decide ((e.length:Int)>0)=true->((0:Int)<=48/\48<=(e.length:Int))/\codec.GD (take 48 e,())/\(((codec.pZ (take 48 e)).snd != 0)=true->([],(codec.pZ (take 48 e)).snd,())=uV ((d,t,n,o),a,b,()))/\(((codec.pZ (take 48 e)).snd != 0)=false->0+1<=1/\k<=m/\(k+1)*96<=140737488355328/\k+1<=4611686018427387904/\((0:Int)<=48/\48<=(e.length:Int))/\(Ip d t n o a (take ((e.length:Int)-48).toNat (drop 48 e),k+1,k+1,take k l++take 1 [(codec.pZ (take 48 e)).fst])).ah (Rq b (take ((e.length:Int)-48).toNat (drop 48 e),k+1,k+1,take k l++take 1 [(codec.pZ (take 48 e)).fst])/\b.length/48-(k+1)<b.length/48-k)))/\(decide ((e.length:Int)>0)=false->(Ip d t n o a (e,k,m,l)).ah (aeE b (e,k,m,l))))) ab ?_;have A:k<=b.length/48:=A;have G:e=b.drop (48*k):=G;have q:l.take k=rb b k:=q;have r:mI b k=0:=r;have y:k<=m:=y;have Y:e.length=b.length-48*k:=by rw[G,gf]
  have L:take 48 e=wa b k:=by rw[G];rfl
  rw[L];refine⟨fun h=>?_,fun h=>au ?_⟩
  ·have E:k<b.length/48:=by
    have:=Odt h;omega
   have N:48<=e.length:=aa;refine⟨⟨aa,aa⟩,⟨fun x hx=>W x (Bl (nm hx)),by show (wa b k).length<=_;rw[wa];exact h9 (List.length_take_le _ _) ae⟩,fun f=>?_,fun f=>⟨ae,y,aa,aa,⟨aa,aa⟩,au ⟨⟨E,?_,?_,?_,aI _,?_⟩,aa⟩⟩⟩
   ·have f:¬ (codec.pZ (wa b k)).2=0:=bne_iff_ne.1 f;have O:mI b (k+1)=(codec.pZ (wa b k)).2:=by rw[mI,ak r]
    have R:mI b (b.length/48)=(codec.pZ (wa b k)).2:=by rw[<- O];exact Oo E (by rw[O];exact f)
    show _=((pg d n o a b).1,(pg d n o a b).2,());rw[pg,ak D,ak ⟨C,K⟩,ai (by rw[R];exact f),R]
   show take ((e.length:Int)-48).toNat (drop 48 e)=b.drop (48*(k+1));rw[bW (by rw[gf];omega),G,fF];congr 1;show take (k+1) (take k l++[_])=rb b (k+1);rw[q,WU,bW (by rw[a7,yZ];simp)];show mI b (k+1)=0;rw[mI,ak r];simpa using f;show k+1=(take k l++[_]).length;rw[q,a7,yZ];rfl
  ·have z:k=b.length/48:=by
    have:=Odf h;omega
   exact⟨z,q,r,y,H⟩
 rintro⟨e,k,m,l⟩ I;revert e l;intro (e:List Int) (l:List (Fp × Fp)) ⟨A,q,r,y,H⟩;refine bJ u mixed _ _ ?_;refine aq (X:=(True/\((!(o.length:Int)==0)=true->(((k:Int)==0)=true->([],31,())=uV ((d,t,n,o),a,b,()))/\(((k:Int)==0)=false->((0:Int)<=0/\0<(k:Int))/\0<m/\CA (o,a,())/\((!jI (Kd.fp.pair Kd.fp) (l.getD 0 ((0:Fp),(0:Fp))) (l6 a o))=true->([],31,())=uV ((d,t,n,o),a,b,()))/\((!jI (Kd.fp.pair Kd.fp) (l.getD 0 ((0:Fp),(0:Fp))) (l6 a o))=false->0+k<=m/\(take k l,0,())=uV ((d,t,n,o),a,b,()))))/\((!(o.length:Int)==0)=false->0+k<=m/\(take k l,0,())=uV ((d,t,n,o),a,b,())))) ab ?_;have A:k=b.length/48:=A;have q:l.take k=rb b k:=q;have r:mI b k=0:=r;have y:k<=m:=y;have H:m=l.length:=H;have V:pg d n o a b=if o=[]\/(1<=k/\(rb b k).getD 0 (0,0)=l6 a o) then (rb b k,0) else ([],31):=by rw[pg,ak D,ak ⟨C,K⟩,<- A,ak r]
 have P:1<=k->l.getD 0 ((0:Fp),(0:Fp))=(rb b k).getD 0 (0,0):=fun h=>by rw[<- q,a2,a2,fE,ak aa]
 have kp:((k:Int)==0)=false->(0:Int)<(k:Int):=fun h=>by
  have:¬ (k:Int)=0:=by simpa using h
  omega
 rw[eqP,q];refine⟨trivial,fun h=>⟨fun f=>?_,fun f=>⟨⟨ae,kp f⟩,?_,Z,fun i=>?_,fun i=>⟨aa,?_⟩⟩⟩,fun h=>⟨aa,?_⟩⟩;all_goals try show _=((pg d n o a b).1,(pg d n o a b).2,())
 all_goals try rw[V]
 ·have f:(k:Int)=0:=by simpa using f
  have F:¬ o=[]:=fun c=>by rw[c] at h;simp at h
  rw[ai (fun c=>c.elim F (fun c=>aa))]
 ·have:¬ (k:Int)=0:=by simpa using f
  omega
 ·have z:1<=k:=by have:¬ (k:Int)=0:=by simpa using f
                  omega
  have F:¬ o=[]:=fun c=>by rw[c] at h;simp at h
  rw[P z] at i;have i:¬ (rb b k).getD 0 (0,0)=l6 a o:=by simpa using i
  rw[ai (fun c=>c.elim F (fun c=>i c.2))]
 ·have z:1<=k:=by have:¬ (k:Int)=0:=by simpa using f
                  omega
  rw[P z] at i;have i:(rb b k).getD 0 (0,0)=l6 a o:=by simpa using i
  rw[ak (.inr ⟨z,i⟩)]
 ·have F:o=[]:=dM (by have:(o.length:Int)=0:=by simpa using h
                      omega)
  rw[ak (.inl F)]
end deal
namespace rite
open Go.IntKind(i64)
open Go.IntKind(i64 u64)
open Go.IntKind(i64 u8)
open Go.IntKind(u8)
set_option maxHeartbeats 4000000
open hub deal
abbrev iK:Kd:=.int .i64
abbrev cB:Kd:=.pair iK (.sl iK)
abbrev Pt:=Fp × Fp
structure Rt where
 p:Nat
 me:Int
 dealers:List Int
 takers:List Int
 need:Int
 old:List Pt
 a6:List Fr
 start:Int
 span:Int
 phase:Int
 hub:Nat
 deals:List (Int × List Pt)
 faults:List (Int × List Int)
 proofs:List (Int × Int × Fr)
 a5:List Int
 shares:List Fr
 fault:Int
abbrev bn:List Cell:=[.v (.slice none 0 0),.v (.slice none 0 0),.ints .u64 4 [0,0,0,0],.ints .u8 32 (replicate 32 0)]
abbrev kL (e:List Int × List Pt × Fr × List Int):List Cell:=[.ro iK e.1,.ro aQ e.2.1,.row .fr 1 [e.2.2.1],.ints .u8 32 e.2.2.2]
abbrev lL (R:Rt) (a b c d e f g h i j:Nat) (t:List Cell):List Cell:=.v (.int .i64 R.me)::.ro iK R.dealers::.ro iK R.takers::.v (.int .i64 R.need)::.ro aQ R.old::.ro .fr R.a6::.v (.int .i64 R.start)::.v (.int .i64 R.span)::.v (.int .i64 R.phase)::.v (Ob.pt R.hub) ::
 .sl a 0 0 f 2::.sl b 0 0 g 2::.sl c 0 0 h 6::.sl d 0 0 i 1::.sl e 0 0 j 4::t
abbrev dE (R:Rt) (t:List Cell):List (List Cell):=[lL R 1 2 3 4 5 R.deals.length R.faults.length R.proofs.length R.a5.length R.shares.length t,[.row cy R.deals.length R.deals],[.row cB R.faults.length R.faults],[.row cG R.proofs.length R.proofs],[.ints .i64 R.a5.length R.a5],[.row .fr R.shares.length R.shares]]
def bA (R:Rt):Ob.aj:=Ob.aj.obj (dE R (bn++[.v (.int .i64 R.fault)])) R.p Ob.aj.none
def p4 (R:Rt) (e:List Int × List Pt × Fr × List Int):Ob.aj:=Ob.aj.obj (dE R (kL e++[.v (.int .i64 R.fault)])) R.p Ob.aj.none
abbrev yi:=aU [law22.ku]
theorem cd:aJ Tryz.prog yi:=aM (aR law22.l7) bD
abbrev p5 (e:Nat->Option (Sigma aH)) (f:World) (d:Mem) (a:Nat->Prop):Ob.cf:=Ob.lj Tryz.prog yi e f d a
abbrev hU (R:Rt) (t:List Cell):List (Nat × List Cell):=[(8,lL R 9 10 11 12 13 R.deals.length R.faults.length R.proofs.length R.a5.length R.shares.length t),(9,[.row cy R.deals.length R.deals]),(10,[.row cB R.faults.length R.faults]),(11,[.row cG R.proofs.length R.proofs]),(12,[.ints .i64 R.a5.length R.a5]),(13,[.row .fr R.shares.length R.shares])]
theorem zB:enters Tryz.prog 63 Tryz.f63:=ek
abbrev Sp:Func:=Tryz.f63
def dlA (R:Rt):St:=av Sp.ntmps 14 [(0,ao 8 0)] (hU R (bn++[.v (.int .i64 R.fault)]))
def dlB (R:Rt) (q:Bool):St:=av Sp.ntmps 14 [(2,aA q)] (hU R (bn++[.v (.int .i64 R.fault)]))
def dlC (q:Bool):St:=av Sp.ntmps 8 [(2,aA q)] []
def dlZ (p:Nat):St:=av Sp.ntmps 8 [(0,aB p)] []
theorem Ju (a:Nat->Option (Sigma aH)):Ob.ez Tryz.prog a 63 (fun R:Rt=>[aB R.p]) (fun R=>R.dealers.length<1000) bA (fun R (_:Unit)=>aA (decide (R.me∈R.dealers))) (fun R _=>bA R) (fun _ _=>True):=by refine Ob.c9 (sp:=yi) zB ab (fun z=>by show 1<=Sp.ntmps;exact Odt ab) (fun z _=>rfl) ?_;intro R i g e d;unfold bA;refine Ob.eK cd 1 (dlZ R.p) ?_;refine Ob.gR [0] (dlA R) ?_;refine Ob.gcd cd 1 (fun h=>bo .bool 2 h) (fun q=>dlB R q) (fun q=>q=decide (R.me∈R.dealers)) ?_ (fun q f=>?_);intros;refine @aq (law22.g8 (R.dealers,R.me,())/\(dlB R (decide (R.me∈R.dealers))).ah (decide (R.me∈R.dealers)=decide (R.me∈R.dealers))) _ ?_ ?_;kernel_rfl;exact⟨by show R.dealers.length<_;omega,au rfl⟩;refine Ob.fj (E:=p5 a g e d) (bl:=dE R (bn++[.v (.int .i64 R.fault)])) [] [8,9,10,11,12,13] 9 (dlC q) ?_;exact Ob.sn cd (aA q) ⟨(),trivial,by rw[f];exact Ob.br _,rfl⟩
theorem BX:enters Tryz.prog 66 Tryz.f66:=ek
abbrev UI:Func:=Tryz.f66
def AZ (R:Rt):St:=av UI.ntmps 14 [(0,ao 8 0)] (hU R (bn++[.v (.int .i64 R.fault)]))
def MR (R:Rt) (q:Bool):St:=av UI.ntmps 14 [(2,aA q)] (hU R (bn++[.v (.int .i64 R.fault)]))
def Hf (q:Bool):St:=av UI.ntmps 8 [(2,aA q)] []
def tkZ (p:Nat):St:=av UI.ntmps 8 [(0,aB p)] []
theorem LW (a:Nat->Option (Sigma aH)):Ob.ez Tryz.prog a 66 (fun R:Rt=>[aB R.p]) (fun R=>R.takers.length<1000) bA (fun R (_:Unit)=>aA (decide (R.me∈R.takers))) (fun R _=>bA R) (fun _ _=>True):=by refine Ob.c9 (sp:=yi) BX ab (fun z=>by show 1<=UI.ntmps;exact Odt ab) (fun z _=>rfl) ?_;intro R i g e d;unfold bA;refine Ob.eK cd 1 (tkZ R.p) ?_;refine Ob.gR [0] (AZ R) ?_;refine Ob.gcd cd 1 (fun h=>bo .bool 2 h) (fun q=>MR R q) (fun q=>q=decide (R.me∈R.takers)) ?_ (fun q f=>?_);intros;refine @aq (law22.g8 (R.takers,R.me,())/\(MR R (decide (R.me∈R.takers))).ah (decide (R.me∈R.takers)=decide (R.me∈R.takers))) _ ?_ ?_;kernel_rfl;exact⟨by show R.takers.length<_;omega,au rfl⟩;refine Ob.fj (E:=p5 a g e d) (bl:=dE R (bn++[.v (.int .i64 R.fault)])) [] [8,9,10,11,12,13] 9 (Hf q) ?_;exact Ob.sn cd (aA q) ⟨(),trivial,by rw[f];exact Ob.br _,rfl⟩
set_option maxHeartbeats 4000000
abbrev Yg (x:Fr):SV:=.is (.agg [.row .fr 1 [x]])
theorem KV:enters Tryz.prog 45 Tryz.f45:=ek
abbrev Gf:Func:=Tryz.f45
def kpA (p:Nat) (d:Int) (x:Fr):St:=av Gf.ntmps 8 [(0,aB p),(1,sI .i64 d),(5,ao 0 0)] [(0,[.row .fr 1 [x]])]
def kpB (R:Rt) (d:Int) (x:Fr):St:=av Gf.ntmps 14 [(0,ao 8 0),(1,sI .i64 d),(5,ao 0 0)] ((0,[.row .fr 1 [x]])::hU R (bn++[.v (.int .i64 R.fault)]))
def kpC (R:Rt) (d:Int) (x:Fr) (q:Bool):St:=av Gf.ntmps 14 [(0,ao 8 0),(1,sI .i64 d),(5,ao 0 0),(11,aA q)] ((0,[.row .fr 1 [x]])::hU R (bn++[.v (.int .i64 R.fault)]))
def kpN (q:SV):St:=av Gf.ntmps 8 [(11,q)] []
def kpD (R:Rt) (x:Fr) (fl:List Int):St:=av Gf.ntmps 71 [(0,ao 8 0),(5,ao 0 0)]
 [(0,[.row .fr 1 [x]]),(8,lL R 9 10 11 70 13 R.deals.length R.faults.length R.proofs.length (R.a5.length+1) R.shares.length (bn++[.v (.int .i64 R.fault)])),(9,[.row cy R.deals.length R.deals]),(10,[.row cB R.faults.length R.faults]),(11,[.row cG R.proofs.length R.proofs]),(70,[.ints .i64 (R.a5.length+1) fl]),(13,[.row .fr R.shares.length R.shares])]
def kpE (R:Rt) (fl:List Int) (a:List Fr):St:=av Gf.ntmps 128 []
 [(8,lL R 9 10 11 70 127 R.deals.length R.faults.length R.proofs.length (R.a5.length+1) (R.shares.length+1) (bn++[.v (.int .i64 R.fault)])),(9,[.row cy R.deals.length R.deals]),(10,[.row cB R.faults.length R.faults]),(11,[.row cG R.proofs.length R.proofs]),(70,[.ints .i64 (R.a5.length+1) fl]),(127,[.row .fr (R.shares.length+1) a])]
def kpZ:St:=av Gf.ntmps 8 [] []
def eX (R:Rt) (d:Int) (x:Fr):Rt:=if d∈R.a5 then R else { R with a5:=R.a5++[d],shares:=R.shares++[x] }
theorem aaW (c:Nat->Option (Sigma aH)):Ob.ez Tryz.prog c 45 (fun z:Rt × Int × Fr=>[aB z.1.p,sI .i64 z.2.1,Yg z.2.2]) (fun z=>z.1.a5.length<1000000/\z.1.shares.length<1000000) (fun z=>bA z.1) (fun _ (_:Unit)=>.tup []) (fun z _=>bA (eX z.1 z.2.1 z.2.2)) (fun _ _=>True):=by refine Ob.c9 (sp:=yi) KV ab (fun z=>by show 3<=Gf.ntmps;exact Odt ab) (fun z _=>rfl) ?_;rintro⟨R,d,x⟩ ⟨i,j⟩ k g f;have i:R.a5.length<1000000:=i;have j:R.shares.length<1000000:=j;show Ob.aN _ _ (Ob.GH _ _ _ (bA R)) _ _ _;unfold bA;refine Ob.eK cd 1 (kpA R.p d x) ?_;refine Ob.gR [0] (kpB R d x) ?_;refine Ob.gcd cd 1 (fun b=>bo .bool 11 b) (fun q=>kpC R d x q) (fun q=>q=decide (d∈R.a5)) ?_ (fun q a=>?_);intros;refine @aq (0+R.a5.length<=R.a5.length/\law22.g8 (take R.a5.length R.a5,d,())/\(kpC R d x (decide (d∈take R.a5.length R.a5))).ah (decide (d∈take R.a5.length R.a5)=decide (d∈R.a5))) _ ?_ ?_;kernel_rfl;rw[aT];exact⟨aa,by show R.a5.length<_;omega,au rfl⟩;cases q;have e:¬ d∈R.a5:=Odf a.symm;refine Ob.e5 (ar (al Gf) 2) ?_;refine Ob.gcd cd 1 (fun b=>cT iK 70 b) (fun q=>kpD R x q) (fun q=>q=R.a5++[d]) ?_ (fun q a=>?_);intros;refine @aq (0+1<=1/\R.a5.length<=R.a5.length/\(R.a5.length+1)*8<=140737488355328/\R.a5.length+1<=4611686018427387904/\(kpD R x (take R.a5.length R.a5++take 1 [d])).ah (take R.a5.length R.a5++take 1 [d]=R.a5++[d])) _ ?_ ?_;kernel_rfl;refine⟨ae,aI _,aa,aa,au ?_⟩;rw[aT];rfl;subst a;refine Ob.gcd cd 1 (fun b=>cT .fr 127 b) (fun q=>kpE R (R.a5++[d]) q) (fun q=>q=R.shares++[x]) ?_ (fun q a=>?_);intros;refine @aq (0+1<=1/\R.shares.length<=R.shares.length/\(R.shares.length+1)*32<=140737488355328/\R.shares.length+1<=4611686018427387904/\(kpE R (R.a5++[d]) (take R.shares.length R.shares++take 1 [x])).ah (take R.shares.length R.shares++take 1 [x]=R.shares++[x])) _ ?_ ?_;kernel_rfl;refine⟨ae,aI _,aa,aa,au ?_⟩;rw[aT];rfl;subst a;refine Ob.fj (E:=p5 c k g f) (bl:=[lL R 1 2 3 4 5 R.deals.length R.faults.length R.proofs.length (R.a5.length+1) (R.shares.length+1) (bn++[.v (.int .i64 R.fault)]),[.row cy R.deals.length R.deals],[.row cB R.faults.length R.faults],[.row cG R.proofs.length R.proofs],[.ints .i64 (R.a5.length+1) (R.a5++[d])],[.row .fr (R.shares.length+1) (R.shares++[x])]]) [] [8,9,10,11,70,127] 9 kpZ ?_;refine Ob.gT cd mixed (.tup []) ?_ ⟨(),trivial,Ob.br _,?_⟩;intros;refine @aq (SV.tup []=SV.tup []) _ ?_ ?_;kernel_rfl;rfl;show _=bA (eX R d x);unfold eX;rw[ai e];unfold bA dE lL;simp only[a7,bN,eH,bO];have e:d∈R.a5:=Odt a.symm;refine Ob.fj (E:=p5 c k g f) (bl:=dE R (bn++[.v (.int .i64 R.fault)])) [] [8,9,10,11,12,13] 9 (kpN (aA true)) ?_;refine Ob.iu cd mixed (.tup []) ?_ ⟨(),trivial,Ob.br _,?_⟩;intros;refine @aq ((true=true->SV.tup []=SV.tup [])/\(true=false->False)) _ ?_ ?_;kernel_rfl;exact⟨fun _=>rfl,fun h=>by cases h⟩;show _=bA (eX R d x);unfold eX;rw[ak e];rfl
theorem MN:Tryz.prog.underlying 78=some (.pointer 120):=ab
theorem kM:enters Tryz.prog 35 Tryz.f35:=ek
abbrev rG:Func:=Tryz.f35
def idZ (p:Nat):St:=av rG.ntmps 8 [(0,aB p)] []
def idN:St:=av rG.ntmps 8 [(2,ag .F)] []
theorem xe:enters Tryz.prog 11 Tryz.f11:=ek
abbrev yX:Func:=Tryz.f11
def YJ (p:Nat):St:=av yX.ntmps 8 [(0,aB p)] []
def phY (p:Nat):St:=av yX.ntmps 8 [(0,aB p),(3,aB p)] []
def phN (q:Int):St:=av yX.ntmps 8 [(2,sI .i64 q)] []
def aiA (R:Rt):St:=av rG.ntmps 14 [(0,ao 8 0)] (hU R (bn++[.v (.int .i64 R.fault)]))
def aiC (R:Rt):St:=av rG.ntmps 14 [(0,ao 8 0),(5,ag .F),(9,aB R.hub)] (hU R (bn++[.v (.int .i64 R.fault)]))
def aiE (R:Rt):St:=av rG.ntmps 14 [(2,ag .F)] (hU R (bn++[.v (.int .i64 R.fault)]))
theorem Aa (a:Nat->Option (Sigma aH)):Ob.ez Tryz.prog a 35 (fun R:Rt=>[aB R.p]) (fun _=>True) (fun R=>bA R) (fun _ (_:Unit)=>aA false) (fun R _=>bA R) (fun _ _=>True):=by refine Ob.c9 (sp:=yi) kM ab (fun z=>by show 1<=rG.ntmps;exact Odt ab) (fun z _=>rfl) ?_;intro R _ d c b;unfold bA;refine Ob.eK cd 1 (idZ R.p) ?_;refine Ob.ep 1 (bC (ar (al rG) 1)) ?_;refine Ob.sQ (E:=p5 a d c b) [0] ab (aiA R) (ay ab ab trivial) ?_;refine Ob.dT cd 7 (aiC R) ?_;refine Ob.fI (Ob.fq (E:=(p5 a d c b).pinned 8 R.p) (sv:=fun _:Unit=>ag .F) (G2:=fun _=>Ob.aj.none) (J:=fun _=>True) ab ?_) (fun _ _=>?_);rw[show Ob.jl (bC (ar (al rG) 1)) 7=.binOp .eql 78 (.tmp 9) (.const (.pointer none)) 78 from by kernel_rfl];exact Ob.xu (p:=R.hub) MN ab ab;refine Ob.dT cd 10 (aiE R) (Ob.ei ?_);refine Ob.fj (E:=p5 a d c b) (bl:=dE R (bn++[.v (.int .i64 R.fault)])) [] [8,9,10,11,12,13] 9 idN ?_;exact Ob.sn cd (ag .F) ⟨(),trivial,Ob.rf,rfl⟩
def aiS (R:Rt):St:=av yX.ntmps 14 [(0,ao 8 0)] (hU R (bn++[.v (.int .i64 R.fault)]))
def aiU (R:Rt) (q:Int):St:=av yX.ntmps 14 [(2,sI .i64 q)] (hU R (bn++[.v (.int .i64 R.fault)]))
theorem Jw (a:Nat->Option (Sigma aH)):Ob.ez Tryz.prog a 11 (fun R:Rt=>[aB R.p]) (fun _=>True) (fun R=>bA R) (fun R (_:Unit)=>sI .i64 R.phase) (fun R _=>bA R) (fun _ _=>True):=by refine Ob.c9 (sp:=yi) xe ab (fun z=>by show 1<=yX.ntmps;exact Odt ab) (fun z _=>rfl) ?_;intro R _ d c b;refine Ob.eK cd 1 (YJ R.p) ?_;refine Ob.ep 1 (bC (ar (al yX) 1)) ?_;refine Ob.dT cd 1 (phY R.p) ?_;refine Ob.kj (E:=p5 a d c b) (Aa a) R trivial kM (fun _ _=>?_);refine Ob.ei ?_;refine Ob.e5 (ar (al yX) 2) ?_;refine Ob.fR (YJ R.p) ?_;unfold bA;refine Ob.gR [0] (aiS R) ?_;refine Ob.eK cd 1 (aiU R R.phase) ?_;refine Ob.fj (E:=p5 a d c b) (bl:=dE R (bn++[.v (.int .i64 R.fault)])) [] [8,9,10,11,12,13] 9 (phN R.phase) ?_;exact Ob.sn cd (sI .i64 R.phase) ⟨(),trivial,Ob.br _,rfl⟩
def aiz (R:Rt) (e:List Int × List Pt × Fr × List Int):St:=av rG.ntmps 14 [(0,ao 8 0)] (hU R (kL e++[.v (.int .i64 R.fault)]))
def aiB (R:Rt) (e:List Int × List Pt × Fr × List Int):St:=av rG.ntmps 14 [(0,ao 8 0),(5,ag .F),(9,aB R.hub)] (hU R (kL e++[.v (.int .i64 R.fault)]))
def aiD (R:Rt) (e:List Int × List Pt × Fr × List Int):St:=av rG.ntmps 14 [(2,ag .F)] (hU R (kL e++[.v (.int .i64 R.fault)]))
theorem ER (a:Nat->Option (Sigma aH)) (e:List Int × List Pt × Fr × List Int):Ob.ez Tryz.prog a 35 (fun R:Rt=>[aB R.p]) (fun _=>True) (fun R=>p4 R e) (fun _ (_:Unit)=>aA false) (fun R _=>p4 R e) (fun _ _=>True):=by refine Ob.c9 (sp:=yi) kM ab (fun z=>by show 1<=rG.ntmps;exact Odt ab) (fun z _=>rfl) ?_;intro R _ d c b;unfold p4;refine Ob.eK cd 1 (idZ R.p) ?_;refine Ob.ep 1 (bC (ar (al rG) 1)) ?_;refine Ob.sQ (E:=p5 a d c b) [0] ab (aiz R e) (ay ab ab trivial) ?_;refine Ob.dT cd 7 (aiB R e) ?_;refine Ob.fI (Ob.fq (E:=(p5 a d c b).pinned 8 R.p) (sv:=fun _:Unit=>ag .F) (G2:=fun _=>Ob.aj.none) (J:=fun _=>True) ab ?_) (fun _ _=>?_);rw[show Ob.jl (bC (ar (al rG) 1)) 7=.binOp .eql 78 (.tmp 9) (.const (.pointer none)) 78 from by kernel_rfl];exact Ob.xu (p:=R.hub) MN ab ab;refine Ob.dT cd 10 (aiD R e) (Ob.ei ?_);refine Ob.fj (E:=p5 a d c b) (bl:=dE R (kL e++[.v (.int .i64 R.fault)])) [] [8,9,10,11,12,13] 9 idN ?_;exact Ob.sn cd (ag .F) ⟨(),trivial,Ob.rf,rfl⟩
def aiR (R:Rt) (e:List Int × List Pt × Fr × List Int):St:=av yX.ntmps 14 [(0,ao 8 0)] (hU R (kL e++[.v (.int .i64 R.fault)]))
def aiT (R:Rt) (e:List Int × List Pt × Fr × List Int) (q:Int):St:=av yX.ntmps 14 [(2,sI .i64 q)] (hU R (kL e++[.v (.int .i64 R.fault)]))
theorem TD (a:Nat->Option (Sigma aH)) (e:List Int × List Pt × Fr × List Int):Ob.ez Tryz.prog a 11 (fun R:Rt=>[aB R.p]) (fun _=>True) (fun R=>p4 R e) (fun R (_:Unit)=>sI .i64 R.phase) (fun R _=>p4 R e) (fun _ _=>True):=by refine Ob.c9 (sp:=yi) xe ab (fun z=>by show 1<=yX.ntmps;exact Odt ab) (fun z _=>rfl) ?_;intro R _ d c b;refine Ob.eK cd 1 (YJ R.p) ?_;refine Ob.ep 1 (bC (ar (al yX) 1)) ?_;refine Ob.dT cd 1 (phY R.p) ?_;refine Ob.kj (E:=p5 a d c b) (ER a e) R trivial kM (fun _ _=>?_);refine Ob.ei ?_;refine Ob.e5 (ar (al yX) 2) ?_;refine Ob.fR (YJ R.p) ?_;unfold p4;refine Ob.gR [0] (aiR R e) ?_;refine Ob.eK cd 1 (aiT R e R.phase) ?_;refine Ob.fj (E:=p5 a d c b) (bl:=dE R (kL e++[.v (.int .i64 R.fault)])) [] [8,9,10,11,12,13] 9 (phN R.phase) ?_;exact Ob.sn cd (sI .i64 R.phase) ⟨(),trivial,Ob.br _,rfl⟩
end rite
end Go.Proofs.YtofofalgjibokaaGreatDoor
namespace Go.Eng
open Go.IntKind(i64)
open Go.IntKind(i64 u64)
open Go.IntKind(i64 u8)
open Go.IntKind(u8)
def ajf (id:Nat) (b:St):Option Nat:=match b.B id with
 | some a=>match a.getLast? with
  | some (.sl _ _ _ n _)=>some n
  | some (.v (.slice none 0 0))=>some 0
  | _=>none
 | _=>none
def rdT (id:Nat) (a:St):Nat:=Jx 0 (ajf id a)
def aje (d id:Nat) (b:St):Nat:=match b.B id with
 | some a=>match a.getLast? with
  | some (.sl i _ _ _ _)=>i
  | _=>d
 | _=>d
end Go.Eng
namespace Go.Proofs.YtofofalgjibokaaGreatDoor
namespace rite
open Go.IntKind(i64)
open Go.IntKind(i64 u64)
open Go.IntKind(i64 u8)
open Go.IntKind(u8)
set_option maxHeartbeats 4000000
open hub deal
abbrev bH:Kd:=.pair iK iJ
def dv (ms:List Hbm.aG):List (Int × Hbm.aG):=ms.map fun m=>(0,(m.1,0,m.2.2))
abbrev fM:SV:=ag (.v (.slice none 0 0))
theorem ZG:enters Tryz.prog 48 Tryz.f48:=ek
abbrev alF:Func:=Tryz.f48
def alA (ms:List Hbm.aG):St:=av alF.ntmps 8 [(3,fM),(6,ag (.ro iJ ms)),(7,sI .i64 ms.length),(8,sI .i64 0)] []
def XX (ms:List Hbm.aG) (g:Int × Nat × List (Int × Hbm.aG)):St:=av alF.ntmps 9 [(3,ag (.sl 8 0 0 g.2.1 8)),(6,ag (.ro iJ ms)),(7,sI .i64 ms.length),(8,sI .i64 g.1)] [(8,[.row bH g.2.1 g.2.2])]
theorem acG:aO Tryz.prog 48 [.sl iJ] [.own bH] bB (fun (ms,_)=>length ms<1048576) (fun (ms,_)=>(dv ms,())):=by
 have j:aJ Tryz.prog (aU []):=bD;refine bL (sp:=aU []) ZG ae ae ab ?_;rintro w q ⟨ms,⟨⟩⟩;revert ms;intro (ms:List Hbm.aG) _ o;have o:ms.length<1048576:=o;show Tr _ _ _ _ _ _ _;refine bh j mixed 3 (alA ms) True ?_ (fun _=>?_);refine aq (X:=((alA ms).ah True)) ab ?_;exact au trivial;refine Ob.AF 3 8 (.row bH 0 []) ab ?_;refine cl j mixed (fun d=>[(8,Mn 3 d)]) (fun d=>(bo iK 8 d,na 3 d,cT bH 8 d)) (XX ms) (fun g=>∃ k:Nat,k<=ms.length/\g.1=(k:Int)/\g.2.1=k/\g.2.2=dv (ms.take k)) (fun g=>ms.length-g.1.toNat)
  (fun d=>(bo iK 8 d,na 3 d,cT bH 8 d)) (XX ms) (fun g=>g.2.1=ms.length/\g.2.2=dv ms) (0,0,[]) (c:=ar (al alF) 3) ab ab (ay ab ab ?_) ?_ ?_
 exact⟨0,a8 _,rfl,rfl,rfl⟩
 ·rintro⟨i,n,l⟩ r;revert i n l;intro (i:Int) (n:Nat) (l:List (Int × Hbm.aG)) ⟨k,s,m,e,a⟩;have m:i=(k:Int):=m;have e:n=k:=e;subst e;subst m;refine @aq ((decide ((n:Int)<(ms.length:Int))=true->(0<=(n:Int)/\(n:Int)<(ms.length:Int))/\(n:Int).toNat<ms.length/\0+1<=1/\n<=n/\(n+1)*80<=140737488355328/\n+1<=4611686018427387904/\(XX ms (i64.wrap ((n:Int)+1),n+1,take n l++take 1 [(0,(ms.getD (n:Int).toNat (0,0,0,0,0,0,[])).fst,0,(ms.getD (n:Int).toNat (0,0,0,0,0,0,[])).snd.snd)])).ah ((∃ k,k<=ms.length/\i64.wrap ((n:Int)+1)=(k:Int)/\n+1=k/\take n l++take 1 [(0,(ms.getD (n:Int).toNat (0,0,0,0,0,0,[])).fst,0,(ms.getD (n:Int).toNat (0,0,0,0,0,0,[])).snd.snd)]=dv (take k ms))/\ms.length-(i64.wrap ((n:Int)+1)).toNat<ms.length-(n:Int).toNat))/\(decide ((n:Int)<(ms.length:Int))=false->(XX ms ((n:Int),n,l)).ah (n=ms.length/\l=dv ms))) _ ?_ ?_;kernel_rfl;have a:l=dv (ms.take n):=a;have f:l.length=n:=by rw[a,dv,bZ,c5];omega
  rw[aF,show take n l=l from by rw[<- f,aT]];refine⟨fun h=>?_,fun h=>au ?_⟩
  ·have b:n<ms.length:=by have:=dec_lt h;omega
   rw[aS aa];refine⟨⟨aa,aa⟩,b,ae,aI _,aa,aa,au ⟨⟨n+1,b,rfl,rfl,?_⟩,by rw[aF];omega⟩⟩;rw[a,cw b,dv,dv,di,a2,bu b];rfl
  ·have:n=ms.length:=by have:=bX h;omega
   rw[this,aT] at a;exact⟨this,a⟩
 ·rintro⟨i,n,l⟩ t;revert i n l;intro (i:Int) (n:Nat) (l:List (Int × Hbm.aG)) ⟨e,a⟩;have e:n=ms.length:=e;have a:l=dv ms:=a;have f:l.length=n:=by rw[a,e,dv,bZ]
  refine bJ j mixed _ _ ?_;refine @aq (0+n<=n/\(take n l,())=(dv ms,())) _ ?_ ?_;kernel_rfl;rw[show take n l=l from by rw[<- f,aT],a];exact⟨aa,rfl⟩
def RJ:Nat × Eng.Spec:=(48,aK [.sl iJ] [.val (.sl bH)] (fun (ms,_)=>length ms<1048576) (fun (ms,_)=>(dv ms,())))
theorem aen:nN Tryz.prog RJ.1 RJ.2:=aR acG.AR
def uf (t:Hbm.Told):Int × List Int:=(t.2.1,t.2.2)
theorem Sv:enters Tryz.prog 83 Tryz.f83:=ek
abbrev ftF:Func:=Tryz.f83
def ftA (bU:Int) (b:List Int):St:=av ftF.ntmps 41 [(2,ao 8 0),(3,ao 40 0),(10,ag (.ro (.int .u8) b)),(11,sI .i64 b.length),(12,sI .i64 0)] [(8,[.v (.int .i64 0),.v (.slice none 0 0)]),(40,[.v (.int .i64 bU),.v (.slice none 0 0)])]
def Yi (bU:Int) (b:List Int) (g:Int × Nat × List Int):St:=av ftF.ntmps 42 [(2,ao 8 0),(3,ao 40 0),(10,ag (.ro (.int .u8) b)),(11,sI .i64 b.length),(12,sI .i64 g.1)] [(8,[.v (.int .i64 0),.v (.slice none 0 0)]),(40,[.v (.int .i64 bU),.sl 41 0 0 g.2.1 1]),(41,[.ints .i64 g.2.1 g.2.2])]
theorem VT:aO Tryz.prog 83 [fu] [.val cB] bB (fun (t,_)=>length t.2.2<1048576/\Bs t.2.2) (fun (t,_)=>(uf t,())):=by
 have j:aJ Tryz.prog (aU []):=bD;refine bL (sp:=aU []) Sv ae ae ab ?_;rintro w y ⟨⟨r,bU,b⟩,⟨⟩⟩;revert r bU b;intro (r:Int) (bU:Int) (b:List Int) _ ⟨s,o⟩;have s:b.length<1048576:=s;have o:Bs b:=o;show Tr _ _ _ _ _ _ _;refine bh j mixed 3 (ftA bU b) True ?_ (fun _=>?_);refine aq (X:=((ftA bU b).ah True)) ab ?_;exact au trivial;refine Ob.PQ 40 (.ints .i64 0 []) [.v (.int .i64 bU),.v (.slice none 0 0)] [.v (.int .i64 bU),.sl 41 0 0 0 1] ab aw (fun K I x=>?_) ?_;obtain⟨E,F,rfl,u,G,H,rfl,⟨rfl,_⟩,rfl⟩:=x;exact⟨_,_,rfl,u,_,_,rfl,.inl ⟨rfl,rfl⟩,rfl⟩;refine cl j mixed (fun e=>[(41,aje 41 40 e)]) (fun e=>(bo iK 12 e,rdT 40 e,cT iK 41 e)) (Yi bU b) (fun g=>∃ k:Nat,k<=b.length/\g.1=(k:Int)/\g.2.1=k/\g.2.2=b.take k) (fun g=>b.length-g.1.toNat)
  (fun e=>(bo iK 12 e,rdT 40 e,cT iK 41 e)) (Yi bU b) (fun g=>g.2.1=b.length/\g.2.2=b) (0,0,[]) (c:=ar (al ftF) 3) ab ab (ay ab ab ?_) ?_ ?_
 exact⟨0,a8 _,rfl,rfl,rfl⟩
 ·rintro⟨i,n,l⟩ z;revert i n l;intro (i:Int) (n:Nat) (l:List Int) ⟨k,A,m,f,a⟩;have m:i=(k:Int):=m;have f:n=k:=f;subst f;subst m;refine @aq ((decide ((n:Int)<(b.length:Int))=true->(0<=(n:Int)/\(n:Int)<(b.length:Int))/\(n:Int).toNat<b.length/\0+1<=1/\n<=n/\(n+1)*8<=140737488355328/\n+1<=4611686018427387904/\(Yi bU b (i64.wrap ((n:Int)+1),n+1,take n l++take 1 [i64.wrap (b.getD (n:Int).toNat 0)])).ah ((∃ k,k<=b.length/\i64.wrap ((n:Int)+1)=(k:Int)/\n+1=k/\take n l++take 1 [i64.wrap (b.getD (n:Int).toNat 0)]=take k b)/\b.length-(i64.wrap ((n:Int)+1)).toNat<b.length-(n:Int).toNat))/\(decide ((n:Int)<(b.length:Int))=false->(Yi bU b ((n:Int),n,l)).ah (n=b.length/\l=b))) _ ?_ ?_;kernel_rfl;have a:l=b.take n:=a;have q:l.length=n:=by rw[a,c5];omega
  rw[aF,show take n l=l from by rw[<- q,aT]];refine⟨fun h=>?_,fun h=>au ?_⟩
  ·have d:n<b.length:=by have:=dec_lt h;omega
   rw[aS aa];refine⟨⟨aa,aa⟩,d,ae,aI _,aa,aa,au ⟨⟨n+1,d,rfl,rfl,?_⟩,by rw[aF];omega⟩⟩;have D:=o _ (dr d);rw[a,cw d,a2,bu d,cx,ba aa aa];rfl
  ·have:n=b.length:=by have:=bX h;omega
   rw[this,aT] at a;exact⟨this,a⟩
 rintro⟨i,n,l⟩ C;revert i n l;intro (i:Int) (n:Nat) (l:List Int) ⟨f,a⟩;have f:n=b.length:=f;have a:l=b:=a;refine bJ j mixed _ _ ?_;refine @aq (0+n<=n/\((bU,take n l),())=(uf (r,bU,b),())) _ ?_ ?_;kernel_rfl;rw[show take n l=l from by rw[a,f,aT],a];exact⟨aa,rfl⟩
def aby:Nat × Eng.Spec:=(83,aK [fu] [.val cB] (fun (t,_)=>length t.2.2<1048576/\Bs t.2.2) (fun (t,_)=>(uf t,())))
end rite
namespace fr
open Go.IntKind(i64)
open Go.IntKind(i64 u64)
open Go.IntKind(i64 u8)
open Go.IntKind(u8)
theorem vD:enters Tryz.prog 44 Tryz.f44:=ek
def CF (a:List Int):Fr × Int:=if a.length=32 then (if num a<Mr then (zm (num a),0) else (0,12)) else (0,10)
abbrev iB:HL [.sl (.int .u8)]->HO [.val .fr,.val (.int .i64)]:=fun (a,_)=>((CF a).1,(CF a).2,())
theorem vd:aO Tryz.prog 44 [.sl (.int .u8)] [.val .fr,.val (.int .i64)] bB (fun (a,_)=>Bs a) iB:=by
 refine bg (sp:=aU [zl,px,rj,tj,iC]) (aM (aR zL) (aM (aR ny) (aM (aR oY) (aM (aR sO) (aM (aR gN) bD))))) mixed vD ae ae ?_;rintro w k ⟨a,⟨⟩⟩ _ d;have d:Bs a:=d
 refine aq (X:=(((((a.length:Int) != 32)=true->(((0:Fr),10,())=iB (a,()))) /\
  (((a.length:Int) != 32)=false->pf (a,())/\True/\og (aY 4 (num a),ms,()) /\
   ((((if val (aY 4 (num a))<val ms then (1:Int) else 0)==0)=true->(((0:Fr),(12:Int),())=iB (a,()))) /\
    (((if val (aY 4 (num a))<val ms then (1:Int) else 0)==0)=false->True/\dB (enc (R2:Fr),aY 4 (num a),())/\Canon Mr (aY 4 (val (enc (R2:Fr))*val (aY 4 (num a))*rinv%M))/\((dec (aY 4 (val (enc (R2:Fr))*val (aY 4 (num a))*rinv%M)),(0:Int),())=iB (a,())))))))) ab ?_
 refine⟨fun h=>?_,fun h=>?_⟩
 ·have:¬ a.length=32:=by intro e;rw[e] at h;exact absurd h ae
  simp[iB,CF,this]
 ·have g:a.length=32:=by
   have:¬ ((a.length:Int)≠32):=by simpa using h
   omega
  have b:=Cs d;rw[g] at b;have j:bG 32=pw 4:=vY 4;have i:val (aY 4 (num a))=num a:=si b.1 (by rw[<- j];exact b.2);refine⟨⟨d,by show length a<=32;omega⟩,trivial,⟨jx _ _,pU⟩,fun h=>?_,fun h=>⟨trivial,⟨e4 _,jx _ _,(cI _).2.2⟩,?_⟩⟩
  ·rw[i,fQ] at h;have:¬ num a<Mr:=by intro f;rw[ak f] at h;exact absurd h ae
   simp[iB,CF,g,this]
  ·rw[i,fQ] at h;have:num a<Mr:=Decidable.byContradiction fun f=>by rw[ai f] at h;exact absurd h ae
   rw[show aY 4 (val (enc (R2:Fr))*val (aY 4 (num a))*rinv%M)=enc (zm (val (aY 4 (num a))):Fr) from ri (M:=Mr),i];refine⟨cI _,?_⟩;rw[dV];simp[iB,CF,g,this]
def ro (d:List Int):Fr × Int:=eR (CF d)
theorem aao:aO Tryz.prog 44 [.sl (.int .u8)] [.val .fr,.val (.int .i64)] bB (fun (a,_)=>Bs a) (fun (a,_)=>((ro a).1,(ro a).2,())):=vd.out fun (a,_)=>by show ((ro a).1,(ro a).2,())=((CF a).1,(CF a).2,());rw[ro,bm]
def Uo:Nat × Eng.Spec:=(44,aK [.sl (.int .u8)] [.val .fr,.val (.int .i64)] (fun (a,_)=>Bs a) (fun (a,_)=>((ro a).1,(ro a).2,())))
end fr
namespace rite
open Go.IntKind(i64)
open Go.IntKind(i64 u64)
open Go.IntKind(i64 u8)
open Go.IntKind(u8)
set_option maxHeartbeats 4000000
open Go.Proofs.YtofofalgjibokaaGreatDoor.hub Go.Proofs.YtofofalgjibokaaGreatDoor.deal
def CD (bU:Int) (b:List Int):List (Int × Int × Fr):=if (fr.ro ((b.drop 1).take 32)).2=0 then [(bU,b.getD 0 0,(fr.ro ((b.drop 1).take 32)).1)] else []
def p8 (bU:Int):Nat->List Int->List (Int × Int × Fr)
 | 0,_=>[]
 | n+1,b=>CD bU b++p8 bU n (b.drop 33)
def eV (t:Hbm.Told):List (Int × Int × Fr):=p8 t.2.1 (t.2.2.length/33) t.2.2
theorem JC (bU:Int):∀ (n:Nat) (b:List Int),p8 bU (n+1) b=p8 bU n b++CD bU (b.drop (33*n))
 | 0,b=>by simp[p8]
 | n+1,b=>by rw[p8,JC bU n (b.drop 33),p8,fF,cH];congr 4;omega
theorem Qv:enters Tryz.prog 84 Tryz.f84:=ek
abbrev pfF:Func:=Tryz.f84
abbrev DJ (t:Hbm.Told):List Cell:=[.v (.int .i64 t.1),.v (.int .i64 t.2.1),.ro (.int .u8) t.2.2]
def pfA (t:Hbm.Told):St:=av pfF.ntmps 8 [(1,ao 0 0),(3,fM),(4,ag (.ro (.int .u8) t.2.2))] [(0,DJ t)]
def TP (t:Hbm.Told) (g:List Int × Nat × List (Int × Int × Fr)):St:=av pfF.ntmps 9 [(1,ao 0 0),(3,ag (.sl 8 0 0 g.2.1 6)),(4,ag (.ro (.int .u8) g.1))] [(0,DJ t),(8,[.row cG g.2.1 g.2.2])]
theorem SR:aO Tryz.prog 84 [fu] [.own cG] bB (fun (t,_)=>length t.2.2<1048576/\Bs t.2.2) (fun (t,_)=>(eV t,())):=by
 have j:aJ Tryz.prog (aU [fr.Uo]):=aM (aR fr.aao) bD;refine bL (sp:=aU [fr.Uo]) Qv ae ae ab ?_;rintro w E ⟨⟨a,bU,b⟩,⟨⟩⟩;revert a bU b;intro (a:Int) (bU:Int) (b:List Int) _ ⟨z,x⟩;have z:b.length<1048576:=z;have x:Bs b:=x;show Tr _ _ _ _ _ _ _;refine bh j mixed 3 (pfA (a,bU,b)) True ?_ (fun _=>?_);refine aq (X:=((pfA (a,bU,b)).ah True)) ab ?_;exact au trivial;refine Ob.AF 3 6 (.row cG 0 []) ab ?_;refine cl j mixed (fun f=>[(8,Mn 3 f)]) (fun f=>(GL (.int .u8) 4 f,na 3 f,cT cG 8 f)) (TP (a,bU,b)) (fun g=>∃ k:Nat,33*k<=b.length/\g.1=b.drop (33*k)/\g.2.1=g.2.2.length/\g.2.2=p8 bU k b) (fun g=>g.1.length)
  (fun f=>(GL (.int .u8) 4 f,na 3 f,cT cG 8 f)) (TP (a,bU,b)) (fun g=>g.2.1=g.2.2.length/\g.2.2=eV (a,bU,b)) (b,0,[]) (c:=ar (al pfF) 3) ab ab (ay ab ab ?_) ?_ ?_
 exact⟨0,a8 _,rfl,rfl,rfl⟩
 ·rintro⟨c,n,l⟩ G;revert c n l;intro (c:List Int) (n:Nat) (l:List (Int × Int × Fr)) ⟨k,H,m,d,e⟩;have m:c=b.drop (33*k):=m;have d:n=l.length:=d;have e:l=p8 bU k b:=e;have o:Bs c:=by rw[m];exact yo x _
  have A:c.length=b.length-33*k:=by rw[m,gf]
  have C:l.length<=k:=by
   rw[e];have:∀ (k:Nat) (b:List Int),(p8 bU k b).length<=k:=by
    intro k;induction k with
    | zero=>intro b;exact aI _
    | succ k D =>
     intro b;rw[p8,a7];have F:=D (b.drop 33);have r:(CD bU b).length<=1:=by unfold CD;split<;>simp
     omega
   exact this k b
  have i:=JC bU k b;rw[<- m,<- e] at i;refine @aq ((decide ((c.length:Int)>=33)=true->((0:Int)<=1/\(1:Int)<=33/\33<=(c.length:Int))/\Bs (take 32 (drop 1 c))/\(((fr.ro (take 32 (drop 1 c))).snd==0)=true->((0:Int)<=0/\0<(c.length:Int))/\0<c.length/\0+1<=1/\n<=n/\(n+1)*48<=140737488355328/\n+1<=4611686018427387904/\((0:Int)<=33/\33<=(c.length:Int))/\(TP (a,bU,b) (take ((c.length:Int)-33).toNat (drop 33 c),n+1,take n l++take 1 [(bU,IntKind.i64.wrap (c.getD 0 0),((fr.ro (take 32 (drop 1 c))).fst,(fr.ro (take 32 (drop 1 c))).snd,()).fst)])).ah ((∃ k,33*k<=b.length/\take ((c.length:Int)-33).toNat (drop 33 c)=drop (33*k) b/\n+1=(take n l++take 1 [(bU,IntKind.i64.wrap (c.getD 0 0),(fr.ro (take 32 (drop 1 c))).fst)]).length/\take n l++take 1 [(bU,IntKind.i64.wrap (c.getD 0 0),(fr.ro (take 32 (drop 1 c))).fst)]=p8 bU k b)/\(take ((c.length:Int)-33).toNat (drop 33 c)).length<c.length))/\(((fr.ro (take 32 (drop 1 c))).snd==0)=false->((0:Int)<=33/\33<=(c.length:Int))/\(TP (a,bU,b) (take ((c.length:Int)-33).toNat (drop 33 c),n,l)).ah ((∃ k,33*k<=b.length/\take ((c.length:Int)-33).toNat (drop 33 c)=drop (33*k) b/\n=l.length/\l=p8 bU k b)/\(take ((c.length:Int)-33).toNat (drop 33 c)).length<c.length)))/\(decide ((c.length:Int)>=33)=false->(TP (a,bU,b) (c,n,l)).ah (n=l.length/\l=eV (a,bU,b)))) _ ?_ ?_;kernel_rfl;rw[show take n l=l from by rw[d,aT]];refine⟨fun h=>?_,fun h=>au ?_⟩
  ·have u:33<=c.length:=by have:=Odt h;omega
   have K:=o _ (dr (show 0<c.length by omega));have y:take ((c.length:Int)-33).toNat (drop 33 c)=b.drop (33*(k+1)):=by rw[bW (by rw[gf];omega),m,fF];congr 1
   have q:(take ((c.length:Int)-33).toNat (drop 33 c)).length<c.length:=by rw[c5,gf];omega
   refine⟨⟨aa,aa,aa⟩,C2 (yo o _) _,fun r=>?_,fun r=>?_⟩
   ·have s:(fr.ro ((c.drop 1).take 32)).2=0:=by simpa using r
    refine⟨⟨aa,aa⟩,aa,ae,aI _,aa,aa,⟨aa,aa⟩,au ⟨⟨k+1,aa,y,?_,?_⟩,q⟩⟩;rw[a7,d];rfl;rw[i,CD,ak s,a2,bu (show 0<c.length by omega),cx,ba aa aa];rfl
   ·have s:¬ (fr.ro ((c.drop 1).take 32)).2=0:=by simpa using r
    refine⟨⟨aa,aa⟩,au ⟨⟨k+1,aa,y,d,?_⟩,q⟩⟩;rw[i,CD,ai s,bw]
  ·refine⟨d,?_⟩;have u:c.length<33:=by have:=Odf h;omega
   rw[e,eV];congr 1;show k=b.length/33;omega
 rintro⟨c,n,l⟩ I;revert c n l;intro (c:List Int) (n:Nat) (l:List (Int × Int × Fr)) ⟨d,e⟩;have d:n=l.length:=d;have e:l=eV (a,bU,b):=e;refine bJ j mixed _ _ ?_;refine @aq (0+n<=n/\(take n l,())=(eV (a,bU,b),())) _ ?_ ?_;kernel_rfl;rw[show take n l=l from by rw[d,aT],e];exact⟨aa,rfl⟩
end rite
end Go.Proofs.YtofofalgjibokaaGreatDoor
namespace Go.Eng
open Go.IntKind(i64)
open Go.IntKind(i64 u64)
open Go.IntKind(i64 u8)
open Go.IntKind(u8)
theorem aO.ahY {P:Program} {f:FuncId} {a:List Kd} {e r:Kd} {G:fZ} {pre:HL a->Prop} {F:HL a->HO [.own e,.val r]} (h:aO P f a [.own e,.val r] G pre F):aO P f a [.val (.sl e),.val r] G pre F:=by intro w M U u D C k O;refine (h w M U u D C k O).mono ?_;rintro v X ⟨W,Z,R,⟨t,q,x,m,⟨V,i,y,A,z⟩⟩,H⟩;refine⟨W,none,R,⟨t,q,x,?_,⟨V,i,y,AI (fun _ h=>dd EU h) A,z⟩⟩,H⟩;show Rd (dt w.heap.size M none X) (.sl e) _ [t];rcases m with ⟨T,rfl⟩|⟨b,o,j,n,l,N,E,rfl,I,m,Q,c,d⟩;exact .inl ⟨T,none,0,rfl,fun _=>rfl⟩;rcases m with rfl|rfl;have s:=fS (fun _ _=>b6) d;obtain⟨g,Y,fr,K,_⟩:=c;refine .inr ⟨b,0,j,rfl,I,l++g,fun L=>?_,by rw[a7,s];omega,?_⟩;unfold dt;rw[ai aw,ak E];exact kF K L;rw[gL,<- s,lz];exact ee (fun _ _ h=>dd EU h) d;rfl;exact .inl ⟨dM aa,some ⟨b,o,none⟩,0,by rw[show (F u).1.length=0 by omega],fun h=>by cases h⟩
