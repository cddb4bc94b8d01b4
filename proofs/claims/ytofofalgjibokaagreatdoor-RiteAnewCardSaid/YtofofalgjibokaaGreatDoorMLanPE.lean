import Derived.Ground.Names2Prog
import Derived.Shelf.Slices.CompactI
import Derived.Shelf.SlGeneric
import Derived.Shelf.Spec.SlicesGrow
import Derived.Test.YtofofalgjibokaaGreatDoorMLanPD
set_option maxRecDepth 100000
set_option maxHeartbeats 4000000
noncomputable section
open List(all_eq_true drop length mem_cons mem_map mem_range range replicate take)
open Nat(beq ble blt)
open Option(isSome)
open Int(toNat)
/- A rite: prove. Printed by tools/gen_rt10.py. -/
namespace Go.Proofs.YtofofalgjibokaaGreatDoor
namespace rite
open Go.IntKind(i64 u8)
open Go.Eng Go.RowKit Cr bf deal Go.Eng.Ob Go.Proofs.Tryz
open Go.Hbn(dd a8 ez)
def tn(t a:Int)(f:Int×LI):Bool:=f.1==t&&decide (a∈f.2)
def IE(a:List (Int×LI)):Prop:=a.length<2^62/\∀f∈a,f.2.length<2^62
theorem afn:aF au 69 f69:=ek
theorem Xq:bu au 69 [dZ,.ptr iK,.ptr (.ptr iK)] [.val .bool] cx (λ(f,_,_,_)=>length (Prod.snd f:LI)<2^62) (λ(f,t,a,_)=>(tn t a f,())):=by refine bH (aV (a2 law22.kZ) bY) ao afn ae ae ?_;rintro w d ⟨⟨f1,f2⟩,t,a,⟨⟩⟩;revert f1 f2 t a;intro f1 f2 t a _ b;have b:=b;refine @av (0<[t].length/\((f1==t)=true->0<[a].length/\0<[a].length/\law22.lb (f2,a,())/\(decide (a∈f2),())=(tn t a (f1,f2),()))/\((f1==t)=false->(false,())=(tn t a (f1,f2),()))) _ ?_ ?_;kernel_rfl;refine⟨oV,λh=>⟨oV,oV,b,?_⟩,λh=>?_⟩;show(decide (a∈f2),())=(f1==t&&decide (a∈f2),());rw[h];rfl;show(false,())=(f1==t&&decide (a∈f2),());rw[h];rfl
def al1:=aZ Xq
abbrev Nk:Kd:=.cap (.cap (.fn 69) iK) (.ptr iK)
theorem afp:aF au 111 f111:=ek
def VM(a:List (Int×LI))(t b:Int)(g:Int):St:=ay f111.ntmps 32 [(0,ag (.ro dZ a)),(1,ag (.fv Nk (((),t),b))),(7,sJ a.length),(8,sJ g)] []
theorem aii:bu au 111 [.sl dZ,Nk] [.val iK] cx (λ(a,((_,_),_),_)=>IE a) (λ(a,((_,t),b),_)=>(eY (tn t b) a,())):=by
 have e:=aV (a2 Xq) bY;refine cu (sp:=bw [al1]) afp ae ae ab ?_;rintro w r ⟨a,⟨⟨⟨⟩,t⟩,b⟩,⟨⟩⟩;revert a t b;intro a b t _ ⟨o,n⟩;have o:=o;have n:=n;refine bN e ao 2 (VM a t b 0) True ?_ (λ_=>?_);refine av (X:=((VM a t b 0).aj True)) ab ?_;exact aw trivial;refine c2 e ao jH (λq=>bL (.int .i64) 8 q) (VM a t b) (λg=>∃k:Nat,k<=a.length/\g=k/\k<=a.findIdx (tn t b)) (λg=>a.length-g.toNat)
  (λ_=>()) (λ_=>ay f111.ntmps 32 [] []) (λ_=>a.length<=a.findIdx (tn t b)) 0 (c:=ar (aq f111) 2) ab ab (aB ab ab ?_) ?_ ?_
 exact⟨0,aY _,rfl,aY _⟩
 ·intro i ⟨k,s,p,j⟩;subst p;refine @av ((decide ((k:Int)<(a.length:Int))=true->(0<=(k:Int)/\(k:Int)<(a.length:Int))/\(k:Int).toNat<a.length/\(a.getD (k:Int).toNat (0,[])).snd.length<2^62/\(tn t b (a.getD (k:Int).toNat (0,[]))=true->((k:Int),())=(eY (tn t b) a,()))/\(tn t b (a.getD (k:Int).toNat (0,[]))=false->(VM a t b (i64.wrap ((k:Int)+1))).aj ((∃f,f<=a.length/\i64.wrap ((k:Int)+1)=(f:Int)/\f<=List.findIdx (tn t b) a)/\a.length-(i64.wrap ((k:Int)+1)).toNat<a.length-(k:Int).toNat)))/\(decide ((k:Int)<(a.length:Int))=false->(ay f111.ntmps 32 [] []).aj (a.length<=List.findIdx (tn t b) a))) _ ?_ ?_;kernel_rfl;rw[aJ];refine⟨λh=>?_,λh=>aw (by have:=cL h;omega)⟩;have d:k<a.length:=by have:=cM h;omega
  have m:(a.getD k ((0:Int),[])).2.length<2^62:=by rw[bx,bO d];exact n _ (de d)
  rw[a5 aa];refine⟨⟨aa,aa⟩,d,m,λl=>?_,λl=>aw ⟨⟨k+1,d,rfl,tf ((0:Int),[]) d j (l)⟩,by rw[aJ];omega⟩⟩;show((k:Int),())=(eY _ a,());rw[xH ((0:Int),[]) d j (l)]
 rintro⟨⟩ (j:_<=_);refine cq e ao _ _ ?_;refine @av (((-1:Int),())=(eY (tn t b) a,())) _ ?_ ?_;kernel_rfl;rw[ve j]
theorem afo:aF au 68 f68:=ek
def m4(a:List (Int×LI))(t d:Int):Bool:=gA (a.any (tn t d))
theorem aih:bu au 68 [.sl dZ,Nk] [.val .bool] cx (λ(a,((_,_),_),_)=>IE a) (λ(a,((_,t),b),_)=>(m4 a t b,())):=by
 refine bH (aV (a2 aii) bY) ao afo ae ae ?_;rintro w e⟨a,⟨⟨⟨⟩,t⟩,b⟩,⟨⟩⟩;revert a t b;intro a b t _ d;refine @av (IE a/\(decide (eY (tn t b) a>=0),())=(m4 a t b,())) _ ?_ ?_;kernel_rfl;refine⟨d,?_⟩;show(decide ((if a.findIdx (tn t b)<a.length then((a.findIdx (tn t b):Nat):Int)else -1)>=0),())=(m4 a t b,());rw[m4,bq];by_cases h:a.findIdx (tn t b)<a.length;·simp_all
 ·have c:a.any (tn t b)=false:=by
   grind
  rw[ai h,c];rfl
def al2:Nat×Eng.Spec:=(68,QV 10 (mJ [.sl dZ,Nk] [.val .bool] (λ(a,((_,_),_),_)=>IE a) (λ(a,((_,t),b),_)=>(m4 a t b,()))))
def lZ(R:Rt)(a:LI):LI:=a.flatMap λt=>if m4 R.aU t R.me then u8.wrap t::fr.lp (poly.pat R.bB t)else []
theorem TE(R:Rt)(a b:LI):lZ R (a++b)=lZ R a++lZ R b:=by rw[lZ,List.flatMap_append];rfl
theorem TF(R:Rt)(t:Int):lZ R [t]=if m4 R.aU t R.me then u8.wrap t::fr.lp (poly.pat R.bB t)else []:=by rw[lZ,List.flatMap_cons,List.flatMap_nil,bF]
theorem Lb(R:Rt):∀a:LI,(lZ R a).length<=33*a.length
 |[]=>aQ _
 |t::a=>by have h:=TE R [t] a;rw[List.singleton_append]at h;rw[h,bA,TF,cP];have:=Lb R a;split;rw[cP,xE];omega;rw[jj];omega
theorem Xf(x:Fr):Bs (fr.lp x):=by rw[fr.lp,bq];exact zB _ _
theorem Qf(R:Rt)(d:LI):Bs (lZ R d):=by intro x a;obtain⟨t,_,h⟩:=List.mem_flatMap.1 a;split at h;rcases mem_cons.1 h with h|h;rw[h];exact J5 t;exact Xf _ x h;cases h
theorem LZ:aF au 38 f38:=ek
abbrev r3:Func:=f38
abbrev abV:=bw [poly.ack,Qz,al2]
theorem iC:aS au abV:=aV (a2 poly.Nl) (aV (a2 Ep) (aV (ZF aih rfl 10) bY))
abbrev VV(R:Rt)(t:cb):e5:=[(10,ny R 11 12 13 14 15 R.aG.length R.aU.length R.aM.length R.aK.length R.br.length t),(11,[.row ed R.aG.length R.aG]),(12,[.row dZ R.aU.length R.aU]),(13,[.row dX R.aM.length R.aM]),(14,[.ints .i64 R.aK.length R.aK]),(15,[.row .fr R.br.length R.br])]
abbrev pvC:Code:=ar (aq r3) 5
abbrev YM:cw:=cg (ar (aO pvC) 2)
abbrev ajP(a:LI)(k:Int)(n:Nat):g9:=[(1,al 8 0),(3,ag (.sl 9 0 0 n 1)),(15,ag (.ro iK a)),(16,sJ a.length),(17,sJ k)]
def qw(p:Nat)(f:LI)(k:Int)(n:Nat)(l:LI)(e:Nat)(d:g9)(a:e5):St:=ay r3.ntmps e (ajP f k n++d) ((8,[.v (pt p)])::(9,[.ints .u8 n l])::a)
def ML(R:Rt)(c:ax)(e:LI)(k:Int)(n:Nat)(l:LI)(d:Nat)(b:g9)(a:e5):St:=ay r3.ntmps d (ajP e k n++b) ((8,[c])::(9,[.ints .u8 n l])::a++VV R (b7++[vI R.bb]))
abbrev bT(t:Int):e5:=[(0,[vI t])]
abbrev sT:g9:=[(5,al 0 0)]
section
variable (gl:dF)[W3]
abbrev GD:cJ:=mO au abV gl
abbrev HN:=GH (GD gl) r3.ntmps
theorem ao9(R:Rt)(m:R.aU.length<1000000/\∀f∈R.aU,f.2.length<1000000)(a:LI)(k:Nat)(o:k<a.length)(l:LI)(t:Int)(i:t=a.getD k 0)(G:ak){n r:aA}{x:Nat->aA}(h:aR au (YM.drop 3) (HN gl (qw R.p a k l.length l 10 (sT++[(6,aD (m4 R.aU t R.me)),(27,aD (m4 R.aU t R.me))]) (bT t)) (ak.sep (bV R) G)) n r x):
  aR au YM (HN gl (qw R.p a k l.length l 10 [] []) (ak.sep (bV R) G)) n r x:=by
 refine lP iC ao 1 [(0,26)] (λe=>bL iK 20 e) (λq=>qw R.p a k l.length l 10 sT (bT q)) (λq=>q=a.getD k 0) (λ_=>False) (λ_ _=>False) ?_ (λq g=>?_) (λ_ _ _ h _=>h.elim) (λ_ _ _ _ h _=>h.elim);intros;refine @av ((0<=(k:Int)/\(k:Int)<(a.length:Int))/\(k:Int).toNat<a.length/\(qw R.p a (k:Int) l.length l 10 sT (bT (a.getD (k:Int).toNat 0))).aj (a.getD (k:Int).toNat 0=a.getD k 0)) _ ?_ ?_;kernel_rfl;rw[aJ];exact⟨⟨aa,aa⟩,o,aw rfl⟩;rw[<-i]at g;subst g;refine a7 (by unfold bV;exact(bZ _ _ _).symm) ?_;refine jJ [] (ML R (.v (pt R.p)) a k l.length l 16 sT (bT q)) ?_;refine Hm (E:=(GD gl).cV 10 R.p) 10 R.p 8 az ab ?_;refine fh (ML R (.ptr 10 0) a k l.length l 16 sT (bT q)) ?_;refine gcd iC 1 (λe=>bL .bool 6 e) (λb=>ML R (.ptr 10 0) a k l.length l 16 (sT++[(6,aD b)]) (bT q)) (λb=>b=m4 R.aU q R.me) ?_ (λb j=>?_);intros;refine @av (0+R.aU.length<=R.aU.length/\IE (take R.aU.length R.aU)/\(ML R (ax.ptr 10 0) a (k:Int) l.length l 16 (sT++[(6,aD (m4 (take R.aU.length R.aU) q R.me,()).fst)]) (bT q)).aj (m4 (take R.aU.length R.aU) q R.me=m4 R.aU q R.me)) _ ?_ ?_;kernel_rfl;rw[bg];exact⟨aa,⟨aa,λf d=>by have:=m.2 f d;omega⟩,aw rfl⟩;subst j;refine Ck 10 R.p 8 az ab ?_;refine gQ (E:=(GD gl)) (bl:=hI R (b7++[vI R.bb])) [8,9,0] [10,11,12,13,14,15] 11 (qw R.p a k l.length l 10 (sT++[(6,aD (m4 R.aU q R.me))]) (bT q)) ?_;refine a7 (G':=ak.sep (bV R) G) (by unfold bV;exact bZ _ _ _) ?_;refine e6 iC 1 (qw R.p a k l.length l 10 (sT++[(6,aD (m4 R.aU q R.me)),(27,aD (m4 R.aU q R.me))]) (bT q)) ?_;exact h
theorem apa(R:Rt)(m:R.bB.length<1000)(a:LI)(k:Nat)(l:LI)(j:l.length<100000)(t:Int)(i:gb t)(G:ak){n r:aA}{x:Nat->aA}(h:aR au [] (HN gl (qw R.p a k (l.length+33) (l++(u8.wrap t::fr.lp (poly.pat R.bB t))) 10 [] []) (ak.sep (bV R) G)) n r x):
  aR au (YM.drop 3) (HN gl (qw R.p a k l.length l 10 (sT++[(6,aD true),(27,aD true)]) (bT t)) (ak.sep (bV R) G)) n r x:=by
 refine jX (ar YM 3) ?_;refine a7 (by unfold bV;exact(bZ _ _ _).symm) ?_;refine jJ [] (ML R (.v (pt R.p)) a k l.length l 16 sT (bT t)) ?_;refine Hm (E:=(GD gl).cV 10 R.p) 10 R.p 8 az ab ?_;refine fh (ML R (.ptr 10 0) a k l.length l 16 sT (bT t)) ?_;refine gcd iC 1 (λ_=>()) (λ_=>ML R (.ptr 10 0) a k l.length l 73 (sT++[(7,al 72 0)]) (bT t++[(72,[.ints .u8 32 (fr.lp (poly.pat R.bB t))])])) (λ_=>True) ?_ (λ_ _=>?_);intros;refine @av (poly.Ns (R.bB,t,())/\True/\(ML R (ax.ptr 10 0) a (k:Int) l.length l 73 (sT++[(7,SV.is (TV.one (ax.ptr 72 0)))]) (bT t++[(72,[ax.ints u8 32 (fr.lp (poly.pat R.bB t))])])).aj True) _ ?_ ?_;kernel_rfl;exact⟨⟨aa,i⟩,trivial,aw trivial⟩;refine Ck 10 R.p 8 az ab ?_;refine gQ (E:=(GD gl)) (bl:=hI R (b7++[vI R.bb])) [8,9,0,72] [10,11,12,13,14,15] 11 (qw R.p a k l.length l 73 (sT++[(7,al 72 0)]) (bT t++[(72,[.ints .u8 32 (fr.lp (poly.pat R.bB t))])])) ?_;refine a7 (G':=ak.sep (bV R) G) (by unfold bV;exact bZ _ _ _) ?_;refine Eu iC 0 [(1,72)] (qw R.p a k l.length l 10 (sT++[(7,al 1 0)]) (bT t++[(1,[.ints .u8 32 (fr.lp (poly.pat R.bB t))])])) ?_;generalize f:fr.lp (poly.pat R.bB t)=S at h;have g:S.length=32:=by rw[<-f];exact xE _
 refine lP iC ao 1 [(9,42)] (λe=>dO (.int .u8) 9 e) (λb=>qw R.p a k (l.length+1) b 10 [(7,al 1 0)] [(1,[.ints .u8 32 S])]) (λb=>b=l++[u8.wrap t]) (λ_=>False) (λ_ _=>False) ?_ (λb d=>?_) (λ_ _ _ h _=>h.elim) (λ_ _ _ _ h _=>h.elim);intros;refine @av (0+1<=1/\l.length<=l.length/\(l.length+1)*1<=2^47/\l.length+1<=2^62/\(qw R.p a (k:Int) (l.length+1) (take l.length l++take 1 [u8.wrap t]) 10 [(7,SV.is (TV.one (ax.ptr 1 0)))] [(1,[ax.ints u8 32 S])]).aj (take l.length l++take 1 [u8.wrap t]=l++[u8.wrap t])) _ ?_ ?_;kernel_rfl;refine⟨ae,aQ _,aa,aa,aw ?_⟩;rw[bg];rfl;subst d;refine lP iC ao 1 [(9,26)] (λe=>dO (.int .u8) 9 e) (λb=>qw R.p a k (l.length+33) b 10 [] []) (λb=>b=l++(u8.wrap t::S)) (λ_=>False) (λ_ _=>False) ?_ (λb d=>?_) (λ_ _ _ h _=>h.elim) (λ_ _ _ _ h _=>h.elim);intros;refine @av (0+32<=32/\l.length+1<=l.length+1/\(l.length+1+32)*1<=2^47/\l.length+1+32<=2^62/\(qw R.p a (k:Int) (l.length+33) (take (l.length+1) (l++[u8.wrap t])++take 32 S) 10 [] []).aj (take (l.length+1) (l++[u8.wrap t])++take 32 S=l++u8.wrap t::S)) _ ?_ ?_;kernel_rfl;refine⟨ae,aQ _,aa,aa,aw ?_⟩;rw[cA az,cA aa,cZ];rfl;subst d;exact h
theorem abW(R:Rt)(s:R.bB.length<1000)(o:R.aU.length<1000000/\∀f∈R.aU,f.2.length<1000000)(a:LI)(l:∀x∈a,gb x)(u:a.length<1000)(k:Nat)(g:k<a.length)(G:ak){r:aA}{x:Nat->aA}:
  aR au ((aO pvC).drop 2) (HN gl (qw R.p a k (lZ R (a.take k)).length (lZ R (a.take k)) 10 [] []) (ak.sep (bV R) G)) (HN gl (qw R.p a ((k+1:Nat):Int) (lZ R (a.take (k+1))).length (lZ R (a.take (k+1))) 10 [] []) (ak.sep (bV R) G)) r x:=by
 have e:a.take (k+1)=a.take k++[a.getD k 0]:=by rw[dA g,bx,bO g];rfl
 have j:gb (a.getD k 0):=by rw[bx,bO g];exact l _ (de g)
 rw[e,TE,TF];have i:=Lb R (a.take k);rw[c6]at i;generalize lZ R (a.take k)=L at i;generalize d:(if m4 R.aU (a.getD k 0) R.me then u8.wrap (a.getD k 0)::fr.lp (poly.pat R.bB (a.getD k 0))else [])=D;refine dC (E:=(GD gl)) (c:=ar (aO pvC) 2) (HN gl (qw R.p a k (L++D).length (L++D) 10 [] []) (ak.sep (bV R) G)) ab ab ?_ ?_
 ·refine ao9 gl R o a k g L (a.getD k 0) rfl G ?_;cases m:m4 R.aU (a.getD k 0) R.me;rw[m]at d;have d:D=[]:=d.symm;subst d;rw[bF];refine fF (ar YM 3) ?_;refine fh (qw R.p a k L.length L 10 [] []) ?_;exact cv λ_ _ h=>h
  ·rw[m]at d;have d:D=u8.wrap (a.getD k 0)::fr.lp (poly.pat R.bB (a.getD k 0)):=d.symm;refine apa gl R s a k L aa (a.getD k 0) j G ?_;have n:(L++D).length=L.length+33:=by rw[d,bA,cP,xE]
   rw[n,<-d];exact cv λ_ _ h=>h
 refine gcd iC 1 (λw=>bL iK 17 w) (λq=>qw R.p a q (L++D).length (L++D) 10 [] []) (λq=>q=((k+1:Nat):Int)) ?_ (λq t=>?_);intros;refine @av ((qw R.p a (i64.wrap ((k:Int)+1)) (L++D).length (L++D) 10 [] []).aj (i64.wrap ((k:Int)+1)=(↑(k+1):Int))) _ ?_ ?_;kernel_rfl;exact aw (a5 aa);subst t;exact cv λ_ _ h=>h
end
def ug(z:dR):SayIn:=⟨z.R,z.H,3,lZ z.R z.R.aL⟩
def hO(z:dR)(q:eI):List (Int×aP):=if z.R.me∈z.R.aE then dj (iN (ug z) q)else []
def r4(z:dR)(q:eI):dR:=if z.R.me∈z.R.aE then⟨oe (ug z) q,qn (ug z) q⟩else z
def aoZ(p:Nat):St:=ay r3.ntmps 9 [(1,al 8 0)] [(8,[.v (pt p)])]
def ao6(R:Rt):St:=ay r3.ntmps 14 [(0,al 8 0)] (kG R (b7++[vI R.bb]))
def ao7(R:Rt):St:=ay r3.ntmps 15 [(1,al 14 0)] ((14,[.ptr 8 0])::kG R (b7++[vI R.bb]))
def ao8(p:Nat):St:=ay r3.ntmps 15 [(1,al 14 0)] [(14,[.v (pt p)])]
def ao0(p:Nat):St:=ay r3.ntmps 9 [(1,al 8 0),(8,aT p)] [(8,[.v (pt p)])]
def ajN(p:Nat)(q:Bool):St:=ay r3.ntmps 9 [(1,al 8 0),(10,aD q)] [(8,[.v (pt p)])]
def ao1(p:Nat):St:=ay r3.ntmps 9 [(1,al 8 0),(3,gv)] [(8,[.v (pt p)])]
def ajO(R:Rt)(c:ax):St:=ay r3.ntmps 15 [(1,al 8 0),(3,gv)] ((8,[c])::E7 R (b7++[vI R.bb]))
def ao2(R:Rt)(c:ax):St:=ay r3.ntmps 15 [(1,al 8 0),(3,gv),(15,ag (.ro iK R.aL)),(16,sJ R.aL.length),(17,sJ 0)] ((8,[c])::E7 R (b7++[vI R.bb]))
def ao3(p:Nat)(a:LI):St:=ay r3.ntmps 9 [(1,al 8 0),(3,gv),(15,ag (.ro iK a)),(16,sJ a.length),(17,sJ 0)] [(8,[.v (pt p)])]
def ao4(p:Nat)(l:LI):St:=ay r3.ntmps 9 [(1,al 8 0),(3,nF l)] [(8,[.v (pt p)])]
def ao5(p:Nat)(l:LI):St:=ay r3.ntmps 8 [(44,aT p),(45,nF l)] []
theorem abC(gl:dF):fk au gl 38 (λz:dR=>[aT z.R.p]) dR.ok dR.eF (λz q=>ag (.ro cl (hO z q))) (λz q=>(r4 z q).eF) (λ_ _=>True):=by
 refine dD (sp:=abV) LZ ab (λz=>Odt ab) (λz _=>rfl) ?_;rintro⟨R,H⟩ ⟨c,n,a⟩ _;have a:fm c R H:=a;have g:=a.tk;have f:=a.bB;have j:=a.aU;show aR _ _ (GH _ _ _ (ak.sep (bV R) (bX H))) _ _ _;refine a7 (by unfold bV;exact(bZ _ _ _).symm) ?_;refine ais 8 ab ?_;refine jJ [0] (ao6 R) ?_;refine e6 iC 1 (ao7 R) ?_;refine Ck 8 R.p 14 az ab ?_;refine gQ (E:=(GD gl)) (bl:=hI R (b7++[vI R.bb])) [14] [8,9,10,11,12,13] 9 (ao8 R.p) ?_;refine a7 (G':=ak.sep (bV R) (bX H)) (by unfold bV;exact bZ _ _ _) ?_;refine Eu iC 0 [(8,14)] (aoZ R.p) ?_;refine eX 1 (bS (ar (aq r3) 1)) ?_;refine eG iC 1 (ao0 R.p) ?_;refine ju (cT (λ_=>bX H) (MB gl)) R a.dl B9 (λ_ _=>?_);refine iS iC 3 (λm=>bL .bool 10 m) (λq=>ajN R.p q) (λq=>q=!decide (R.me∈R.aE)) ?_ (λq e=>eK ?_);intros;refine @av ((ajN R.p !decide (R.me∈R.aE)).aj ((!decide (R.me∈R.aE))=!decide (R.me∈R.aE))) _ ?_ ?_;kernel_rfl;exact aw rfl;cases q
 ·have d:R.me∈R.aE:=by
   have:decide (R.me∈R.aE)=true:=by cases h:decide (R.me∈R.aE)with|true=>rfl|false=>rw[h]at e;cases e
   exact Odt this
  refine fF (ar (aq r3) 2) ?_;refine a7 (by unfold bV;exact(bZ _ _ _).symm) ?_;refine e6 iC 1 (ao1 R.p) ?_;refine jJ [] (ajO R (.v (pt R.p))) ?_;refine Hm (E:=(GD gl).cV 9 R.p) 9 R.p 8 az ab ?_;refine fh (ajO R (.ptr 9 0)) ?_;refine e6 iC 1 (ao2 R (.ptr 9 0)) ?_;refine Ck 9 R.p 8 az ab ?_;refine gQ (E:=(GD gl)) (bl:=hI R (b7++[vI R.bb])) [8] [9,10,11,12,13,14] 10 (ao3 R.p R.aL) ?_;refine a7 (G':=ak.sep (bV R) (bX H)) (by unfold bV;exact bZ _ _ _) ?_;refine ta 3 1 (.ints .u8 0 []) ab ?_;refine fh (qw R.p R.aL 0 0 [] 10 [] []) ?_;refine xG iC ao (c:=pvC) (λk=>qw R.p R.aL k (lZ R (R.aL.take k)).length (lZ R (R.aL.take k)) 10 [] []) (λk=>ak.sep (bV R) (bX H)) R.aL.length ab ab (λk i w ids M num=>?_) (λk i=>?_) ?_;refine av (X:=((decide ((k:Int)<(R.aL.length:Int))=true->(qw R.p R.aL (k:Int) (lZ R (take k R.aL)).length (lZ R (take k R.aL)) 10 [] []).aj (k<R.aL.length))/\(decide ((k:Int)<(R.aL.length:Int))=false->(qw R.p R.aL (k:Int) (lZ R (take k R.aL)).length (lZ R (take k R.aL)) 10 [] []).aj (k=R.aL.length)))) ab ?_;exact⟨λh=>aw (by have:=cM h;omega),λh=>aw (by have:=cL h;omega)⟩;exact abW gl R f ⟨aa,a.whom⟩ R.aL a.tI g k i (bX H);rw[bg];have l:=Lb R R.aL;refine sq 3 9 (lZ R R.aL).length 1 .u8 (lZ R R.aL) ab ab rfl ?_;refine fh (ao4 R.p (lZ R R.aL)) ?_;refine eX 13 (bS (ar (aq r3) 6)) ?_;refine eG iC 2 (ao5 R.p (lZ R R.aL)) ?_;refine ju (E:=(GD gl)) (Py gl) ⟨R,H,3,lZ R R.aL⟩ ⟨a.bf,Qf R _,(by omega:(lZ R R.aL).length<1048576),a.hp,a.Ik aa⟩ sZ (λq _=>?_);refine eG iC 4 (ay r3.ntmps 8 [(2,ag (.ro cl (dj (iN ⟨R,H,3,lZ R R.aL⟩ q))))] []) (eK ?_);refine iU iC ao _ ?_ ⟨q,trivial,bR _,?_⟩;intros;refine @av (SV.is (TV.one (ax.ro cl (dj (iN {R:=R,H:=H,tp:=3,b:=lZ R R.aL} q))))=SV.is (TV.one (ax.ro cl (hO {R:=R,H:=H} q)))) _ ?_ ?_;kernel_rfl;unfold hO;rw[ah d];rfl;unfold r4;rw[ah d];rfl
 ·have d:¬R.me∈R.aE:=by
   have:decide (R.me∈R.aE)=false:=by cases h:decide (R.me∈R.aE)with|false=>rfl|true=>rw[h]at e;cases e
   exact Odf this
  refine jX (ar (aq r3) 2) ?_;refine jy iC ao gv ?_ ⟨(0,0,0),trivial,?_,?_⟩;intros;refine @av (SV.is (TV.one (ax.v (Value.slice none 0 0)))=gv) _ ?_ ?_;kernel_rfl;rfl;unfold hO;rw[ai d];exact BB cl;unfold r4;rw[ai d]
end rite
end Go.Proofs.YtofofalgjibokaaGreatDoor
open Go.IntKind(i64 u8)
/- A rite: total. Printed by tools/gen_rt11.py. -/
namespace Go.Proofs.YtofofalgjibokaaGreatDoor
namespace rite
open Go.Eng Go.RowKit Cr bf deal Go.Eng.Ob
open Go.Hbn(dd a8 ez)
def e8(R:Rt)(a:LI):LI:=a.filter λd=>(c4 R d).2
def e9(R:Rt)(a:LI):cO:=(e8 R a).map λd=>(c4 R d).1
def iE(R:Rt)(a:LI):Fr×Int:=law22.wX R.aE R.bJ a (e8 R a) (e9 R a)
theorem QR(R:Rt)(a b:LI):e8 R (a++b)=e8 R a++e8 R b:=by rw[e8,nN];rfl
theorem ac0(R:Rt)(a b:LI):e9 R (a++b)=e9 R a++e9 R b:=by rw[e9,QR,cE];rfl
theorem QS(R:Rt)(a:LI):(e8 R a).length<=a.length:=nM _ _
theorem ac1(R:Rt)(a:LI):(e9 R a).length=(e8 R a).length:=by rw[e9,b5]
theorem zK:aF au 72 Tryz.f72:=ek
abbrev GO:Func:=Tryz.f72
abbrev acV:=bw [law22.agY]
theorem oJ:aS au acV:=aV (a2 law22.OC) bY
abbrev QP:Code:=ar (aq GO) 4
abbrev toB:cw:=cg (ar (aO QP) 2)
def toA(p:Nat)(a:LI):St:=ay GO.ntmps 8 [(0,aT p),(1,ag (.ro iK a)),(4,al 0 0),(6,gv),(7,gv),(12,ag (.ro iK a)),(13,sJ a.length),(14,sJ 0)] [(0,[.row .fr 1 [(0:Fr)]])]
def nK(p:Nat)(a:LI)(k:Int)(n m:Nat)(l:LI)(s:cO)(e:Nat)(d:g9)(b:e5):St:=ay GO.ntmps e ([(0,aT p),(1,ag (.ro iK a)),(4,al 0 0),(6,ag (.sl 8 0 0 n 1)),(7,ag (.sl 9 0 0 m 4)),(12,ag (.ro iK a)),(13,sJ a.length),(14,sJ k)]++d) ((0,[.row .fr 1 [(0:Fr)]])::(8,[.ints .i64 n l])::(9,[.row .fr m s])::b)
def toO(R:Rt)(a:LI)(n m:Nat)(l:LI)(s:cO):St:=ay GO.ntmps 16 [(0,al 10 0),(1,ag (.ro iK a)),(4,al 0 0),(6,ag (.sl 8 0 0 n 1)),(7,ag (.sl 9 0 0 m 4))] ((0,[.row .fr 1 [(0:Fr)]])::(8,[.ints .i64 n l])::(9,[.row .fr m s])::VV R (b7++[vI R.bb]))
def toP(R:Rt)(x:cO)(e:Int):St:=ay GO.ntmps 16 [(4,al 0 0),(5,sJ e)] ((0,[.row .fr 1 x])::VV R (b7++[vI R.bb]))
def toN(x:Fr)(e:Int):St:=ay GO.ntmps 8 [(4,al 0 0),(5,sJ e)] [(0,[.row .fr 1 [x]])]
abbrev toV(y:Fr×Int):SV:=.tup [.agg [.row .fr 1 [y.1]],.one (vI y.2)]
abbrev shP(R:Rt):Prop:=R.aG.length<1000000/\R.aK.length=R.br.length/\R.br.length<1000000/\R.aM.length<1000000000000/\gb R.me/\∀d∈R.aG,d.2.length<1000000
section
variable (gl:dF)[W3]
abbrev T5:cJ:=mO au acV gl
theorem acW(R:Rt)(z:shP R)(d:LI)(C:d.length<100000)(k:Nat)(o:k<d.length)(G:ak){r:aA}{x:Nat->aA}:
  aR au ((aO QP).drop 2) (GH (T5 gl) GO.ntmps (nK R.p d (k:Int) (e8 R (d.take k)).length (e9 R (d.take k)).length (e8 R (d.take k)) (e9 R (d.take k)) 10 [] []) (ak.sep (bV R) G)) (GH (T5 gl) GO.ntmps (nK R.p d ((k+1:Nat):Int) (e8 R (d.take (k+1))).length (e9 R (d.take (k+1))).length (e8 R (d.take (k+1))) (e9 R (d.take (k+1))) 10 [] []) (ak.sep (bV R) G)) r x:=by
 have e:d.take (k+1)=d.take k++[d.getD k 0]:=by rw[dA o,bx,bO o];rfl
 rw[e,QR,ac0];have i:=QS R (d.take k);have j:=ac1 R (d.take k);rw[c6]at i;generalize e8 R (d.take k)=L at i j;generalize e9 R (d.take k)=S at j;have u:∀t,e8 R [t]=if(c4 R t).2 then [t]else []:=λt=>by rw[e8,oU];rfl
 have y:∀t,e9 R [t]=if(c4 R t).2 then [(c4 R t).1]else []:=λt=>by rw[e9,u];split<;>rfl
 rw[u,y];refine dC (E:=(T5 gl)) (c:=ar (aO QP) 2) (GH (T5 gl) GO.ntmps (nK R.p d (k:Int) (L++(if(c4 R (d.getD k 0)).2 then [d.getD k 0]else [])).length (S++(if(c4 R (d.getD k 0)).2 then [(c4 R (d.getD k 0)).1]else [])).length (L++(if(c4 R (d.getD k 0)).2 then [d.getD k 0]else [])) (S++(if(c4 R (d.getD k 0)).2 then [(c4 R (d.getD k 0)).1]else [])) 10 [] []) (ak.sep (bV R) G)) ab ab ?_ ?_;refine gcd oJ 1 (λf=>bL iK 9 f) (λq=>nK R.p d (k:Int) L.length S.length L S 10 [(9,sJ q)] []) (λq=>q=d.getD k 0) ?_ (λq s=>?_);intros;refine @av ((0<=(k:Int)/\(k:Int)<(d.length:Int))/\(k:Int).toNat<d.length/\(nK R.p d (k:Int) L.length S.length L S 10 [(9,sJ (d.getD (k:Int).toNat 0))] []).aj (d.getD (k:Int).toNat 0=d.getD k 0)) _ ?_ ?_;kernel_rfl;rw[aJ];exact⟨⟨aa,aa⟩,o,aw rfl⟩;rw[<-s];refine eX 6 (bS (ar toB 1)) ?_;refine eG oJ 2 (nK R.p d (k:Int) L.length S.length L S 10 [(9,sJ q),(19,aT R.p),(20,sJ q)] []) ?_;refine ju (E:=(T5 gl)) (cT (λ_=>G) (Pz gl)) (R,q) z Ea (λ_ _=>?_);refine eG oJ 9 (nK R.p d (k:Int) L.length S.length L S 59 [(9,sJ q),(10,al 58 0),(11,aD (c4 R q).2)] [(58,[.row .fr 1 [(c4 R q).1]])]) (eK ?_);refine lP oJ ao 1 [(1,58)] (λf=>bL .bool 24 f) (λb=>nK R.p d (k:Int) L.length S.length L S 10 [(9,sJ q),(10,al 1 0),(24,aD b)] [(1,[.row .fr 1 [(c4 R q).1]])]) (λb=>b=(c4 R q).2) (λ_=>False) (λ_ _=>False) ?_ (λb A=>?_) (λ_ _ _ h _=>h.elim) (λ_ _ _ _ h _=>h.elim);intros;refine @av ((nK R.p d (k:Int) L.length S.length L S 10 [(9,sJ q),(10,SV.is (TV.one (ax.ptr 1 0))),(24,aD (c4 R q).snd)] [(1,[ax.row Kd.fr 1 [(c4 R q).fst]])]).aj ((c4 R q).snd=(c4 R q).snd)) _ ?_ ?_;kernel_rfl;exact aw rfl;rw[<-A];cases b;refine fF (ar toB 3) ?_;refine fh (nK R.p d (k:Int) L.length S.length L S 10 [] []) ?_;refine cv λa w n=>?_;show GH _ _ (nK R.p d (k:Int) (L++[]).length (S++[]).length (L++[]) (S++[]) 10 [] []) _ _ _;rw[bF,bF];exact n;refine jX (ar toB 3) ?_;refine lP oJ ao 1 [(8,34)] (λf=>dO iK 8 f) (λb=>nK R.p d (k:Int) (L.length+1) S.length b S 10 [(9,sJ q),(10,al 1 0)] [(1,[.row .fr 1 [(c4 R q).1]])]) (λb=>b=L++[q]) (λ_=>False) (λ_ _=>False) ?_ (λb g=>?_) (λ_ _ _ h _=>h.elim) (λ_ _ _ _ h _=>h.elim);intros;refine @av (0+1<=1/\L.length<=L.length/\(L.length+1)*8<=2^47/\L.length+1<=2^62/\(nK R.p d (k:Int) (L.length+1) S.length (take L.length L++take 1 [q]) S 10 [(9,sJ q),(10,SV.is (TV.one (ax.ptr 1 0)))] [(1,[ax.row Kd.fr 1 [(c4 R q).fst]])]).aj (take L.length L++take 1 [q]=L++[q])) _ ?_ ?_;kernel_rfl;refine⟨ae,aQ _,aa,aa,aw ?_⟩;rw[bg];rfl;subst g;refine lP oJ ao 1 [(9,34)] (λf=>dO .fr 9 f) (λb=>nK R.p d (k:Int) (L.length+1) (S.length+1) (L++[q]) b 10 [] []) (λb=>b=S++[(c4 R q).1]) (λ_=>False) (λ_ _=>False) ?_ (λb g=>?_) (λ_ _ _ h _=>h.elim) (λ_ _ _ _ h _=>h.elim);intros;refine @av (0+1<=1/\S.length<=S.length/\(S.length+1)*32<=2^47/\S.length+1<=2^62/\(nK R.p d (k:Int) (L.length+1) (S.length+1) (L++[q]) (take S.length S++take 1 [(c4 R q).fst]) 10 [] []).aj (take S.length S++take 1 [(c4 R q).fst]=S++[(c4 R q).fst])) _ ?_ ?_;kernel_rfl;refine⟨ae,aQ _,aa,aa,aw ?_⟩;rw[bg];rfl;subst g;refine cv λa w n=>?_;show GH _ _ (nK R.p d (k:Int) (L++[q]).length (S++[(c4 R q).1]).length (L++[q]) (S++[(c4 R q).1]) 10 [] []) _ _ _;rw[bA,bA];exact n;generalize (L++(if(c4 R (d.getD k 0)).2 then [d.getD k 0]else []))=l;generalize (S++(if(c4 R (d.getD k 0)).2 then [(c4 R (d.getD k 0)).1]else []))=m;refine gcd oJ 1 (λf=>bL iK 14 f) (λq=>nK R.p d q l.length m.length l m 10 [] []) (λq=>q=((k+1:Nat):Int)) ?_ (λq s=>?_);intros;refine @av ((nK R.p d (IntKind.i64.wrap ((k:Int)+1)) l.length m.length l m 10 [] []).aj (IntKind.i64.wrap ((k:Int)+1)=(↑(k+1):Int))) _ ?_ ?_;kernel_rfl;exact aw (a5 aa);subst s;exact cv λ_ _ h=>h
end
theorem abE(gl:dF):fk au gl 72 (λz:Rt×LI=>[aT z.1.p,ag (.ro iK z.2)]) (λz=>shP z.1/\z.2.length<100000/\z.1.bJ.length<1000) (λz=>bV z.1) (λz (_:Unit)=>toV (iE z.1 z.2)) (λz _=>bV z.1) (λ_ _=>True):=by refine dD (sp:=acV) zK ab (λz=>by show 2<=GO.ntmps;exact Odt ab) (λz _=>rfl) ?_;rintro⟨R,a⟩ ⟨e,b,d⟩ _;have e:shP R:=e;have b:a.length<100000:=b;have d:R.bJ.length<1000:=d;show aR _ _ (GH _ _ _ (bV R)) _ _ _;refine e6 oJ 4 (toA R.p a) ?_;refine ta 6 1 (.ints .i64 0 []) ab ?_;refine ta 7 4 (.row .fr 0 []) ab ?_;refine a7 (G':=ak.sep (bV R) ak.none) (by unfold bV;exact bZ _ _ _) ?_;refine fh (nK R.p a 0 0 0 [] [] 10 [] []) ?_;refine xG oJ ao (c:=QP) (λk=>nK R.p a (k:Int) (e8 R (a.take k)).length (e9 R (a.take k)).length (e8 R (a.take k)) (e9 R (a.take k)) 10 [] []) (λk=>ak.sep (bV R) ak.none) a.length ab ab (λk f w ids M num=>?_) (λk f=>?_) ?_;refine av (X:=((decide ((k:Int)<(a.length:Int))=true->(nK R.p a (k:Int) (e8 R (take k a)).length (e9 R (take k a)).length (e8 R (take k a)) (e9 R (take k a)) 10 [] []).aj (k<a.length))/\(decide ((k:Int)<(a.length:Int))=false->(nK R.p a (k:Int) (e8 R (take k a)).length (e9 R (take k a)).length (e8 R (take k a)) (e9 R (take k a)) 10 [] []).aj (k=a.length)))) ab ?_;exact⟨λh=>aw (by have:=cM h;omega),λh=>aw (by have:=cL h;omega)⟩;exact acW gl R e a b k f ak.none;rw[bg];have j:=QS R a;refine a7 (G':=ak.obj (hI R (b7++[vI R.bb])) R.p ak.none) (by unfold bV;exact(bZ _ _ _).symm) ?_;refine jJ [0] (toO R a (e8 R a).length (e9 R a).length (e8 R a) (e9 R a)) ?_;refine gcd oJ 1 (λg=>(dO .fr 0 g,bL iK 5 g)) (λq=>toP R q.1 q.2) (λq=>q=([(iE R a).1],(iE R a).2)) ?_ (λq i=>?_);intros;refine @av (0+(e8 R a).length<=(e8 R a).length/\0+(e9 R a).length<=(e9 R a).length/\Qc ((R.aE,R.aL,R.bG,R.bJ),a,take (e8 R a).length (e8 R a),take (e9 R a).length (e9 R a),())/\(toP R ([((law22.wX R.aE R.bJ a (take (e8 R a).length (e8 R a)) (take (e9 R a).length (e9 R a))).fst,(law22.wX R.aE R.bJ a (take (e8 R a).length (e8 R a)) (take (e9 R a).length (e9 R a))).snd,()).fst],(law22.wX R.aE R.bJ a (take (e8 R a).length (e8 R a)) (take (e9 R a).length (e9 R a))).snd).fst ([((law22.wX R.aE R.bJ a (take (e8 R a).length (e8 R a)) (take (e9 R a).length (e9 R a))).fst,(law22.wX R.aE R.bJ a (take (e8 R a).length (e8 R a)) (take (e9 R a).length (e9 R a))).snd,()).fst],(law22.wX R.aE R.bJ a (take (e8 R a).length (e8 R a)) (take (e9 R a).length (e9 R a))).snd).snd).aj (([(law22.wX R.aE R.bJ a (take (e8 R a).length (e8 R a)) (take (e9 R a).length (e9 R a))).fst],(law22.wX R.aE R.bJ a (take (e8 R a).length (e8 R a)) (take (e9 R a).length (e9 R a))).snd)=([(iE R a).fst],(iE R a).snd))) _ ?_ ?_;kernel_rfl;refine⟨aa,aa,⟨by show R.bJ.length<_;omega,by show a.length<_;omega,by show(take _ _).length<_;rw[bg];omega⟩,aw ?_⟩;rw[bg,bg];rfl;subst i;refine gQ (E:=(T5 gl)) (bl:=hI R (b7++[vI R.bb])) [0] [10,11,12,13,14,15] 11 (toN (iE R a).1 (iE R a).2) ?_;exact tP oJ (toV (iE R a)) ⟨(),trivial,bR _,rfl⟩
end rite
end Go.Proofs.YtofofalgjibokaaGreatDoor
/- sha: rotations, one block. -/
open Go Go.Eng Go.RowKit Cr
namespace Go.Proofs.YtofofalgjibokaaGreatDoor
namespace sha
open Go.Proofs.Tryz
open Go.IntKind(i64 u64 u32)
abbrev uK:Kd:=.int .u32
abbrev bK:Kd:=.int .u8
abbrev mX:Kd:=.pair (.arr 8 uK) (.pair (.arr 64 bK) (.int .i64))
def gk:LI:=[1779033703,3144134277,1013904242,2773480762,1359893119,2600822924,528734635,1541459225]
def ly:LI:=[1116352408,1899447441,3049323471,3921009573,961987163,1508970993,2453635748,2870763221,3624381080,310598401,607225278,1426881987,1925078388,2162078206,2614888103,3248222580,3835390401,4022224774,264347078,604807628,770255983,1249150122,1555081692,1996064986,2554220882,2821834349,2952996808,3210313671,3336571891,3584528711,113926993,338241895,666307205,773529912,1294757372,1396182291,1695183700,1986661051,2177026350,2456956037,2730485921,2820302411,3259730800,3345764771,3516065817,3600352804,4094571909,275423344,430227734,506948616,659060556,883997877,958139571,1322822218,1537002063,1747873779,1955562222,2024104815,2227730452,2361852424,2428436474,2756734187,3204031479,3329325298]
def fE:hU:=λg=>if g=0 then some ⟨.arr 8 uK,gk⟩else if g=1 then some ⟨.arr 64 uK,ly⟩else none
theorem afq:aF au 180 f180:=ek
def apo(x k:Int):Int:=aN .or .u32 (u32.wrap (x*2^min (aN .and .u64 (u64.wrap k) 31).toNat u32.bits)) (Int.fdiv x (2^min (u64.wrap (32-aN .and .u64 (u64.wrap k) 31)).toNat u32.bits))
def j9(x k:Int):Int:=gA (apo x k)
theorem Uk(x:Int):0<=u64.wrap x:=by simp only[IntKind.wrap,IntKind.signed];simp;omega
theorem Xs:bu au 180 [uK,.int .i64] [.val uK] cx (λ_=>True) (λ(x,k,_)=>(j9 x k,())):=by refine bH bY ao afq ae ae ?_;rintro w b ⟨x,k,⟨⟩⟩;revert x k;intro x k _ _;refine av (X:=((0:Int)<=aN BinOp.and u64 (u64.wrap k) (31:Int)/\(0:Int)<=u64.wrap ((32:Int)-aN BinOp.and u64 (u64.wrap k) (31:Int))/\(aN BinOp.or u32 (u32.wrap (x*(2:Int)^min (aN BinOp.and u64 (u64.wrap k) (31:Int)).toNat u32.bits)) (x.fdiv ((2:Int)^min (u64.wrap ((32:Int)-aN BinOp.and u64 (u64.wrap k) (31:Int))).toNat u32.bits)),())=(j9 x k,()))) ab ?_;refine⟨?_,?_,by rw[j9,bq];rfl⟩;have h:(0:Int)<=aN .and .u64 (u64.wrap k) 31:=Uk _;exact h;exact Uk _
def aew:=aZ Xs
theorem aaH:aF au 177 f177:=ek
abbrev TK:cw:=aq f177
def Dj(d b p:LI)(e:Int)(g:Int×LI):St:=ay f177.ntmps 25 [(0,al 0 0),(3,al 1 0),(4,al 9 0),(23,sJ g.1)] [(9,[.ints .u32 64 g.2]),(1,[.ints .u8 64 p]),(0,[.ints .u32 8 d,.ints .u8 64 b,vI e])]
def QO(d b p:LI)(e:Int)(i:Nat)(g:Int×LI):St:=ay f177.ntmps 25 [(0,al 0 0),(3,al 1 0),(4,al 9 0),(5,sJ i),(23,sJ i),(26,sJ g.1)] [(9,[.ints .u32 64 g.2]),(1,[.ints .u8 64 p]),(0,[.ints .u32 8 d,.ints .u8 64 b,vI e])]
def wB(p:LI)(i j:Nat)(w:LI):LI:=w.set i (aN .or .u32 (u32.wrap (w.getD i 0*2^min (8:Nat) u32.bits)) (u32.wrap (p.getD (4*i+j) 0)))
def JZ(p:LI)(i:Nat)(w:LI):Nat->LI
 |0=>w
 |j+1=>wB p i j (JZ p i w j)
def GR(p:LI):Nat->LI
 |0=>replicate 64 0
 |i+1=>JZ p i (GR p i) 4
theorem Ue(p:LI)(i:Nat)(w:LI):∀j,(JZ p i w j).length=w.length
 |0=>rfl
 |j+1=>by show(wB p i j _).length=_;rw[wB,jT,Ue p i w j]
theorem Ud(p:LI):∀i,(GR p i).length=64
 |0=>pk
 |i+1=>by show(JZ p i (GR p i) 4).length=_;rw[Ue,Ud p i]
def JX(d b _p:LI)(e:Int)(g:Int×LI):St:=ay f177.ntmps 25 [(0,al 0 0),(4,al 9 0),(45,sJ g.1)] [(9,[.ints .u32 64 g.2]),(0,[.ints .u32 8 d,.ints .u8 64 b,vI e])]
def TZ(d b _p:LI)(e:Int)(w:LI)(g:Int×LI):St:=ay f177.ntmps 81 [(0,al 0 0),(4,al 9 0),(12,al 57 0),(92,sJ g.1)] [(57,[.ints .u32 8 g.2]),(9,[.ints .u32 64 w]),(0,[.ints .u32 8 d,.ints .u8 64 b,vI e])]
def sg0(a:Int):Int:=aN .xor .u32 (aN .xor .u32 (j9 a (-7)) (j9 a (-18))) (a.fdiv (2^min (3:Nat) u32.bits))
def sg1(a:Int):Int:=aN .xor .u32 (aN .xor .u32 (j9 a (-17)) (j9 a (-19))) (a.fdiv (2^min (10:Nat) u32.bits))
def wC(w:LI)(i:Nat):LI:=w.set (i+16) (u32.wrap (u32.wrap (u32.wrap (w.getD i 0+sg0 (w.getD (i+1) 0))+w.getD (i+9) 0)+sg1 (w.getD (i+14) 0)))
def J1(w:LI):Nat->LI
 |0=>w
 |i+1=>wC (J1 w i) i
theorem Uf(w:LI):∀i,(J1 w i).length=w.length
 |0=>rfl
 |i+1=>by show(wC _ i).length=_;rw[wC,jT,Uf w i]
def T0(b:LI)(d:Int)(_w v:LI)(g:Int×LI):St:=ay f177.ntmps 81 [(0,al 0 0),(12,al 57 0),(172,sJ g.1)] [(57,[.ints .u32 8 v]),(0,[.ints .u32 8 g.2,.ints .u8 64 b,vI d])]
theorem eight:∀{v:LI},v.length=8->∃a b c d e f g h,v=[a,b,c,d,e,f,g,h]
 |[a,b,c,d,e,f,g,h],_=>⟨a,b,c,d,e,f,g,h,rfl⟩
def rT(w:LI)(e f g h:Int)(i:Nat):Int:=u32.wrap (u32.wrap (h+aN .xor .u32 (aN .xor .u32 (j9 e (-6)) (j9 e (-11))) (j9 e (-25)))+u32.wrap (u32.wrap (aN .xor .u32 (aN .and .u32 e f) (aN .and .u32 (aN .xor .u32 (if u32.signed=true then -1 else u32.max) e) g)+ly.getD i 0)+w.getD i 0))
def rU(a b c:Int):Int:=u32.wrap (aN .xor .u32 (aN .xor .u32 (j9 a (-2)) (j9 a (-13))) (j9 a (-22))+aN .xor .u32 (aN .xor .u32 (aN .and .u32 a b) (aN .and .u32 a c)) (aN .and .u32 b c))
def vC(w:LI):LI->Nat->LI
 |[a,b,c,d,e,f,g,h],i=>[u32.wrap (rT w e f g h i+rU a b c),a,b,c,u32.wrap (d+rT w e f g h i),e,f,g]
 |v,_=>v
def Fi(w v:LI):Nat->LI
 |0=>v
 |i+1=>vC w (Fi w v i) i
theorem Uc(w:LI){v:LI}(j:v.length=8):∀i,(Fi w v i).length=8
 |0=>j
 |i+1=>by obtain⟨a,b,c,d,e,f,g,h,k⟩:=eight (Uc w j i);show(vC w (Fi w v i) i).length=8;rw[k];rfl
def ID(v s:LI):Nat->LI
 |0=>s
 |i+1=>(ID v s i).set i (u32.wrap ((ID v s i).getD i 0+v.getD i 0))
def aez(b p:LI):LI:=ID (Fi (J1 (GR p 16) 48) b 64) b 8
def ir(b p:LI):LI:=gA (aez b p)
theorem afB:Ft au 177 mX [.arr 64 bK] [] fE (λ_=>True) (λ((n,l,o),p,_)=>((ir n p,l,o),())):=by
 have u:aS au (bw [aew]):=aV (a2 Xs) bY;refine Ek (sp:=bw [aew]) aaH ae ae ab ?_;rintro w M0 b0 ⟨n,l,o⟩ ⟨p,⟨⟩⟩;revert n l o p;intro n l o p hw K _;have V:n.length=8:=hw.1.1;have hp:p.length=64:=K.1.1;refine bN u ao 3 (Dj n l p o (0,replicate 64 0)) True ?_ (λ_=>?_);refine av (X:=((Dj n l p o ((0:Int),replicate (64:Nat) (0:Int))).aj True)) ab ?_;exact aw trivial;refine rq jH (λr=>(bL (.int .i64) 23 r,dO uK 9 r)) (Dj n l p o) (λg=>∃k:Nat,k<=16/\g.1=k/\g.2=GR p k) (λg=>16-g.1.toNat)
  (λr=>(bL (.int .i64) 23 r,dO uK 9 r)) (Dj n l p o) (λg=>g.2=GR p 16) (0,replicate 64 0) (c:=ar TK 3) ab ab (aB ab ab ?_) ?_ ?_
 exact⟨0,ae,rfl,rfl⟩
 ·rintro⟨i,y⟩ L;revert i y;intro i y ⟨k,hk,R,ew⟩;have R:i=k:=R;have kw:y=GR p k:=ew;subst R;refine bN u ao 2 (Dj n l p o (k,y)) (k<16) ?_ (λU=>?_)
  ·refine av (X:=((decide ((k:Int)<(16:Int))=true->(Dj n l p o ((k:Int),y)).aj (k<(16:Nat)))/\(decide ((k:Int)<(16:Int))=false->(Dj n l p o ((k:Int),y)).aj (y=GR p (16:Nat))))) ab ?_;refine⟨λh=>aw (by have:=Odt h;omega),λh=>aw ?_⟩;have:k=16:=by have:=Odf h;omega
   rw[kw,this]
  refine n3 (c:=ar (aO (ar (aq f177) 3)) 2) ab ab ?_;refine bN u ao 2 (QO n l p o k (0,y)) True ?_ (λ_=>?_);refine av (X:=((QO n l p o k ((0:Int),y)).aj True)) ab ?_;exact aw trivial;refine c2 u ao jH (λr=>(bL (.int .i64) 26 r,dO uK 9 r)) (QO n l p o k) (λg=>∃j:Nat,j<=4/\g.1=j/\g.2=JZ p k y j) (λg=>4-g.1.toNat)
   (λr=>dO uK 9 r) (λw=>Dj n l p o (k,w)) (λw=>w=JZ p k y 4) (0,y) (c:=ar (cg (ar (aO (ar (aq f177) 3)) 2)) 2) ab ab (aB ab ab ?_) ?_ ?_
  exact⟨0,ae,rfl,rfl⟩
  ·rintro⟨j,wj⟩ L;revert j wj;intro j wj ⟨t,W,x,E⟩;have x:j=t:=x;have A:wj=JZ p k y t:=E;subst x;refine av (X:=((decide ((t:Int)<(4:Int))=true->((0:Int)<=(k:Int)/\(k:Int)<(↑(64:Nat):Int))/\(k:Int).toNat<(64:Nat)/\(0:Int)<=(8:Int)/\((0:Int)<=i64.wrap (i64.wrap ((4:Int)*(k:Int))+(t:Int))/\i64.wrap (i64.wrap ((4:Int)*(k:Int))+(t:Int))<(↑(64:Nat):Int))/\(i64.wrap (i64.wrap ((4:Int)*(k:Int))+(t:Int))).toNat<(64:Nat)/\((0:Int)<=(k:Int)/\(k:Int)<(↑(64:Nat):Int))/\(k:Int).toNat<(64:Nat)/\(QO n l p o k (i64.wrap ((t:Int)+(1:Int)),wj.set (k:Int).toNat (aN BinOp.or u32 (u32.wrap (wj.getD (k:Int).toNat (0:Int)*(2:Int)^min (8:Nat) u32.bits)) (u32.wrap (p.getD (i64.wrap (i64.wrap ((4:Int)*(k:Int))+(t:Int))).toNat (0:Int)))))).aj ((∃j,j<=(4:Nat)/\i64.wrap ((t:Int)+(1:Int))=(j:Int)/\wj.set (k:Int).toNat (aN BinOp.or u32 (u32.wrap (wj.getD (k:Int).toNat (0:Int)*(2:Int)^min (8:Nat) u32.bits)) (u32.wrap (p.getD (i64.wrap (i64.wrap ((4:Int)*(k:Int))+(t:Int))).toNat (0:Int))))=JZ p k y j)/\(4:Nat)-(i64.wrap ((t:Int)+(1:Int))).toNat<(4:Nat)-(t:Int).toNat))/\(decide ((t:Int)<(4:Int))=false->(Dj n l p o ((k:Int),wj)).aj (wj=JZ p k y (4:Nat))))) ab ?_;refine⟨λh=>?_,λh=>aw ?_⟩
   ·have C:t<4:=by have:=Odt h;omega
    have H:i64.wrap (i64.wrap ((4:Int)*k)+t)=((4*k+t:Nat):Int):=by rw[bC (a:=4*k) aa aa,bC aa aa];omega
    rw[H,a5 aa,aJ,aJ];exact⟨⟨aa,aa⟩,aa,ae,⟨aa,aa⟩,aa,⟨aa,aa⟩,aa,aw ⟨⟨t+1,C,rfl,by rw[A];rfl⟩,by rw[aJ,aJ];omega⟩⟩
   ·have:t=4:=by have:=Odf h;omega
    rw[A,this]
  intro w' Z;refine l5 ?_;refine cq u ao _ _ ?_;refine av (X:=((Dj n l p o (i64.wrap ((k:Int)+(1:Int)),w')).aj ((∃G,G<=(16:Nat)/\i64.wrap ((k:Int)+(1:Int))=(G:Int)/\w'=GR p G)/\(16:Nat)-(i64.wrap ((k:Int)+(1:Int))).toNat<(16:Nat)-(k:Int).toNat))) ab ?_;rw[a5 aa];exact aw ⟨⟨k+1,U,rfl,by rw[Z,kw];rfl⟩,by rw[aJ,aJ];omega⟩
 rintro⟨i1,z⟩ F;revert i1 z;intro i1 z (F:z=GR p 16);have I:z.length=64:=by rw[F,Ud]
 refine bN u ao 1 (JX n l p o (0,z)) True ?_ (λ_=>?_);refine av (X:=((JX n l p o ((0:Int),z)).aj True)) ab ?_;exact aw trivial;refine c2 u ao jH (λr=>(bL (.int .i64) 45 r,dO uK 9 r)) (JX n l p o) (λg=>∃j:Nat,j<=48/\g.1=j/\g.2=J1 z j) (λg=>48-g.1.toNat)
  (λr=>(bL (.int .i64) 45 r,dO uK 9 r)) (JX n l p o) (λg=>g.2=J1 z 48) (0,z) (c:=ar (aq f177) 5) ab ab (aB ab ab ?_) ?_ ?_
 exact⟨0,ae,rfl,rfl⟩
 ·rintro⟨j,wj⟩ L;revert j wj;intro j wj ⟨t,W,x,E⟩;have x:j=t:=x;have A:wj=J1 z t:=E;subst x;refine av (X:=((decide ((t:Int)<(48:Int))=true->((0:Int)<=i64.wrap ((t:Int)+(1:Int))/\i64.wrap ((t:Int)+(1:Int))<(↑(64:Nat):Int))/\(i64.wrap ((t:Int)+(1:Int))).toNat<(64:Nat)/\((0:Int)<=i64.wrap ((t:Int)+(14:Int))/\i64.wrap ((t:Int)+(14:Int))<(↑(64:Nat):Int))/\(i64.wrap ((t:Int)+(14:Int))).toNat<(64:Nat)/\True/\True/\(0:Int)<=(3:Int)/\True/\True/\(0:Int)<=(10:Int)/\((0:Int)<=(t:Int)/\(t:Int)<(↑(64:Nat):Int))/\(t:Int).toNat<(64:Nat)/\((0:Int)<=i64.wrap ((t:Int)+(9:Int))/\i64.wrap ((t:Int)+(9:Int))<(↑(64:Nat):Int))/\(i64.wrap ((t:Int)+(9:Int))).toNat<(64:Nat)/\((0:Int)<=i64.wrap ((t:Int)+(16:Int))/\i64.wrap ((t:Int)+(16:Int))<(↑(64:Nat):Int))/\(i64.wrap ((t:Int)+(16:Int))).toNat<(64:Nat)/\(JX n l p o (i64.wrap ((t:Int)+(1:Int)),wj.set (i64.wrap ((t:Int)+(16:Int))).toNat (u32.wrap (u32.wrap (u32.wrap (wj.getD (t:Int).toNat (0:Int)+aN BinOp.xor u32 (aN BinOp.xor u32 (j9 (wj.getD (i64.wrap ((t:Int)+(1:Int))).toNat (0:Int)) (-7:Int),()).fst (j9 (wj.getD (i64.wrap ((t:Int)+(1:Int))).toNat (0:Int)) (-18:Int),()).fst) ((wj.getD (i64.wrap ((t:Int)+(1:Int))).toNat (0:Int)).fdiv ((2:Int)^min (3:Nat) u32.bits)))+wj.getD (i64.wrap ((t:Int)+(9:Int))).toNat (0:Int))+aN BinOp.xor u32 (aN BinOp.xor u32 (j9 (wj.getD (i64.wrap ((t:Int)+(14:Int))).toNat (0:Int)) (-17:Int),()).fst (j9 (wj.getD (i64.wrap ((t:Int)+(14:Int))).toNat (0:Int)) (-19:Int),()).fst) ((wj.getD (i64.wrap ((t:Int)+(14:Int))).toNat (0:Int)).fdiv ((2:Int)^min (10:Nat) u32.bits)))))).aj ((∃j,j<=(48:Nat)/\i64.wrap ((t:Int)+(1:Int))=(j:Int)/\wj.set (i64.wrap ((t:Int)+(16:Int))).toNat (u32.wrap (u32.wrap (u32.wrap (wj.getD (t:Int).toNat (0:Int)+aN BinOp.xor u32 (aN BinOp.xor u32 (j9 (wj.getD (i64.wrap ((t:Int)+(1:Int))).toNat (0:Int)) (-7:Int)) (j9 (wj.getD (i64.wrap ((t:Int)+(1:Int))).toNat (0:Int)) (-18:Int))) ((wj.getD (i64.wrap ((t:Int)+(1:Int))).toNat (0:Int)).fdiv ((2:Int)^min (3:Nat) u32.bits)))+wj.getD (i64.wrap ((t:Int)+(9:Int))).toNat (0:Int))+aN BinOp.xor u32 (aN BinOp.xor u32 (j9 (wj.getD (i64.wrap ((t:Int)+(14:Int))).toNat (0:Int)) (-17:Int)) (j9 (wj.getD (i64.wrap ((t:Int)+(14:Int))).toNat (0:Int)) (-19:Int))) ((wj.getD (i64.wrap ((t:Int)+(14:Int))).toNat (0:Int)).fdiv ((2:Int)^min (10:Nat) u32.bits))))=J1 z j)/\(48:Nat)-(i64.wrap ((t:Int)+(1:Int))).toNat<(48:Nat)-(t:Int).toNat))/\(decide ((t:Int)<(48:Int))=false->(JX n l p o ((t:Int),wj)).aj (wj=J1 z (48:Nat))))) ab ?_;refine⟨λh=>?_,λh=>aw ?_⟩
  ·have C:t<48:=by have:=Odt h;omega
   have H:∀m:Nat,m<20->i64.wrap (t+m)=((t+m:Nat):Int):=λm hm=>by rw[bC aa aa];omega
   have N:i64.wrap (t+1)=((t+1:Nat):Int):=H 1 ae;have O:i64.wrap (t+9)=((t+9:Nat):Int):=H 9 ae;have P:i64.wrap (t+14)=((t+14:Nat):Int):=H 14 ae;have Q:i64.wrap (t+16)=((t+16:Nat):Int):=H 16 ae;rw[N,O,P,Q];simp only[aJ];exact⟨⟨aa,aa⟩,aa,⟨aa,aa⟩,aa,trivial,trivial,ae,trivial,trivial,ae,⟨aa,aa⟩,aa,⟨aa,aa⟩,aa,⟨aa,aa⟩,aa,aw ⟨⟨t+1,C,rfl,by rw[A];rfl⟩,aa⟩⟩
  ·have:t=48:=by have:=Odf h;omega
   rw[A,this]
 rintro⟨i2,q⟩ K;revert i2 q;intro i2 q (D:q=J1 z 48);refine bN u ao 2 (TZ n l p o q (0,n)) True ?_ (λ_=>?_);refine av (X:=((TZ n l p o q ((0:Int),n)).aj True)) ab ?_;exact aw trivial;have x0:q.length=64:=by rw[D,Uf,I]
 refine c2 u ao jH (λr=>(bL (.int .i64) 92 r,dO uK 57 r)) (TZ n l p o q) (λg=>∃j:Nat,j<=64/\g.1=j/\g.2=Fi q n j) (λg=>64-g.1.toNat)
  (λr=>(bL (.int .i64) 92 r,dO uK 57 r)) (TZ n l p o q) (λg=>g.2=Fi q n 64) (0,n) (c:=ar (aq f177) 8) ab ab (aB ab ab ?_) ?_ ?_
 exact⟨0,ae,rfl,rfl⟩
 ·rintro⟨j,v⟩ L;revert j v;intro j v ⟨t,W,x,ev⟩;have x:j=t:=x;have kv:v=Fi q n t:=ev;subst x;have Y:v.length=8:=by rw[kv,Uc _ V]
  obtain⟨a,b,c,d,e,f,g,h,rfl⟩:=eight Y;refine av (X:=((decide ((t:Int)<(64:Int))=true->True/\True/\True/\((0:Int)<=(t:Int)/\(t:Int)<(↑(64:Nat):Int))/\(t:Int).toNat<ly.length/\((0:Int)<=(t:Int)/\(t:Int)<(↑(64:Nat):Int))/\(t:Int).toNat<(64:Nat)/\True/\True/\True/\(TZ n l p o q (i64.wrap ((t:Int)+(1:Int)),[u32.wrap (u32.wrap (u32.wrap (h+aN BinOp.xor u32 (aN BinOp.xor u32 (j9 e (-6:Int),()).fst (j9 e (-11:Int),()).fst) (j9 e (-25:Int),()).fst)+u32.wrap (u32.wrap (aN BinOp.xor u32 (aN BinOp.and u32 e f) (aN BinOp.and u32 (aN BinOp.xor u32 (if u32.signed=true then(-1:Int)else u32.max) e) g)+ly.getD (t:Int).toNat (0:Int))+q.getD (t:Int).toNat (0:Int)))+u32.wrap (aN BinOp.xor u32 (aN BinOp.xor u32 (j9 a (-2:Int),()).fst (j9 a (-13:Int),()).fst) (j9 a (-22:Int),()).fst+aN BinOp.xor u32 (aN BinOp.xor u32 (aN BinOp.and u32 a b) (aN BinOp.and u32 a c)) (aN BinOp.and u32 b c))),a,b,c,u32.wrap (d+u32.wrap (u32.wrap (h+aN BinOp.xor u32 (aN BinOp.xor u32 (j9 e (-6:Int),()).fst (j9 e (-11:Int),()).fst) (j9 e (-25:Int),()).fst)+u32.wrap (u32.wrap (aN BinOp.xor u32 (aN BinOp.and u32 e f) (aN BinOp.and u32 (aN BinOp.xor u32 (if u32.signed=true then(-1:Int)else u32.max) e) g)+ly.getD (t:Int).toNat (0:Int))+q.getD (t:Int).toNat (0:Int)))),e,f,g])).aj ((∃j,j<=(64:Nat)/\i64.wrap ((t:Int)+(1:Int))=(j:Int)/\[u32.wrap (u32.wrap (u32.wrap (h+aN BinOp.xor u32 (aN BinOp.xor u32 (j9 e (-6:Int)) (j9 e (-11:Int))) (j9 e (-25:Int)))+u32.wrap (u32.wrap (aN BinOp.xor u32 (aN BinOp.and u32 e f) (aN BinOp.and u32 (aN BinOp.xor u32 (if u32.signed=true then(-1:Int)else u32.max) e) g)+ly.getD (t:Int).toNat (0:Int))+q.getD (t:Int).toNat (0:Int)))+u32.wrap (aN BinOp.xor u32 (aN BinOp.xor u32 (j9 a (-2:Int)) (j9 a (-13:Int))) (j9 a (-22:Int))+aN BinOp.xor u32 (aN BinOp.xor u32 (aN BinOp.and u32 a b) (aN BinOp.and u32 a c)) (aN BinOp.and u32 b c))),a,b,c,u32.wrap (d+u32.wrap (u32.wrap (h+aN BinOp.xor u32 (aN BinOp.xor u32 (j9 e (-6:Int)) (j9 e (-11:Int))) (j9 e (-25:Int)))+u32.wrap (u32.wrap (aN BinOp.xor u32 (aN BinOp.and u32 e f) (aN BinOp.and u32 (aN BinOp.xor u32 (if u32.signed=true then(-1:Int)else u32.max) e) g)+ly.getD (t:Int).toNat (0:Int))+q.getD (t:Int).toNat (0:Int)))),e,f,g]=Fi q n j)/\(64:Nat)-(i64.wrap ((t:Int)+(1:Int))).toNat<(64:Nat)-(t:Int).toNat))/\(decide ((t:Int)<(64:Int))=false->(TZ n l p o q ((t:Int),[a,b,c,d,e,f,g,h])).aj ([a,b,c,d,e,f,g,h]=Fi q n (64:Nat))))) ab ?_;refine⟨λT=>?_,λT=>aw ?_⟩
  ·have C:t<64:=by have:=Odt T;omega
   have x1:ly.length=64:=rfl;rw[a5 aa,aJ];exact⟨trivial,trivial,trivial,⟨aa,aa⟩,aa,⟨aa,aa⟩,aa,trivial,trivial,trivial,aw ⟨⟨t+1,C,rfl,by show _=vC q (Fi q n t) t;rw[<-kv];rfl⟩,by rw[aJ];omega⟩⟩
  ·have:t=64:=by have:=Odf T;omega
   rw[kv,this]
 rintro⟨i3,v⟩ hv;revert i3 v;intro i3 v (hv:v=Fi q n 64);refine bN u ao 1 (T0 l o q v (0,n)) True ?_ (λ_=>?_);refine av (X:=((T0 l o q v ((0:Int),n)).aj True)) ab ?_;exact aw trivial;refine c2 u ao jH (λr=>(bL (.int .i64) 172 r,(rS mX 0 r).1)) (T0 l o q v) (λg=>∃j:Nat,j<=8/\g.1=j/\g.2=ID v n j) (λg=>8-g.1.toNat)
  (λr=>(bL (.int .i64) 172 r,(rS mX 0 r).1)) (T0 l o q v) (λg=>g.2=ID v n 8) (0,n) (c:=ar (aq f177) 10) ab ab (aB ab ab ?_) ?_ ?_
 exact⟨0,ae,rfl,rfl⟩
 ·rintro⟨j,s⟩ L;revert j s;intro(j:Int) (s:LI) ⟨t,W,x,es⟩;have x:j=(t:Int):=x;have ks:s=ID v n t:=es;subst x;refine av (X:=((decide ((t:Int)<(8:Int))=true->((0:Int)<=(t:Int)/\(t:Int)<(↑(8:Nat):Int))/\(t:Int).toNat<(8:Nat)/\((0:Int)<=(t:Int)/\(t:Int)<(↑(8:Nat):Int))/\(t:Int).toNat<(8:Nat)/\((0:Int)<=(t:Int)/\(t:Int)<(↑(8:Nat):Int))/\(t:Int).toNat<(8:Nat)/\(T0 l o q v (i64.wrap ((t:Int)+(1:Int)),(s.set (t:Int).toNat (u32.wrap (s.getD (t:Int).toNat (0:Int)+v.getD (t:Int).toNat (0:Int))),l,o).fst)).aj ((∃j,j<=(8:Nat)/\i64.wrap ((t:Int)+(1:Int))=(j:Int)/\s.set (t:Int).toNat (u32.wrap (s.getD (t:Int).toNat (0:Int)+v.getD (t:Int).toNat (0:Int)))=ID v n j)/\(8:Nat)-(i64.wrap ((t:Int)+(1:Int))).toNat<(8:Nat)-(t:Int).toNat))/\(decide ((t:Int)<(8:Int))=false->(T0 l o q v ((t:Int),(s,l,o).fst)).aj (s=ID v n (8:Nat))))) ab ?_;refine⟨λh=>?_,λh=>aw ?_⟩
  ·have C:t<8:=by have:=Odt h;omega
   rw[a5 aa,aJ];exact⟨⟨aa,aa⟩,C,⟨aa,aa⟩,C,⟨aa,aa⟩,C,aw ⟨⟨t+1,C,rfl,by rw[ks];rfl⟩,by rw[aJ];omega⟩⟩
  ·have:t=8:=by have:=Odf h;omega
   rw[ks,this]
 rintro⟨i4,s⟩ hs;revert i4 s;intro(i4:Int) (s:LI) (hs:s=ID v n 8);refine cq u ao _ _ ?_;refine av (X:=(((s,l,o),())=((ir n p,l,o),()))) ab ?_;show((s,l,o),())=((ir n p,l,o),());rw[hs,hv,D,F,ir,bq,aez]
def Zo:Nat×Eng.Spec:=(177,yf fE mX [.arr 64 bK] [] (λ_=>True) (λ((b,a,d),p,_)=>((ir b p,a,d),())))
end sha
end Go.Proofs.YtofofalgjibokaaGreatDoor
namespace Cr
open Go.IntKind(i64 u64 u32)
section
variable (tk:LI->LI->LI)(first:LI)
def pA(a b:LI):Nat->LI
 |0=>a
 |k+1=>tk (pA a b k) ((b.drop (64*k)).take 64)
theorem GU(a X Y:LI):∀j,64*j<=X.length->pA tk a (X++Y) j=pA tk a X j
 |0,_=>rfl
 |j+1,h=>by show tk _ _=tk _ _;rw[GU a X Y j aa,qN aa,mD (by rw[gu];omega)]
theorem B3(a X Y:LI)(k:Nat)(c:X.length=64*k):∀j,pA tk a (X++Y) (k+j)=pA tk (pA tk a X k) Y j
 |0=>GU tk a X Y k aa
 |j+1=>by show tk (pA tk a (X++Y) (k+j)) _=tk _ _;rw[B3 a X Y k c j];congr 2;have b:X.length<=64*(k+j):=aa;rw[show k.add j=k+j from rfl,qH,DE b,gK];congr 1;omega
def eS(L:LI):LI:=L.drop (64*(L.length/64))
def Hs(L:LI):LI:=pA tk first L (L.length/64)
theorem nJ(L:LI):(eS L).length=L.length%64:=by rw[eS,gu];omega
theorem xy(X Y:LI)(k:Nat)(a:X.length=64*k):eS (X++Y)=eS Y:=by rw[eS,eS,bA,qH,DE aa,gK];congr 1;omega
theorem NG(X Y:LI)(k:Nat)(a:X.length=64*k):Hs tk first (X++Y)=pA tk (pA tk first X k) Y (Y.length/64):=by rw[Hs,bA,show(X.length+Y.length)/64=k+Y.length/64 by omega,B3 tk first X Y k a]
def mZ(d a b:LI):LI×LI:=(pA tk d b (b.length/64),eS b++a.drop (eS b).length)
def lB(e a:LI)(d:Int)(b:LI):LI×LI×Int:=
 match decide ((d%64).toNat=0)with
 |true=>((mZ tk (bif decide (d=0)then first else e) a b).1,(mZ tk (bif decide (d=0)then first else e) a b).2,d+b.length)
 |false=>match decide ((d%64).toNat+b.length<64)with
  |true=>(e,a.take (d%64).toNat++(b++a.drop ((d%64).toNat+b.length)),d+b.length)
  |false=>((mZ tk (tk e (a.take (d%64).toNat++b.take (64-(d%64).toNat))) (a.take (d%64).toNat++b.take (64-(d%64).toNat)) (b.drop (64-(d%64).toNat))).1,
    (mZ tk (tk e (a.take (d%64).toNat++b.take (64-(d%64).toNat))) (a.take (d%64).toNat++b.take (64-(d%64).toNat)) (b.drop (64-(d%64).toNat))).2,d+b.length)
def Av(L:LI)(b a:LI)(d:Int):Prop:=d=(L.length:Int)/\a.length=64/\(L≠[]->b=Hs tk first L)/\a.take (L.length%64)=eS L
theorem acY(b a:LI)(h:a.length=64):Av tk first [] b a 0:=⟨rfl,h,λh=>absurd rfl h,by simp[eS]⟩
theorem aha{L f a:LI}{p:Int}(h:Av tk first L f a p)(b:LI):Av tk first (L++b) (lB tk first f a p b).1 (lB tk first f a p b).2.1 (lB tk first f a p b).2.2:=by
 obtain⟨C,r,t,u⟩:=h;subst C;have E:(((L.length:Int))%64).toNat=L.length%64:=aa;have c:L=L.take (64*(L.length/64))++eS L:=(ff _ L).symm;have d:(L.take (64*(L.length/64))).length=64*(L.length/64):=by rw[c6];omega
 unfold lB;rw[E];have i:(L.length:Int)+(b.length:Int)=((L++b).length:Int):=by rw[bA];omega
 cases y:decide (L.length%64=0)with
 |true=>
  have q:L.length%64=0:=Odt y;have G:eS L=[]:=eL (by rw[nJ,q]);have w:L.length=64*(L.length/64):=aa;have F:(bif decide ((L.length:Int)=0)then first else f)=pA tk first L (L.length/64):=by
   cases L with
   |nil=>rfl
   |cons x l=>rw[cm (by simp only[cP];omega),cond_false];exact t az
  refine⟨i,?_,λ_=>?_,?_⟩;show(eS b++a.drop _).length=64;rw[bA,gu,nJ,r];omega;show pA tk _ b (b.length/64)=_;rw[F,NG tk first L b _ w];show(eS b++a.drop _).take _=_;rw[xy L b _ w,bA,show(L.length+b.length)%64=(eS b).length by rw[nJ];omega,px rfl]
 |false=>
  have q:L.length%64≠0:=Odf y;have s:L≠[]:=by rintro rfl;exact q rfl
  have n:f=pA tk first (L.take (64*(L.length/64))) (L.length/64):=by rw[t s,Hs];have:=GU tk first (L.take (64*(L.length/64))) (eS L) (L.length/64) aa;rw[<-c]at this;exact this
  have g:L++b=L.take (64*(L.length/64))++(eS L++b):=by rw[<-cZ,<-c]
  cases k:decide (L.length%64+b.length<64)with
  |true=>
   have D:L.length%64+b.length<64:=Odt k;refine⟨i,?_,λ_=>?_,?_⟩;show(a.take _++(b++a.drop _)).length=64;rw[bA,bA,gu,c6,r];omega;show f=_;rw[g,NG tk first _ _ _ d,<-n,show(eS L++b).length/64=0 by rw[bA,nJ];omega];rfl
   ·show(a.take _++(b++a.drop _)).take _=_;rw[g,xy _ _ _ d];have z:eS (eS L++b)=eS L++b:=by
     rw[eS,show(eS L++b).length/64=0 by rw[bA,nJ];omega];rfl
    have A:(L.take (64*(L.length/64))++(eS L++b)).length%64=(eS L++b).length:=by rw[bA,bA,nJ,d];omega
    rw[z,u,A,<-cZ];exact px rfl
  |false=>
   have D:¬L.length%64+b.length<64:=Odf k;have m:(a.take (L.length%64)++b.take (64-L.length%64)).length=64:=by rw[bA,c6,c6,r];omega
   have j:L++b=(L.take (64*(L.length/64))++(a.take (L.length%64)++b.take (64-L.length%64)))++b.drop (64-L.length%64):=by rw[u,cZ,cZ,ff];exact g
   have e:(L.take (64*(L.length/64))++(a.take (L.length%64)++b.take (64-L.length%64))).length=64*(L.length/64+1):=by rw[bA,m,d];omega
   have o:pA tk first (L.take (64*(L.length/64))++(a.take (L.length%64)++b.take (64-L.length%64))) (L.length/64+1)=tk f (a.take (L.length%64)++b.take (64-L.length%64)):=by rw[B3 tk first _ _ _ d 1,<-n];show tk f _=_;rw[Nat.mul_zero,jU,cA aa]
   refine⟨i,?_,λ_=>?_,?_⟩;show(eS _++drop _ (_++_)).length=64;rw[bA,gu,nJ,m];omega;show pA tk _ _ _=_;rw[j,NG tk first _ _ _ e,o];show(eS _++drop _ (_++_)).take _=_;rw[j,xy _ _ _ e];rw[show(L.take (64*(L.length/64))++(a.take (L.length%64)++b.take (64-L.length%64))++b.drop (64-L.length%64)).length%64=(eS (b.drop (64-L.length%64))).length by rw[nJ,bA,e];omega,px rfl]
end
end Cr
namespace Go.Proofs.YtofofalgjibokaaGreatDoor
namespace sha
open Go.IntKind(i64 u64 u32)
def ky(n:Nat):LI:=128::(replicate ((64+55-n%64)%64) 0++(range 8).map λi=>((n:Int)*8)/2^(56-8*i)%256)
def abL(s:LI):LI:=(range 32).map λi=>IntKind.u8.wrap ((s.getD (i/4) 0).fdiv (2^(24-8*(i%4))))
def ahO(L:LI):LI:=abL (Hs ir gk (L++ky L.length))
def LY(L:LI):LI:=gA (ahO L)
end sha
end Go.Proofs.YtofofalgjibokaaGreatDoor
open Go.IntKind(i64 u64 u32)
/- sha: Write. -/
namespace Go.Proofs.YtofofalgjibokaaGreatDoor
namespace sha
open Go.Proofs.Tryz
open Go.IntKind(i64)
theorem Ee:aF au 160 f160:=ek
def di(e d:LI)(f:Int)(b:LI):a6 mX:=gA (lB ir gk e d f b)
theorem QQ{L d a:LI}{e:Int}(h:Av ir gk L d a e)(b:LI):Av ir gk (L++b) (di d a e b).1 (di d a e b).2.1 (di d a e b).2.2:=by rw[di,bq];exact aha ir gk h b
theorem Wn(d a b:LI)(h:64<=b.length):mZ ir (ir d (b.take 64)) a (b.drop 64)=mZ ir d a b:=by
 have f:b.take 64++b.drop 64=b:=ff _ _;have g:(b.take 64).length=64*1:=by rw[c6];omega
 have i:eS (b.drop 64)=eS b:=by have:=xy (b.take 64) (b.drop 64) 1 g;rw[f]at this;exact this.symm
 have j:pA ir (ir d (b.take 64)) (b.drop 64) ((b.drop 64).length/64)=pA ir d b (b.length/64):=by
  have:=B3 ir d (b.take 64) (b.drop 64) 1 g ((b.drop 64).length/64);rw[f]at this;have e:pA ir d (b.take 64) 1=ir d (b.take 64):=by show ir d _=_;rw[Nat.mul_zero,jU,nP];rfl
  rw[e]at this;rw[<-this];congr 1;rw[gu];omega
 unfold mZ;rw[i,j]
abbrev Wg:Type:=(LI×LI×Int)×LI
def J4(g:Wg):St:=ay f160.ntmps 201 [(0,al 0 0),(1,ag (.ro bK g.2))] [(0,[.ints .u32 8 g.1.1,.ints .u8 64 g.1.2.1,vI g.1.2.2])]
abbrev Nt:a6 mX×HL [.sl bK]->Prop:=λ((_,_,d),b,_)=>(0:Int)<=d/\d<=(1152921504606846976:Int)/\length b<=1152921504606846976
def Dp(d a:LI)(e:Int)(b:LI)(g:Wg):Prop:=((mZ ir g.1.1 g.1.2.1 g.2).1,(mZ ir g.1.1 g.1.2.1 g.2).2,g.1.2.2)=di d a e b/\g.1.2.1.length=64
theorem Ul{e a:LI}{d:Int}{b:LI}(h:(d%64).toNat=0):di e a d b=((mZ ir (bif decide (d=0)then gk else e) a b).1,(mZ ir (bif decide (d=0)then gk else e) a b).2,d+b.length):=by rw[di,bq,lB,b6 h]
theorem ahf{f d:LI}{e:Int}{b:LI}{a:Nat}(i:a=(e%64).toNat)(h:a≠0)(g:a+b.length<64):di f d e b=(f,d.take a++(b++d.drop (a+b.length)),e+b.length):=by subst i;rw[di,bq,lB,cm h,b6 g]
theorem ahg{e d:LI}{f:Int}{b:LI}{a:Nat}(i:a=(f%64).toNat)(h:a≠0)(g:¬a+b.length<64):di e d f b =
  ((mZ ir (ir e (d.take a++b.take (64-a))) (d.take a++b.take (64-a)) (b.drop (64-a))).1,(mZ ir (ir e (d.take a++b.take (64-a))) (d.take a++b.take (64-a)) (b.drop (64-a))).2,f+b.length):=by
 subst i;rw[di,bq,lB,cm h,cm g]
theorem Cg:Ft au 160 mX [.sl bK] [] fE Nt (λ((l,d,e),b,_)=>(di l d e b,())):=by
 have C:aS au (bw [Zo]):=aV (vE afB) bY;refine Ek (sp:=bw [Zo]) Ee ae ae ab ?_;rintro w M0 b0 ⟨l,d,e⟩ ⟨b,⟨⟩⟩;revert l d e b;intro(l:LI) (d:LI) (e:Int) (b:LI) V x2 hp;obtain⟨A,p5,T⟩:=hp;have A:(0:Int)<=e:=A;have p5:e<=(1152921504606846976:Int):=p5;have T:b.length<=1152921504606846976:=T;have x1:l.length=8:=V.1.1;have I:d.length=64:=V.2.1.1;show Tr _ _ _ _ _ _ _;refine lL C ao 8 (λy=>(rS mX 0 y,Jt bK 1 y)) J4 (Dp l d e b) ?_ ?_
 ·refine av (X:=(((e==0)=true->0<[gk].length/\((64:Int)=0->False)/\(decide (e.tmod (64:Int)>0)=true->(0<=e.tmod 64/\e.tmod 64<=(↑(64:Nat):Int))/\(e.tmod 64).toNat+((↑(64:Nat):Int)-e.tmod 64).toNat<=64/\(decide (i64.wrap (e.tmod 64+(↑(b.length.min ((↑(64:Nat):Int)-e.tmod 64).toNat):Int))<64)=true->(([1779033703,3144134277,1013904242,2773480762,1359893119,2600822924,528734635,1541459225],take (e.tmod 64).toNat d++(take (b.length.min ((↑(64:Nat):Int)-e.tmod 64).toNat) b++drop ((e.tmod 64).toNat+b.length.min ((↑(64:Nat):Int)-e.tmod 64).toNat) d),i64.wrap (e+(b.length:Int))),())=(di l d e b,()))/\(decide (i64.wrap (e.tmod 64+(↑(b.length.min ((↑(64:Nat):Int)-e.tmod 64).toNat):Int))<64)=false->(0<=(↑(b.length.min ((↑(64:Nat):Int)-e.tmod 64).toNat):Int)/\(↑(b.length.min ((↑(64:Nat):Int)-e.tmod 64).toNat):Int)<=(b.length:Int))/\(∀(g:Nat)(s:Sigma a6),fE g=some s->Decidable.rec (λh=>(λx=>if g=1 then some ⟨Kd.arr 64 uK,ly⟩else none) h) (λh=>(λx=>some ⟨Kd.arr 8 uK,gk⟩) h) (instDecidableEqNat g 0)=some s)/\True/\(J4 ((ir gk (take (e.tmod 64).toNat d++(take (b.length.min ((↑(64:Nat):Int)-e.tmod 64).toNat) b++drop ((e.tmod 64).toNat+b.length.min ((↑(64:Nat):Int)-e.tmod 64).toNat) d)),take (e.tmod 64).toNat d++(take (b.length.min ((↑(64:Nat):Int)-e.tmod 64).toNat) b++drop ((e.tmod 64).toNat+b.length.min ((↑(64:Nat):Int)-e.tmod 64).toNat) d),i64.wrap (e+(b.length:Int))),take ((b.length:Int)-(↑(b.length.min ((↑(64:Nat):Int)-e.tmod 64).toNat):Int)).toNat (drop (↑(b.length.min ((↑(64:Nat):Int)-e.tmod 64).toNat):Int).toNat b))).aj (Dp l d e b ((ir gk (take (e.tmod 64).toNat d++(take (b.length.min ((↑(64:Nat):Int)-e.tmod 64).toNat) b++drop ((e.tmod 64).toNat+b.length.min ((↑(64:Nat):Int)-e.tmod 64).toNat) d)),take (e.tmod 64).toNat d++(take (b.length.min ((↑(64:Nat):Int)-e.tmod 64).toNat) b++drop ((e.tmod 64).toNat+b.length.min ((↑(64:Nat):Int)-e.tmod 64).toNat) d),i64.wrap (e+(b.length:Int))),take ((b.length:Int)-(↑(b.length.min ((↑(64:Nat):Int)-e.tmod 64).toNat):Int)).toNat (drop (↑(b.length.min ((↑(64:Nat):Int)-e.tmod 64).toNat):Int).toNat b)))))/\(decide (e.tmod (64:Int)>0)=false->(J4 (([1779033703,3144134277,1013904242,2773480762,1359893119,2600822924,528734635,1541459225],d,i64.wrap (e+(b.length:Int))),b)).aj (Dp l d e b (([1779033703,3144134277,1013904242,2773480762,1359893119,2600822924,528734635,1541459225],d,i64.wrap (e+(b.length:Int))),b))))/\((e==0)=false->((64:Int)=0->False)/\(decide (e.tmod (64:Int)>0)=true->(0<=e.tmod 64/\e.tmod 64<=(↑(64:Nat):Int))/\(e.tmod 64).toNat+((↑(64:Nat):Int)-e.tmod 64).toNat<=64/\(decide (i64.wrap (e.tmod 64+(↑(b.length.min ((↑(64:Nat):Int)-e.tmod 64).toNat):Int))<64)=true->((l,take (e.tmod 64).toNat d++(take (b.length.min ((↑(64:Nat):Int)-e.tmod 64).toNat) b++drop ((e.tmod 64).toNat+b.length.min ((↑(64:Nat):Int)-e.tmod 64).toNat) d),i64.wrap (e+(b.length:Int))),())=(di l d e b,()))/\(decide (i64.wrap (e.tmod 64+(↑(b.length.min ((↑(64:Nat):Int)-e.tmod 64).toNat):Int))<64)=false->(0<=(↑(b.length.min ((↑(64:Nat):Int)-e.tmod 64).toNat):Int)/\(↑(b.length.min ((↑(64:Nat):Int)-e.tmod 64).toNat):Int)<=(b.length:Int))/\(∀(g:Nat)(s:Sigma a6),fE g=some s->Decidable.rec (λh=>(λx=>if g=1 then some ⟨Kd.arr 64 uK,ly⟩else none) h) (λh=>(λx=>some ⟨Kd.arr 8 uK,gk⟩) h) (instDecidableEqNat g 0)=some s)/\True/\(J4 ((ir l (take (e.tmod 64).toNat d++(take (b.length.min ((↑(64:Nat):Int)-e.tmod 64).toNat) b++drop ((e.tmod 64).toNat+b.length.min ((↑(64:Nat):Int)-e.tmod 64).toNat) d)),take (e.tmod 64).toNat d++(take (b.length.min ((↑(64:Nat):Int)-e.tmod 64).toNat) b++drop ((e.tmod 64).toNat+b.length.min ((↑(64:Nat):Int)-e.tmod 64).toNat) d),i64.wrap (e+(b.length:Int))),take ((b.length:Int)-(↑(b.length.min ((↑(64:Nat):Int)-e.tmod 64).toNat):Int)).toNat (drop (↑(b.length.min ((↑(64:Nat):Int)-e.tmod 64).toNat):Int).toNat b))).aj (Dp l d e b ((ir l (take (e.tmod 64).toNat d++(take (b.length.min ((↑(64:Nat):Int)-e.tmod 64).toNat) b++drop ((e.tmod 64).toNat+b.length.min ((↑(64:Nat):Int)-e.tmod 64).toNat) d)),take (e.tmod 64).toNat d++(take (b.length.min ((↑(64:Nat):Int)-e.tmod 64).toNat) b++drop ((e.tmod 64).toNat+b.length.min ((↑(64:Nat):Int)-e.tmod 64).toNat) d),i64.wrap (e+(b.length:Int))),take ((b.length:Int)-(↑(b.length.min ((↑(64:Nat):Int)-e.tmod 64).toNat):Int)).toNat (drop (↑(b.length.min ((↑(64:Nat):Int)-e.tmod 64).toNat):Int).toNat b)))))/\(decide (e.tmod (64:Int)>0)=false->(J4 ((l,d,i64.wrap (e+(b.length:Int))),b)).aj (Dp l d e b ((l,d,i64.wrap (e+(b.length:Int))),b)))))) ab ?_;obtain⟨a,Y,R,F⟩:∃a:Nat,e.tmod 64=(a:Int)/\a<64/\a=(e%64).toNat:=⟨(e%64).toNat,by rw[pb A];omega,aa,rfl⟩;have K:((↑(64:Nat):Int)-(a:Int)).toNat=64-a:=aa;have W:i64.wrap (e+(b.length:Int))=e+b.length:=bC aa aa;rw[Y,K,W];obtain⟨n,U⟩:∃n,n=b.length.min (64-a):=⟨_,rfl⟩;have x0:n=min b.length (64-a):=U;have L:i64.wrap ((a:Int)+(n:Int))=((a+n:Nat):Int):=by rw[bC aa aa];omega
  rw[<-U,L];simp only[aJ];refine⟨λr=>⟨ae,ae,λm=>?_,λP=>aw ?_⟩,λr=>⟨ae,λm=>⟨⟨aa,aa⟩,aa,λq=>?_,λG=>⟨⟨aa,aa⟩,λ_ _ h=>h,trivial,aw ?_⟩⟩,λP=>aw ?_⟩⟩
  ·exfalso;have r:e=0:=by simpa using r
   have:=Odt m;subst r;omega
  ·have r:e=0:=by simpa using r
   refine⟨?_,I⟩;rw[Ul aa,b6 r];rfl
  have q:=Odt q;have m:=Odt m;have u:n=b.length:=aa;rw[ahf F aa aa,u,cA (aQ _)]
  ·have G:=Odf G;have m:=Odt m;have u:n=64-a:=aa;have O:d.take a++(b.take n++d.drop (a+n))=d.take a++b.take (64-a):=by
    rw[u,DE aa,bF]
   have N:take ((b.length:Int)-(n:Int)).toNat (drop n b)=b.drop (64-a):=by rw[cA (by rw[gu];omega),u]
   rw[O,N];refine⟨?_,?_⟩;rw[ahg F aa aa];show(d.take a++b.take (64-a)).length=64;rw[bA,c6,c6];omega
  ·have P:=Odf P;have r:¬e=0:=by simpa using r
   refine⟨?_,I⟩;rw[Ul aa,cm r];rfl
 rintro⟨⟨xj,f,k⟩,j⟩Q;revert xj f k j;intro(j:LI) (xj:LI) (f:LI) (k:Int) (Q:Dp l d e b ((xj,f,k),j));refine c2 C ao jH (λy=>(rS mX 0 y,Jt bK 1 y)) J4 (Dp l d e b) (λg=>g.2.length)
  (λy=>(rS mX 0 y,Jt bK 1 y)) J4 (λg=>Dp l d e b g/\g.2.length<64) ((xj,f,k),j) (c:=ar (aq f160) 8) ab ab (aB ab ab ?_) ?_ ?_
 exact Q
 ·rintro⟨⟨xj,f,k⟩,j⟩ H;revert xj f k j;intro(j:LI) (xj:LI) (f:LI) (k:Int) (H:Dp l d e b ((xj,f,k),j));refine av (X:=((decide ((j.length:Int)>=64)=true->64<=j.length/\0+Tryz.prog.cellsOf 228/aC bK<=j.length/\(∀(g:Nat)(s:Sigma a6),fE g=some s->Decidable.rec (λh=>(λx=>if g=1 then some ⟨Kd.arr 64 uK,ly⟩else none) h) (λh=>(λx=>some ⟨Kd.arr 8 uK,gk⟩) h) (instDecidableEqNat g 0)=some s)/\True/\((0:Int)<=64/\64<=(j.length:Int))/\(J4 ((ir xj (take (Tryz.prog.cellsOf 228/aC bK) j),f,k),take ((j.length:Int)-64).toNat (drop 64 j))).aj (Dp l d e b ((ir xj (take (Tryz.prog.cellsOf 228/aC bK) j),f,k),take ((j.length:Int)-64).toNat (drop 64 j))/\(take ((j.length:Int)-64).toNat (drop 64 j)).length<j.length))/\(decide ((j.length:Int)>=64)=false->(J4 ((xj,f,k),j)).aj (Dp l d e b ((xj,f,k),j)/\j.length<64)))) ab ?_;have D:Tryz.prog.cellsOf 228/aC bK=64:=ab;obtain⟨t,z⟩:=H;refine⟨λh=>?_,λh=>aw ⟨⟨t,z⟩,by have:=Odf h;omega⟩⟩;have E:64<=j.length:=by have:=Odt h;omega
  have Z:take ((j.length:Int)-(64:Int)).toNat (drop 64 j)=j.drop 64:=cA (by rw[gu];omega);show 64<=j.length/\0+Tryz.prog.cellsOf 228/aC bK<=j.length/\_;rw[D,Z];refine⟨E,aa,λ_ _ h=>h,trivial,⟨aa,aa⟩,aw ⟨⟨?_,z⟩,?_⟩⟩;show((mZ ir (ir xj (take (Tryz.prog.cellsOf 228/aC bK) j)) f (j.drop 64)).1,(mZ ir (ir xj (take (Tryz.prog.cellsOf 228/aC bK) j)) f (j.drop 64)).2,k)=_;rw[D,Wn _ _ _ E];exact t;rw[gu];omega
 rintro⟨⟨JL,i,p⟩,o⟩ H;revert JL i p o;intro(o:LI) (JL:LI) (i:LI) (p:Int) (H:Dp l d e b ((JL,i,p),o)/\o.length<64);refine cq C ao _ _ ?_;refine av (X:=(0+64<=64/\((JL,take 0 i++(take (o.length.min 64) o++drop (0+o.length.min 64) i),p),())=(di l d e b,()))) ab ?_;obtain⟨⟨t,z⟩,q⟩:=H;have q:o.length<64:=q;refine⟨ae,?_⟩;have K:o.length.min 64=o.length:=jR aa;have L:eS o=o:=by rw[eS,show o.length/64=0 by omega];rfl
 rw[<-t,K];show((JL,take 0 i++(take o.length o++drop (0+o.length) i),p),())=(((mZ ir JL i o).1,(mZ ir JL i o).2,p),());unfold mZ;rw[L,cA (aQ _),show o.length/64=0 by omega,cy];rfl
def F4:Nat×Eng.Spec:=(160,yf fE mX [.sl bK] [] Nt (λ((e,d,f),b,_)=>(di e d f b,())))
end sha
end Go.Proofs.YtofofalgjibokaaGreatDoor
open Go.IntKind(i64)
/- sha: Sum, Of. -/
namespace Go.Proofs.YtofofalgjibokaaGreatDoor
namespace sha
open Go.Proofs.Tryz
open Go.IntKind(i64 u64 u8 u32)
theorem Qv(f:Nat->Int)(p:LI)(k n:Nat):(p++((range k).map f++replicate (n+1) 0)).set (p.length+k) (f k)=p++((range (k+1)).map f++replicate n 0):=by rw[sj _ _ aa,show p.length+k-p.length=k by omega,sj _ _ az];rw[show k-((range k).map f).length=0 by simp,qO,qF,qK,cE,cZ];rfl
theorem wrap_u8(x:Int):u8.wrap x=x%256:=by rfl
theorem KA:aF au 161 f161:=ek
def nn(b:Int):Nat:=(64+55-b.toNat%64)%64
def Zu(b:Int)(i:Nat):Int:=b*8/2^(56-8*i)%256
def uO(b:Int)(k:Nat):LI:=(128::replicate (nn b) 0)++((range k).map (Zu b)++replicate (71-nn b-k) 0)
theorem T2(b:Int)(h:0<=b):(uO b 8).take (1+nn b+8)=ky b.toNat:=by
 have e:uO b 8=((128::replicate (nn b) 0)++(range 8).map (Zu b))++replicate (71-nn b-8) 0:=by rw[uO,cZ]
 rw[e,px (by simp;omega)];have d:b.toNat=b:=aa;unfold ky Zu nn;rw[d];rfl
def TO(d b:LI)(e:Int)(n:Int)(g:Int×LI):St:=ay f161.ntmps 129 [(0,al 0 0),(2,al 1 0),(3,al 9 0),(4,al 33 0),(5,sJ n),(20,sJ g.1)] [(33,[.ints .u8 72 g.2]),(9,[.ints .u8 32 (replicate 32 0)]),(1,[.ints .u8 32 (replicate 32 0)]),(0,[.ints .u32 8 d,.ints .u8 64 b,vI e])]
def TP(d b:LI)(e:Int)(y:a6 mX)(g:Int×LI):St:=ay f161.ntmps 217 [(2,al 1 0),(3,al 9 0),(7,al 153 0),(48,sJ g.1)] [(153,[.ints .u32 8 y.1,.ints .u8 64 y.2.1,vI y.2.2]),(9,[.ints .u8 32 g.2]),(1,[.ints .u8 32 (replicate 32 0)]),(0,[.ints .u32 8 d,.ints .u8 64 b,vI e])]
def abM(s:LI)(i:Nat):Int:=u8.wrap ((s.getD (i/4) 0).fdiv (2^(24-8*(i%4))))
def oK(s:LI)(k:Nat):LI:=[]++((range k).map (abM s)++replicate (32-k) 0)
def H5(e b:LI)(d:Int):LI:=gA (abL (di e b d (ky d.toNat)).1)
theorem acZ{L f a:LI}{d:Int}(h:Av ir gk L f a d):H5 f a d=LY L:=by
 have e:d.toNat=L.length:=by have:=h.1;omega
 have k:=QQ h (ky L.length);have b:L++ky L.length≠[]:=by simp[ky]
 rw[H5,bq,LY,bq,ahO,e,k.2.2.1 b]
theorem II:Ft au 161 mX [] [.val (.arr 32 bK)] fE (λ((_,_,b),_)=>(0:Int)<=b/\b<=(1152921504606846976:Int)) (λ((f,d,b),_)=>((f,d,b),(H5 f d b,()))):=by
 have o:aS au (bw [F4]):=aV (vE Cg) bY;refine Ek (sp:=bw [F4]) KA ae ae ab ?_;rintro w M0 b0 ⟨f,d,b⟩ ⟨⟩;revert f d b;intro(f:LI) (d:LI) (b:Int) hw Z Q;have n:(0:Int)<=b:=Q.1;have p5:b<=(1152921504606846976:Int):=Q.2;have Y:nn b<64:=Nat.mod_lt _ ae;have H:(119-b.tmod 64).tmod 64=(nn b:Int):=by rw[pb n,pb aa];show _=(((64+55-b.toNat%64)%64:Nat):Int);omega
 have z:u64.wrap b=b:=by simp only[IntKind.wrap,IntKind.signed,IntKind.bits];simp;omega
 have I:u64.wrap (b*8)=b*8:=by simp only[IntKind.wrap,IntKind.signed,IntKind.bits];simp;omega
 show Tr _ _ _ _ _ _ _;refine lL o ao 8 (λj=>(bL (.int .i64) 5 j,dO bK 33 j)) (λg=>TO f d b g.1 (0,g.2)) (λg=>g.1=(nn b:Int)/\g.2=uO b 0) ?_ ?_
 ·refine av (X:=((0:Nat)<(72:Nat)/\((64:Int)=(0:Int)->False)/\((64:Int)=(0:Int)->False)/\(TO f d b ((i64.wrap ((119:Int)-b.tmod (64:Int))).tmod (64:Int),(128::replicate 71 (0:Int))).fst ((0:Int),((i64.wrap ((119:Int)-b.tmod (64:Int))).tmod (64:Int),(128::replicate 71 (0:Int))).snd)).aj ((i64.wrap ((119:Int)-b.tmod (64:Int))).tmod (64:Int)=(↑(nn b):Int)/\(128::replicate 71 (0:Int))=uO b (0:Nat)))) ab ?_;have e:i64.wrap (119-b.tmod 64)=119-b.tmod 64:=by
   rw[pb n];exact bC aa aa
  rw[e,H];refine⟨ae,ae,ae,aw ⟨rfl,?_⟩⟩;show _=(128::replicate (nn b) 0)++([]++replicate (71-nn b-0) 0);rw[gK,po,List.replicate_append_replicate,show nn b+(71-nn b-0)=71 by omega]
 rintro⟨L,t0⟩ hK;revert L t0;intro(L:Int) (t0:LI) ⟨D,E⟩;have D:L=(nn b:Int):=D;have E:t0=uO b 0:=E;subst D E;refine c2 o ao jH (λj=>(bL (.int .i64) 20 j,dO bK 33 j)) (TO f d b (nn b)) (λg=>∃k:Nat,k<=8/\g.1=(k:Int)/\g.2=uO b k) (λg=>8-g.1.toNat)
  (λj=>(bL (.int .i64) 20 j,dO bK 33 j)) (TO f d b (nn b)) (λg=>g.2=uO b 8) (0,uO b 0) (c:=ar (aq f161) 8) ab ab (aB ab ab ?_) ?_ ?_
 exact⟨0,ae,rfl,rfl⟩
 ·rintro⟨i,l⟩ V;revert i l;intro(i:Int) (l:LI) ⟨k,W,p,el⟩;have p:i=(k:Int):=p;have kl:l=uO b k:=el;subst p;refine av (X:=((decide ((k:Int)<(8:Int))=true->(0:Int)<=i64.wrap ((56:Int)-i64.wrap ((8:Int)*(k:Int)))/\((0:Int)<=i64.wrap (i64.wrap ((1:Int)+(↑(nn b):Int))+(k:Int))/\i64.wrap (i64.wrap ((1:Int)+(↑(nn b):Int))+(k:Int))<(↑(72:Nat):Int))/\(i64.wrap (i64.wrap ((1:Int)+(↑(nn b):Int))+(k:Int))).toNat<(72:Nat)/\(TO f d b (↑(nn b):Int) (i64.wrap ((k:Int)+(1:Int)),l.set (i64.wrap (i64.wrap ((1:Int)+(↑(nn b):Int))+(k:Int))).toNat (u8.wrap ((u64.wrap (u64.wrap b*(8:Int))).fdiv ((2:Int)^min (i64.wrap ((56:Int)-i64.wrap ((8:Int)*(k:Int)))).toNat u64.bits))))).aj ((∃m,m<=(8:Nat)/\i64.wrap ((k:Int)+(1:Int))=(m:Int)/\l.set (i64.wrap (i64.wrap ((1:Int)+(↑(nn b):Int))+(k:Int))).toNat (u8.wrap ((u64.wrap (u64.wrap b*(8:Int))).fdiv ((2:Int)^min (i64.wrap ((56:Int)-i64.wrap ((8:Int)*(k:Int)))).toNat u64.bits)))=uO b m)/\(8:Nat)-(i64.wrap ((k:Int)+(1:Int))).toNat<(8:Nat)-(k:Int).toNat))/\(decide ((k:Int)<(8:Int))=false->(TO f d b (↑(nn b):Int) ((k:Int),l)).aj (l=uO b (8:Nat))))) ab ?_;refine⟨λh=>?_,λh=>aw ?_⟩
  ·have A:k<8:=by have:=Odt h;omega
   have q:i64.wrap (i64.wrap ((1:Int)+(nn b:Int))+(k:Int))=((1+nn b+k:Nat):Int):=by rw[bC (a:=1+(nn b:Int)) aa aa,bC aa aa];omega
   have r:i64.wrap (56-i64.wrap (8*(k:Int)))=((56-8*k:Nat):Int):=by rw[bC (a:=8*(k:Int)) aa aa,bC aa aa];omega
   rw[q,r,a5 aa,z,I];simp only[aJ];refine⟨aa,⟨aa,aa⟩,aa,aw ⟨⟨k+1,A,rfl,?_⟩,aa⟩⟩;have ev:u8.wrap ((b*8).fdiv (2^min (56-8*k) u64.bits))=Zu b k:=by have G:min (56-8*k) u64.bits=56-8*k:=jR (show 56-8*k<=64 by omega);rw[wrap_u8,G,uQ _ (fV (Int.pow_pos ae))];rfl
   rw[ev,kl,uO,uO,show 71-nn b-k=(71-nn b-(k+1))+1 by omega];have:=Qv (Zu b) (128::replicate (nn b) 0) k (71-nn b-(k+1));rw[show(128::replicate (nn b) (0:Int)).length=1+nn b by simp;omega]at this;exact this
  ·have:k=8:=by have:=Odf h;omega
   rw[kl,this]
 rintro⟨T,K⟩t;revert T K;intro(T:Int) (K:LI) (t:K=uO b 8);subst t;refine lL o ao 3 (λj=>rS mX 153 j) (λy=>TP f d b y (0,replicate 32 0)) (λy=>y=di f d b (ky b.toNat)) ?_ ?_
 ·refine av (X:=(((0:Int)<=i64.wrap (i64.wrap ((1:Int)+(↑(nn b):Int))+(8:Int))/\i64.wrap (i64.wrap ((1:Int)+(↑(nn b):Int))+(8:Int))<=(↑(72:Nat):Int))/\(∀(g:Nat)(s:Sigma a6),fE g=some s->Decidable.rec (λh=>(λx=>if g=(1:Nat)then some ⟨Kd.arr (64:Nat) uK,ly⟩else none) h) (λh=>(λx=>some ⟨Kd.arr (8:Nat) uK,gk⟩) h) (instDecidableEqNat g (0:Nat))=some s)/\(0:Nat)+(i64.wrap (i64.wrap ((1:Int)+(↑(nn b):Int))+(8:Int))-(0:Int)).toNat<=(72:Nat)/\Nt ((f,d,b),take (i64.wrap (i64.wrap ((1:Int)+(↑(nn b):Int))+(8:Int))-(0:Int)).toNat (uO b (8:Nat)),())/\(TP f d b (di f d b (take (i64.wrap (i64.wrap ((1:Int)+(↑(nn b):Int))+(8:Int))-(0:Int)).toNat (uO b (8:Nat)))) ((0:Int),replicate (32:Nat) (0:Int))).aj (di f d b (take (i64.wrap (i64.wrap ((1:Int)+(↑(nn b):Int))+(8:Int))-(0:Int)).toNat (uO b (8:Nat)))=di f d b (ky b.toNat)))) ab ?_;have q:i64.wrap (i64.wrap ((1:Int)+(nn b:Int))+8)=((1+nn b+8:Nat):Int):=by
   rw[bC (a:=1+(nn b:Int)) aa aa,bC aa aa];omega
  have r:(((1+nn b+8:Nat):Int)-0).toNat=1+nn b+8:=aa;rw[q,r,T2 b n];refine⟨⟨aa,aa⟩,λ_ _ h=>h,aa,⟨n,p5,?_⟩,aw rfl⟩;show(ky b.toNat).length<=_;rw[<-T2 b n,c6];omega
 rintro⟨N,O,P⟩R;revert N O P;intro(N:LI) (O:LI) (P:Int) (R:(N,O,P)=di f d b (ky b.toNat));rw[R];refine c2 o ao jH (λj=>(bL (.int .i64) 48 j,dO bK 9 j)) (TP f d b (di f d b (ky b.toNat))) (λg=>∃k:Nat,k<=32/\g.1=(k:Int)/\g.2=oK (di f d b (ky b.toNat)).1 k) (λg=>32-g.1.toNat)
  (λj=>(bL (.int .i64) 48 j,dO bK 9 j)) (TP f d b (di f d b (ky b.toNat))) (λg=>g.2=oK (di f d b (ky b.toNat)).1 32) (0,replicate 32 0) (c:=ar (aq f161) 12) ab ab (aB ab ab ?_) ?_ ?_
 exact⟨0,ae,rfl,rfl⟩
 ·rintro⟨i,l⟩ V;revert i l;intro(i:Int) (l:LI) ⟨k,W,p,el⟩;have p:i=(k:Int):=p;have kl:l=oK (di f d b (ky b.toNat)).1 k:=el;subst p;refine av (X:=((decide ((k:Int)<(32:Int))=true->((4:Int)=(0:Int)->False)/\((0:Int)<=i64.wrap ((k:Int).tdiv (4:Int))/\i64.wrap ((k:Int).tdiv (4:Int))<(↑(8:Nat):Int))/\(i64.wrap ((k:Int).tdiv (4:Int))).toNat<(8:Nat)/\((4:Int)=(0:Int)->False)/\(0:Int)<=i64.wrap ((24:Int)-i64.wrap ((8:Int)*(k:Int).tmod (4:Int)))/\((0:Int)<=(k:Int)/\(k:Int)<(↑(32:Nat):Int))/\(k:Int).toNat<(32:Nat)/\(TP f d b (di f d b (ky b.toNat)) (i64.wrap ((k:Int)+(1:Int)),l.set (k:Int).toNat (u8.wrap (((di f d b (ky b.toNat)).fst.getD (i64.wrap ((k:Int).tdiv (4:Int))).toNat (0:Int)).fdiv ((2:Int)^min (i64.wrap ((24:Int)-i64.wrap ((8:Int)*(k:Int).tmod (4:Int)))).toNat u32.bits))))).aj ((∃m,m<=(32:Nat)/\i64.wrap ((k:Int)+(1:Int))=(m:Int)/\l.set (k:Int).toNat (u8.wrap (((di f d b (ky b.toNat)).fst.getD (i64.wrap ((k:Int).tdiv (4:Int))).toNat (0:Int)).fdiv ((2:Int)^min (i64.wrap ((24:Int)-i64.wrap ((8:Int)*(k:Int).tmod (4:Int)))).toNat u32.bits)))=oK (di f d b (ky b.toNat)).fst m)/\(32:Nat)-(i64.wrap ((k:Int)+(1:Int))).toNat<(32:Nat)-(k:Int).toNat))/\(decide ((k:Int)<(32:Int))=false->(TP f d b (di f d b (ky b.toNat)) ((k:Int),l)).aj (l=oK (di f d b (ky b.toNat)).fst (32:Nat))))) ab ?_;refine⟨λh=>?_,λh=>aw ?_⟩
  ·have A:k<32:=by have:=Odt h;omega
   have q:i64.wrap ((k:Int).tdiv 4)=((k/4:Nat):Int):=by rw[uR aa,bC aa aa];omega
   have r:i64.wrap (24-i64.wrap (8*(k:Int).tmod 4))=((24-8*(k%4):Nat):Int):=by rw[pb aa,bC (a:=8*((k:Int)%4)) aa aa,bC aa aa];omega
   rw[q,r,a5 aa];simp only[aJ];refine⟨ae,⟨aa,aa⟩,aa,ae,aa,⟨aa,aa⟩,A,aw ⟨⟨k+1,A,rfl,?_⟩,aa⟩⟩;have ev:u8.wrap (((di f d b (ky b.toNat)).1.getD (k/4) 0).fdiv (2^min (24-8*(k%4)) u32.bits))=abM (di f d b (ky b.toNat)).1 k:=by have G:min (24-8*(k%4)) u32.bits=24-8*(k%4):=jR (show 24-8*(k%4)<=32 by omega);rw[G];rfl
   rw[ev,kl,oK,oK,show 32-k=(32-(k+1))+1 by omega];have:=Qv (abM (di f d b (ky b.toNat)).1) [] k (32-(k+1));rw[show([]:LI).length+k=k by simp]at this;exact this
  ·have:k=32:=by have:=Odf h;omega
   rw[kl,this]
 rintro⟨U,C⟩ u;revert U C;intro(U:Int) (C:LI) (u:C=oK (di f d b (ky b.toNat)).1 32);refine cq o ao _ _ ?_;refine av (X:=(((f,d,b),C,())=((f,d,b),H5 f d b,()))) ab ?_;rw[u,H5,bq];have e:oK (di f d b (ky b.toNat)).1 32=abL (di f d b (ky b.toNat)).1:=by show []++(_++[])=_;rw[bF,gK];rfl
 rw[e]
def Nz:Nat×Eng.Spec:=(161,yf fE mX [] [.val (.arr 32 bK)] (λ((_,_,b),_)=>(0:Int)<=b/\b<=(1152921504606846976:Int)) (λ((d,a,b),_)=>((d,a,b),(H5 d a b,()))))
theorem wx:aF au 117 f117:=ek
def Te(a:List LI)(g:Int×a6 mX):St:=ay f117.ntmps 40 [(2,al 0 0),(3,al 8 0),(6,ag (.ro (.sl bK) a)),(7,sJ a.length),(8,sJ g.1)] [(8,[.ints .u32 8 g.2.1,.ints .u8 64 g.2.2.1,vI g.2.2.2]),(0,[.ints .u8 32 (replicate 32 0)])]
abbrev VF:HL [.sl (.sl bK)]->Prop:=λ(a,_)=>length (List.flatten a)<=1099511627776/\length a<=1099511627776
theorem se:bu au 117 [.sl (.sl bK)] [.val (.arr 32 bK)] fE VF (λ(a,_)=>(LY (List.flatten a),())):=by
 have l:aS au (bw [F4,Nz]):=aV (vE Cg) (aV (vE II) bY);refine cu (sp:=bw [F4,Nz]) wx ae ae ab ?_;rintro w D ⟨a,⟨⟩⟩;revert a;intro a _ y;have G:=y.1;have H:a.length<=1099511627776:=y.2;refine bN l ao 3 (Te a (0,(replicate 8 0,replicate 64 0,0))) True ?_ (λ_=>?_);refine av (X:=((Te a ((0:Int),replicate (8:Nat) (0:a6 uK),replicate (64:Nat) (0:a6 bK),(0:a6 (Kd.int i64)))).aj True)) ab ?_;exact aw trivial;refine c2 l ao jH (λo=>(bL (.int .i64) 8 o,rS mX 8 o)) (Te a) (λg=>∃k:Nat,k<=a.length/\g.1=k/\Av ir gk (List.flatten (a.take k)) g.2.1 g.2.2.1 g.2.2.2) (λg=>a.length-g.1.toNat)
  (λo=>(bL (.int .i64) 8 o,rS mX 8 o)) (Te a) (λg=>Av ir gk (List.flatten a) g.2.1 g.2.2.1 g.2.2.2) (0,(replicate 8 0,replicate 64 0,0)) (c:=ar (aq f117) 3) ab ab (aB ab ab ?_) ?_ ?_
 exact⟨0,aY _,rfl,acY ir gk _ _ pk⟩
 ·rintro⟨i,e,b,d⟩ z;revert i e b d;intro i e b (d:Int) ⟨k,E,t,j⟩;have t:i=k:=t;have j:=j;subst t;refine av (X:=((decide ((k:Int)<(a.length:Int))=true->((0:Int)<=(k:Int)/\(k:Int)<(a.length:Int))/\(k:Int).toNat<a.length/\(∀(g:Nat)(s:Sigma a6),fE g=some s->Decidable.rec (λh=>(λx=>if g=(1:Nat)then some ⟨Kd.arr (64:Nat) uK,ly⟩else none) h) (λh=>(λx=>some ⟨Kd.arr (8:Nat) uK,gk⟩) h) (instDecidableEqNat g (0:Nat))=some s)/\Nt ((e,b,d),a.getD (k:Int).toNat [],())/\(Te a (i64.wrap ((k:Int)+(1:Int)),di e b d (a.getD (k:Int).toNat []))).aj ((∃m,m<=a.length/\i64.wrap ((k:Int)+(1:Int))=(m:Int)/\Av ir gk (take m a).flatten (di e b d (a.getD (k:Int).toNat [])).fst (di e b d (a.getD (k:Int).toNat [])).snd.fst (di e b d (a.getD (k:Int).toNat [])).snd.snd)/\a.length-(i64.wrap ((k:Int)+(1:Int))).toNat<a.length-(k:Int).toNat))/\(decide ((k:Int)<(a.length:Int))=false->(Te a ((k:Int),e,b,d)).aj (Av ir gk a.flatten e b d)))) ab ?_;refine⟨λh=>?_,λh=>aw ?_⟩
  ·have p:k<a.length:=by have:=Odt h;omega
   have C:a.getD k []=a[k]:=by simp[bO p]
   have u:(a.take (k+1)).flatten=(a.take k).flatten++a.getD k []:=by rw[dA p,vR,C];simp
   have n:(a.take (k+1)).flatten.length<=a.flatten.length:=by
    have:a.flatten=(a.take (k+1)).flatten++(a.drop (k+1)).flatten:=by rw[<-vR,ff]
    rw[this,bA];omega
   have f:d=(((a.take k).flatten.length:Nat):Int):=j.1;have A:(a.take k).flatten.length+(a.getD k []).length<=1099511627776:=by rw[u,bA]at n;omega
   rw[a5 aa];simp only[aJ];have q:(0:Int)<=d:=by rw[f];omega
   have r:d<=(1152921504606846976:Int):=by rw[f];omega
   refine⟨⟨aa,aa⟩,p,λ_ _ h=>h,⟨q,r,?_⟩,aw ⟨⟨k+1,p,rfl,?_⟩,aa⟩⟩;omega;rw[u];exact QQ j _
  ·have:k=a.length:=by have:=Odf h;omega
   rw[this,bg]at j;exact j
 rintro⟨i,e,b,d⟩ z;revert i e b d;intro i e b (d:Int) j;refine cq l ao _ _ ?_;refine av (X:=((∀(g:Nat)(s:Sigma a6),fE g=some s->Decidable.rec (λh=>(λx=>if g=(1:Nat)then some ⟨Kd.arr (64:Nat) uK,ly⟩else none) h) (λh=>(λx=>some ⟨Kd.arr (8:Nat) uK,gk⟩) h) (instDecidableEqNat g (0:Nat))=some s)/\((0:Int)<=d/\d<=(1152921504606846976:Int))/\(H5 e b d,())=(LY a.flatten,()))) ab ?_;have f:d=a.flatten.length:=j.1;have q:(0:Int)<=d:=by rw[f];omega
 have r:d<=(1152921504606846976:Int):=by rw[f];omega
 exact⟨λ_ _ h=>h,⟨q,r⟩,by rw[acZ j]⟩
def vu:Nat×Eng.Spec:=(117,Fy fE [.sl (.sl bK)] [.val (.arr 32 bK)] VF (λ(a,_)=>(LY (List.flatten a),())))
end sha
end Go.Proofs.YtofofalgjibokaaGreatDoor
open Go.IntKind(i64 u64 u8 u32)
/- A rite: digest. -/
namespace Go.Proofs.YtofofalgjibokaaGreatDoor
namespace rite
open bf deal Go.Proofs.Tryz
theorem UM:aF au 73 f73:=ek
def D3(q:LI):LI:=u8.wrap q.length::q.map u8.wrap
def rP(q:LI)(c:List Pt):LI:=gA (sha.LY (List.flatten [D3 q,law22.di c]))
def dgI(q:LI)(c:List Pt)(g:Int×Nat×LI):St:=ay f73.ntmps 72 [(0,ag (.ro iK q)),(1,ag (.ro bM c)),(4,al 0 0),(5,ag (.sl 32 0 0 g.2.1 1)),(12,ag (.ro iK q)),(13,sJ q.length),(14,sJ g.1)] [(0,[.ints .u8 32 (replicate 32 0)]),(32,[.ints .u8 g.2.1 g.2.2])]
def dgO(c:List Pt)(l:Nat×LI):St:=ay f73.ntmps 72 [(1,ag (.ro bM c)),(4,al 0 0),(5,ag (.sl 32 0 0 l.1 1))] [(0,[.ints .u8 32 (replicate 32 0)]),(32,[.ints .u8 l.1 l.2])]
def A6(q:LI)(k:Nat):LI:=u8.wrap q.length::(q.take k).map u8.wrap
theorem ae2(q:LI)(k:Nat)(h:k<=q.length):(A6 q k).length=k+1:=by rw[A6,cP,b5,c6];omega
theorem aad(q:LI){k:Nat}(h:k<q.length):A6 q (k+1)=A6 q k++[u8.wrap (q.getD k 0)]:=by rw[A6,A6,dA h,cE,bx,bO h];rfl
abbrev VE:HL [.sl iK,.sl bM]->Prop:=λ(q,c,_)=>length q<100000/\length c<1000000
theorem Xm:bu au 73 [.sl iK,.sl bM] [.val (.arr 32 (.int .u8))] sha.fE VE (λ(q,c,_)=>(rP q c,())):=by
 have j:aS au (bw [sha.vu,acj]):=aV (fgk sha.se) (aV (a2 law22.OE.Bd) bY);refine cu (sp:=bw [sha.vu,acj]) UM ae ae ab ?_;rintro w D ⟨q,c,⟨⟩⟩;revert q c;intro(q:LI) (c:List Pt) _ ⟨u,t⟩;have u:q.length<100000:=u;have t:c.length<1000000:=t;show Tr _ _ _ _ _ _ _;refine lL j ao 3 (λb=>dO (.int .u8) 32 b) (λl=>dgI q c (0,1,l)) (λl=>l=A6 q 0) ?_ ?_;refine av (X:=((dgI q c (0,1,[u8.wrap (q.length:Int)])).aj ([u8.wrap (q.length:Int)]=A6 q 0))) ab ?_;exact aw rfl;intro l C;subst C;refine c2 j ao (λ_=>[(32,136)]) (λb=>(bL iK 14 b,qy 5 b,dO (.int .u8) 32 b)) (dgI q c) (λg=>∃k:Nat,k<=q.length/\g.1=(k:Int)/\g.2.1=k+1/\g.2.2=A6 q k) (λg=>q.length-g.1.toNat)
  (λb=>(qy 5 b,dO (.int .u8) 32 b)) (dgO c) (λg=>g=(q.length+1,D3 q)) (0,1,A6 q 0) (c:=ar (aq f73) 3) ab ab (aB ab ab ?_) ?_ ?_
 exact⟨0,aY _,rfl,rfl,rfl⟩
 ·rintro⟨i,n,l⟩ E;revert i n l;intro(i:Int) (n:Nat) (l:LI) ⟨k,A,m,p,o⟩;have y:i=(k:Int):=m;have z:n=k+1:=p;have el:l=A6 q k:=o;clear m p o;subst y z;have d:l.length=k+1:=by rw[el];exact ae2 q k A
  refine @av ((decide ((k:Int)<(q.length:Int))=true->(0<=(k:Int)/\(k:Int)<(q.length:Int))/\(k:Int).toNat<q.length/\0+1<=1/\k+1<=k+1/\(k+1+1)*1<=2^47/\k+1+1<=2^62/\(dgI q c (i64.wrap ((k:Int)+1),k+1+1,take (k+1) l++take 1 [u8.wrap (q.getD (k:Int).toNat 0)])).aj ((∃a,a<=q.length/\i64.wrap ((k:Int)+1)=(a:Int)/\k+1+1=a+1/\take (k+1) l++take 1 [u8.wrap (q.getD (k:Int).toNat 0)]=A6 q a)/\q.length-(i64.wrap ((k:Int)+1)).toNat<q.length-(k:Int).toNat))/\(decide ((k:Int)<(q.length:Int))=false->(dgO c (k+1,l)).aj ((k+1,l)=(q.length+1,D3 q)))) _ ?_ ?_;kernel_rfl;refine⟨λh=>?_,λh=>aw ?_⟩
  ·have f:k<q.length:=by have:=cM h;omega
   rw[aJ,a5 aa];refine⟨⟨aa,aa⟩,f,ae,aQ _,aa,aa,aw ⟨⟨k+1,f,rfl,rfl,?_⟩,by rw[aJ];omega⟩⟩;rw[aad q f,cA aa,<-el];rfl
  ·have e:k=q.length:=by have:=cL h;omega
   rw[el,e,A6,bg];rfl
 intro g r;have r:g=(q.length+1,D3 q):=r;subst r;have d:(D3 q).length=q.length+1:=by rw[D3,cP,b5]
 refine T9 5 32 (q.length+1) 1 .u8 (D3 q) ab ab d ?_;refine cq j ao _ _ ?_;refine @av (CB (c,())/\(∀(g:Nat)(s:Sigma a6),sha.fE g=some s->Decidable.rec (λh=>(λx=>if g=1 then some ⟨Kd.arr 64 sha.uK,sha.ly⟩else none) h) (λh=>(λx=>some ⟨Kd.arr 8 sha.uK,sha.gk⟩) h) (instDecidableEqNat g 0)=some s)/\0+2<=2/\sha.VF (take 2 [D3 q,law22.di c],())/\(sha.LY (take 2 [D3 q,law22.di c]).flatten,())=(rP q c,())) _ ?_ ?_;kernel_rfl;refine⟨by show c.length<=_;omega,λg s h=>h,ae,⟨?_,by show(2:Nat)<=_;omega⟩,?_⟩;show(List.flatten [D3 q,law22.di c]).length<=_;simp only[vU,List.flatten_nil,bF,bA];rw[d,Gc];omega;show(sha.LY (List.flatten [D3 q,law22.di c]),())=(rP q c,());rw[rP,bq]
def aco:Nat×Eng.Spec:=(73,Fy sha.fE [.sl iK,.sl bM] [.val (.arr 32 (.int .u8))] VE (λ(q,c,_)=>(rP q c,())))
end rite
end Go.Proofs.YtofofalgjibokaaGreatDoor
/- deal: Join, its public polynomial as a slice of its own. -/
namespace Go.Proofs.YtofofalgjibokaaGreatDoor
namespace deal
open law14 poly Go.Eng.Ob Go.Proofs.Tryz
abbrev vi:HL [kz,.sl iK,.sl ed]->HO [.own bM,.val iK]:=λ((d,_,n,o),q,a,_)=>((pM d n o q a).1,(pM d n o q a).2,())
def jpA(d t:LI)(n:Int)(o:cj)(a:List Dl)(b:LI)(ws:cO)(e:Int):St:=ay f71.ntmps 104 [(2,ag (.ro ed a)),(3,al 0 0),(6,ag (.v (.slice none 0 0))),(7,sJ 0),(8,ag (.ro iK b)),(9,ag (.sl 40 0 0 ws.length 4)),(10,sJ e)] [(40,[.row .fr ws.length ws]),(0,[.ro iK d,.ro iK t,vI n,.ro bM o])]
def jpB(d t:LI)(n:Int)(o:cj)(b:List Dl)(a:LI)(ws:cO):St:=ay f71.ntmps 152 [(2,ag (.ro ed b)),(3,al 0 0),(9,ag (.sl 40 0 0 ws.length 4)),(11,ag (.v (.slice none 0 0))),(28,ag (.ro iK a)),(29,sJ a.length),(30,sJ 0)] [(40,[.row .fr ws.length ws]),(0,[.ro iK d,.ro iK t,vI n,.ro bM o])]
def O3(d t:LI)(n:Int)(o:cj)(b:List Dl)(a:LI)(ws:cO)(g:Int×cj):St:=ay f71.ntmps 153 [(2,ag (.ro ed b)),(3,al 0 0),(9,ag (.sl 40 0 0 ws.length 4)),(11,ag (.sl 152 0 0 g.2.length 12)),(28,ag (.ro iK a)),(29,sJ a.length),(30,sJ g.1)] [(152,[.row bM g.2.length g.2]),(40,[.row .fr ws.length ws]),(0,[.ro iK d,.ro iK t,vI n,.ro bM o])]
def jpX(d t:LI)(n:Int)(o:cj)(b:List Dl)(a:LI)(ws:cO)(g:Int×cj):St:=ay f71.ntmps 449 [(2,ag (.ro ed b)),(3,al 0 0),(9,ag (.sl 40 0 0 ws.length 4)),(11,ag (.sl 433 0 0 g.2.length 12)),(28,ag (.ro iK a)),(29,sJ a.length),(30,sJ g.1)] [(433,[.row bM g.2.length g.2]),(40,[.row .fr ws.length ws]),(0,[.ro iK d,.ro iK t,vI n,.ro bM o])]
def jpC(d t:LI)(n:Int)(o:cj)(b:List Dl)(a:LI)(ws:cO)(l:cj)(k:Nat)(I:Int):St:=ay f71.ntmps 233 [(2,ag (.ro ed b)),(3,al 0 0),(9,ag (.sl 40 0 0 ws.length 4)),(11,ag (.sl 152 0 0 l.length 12)),(12,sJ k),(14,sJ I),(28,ag (.ro iK a)),(29,sJ a.length),(30,sJ k)] [(152,[.row bM l.length l]),(40,[.row .fr ws.length ws]),(0,[.ro iK d,.ro iK t,vI n,.ro bM o])]
def jpD(d t:LI)(n:Int)(o:cj)(b:List Dl)(a:LI)(ws:cO)(l:cj)(k:Nat)(c:cj):St:=ay f71.ntmps 417 [(2,ag (.ro ed b)),(3,al 0 0),(9,ag (.sl 40 0 0 ws.length 4)),(11,ag (.sl 152 0 0 l.length 12)),(12,sJ k),(28,ag (.ro iK a)),(29,sJ a.length),(30,sJ k),(15,ag (.sl 377 0 0 c.length 12)),(59,ag (.v (.bool (decide ((ws.length:Int)>0)))))] [(152,[.row bM l.length l]),(377,[.row bM c.length c]),(40,[.row .fr ws.length ws]),(0,[.ro iK d,.ro iK t,vI n,.ro bM o])]
def SR(d t:LI)(n:Int)(o:cj)(b:List Dl)(a:LI)(ws:cO)(l:cj)(k:Nat)(m:Nat)(g:Int×cj):St:=ay f71.ntmps 417 [(2,ag (.ro ed b)),(3,al 0 0),(9,ag (.sl 40 0 0 ws.length 4)),(11,ag (.sl 152 0 0 l.length 12)),(12,sJ k),(28,ag (.ro iK a)),(29,sJ a.length),(30,sJ k),(15,ag (.sl 377 0 0 m 12)),(60,ag (.sl 377 0 0 m 12)),(61,sJ m),(62,sJ g.1)] [(152,[.row bM l.length l]),(377,[.row bM m g.2]),(40,[.row .fr ws.length ws]),(0,[.ro iK d,.ro iK t,vI n,.ro bM o])]
theorem aaR:bu au 71 [kz,.sl iK,.sl ed] [.own bM,.val iK] cx Tz vi:=by
 have f:aS au (bw [F3,aet,Lr,g1.FY,wT]):=aV (a2 Hh) (aV (a2 Xy) (aV (a2 Cf) (aV (a2 g1.Bc) (aV (a2 qd) bY))));refine cu (sp:=bw [F3,aet,Lr,g1.FY,wT]) aat ae ae ab ?_;rintro w M0 ⟨⟨d,t,n,o⟩,q,a,⟨⟩⟩;revert d t n o q a;intro(d:LI) (t:LI) (n:Int) (o:cj) (q:LI) (a:List Dl) _ hp;obtain⟨ho,hq,H,hn⟩:=hp;have ho:o.length<1048576:=ho;have hq:q.length<2^62:=hq;have H:a.length<2^62:=H;have hn:n<1048576:=hn;show Tr _ _ _ _ _ _ _;refine bN f ao 2 (jpA d t n o a (dL d o q).1 (dL d o q).2.1 (dL d o q).2.2) True ?_ (λ_=>?_);refine av (X:=(Qb ((d,t,n,o),q,())/\(jpA d t n o a (dL d o q).fst (dL d o q).snd.fst (dL d o q).snd.snd).aj True)) ab ?_;exact⟨⟨ho,hq⟩,aw trivial⟩;have hF:pM d n o q a=xq n a (dL d o q).1 (dL d o q).2.1 (dL d o q).2.2:=rfl;obtain⟨x4,x1⟩:=T1 d o q;generalize (dL d o q).1=b at *;generalize (dL d o q).2.1=ws at *;generalize (dL d o q).2.2=e at *;refine bN f ao 4 (jpB d t n o a b ws) (e=0) ?_ (λhe=>?_);refine av (X:=(((e != 0)=true->([],e,())=vi ((d,t,n,o),q,a,()))/\((e != 0)=false->(jpB d t n o a b ws).aj (e=0)))) ab ?_;refine⟨λh=>?_,λh=>aw (by simpa using h)⟩;show _=((pM d n o q a).1,(pM d n o q a).2,());rw[hF,xq,ai (by simpa using h)];subst he;refine CY 11 12 (.row bM 0 []) ab ?_;refine rq (λ_=>[(152,433)]) (λu=>(bL (.int .i64) 30 u,dO bM 152 u)) (O3 d t n o a b ws) (joJ n a b ws) (λg=>b.length-g.1.toNat)
  (λu=>(bL (.int .i64) 30 u,dO bM 152 u)) (O3 d t n o a b ws) (λg=>b.all (o0 a n)=true/\g.2=jS a b ws b.length) (0,[]) (c:=ar (aq f71) 6) ab ab (aB ab ab ?_) ?_ ?_
 exact⟨0,aY _,rfl,rfl,az⟩
 ·rintro⟨i,l⟩ O;revert i l;intro(i:Int) (l:cj) ⟨k,hk,W,el,D⟩;have W:i=(k:Int):=W;have kl:l=jS a b ws k:=el;subst W;have P:l.length<1048576:=by
   have:=X1 a b ws n k hk D;rw[kl];omega
  refine bN f ao 2 (O3 d t n o a b ws ((k:Int),l)) (k<b.length) ?_ (λs=>?_)
  ·refine av (X:=((decide ((k:Int)<(b.length:Int))=true->(O3 d t n o a b ws ((k:Int),l)).aj (k<b.length))/\(decide ((k:Int)<(b.length:Int))=false->(O3 d t n o a b ws ((k:Int),l)).aj (b.all (o0 a n)=true/\l=jS a b ws b.length)))) ab ?_;refine⟨λh=>aw (by have:=cM h;omega),λh=>aw ?_⟩;have:k=b.length:=by have:=cL h;omega
   rw[this,bg]at D;exact⟨all_eq_true.2 D,by rw[kl,this]⟩
  refine n3 (c:=ar (aO (ar (aq f71) 6)) 2) ab ab ?_;refine bN f ao 2 (jpC d t n o a b ws l k (je a (b.getD (k:Int).toNat 0))) True ?_ (λ_=>?_);refine av (X:=((0<=(k:Int)/\(k:Int)<(b.length:Int))/\(k:Int).toNat<b.length/\a.length<2^62/\(jpC d t n o a b ws l k (je a (b.getD (k:Int).toNat 0))).aj True)) ab ?_;rw[aJ];exact⟨⟨aa,aa⟩,s,H,aw trivial⟩;generalize hx:b.getD (k:Int).toNat 0=x;generalize T:je a x=I;refine lL f ao 4 (λu=>dO bM 377 u) (jpD d t n o a b ws l k) (λc=>c=dp a x/\o0 a n x=true) ?_ ?_
  ·refine av (X:=((decide (I<0)=true->([],41,())=vi ((d,t,n,o),q,a,()))/\(decide (I<0)=false->(0<=I/\I<(a.length:Int))/\I.toNat<a.length/\(((↑(a.getD I.toNat (0,[])).snd.length:Int) != n)=true->([],41,())=vi ((d,t,n,o),q,a,()))/\(((↑(a.getD I.toNat (0,[])).snd.length:Int) != n)=false->(0<=I/\I<(a.length:Int))/\I.toNat<a.length/\yH ((a.getD I.toNat (0,[])).snd,())/\(jpD d t n o a b ws l k ((a.getD I.toNat (0,[])).snd,()).fst).aj ((a.getD I.toNat (0,[])).snd=dp a x/\o0 a n x=true))))) ab ?_;have hP:(a.getD I.toNat ((0:Int),([]:cj))).2=dp a x:=by rw[dp,T]
   have x2:x∈b:=by rw[<-hx,aJ,bx,bO s,c7];exact de s
   have E:o0 a n x=false->([],(41:Int),())=vi ((d,t,n,o),q,a,()):=λhb=>by
    show _=((pM d n o q a).1,(pM d n o q a).2,());have:¬b.all (o0 a n)=true:=λc=>by have:=all_eq_true.1 c x x2;rw[hb]at this;cases this
    rw[hF,xq,ah rfl,ai this]
   rw[hP];have x3:I.toNat<a.length\/I<0:=by rcases Int.lt_or_le I 0 with h|h;exact .inr h;left;rw[<-T,je,bq,eY]at h⊢;split at h;rename_i A;rw[ah A];omega;exact absurd h aa
   refine⟨λh=>E (by rw[o0,T,cm (by have:=Odt h;omega)];rfl),λh=>?_⟩;have Z:0<=I:=by have:=Odf h;omega
   have h1:I.toNat<a.length:=aa;refine⟨⟨Z,aa⟩,h1,λA=>E ?_,λA=>?_⟩
   ·have A:¬((dp a x).length:Int)=n:=by simpa using A
    rw[o0,cm A,oY]
   ·have A:((dp a x).length:Int)=n:=by simpa using A
    exact⟨⟨Z,aa⟩,h1,by show(dp a x).length<_;omega,aw ⟨rfl,by rw[o0,T,b6 Z,b6 A];rfl⟩⟩
  intro(c:cj) ⟨hc,z⟩;have L:b.getD k 0=x:=by rw[<-hx,aJ]
  have x0:c.length<1048576:=by rw[o0,bD]at z;have:=Odt z.2;rw[hc];omega
  have G:∀V:cj,V=kC l (jW ws k c)->joJ n a b ws (((k+1:Nat):Int),V):=λV e=>by refine⟨k+1,s,rfl,?_,?_⟩;show V=kC (jS a b ws k) (jW ws k (dp a (b.getD k 0)));rw[e,L,kl,hc];intro y U;rw[dA s,pz,hV]at U;rcases U with U|rfl;exact D y U;rw[bx,bO s,c7]at L;rw[L];exact z
  refine T7 (c:=ar (cg (ar (aO (ar (aq f71) 6)) 2)) 6) (decide ((ws.length:Int)>0)) ab ab ab (λht=>?_) (λht=>?_)
  ·have Q:ws.length=b.length:=by have:=Odt ht;have:=x1 rfl;omega
   refine bN f ao 1 (SR d t n o a b ws l k c.length (0,c)) True ?_ (λ_=>?_);refine av (X:=((SR d t n o a b ws l k c.length (0,c)).aj True)) ab ?_;exact aw trivial;refine c2 f ao jH (λu=>(bL (.int .i64) 62 u,dO bM 377 u)) (SR d t n o a b ws l k c.length) (ajd c (λp=>g1.dt p (ws.getD k 0))) (λg=>c.length-g.1.toNat)
    (λu=>(bL (.int .i64) 62 u,dO bM 377 u)) (SR d t n o a b ws l k c.length) (λg=>g.2=c.map (λp=>g1.dt p (ws.getD k 0))) (0,c) (c:=ar (fC (ar (cg (ar (aO (ar (aq f71) 6)) 2)) 6)) 1) ab ab (aB ab ab ?_) ?_ ?_
   exact⟨0,aY _,rfl,rfl⟩
   ·rintro⟨j,r⟩ O;revert j r;intro(j:Int) (r:cj) ⟨m,hm,Y,ec⟩;have Y:j=(m:Int):=Y;have R:r=AI (λp=>g1.dt p (ws.getD k 0)) c m:=ec;subst Y;refine @av ((decide ((m:Int)<(c.length:Int))=true->(0<=(m:Int)/\(m:Int)<(c.length:Int))/\(m:Int).toNat<c.length/\(0<=(k:Int)/\(k:Int)<(ws.length:Int))/\(k:Int).toNat<ws.length/\True/\(0<=(m:Int)/\(m:Int)<(c.length:Int))/\(m:Int).toNat<c.length/\(SR d t n o a b ws l k c.length (i64.wrap ((m:Int)+1),r.set (m:Int).toNat (g1.dt (r.getD (m:Int).toNat ((0:Fp),(0:Fp))) (ws.getD (k:Int).toNat (0:Fr))))).aj (ajd c (λp=>g1.dt p (ws.getD k (0:Fr))) (i64.wrap ((m:Int)+1),r.set (m:Int).toNat (g1.dt (r.getD (m:Int).toNat ((0:Fp),(0:Fp))) (ws.getD (k:Int).toNat (0:Fr))))/\c.length-(i64.wrap ((m:Int)+1)).toNat<c.length-(m:Int).toNat))/\(decide ((m:Int)<(c.length:Int))=false->(SR d t n o a b ws l k c.length ((m:Int),r)).aj (r=List.map (λp=>g1.dt p (ws.getD k (0:Fr))) c))) _ ?_ ?_;kernel_rfl;rw[aJ,aJ];refine⟨λh=>?_,λh=>aw ?_⟩
    ·have C:m<c.length:=by have:=cM h;omega
     rw[a5 aa];refine⟨⟨aa,aa⟩,C,⟨aa,aa⟩,aa,trivial,⟨aa,aa⟩,C,aw ⟨⟨m+1,C,rfl,?_⟩,by rw[aJ];omega⟩⟩;show r.set m _=_;rw[R];exact Yb (λp=>g1.dt p (ws.getD k 0)) c C
    ·have:m=c.length:=by have:=cL h;omega
     rw[R,AI,this,bg,qI,bF]
   rintro⟨j,r⟩ O;revert j r;intro(j:Int) (r:cj) O;have R:r=c.map (λp=>g1.dt p (ws.getD k 0)):=O;have F:r.length=c.length:=by rw[R,b5]
   have K:r=jW ws k c:=by rw[jW,ai aa,R]
   refine bN f ao 1 (jpX d t n o a b ws ((k:Int),kC (l.take l.length) (r.take c.length))) True ?_ (λ_=>?_);refine av (X:=(0+l.length<=l.length/\0+c.length<=c.length/\K9 (take l.length l,take c.length r,())/\(jpX d t n o a b ws ((k:Int),kC (take l.length l) (take c.length r))).aj True)) ab ?_;rw[<-F,bg,bg];exact⟨aa,aa,⟨P,by show r.length<_;omega⟩,aw trivial⟩;rw[<-F,bg,bg];refine l5 ?_;refine cq f ao _ _ ?_;refine @av ((O3 d t n o a b ws (i64.wrap ((k:Int)+1),kC l r)).aj (joJ n a b ws (i64.wrap ((k:Int)+1),kC l r)/\b.length-(i64.wrap ((k:Int)+1)).toNat<b.length-(k:Int).toNat)) _ ?_ ?_;kernel_rfl;rw[a5 aa];exact aw ⟨G _ (by rw[K]),by rw[aJ,aJ];omega⟩
  ·have Q:ws.length=0:=by have:=Odf ht;omega
   have K:c=jW ws k c:=by rw[jW,ah Q]
   refine bN f ao 1 (jpX d t n o a b ws ((k:Int),kC (l.take l.length) (c.take c.length))) True ?_ (λ_=>?_);refine av (X:=(0+l.length<=l.length/\0+c.length<=c.length/\K9 (take l.length l,take c.length c,())/\(jpX d t n o a b ws ((k:Int),kC (take l.length l) (take c.length c))).aj True)) ab ?_;rw[bg,bg];exact⟨aa,aa,⟨P,x0⟩,aw trivial⟩;rw[bg,bg];refine l5 ?_;refine cq f ao _ _ ?_;refine @av ((O3 d t n o a b ws (i64.wrap ((k:Int)+1),kC l c)).aj (joJ n a b ws (i64.wrap ((k:Int)+1),kC l c)/\b.length-(i64.wrap ((k:Int)+1)).toNat<b.length-(k:Int).toNat)) _ ?_ ?_;kernel_rfl;rw[a5 aa];exact aw ⟨G _ (by rw[<-K]),by rw[aJ,aJ];omega⟩
 rintro⟨i,l⟩ O;revert i l;intro(i:Int) (l:cj) ⟨N,el⟩;have el:l=jS a b ws b.length:=el;refine cq f ao _ _ ?_;refine @av (0+l.length<=l.length/\(take l.length l,0,())=vi ((d,t,n,o),q,a,())) _ ?_ ?_;kernel_rfl;refine⟨aa,?_⟩;rw[bg];show _=((pM d n o q a).1,(pM d n o q a).2,());rw[hF,xq,ah rfl,ah N,el]
end deal
end Go.Proofs.YtofofalgjibokaaGreatDoor
/- deal: the aM that fit, accusers, left, Qual. -/
namespace Go.Proofs.YtofofalgjibokaaGreatDoor
namespace deal
open law14 poly law22 Go.Proofs.Tryz
theorem aap:aF au 155 f155:=wz (by rfl) (by rfl) (by rfl)
abbrev Pf:Type:=Int×Int×Fr
def r6(x t:Int)(c:cj)(p:Pf):Bool:=gA (p.1==x&&(p.2.1==t&&qU c t p.2.2))
abbrev Bv:Int->cj->Prop:=λt c=>length c<2^62/\gb t
theorem Sq:bu au 155 [dX,.ptr iK,.ptr iK,.ptr (.sl bM)] [.val .bool] cx (λ(_,_,t,c,_)=>Bv t c) (λ(p,x,t,c,_)=>(r6 x t c p,())):=by
 refine bH (aV (a2 FA) bY) ao aap ae ae ?_;rintro w a ⟨⟨d1,d2,d3⟩,x,t,c,⟨⟩⟩;revert d1 d2 d3 x t c;intro d1 d2 d3 x t c _ b;refine av (X:=(0<[x].length/\((d1==x)=true->0<[t].length/\((d2==t)=true->0<[c].length/\0<[t].length/\Bu (c,t,d3,())/\(qU c t d3,())=(r6 x t c (d1,d2,d3),()))/\((d2==t)=false->(false,())=(r6 x t c (d1,d2,d3),())))/\((d1==x)=false->(false,())=(r6 x t c (d1,d2,d3),())))) ab ?_;have e:r6 x t c (d1,d2,d3)=(d1==x&&(d2==t&&qU c t d3)):=by rw[r6,bq]
 grind
def akv:=aZ Sq
abbrev N2:Kd:=.cap (.cap (.cap (.fn 155) iK) iK) (.sl bM)
theorem aff:aF au 175 f175:=wz (by rfl) (by rfl) (by rfl)
def Vd(a:List Pf)(x t:Int)(c:cj)(g:Int):St:=ay f175.ntmps 32 [(0,ag (.ro dX a)),(1,ag (.fv N2 ((((),x),t),c))),(7,sJ a.length),(8,sJ g)] []
theorem aia:bu au 175 [.sl dX,N2] [.val iK] cx (λ(a,(((_,_),t),c),_)=>length a<2^62/\Bv t c) (λ(a,(((_,x),t),c),_)=>(eY (r6 x t c) a,())):=by
 have d:=aV (a2 Sq) bY;refine cu (sp:=bw [akv]) aff ae ae ab ?_;rintro w p ⟨a,⟨⟨⟨⟨⟩,x⟩,t⟩,c⟩,⟨⟩⟩;revert a x t c;intro a c t x _ ⟨l,n⟩;have l:a.length<2^62:=l;refine bN d ao 2 (Vd a x t c 0) True ?_ (λ_=>?_);refine av (X:=((Vd a x t c 0).aj True)) ab ?_;exact aw trivial;refine c2 d ao jH (λo=>bL (.int .i64) 8 o) (Vd a x t c) (λg=>∃k:Nat,k<=a.length/\g=k/\k<=a.findIdx (r6 x t c)) (λg=>a.length-g.toNat)
  (λ_=>()) (λ_=>ay f175.ntmps 32 [] []) (λ_=>a.length<=a.findIdx (r6 x t c)) 0 (c:=ar (aq f175) 2) ab ab (aB ab ab ?_) ?_ ?_
 grind
 ·intro i ⟨k,q,m,f⟩;subst m;refine av (X:=((decide (↑k<(a.length:Int))=true->(0<=(k:Int)/\ ↑k<(a.length:Int))/\(k:Int).toNat<a.length/\Bv t c/\(r6 x t c (a.getD (k:Int).toNat (0,0,0))=true->(↑k,())=(eY (r6 x t c) a,()))/\(r6 x t c (a.getD (k:Int).toNat (0,0,0))=false->(Vd a x t c (i64.wrap (↑k+1))).aj ((∃e,e<=a.length/\i64.wrap (↑k+1)=↑e/\e<=List.findIdx (r6 x t c) a)/\a.length-(i64.wrap (↑k+1)).toNat<a.length-(k:Int).toNat)))/\(decide (↑k<(a.length:Int))=false->(ay f175.ntmps 32 [] []).aj (a.length<=List.findIdx (r6 x t c) a)))) ab ?_;refine⟨λh=>?_,λh=>aw (by have:=cL h;omega)⟩;have b:k<a.length:=by have:=cM h;omega
  rw[a5 aa];refine⟨⟨aa,aa⟩,b,n,λj=>?_,λj=>aw ⟨⟨k+1,b,rfl,tf (0,0,0) b f (j)⟩,aa⟩⟩;show((k:Int),())=(eY _ a,());rw[xH (0,0,0) b f (j)]
 rintro⟨⟩ (f:_<=_);refine cq d ao _ _ ?_;refine av (X:=((-1,())=(eY (r6 x t c) a,()))) ab ?_;rw[ve f]
theorem afb:aF au 154 f154:=wz (by rfl) (by rfl) (by rfl)
def tJ(a:List Pf)(x t:Int)(c:cj):Bool:=gA (a.any (r6 x t c))
theorem Xl:bu au 154 [.sl dX,N2] [.val .bool] cx (λ(a,(((_,_),t),c),_)=>length a<2^62/\Bv t c) (λ(a,(((_,x),t),c),_)=>(tJ a x t c,())):=by
 refine bH (aV (a2 aia) bY) ao afb ae ae ?_;rintro w e ⟨a,⟨⟨⟨⟨⟩,x⟩,t⟩,c⟩,⟨⟩⟩;revert a x t c;intro a c t x _ d;refine av (X:=((a.length<2^62/\Bv t c)/\(decide (eY (r6 x t c) a>=0),())=(tJ a x t c,()))) ab ?_;refine⟨d,?_⟩;show(decide ((if a.findIdx (r6 x t c)<a.length then((a.findIdx (r6 x t c):Nat):Int)else -1)>=0),())=(tJ a x t c,());rw[tJ,bq];by_cases h:a.findIdx (r6 x t c)<a.length;·simp_all
 ·have b:a.any (r6 x t c)=false:=by
   simp_all
  rw[ai h,b];rfl
def aev:=aZ Xl
abbrev dZ:Kd:=.pair iK (.sl iK)
abbrev uC:Type:=Int×LI
def om(t:LI)(x:Int):List uC->LI->LI
 |[],by'=>by'
 |f::a,by'=>om t x a (if f.1∈t/\f.1∉by'/\x∈f.2 then by'++[f.1]else by')
theorem NP(t:LI)(x:Int){a:List uC}{k:Nat}(l:LI)(h:k<a.length):om t x (a.drop k) l=om t x (a.drop (k+1)) (if(a.getD k (0,[])).1∈t/\(a.getD k (0,[])).1∉l/\x∈(a.getD k (0,[])).2 then l++[(a.getD k (0,[])).1]else l):=by
 have b:a.getD k (0,[])=a[k]:=by simp_all
 rw[pd h,b];rfl
theorem OF{a:List uC}{k:Nat}(h:k<a.length):a.getD k (0,[])∈a:=by simp_all
theorem ae8:aF au 153 f153:=wz (by rfl) (by rfl) (by rfl)
abbrev YB:HL [kz,iK,.sl dZ]->Prop:=λ((_,t,_,_),_,a,_)=>length t<1048576/\length a<1048576/\∀f∈a,f.2.length<2^62
abbrev PI:HL [kz,iK,.sl dZ]->HO [.own iK]:=λ((_,t,_,_),x,a,_)=>(om t x a [],())
def oh(d t:LI)(n:Int)(o:cj)(x:Int)(a:List uC)(g:Int×Bool×Nat×LI):St:=ay f153.ntmps 48 [(1,sJ x),(3,al 0 0),(7,bif g.2.1 then ag (.v (.slice none 0 0))else ag (.sl 40 0 0 g.2.2.1 1)),(10,ag (.ro dZ a)),(11,sJ a.length),(12,sJ g.1)] ((0,[.ro iK d,.ro iK t,vI n,.ro bM o])::(bif g.2.1 then []else [(40,[.ints .i64 g.2.2.1 g.2.2.2])]))
def DT(t:LI)(x:Int)(a:List uC)(g:Int×Bool×Nat×LI):Prop:=∃k:Nat,k<=a.length/\g.1=k/\om t x (a.drop k) g.2.2.2=om t x a []/\g.2.2.1=g.2.2.2.length/\(g.2.1=true->g.2.2.2=[])/\g.2.2.2.length<=k
def acO(t:LI)(x:Int)(a:List uC)(g:Int×Bool×Nat×LI):Prop:=g.2.2.2=om t x a []/\g.2.2.1=g.2.2.2.length/\(g.2.1=true->g.2.2.2=[])
theorem ah5:bu au 153 [kz,iK,.sl dZ] [.own iK] cx YB PI:=by
 have D:aS au (bw [mg]):=aV (a2 kZ) bY;refine cu (sp:=bw [mg]) ae8 ae ae ab ?_;rintro w T ⟨⟨d,t,n,o⟩,x,a,⟨⟩⟩;revert d t n o x a;intro d t n o x a _ Q;obtain⟨L,F,y⟩:=Q;have L:t.length<1048576:=L;have F:a.length<1048576:=F;have y:∀f∈a,f.2.length<2^62:=y;refine bN D ao 3 (oh d t n o x a (0,true,0,[])) True ?_ (λ_=>?_);refine av (X:=((oh d t n o x a (0,true,0,[])).aj True)) ab ?_;exact aw trivial;refine c2 D ao (λr=>[(40,rdJ 40 7 r)]) (λr=>(bL iK 12 r,TH 7 r,qy 7 r,dO iK 40 r)) (oh d t n o x a) (DT t x a) (λg=>a.length-g.1.toNat)
  (λr=>(bL iK 12 r,TH 7 r,qy 7 r,dO iK 40 r)) (oh d t n o x a) (acO t x a) (0,true,0,[]) (c:=ar (aq f153) 3) ab ab (aB ab ab ?_) ?_ ?_
 exact⟨0,aY _,rfl,rfl,rfl,λ_=>rfl,aQ _⟩
 ·rintro⟨i,e,m,l⟩ U;revert i l;intro(i:Int) (l:LI) ⟨k,V,G,z,O,el,E⟩;have G:i=(k:Int):=G;have z:om t x (a.drop k) l=om t x a []:=z;have K:m=l.length:=O;have E:l.length<=k:=E;subst G;cases e with
  |true=>
   have I:l=[]:=el rfl;subst I;have P:m=0:=K;subst P;refine av (X:=((decide ((k:Int)<(a.length:Int))=true->(0<=(k:Int)/\(k:Int)<(a.length:Int))/\(k:Int).toNat<a.length/\lb (t,(a.getD (k:Int).toNat (0,[])).fst,())/\(decide ((a.getD (k:Int).toNat (0,[])).fst∈t)=true->lb ([],(a.getD (k:Int).toNat (0,[])).fst,())/\((!decide ((a.getD (k:Int).toNat (0,[])).fst∈[]))=true->lb ((a.getD (k:Int).toNat (0,[])).snd,x,())/\(decide (x∈(a.getD (k:Int).toNat (0,[])).snd)=true->0+1<=1/\1*8<=2^47/\1<=2^62/\(oh d t n o x a (i64.wrap ((k:Int)+1),false,1,[(a.getD (k:Int).toNat (0,[])).fst])).aj (DT t x a (i64.wrap ((k:Int)+1),false,1,[(a.getD (k:Int).toNat (0,[])).fst])/\a.length-(i64.wrap ((k:Int)+1)).toNat<a.length-(k:Int).toNat))/\(decide (x∈(a.getD (k:Int).toNat (0,[])).snd)=false->(oh d t n o x a (i64.wrap ((k:Int)+1),true,0,[])).aj (DT t x a (i64.wrap ((k:Int)+1),true,0,[])/\a.length-(i64.wrap ((k:Int)+1)).toNat<a.length-(k:Int).toNat)))/\((!decide ((a.getD (k:Int).toNat (0,[])).fst∈[]))=false->(oh d t n o x a (i64.wrap ((k:Int)+1),true,0,[])).aj (DT t x a (i64.wrap ((k:Int)+1),true,0,[])/\a.length-(i64.wrap ((k:Int)+1)).toNat<a.length-(k:Int).toNat)))/\(decide ((a.getD (k:Int).toNat (0,[])).fst∈t)=false->(oh d t n o x a (i64.wrap ((k:Int)+1),true,0,[])).aj (DT t x a (i64.wrap ((k:Int)+1),true,0,[])/\a.length-(i64.wrap ((k:Int)+1)).toNat<a.length-(k:Int).toNat)))/\(decide ((k:Int)<(a.length:Int))=false->(oh d t n o x a ((k:Int),true,0,[])).aj (acO t x a ((k:Int),true,0,[]))))) ab ?_;rw[aJ];refine⟨λh=>?_,λh=>aw ?_⟩
   ·have b:k<a.length:=by have:=cM h;omega
    have p:a.length-((k+1:Nat):Int).toNat<a.length-(k:Int).toNat:=by rw[aJ,aJ];omega
    have j:=NP t x [] b;rw[z]at j;have C:=y _ (OF b);rw[a5 aa];have q:¬((a.getD k ((0:Int),[])).1∈t/\(a.getD k ((0:Int),[])).1∉([]:LI)/\x∈(a.getD k ((0:Int),[])).2)->DT t x a (((k+1:Nat):Int),true,0,[]):=λH=>by rw[ai H]at j;exact⟨k+1,b,rfl,j.symm,rfl,λ_=>rfl,aY _⟩
    refine⟨⟨aa,aa⟩,b,by show t.length<_;omega,λs=>⟨by show(0:Nat)<4611686018427387904;decide,λ_=>⟨C,λu=>⟨ae,ae,ae,aw ⟨?_,p⟩⟩,λu=>aw ⟨q λc=>Odf u c.2.2,p⟩⟩,λA=>absurd A az⟩,λs=>aw ⟨q λc=>Odf s c.1,p⟩⟩;rw[ah ⟨Odt s,az,Odt u⟩]at j;exact⟨k+1,b,rfl,j.symm,rfl,λh=>(by cases h),by show 1<=k+1;omega⟩
   ·have:k=a.length:=by have:=cL h;omega
    rw[this,qI]at z;exact⟨z,rfl,λ_=>rfl⟩
  |false=>
   refine av (X:=((decide ((k:Int)<(a.length:Int))=true->(0<=(k:Int)/\(k:Int)<(a.length:Int))/\(k:Int).toNat<a.length/\lb (t,(a.getD (k:Int).toNat (0,[])).fst,())/\(decide ((a.getD (k:Int).toNat (0,[])).fst∈t)=true->0+m<=m/\lb (take m l,(a.getD (k:Int).toNat (0,[])).fst,())/\((!decide ((a.getD (k:Int).toNat (0,[])).fst∈take m l))=true->lb ((a.getD (k:Int).toNat (0,[])).snd,x,())/\(decide (x∈(a.getD (k:Int).toNat (0,[])).snd)=true->0+1<=1/\m<=m/\(m+1)*8<=2^47/\m+1<=2^62/\(oh d t n o x a (i64.wrap ((k:Int)+1),false,m+1,take m l++take 1 [(a.getD (k:Int).toNat (0,[])).fst])).aj (DT t x a (i64.wrap ((k:Int)+1),false,m+1,take m l++take 1 [(a.getD (k:Int).toNat (0,[])).fst])/\a.length-(i64.wrap ((k:Int)+1)).toNat<a.length-(k:Int).toNat))/\(decide (x∈(a.getD (k:Int).toNat (0,[])).snd)=false->(oh d t n o x a (i64.wrap ((k:Int)+1),false,m,l)).aj (DT t x a (i64.wrap ((k:Int)+1),false,m,l)/\a.length-(i64.wrap ((k:Int)+1)).toNat<a.length-(k:Int).toNat)))/\((!decide ((a.getD (k:Int).toNat (0,[])).fst∈take m l))=false->(oh d t n o x a (i64.wrap ((k:Int)+1),false,m,l)).aj (DT t x a (i64.wrap ((k:Int)+1),false,m,l)/\a.length-(i64.wrap ((k:Int)+1)).toNat<a.length-(k:Int).toNat)))/\(decide ((a.getD (k:Int).toNat (0,[])).fst∈t)=false->(oh d t n o x a (i64.wrap ((k:Int)+1),false,m,l)).aj (DT t x a (i64.wrap ((k:Int)+1),false,m,l)/\a.length-(i64.wrap ((k:Int)+1)).toNat<a.length-(k:Int).toNat)))/\(decide ((k:Int)<(a.length:Int))=false->(oh d t n o x a ((k:Int),false,m,l)).aj (acO t x a ((k:Int),false,m,l))))) ab ?_;rw[aJ];refine⟨λh=>?_,λh=>aw ?_⟩
   ·have b:k<a.length:=by have:=cM h;omega
    have p:a.length-((k+1:Nat):Int).toNat<a.length-(k:Int).toNat:=by rw[aJ,aJ];omega
    have j:=NP t x l b;rw[z]at j;have C:=y _ (OF b);simp only[a5 (show k<9223372036854775807 by omega),K,bg];have q:¬((a.getD k ((0:Int),[])).1∈t/\(a.getD k ((0:Int),[])).1∉l/\x∈(a.getD k ((0:Int),[])).2)->DT t x a (((k+1:Nat):Int),false,l.length,l):=λH=>by rw[ai H]at j;exact⟨k+1,b,rfl,j.symm,rfl,λh=>(by cases h),by show l.length<=k+1;omega⟩
    refine⟨⟨aa,aa⟩,b,by show t.length<_;omega,λs=>⟨aa,by show l.length<_;omega,λA=>⟨C,λu=>⟨ae,aa,aa,aa,aw ⟨?_,p⟩⟩,λu=>aw ⟨q λc=>Odf u c.2.2,p⟩⟩,λA=>aw ⟨q λc=>c.2.1 (by simpa using A),p⟩⟩,λs=>aw ⟨q λc=>Odf s c.1,p⟩⟩;rw[ah ⟨Odt s,by simpa using A,Odt u⟩]at j;exact⟨k+1,b,rfl,j.symm,by show l.length+1=(l++[(a.getD k ((0:Int),[])).1]).length;simp,λh=>(by cases h),by show(l++[(a.getD k ((0:Int),[])).1]).length<=k+1;simp;omega⟩
   ·have:k=a.length:=by have:=cL h;omega
    rw[this,qI]at z;exact⟨z,K,λh=>(by cases h)⟩
 rintro⟨i,e,m,l⟩ W;revert i l;intro(i:Int) (l:LI) ⟨s,A,u⟩;have N:l=om t x a []:=s;have R:m=l.length:=A;refine cq D ao _ _ ?_;cases e with
 |true=>have I:l=[]:=u rfl;refine av (X:=(([],())=PI ((d,t,n,o),x,a,()))) ab ?_;show _=(om t x a [],());rw[<-N,I]
 |false=>refine av (X:=(0+m<=m/\(take m l,())=PI ((d,t,n,o),x,a,()))) ab ?_;rw[R,bg];exact⟨aa,by show _=(om t x a [],());rw[N]⟩
def oo(t:LI)(x:Int)(a:List uC):LI:=gA (om t x a [])
abbrev Xw:=bu.ou ah5.Bd (λ((_,t,_,_),x,a,_)=>(oo t x a,())) λ((_,t,_,_),x,a,_)=>by show(oo t x a,())=(om t x a [],());rw[oo,bq]
def aep:=aZ Xw
abbrev Xx:=ah9.ou (λ(a,(_,x),_)=>(je a x,())) λ(a,(_,x),_)=>by show(je a x,())=(eY (λd=>d.1==x) a,());rw[je,bq]
def aes:=aZ Xx
theorem aau:aF au 112 f112:=ek
def rC(t:LI)(n x:Int)(a:List Dl)(b:List uC)(d:List Pf):Bool:=o0 a n x&&(decide (((oo t x b).length:Int)<n)&&(oo t x b).all λy=>tJ d x y (dp a x))
abbrev K7:HL [kz,iK,.sl ed,.sl dZ,.sl dX]->Prop:=λ((_,t,n,_),_,ds,fs,ps,_)=>(length t<1048576/\length fs<1048576/\(∀f∈fs,f.2.length<2^62))/\length ds<2^62/\length ps<2^62/\(∀y∈t,gb y)/\n<1048576
abbrev vj:HL [kz,iK,.sl ed,.sl dZ,.sl dX]->HO [.val .bool]:=λ((_,t,n,_),x,a,b,d,_)=>(rC t n x a b d,())
def leA(d t:LI)(n:Int)(o:cj)(x:Int)(a:List Dl)(b:List uC)(e:List Pf)(I:Int):St:=ay f112.ntmps 56 [(2,ag (.ro ed a)),(3,ag (.ro dZ b)),(4,ag (.ro dX e)),(5,al 0 0),(6,al 8 0),(11,sJ I)] [(8,[vI x]),(0,[.ro iK d,.ro iK t,vI n,.ro bM o])]
def leB(d t:LI)(n:Int)(o:cj)(x:Int)(a:List uC)(b:List Pf)(c:cj):St:=ay f112.ntmps 216 [(3,ag (.ro dZ a)),(4,ag (.ro dX b)),(5,al 0 0),(6,al 8 0),(12,al 200 0)] [(200,[.ro bM c]),(8,[vI x]),(0,[.ro iK d,.ro iK t,vI n,.ro bM o])]
def leC(d t:LI)(n:Int)(o:cj)(x:Int)(a:List Pf)(c:cj)(by':LI):St:=ay f112.ntmps 216 [(4,ag (.ro dX a)),(6,al 8 0),(12,al 200 0),(13,ag (.ro iK by'))] [(200,[.ro bM c]),(8,[vI x])]
def SW(x:Int)(a:List Pf)(c:cj)(by':LI)(g:Int):St:=ay f112.ntmps 216 [(4,ag (.ro dX a)),(6,al 8 0),(12,al 200 0),(47,ag (.ro iK by')),(48,sJ by'.length),(49,sJ g)] [(200,[.ro bM c]),(8,[vI x])]
theorem RN(t:LI)(x:Int):∀(a:List uC)(l:LI),(∀y∈l,y∈t)->∀y∈om t x a l,y∈t
 |[],l,h=>h
 |f::a,l,h=>RN t x a _ λy b=>by grind
theorem AW(t:LI)(x:Int):∀(a:List uC)(l:LI),(om t x a l).length<=l.length+a.length
 |[],l=>aQ _
 |f::a,l=>by
  have:=AW t x a (if f.1∈t/\f.1∉l/\x∈f.2 then l++[f.1]else l);have b:(if f.1∈t/\f.1∉l/\x∈f.2 then l++[f.1]else l).length<=l.length+1:=by split<;>simp
  show(om t x a _).length<=_;simp;omega
theorem afx:bu au 112 [kz,iK,.sl ed,.sl dZ,.sl dX] [.val .bool] cx K7 vj:=by
 have m:aS au (bw [aes,aep,aev]):=aV (a2 Xx) (aV (a2 Xw) (aV (a2 Xl) bY));refine cu (sp:=bw [aes,aep,aev]) aau ae ae ab ?_;rintro w M0 ⟨⟨d,t,n,o⟩,x,a,e,b,⟨⟩⟩;revert d t n o x a e b;intro d t (n:Int) o x a e b _ hp;obtain⟨⟨O,z,N⟩,u,A,P,U⟩:=hp;have O:t.length<1048576:=O;have z:e.length<1048576:=z;have u:a.length<2^62:=u;have A:b.length<2^62:=A;have U:n<1048576:=U;refine bN m ao 2 (leA d t n o x a e b (je a x)) True ?_ (λ_=>?_);refine av (X:=(a.length<2^62/\(leA d t n o x a e b (je a x)).aj True)) ab ?_;exact⟨u,aw trivial⟩;generalize F:je a x=I;have R:I.toNat<a.length\/I<0:=by rcases Int.lt_or_le I 0 with h|h;exact .inr h;left;rw[<-F,je,bq,eY]at h⊢;split at h;rename_i j;rw[ah j];omega;exact absurd h aa
 have s:o0 a n x=false->(false,())=vj ((d,t,n,o),x,a,e,b,()):=λh=>by show _=(rC t n x a e b,());rw[rC,h];rfl
 refine lL m ao 3 (λD=>rS (.sl bM) 200 D) (leB d t n o x e b) (λc=>c=dp a x/\o0 a n x=true) ?_ ?_
 ·refine av (X:=((decide (I<0)=true->(false,())=vj ((d,t,n,o),x,a,e,b,()))/\(decide (I<0)=false->(0<=I/\I < ↑a.length)/\I.toNat<a.length/\(((↑(a.getD I.toNat (0,[])).snd.length:Int) != n)=true->(false,())=vj ((d,t,n,o),x,a,e,b,()))/\(((↑(a.getD I.toNat (0,[])).snd.length:Int) != n)=false->(0<=I/\I < ↑a.length)/\I.toNat<a.length/\(leB d t n o x e b (a.getD I.toNat (0,[])).snd).aj ((a.getD I.toNat (0,[])).snd=dp a x/\o0 a n x=true))))) ab ?_;have Z:(a.getD I.toNat (0,[])).2=dp a x:=by rw[dp,F]
  rw[Z];refine⟨λh=>s (by rw[o0,F,cm (by have:=Odt h;omega)];rfl),λh=>?_⟩;have H:0<=I:=by have:=Odf h;omega
  have Q:I.toNat<a.length:=aa;refine⟨⟨H,aa⟩,Q,λj=>s ?_,λj=>?_⟩
  ·have j:¬((dp a x).length:Int)=n:=by simpa using j
   rw[o0,cm j,oY]
  ·have j:((dp a x).length:Int)=n:=by simpa using j
   exact⟨⟨H,aa⟩,Q,aw ⟨rfl,by rw[o0,F,b6 H,b6 j];rfl⟩⟩
 intro c ⟨L,r⟩;have x1:c.length<1048576:=by have h:=r;rw[o0,bD]at h;have:=Odt h.2;rw[L];omega
 refine lL m ao 3 (λD=>Jt iK 13 D) (leC d t n o x b c) (λl=>l=oo t x e/\((oo t x e).length:Int)<n) ?_ ?_;refine av (X:=(YB ((d,t,n,o),x,e,())/\(decide ((↑(oo t x e).length:Int)>=n)=true->(false,())=vj ((d,t,n,o),x,a,e,b,()))/\(decide ((↑(oo t x e).length:Int)>=n)=false->(leC d t n o x b c (oo t x e,()).fst).aj (oo t x e=oo t x e/\(↑(oo t x e).length:Int)<n)))) ab ?_;refine⟨⟨O,z,N⟩,λh=>?_,λh=>aw ⟨rfl,by have:=Odf h;omega⟩⟩;show _=(rC t n x a e b,());rw[rC,r,cm (show ¬((oo t x e).length:Int)<n by have:=Odt h;omega)];rfl;intro by' ⟨q,E⟩;have K:∀y∈by',y∈t:=by rw[q,oo,bq];exact RN t x e [] az
 have x0:by'.length<1048576:=by have:=AW t x e [];rw[q,oo,bq];simp at this;omega
 refine bN m ao 1 (SW x b c by' 0) True ?_ (λ_=>?_);refine av (X:=((SW x b c by' 0).aj True)) ab ?_;exact aw trivial;refine c2 m ao jH (λD=>bL iK 49 D) (SW x b c by') (λg=>∃k:Nat,k<=by'.length/\g=k/\∀y∈by'.take k,tJ b x y c=true) (λg=>by'.length-g.toNat)
  (λD=>bL iK 49 D) (SW x b c by') (λ_=>by'.all (λy=>tJ b x y c)=true) 0 (c:=ar (aq f112) 9) ab ab (aB ab ab ?_) ?_ ?_
 exact⟨0,aY _,rfl,az⟩
 ·intro i ⟨k,hk,V,f⟩;subst V;refine av (X:=((decide (↑k<(↑by'.length:Int))=true->(0<=(k:Int)/\ ↑k<(↑by'.length:Int))/\(k:Int).toNat<by'.length/\(b.length<2^62/\Bv (by'.getD (k:Int).toNat 0) c)/\((!tJ b x (by'.getD (k:Int).toNat 0) c)=true->(false,())=vj ((d,t,n,o),x,a,e,b,()))/\((!tJ b x (by'.getD (k:Int).toNat 0) c)=false->(SW x b c by' (i64.wrap (↑k+1))).aj ((∃C,C<=by'.length/\i64.wrap (↑k+1)=↑C/\∀(y:Int),y∈take C by'->tJ b x y c=true)/\by'.length-(i64.wrap (↑k+1)).toNat<by'.length-(k:Int).toNat)))/\(decide (↑k<(↑by'.length:Int))=false->(SW x b c by' ↑k).aj ((by'.all λy=>tJ b x y c)=true)))) ab ?_;rw[aJ];refine⟨λh=>?_,λh=>aw ?_⟩
  ·have p:k<by'.length:=by have:=cM h;omega
   have hg:by'.getD k 0=by'[k]:=by rw[bx,bO p,c7]
   have T:by'[k]∈by':=de p;rw[hg,a5 aa];refine⟨⟨aa,aa⟩,p,⟨A,aa,P _ (K _ T)⟩,λj=>?_,λj=>aw ⟨⟨k+1,p,rfl,λy G=>?_⟩,by rw[aJ];omega⟩⟩
   ·have W:tJ b x by'[k] c=false:=by simpa using j
    have Y:by'.all (λy=>tJ b x y c)=false:=by
     cases hb:by'.all (λy=>tJ b x y c)with
     |false=>rfl
     |true=>have:=all_eq_true.1 hb _ T;rw[W]at this;cases this
    show _=(rC t n x a e b,());rw[rC,r,b6 E,<-q,<-L,Y];rfl
   rw[dA p,pz,hV]at G;rcases G with G|rfl;exact f y G;simpa using j
  ·have:k=by'.length:=by have:=cL h;omega
   rw[this,bg]at f;exact all_eq_true.2 f
 intro i f;refine cq m ao _ _ ?_;refine av (X:=((true,())=vj ((d,t,n,o),x,a,e,b,()))) ab ?_;show _=(rC t n x a e b,());rw[rC,r,b6 E,<-q,<-L,f];rfl
def rD(t:LI)(n x:Int)(ds:List Dl)(fs:List uC)(ps:List Pf):Bool:=gA (rC t n x ds fs ps)
abbrev SC:=afx.ou (λ((_,t,n,_),x,ds,fs,ps,_)=>(rD t n x ds fs ps,())) λ((_,t,n,_),x,ds,fs,ps,_)=>by show(rD t n x ds fs ps,())=(rC t n x ds fs ps,());rw[rD,bq]
def Zf:=aZ SC
theorem aaD:aF au 70 f70:=ek
def jE(d t:LI)(n:Int)(ds:List Dl)(fs:List uC)(ps:List Pf):LI:=d.filter λx=>rD t n x ds fs ps
abbrev TA:HL [kz,.sl ed,.sl dZ,.sl dX]->Prop:=λ((d,t,n,_),ds,fs,ps,_)=>length d<1048576/\(length t<1048576/\length fs<1048576/\(∀f∈fs,f.2.length<2^62))/\length ds<2^62/\length ps<2^62/\(∀y∈t,gb y)/\n<1048576
abbrev K3:HL [kz,.sl ed,.sl dZ,.sl dX]->HO [.own iK]:=λ((d,t,n,_),ds,fs,ps,_)=>(jE d t n ds fs ps,())
def GF(d t:LI)(n:Int)(o:cj)(ds:List Dl)(fs:List uC)(ps:List Pf)(g:Int×Bool×Nat×LI):St:=ay f70.ntmps 56 [(1,ag (.ro ed ds)),(2,ag (.ro dZ fs)),(3,ag (.ro dX ps)),(4,al 0 0),(9,bif g.2.1 then ag (.v (.slice none 0 0))else ag (.sl 48 0 0 g.2.2.1 1)),(13,ag (.ro iK d)),(14,sJ d.length),(15,sJ g.1)] ((0,[.ro iK d,.ro iK t,vI n,.ro bM o])::(bif g.2.1 then []else [(48,[.ints .i64 g.2.2.1 g.2.2.2])]))
def YP(d t:LI)(n:Int)(ds:List Dl)(fs:List uC)(ps:List Pf)(g:Int×Bool×Nat×LI):Prop:=∃k:Nat,k<=d.length/\g.1=k/\g.2.2.2=jE (d.take k) t n ds fs ps/\g.2.2.1=g.2.2.2.length/\(g.2.1=true->g.2.2.2=[])
def quO(d t:LI)(n:Int)(ds:List Dl)(fs:List uC)(ps:List Pf)(g:Int×Bool×Nat×LI):Prop:=g.2.2.2=jE d t n ds fs ps/\g.2.2.1=g.2.2.2.length/\(g.2.1=true->g.2.2.2=[])
theorem MM{d t:LI}{n:Int}{ds:List Dl}{fs:List uC}{ps:List Pf}{k:Nat}(h:k<d.length):jE (d.take (k+1)) t n ds fs ps=jE (d.take k) t n ds fs ps++if rD t n d[k] ds fs ps=true then [d[k]]else []:=by
 rw[jE,dA h,nN];congr 1;by_cases a:rD t n d[k] ds fs ps=true;·simp_all
 simp_all
theorem afz:bu au 70 [kz,.sl ed,.sl dZ,.sl dX] [.own iK] cx TA K3:=by
 have r:aS au (bw [Zf]):=aV (a2 SC) bY;refine cu (sp:=bw [Zf]) aaD ae ae ab ?_;rintro w L ⟨⟨d,t,n,o⟩,ds,fs,ps,⟨⟩⟩;revert d t n o ds fs ps;intro d t n o ds fs ps _ ⟨A,C⟩;have A:d.length<1048576:=A;refine bN r ao 3 (GF d t n o ds fs ps (0,true,0,[])) True ?_ (λ_=>?_);refine av (X:=((GF d t n o ds fs ps (0,true,0,[])).aj True)) ab ?_;exact aw trivial;refine c2 r ao (λj=>[(48,rdJ 48 9 j)]) (λj=>(bL iK 15 j,TH 9 j,qy 9 j,dO iK 48 j)) (GF d t n o ds fs ps) (YP d t n ds fs ps) (λg=>d.length-g.1.toNat)
  (λj=>(bL iK 15 j,TH 9 j,qy 9 j,dO iK 48 j)) (GF d t n o ds fs ps) (quO d t n ds fs ps) (0,true,0,[]) (c:=ar (aq f70) 3) ab ab (aB ab ab ?_) ?_ ?_
 exact⟨0,aY _,rfl,rfl,rfl,λ_=>rfl⟩
 ·rintro⟨i,e,m,l⟩ N;revert i l;intro i l ⟨k,O,u,p,E,el⟩;have u:i=k:=u;have p:l=jE (d.take k) t n ds fs ps:=p;have z:m=l.length:=E;subst u;cases e with
  |true=>
   have y:l=[]:=el rfl;subst y;have I:m=0:=z;subst I;refine av (X:=((decide ((k:Int)<(d.length:Int))=true->(0<=(k:Int)/\(k:Int)<(d.length:Int))/\(k:Int).toNat<d.length/\K7 ((d,t,n,o),d.getD (k:Int).toNat 0,ds,fs,ps,())/\(rD t n (d.getD (k:Int).toNat 0) ds fs ps=true->0+1<=1/\1*8<=2^47/\1<=2^62/\(GF d t n o ds fs ps (i64.wrap ((k:Int)+1),false,1,[d.getD (k:Int).toNat 0])).aj (YP d t n ds fs ps (i64.wrap ((k:Int)+1),false,1,[d.getD (k:Int).toNat 0])/\d.length-(i64.wrap ((k:Int)+1)).toNat<d.length-(k:Int).toNat))/\(rD t n (d.getD (k:Int).toNat 0) ds fs ps=false->(GF d t n o ds fs ps (i64.wrap ((k:Int)+1),true,0,[])).aj (YP d t n ds fs ps (i64.wrap ((k:Int)+1),true,0,[])/\d.length-(i64.wrap ((k:Int)+1)).toNat<d.length-(k:Int).toNat)))/\(decide ((k:Int)<(d.length:Int))=false->(GF d t n o ds fs ps ((k:Int),true,0,[])).aj (quO d t n ds fs ps ((k:Int),true,0,[]))))) ab ?_;rw[aJ];refine⟨λh=>?_,λh=>aw ?_⟩
   ·have a:k<d.length:=by have:=cM h;omega
    have x:d.getD k 0=d[k]:=by rw[bx,bO a,c7]
    have b:=MM (t:=t) (n:=n) (ds:=ds) (fs:=fs) (ps:=ps) a;rw[<-p]at b;have f:d.length-((k+1:Nat):Int).toNat<d.length-(k:Int).toNat:=by rw[aJ,aJ];omega
    rw[x,a5 aa];refine⟨⟨aa,aa⟩,a,C,λq=>⟨ae,ae,ae,aw ⟨⟨k+1,a,rfl,?_,rfl,λh=>(by cases h)⟩,f⟩⟩,λq=>aw ⟨⟨k+1,a,rfl,?_,rfl,λ_=>rfl⟩,f⟩⟩;rw[b,ah q];rfl;rw[b,ai (by rw[q];decide)];rfl
   ·have:k=d.length:=by have:=cL h;omega
    rw[this,bg]at p;exact⟨p,rfl,λ_=>rfl⟩
  |false=>
   refine av (X:=((decide ((k:Int)<(d.length:Int))=true->(0<=(k:Int)/\(k:Int)<(d.length:Int))/\(k:Int).toNat<d.length/\K7 ((d,t,n,o),d.getD (k:Int).toNat 0,ds,fs,ps,())/\(rD t n (d.getD (k:Int).toNat 0) ds fs ps=true->0+1<=1/\m<=m/\(m+1)*8<=2^47/\m+1<=2^62/\(GF d t n o ds fs ps (i64.wrap ((k:Int)+1),false,m+1,take m l++take 1 [d.getD (k:Int).toNat 0])).aj (YP d t n ds fs ps (i64.wrap ((k:Int)+1),false,m+1,take m l++take 1 [d.getD (k:Int).toNat 0])/\d.length-(i64.wrap ((k:Int)+1)).toNat<d.length-(k:Int).toNat))/\(rD t n (d.getD (k:Int).toNat 0) ds fs ps=false->(GF d t n o ds fs ps (i64.wrap ((k:Int)+1),false,m,l)).aj (YP d t n ds fs ps (i64.wrap ((k:Int)+1),false,m,l)/\d.length-(i64.wrap ((k:Int)+1)).toNat<d.length-(k:Int).toNat)))/\(decide ((k:Int)<(d.length:Int))=false->(GF d t n o ds fs ps ((k:Int),false,m,l)).aj (quO d t n ds fs ps ((k:Int),false,m,l))))) ab ?_;rw[aJ];have H:l.length<=k:=by have s:l=jE (d.take k) t n ds fs ps:=p;rw[s,jE];exact fw (nM _ _) (by rw[c6];omega)
   refine⟨λh=>?_,λh=>aw ?_⟩
   ·have a:k<d.length:=by have:=cM h;omega
    have x:d.getD k 0=d[k]:=by rw[bx,bO a,c7]
    have b:=MM (t:=t) (n:=n) (ds:=ds) (fs:=fs) (ps:=ps) a;rw[<-p]at b;have f:d.length-((k+1:Nat):Int).toNat<d.length-(k:Int).toNat:=by rw[aJ,aJ];omega
    rw[x,a5 aa,z,bg];refine⟨⟨aa,aa⟩,a,C,λq=>⟨ae,aa,aa,aa,aw ⟨⟨k+1,a,rfl,?_,by show l.length+1=(l++[d[k]]).length;simp,λh=>(by cases h)⟩,f⟩⟩,λq=>aw ⟨⟨k+1,a,rfl,?_,rfl,λh=>(by cases h)⟩,f⟩⟩;rw[b,ah q];rfl;rw[b,ai (by rw[q];decide)];exact(bF l).symm
   ·have:k=d.length:=by have:=cL h;omega
    rw[this,bg]at p;exact⟨p,z,λh=>(by cases h)⟩
 rintro⟨i,e,m,l⟩ P;revert i l;intro(i:Int) (l:LI) ⟨F,q,G⟩;have D:l=jE d t n ds fs ps:=F;have K:m=l.length:=q;refine cq r ao _ _ ?_;cases e with
 |true=>have y:l=[]:=G rfl;refine av (X:=(([],())=K3 ((d,t,n,o),ds,fs,ps,()))) ab ?_;show _=(jE d t n ds fs ps,());rw[<-D,y]
 |false=>refine av (X:=(0+m<=m/\(take m l,())=K3 ((d,t,n,o),ds,fs,ps,()))) ab ?_;rw[K,bg];exact⟨aa,by show _=(jE d t n ds fs ps,());rw[D]⟩
end deal
end Go.Proofs.YtofofalgjibokaaGreatDoor
/- A rite: finish. Printed by tools/gen_rt13.py. -/
namespace Go.Proofs.YtofofalgjibokaaGreatDoor
namespace rite
open bf deal Go.Eng.Ob
def dN(R:Rt):LI:=gA (jE R.aE R.aL R.bG R.aG R.aU R.aM)
def h8(R:Rt):List Pt×Int:=law22.uG R.aE R.bG R.bJ (dN R) R.aG
abbrev SD:=afz.ou (λ((d,t,n,_),a,b,c,_)=>(gA (jE d t n a b c),())) λ((d,t,n,_),a,b,c,_)=>by show(gA (jE d t n a b c),())=(jE d t n a b c,());rw[bq]
def akt:=aZ SD
abbrev OA:=aaR.ou (λ((d,_,n,o),q,a,_)=>((law22.uG d n o q a).1,(law22.uG d n o q a).2,())) λ((d,t,n,o),q,a,_)=>by show((law22.uG d n o q a).1,(law22.uG d n o q a).2,())=((pM d n o q a).1,(pM d n o q a).2,());rw[law22.uG,bq]
def agW:=aZ OA
theorem TG(R:Rt):(dN R).length<=R.aE.length:=by rw[dN,bq];exact nM _ _
theorem KS(R:Rt)(h:R.bG<1000):(h8 R).1.length<1000:=by
 rw[h8,law22.uG,bq,pM,xq];split
 ·split
  ·rename_i a;rcases X1 R.aG (dL R.aE R.bJ (dN R)).1 (dL R.aE R.bJ (dN R)).2.1 R.bG _ (aQ _) (λx b=>all_eq_true.1 a x (by simp_all))with k|k;·simp_all
   show(jS _ _ _ _).length<_;omega
  ·simp_all
 ·simp_all
def iJ(R:Rt):Option (LI×List Pt×Fr×LI)×Int:=
 if(h8 R).2=0 then
  if R.me∈R.aL then
   if(iE R (dN R)).2=0 then(some (dN R,(h8 R).1,(iE R (dN R)).1,rP (dN R) (h8 R).1),0)else(none,(iE R (dN R)).2)
  else(some (dN R,(h8 R).1,0,rP (dN R) (h8 R).1),0)
 else(none,(h8 R).2)
def l8(R:Rt):ak:=match (iJ R).1 with
 |some e=>um R e
 |none=>bV {R with bb:=(iJ R).2}
theorem IB:aF au 39 Tryz.f39:=ek
abbrev lE:Func:=Tryz.f39
abbrev aaN:=bw [akt,agW,aco]
theorem kc:aS au aaN:=aV (a2 SD) (aV (a2 OA) (aV (fgk Xm) bY))
def fiA(p:Nat):St:=ay lE.ntmps 8 [(0,aT p)] []
def fiB(R:Rt):St:=ay lE.ntmps 14 [(0,al 8 0)] (kG R (b7++[vI R.bb]))
def fiC(R:Rt)(n:Nat)(q:LI):St:=ay lE.ntmps 143 [(0,al 8 0),(3,ag (.sl 142 0 0 n 1))] ((142,[.ints .i64 n q])::kG R (b7++[vI R.bb]))
def fiD(R:Rt)(q:LI):St:=ay lE.ntmps 143 [(0,al 8 0),(3,ag (.ro iK q))] (kG R (b7++[vI R.bb]))
def Xg(R:Rt)(q:LI)(g:Nat×List Pt×Int)(a:g9):St:=ay lE.ntmps 216 ([(0,al 8 0),(3,ag (.ro iK q)),(4,ag (.sl 215 0 0 g.1 12)),(5,sJ g.2.2)]++a) ((215,[.row bM g.1 g.2.1])::kG R (b7++[vI R.bb]))
def fiG(R:Rt)(e:Int):St:=ay lE.ntmps 14 [(2,gv)] (kG R (b7++[vI (e)]))
def fiN:St:=ay lE.ntmps 8 [(2,gv)] []
def fiH(R:Rt)(q:LI)(c:List Pt)(e:Int):St:=ay lE.ntmps 217 [(0,al 8 0),(3,ag (.ro iK q)),(4,ag (.ro bM c)),(5,sJ e),(6,al 216 0)] ((216,[.row .fr 1 [(0:Fr)]])::kG R (b7++[vI R.bb]))
def Eh(p:Nat)(q:LI)(c:List Pt)(s:Fr)(b i:Nat)(a:g9):St:=ay lE.ntmps b ([(0,aT p),(3,ag (.ro iK q)),(4,ag (.ro bM c)),(6,al i 0)]++a) [(i,[.row .fr 1 [s]])]
def fiO(R:Rt)(q:LI)(c:List Pt)(s:Fr)(a:g9):St:=ay lE.ntmps 14 ([(0,al 8 0),(3,ag (.ro iK q)),(4,ag (.ro bM c)),(6,al 0 0)]++a) ((0,[.row .fr 1 [s]])::kG R (b7++[vI R.bb]))
def fiZ(R:Rt)(e:LI×List Pt×Fr×LI):St:=ay lE.ntmps 14 [(2,gv)] (kG R (pE e++[vI R.bb]))
section
variable [W3]
abbrev yd:cJ:=mO au aaN sha.fE
theorem Xh(R:Rt)(q:LI)(b:q.length<100000)(c:List Pt)(d:c.length<1000)(s:Fr)(G:ak){Q:SV->ak->Prop}(a:Q gv (ak.sep (um R (q,c,s,rP q c)) G)):
  aR au ((aq lE).drop 8) (GH yd lE.ntmps (Eh R.p q c s 8 0 []) (ak.sep (bV R) G)) (du (yd) lE Q) (du (yd) lE Q) (λ_ _ _=>False):=by
 refine a7 (by unfold bV;exact(bZ _ _ _).symm) ?_;refine jJ [0] (fiO R q c s []) ?_;refine gcd kc 2 (λ_=>()) (λ_=>fiZ R (q,c,s,rP q c)) (λ_=>True) ?_ (λ_ _=>?_);intros;refine @av ((∀(g:Nat)(s:Sigma a6),sha.fE g=some s->Decidable.rec (λh=>(λx=>if g=1 then some ⟨Kd.arr 64 sha.uK,sha.ly⟩else none) h) (λh=>(λx=>some ⟨Kd.arr 8 sha.uK,sha.gk⟩) h) (instDecidableEqNat g 0)=some s)/\VE (q,c,())/\(fiZ R (q,c,s,rP q c)).aj True) _ ?_ ?_;kernel_rfl;exact⟨λg s h=>h,⟨b,aa⟩,aw trivial⟩;refine gQ (E:=(yd)) (bl:=hI R (pE (q,c,s,rP q c)++[vI R.bb])) [] [8,9,10,11,12,13] 9 (fiN) ?_;refine a7 (G':=ak.sep (um R (q,c,s,rP q c)) G) (by unfold um;exact bZ _ _ _) ?_;exact tP kc gv a
theorem ah1(R:Rt)(e:Int)(q:LI)(g:Nat×List Pt×Int)(a:g.2.2=e)(G:ak){Q:SV->ak->Prop}(b:Q gv (ak.sep (bV {R with bb:=e}) G)):
  aR au (fC (ar (aq lE) 4)++(aq lE).drop 5) (GH ((yd).cV 8 R.p) lE.ntmps (Xg R q g [(38,aD true)]) G) (du (yd) lE Q) (du (yd) lE Q) (λ_ _ _=>False):=by
 subst a;refine e6 kc 2 (fiG R g.2.2) ?_;refine gQ (E:=(yd)) (bl:=hI {R with bb:=g.2.2} (b7++[vI g.2.2])) [] [8,9,10,11,12,13] 9 (fiN) ?_;refine a7 (G':=ak.sep (bV {R with bb:=g.2.2}) G) (by unfold bV;exact bZ _ _ _) ?_;refine jy kc ao gv ?_ b;intros;refine @av (SV.is (TV.one (ax.v (Value.slice none 0 0)))=gv) _ ?_ ?_;kernel_rfl;rfl
theorem afr(R:Rt)(e:Int)(q:LI)(c:List Pt)(s:Fr)(G:ak){Q:SV->ak->Prop}(a:Q gv (ak.sep (bV {R with bb:=e}) G)):
  aR au (fC (ar (fC (ar (aq lE) 7)) 2)++(aq lE).drop 8) (GH yd lE.ntmps (Eh R.p q c s 8 0 [(5,sJ e),(52,aD true)]) (ak.sep (bV R) G)) (du (yd) lE Q) (du (yd) lE Q) (λ_ _ _=>False):=by
 refine a7 (by unfold bV;exact(bZ _ _ _).symm) ?_;refine jJ [0] (fiO R q c s [(5,sJ e)]) ?_;refine e6 kc 2 (fiG R e) ?_;refine gQ (E:=(yd)) (bl:=hI {R with bb:=e} (b7++[vI e])) [] [8,9,10,11,12,13] 9 (fiN) ?_;refine a7 (G':=ak.sep (bV {R with bb:=e}) G) (by unfold bV;exact bZ _ _ _) ?_;refine jy kc ao gv ?_ a;intros;refine @av (SV.is (TV.one (ax.v (Value.slice none 0 0)))=gv) _ ?_ ?_;kernel_rfl;rfl
end
theorem Yf:fk au sha.fE 39 (λz:dR=>[aT z.R.p]) dR.ok dR.eF (λ_ (_:Unit)=>gv) (λz _=>ak.sep (l8 z.R) (bX z.H)) (λ_ _=>True):=by
 refine dD (sp:=aaN) IB ab (λz=>by show 1<=lE.ntmps;exact Odt ab) (λz _=>rfl) ?_;rintro⟨R,H⟩ ⟨r,t,a⟩ _;have a:fm r R H:=a;have L:=a.dl;have I:=a.tk;have C:=a.bJ;have A:=a.bG;have u:=a.aG;have x:=a.aU;have D:=a.aM;have y:=a.frl;have q:=a.aK;have F:=TG R;have m:=KS R A;have s:shP R:=⟨aa,q,aa,aa,a.me,a.pubs⟩;show aR _ _ (GH _ _ _ (ak.sep (bV R) (bX H))) _ _ _;generalize K:bX H=G;refine e6 kc 1 (fiA R.p) ?_;refine a7 (G':=ak.obj (hI R (b7++[vI R.bb])) R.p G) (by unfold bV;exact(bZ _ _ _).symm) ?_;refine jJ [0] (fiB R) ?_;refine gcd kc 1 (λd=>(qy 3 d,dO iK 142 d)) (λg=>fiC R g.1 g.2) (λg=>g=((dN R).length,dN R)) ?_ (λg l=>?_);intros;refine @av (0+R.aG.length<=R.aG.length/\0+R.aU.length<=R.aU.length/\0+R.aM.length<=R.aM.length/\TA ((R.aE,R.aL,R.bG,R.bJ),take R.aG.length R.aG,take R.aU.length R.aU,take R.aM.length R.aM,())/\(fiC R ((gA (jE R.aE R.aL R.bG (take R.aG.length R.aG) (take R.aU.length R.aU) (take R.aM.length R.aM)),()).fst.length,(gA (jE R.aE R.aL R.bG (take R.aG.length R.aG) (take R.aU.length R.aU) (take R.aM.length R.aM)),()).fst).fst ((gA (jE R.aE R.aL R.bG (take R.aG.length R.aG) (take R.aU.length R.aU) (take R.aM.length R.aM)),()).fst.length,(gA (jE R.aE R.aL R.bG (take R.aG.length R.aG) (take R.aU.length R.aU) (take R.aM.length R.aM)),()).fst).snd).aj (((gA (jE R.aE R.aL R.bG (take R.aG.length R.aG) (take R.aU.length R.aU) (take R.aM.length R.aM))).length,gA (jE R.aE R.aL R.bG (take R.aG.length R.aG) (take R.aU.length R.aU) (take R.aM.length R.aM)))=((dN R).length,dN R))) _ ?_ ?_;kernel_rfl;refine⟨aa,aa,aa,⟨by show R.aE.length<_;omega,⟨by show R.aL.length<_;omega,by show(take _ _).length<_;rw[c6];omega,λf w=>by have:=a.whom f (kJ w);omega⟩,by show(take _ _).length<_;rw[c6];omega,by show(take _ _).length<_;rw[c6];omega,a.tI,by show R.bG<_;omega⟩,aw ?_⟩;rw[bg,bg,bg];rfl;subst l;refine sq 3 142 (dN R).length 1 .i64 (dN R) ab ab rfl ?_;refine fh (fiD R (dN R)) ?_;refine gcd kc 1 (λd=>(qy 4 d,dO bM 215 d,bL iK 5 d)) (λg=>Xg R (dN R) g []) (λg=>g=((h8 R).1.length,(h8 R).1,(h8 R).2)) ?_ (λg l=>?_);intros;refine @av (0+R.aG.length<=R.aG.length/\Tz ((R.aE,R.aL,R.bG,R.bJ),dN R,take R.aG.length R.aG,())/\(Xg R (dN R) (((law22.uG R.aE R.bG R.bJ (dN R) (take R.aG.length R.aG)).fst,(law22.uG R.aE R.bG R.bJ (dN R) (take R.aG.length R.aG)).snd,()).fst.length,((law22.uG R.aE R.bG R.bJ (dN R) (take R.aG.length R.aG)).fst,(law22.uG R.aE R.bG R.bJ (dN R) (take R.aG.length R.aG)).snd,()).fst,(law22.uG R.aE R.bG R.bJ (dN R) (take R.aG.length R.aG)).snd) []).aj (((law22.uG R.aE R.bG R.bJ (dN R) (take R.aG.length R.aG)).fst.length,(law22.uG R.aE R.bG R.bJ (dN R) (take R.aG.length R.aG)).fst,(law22.uG R.aE R.bG R.bJ (dN R) (take R.aG.length R.aG)).snd)=((h8 R).fst.length,(h8 R).fst,(h8 R).snd))) _ ?_ ?_;kernel_rfl;refine⟨aa,⟨by show R.bJ.length<_;omega,by show(dN R).length<_;omega,by show(take _ _).length<_;rw[c6];omega,by show R.bG<_;omega⟩,aw ?_⟩;rw[bg];rfl;refine gcd kc 1 (λd=>bL .bool 38 d) (λb=>Xg R (dN R) g [(38,aD b)]) (λb=>b=!decide ((h8 R).2=0)) ?_ (λb i=>?_);intros;refine @av ((Xg R (dN R) g [(38,aD (g.snd.snd != 0))]).aj ((g.snd.snd != 0)=!decide ((h8 R).snd=0))) _ ?_ ?_;kernel_rfl;exact aw (by rw[l];rfl);cases b
 ·have o:(h8 R).2=0:=by
   by_cases h:(h8 R).2=0;exact h;rw[cm h]at i;cases i
  refine fF (ar (aq lE) 4) ?_;subst l;refine Mg 4 215 (h8 R).1.length 12 bM (h8 R).1 ?_;refine e6 kc 1 (fiH R (dN R) (h8 R).1 (h8 R).2) ?_;refine gQ (E:=(yd)) (bl:=hI R (b7++[vI R.bb])) [216] [8,9,10,11,12,13] 9 (Eh R.p (dN R) (h8 R).1 0 217 216 []) ?_;refine a7 (G':=ak.sep (bV R) G) (by unfold bV;exact bZ _ _ _) ?_;refine Eu kc 0 [(0,216)] (Eh R.p (dN R) (h8 R).1 0 8 0 []) ?_;refine eX 7 (bS (ar (aq lE) 6)) ?_;refine eG kc 1 (Eh R.p (dN R) (h8 R).1 0 8 0 [(43,aT R.p)]) ?_;refine ju (E:=(yd)) (cT (λ_=>G) (PA sha.fE)) R a.tk Ec (λ_ _=>?_);refine eK ?_;by_cases n:R.me∈R.aL
  ·have j:decide (R.me∈R.aL)=true:=b6 n;rw[j];refine jX (ar (aq lE) 7) ?_;refine eX 8 (bS (ar (fC (ar (aq lE) 7)) 0)) ?_;refine eG kc 2 (Eh R.p (dN R) (h8 R).1 0 8 0 [(46,aT R.p),(47,ag (.ro iK (dN R)))]) ?_;refine ju (E:=(yd)) (cT (λ_=>G) (abE sha.fE)) (R,dN R) ⟨s,(by omega:(dN R).length<100000),C⟩ zK (λ_ _=>?_);refine eG kc 8 (Eh R.p (dN R) (h8 R).1 (iE R (dN R)).1 8 0 [(5,sJ (iE R (dN R)).2)]) (eK ?_);refine gcd kc 1 (λd=>bL .bool 52 d) (λb=>Eh R.p (dN R) (h8 R).1 (iE R (dN R)).1 8 0 [(5,sJ (iE R (dN R)).2),(52,aD b)]) (λb=>b=!decide ((iE R (dN R)).2=0)) ?_ (λb i=>?_);intros;refine @av ((Eh R.p (dN R) (h8 R).fst (iE R (dN R)).fst 8 0 [(5,sJ (iE R (dN R)).snd),(52,aD ((iE R (dN R)).snd != 0))]).aj (((iE R (dN R)).snd != 0)=!decide ((iE R (dN R)).snd=0))) _ ?_ ?_;kernel_rfl;exact aw rfl;cases b
   ·have k:(iE R (dN R)).2=0:=by
     by_cases h:(iE R (dN R)).2=0;exact h;rw[cm h]at i;cases i
    refine fF (ar (fC (ar (aq lE) 7)) 2) ?_;refine fh (Eh R.p (dN R) (h8 R).1 (iE R (dN R)).1 8 0 []) ?_;refine Xh R (dN R) aa (h8 R).1 m (iE R (dN R)).1 G ⟨(),trivial,bR _,?_⟩;have e:(iJ R).1=some (dN R,(h8 R).1,(iE R (dN R)).1,rP (dN R) (h8 R).1):=by rw[iJ,ah o,ah n,ah k]
    show _=ak.sep (l8 R) G;unfold l8;rw[e]
   ·have k:¬(iE R (dN R)).2=0:=λh=>by rw[b6 h]at i;cases i
    refine jX (ar (fC (ar (aq lE) 7)) 2) ?_;refine afr R (iE R (dN R)).2 (dN R) (h8 R).1 (iE R (dN R)).1 G ⟨(),trivial,bR _,?_⟩;have e:iJ R=(none,(iE R (dN R)).2):=by rw[iJ,ah o,ah n,ai k]
    show _=ak.sep (l8 R) G;unfold l8;rw[e]
  ·have j:decide (R.me∈R.aL)=false:=cm n;rw[j];refine fF (ar (aq lE) 7) ?_;refine fh (Eh R.p (dN R) (h8 R).1 0 8 0 []) ?_;refine Xh R (dN R) aa (h8 R).1 m 0 G ⟨(),trivial,bR _,?_⟩;have e:(iJ R).1=some (dN R,(h8 R).1,0,rP (dN R) (h8 R).1):=by rw[iJ,ah o,ai n]
   show _=ak.sep (l8 R) G;unfold l8;rw[e]
 ·have o:¬(h8 R).2=0:=λh=>by rw[b6 h]at i;cases i
  refine jX (ar (aq lE) 4) ?_;refine ah1 R (h8 R).2 (dN R) g (by rw[l]) G ⟨(),trivial,bR _,?_⟩;have e:iJ R=(none,(h8 R).2):=by rw[iJ,ai o]
  show _=ak.sep (l8 R) G;unfold l8;rw[e]
end rite
end Go.Proofs.YtofofalgjibokaaGreatDoor
/- A rite: Tick, its loop's parts. Printed by tools/gen_rt14.py. -/
namespace Go.Proofs.YtofofalgjibokaaGreatDoor
namespace rite
open bf deal Go.Eng.Ob
open Go.Hbn(dd a8 ez)
theorem yb:aF au 10 Tryz.f10:=ek
abbrev Al:Func:=Tryz.f10
abbrev acH:=bw []
theorem dU:aS au acH:=bY
abbrev o9:Code:=ar (aq Al) 5
abbrev M1:cw:=cg (ar (aO o9) 2)
abbrev bh(R:Rt)(k:Int):Rt:={R with ba:=k}
def jl(R:Rt)(b:Int):Bool:=decide (R.ba<4)&&decide (b>=i64.wrap (R.start+i64.wrap (R.ba*R.dK)))
abbrev U0:cb:=[.v (s6 36),.v (s6 37),.v (s6 38),.v (s6 39)]
def eZ(p:Nat)(a:Int)(n:Nat)(l:List (Int×aP))(d i:Nat)(b:g9):St:=ay Al.ntmps d ([(0,aT p),(1,sJ a),(5,ag (.sl 1 0 0 4 1)),(6,ag (.sl i 0 0 n 8))]++b) [(1,U0),(i,[.row cl n l])]
def qB(R:Rt)(a:Int)(n:Nat)(l:List (Int×aP))(b:g9):St:=ay Al.ntmps 15 ([(0,al 9 0),(1,sJ a),(5,ag (.sl 1 0 0 4 1)),(6,ag (.sl 8 0 0 n 8))]++b) ((1,U0)::(8,[.row cl n l])::E7 R (b7++[vI R.bb]))
def Wa(R:Rt)(e:LI×List Pt×Fr×LI)(a:Int)(n:Nat)(l:List (Int×aP))(b:g9):St:=ay Al.ntmps 15 ([(0,al 9 0),(1,sJ a),(5,ag (.sl 1 0 0 4 1)),(6,ag (.sl 8 0 0 n 8))]++b) ((1,U0)::(8,[.row cl n l])::E7 R (pE e++[vI R.bb]))
section
variable [W3]
abbrev uN:cJ:=mO au acH sha.fE
abbrev gZ:=GH uN Al.ntmps
theorem TX(R:Rt)(c:Int)(l:List (Int×aP))(n:Nat)(G:ak){m r:aA}{x:Nat->aA}(g:jl R c=true->aR au ((aO o9).drop 2) (gZ (eZ R.p c n l 9 8 [(33,aD true)]) (ak.sep (bV R) G)) m r x)(j:jl R c=false->∀a w,gZ (eZ R.p c n l 9 8 []) (ak.sep (bV R) G) a w->x (cH o9) a w):
  aR au (aO o9) (gZ (eZ R.p c n l 9 8 []) (ak.sep (bV R) G)) m r x:=by
 refine a7 (by unfold bV;exact(bZ _ _ _).symm) ?_;refine jJ [0] (qB R c n l []) ?_;refine jY dU ao 1 33 (λo=>bL .bool 33 o) (λb=>qB R c n l [(33,aD b)]) (λb=>b=jl R c) (λ_=>False) (λ_ _=>False) ?_ (λb f=>?_) (λ_ _ _ h _=>h.elim) (λ_ _ _ _ h _=>h.elim);intros;refine @av ((decide (R.ba<4)=true->(qB R c n l [(33,aD (decide (c>=i64.wrap (R.start+i64.wrap (R.ba*R.dK)))))]).aj (decide (c>=i64.wrap (R.start+i64.wrap (R.ba*R.dK)))=jl R c))/\(decide (R.ba<4)=false->(qB R c n l [(33,aD false)]).aj (false=jl R c))) _ ?_ ?_;kernel_rfl;exact⟨λh=>aw (by unfold jl;rw[h];rfl),λh=>aw (by unfold jl;rw[h];rfl)⟩;refine gQ (E:=(uN)) (bl:=hI R (b7++[vI R.bb])) [1,8] [9,10,11,12,13,14] 10 (eZ R.p c n l 9 8 [(33,aD b)]) ?_;refine a7 (G':=ak.sep (bV R) G) (by unfold bV;exact bZ _ _ _) ?_;cases b;refine fF (ar (aO o9) 1) ?_;refine lY dU ao (λ_=>False) (λ_=>False) (λi d=>i=cH o9/\d.le (cS (uN)) (eZ R.p c n l 9 8 []) True) ?_ (λ_ _ _ h _=>h.elim) (λ_ _ _ h _=>h.elim) (λi d a w e k=>?_);intros;refine @av (0=0/\(eZ R.p c n l 9 8 []).aj True) _ ?_ ?_;kernel_rfl;exact⟨rfl,aw trivial⟩;obtain⟨rfl,e⟩:=e;exact j f.symm a w (k.le e).2;refine jX (ar (aO o9) 1) ?_;exact g f.symm
theorem acP(R:Rt)(e:LI×List Pt×Fr×LI)(c:Int)(l:List (Int×aP))(n:Nat)(G:ak){m r:aA}{x:Nat->aA}(j:jl R c=true->aR au ((aO o9).drop 2) (gZ (eZ R.p c n l 9 8 [(33,aD true)]) (ak.sep (um R e) G)) m r x)(k:jl R c=false->∀a w,gZ (eZ R.p c n l 9 8 []) (ak.sep (um R e) G) a w->x (cH o9) a w):
  aR au (aO o9) (gZ (eZ R.p c n l 9 8 []) (ak.sep (um R e) G)) m r x:=by
 refine a7 (by unfold um;exact(bZ _ _ _).symm) ?_;refine jJ [0] (Wa R e c n l []) ?_;refine jY dU ao 1 33 (λq=>bL .bool 33 q) (λb=>Wa R e c n l [(33,aD b)]) (λb=>b=jl R c) (λ_=>False) (λ_ _=>False) ?_ (λb g=>?_) (λ_ _ _ h _=>h.elim) (λ_ _ _ _ h _=>h.elim);intros;refine @av ((decide (R.ba<4)=true->(Wa R e c n l [(33,aD (decide (c>=i64.wrap (R.start+i64.wrap (R.ba*R.dK)))))]).aj (decide (c>=i64.wrap (R.start+i64.wrap (R.ba*R.dK)))=jl R c))/\(decide (R.ba<4)=false->(Wa R e c n l [(33,aD false)]).aj (false=jl R c))) _ ?_ ?_;kernel_rfl;exact⟨λh=>aw (by unfold jl;rw[h];rfl),λh=>aw (by unfold jl;rw[h];rfl)⟩;refine gQ (E:=(uN)) (bl:=hI R (pE e++[vI R.bb])) [1,8] [9,10,11,12,13,14] 10 (eZ R.p c n l 9 8 [(33,aD b)]) ?_;refine a7 (G':=ak.sep (um R e) G) (by unfold um;exact bZ _ _ _) ?_;cases b;refine fF (ar (aO o9) 1) ?_;refine lY dU ao (λ_=>False) (λ_=>False) (λi d=>i=cH o9/\d.le (cS (uN)) (eZ R.p c n l 9 8 []) True) ?_ (λ_ _ _ h _=>h.elim) (λ_ _ _ h _=>h.elim) (λi d a w f o=>?_);intros;refine @av (0=0/\(eZ R.p c n l 9 8 []).aj True) _ ?_ ?_;kernel_rfl;exact⟨rfl,aw trivial⟩;obtain⟨rfl,f⟩:=f;exact k g.symm a w (o.le f).2;refine jX (ar (aO o9) 1) ?_;exact j g.symm
theorem acK(R:Rt)(H:a8)(e:dR.ok (⟨(bh R 1),H⟩:dR))(d:Int)(l:List (Int×aP))(k:l.length<10000000)(i:∀q,(eT (⟨(bh R 1),H⟩:dR) q).length<2000000){m r:aA}{x:Nat->aA}(h:∀q,∀a w,gZ (eZ R.p d (l++eT (⟨(bh R 1),H⟩:dR) q).length (l++eT (⟨(bh R 1),H⟩:dR) q) 9 8 []) (lF (⟨(bh R 1),H⟩:dR) q).eF a w->m a w):
  aR au ((aO o9).drop 2) (gZ (eZ R.p d l.length l 9 8 [(33,aD true)]) (ak.sep (bV (bh R 0)) (bX H))) m r x:=by
 refine dC (E:=(uN)) (c:=ar (aO o9) 2) m ab ab ?_ (cv λ_ _ h=>h);refine a7 (by unfold bV;exact(bZ _ _ _).symm) ?_;refine jJ [0] (qB (bh R 0) d l.length l []) ?_;refine eX 6 (bS (ar M1 0)) ?_;refine iS dU 6 (λ_=>()) (λ_=>qB (bh R 0) d l.length l [(39,ag (.pe 1 0 0 1))]) (λ_=>True) ?_ (λ_ _=>?_);intros;refine @av ((0<=(bh R 0).ba/\(bh R 0).ba<(↑(4:Nat):Int))/\(qB (bh R 0) d l.length l [(39,SV.is (TV.one (ax.pe 1 0 0 1)))]).aj True) _ ?_ ?_;kernel_rfl;exact⟨⟨by show(0:Int)<=0;decide,by show(0:Int)<4;decide⟩,aw trivial⟩;refine IM 39 1 0 0 1 0 ab rfl ?_;refine eG dU 8 (qB (bh R 0) d l.length l [(7,ag (.v (s6 36)))]) (eK ?_);refine e6 dU 1 (qB (bh R 1) d l.length l [(7,ag (.v (s6 36)))]) ?_;refine gQ (E:=(uN)) (bl:=hI (bh R 1) (b7++[vI R.bb])) [1,8] [9,10,11,12,13,14] 10 (eZ R.p d l.length l 9 8 [(7,ag (.v (s6 36)))]) ?_;refine a7 (G':=ak.sep (bV (bh R 1)) (bX H)) (by unfold bV;exact bZ _ _ _) ?_;refine eX 8 (bS (ar M1 2)) ?_;refine eG dU 3 (eZ R.p d l.length l 9 8 [(48,ag (.sl 8 0 0 l.length 8)),(49,ag (.v (s6 36))),(50,aT R.p)]) ?_;refine ju (E:=(uN)) (agc sha.fE) (⟨(bh R 1),H⟩:dR) e Od (λq _=>?_);have n:=i q;refine iS dU 6 (λj=>dO cl 41 j) (λb=>eZ R.p d (l.length+(eT (⟨(bh R 1),H⟩:dR) q).length) b 42 41 []) (λb=>b=l++(eT (⟨(bh R 1),H⟩:dR) q)) ?_ (λb f=>eK ?_);intros;refine @av (l.length<=l.length/\(l.length+(eT {R:=bh R 1,H:=H} q).length)*80<=2^47/\l.length+(eT {R:=bh R 1,H:=H} q).length<=2^62/\(eZ R.p d (l.length+(eT {R:=bh R 1,H:=H} q).length) (take l.length l++eT {R:=bh R 1,H:=H} q) 42 41 []).aj (take l.length l++eT {R:=bh R 1,H:=H} q=l++eT {R:=bh R 1,H:=H} q)) _ ?_ ?_;kernel_rfl;refine⟨aQ _,aa,aa,aw ?_⟩;rw[bg];subst f;refine Eu dU 0 [(8,41)] (eZ R.p d (l.length+(eT (⟨(bh R 1),H⟩:dR) q).length) (l++(eT (⟨(bh R 1),H⟩:dR) q)) 9 8 []) ?_;refine cv λa w g=>h q a w ?_;rw[bA];exact g
theorem acL(R:Rt)(H:a8)(e:dR.ok (⟨(bh R 2),H⟩:dR))(d:Int)(l:List (Int×aP))(k:l.length<10000000)(i:∀q,(fa (⟨(bh R 2),H⟩:dR) q).length<2000000){m r:aA}{x:Nat->aA}(h:∀q,∀a w,gZ (eZ R.p d (l++fa (⟨(bh R 2),H⟩:dR) q).length (l++fa (⟨(bh R 2),H⟩:dR) q) 9 8 []) (mH (⟨(bh R 2),H⟩:dR) q).eF a w->m a w):
  aR au ((aO o9).drop 2) (gZ (eZ R.p d l.length l 9 8 [(33,aD true)]) (ak.sep (bV (bh R 1)) (bX H))) m r x:=by
 refine dC (E:=(uN)) (c:=ar (aO o9) 2) m ab ab ?_ (cv λ_ _ h=>h);refine a7 (by unfold bV;exact(bZ _ _ _).symm) ?_;refine jJ [0] (qB (bh R 1) d l.length l []) ?_;refine eX 6 (bS (ar M1 0)) ?_;refine iS dU 6 (λ_=>()) (λ_=>qB (bh R 1) d l.length l [(39,ag (.pe 1 0 1 1))]) (λ_=>True) ?_ (λ_ _=>?_);intros;refine @av ((0<=(bh R 1).ba/\(bh R 1).ba<(↑(4:Nat):Int))/\(qB (bh R 1) d l.length l [(39,SV.is (TV.one (ax.pe 1 0 1 1)))]).aj True) _ ?_ ?_;kernel_rfl;exact⟨⟨by show(0:Int)<=1;decide,by show(1:Int)<4;decide⟩,aw trivial⟩;refine IM 39 1 0 1 1 1 ab rfl ?_;refine eG dU 8 (qB (bh R 1) d l.length l [(7,ag (.v (s6 37)))]) (eK ?_);refine e6 dU 1 (qB (bh R 2) d l.length l [(7,ag (.v (s6 37)))]) ?_;refine gQ (E:=(uN)) (bl:=hI (bh R 2) (b7++[vI R.bb])) [1,8] [9,10,11,12,13,14] 10 (eZ R.p d l.length l 9 8 [(7,ag (.v (s6 37)))]) ?_;refine a7 (G':=ak.sep (bV (bh R 2)) (bX H)) (by unfold bV;exact bZ _ _ _) ?_;refine eX 8 (bS (ar M1 2)) ?_;refine eG dU 3 (eZ R.p d l.length l 9 8 [(48,ag (.sl 8 0 0 l.length 8)),(49,ag (.v (s6 37))),(50,aT R.p)]) ?_;refine ju (E:=(uN)) (Yd sha.fE) (⟨(bh R 2),H⟩:dR) e Iz (λq _=>?_);have n:=i q;refine iS dU 6 (λj=>dO cl 41 j) (λb=>eZ R.p d (l.length+(fa (⟨(bh R 2),H⟩:dR) q).length) b 42 41 []) (λb=>b=l++(fa (⟨(bh R 2),H⟩:dR) q)) ?_ (λb f=>eK ?_);intros;refine @av (l.length<=l.length/\(l.length+(fa {R:=bh R 2,H:=H} q).length)*80<=2^47/\l.length+(fa {R:=bh R 2,H:=H} q).length<=2^62/\(eZ R.p d (l.length+(fa {R:=bh R 2,H:=H} q).length) (take l.length l++fa {R:=bh R 2,H:=H} q) 42 41 []).aj (take l.length l++fa {R:=bh R 2,H:=H} q=l++fa {R:=bh R 2,H:=H} q)) _ ?_ ?_;kernel_rfl;refine⟨aQ _,aa,aa,aw ?_⟩;rw[bg];subst f;refine Eu dU 0 [(8,41)] (eZ R.p d (l.length+(fa (⟨(bh R 2),H⟩:dR) q).length) (l++(fa (⟨(bh R 2),H⟩:dR) q)) 9 8 []) ?_;refine cv λa w g=>h q a w ?_;rw[bA];exact g
theorem acM(R:Rt)(H:a8)(e:dR.ok (⟨(bh R 3),H⟩:dR))(d:Int)(l:List (Int×aP))(k:l.length<10000000)(i:∀q,(hO (⟨(bh R 3),H⟩:dR) q).length<2000000){m r:aA}{x:Nat->aA}(h:∀q,∀a w,gZ (eZ R.p d (l++hO (⟨(bh R 3),H⟩:dR) q).length (l++hO (⟨(bh R 3),H⟩:dR) q) 9 8 []) (r4 (⟨(bh R 3),H⟩:dR) q).eF a w->m a w):
  aR au ((aO o9).drop 2) (gZ (eZ R.p d l.length l 9 8 [(33,aD true)]) (ak.sep (bV (bh R 2)) (bX H))) m r x:=by
 refine dC (E:=(uN)) (c:=ar (aO o9) 2) m ab ab ?_ (cv λ_ _ h=>h);refine a7 (by unfold bV;exact(bZ _ _ _).symm) ?_;refine jJ [0] (qB (bh R 2) d l.length l []) ?_;refine eX 6 (bS (ar M1 0)) ?_;refine iS dU 6 (λ_=>()) (λ_=>qB (bh R 2) d l.length l [(39,ag (.pe 1 0 2 1))]) (λ_=>True) ?_ (λ_ _=>?_);intros;refine @av ((0<=(bh R 2).ba/\(bh R 2).ba<(↑(4:Nat):Int))/\(qB (bh R 2) d l.length l [(39,SV.is (TV.one (ax.pe 1 0 2 1)))]).aj True) _ ?_ ?_;kernel_rfl;exact⟨⟨by show(0:Int)<=2;decide,by show(2:Int)<4;decide⟩,aw trivial⟩;refine IM 39 1 0 2 1 2 ab rfl ?_;refine eG dU 8 (qB (bh R 2) d l.length l [(7,ag (.v (s6 38)))]) (eK ?_);refine e6 dU 1 (qB (bh R 3) d l.length l [(7,ag (.v (s6 38)))]) ?_;refine gQ (E:=(uN)) (bl:=hI (bh R 3) (b7++[vI R.bb])) [1,8] [9,10,11,12,13,14] 10 (eZ R.p d l.length l 9 8 [(7,ag (.v (s6 38)))]) ?_;refine a7 (G':=ak.sep (bV (bh R 3)) (bX H)) (by unfold bV;exact bZ _ _ _) ?_;refine eX 8 (bS (ar M1 2)) ?_;refine eG dU 3 (eZ R.p d l.length l 9 8 [(48,ag (.sl 8 0 0 l.length 8)),(49,ag (.v (s6 38))),(50,aT R.p)]) ?_;refine ju (E:=(uN)) (abC sha.fE) (⟨(bh R 3),H⟩:dR) e LZ (λq _=>?_);have n:=i q;refine iS dU 6 (λj=>dO cl 41 j) (λb=>eZ R.p d (l.length+(hO (⟨(bh R 3),H⟩:dR) q).length) b 42 41 []) (λb=>b=l++(hO (⟨(bh R 3),H⟩:dR) q)) ?_ (λb f=>eK ?_);intros;refine @av (l.length<=l.length/\(l.length+(hO {R:=bh R 3,H:=H} q).length)*80<=2^47/\l.length+(hO {R:=bh R 3,H:=H} q).length<=2^62/\(eZ R.p d (l.length+(hO {R:=bh R 3,H:=H} q).length) (take l.length l++hO {R:=bh R 3,H:=H} q) 42 41 []).aj (take l.length l++hO {R:=bh R 3,H:=H} q=l++hO {R:=bh R 3,H:=H} q)) _ ?_ ?_;kernel_rfl;refine⟨aQ _,aa,aa,aw ?_⟩;rw[bg];subst f;refine Eu dU 0 [(8,41)] (eZ R.p d (l.length+(hO (⟨(bh R 3),H⟩:dR) q).length) (l++(hO (⟨(bh R 3),H⟩:dR) q)) 9 8 []) ?_;refine cv λa w g=>h q a w ?_;rw[bA];exact g
theorem acN(R:Rt)(H:a8)(f:dR.ok (⟨(bh R 4),H⟩:dR))(d:Int)(l:List (Int×aP))(j:l.length<10000000){m r:aA}{x:Nat->aA}(h:∀a w,gZ (eZ R.p d l.length l 9 8 []) (ak.sep (l8 (bh R 4)) (bX H)) a w->m a w):
  aR au ((aO o9).drop 2) (gZ (eZ R.p d l.length l 9 8 [(33,aD true)]) (ak.sep (bV (bh R 3)) (bX H))) m r x:=by
 refine dC (E:=(uN)) (c:=ar (aO o9) 2) m ab ab ?_ (cv λ_ _ h=>h);refine a7 (by unfold bV;exact(bZ _ _ _).symm) ?_;refine jJ [0] (qB (bh R 3) d l.length l []) ?_;refine eX 6 (bS (ar M1 0)) ?_;refine iS dU 6 (λ_=>()) (λ_=>qB (bh R 3) d l.length l [(39,ag (.pe 1 0 3 1))]) (λ_=>True) ?_ (λ_ _=>?_);intros;refine @av ((0<=(bh R 3).ba/\(bh R 3).ba<(↑(4:Nat):Int))/\(qB (bh R 3) d l.length l [(39,SV.is (TV.one (ax.pe 1 0 3 1)))]).aj True) _ ?_ ?_;kernel_rfl;exact⟨⟨by show(0:Int)<=3;decide,by show(3:Int)<4;decide⟩,aw trivial⟩;refine IM 39 1 0 3 1 3 ab rfl ?_;refine eG dU 8 (qB (bh R 3) d l.length l [(7,ag (.v (s6 39)))]) (eK ?_);refine e6 dU 1 (qB (bh R 4) d l.length l [(7,ag (.v (s6 39)))]) ?_;refine gQ (E:=(uN)) (bl:=hI (bh R 4) (b7++[vI R.bb])) [1,8] [9,10,11,12,13,14] 10 (eZ R.p d l.length l 9 8 [(7,ag (.v (s6 39)))]) ?_;refine a7 (G':=ak.sep (bV (bh R 4)) (bX H)) (by unfold bV;exact bZ _ _ _) ?_;refine eX 8 (bS (ar M1 2)) ?_;refine eG dU 3 (eZ R.p d l.length l 9 8 [(48,ag (.sl 8 0 0 l.length 8)),(49,ag (.v (s6 39))),(50,aT R.p)]) ?_;refine ju (E:=(uN)) Yf (⟨(bh R 4),H⟩:dR) f IB (λq _=>?_);refine iS dU 6 (λi=>dO cl 41 i) (λb=>eZ R.p d l.length b 42 41 []) (λb=>b=l) ?_ (λb e=>eK ?_);intros;refine @av (l.length<=l.length/\(l.length+0)*80<=2^47/\l.length+0<=2^62/\(eZ R.p d l.length (take l.length l++[]) 42 41 []).aj (take l.length l++[]=l)) _ ?_ ?_;kernel_rfl;refine⟨aQ _,aa,aa,aw ?_⟩;rw[bg,bF];have e:=e.symm;subst e;refine Eu dU 0 [(8,41)] (eZ R.p d l.length l 9 8 []) ?_;exact cv λa w g=>h a w g
end
end rite
end Go.Proofs.YtofofalgjibokaaGreatDoor
/- A rite: Tick. Printed by tools/gen_rt15.py. -/
namespace Go.Proofs.YtofofalgjibokaaGreatDoor
namespace rite
open bf deal Go.Eng.Ob
open Go.Hbn(dd a8 ez)
theorem fm.ph{c:Nat}{R:Rt}{H:a8}(h:fm c R H)(k:Int):fm c (bh R k) H:=⟨h.bf,h.hp,h.me,h.dl,h.tk,h.dI,h.tI,h.bJ,h.bB,h.bG,h.aG,h.pubs,h.aU,h.whom,h.aM,h.aK,h.frl⟩
structure kx(z y:dR):Prop where
 p:y.R.p=z.R.p
 me:y.R.me=z.R.me
 ba:y.R.ba=z.R.ba
 start:y.R.start=z.R.start
 dK:y.R.dK=z.R.dK
theorem Rq(R:Rt)(d:Int)(x:Fr):(eD R d x).ba=R.ba/\(eD R d x).start=R.start/\(eD R d x).dK=R.dK:=by unfold eD;split<;>exact⟨rfl,rfl,rfl⟩
theorem HW(z:SayIn)(q:eI):kx ⟨z.R,z.H⟩ ⟨oe z q,qn z q⟩:=by have k:=rA (Hbn.jC z.H z.tp (er z.b) q).2.2 z.R;exact⟨k.p,k.me,k.ba,k.start,k.dK⟩
theorem tb(z:dR)(q:eI):kx z (lF z q):=by
 unfold lF;split
 ·have k:=HW (ns z) q;have e:(eH z.R z.R.aL).p=z.R.p/\(eH z.R z.R.aL).me=z.R.me/\(eH z.R z.R.aL).ba=z.R.ba/\(eH z.R z.R.aL).start=z.R.start/\(eH z.R z.R.aL).dK=z.R.dK:=by
   unfold eH;split;have a:=IZ z.R z.R.me (poly.pat z.R.bB z.R.me);have b:=Rq z.R z.R.me (poly.pat z.R.bB z.R.me);exact⟨a.1,a.2.1,b.1,b.2.1,b.2.2⟩;exact⟨rfl,rfl,rfl,rfl,rfl⟩
  exact⟨k.p.trans e.1,k.me.trans e.2.1,k.ba.trans e.2.2.1,k.start.trans e.2.2.2.1,k.dK.trans e.2.2.2.2⟩
 exact⟨rfl,rfl,rfl,rfl,rfl⟩
theorem uT(z:dR)(q:eI):kx z (mH z q):=by unfold mH;split;exact HW (pC z) q;exact⟨rfl,rfl,rfl,rfl,rfl⟩
theorem xN(z:dR)(q:eI):kx z (r4 z q):=by unfold r4;split;exact HW (ug z) q;exact⟨rfl,rfl,rfl,rfl,rfl⟩
theorem OM{c:Nat}{z:dR}(h:fm c z.R z.H)(q:eI):fm (c+2) (lF z q).R (lF z q).H:=by unfold lF;split;exact fm.said (z:=ns z) (h.handed _) (BV _) q;exact h.mono aa
theorem RL{c:Nat}{z:dR}(h:fm c z.R z.H)(q:eI):fm (c+2) (mH z q).R (mH z q).H:=by unfold mH;split;exact(fm.said (z:=pC z) h (Kc _ _) q).mono aa;exact h.mono aa
theorem YN{c:Nat}{z:dR}(h:fm c z.R z.H)(q:eI):fm (c+2) (r4 z q).R (r4 z q).H:=by unfold r4;split;exact(fm.said (z:=ug z) h (Qf _ _) q).mono aa;exact h.mono aa
theorem ON{c:Nat}{z:dR}(h:fm c z.R z.H)(q:eI):(eT z q).length<2000000:=by unfold eT;split;have a:=Ew z.R z.R.aL;have b:=CL (z:=ns z) h.bf (BV _) q;have c:=h.tk;rw[bA];omega;exact pr _
theorem AW{c:Nat}{z:dR}(h:fm c z.R z.H)(q:eI):(fa z q).length<2000000:=by unfold fa;split;have b:=CL (z:=pC z) h.bf (Kc _ _) q;omega;exact pr _
theorem YO{c:Nat}{z:dR}(h:fm c z.R z.H)(q:eI):(hO z q).length<2000000:=by unfold hO;split;have b:=CL (z:=ug z) h.bf (Qf _ _) q;omega;exact pr _
structure cc where
 z:dR
 fin:Bool
def cc.rt(t:cc):ak:=match t.fin with
 |true=>l8 t.z.R
 |false=>bV t.z.R
abbrev cc.eF(t:cc):ak:=ak.sep t.rt (bX t.z.H)
def db(t:cc)(q:eI):cc×List (Int×aP):=
 if t.z.R.ba=0 then(⟨lF ⟨bh t.z.R 1,t.z.H⟩ q,false⟩,eT ⟨bh t.z.R 1,t.z.H⟩ q)
 else if t.z.R.ba=1 then(⟨mH ⟨bh t.z.R 2,t.z.H⟩ q,false⟩,fa ⟨bh t.z.R 2,t.z.H⟩ q)
 else if t.z.R.ba=2 then(⟨r4 ⟨bh t.z.R 3,t.z.H⟩ q,false⟩,hO ⟨bh t.z.R 3,t.z.H⟩ q)
 else(⟨⟨bh t.z.R 4,t.z.H⟩,true⟩,[])
inductive Ticks(now:Int):cc->cc->List (Int×aP)->Prop
 |stop (t:cc):jl t.z.R now=false->Ticks now t t []
 |step (t:cc) (q:eI) (u:cc) (o:List (Int×aP)):jl t.z.R now=true->Ticks now (db t q).1 u o->Ticks now t u ((db t q).2++o)
structure TOk(t:cc):Prop where
 inv:∃c,c<=28000+2*t.z.R.ba.toNat/\fm c t.z.R t.z.H
 lo:0<=t.z.R.ba
 hi:t.z.R.ba<=4
 fin:t.fin=true->t.z.R.ba=4
theorem N8{R:Rt}{a:Int}(h:jl R a=true):R.ba<4:=by unfold jl at h;rw[bD]at h;exact Odt h.1
theorem CA{R:Rt}{k:Int}(h:R.ba=k):R=bh R k:=by cases R;subst h;rfl
theorem abB(a:dF):fk au a 35 (λt:cc=>[aT t.z.R.p]) (λ_=>True) cc.eF (λ_ (_:Unit)=>aD false) (λt _=>t.eF) (λ_ _=>True):=by
 rintro⟨⟨R,H⟩,f⟩_;cases f;exact cT (λ_=>bX H) (Cv a) R trivial
 ·cases b:(iJ R).1 with
  |none=>
   have e:cc.eF ⟨⟨R,H⟩,true⟩=ak.sep (bV {R with bb:=(iJ R).2}) (bX H):=by show ak.sep (l8 R) _=_;unfold l8;rw[b]
   simp only[e];exact cT (λ_=>bX H) (Cv a) {R with bb:=(iJ R).2} trivial
  |some y=>
   have e:cc.eF ⟨⟨R,H⟩,true⟩=ak.sep (um R y) (bX H):=by show ak.sep (l8 R) _=_;unfold l8;rw[b]
   simp only[e];exact cT (λ_=>bX H) (Pw a y) R trivial
section
variable [W3]
theorem acQ(t:cc)(b:Int)(l:List (Int×aP))(n:Nat){m r:aA}{x:Nat->aA}(d:jl t.z.R b=true->aR au ((aO o9).drop 2) (gZ (eZ t.z.R.p b n l 9 8 [(33,aD true)]) t.eF) m r x)(g:jl t.z.R b=false->∀a w,gZ (eZ t.z.R.p b n l 9 8 []) t.eF a w->x (cH o9) a w):
  aR au (aO o9) (gZ (eZ t.z.R.p b n l 9 8 []) t.eF) m r x:=by
 obtain⟨⟨R,H⟩,f⟩:=t;cases f;exact TX R b l n (bX H) d g
 ·cases h:(iJ R).1 with
  |none=>
   have e:cc.eF ⟨⟨R,H⟩,true⟩=ak.sep (bV {R with bb:=(iJ R).2}) (bX H):=by show ak.sep (l8 R) _=_;unfold l8;rw[h]
   rw[e]at d g⊢;exact TX {R with bb:=(iJ R).2} b l n (bX H) d g
  |some y=>
   have e:cc.eF ⟨⟨R,H⟩,true⟩=ak.sep (um R y) (bX H):=by show ak.sep (l8 R) _=_;unfold l8;rw[h]
   rw[e]at d g⊢;exact acP R y b l n (bX H) d g
theorem ag9(t:cc)(y:TOk t)(b:Int)(C:jl t.z.R b=true)(l:List (Int×aP))(u:l.length<10000000){m r:aA}{x:Nat->aA}(h:∀q,TOk (db t q).1->(db t q).1.z.R.p=t.z.R.p->(db t q).1.z.R.ba=t.z.R.ba+1->(db t q).2.length<2000000->∀a w,gZ (eZ t.z.R.p b (l++(db t q).2).length (l++(db t q).2) 9 8 []) (db t q).1.eF a w->m a w):
  aR au ((aO o9).drop 2) (gZ (eZ t.z.R.p b l.length l 9 8 [(33,aD true)]) t.eF) m r x:=by
 obtain⟨⟨R,H⟩,f⟩:=t;have G:R.ba<4:=N8 C;have F:0<=R.ba:=y.lo;have D:f=false:=by cases f;rfl;have:R.ba=4:=y.fin rfl;omega
 subst D;obtain⟨c,i,o⟩:=y.inv;have o:fm c R H:=o;have i:c<=28000+2*R.ba.toNat:=i;have A:R.ba=0\/R.ba=1\/R.ba=2\/R.ba=3:=aa;rcases A with k|k|k|k
 ·have e:∀q,db ⟨⟨R,H⟩,false⟩ q=(⟨lF ⟨bh R 1,H⟩ q,false⟩,eT ⟨bh R 1,H⟩ q):=λq=>by
   unfold db;rw[ah k]
  have j:gZ (eZ R.p b l.length l 9 8 [(33,aD true)]) (cc.eF ⟨⟨R,H⟩,false⟩)=gZ (eZ R.p b l.length l 9 8 [(33,aD true)]) (ak.sep (bV (bh R 0)) (bX H)):=by rw[<-CA k];rfl
  show aR _ _ (gZ (eZ R.p b l.length l 9 8 [(33,aD true)]) (cc.eF ⟨⟨R,H⟩,false⟩)) m r x;rw[j];have d:=o.ph 1;refine acK R H ⟨c,by rw[k]at i;have:(0:Int).toNat=0:=rfl;omega,d⟩ b l u (λq=>ON d q) (λq a w n=>h q ?_ ?_ ?_ ?_ a w ?_);rw[e];have s:=tb ⟨bh R 1,H⟩ q;have g:(lF ⟨bh R 1,H⟩ q).R.ba=1:=s.ba;exact⟨⟨c+2,by rw[k]at i;rw[g];have:(0:Int).toNat=0:=rfl;have:(1:Int).toNat=1:=rfl;omega,OM d q⟩,by show(0:Int)<=_;rw[g];decide,by show _<=(4:Int);rw[g];decide,λh=>by cases h⟩;rw[e];exact(tb ⟨bh R 1,H⟩ q).p;rw[e];show _=R.ba+1;rw[k];exact(tb ⟨bh R 1,H⟩ q).ba;rw[e];exact ON d q;rw[e];exact n
 ·have e:∀q,db ⟨⟨R,H⟩,false⟩ q=(⟨mH ⟨bh R 2,H⟩ q,false⟩,fa ⟨bh R 2,H⟩ q):=λq=>by
   unfold db;rw[ai (by rw[k];decide),ah k]
  have j:gZ (eZ R.p b l.length l 9 8 [(33,aD true)]) (cc.eF ⟨⟨R,H⟩,false⟩)=gZ (eZ R.p b l.length l 9 8 [(33,aD true)]) (ak.sep (bV (bh R 1)) (bX H)):=by rw[<-CA k];rfl
  show aR _ _ (gZ (eZ R.p b l.length l 9 8 [(33,aD true)]) (cc.eF ⟨⟨R,H⟩,false⟩)) m r x;rw[j];have d:=o.ph 2;refine acL R H ⟨c,by rw[k]at i;have:(1:Int).toNat=1:=rfl;omega,d⟩ b l u (λq=>AW d q) (λq a w n=>h q ?_ ?_ ?_ ?_ a w ?_);rw[e];have s:=uT ⟨bh R 2,H⟩ q;have g:(mH ⟨bh R 2,H⟩ q).R.ba=2:=s.ba;exact⟨⟨c+2,by rw[k]at i;rw[g];have:(1:Int).toNat=1:=rfl;have:(2:Int).toNat=2:=rfl;omega,RL d q⟩,by show(0:Int)<=_;rw[g];decide,by show _<=(4:Int);rw[g];decide,λh=>by cases h⟩;rw[e];exact(uT ⟨bh R 2,H⟩ q).p;rw[e];show _=R.ba+1;rw[k];exact(uT ⟨bh R 2,H⟩ q).ba;rw[e];exact AW d q;rw[e];exact n
 ·have e:∀q,db ⟨⟨R,H⟩,false⟩ q=(⟨r4 ⟨bh R 3,H⟩ q,false⟩,hO ⟨bh R 3,H⟩ q):=λq=>by
   unfold db;rw[ai (by rw[k];decide),ai (by rw[k];decide),ah k]
  have j:gZ (eZ R.p b l.length l 9 8 [(33,aD true)]) (cc.eF ⟨⟨R,H⟩,false⟩)=gZ (eZ R.p b l.length l 9 8 [(33,aD true)]) (ak.sep (bV (bh R 2)) (bX H)):=by rw[<-CA k];rfl
  show aR _ _ (gZ (eZ R.p b l.length l 9 8 [(33,aD true)]) (cc.eF ⟨⟨R,H⟩,false⟩)) m r x;rw[j];have d:=o.ph 3;refine acM R H ⟨c,by rw[k]at i;have:(2:Int).toNat=2:=rfl;omega,d⟩ b l u (λq=>YO d q) (λq a w n=>h q ?_ ?_ ?_ ?_ a w ?_);rw[e];have s:=xN ⟨bh R 3,H⟩ q;have g:(r4 ⟨bh R 3,H⟩ q).R.ba=3:=s.ba;exact⟨⟨c+2,by rw[k]at i;rw[g];have:(2:Int).toNat=2:=rfl;have:(3:Int).toNat=3:=rfl;omega,YN d q⟩,by show(0:Int)<=_;rw[g];decide,by show _<=(4:Int);rw[g];decide,λh=>by cases h⟩;rw[e];exact(xN ⟨bh R 3,H⟩ q).p;rw[e];show _=R.ba+1;rw[k];exact(xN ⟨bh R 3,H⟩ q).ba;rw[e];exact YO d q;rw[e];exact n
 ·have e:∀q,db ⟨⟨R,H⟩,false⟩ q=(⟨⟨bh R 4,H⟩,true⟩,[]):=λq=>by
   unfold db;rw[ai (by rw[k];decide),ai (by rw[k];decide),ai (by rw[k];decide)]
  have j:gZ (eZ R.p b l.length l 9 8 [(33,aD true)]) (cc.eF ⟨⟨R,H⟩,false⟩)=gZ (eZ R.p b l.length l 9 8 [(33,aD true)]) (ak.sep (bV (bh R 3)) (bX H)):=by rw[<-CA k];rfl
  show aR _ _ (gZ (eZ R.p b l.length l 9 8 [(33,aD true)]) (cc.eF ⟨⟨R,H⟩,false⟩)) m r x;rw[j];have d:=o.ph 4;refine acN R H ⟨c,by rw[k]at i;have:(3:Int).toNat=3:=rfl;omega,d⟩ b l u (λa w n=>h (0,0,0) ?_ ?_ ?_ ?_ a w ?_);rw[e];exact⟨⟨c,by rw[k]at i;have:(3:Int).toNat=3:=rfl;show c<=28000+2*(4:Int).toNat;have:(4:Int).toNat=4:=rfl;omega,d⟩,by show(0:Int)<=4;decide,by show(4:Int)<=4;decide,λ_=>rfl⟩;rw[e];rw[e];show(4:Int)=R.ba+1;rw[k];rfl;rw[e];exact pr _;rw[e];show gZ (eZ R.p b (l++[]).length (l++[]) 9 8 []) (ak.sep (l8 (bh R 4)) (bX H)) a w;rw[bF];exact n
end
end rite
end Go.Proofs.YtofofalgjibokaaGreatDoor
/- A rite: Tick as a whole. -/
namespace Go.Proofs.YtofofalgjibokaaGreatDoor
namespace rite
open bf deal Go.Eng.Ob
open Go.Hbn(dd a8 ez)
def tiA(p:Nat)(a:Int)(b:g9):St:=ay Al.ntmps 8 ([(0,aT p),(1,sJ a)]++b) []
def apy(p:Nat)(a:Int):St:=ay Al.ntmps 8 [(0,aT p),(1,sJ a),(5,ag (.sl 1 0 0 4 1)),(6,gv)] [(1,U0)]
structure TVal(t:cc)(now:Int)(g:cc×List (Int×aP)):Prop where
 ok:TOk g.1
 p:g.1.z.R.p=t.z.R.p
 len:g.2.length<=2000000*g.1.z.R.ba.toNat
 far:∀u o,Ticks now g.1 u o->Ticks now t u (g.2++o)
theorem Tc:fk au sha.fE 10 (λz:cc×Int=>[aT z.1.z.R.p,sJ z.2]) (λz=>TOk z.1) (λz=>z.1.eF) (λ_ (y:cc×List (Int×aP))=>ag (.ro cl y.2)) (λ_ y=>y.1.eF) (λz y=>Ticks z.2 z.1 y.1 y.2):=by refine dD (sp:=acH) yb ab (λz=>by show 2<=Al.ntmps;exact Odt ab) (λz _=>rfl) ?_;rintro⟨t,b⟩ s _;have s:TOk t:=s;refine e6 dU 1 (tiA t.z.R.p b []) ?_;refine eX 1 (bS (ar (aq Al) 1)) ?_;refine eG dU 1 (tiA t.z.R.p b [(8,aT t.z.R.p)]) ?_;refine ju (E:=uN) (abB sha.fE) t trivial jV (λ_ _=>?_);refine eK ?_;refine fF (ar (aq Al) 2) ?_;refine fh (tiA t.z.R.p b []) ?_;refine Eu dU 2 [(1,8)] (apy t.z.R.p b) ?_;refine ta 6 8 (.row cl 0 []) ab ?_;refine fh (eZ t.z.R.p b 0 [] 9 8 []) ?_;refine ym (α:=cc×List (Int×aP)) (β:=cc×List (Int×aP)) (c:=o9) (λg a w=>TVal t b g/\gZ (eZ t.z.R.p b g.2.length g.2 9 8 []) g.1.eF a w) (λg=>(4-g.1.z.R.ba).toNat) (λo a w=>Ticks b t o.1 o.2/\gZ (eZ t.z.R.p b o.2.length o.2 9 8 []) o.1.eF a w) ab ab (λa w h=>⟨(t,[]),⟨s,rfl,aY _,λ_ _ h=>h⟩,h⟩) (λg=>?_) (λo=>?_);obtain⟨g,l⟩:=g;intro a w Q f m n r;obtain⟨⟨d,i,x,k⟩,e⟩:=f;have d:TOk g:=d;have i:g.z.R.p=t.z.R.p:=i;have x:l.length<=2000000*g.z.R.ba.toNat:=x;have k:∀u o,Ticks b g u o->Ticks b t u (l++o):=k;have C:=d.lo;have A:=d.hi;have e:gZ (eZ t.z.R.p b l.length l 9 8 []) g.eF a w:=e;rw[<-i]at e;refine acQ g b l l.length (λj=>?_) (λj=>?_) a w Q e m n r;have D:=N8 j;refine ag9 g d b j l aa (λq t1 t2 t3 t4 a w f=>⟨((db g q).1,l++(db g q).2),⟨⟨t1,t2.trans i,?_,λu o h=>?_⟩,?_⟩,?_⟩);show(l++(db g q).2).length<=2000000*(db g q).1.z.R.ba.toNat;rw[bA,t3];omega;show Ticks b t u ((l++(db g q).2)++o);rw[cZ];exact k u _ (.step g q u o j h);rw[<-i];exact f;show(4-(db g q).1.z.R.ba).toNat<(4-g.z.R.ba).toNat;rw[t3];omega;intro a w f;rw[lh];refine⟨(g,l),?_,?_⟩;have:=k g [] (.stop g j);rw[bF]at this;exact this;rw[<-i];exact f;obtain⟨u,o⟩:=o;intro a w Q f m n r;obtain⟨d,e⟩:=f;have d:Ticks b t u o:=d;revert a w Q;refineλa w Q m n r e=>(?_:aR _ _ (gZ (eZ t.z.R.p b o.length o 9 8 []) u.eF) _ _ _) a w Q e m n r;refine Mg 6 8 o.length 8 cl o ?_;exact tP dU _ ⟨(u,o),d,bR _,rfl⟩
end rite
end Go.Proofs.YtofofalgjibokaaGreatDoor
/- A rite: Clone, End. Printed by tools/gen_rt17.py. -/
namespace Go.Proofs.YtofofalgjibokaaGreatDoor
namespace rite
open bf deal Go.Eng.Ob Go.Proofs.Tryz
theorem ae7:aF au 30 f30:=ek
abbrev Bt:HL [.sl iK]->Prop:=λ(c,_)=>length c<1048576
theorem IG:bu au 30 [.sl iK] [.own iK] cx Bt (λ(c,_)=>(c,())):=by have a:aS au (bw []):=bY;refine zL (sp:=bw []) ae7 ae ae ab ?_ ?_;rintro w d ⟨⟩ _ b;show Tr _ _ _ _ _ _ _;refine cq a ao _ _ ?_;refine av (X:=((([]:List (Int)),())=(([]:List (Int)),()))) ab rfl;rintro w d c ⟨⟩ _ _ b;revert c;intro(c:List (Int)) _ b;have b:c.length<1048576:=b;show Tr _ _ _ _ _ _ _;refine cq a ao _ _ ?_;refine @av (0<=0/\(0+c.length)*8<=2^47/\0+c.length<=2^62/\0+(0+c.length)<=0+c.length/\(take (0+c.length) (take 0 []++c),())=(c,())) _ ?_ ?_;kernel_rfl;rw[wc,gK,cy,bg];exact⟨aQ _,aa,aa,aa,rfl⟩
def aer:=aZ IG
theorem ae6:aF au 32 f32:=ek
abbrev YC:HL [.sl .fr]->Prop:=λ(c,_)=>length c<1048576
theorem ah4:bu au 32 [.sl .fr] [.own .fr] cx YC (λ(c,_)=>(c,())):=by have a:aS au (bw []):=bY;refine zL (sp:=bw []) ae6 ae ae ab ?_ ?_;rintro w d ⟨⟩ _ b;show Tr _ _ _ _ _ _ _;refine cq a ao _ _ ?_;refine av (X:=((([]:List (Fr)),())=(([]:List (Fr)),()))) ab rfl;rintro w d c ⟨⟩ _ _ b;revert c;intro(c:List (Fr)) _ b;have b:c.length<1048576:=b;show Tr _ _ _ _ _ _ _;refine cq a ao _ _ ?_;refine @av (0<=0/\(0+c.length)*32<=2^47/\0+c.length<=2^62/\0+(0+c.length)<=0+c.length/\(take (0+c.length) (take 0 []++c),())=(c,())) _ ?_ ?_;kernel_rfl;rw[wc,gK,cy,bg];exact⟨aQ _,aa,aa,aa,rfl⟩
theorem U4{E:cJ}{N:Nat}{l:cw}{a:Array Oper}{j:Nat}{n r:aA}{x:Nat->aA}{b:St}{G:ak}(t:Nat)(d:b.S t=aD false)(c:lV E.P a j l (GH E N ⟨b.aW.set t (ag .F),b.bQ,b.next⟩ G) n r x):lV E.P a j l (GH E N b G) n r x:=
 jx (E:=E) (λ_ _ e=>e.ref t _ (by rw[d];exactλ_ _ h=>h.1)) c
theorem xD:aF au 13 f13:=ek
abbrev uD:Func:=f13
abbrev UG:=bw [aer,Lr]
theorem jr:aS au UG:=aV (a2 IG) (aV (a2 Cf) bY)
abbrev BW:cb:=[.v (.slice none 0 0),.v (.slice none 0 0),.row .fr 1 [(0:Fr)],.ints .u8 32 (replicate 32 0)]
abbrev Sb:g9:=[(2,al 0 0),(3,sJ 0),(4,ag .F)]
def enA(p:Nat)(a:g9):St:=ay uD.ntmps 8 ([(0,aT p)]++Sb++a) [(0,BW)]
def Sa(R:Rt)(t:cb)(a:g9):St:=ay uD.ntmps 14 ([(0,al 8 0)]++Sb++a) ((0,BW)::kG R (t++[vI R.bb]))
def enT:St:=ay uD.ntmps 8 Sb [(0,BW)]
def Gl(R:Rt)(t:cb)(a b c d:ax)(f:Nat)(e:e5):St:=ay uD.ntmps f [(0,al 8 0),(2,al 0 0),(5,al 46 0)] ((0,BW)::(46,[a,b,c,d])::e++kG R (t++[vI R.bb]))
def enG(R:Rt)(t:cb)(a b c d:ax):St:=ay uD.ntmps 14 [(2,al 0 0),(3,sJ R.bb),(4,ag .T)] ((0,[a,b,c,d])::kG R (t++[vI R.bb]))
def enN(a b c d:ax)(f:Int):St:=ay uD.ntmps 8 [(2,al 0 0),(3,sJ f),(4,ag .T)] [(0,[a,b,c,d])]
abbrev Gm(q:LI)(c:List Pt)(s d:ax)(f:Int):SV:=.tup [.agg [.ro iK q,.ro bM c,s,d],.one (vI f),.one .T]
abbrev Iw:SV:=.tup [.agg BW,.one (vI 0),.one .F]
abbrev zF:ax:=.ints .u64 4 [0,0,0,0]
abbrev zD:ax:=.ints .u8 32 (replicate 32 0)
section
variable (gl:dF)[W3]
abbrev Ix:cJ:=mO au UG gl
end
theorem S9(gl:dF):fk au gl 13 (λR:Rt=>[aT R.p]) (λR=>True) (λR=>bV R) (λR (_:Unit)=>(if R.ba<4 then Iw else Gm [] [] zF zD R.bb)) (λR _=>bV R) (λ_ _=>True):=by refine dD (sp:=UG) xD ab (λz=>by show 1<=uD.ntmps;exact Odt ab) (λz _=>by show SV.ids (if z.ba<4 then Iw else _)=[];split<;>rfl) ?_;intro R d _;refine e6 jr 1 (enA R.p []) ?_;refine eX 1 (bS (ar (aq uD) 1)) ?_;refine eG jr 1 (enA R.p [(6,aT R.p)]) ?_;refine ju (E:=(Ix gl)) (Cv gl) R trivial jV (λ_ _=>?_);refine U4 (E:=(Ix gl)) 7 ab ?_;unfold bV;refine so (E:=(Ix gl)) [0] ab (Sa R b7 [(7,ag .F)]) (aB ab ab trivial) ?_;refine iS jr 9 (λc=>bL .bool 14 c) (λq=>Sa R b7 [(14,aD q)]) (λq=>q=decide (R.ba<4)) ?_ (λq b=>eK ?_);intros;refine @av ((Sa R b7 [(14,aD (decide (R.ba<4)))]).aj (decide (R.ba<4)=decide (R.ba<4))) _ ?_ ?_;kernel_rfl;exact aw rfl;cases q;have a:¬R.ba<4:=Odf b.symm;refine fF (ar (aq uD) 2) ?_;refine e6 jr 1 (Gl R b7 (.v (.slice none 0 0)) (.v (.slice none 0 0)) zF zD 47 []) ?_;refine gcd jr 1 (λ_=>()) (λ_=>Gl R b7 (.sl 63 0 0 0 1) (.v (.slice none 0 0)) zF zD 64 [(63,[.ints .i64 0 ([]:LI)])]) (λ_=>True) ?_ (λ_ _=>?_);intros;refine @av (Bt ([],())/\(Gl R b7 (ax.sl 63 0 0 0 1) (ax.v (Value.slice none 0 0)) zF zD 64 [(63,[ax.ints i64 0 []])]).aj True) _ ?_ ?_;kernel_rfl;exact⟨pr _,aw trivial⟩;refine gcd jr 1 (λ_=>()) (λ_=>Gl R b7 (.sl 63 0 0 0 1) (.sl 80 0 0 0 12) zF zD 81 [(80,[.row bM 0 ([]:List Pt)]),(63,[.ints .i64 0 ([]:LI)])]) (λ_=>True) ?_ (λ_ _=>?_);intros;refine @av (yH ([],())/\(Gl R b7 (ax.sl 63 0 0 0 1) (ax.sl 80 0 0 0 12) zF zD 81 [(80,[ax.row bM 0 []]),(63,[ax.ints i64 0 []])]).aj True) _ ?_ ?_;kernel_rfl;exact⟨pr _,aw trivial⟩;refine vb [] 46 63 0 1 (.int .i64) ([]:LI) (.ints .i64 0 ([]:LI)) [.sl 80 0 0 0 12,zF,zD] ae zO rfl rfl rfl ?_;refine vb [.ro iK ([]:LI)] 46 80 0 12 bM ([]:List Pt) (.row bM 0 ([]:List Pt)) [zF,zD] ae (λ_ _ h=>h) rfl rfl rfl ?_;refine e6 jr 1 (enG R b7 (.ro iK ([]:LI)) (.ro bM ([]:List Pt)) zF zD) ?_;refine gQ (E:=(Ix gl)) (bl:=hI R (b7++[vI R.bb])) [0] [8,9,10,11,12,13] 9 (enN (.ro iK ([]:LI)) (.ro bM ([]:List Pt)) zF zD R.bb) ?_;exact tP jr (Gm ([]:LI) ([]:List Pt) zF zD R.bb) ⟨(),trivial,by rw[ai a];exact bR _,rfl⟩;have a:R.ba<4:=Odt b.symm;refine jX (ar (aq uD) 2) ?_;refine gQ (E:=(Ix gl)) (bl:=hI R (b7++[vI R.bb])) [0] [8,9,10,11,12,13] 9 enT ?_;refine jy jr ao Iw ?_ ⟨(),trivial,by rw[ah a];exact bR _,rfl⟩;intros;refine @av (SV.tup [TV.agg [ax.v (Value.slice none 0 0),ax.v (Value.slice none 0 0),ax.row Kd.fr 1 [(0:Fr)],ax.ints u8 32 (replicate 32 (gn (Kd.int u8)))],TV.one (ax.v (Value.int i64 0)),TV.one ax.F]=Iw) _ ?_ ?_;kernel_rfl;rfl
theorem aga(gl:dF)(e:LI×List Pt×Fr×LI):fk au gl 13 (λR:Rt=>[aT R.p]) (λR=>¬R.ba<4/\e.1.length<1048576/\e.2.1.length<1048576) (λR=>um R e) (λR (_:Unit)=>Gm e.1 e.2.1 (.row .fr 1 [e.2.2.1]) (.ints .u8 32 e.2.2.2) R.bb) (λR _=>um R e) (λ_ _=>True):=by refine dD (sp:=UG) xD ab (λz=>by show 1<=uD.ntmps;exact Odt ab) (λz _=>rfl) ?_;intro R a _;refine e6 jr 1 (enA R.p []) ?_;refine eX 1 (bS (ar (aq uD) 1)) ?_;refine eG jr 1 (enA R.p [(6,aT R.p)]) ?_;refine ju (E:=(Ix gl)) (Pw gl e) R trivial jV (λ_ _=>?_);refine U4 (E:=(Ix gl)) 7 ab ?_;unfold um;refine so (E:=(Ix gl)) [0] ab (Sa R (pE e) [(7,ag .F)]) (aB ab ab trivial) ?_;refine iS jr 9 (λc=>bL .bool 14 c) (λq=>Sa R (pE e) [(14,aD q)]) (λq=>q=decide (R.ba<4)) ?_ (λq b=>eK ?_);intros;refine @av ((Sa R (pE e) [(14,aD (decide (R.ba<4)))]).aj (decide (R.ba<4)=decide (R.ba<4))) _ ?_ ?_;kernel_rfl;exact aw rfl;cases q;have d:¬R.ba<4:=Odf b.symm;refine fF (ar (aq uD) 2) ?_;refine e6 jr 1 (Gl R (pE e) (.ro iK e.1) (.ro bM e.2.1) (.row .fr 1 [e.2.2.1]) (.ints .u8 32 e.2.2.2) 47 []) ?_;refine gcd jr 1 (λ_=>()) (λ_=>Gl R (pE e) (.sl 63 0 0 e.1.length 1) (.ro bM e.2.1) (.row .fr 1 [e.2.2.1]) (.ints .u8 32 e.2.2.2) 64 [(63,[.ints .i64 e.1.length e.1])]) (λ_=>True) ?_ (λ_ _=>?_);intros;refine @av (Bt (e.fst,())/\(Gl R (pE e) (ax.sl 63 0 0 e.fst.length 1) (ax.ro bM e.snd.fst) (ax.row Kd.fr 1 [e.snd.snd.fst]) (ax.ints u8 32 e.snd.snd.snd) 64 [(63,[ax.ints i64 e.fst.length e.fst])]).aj True) _ ?_ ?_;kernel_rfl;exact⟨a.2.1,aw trivial⟩;refine gcd jr 1 (λ_=>()) (λ_=>Gl R (pE e) (.sl 63 0 0 e.1.length 1) (.sl 80 0 0 e.2.1.length 12) (.row .fr 1 [e.2.2.1]) (.ints .u8 32 e.2.2.2) 81 [(80,[.row bM e.2.1.length e.2.1]),(63,[.ints .i64 e.1.length e.1])]) (λ_=>True) ?_ (λ_ _=>?_);intros;refine @av (yH (e.snd.fst,())/\(Gl R (pE e) (ax.sl 63 0 0 e.fst.length 1) (ax.sl 80 0 0 e.snd.fst.length 12) (ax.row Kd.fr 1 [e.snd.snd.fst]) (ax.ints u8 32 e.snd.snd.snd) 81 [(80,[ax.row bM e.snd.fst.length e.snd.fst]),(63,[ax.ints i64 e.fst.length e.fst])]).aj True) _ ?_ ?_;kernel_rfl;exact⟨a.2.2,aw trivial⟩;refine vb [] 46 63 e.1.length 1 (.int .i64) e.1 (.ints .i64 e.1.length e.1) [.sl 80 0 0 e.2.1.length 12,(.row .fr 1 [e.2.2.1]),(.ints .u8 32 e.2.2.2)] ae zO rfl rfl rfl ?_;refine vb [.ro iK e.1] 46 80 e.2.1.length 12 bM e.2.1 (.row bM e.2.1.length e.2.1) [(.row .fr 1 [e.2.2.1]),(.ints .u8 32 e.2.2.2)] ae (λ_ _ h=>h) rfl rfl rfl ?_;refine e6 jr 1 (enG R (pE e) (.ro iK e.1) (.ro bM e.2.1) (.row .fr 1 [e.2.2.1]) (.ints .u8 32 e.2.2.2)) ?_;refine gQ (E:=(Ix gl)) (bl:=hI R ((pE e)++[vI R.bb])) [0] [8,9,10,11,12,13] 9 (enN (.ro iK e.1) (.ro bM e.2.1) (.row .fr 1 [e.2.2.1]) (.ints .u8 32 e.2.2.2) R.bb) ?_;exact tP jr (Gm e.1 e.2.1 (.row .fr 1 [e.2.2.1]) (.ints .u8 32 e.2.2.2) R.bb) ⟨(),trivial,bR _,rfl⟩;exact absurd (Odt b.symm) a.1
end rite
end Go.Proofs.YtofofalgjibokaaGreatDoor
/- A rite that is none: idle, Phase, Tick, End, In. -/
namespace Go.Proofs.YtofofalgjibokaaGreatDoor
namespace rite
open bf deal Go.Eng.Ob
abbrev lu:SV:=ag (.v (.pointer none))
abbrev nnX(a:dF)[W3]:cJ:=mO au (bw []) a
theorem Px(a:dF):fk au a 35 (λ_:Unit=>[lu]) (λ_=>True) (λ_=>ak.none) (λ_ (_:Unit)=>ag .T) (λ_ _=>ak.none) (λ_ _=>True):=by refine dD (sp:=bw []) jV ab (λz=>by show 1<=te.ntmps;exact Odt ab) (λz _=>rfl) ?_;intro _ _ _;exact tP bY (ag .T) ⟨(),trivial,bR _,rfl⟩
def apz(a:Int):St:=ay Al.ntmps 8 [(0,lu),(1,sJ a)] []
def apA(a:Int):St:=ay Al.ntmps 8 [(0,lu),(1,sJ a),(8,lu)] []
theorem abD(b:dF):fk au b 10 (λa:Int=>[lu,sJ a]) (λ_=>True) (λ_=>ak.none) (λ_ (_:Unit)=>ag (.ro cl [])) (λ_ _=>ak.none) (λ_ _=>True):=by refine dD (sp:=bw []) yb ab (λz=>by show 2<=Al.ntmps;exact Odt ab) (λz _=>rfl) ?_;intro a _ _;refine e6 bY 1 (apz a) ?_;refine eX 1 (bS (ar (aq Al) 1)) ?_;refine eG bY 1 (apA a) ?_;refine ju (E:=nnX b) (Px b) () trivial jV (λ_ _=>?_);refine eK ?_;exact tP bY gv ⟨(),trivial,BB cl,rfl⟩
def anW:St:=ay uD.ntmps 8 ([(0,lu)]++Sb) [(0,BW)]
def anX:St:=ay uD.ntmps 8 ([(0,lu)]++Sb++[(6,lu)]) [(0,BW)]
theorem agb(a:dF):fk au a 13 (λ_:Unit=>[lu]) (λ_=>True) (λ_=>ak.none) (λ_ (_:Unit)=>Iw) (λ_ _=>ak.none) (λ_ _=>True):=by refine dD (sp:=bw []) xD ab (λz=>by show 1<=uD.ntmps;exact Odt ab) (λz _=>rfl) ?_;intro _ _ _;refine e6 bY 1 anW ?_;refine eX 1 (bS (ar (aq uD) 1)) ?_;refine eG bY 1 anX ?_;refine ju (E:=nnX a) (Px a) () trivial jV (λ_ _=>?_);refine eG bY 9 (ay uD.ntmps 8 (Sb++[(14,ag .T)]) [(0,BW)]) (eK ?_);exact tP bY Iw ⟨(),trivial,bR _,rfl⟩
theorem IC:aF au 16 Tryz.f16:=ek
abbrev jf:Func:=Tryz.f16
end rite
end Go.Proofs.YtofofalgjibokaaGreatDoor
/- A rite: Phase and End, of any. -/
namespace Go.Proofs.YtofofalgjibokaaGreatDoor
namespace rite
open bf deal Go.Eng.Ob
theorem aaW{R:Rt}{H:Hbn.a8}(a:(iJ R).1=none):cc.eF ⟨⟨R,H⟩,true⟩=ak.sep (bV {R with bb:=(iJ R).2}) (bX H):=by show ak.sep (l8 R) _=_;unfold l8;rw[a]
theorem aaX{R:Rt}{H:Hbn.a8}{y:LI×List Pt×Fr×LI}(a:(iJ R).1=some y):cc.eF ⟨⟨R,H⟩,true⟩=ak.sep (um R y) (bX H):=by show ak.sep (l8 R) _=_;unfold l8;rw[a]
def w7(t:cc):SV:=match t.fin,(iJ t.z.R).1 with
 |true,some e=>Gm e.1 e.2.1 (.row .fr 1 [e.2.2.1]) (.ints .u8 32 e.2.2.2) t.z.R.bb
 |true,none=>if t.z.R.ba<4 then Iw else Gm [] [] zF zD (iJ t.z.R).2
 |false,_=>if t.z.R.ba<4 then Iw else Gm [] [] zF zD t.z.R.bb
theorem afs{R:Rt}(e:R.aE.length<1000)(d:R.bG<1000){y:LI×List Pt×Fr×LI}(c:(iJ R).1=some y):y.1.length<1048576/\y.2.1.length<1048576:=by have a:=TG R;have b:=KS R d;unfold iJ at c;split at c;split at c;split at c;cases c;exact⟨by show(dN R).length<_;omega,by show(h8 R).1.length<_;omega⟩;cases c;cases c;exact⟨by show(dN R).length<_;omega,by show(h8 R).1.length<_;omega⟩;cases c
theorem S8(b:dF):fk au b 13 (λt:cc=>[aT t.z.R.p]) TOk cc.eF (λt (_:Unit)=>w7 t) (λt _=>t.eF) (λ_ _=>True):=by
 rintro⟨⟨R,H⟩,f⟩g;cases f;exact cT (λ_=>bX H) (S9 b) R trivial
 ·obtain⟨c,i,d⟩:=g.inv;have d:fm c R H:=d;have h:R.ba=4:=g.fin rfl;cases a:(iJ R).1 with
  |none=>
   have e:w7 ⟨⟨R,H⟩,true⟩=(if R.ba<4 then Iw else Gm [] [] zF zD (iJ R).2):=by unfold w7;simp only[a]
   simp only[aaW a,e];exact cT (λ_=>bX H) (S9 b) {R with bb:=(iJ R).2} trivial
  |some y=>
   have e:w7 ⟨⟨R,H⟩,true⟩=Gm y.1 y.2.1 (.row .fr 1 [y.2.2.1]) (.ints .u8 32 y.2.2.2) R.bb:=by unfold w7;simp only[a]
   simp only[aaX a,e];exact cT (λ_=>bX H) (aga b y) R ⟨by rw[h];decide,afs d.dl d.bG a⟩
end rite
end Go.Proofs.YtofofalgjibokaaGreatDoor
namespace Go.Hbn
open Go.Hbm(dG Told gq Ur gP dy)
def a8.rF(H:a8)(t:dd):a8:={H with aX:=H.aX++[t]}
theorem Yq(H:a8)(t:dd):(H.rF t).get H.aX.length=t:=by unfold a8.get a8.rF;simp[bx]
theorem Ys(H:a8)(t u:dd):(H.rF t).set H.aX.length u=H.rF u:=by unfold a8.set a8.rF;simp
theorem Tn(H:a8)(t:dd):(H.rF t).nV=H.nV:=rfl
theorem Tm(H:a8)(t:dd):(H.rF t).half=H.half:=rfl
theorem Yr(H:a8)(t:dd):(H.rF t).mem=H.mem:=rfl
theorem ad9(H:a8)(t:dd):(H.rF t).me=H.me:=rfl
def a8.none(H:a8)(tp bE:Int):Prop:=∀t∈H.aX,¬(t.bo=tp/\t.bE=bE)
theorem alD{H:a8}{m:dG}(h:H.none m.bo m.bE)(t:dd)(e:kP m t=true):(H.rF t).at m=H.aX.length:=by
 have b:H.aX.findIdx (kP m)=H.aX.length:=by
  refine LM λx c=>?_;have:=h x c;unfold kP;cases a:(x.bo==m.bo&&x.bE==m.bE)with
  |false=>rfl
  |true=>simp only[bD,qM]at a;exact(this a).elim
 show(H.aX++[t]).findIdx (kP m)=_;rw[List.findIdx_append,b];simp[e]
theorem af9{H:a8}{m:dG}(h:H.none m.bo m.bE):H.at m=H.aX.length:=by
 refine LM λx b=>?_;have:=h x b;unfold kP;cases a:(x.bo==m.bo&&x.bE==m.bE)with
 |false=>rfl
 |true=>simp only[bD,qM]at a;exact(this a).elim
def Kg(H:a8)(tp:Int)(b:LI)(q:eI):dd:=
 if H.mem.length=1 then⟨q.1,q.2.1,q.2.2,tp,H.me,true,true,true,[(H.me,b)],[(H.me,b)]⟩else⟨q.1,q.2.1,q.2.2,tp,H.me,true,false,false,[(H.me,b)],[]⟩
def NT(H:a8)(tp:Int)(b:LI):List dG:=[(1,0,H.me,H.me,tp,0,b),(2,0,H.me,H.me,tp,0,b)]++if H.mem.length=1 then [(3,0,H.me,H.me,tp,0,b)]else []
def NS(H:a8)(tp:Int)(b:LI):List Hbm.Told:=if H.mem.length=1 then [(tp,H.me,b)]else []
theorem alone{H:a8}{tp:Int}{b:LI}(a:H.me∈H.mem)(n:1<=tp/\tp<=3)(s:b.length<=4096)(l:H.none tp H.me)(w:H.mem.length<=4)(q:eI):
  jC H tp b q=(H.rF (Kg H tp b q),NT H tp b,NS H tp b):=by
 have m:1<=H.mem.length:=List.length_pos_of_mem a;have i:∀k:Int,(k=1\/k=2\/k=3)->counts H.mem (k,0,H.me,H.me,tp,0,b)=true:=λk u=>by unfold counts;simp only[bD,mF];exact⟨u,⟨n.1,n.2,s⟩,a,a⟩
 have j:H.of (1,0,H.me,H.me,tp,0,b) q=H.rF ⟨q.1,q.2.1,q.2.2,tp,H.me,false,false,false,[],[]⟩:=by unfold a8.of;rw[af9 l,ai (zw _)];rfl
 have d:∀(k:Int)(t:dd),t.bo=tp->t.bE=H.me->(H.rF t).at (k,0,H.me,H.me,tp,0,b)=H.aX.length:=λk t c g=>alD l t (by unfold kP;rw[c,g];simp);have f:H.nV=((H.mem.length:Int)-1)/3:=rfl;have e:H.half=((H.mem.length:Int)+H.nV)/2:=rfl;unfold jC cF;rw[ah (i 1 (.inl rfl)),j];by_cases h:H.mem.length=1
 ·have c:H.nV=0:=by rw[f,h];rfl
  have g:H.half=0:=by rw[e,c,h];rfl
  simp[dG.kind,dG.aK,dG.bE,dG.bo,dG.body,k9,iT,lq,eR,iF,mS,andThen,plus,own,Yq,Ys,Tn,Tm,Yr,ad9,i,d,c,g,dy,gP,h,Kg,NT,NS]
 ·have c:0<=H.nV:=by rw[f];omega
  have g:1<=H.half:=by rw[e];omega
  have o:¬(H.half<1):=aa;have p:¬(H.nV<0):=aa;have r:¬(2*H.nV<0):=aa;simp[dG.kind,dG.aK,dG.bE,dG.bo,dG.body,k9,iT,lq,eR,iF,mS,andThen,plus,own,Yq,Ys,Tn,Tm,Yr,ad9,i,d,o,p,r,dy,gP,h,Kg,NT,NS]
end Go.Hbn
/- Layer 23's law: made, upto. -/
namespace Go.Proofs.YtofofalgjibokaaGreatDoor
namespace law23
open law14 Go.Proofs.Tryz
theorem aax:aF au 9 f9:=ek
def SZ(b:LI)(a n:Int)(g:Int×Nat×cO):St:=ay f9.ntmps 32 [(0,ag (.ro (.int .u8) b)),(1,sJ a),(2,sJ n),(7,ag (.sl 8 0 0 g.2.1 4)),(8,sJ g.1)] [(8,[.row .fr g.2.1 g.2.2])]
def mdE(b:LI)(a:Int)(i:Nat):Fr:=scw (b++[u8.wrap a,u8.wrap (i:Int),78])
def p7(b:LI)(a:Int)(n:Nat):cO:=(range n).map (mdE b a)
abbrev HH:HL [Im,.int .i64,.int .i64]->Prop:=λ(b,_,n,_)=>(Bs b/\length b<=1000)/\0<=(n:Int)/\(n:Int)<=1000
abbrev PK:HL [Im,.int .i64,.int .i64]->HO [.own .fr]:=λ(b,a,n,_)=>(p7 b a (n:Int).toNat,())
def maJ(b:LI)(a n:Int)(g:Int×Nat×cO):Prop:=g.2.1<=n.toNat/\g.1=(g.2.1:Int)/\g.2.2=p7 b a g.2.1
theorem Sw:bu au 9 [Im,.int .i64,.int .i64] [.own .fr] cx HH PK:=by
 have e:aS au (bw [ref01.Zg,fr.Zq]):=(aV (a2 ref01.KG) (aV (a2 fr.SA) bY));refine cu (sp:=bw [ref01.Zg,fr.Zq]) aax ae ae ab ?_;rintro w F ⟨b,a,n,⟨⟩⟩;revert b a n;intro(b:LI) (a:Int) (n:Int) _ E;obtain⟨⟨A,r⟩,f,t⟩:=E;have r:b.length<=1000:=r;have f:0<=n:=f;have t:n<=1000:=t;show Tr _ _ _ _ _ _ _;refine bN e ao 3 (SZ b a n (0,0,[])) True ?_ (λ_=>?_);refine av (X:=((SZ b a n (0,0,[])).aj True)) ab ?_;exact aw trivial;refine c2 e ao (λd=>[(8,Qi 7 d)]) (λd=>(bL (.int .i64) 8 d,qy 7 d,dO .fr 8 d)) (SZ b a n) (maJ b a n) (λg=>n.toNat-g.1.toNat)
  (λd=>(bL (.int .i64) 8 d,qy 7 d,dO .fr 8 d)) (SZ b a n) (λg=>g.2.1=n.toNat/\g.2.2=p7 b a n.toNat) (0,0,[]) (c:=ar (aq f9) 3) ab ab (aB ab ab ?_) ?_ ?_
 exact⟨aY _,rfl,rfl⟩
 ·rintro⟨i,m,l⟩ C;revert i l;intro(i:Int) (l:cO) ⟨s,o,el⟩;have o:i=(m:Int):=o;have kl:l=p7 b a m:=el;have s:m<=n.toNat:=s;subst o;have D:l.length=m:=by rw[kl,p7];simp
  refine @av ((decide ((m:Int)<n)=true->ref01.xL (b,())/\0+3<=3/\b.length<=b.length/\(b.length+3)*1<=2^47/\b.length+3<=2^62/\0+(b.length+3)<=b.length+3/\fr.TB (take (b.length+3) (take b.length b++take 3 [u8.wrap a,u8.wrap (m:Int),78]),())/\0+1<=1/\m<=m/\(m+1)*32<=2^47/\m+1<=2^62/\(SZ b a n (i64.wrap ((m:Int)+1),m+1,take m l++take 1 [kX (num (take (b.length+3) (take b.length b++take 3 [u8.wrap a,u8.wrap (m:Int),78])))])).aj (maJ b a n (i64.wrap ((m:Int)+1),m+1,take m l++take 1 [kX (num (take (b.length+3) (take b.length b++take 3 [u8.wrap a,u8.wrap (m:Int),78])))])/\n.toNat-(i64.wrap ((m:Int)+1)).toNat<n.toNat-(m:Int).toNat))/\(decide ((m:Int)<n)=false->(SZ b a n ((m:Int),m,l)).aj (m=n.toNat/\l=p7 b a n.toNat))) _ ?_ ?_;kernel_rfl;have y:take 3 [u8.wrap a,u8.wrap (m:Int),(78:Int)]=[u8.wrap a,u8.wrap (m:Int),(78:Int)]:=rfl;have z:take (b.length+3) (b++[u8.wrap a,u8.wrap (m:Int),(78:Int)])=b++[u8.wrap a,u8.wrap (m:Int),(78:Int)]:=cA az;rw[y,bg,z,a5 aa];have u:∀x:Int,0<=u8.wrap x/\u8.wrap x<256:=λx=>by simp only[IntKind.wrap,IntKind.signed,IntKind.bits];simp;omega
  have p:Bs (b++[u8.wrap a,u8.wrap (m:Int),(78:Int)]):=by intro x k;simp only[pz,we,List.not_mem_nil,or_false]at k;rcases k with k|rfl|rfl|rfl;exact A x k;exact u _;exact u _;decide
  refine⟨λh=>⟨by show b.length<=_;omega,ae,aa,aa,aa,aa,⟨p,by simp;omega⟩,ae,aa,aa,aa,aw ⟨⟨?_,rfl,?_⟩,?_⟩⟩,λh=>aw ?_⟩;have:=Odt h;show m+1<=n.toNat;omega;show take m l++[zm (num _)]=p7 b a (m+1);rw[cA aa,kl,p7,p7,qK,cE];congr 1;show _=[mdE b a m];rw[mdE,scw,bq];have:=Odt h;rw[aJ];omega
  ·have:m=n.toNat:=by have:=Odf h;omega
   exact⟨this,by rw[<-this];exact kl⟩
 rintro⟨i,m,l⟩ C;revert i l;intro(i:Int) (l:cO) ⟨q,j⟩;have q:m=n.toNat:=q;have j:l=p7 b a n.toNat:=j;refine cq e ao _ _ ?_;refine @av (0+m<=m/\(take m l,())=PK (b,a,n,())) _ ?_ ?_;kernel_rfl;refine⟨aa,?_⟩;show _=(p7 b a n.toNat,());rw[cA (by rw[j,p7];simp;omega),j]
def akx:=aZ Sw
theorem aaI:aF au 7 f7:=ek
def upI(n:Int)(g:Int×Nat×LI):St:=ay f7.ntmps 32 [(0,sJ n),(3,ag (.sl 8 0 0 g.2.1 1)),(4,sJ g.1)] [(8,[.ints .i64 g.2.1 g.2.2])]
def dg(n:Nat):LI:=(range n).map λi:Nat=>(i:Int)+1
theorem C1(n:Nat):dg (n+1)=dg n++[(n:Int)+1]:=by rw[dg,qK,cE];rfl
theorem rI(n:Nat):(dg n).length=n:=by simp[dg]
def upJ(n:Int)(g:Int×Nat×LI):Prop:=g.2.1<=n.toNat/\g.1=(g.2.1:Int)+1/\g.2.2=dg g.2.1
theorem afC:bu au 7 [.int .i64] [.own (.int .i64)] cx (λ(n,_)=>0<=(n:Int)/\(n:Int)<=1000) (λ(n,_)=>(dg (n:Int).toNat,())):=by
 have b:aS au (bw []):=bY;refine cu (sp:=bw []) aaI ae ae ab ?_;rintro w r ⟨n,⟨⟩⟩;revert n;intro(n:Int) _ ⟨d,p⟩;have d:0<=n:=d;have p:n<=1000:=p;show Tr _ _ _ _ _ _ _;refine bN b ao 3 (upI n (1,0,[])) True ?_ (λ_=>?_);refine av (X:=((upI n (1,0,[])).aj True)) ab ?_;exact aw trivial;refine c2 b ao (λa=>[(8,Qi 3 a)]) (λa=>(bL (.int .i64) 4 a,qy 3 a,dO (.int .i64) 8 a)) (upI n) (upJ n) (λg=>n.toNat+1-g.1.toNat)
  (λa=>(qy 3 a,dO (.int .i64) 8 a)) (λg=>ay f7.ntmps 32 [(3,ag (.sl 8 0 0 g.1 1))] [(8,[.ints .i64 g.1 g.2])]) (λg=>g.1=n.toNat/\g.2=dg n.toNat) (1,0,[]) (c:=ar (aq f7) 3) ab ab (aB ab ab ?_) ?_ ?_
 exact⟨aY _,rfl,rfl⟩
 ·rintro⟨i,m,l⟩ q;revert i l;intro(i:Int) (l:LI) ⟨o,f,el⟩;have f:i=(m:Int)+1:=f;have kl:l=dg m:=el;have o:m<=n.toNat:=o;clear el;subst f;have k:l.length=m:=by rw[kl,rI]
  refine @av ((decide ((m:Int)+1<=n)=true->0+1<=1/\m<=m/\(m+1)*8<=2^47/\m+1<=2^62/\(upI n (i64.wrap ((m:Int)+(1:Int)+1),m+1,take m l++take 1 [(m:Int)+1])).aj (upJ n (i64.wrap ((m:Int)+(1:Int)+1),m+1,take m l++take 1 [(m:Int)+1])/\n.toNat+1-(i64.wrap ((m:Int)+(1:Int)+1)).toNat<n.toNat+1-((m:Int)+1).toNat))/\(decide ((m:Int)+1<=n)=false->(ay f7.ntmps 32 [(3,SV.is (TV.one (ax.sl 8 0 0 (m,l).fst 1)))] [(8,[ax.ints i64 (m,l).fst (m,l).snd])]).aj (m=n.toNat/\l=dg n.toNat))) _ ?_ ?_;kernel_rfl;rw[bC aa aa];refine⟨λh=>⟨ae,aa,aa,aa,aw ⟨⟨?_,?_,?_⟩,?_⟩⟩,λh=>aw ?_⟩;have:=Odt h;show m+1<=n.toNat;omega;show(m:Int)+1+1=((m+1:Nat):Int)+1;omega;show take m l++[(m:Int)+1]=dg (m+1);rw[cA aa,kl,C1];have:=Odt h;omega
  ·have:m=n.toNat:=by have:=Odf h;omega
   exact⟨this,by rw[<-this];exact kl⟩
 rintro⟨m,l⟩ q;revert l;intro(l:LI) ⟨j,e⟩;have j:m=n.toNat:=j;have e:l=dg n.toNat:=e;have k:l.length=m:=by rw[e,rI,j]
 refine cq b ao _ _ ?_;refine @av (0+m<=m/\(take m l,())=(dg n.toNat,())) _ ?_ ?_;kernel_rfl;refine⟨aa,?_⟩;rw[cA aa,e]
end law23
namespace rite
open bf deal
open Go.Hbn(dd a8 ez)
open law23(dg rI)
structure Lone where
 me:Int
 mem:LI
 bG:Int
 bB:cO
 start:Int
 dK:Int
structure Lone.Ok(L:Lone):Prop where
 n1:1<=L.mem.length
 n4:L.mem.length<=4
 mm:L.me∈L.mem
 rng:∀x∈L.mem,1<=x/\x<=9
 k1:1<=L.bG
 kn:L.bG<=L.mem.length
 len:(L.bB.length:Int)=L.bG
 s0:0<=L.start
 s1:L.start<=1099511627776
 p1:1<=L.dK
 p2:L.dK<=1048576
theorem ahc{n:Nat}{x:Int}:x∈dg n↔1<=x/\x<=n:=by unfold dg;rw[mem_map];constructor;rintro⟨i,a,rfl⟩;have:=mem_range.1 a;omega;rintro⟨b,c⟩;exact⟨(x-1).toNat,mem_range.2 aa,aa⟩
theorem Lone.Ok.mem{L:Lone}(h:L.Ok):L.me∈L.mem:=h.mm
def cz(L:Lone)(k:Nat)(p bf:Nat):Rt:=
 ⟨p,L.me,L.mem,L.mem,L.bG,[],L.bB,L.start,L.dK,(k:Int),bf,
  if L.mem.length=1/\1<=k then [(L.me,poly.cr L.bB)]else [],if L.mem.length=1/\2<=k then [(L.me,[0])]else [],[],if 1<=k then [L.me]else [],if 1<=k then [poly.pat L.bB L.me]else [],0⟩
structure Stg(L:Lone)(k p:Nat)(t:cc):Prop where
 R:∃bf,t.z.R=cz L k p bf
 me:t.z.H.me=L.me
 mem:t.z.H.mem=L.mem
 top:∀x∈t.z.H.aX,x.bo<=k
 fin:t.fin=decide (k=4)
def pO(L:Lone)(k:Nat):LI:=if k=0 then law22.di (poly.cr L.bB)else if k=1/\L.mem.length≠1 then L.mem.map IntKind.u8.wrap else [0]
def Vk(L:Lone)(k:Nat):List aP:=[(1,0,L.me,L.me,(k:Int)+1,0,pO L k),(2,0,L.me,L.me,(k:Int)+1,0,pO L k)]++if L.mem.length=1 then [(3,0,L.me,L.me,(k:Int)+1,0,pO L k)]else []
def Pd(L:Lone)(k:Nat):List (Int×aP):=if k=0 then cW (cz L 0 0 0) L.mem++dj (Vk L 0)else if k<3 then dj (Vk L k)else []
def Nq(L:Lone):Nat->List (Int×aP)
 |0=>[]
 |k+1=>Nq L k++Pd L k
theorem HV{z:SayIn}{L:Lone}(l:L.Ok){k:Nat}(o:k<3)(e:z.H.me=L.me)(f:z.H.mem=L.mem)(j:∀x∈z.H.aX,x.bo<=k)(d:z.tp=(k:Int)+1)(g:er z.b=pO L k)(m:(pO L k).length<=4096)(q:eI):
  iN z q=Vk L k/\oe z q=(if L.mem.length=1 then et z.R ((k:Int)+1,L.me,pO L k)else z.R)/\(qn z q).me=L.me/\(qn z q).mem=L.mem/\∀x∈(qn z q).aX,x.bo<=((k+1:Nat):Int):=by
 have n:z.H.me∈z.H.mem:=by rw[e,f];exact l.mem
 have h:z.H.mem.length=L.mem.length:=by rw[f]
 have i:=l.n4;have a:=Hbn.alone (H:=z.H) (tp:=z.tp) (b:=er z.b) n (by rw[d];omega) (by rw[g];exact m) (λx hx c=>by have:=j x hx;rw[c.1,d]at this;omega) (by rw[h];exact i) q;unfold iN oe qn;rw[a];refine⟨?_,?_,e,f,?_⟩;show Hbn.NT z.H z.tp (er z.b)=_;unfold Hbn.NT Vk;rw[e,d,g,h];show fy z.R (Hbn.NS z.H z.tp (er z.b))=_;unfold Hbn.NS;rw[e,d,g,h];split;rfl;rfl
 ·intro x hx;have hx:x∈z.H.aX++[Hbn.Kg z.H z.tp (er z.b) q]:=hx;rcases List.mem_append.1 hx with hx|hx;have:=j x hx;omega
  ·rw[hV]at hx;subst hx;have:(Hbn.Kg z.H z.tp (er z.b) q).bo=z.tp:=by unfold Hbn.Kg;split<;>rfl
   rw[this,d];omega
theorem ajY{d:LI}{b:Int}{e:Int}{a:List Pt}(f:∀p∈a,g1.Sub p)(c:e∈d)(h:((a.length:Nat):Int)=b):oG d b [] e (law22.di a)=(a,0):=by rw[oG,bq,law22.di,bq];have g:(lB a).length=48*a.length:=vB a;rw[qx,ah c,ah ⟨aa,aa⟩,show(lB a).length/48=a.length by omega,Xe f,ah rfl,ah (.inl rfl),aee f]
theorem Kp(p:cO):∀x∈poly.cr p,g1.Sub x:=by intro x a;obtain⟨c,_,rfl⟩:=mem_map.1 a;exact g1.pU g1.nI c
theorem Kr(x:Int)(c:List Pt):je [(x,c)] x=0:=by rw[je,bq,eY];simp[qG]
theorem ae1(x:Int):je [] x=-1:=by rw[je,bq,eY];simp
theorem G5(x:Int)(c:List Pt):dp [(x,c)] x=c:=by rw[dp,Kr];rfl
theorem afX(x:Int):jg [x] x=0:=by rw[jg,bq,law22.xa];simp
theorem Lone.Ok.one{L:Lone}(h:L.Ok)(e:L.mem.length=1):L.mem=[L.me]/\L.bG=1/\L.me≠0:=by
 have g:=h.k1;have j:=h.kn;have n:=h.rng _ h.mm;refine⟨?_,aa,aa⟩;have d:=h.mm;match f:L.mem,e with
 |[x],_=>rw[f]at d;rw[List.mem_singleton.1 d]
theorem MU{L:Lone}(h:L.Ok)(i:L.mem.length=1){R:Rt}(a:R.aG=[(L.me,poly.cr L.bB)])(b:R.aK=[L.me])(c:R.br=[poly.pat L.bB L.me])(d:R.me=L.me):c4 R L.me=(poly.pat L.bB L.me,true):=by
 have g:gb L.me:=by have:=h.rng _ h.mm;exact⟨aa,aa⟩
 have f:law22.qU (poly.cr L.bB) L.me (poly.pat L.bB L.me)=true:=by rw[law22.qU,bq,poly.KE g];simp
 unfold c4;rw[a,b,c,d,Kr,afX,G5];rw[ai ae];have e:(List.getD [poly.pat L.bB L.me] (0:Int).toNat 0)=poly.pat L.bB L.me:=rfl;rw[e,f];rfl
theorem V4{R:Rt}(a:R.aG=[])(d:Int):c4 R d=(0,false):=by unfold c4;rw[a,ae1,ah ae]
theorem Hu{L:Lone}(h:L.Ok)(k:Nat):(pO L k).length<=4096:=by unfold pO;have:=h.len;have:=h.kn;have:=h.n4;split;rw[Gc,jq];omega;split;rw[b5];omega;decide
theorem Ya{L:Lone}(h:L.Ok){k:Nat}(Y:k<4){p:Nat}{t:cc}(P:Stg L k p t)(q:eI):Stg L (k+1) p (db t q).1/\(db t q).2=Pd L k:=by
 obtain⟨⟨R,H⟩,f⟩:=t;obtain⟨⟨bf,D⟩,l,g,i,F⟩:=P;have D:R=cz L k p bf:=D;have l:H.me=L.me:=l;have g:H.mem=L.mem:=g;have i:∀x∈H.aX,x.bo<=(k:Int):=i;have j:=h.mem;subst D;have A:(cz L k p bf).ba=(k:Int):=rfl;have I:k=0\/k=1\/k=2\/k=3:=aa;rcases I with rfl|rfl|rfl|rfl
 ·have e:db ⟨⟨cz L 0 p bf,H⟩,f⟩ q=(⟨lF ⟨bh (cz L 0 p bf) 1,H⟩ q,false⟩,eT ⟨bh (cz L 0 p bf) 1,H⟩ q):=by unfold db;exact ah rfl
  have m:lF ⟨bh (cz L 0 p bf) 1,H⟩ q=⟨oe (ns ⟨bh (cz L 0 p bf) 1,H⟩) q,qn (ns ⟨bh (cz L 0 p bf) 1,H⟩) q⟩:=ah j;have n:eT ⟨bh (cz L 0 p bf) 1,H⟩ q=cW (bh (cz L 0 p bf) 1) L.mem++dj (iN (ns ⟨bh (cz L 0 p bf) 1,H⟩) q):=ah j;rw[e,m,n];have o:er (ns ⟨bh (cz L 0 p bf) 1,H⟩).b=pO L 0:=by show er (law22.di (poly.cr L.bB))=law22.di (poly.cr L.bB);unfold er;rw[ai];intro c;have:=congrArg length c;rw[Gc,jq]at this;have a:=h.len;have X:=h.k1;have C:([]:LI).length=0:=rfl;rw[C]at this;omega
  obtain⟨r,s,u,w,y⟩:=HV (z:=ns ⟨bh (cz L 0 p bf) 1,H⟩) h (k:=0) ae l g i rfl o (Hu h 0) q;have ek:eH (bh (cz L 0 p bf) 1) L.mem=⟨p,L.me,L.mem,L.mem,L.bG,[],L.bB,L.start,L.dK,1,bf,[],[],[],[L.me],[poly.pat L.bB L.me],0⟩:=by have V:eH (bh (cz L 0 p bf) 1) L.mem=eD (bh (cz L 0 p bf) 1) L.me (poly.pat L.bB L.me):=ah j;have W:eD (bh (cz L 0 p bf) 1) L.me (poly.pat L.bB L.me)={bh (cz L 0 p bf) 1 with aK:=(bh (cz L 0 p bf) 1).aK++[L.me],br:=(bh (cz L 0 p bf) 1).br++[poly.pat L.bB L.me]}:=ai (by simp[bh,cz]);rw[V,W];simp[bh,cz]
  refine⟨⟨⟨bf,?_⟩,u,w,y,rfl⟩,?_⟩;refine s.trans ?_;show(if L.mem.length=1 then et (eH (bh (cz L 0 p bf) 1) L.mem) _ else(eH (bh (cz L 0 p bf) 1) L.mem))=_;rw[ek];by_cases a:L.mem.length=1;rw[ah a];refine(ah (show((0:Nat):Int)+1=1 from rfl)).trans ?_;have G:oG L.mem L.bG [] L.me (pO L 0)=(poly.cr L.bB,0):=ajY (Kp _) j (by rw[jq];exact h.len);show(if(oG L.mem L.bG [] L.me (pO L 0)).2=0 then _ else _)=_;rw[G,ah rfl];unfold cz;simp[a];rw[ai a];unfold cz;simp[a];show cW (bh (cz L 0 p bf) 1) L.mem++dj (iN (ns ⟨bh (cz L 0 p bf) 1,H⟩) q)=Pd L 0;rw[r];rfl
 ·have e:db ⟨⟨cz L 1 p bf,H⟩,f⟩ q=(⟨mH ⟨bh (cz L 1 p bf) 2,H⟩ q,false⟩,fa ⟨bh (cz L 1 p bf) 2,H⟩ q):=by
   unfold db;exact(ai (show ¬(((1:Nat):Int)=0) by decide)).trans (ah rfl)
  have m:mH ⟨bh (cz L 1 p bf) 2,H⟩ q=⟨oe (pC ⟨bh (cz L 1 p bf) 2,H⟩) q,qn (pC ⟨bh (cz L 1 p bf) 2,H⟩) q⟩:=ah j;have n:fa ⟨bh (cz L 1 p bf) 2,H⟩ q=dj (iN (pC ⟨bh (cz L 1 p bf) 2,H⟩) q):=ah j;rw[e,m,n];have o:er (pC ⟨bh (cz L 1 p bf) 2,H⟩).b=pO L 1:=by
   show er (iw (bh (cz L 1 p bf) 2) L.mem)=_;unfold iw;by_cases a:L.mem.length=1;have E:=MU h a (R:=bh (cz L 1 p bf) 2) (by simp[bh,cz,a]) rfl rfl rfl;have Q:L.mem=[L.me]:=(h.one a).1;rw[Q];simp[E,er,pO,a]
   ·have E:∀d,c4 (bh (cz L 1 p bf) 2) d=(0,false):=V4 (by simp[bh,cz,a]);have N:L.mem.filter (λd=> !(c4 (bh (cz L 1 p bf) 2) d).2)=L.mem:=List.filter_eq_self.2 λd _=>by rw[E];rfl
    rw[N];unfold er pO;have:L.mem.length≠0:=by have:=h.n1;omega
    simp[a];intro c;have:=congrArg length c;have a:=h.n1;have C:([]:LI).length=0:=rfl;rw[C]at this;omega
  obtain⟨r,s,u,w,y⟩:=HV (z:=pC ⟨bh (cz L 1 p bf) 2,H⟩) h (k:=1) ae l g i rfl o (Hu h 1) q;refine⟨⟨⟨bf,?_⟩,u,w,y,rfl⟩,?_⟩
  ·refine s.trans ?_;by_cases a:L.mem.length=1
   ·rw[ah a];have el:pO L 1=[0]:=by unfold pO;simp[a]
    rw[el];unfold et cz bh pC yc;simp[a]
   rw[ai a];unfold cz bh pC;simp[a]
  show dj (iN (pC ⟨bh (cz L 1 p bf) 2,H⟩) q)=Pd L 1;rw[r];rfl
 ·have e:db ⟨⟨cz L 2 p bf,H⟩,f⟩ q=(⟨r4 ⟨bh (cz L 2 p bf) 3,H⟩ q,false⟩,hO ⟨bh (cz L 2 p bf) 3,H⟩ q):=by
   unfold db;exact(ai (show ¬(((2:Nat):Int)=0) by decide)).trans ((ai (show ¬(((2:Nat):Int)=1) by decide)).trans (ah rfl))
  have m:r4 ⟨bh (cz L 2 p bf) 3,H⟩ q=⟨oe (ug ⟨bh (cz L 2 p bf) 3,H⟩) q,qn (ug ⟨bh (cz L 2 p bf) 3,H⟩) q⟩:=ah j;have n:hO ⟨bh (cz L 2 p bf) 3,H⟩ q=dj (iN (ug ⟨bh (cz L 2 p bf) 3,H⟩) q):=ah j;rw[e,m,n];have o:er (ug ⟨bh (cz L 2 p bf) 3,H⟩).b=pO L 2:=by
   show er (lZ (bh (cz L 2 p bf) 3) L.mem)=_;have U:lZ (bh (cz L 2 p bf) 3) L.mem=[]:=by
    unfold lZ;rw[List.flatMap_eq_nil_iff];intro x _;have K:m4 (bh (cz L 2 p bf) 3).aU x (bh (cz L 2 p bf) 3).me=false:=by rw[m4,bq];by_cases a:L.mem.length=1;have O:=(h.one a).2.2;simp[bh,cz,a,tn,O];simp[bh,cz,a]
    rw[K];rfl
   rw[U];rfl
  obtain⟨r,s,u,w,y⟩:=HV (z:=ug ⟨bh (cz L 2 p bf) 3,H⟩) h (k:=2) ae l g i rfl o (Hu h 2) q;refine⟨⟨⟨bf,?_⟩,u,w,y,rfl⟩,?_⟩
  ·refine s.trans ?_;by_cases a:L.mem.length=1
   ·rw[ah a];have el:pO L 2=[0]:=by unfold pO;simp
    rw[el];unfold et cz bh ug;simp[a,gp,qm]
   rw[ai a];unfold cz bh ug;simp[a]
  show dj (iN (ug ⟨bh (cz L 2 p bf) 3,H⟩) q)=Pd L 2;rw[r];rfl
 ·have e:db ⟨⟨cz L 3 p bf,H⟩,f⟩ q=(⟨⟨bh (cz L 3 p bf) 4,H⟩,true⟩,[]):=by
   unfold db;exact(ai (show ¬(((3:Nat):Int)=0) by decide)).trans ((ai (show ¬(((3:Nat):Int)=1) by decide)).trans (ai (show ¬(((3:Nat):Int)=2) by decide)))
  rw[e];refine⟨⟨⟨bf,?_⟩,l,g,λx T=>Int.le_trans (i x T) ae,rfl⟩,rfl⟩;show bh (cz L 3 p bf) 4=_;unfold bh cz;simp
theorem Pe{L:Lone}(h:L.Ok){k:Nat}(f:k<=4)(p bf:Nat)(e:Int):jl (cz L k p bf) e=(decide ((k:Int)<4)&&decide (e>=L.start+(k:Int)*L.dK)):=by have a:=h.s0;have b:=h.s1;have c:=h.p1;have d:=h.p2;have g:0<=(k:Int)*L.dK/\(k:Int)*L.dK<=4*1048576:=⟨oX aa aa,Int.mul_le_mul aa d aa aa⟩;unfold jl;show(decide ((k:Int)<4)&&decide (e>=IntKind.i64.wrap (L.start+IntKind.i64.wrap ((k:Int)*L.dK))))=_;rw[bC (a:=(k:Int)*L.dK) aa aa,bC aa aa]
theorem Vm{L:Lone}(h:L.Ok){a:Int}{t u:cc}{o:List (Int×aP)}(g:Ticks a t u o):∀{k p:Nat},k<=4->Stg L k p t->∃j,k<=j/\j<=4/\Stg L j p u/\Nq L k++o=Nq L j/\(j=4\/a<L.start+(j:Int)*L.dK)/\(a<L.start+(k:Int)*L.dK->j=k):=by
 induction g with
 |stop t hd=>intro k p d b;refine⟨k,aQ _,d,b,bF _,?_,λ_=>rfl⟩;obtain⟨bf,e⟩:=b.R;have hd:jl t.z.R a=false:=hd;rw[e,Pe h d]at hd;by_cases f:k=4;exact .inl f;refine .inr ?_;rw[Bool.and_eq_false_iff]at hd;rcases hd with hd|hd;have:=Odf hd;have:¬((k:Int)<4):=this;omega;have:=Odf hd;have:¬(a>=L.start+(k:Int)*L.dK):=this;omega
 |step t q u o hd _ i=>intro k p d b;obtain⟨bf,e⟩:=b.R;have hd:jl t.z.R a=true:=hd;rw[e,Pe h d]at hd;rw[bD]at hd;have d1:(k:Int)<4:=Odt hd.1;have d2:a>=L.start+(k:Int)*L.dK:=Odt hd.2;obtain⟨s,w⟩:=Ya h aa b q;obtain⟨j,x,l,m,n,r,y⟩:=i (k:=k+1) aa s;refine⟨j,aa,l,m,?_,r,λc=>aa⟩;rw[<-n,w,<-cZ];rfl
theorem agt{l:cO}(h:l.length=1):poly.HJ [] l=l:=by obtain⟨c,rfl⟩:=List.length_eq_one_iff.1 h;unfold poly.HJ;have a:max ([]:cO).length [c].length=1:=rfl;have d:range 1=[0]:=rfl;rw[a,d,eV,sR];have b:([]:cO).getD 0 0=0:=List.getD_nil ..;have e:[c].getD 0 0=c:=zg ..;rw[b,e,Rg.zero_add]
def ajh(L:Lone):LI×List Pt×Fr×LI:=([L.me],poly.cr L.bB,poly.pat L.bB L.me,rP [L.me] (poly.cr L.bB))
theorem abn{L:Lone}(h:L.Ok)(b:L.mem.length=1)(p bf:Nat):iJ (cz L 4 p bf)=(some (ajh L),0):=by
 obtain⟨t,o,z⟩:=h.one b;have y:=h.rng _ h.mm;have m:(cz L 4 p bf).aG=[(L.me,poly.cr L.bB)]:=by simp[cz,b]
 have w:(cz L 4 p bf).aU=[(L.me,[0])]:=by simp[cz,b]
 have a:(cz L 4 p bf).aE=[L.me]:=t;have f:(cz L 4 p bf).aL=[L.me]:=t;have c:(cz L 4 p bf).bG=1:=o;have e:(cz L 4 p bf).bJ=[]:=rfl;have i:((poly.cr L.bB).length:Int)=1:=by rw[jq,h.len,o]
 have d:o0 [(L.me,poly.cr L.bB)] 1 L.me=true:=by rw[o0,Kr,G5,i];decide
 have q:dN (cz L 4 p bf)=[L.me]:=by
  rw[dN,bq,jE,a,f,c,m,w];have:rD [L.me] 1 L.me [(L.me,poly.cr L.bB)] [(L.me,[0])] (cz L 4 p bf).aM=true:=by
   rw[rD,bq,rC,d];have u:oo [L.me] L.me [(L.me,[0])]=[]:=by rw[oo,bq];simp[om,z]
   rw[u];rfl
  simp[this]
 have s:dL [L.me] [] [L.me]=([L.me],[],0):=by rw[dL,ah];exact ah rfl;refine⟨?_,?_⟩;simp[iD];omega;unfold EI;simp;decide
 have j:L.bB.length=1:=by have:=h.len;omega
 have x:h8 (cz L 4 p bf)=(poly.cr L.bB,0):=by rw[h8,q,law22.uG,bq,pM,a,e,m,c,s];show xq 1 [(L.me,poly.cr L.bB)] [L.me] [] 0=_;rw[xq,ah rfl,ah (by simp[d])];show(jS [(L.me,poly.cr L.bB)] [L.me] [] 1,(0:Int))=_;congr 1;show poly.kC (poly.cr []) (jW [] 0 (dp [(L.me,poly.cr L.bB)] L.me))=_;rw[G5];show poly.kC (poly.cr []) (poly.cr L.bB)=_;rw[law22.MG];rw[agt j]
 have r:=MU h b (R:=cz L 4 p bf) (by simp[cz,b]) rfl rfl rfl;have g:e8 (cz L 4 p bf) [L.me]=[L.me]:=by unfold e8;simp[r]
 have k:e9 (cz L 4 p bf) [L.me]=[poly.pat L.bB L.me]:=by unfold e9;rw[g];simp[r]
 have l:iE (cz L 4 p bf) [L.me]=(poly.pat L.bB L.me,0):=by
  rw[iE,g,k,law22.wX,bq,uy,a,e,s];show Fh [L.me] [poly.pat L.bB L.me] [L.me] [] 0=_;have n:uM [L.me] L.me=0:=by rw[uM,bq,eY];simp
  rw[Fh,ah rfl,ah];show(tS [L.me] [poly.pat L.bB L.me] [L.me] [] 1,(0:Int))=_;congr 1;show 0+tW [] 0 ([poly.pat L.bB L.me].getD (uM [L.me] L.me).toNat 0)=_;rw[n];exact Rg.zero_add _;simp[Aj,n]
 unfold iJ;rw[x,ah rfl,f,ah (show(cz L 4 p bf).me∈[L.me] by show L.me∈_;simp),q,l,ah rfl];rfl
end rite
end Go.Proofs.YtofofalgjibokaaGreatDoor
namespace Go.Proofs
open Go.Shelf
def Tryz.yp:Go.Shelf.Ren:=⟨fun|4=>59|n=>n,fun|22=>24|25=>3|3=>3|4=>4|9=>9|20=>20|0=>0|n=>n,fun|n=>n⟩
theorem Tryz.abl:Go.Proofs.Lays8.n4 Tryz.prog Tryz.yp:={
 mixed:=ab
 f4:=⟨Tryz.f59.name,ae,Tryz.func59.trans (congrArg some ab)⟩
 t0:=Tryz.underlying0
 a0:=Tryz.isAgg0
 z0:=Tryz.sizeOf0
 v0:=Tryz.zeroValue0
 t3:=Tryz.underlying3
 a3:=Tryz.isAgg3
 z3:=Tryz.sizeOf3
 v3:=Tryz.zeroValue3
 t4:=Tryz.underlying4
 a4:=Tryz.isAgg4
 z4:=Tryz.sizeOf4
 v4:=Tryz.zeroValue4
 t9:=Tryz.underlying9
 a9:=Tryz.isAgg9
 z9:=Tryz.sizeOf9
 v9:=Tryz.zeroValue9
 t20:=Tryz.underlying20
 a20:=Tryz.isAgg20
 z20:=Tryz.sizeOf20
 v20:=Tryz.zeroValue20
 t22:=Tryz.underlying24
 a22:=Tryz.isAgg24
 z22:=Tryz.sizeOf24
 v22:=Tryz.zeroValue24}
def Tryz.Nd:Go.Shelf.Ren:=⟨fun|20=>29|n=>n,fun|22=>24|3=>3|4=>4|0=>0|n=>n,fun|n=>n⟩
theorem Tryz.Mq:Go.Proofs.Lays2.n20 Tryz.prog Tryz.Nd:={
 mixed:=ab
 f20:=Tryz.func29.trans (congrArg some ab)
 t0:=Tryz.underlying0
 a0:=Tryz.isAgg0
 z0:=Tryz.sizeOf0
 v0:=Tryz.zeroValue0
 t3:=Tryz.underlying3
 a3:=Tryz.isAgg3
 z3:=Tryz.sizeOf3
 v3:=Tryz.zeroValue3
 t4:=Tryz.underlying4
 a4:=Tryz.isAgg4
 z4:=Tryz.sizeOf4
 v4:=Tryz.zeroValue4
 t22:=Tryz.underlying24
 a22:=Tryz.isAgg24
 z22:=Tryz.sizeOf24
 v22:=Tryz.zeroValue24
 i3:=by kernel_rfl}
open Go.RowKit Go.Lib Go.Sort in
theorem Tryz.slices_Compact_int(a b c:Nat)(d:LI)(w:World)(h:Holds (Value.int .i64) w a b d.toArray)(g:d.length<=9223372036854775807)(f:d.length<=c):
  Calls Tryz.prog 29 #[.slice (some ⟨a,b,none⟩) d.length c] w λe i=>e=.returned (.slice (some ⟨a,b,none⟩) (Lib.compact d).length c)/\∃q,i=putRow (Value.int .i64) (Sort.ahead w q) a b (Lib.compact d++replicate (d.length-(Lib.compact d).length) 0).toArray:=Any.slices_Compact_int Tryz.Mq a b c d w h g f
namespace YtofofalgjibokaaGreatDoor.part
section
variable {α:Type}(z:α)(key:α->Int)
def swp(l:List α)(j:Nat):List α:=(l.set (j+1) (l.getD j z)).set j (l.getD (j+1) z)
def Io(l:List α):Nat->List α
 |0=>l
 |j+1=>if key (l.getD (j+1) z)<key (l.getD j z)then Io (swp z l j) j else l
def Dh(l:List α):Nat->List α
 |0=>l
 |k+1=>Io z key (Dh l k) (k+1)
theorem QJ:∀(l:List α)(j:Nat),j+1<l.length->(swp z l j).Perm l
 |x::y::l,0,_=>List.Perm.swap x y l
 |x::l,j+1,h=>by
  have h:j+1<l.length:=by simpa using h
  exact(QJ l j h).cons x
 |[],_,h=>absurd h az
 |[_],0,h=>absurd h az
theorem ag7(l:List α)(j:Nat):(swp z l j).length=l.length:=by simp[swp]
theorem NW:∀(j:Nat)(l:List α),j<l.length->(Io z key l j).Perm l
 |0,l,_=>List.Perm.refl l
 |j+1,l,h=>by unfold Io;split;exact(NW j _ (by rw[ag7];omega)).trans (QJ z l j h);exact List.Perm.refl l
theorem H3(l:List α):∀(k:Nat),k<l.length\/k=0->(Dh z key l k).Perm l
 |0,_=>List.Perm.refl l
 |k+1,h=>by have a:=H3 l k aa;exact(NW z key (k+1) _ (by rw[a.length_eq];omega)).trans a
def acw(l:List α):List α:=Dh z key l (l.length-1)
end
end YtofofalgjibokaaGreatDoor.part
end Go.Proofs
/- slices.Sort of ints. -/
namespace Go.Proofs.YtofofalgjibokaaGreatDoor
namespace sorti
open Go.Proofs.Tryz
open Go.IntKind(i64 u64 u8)
open part(Dh acw Io swp H3)
abbrev iK:Kd:=.int .i64
theorem afl:aF au 147 f147:=ek
theorem aie:bu au 147 [iK] [.val .bool] cx (λ_=>True) (λ_=>(false,())):=by refine bH bY ao afl ae ae ?_;rintro w b ⟨a,⟨⟩⟩;revert a;intro a _ _;refine @av ((a != a,())=(false,())) _ ?_ ?_;kernel_rfl;simp
theorem aav:aF au 102 f102:=ek
theorem Sv:bu au 102 [iK,iK] [.val .bool] cx (λ_=>True) (λ(a,b,_)=>(decide (a<b),())):=by refine bH (aV (a2 aie) bY) ao aav ae ae ?_;rintro w d ⟨a,b,⟨⟩⟩;revert a b;intro a b _ _;refine @av (True/\(false=true->True/\((!false)=true->(true,())=(decide (a<b),()))/\((!false)=false->(decide (a<b),())=(decide (a<b),())))/\(false=false->(decide (a<b),())=(decide (a<b),()))) _ ?_ ?_;kernel_rfl;exact⟨trivial,λh=>(by cases h),λ_=>rfl⟩
def Zk:=aZ Sv
abbrev kI:Int->Int:=λx=>x
theorem afd:aF au 96 f96:=ek
def IX(n:Nat)(g:Int×LI):St:=ay f96.ntmps 25 [(0,ag (.sl 0 0 0 n 1)),(1,sJ 0),(2,sJ n),(6,sJ g.1)] [(0,[.ints .i64 n g.2])]
def Vb(n:Nat)(i:Int)(g:Int×LI):St:=ay f96.ntmps 41 [(0,ag (.sl 0 0 0 n 1)),(1,sJ 0),(2,sJ n),(6,sJ i),(7,sJ g.1)] [(0,[.ints .i64 n g.2])]
def isO(n:Nat)(a:LI):St:=ay f96.ntmps 25 [] [(0,[.ints .i64 n a])]
abbrev P9:LI×HL [iK,iK]->Prop:=λ(d,a,b,_)=>a=0/\b=(length d:Int)/\length d<=12
def kA(a:LI):LI:=acw (0:Int) kI a
def isJ(a:LI)(g:Int×LI):Prop:=∃k:Nat,k+1<=a.length/\g.1=k+1/\g.2=Dh (0:Int) kI a k
def ai6(n:Nat)(a:LI)(m:Nat)(g:Int×LI):Prop:=∃t:Nat,t<=m/\g.1=t/\g.2.length=n/\Io (0:Int) kI g.2 t=a
theorem ah8:Ib au 96 iK [iK,iK] [] cx P9 (λ(d,_)=>(kA d,())):=by
 have m:aS au (bw [Zk]):=aV (a2 Sv) bY;refine El (sp:=bw [Zk]) afd ae ae ab ?_;rintro w I K d ⟨a,b,⟨⟩⟩;revert d a b;intro d a b q P O H;obtain⟨x,y,C⟩:=H;have x:a=0:=x;have y:b=d.length:=y;have C:d.length<=12:=C;have q:0<d.length:=q;subst x y;refine bN m ao 1 (IX d.length (1,d)) True ?_ (λ_=>?_);refine av (X:=((IX d.length (1,d)).aj True)) ab ?_;exact aw trivial;refine rq jH (λo=>(bL iK 6 o,dO iK 0 o)) (IX d.length) (isJ d) (λg=>d.length-g.1.toNat)
  (λo=>dO iK 0 o) (isO d.length) (λl=>l=kA d) (1,d) (c:=ar (aq f96) 1) ab ab (aB ab ab ?_) ?_ ?_
 exact⟨0,q,rfl,rfl⟩
 ·rintro⟨i,l⟩ F;revert i l;intro i l ⟨k,L,r,p⟩;have r:i=k+1:=r;subst r;have p:l=Dh (0:Int) kI d k:=p;have A:l.length=d.length:=by rw[p];exact(H3 (0:Int) kI d k aa).length_eq
  refine bN m ao 2 (IX d.length (k+1,l)) (k+1<d.length) ?_ (λG=>?_)
  ·refine av (X:=((decide ((k:Int)+1<(d.length:Int))=true->(IX d.length ((k:Int)+1,l)).aj (k+1<d.length))/\(decide ((k:Int)+1<(d.length:Int))=false->(isO d.length l).aj (l=kA d)))) ab ?_;refine⟨λh=>aw (by have:=Odt h;omega),λh=>aw ?_⟩;have e:d.length-1=k:=by have:=Odf h;omega
   rw[p,kA,acw,e]
  refine n3 (c:=ar (aO (ar (aq f96) 1)) 2) ab ab ?_;refine bN m ao 1 (Vb d.length (k+1) (k+1,l)) True ?_ (λ_=>?_);refine av (X:=((Vb d.length ((k:Int)+1) ((k:Int)+1,l)).aj True)) ab ?_;exact aw trivial;refine c2 m ao jH (λo=>(bL iK 7 o,dO iK 0 o)) (Vb d.length (k+1)) (ai6 d.length (Dh (0:Int) kI d (k+1)) (k+1)) (λg=>g.1.toNat)
   (λo=>dO iK 0 o) (λf=>IX d.length (k+1,f)) (λf=>f=Dh (0:Int) kI d (k+1)) (k+1,l) (c:=ar (cg (ar (aO (ar (aq f96) 1)) 2)) 1) ab ab (aB ab ab ?_) ?_ ?_
  exact⟨k+1,aQ _,rfl,A,by rw[p];rfl⟩
  ·rintro⟨j,f⟩ F;revert j f;intro j f ⟨t,N,s,el,n⟩;have s:j=t:=s;subst s;have el:f.length=d.length:=el;have n:Io (0:Int) kI f t=Dh (0:Int) kI d (k+1):=n;refine @av ((decide ((t:Int)>0)=true->(0<=(t:Int)/\(t:Int)<(d.length:Int))/\(t:Int).toNat<d.length/\(0<=i64.wrap ((t:Int)-1)/\i64.wrap ((t:Int)-1)<(d.length:Int))/\(i64.wrap ((t:Int)-1)).toNat<d.length/\True/\(decide (f.getD (t:Int).toNat 0<f.getD (i64.wrap ((t:Int)-1)).toNat 0)=true->(0<=i64.wrap ((t:Int)-1)/\i64.wrap ((t:Int)-1)<(d.length:Int))/\(i64.wrap ((t:Int)-1)).toNat<d.length/\(0<=(t:Int)/\(t:Int)<(d.length:Int))/\(t:Int).toNat<d.length/\(0<=(t:Int)/\(t:Int)<(d.length:Int))/\(t:Int).toNat<d.length/\(0<=i64.wrap ((t:Int)-1)/\i64.wrap ((t:Int)-1)<(d.length:Int))/\(i64.wrap ((t:Int)-1)).toNat<d.length/\(Vb d.length ((k:Int)+1) (i64.wrap ((t:Int)-1),(f.set (t:Int).toNat (f.getD (i64.wrap ((t:Int)-1)).toNat 0)).set (i64.wrap ((t:Int)-1)).toNat (f.getD (t:Int).toNat 0))).aj (ai6 d.length (Dh 0 kI d (k+1)) (k+1) (i64.wrap ((t:Int)-1),(f.set (t:Int).toNat (f.getD (i64.wrap ((t:Int)-1)).toNat 0)).set (i64.wrap ((t:Int)-1)).toNat (f.getD (t:Int).toNat 0))/\(i64.wrap ((t:Int)-1)).toNat<(t:Int).toNat))/\(decide (f.getD (t:Int).toNat 0<f.getD (i64.wrap ((t:Int)-1)).toNat 0)=false->(IX d.length ((k:Int)+1,f)).aj (f=Dh 0 kI d (k+1))))/\(decide ((t:Int)>0)=false->(IX d.length ((k:Int)+1,f)).aj (f=Dh 0 kI d (k+1)))) _ ?_ ?_;kernel_rfl;have E:∀u,Io (0:Int) kI f (u+1)=if kI (f.getD (u+1) (0:Int))<kI (f.getD u (0:Int))then Io (0:Int) kI (swp (0:Int) f u) u else f:=λu=>rfl;refine⟨λh=>?_,λh=>aw ?_⟩
   ·obtain⟨u,rfl⟩:∃u,t=u+1:=⟨t-1,by have:=Odt h;omega⟩;rw[E]at n;have D:i64.wrap (((u+1:Nat):Int)-1)=u:=by rw[bC aa aa];omega
    rw[D,aJ,aJ];refine⟨⟨aa,aa⟩,aa,⟨aa,aa⟩,aa,trivial,λz=>⟨⟨aa,aa⟩,aa,⟨aa,aa⟩,aa,⟨aa,aa⟩,aa,⟨aa,aa⟩,aa,aw ⟨⟨u,aa,rfl,?_,?_⟩,aa⟩⟩,λz=>aw ?_⟩;rw[jT,jT,el];rw[ah (Odt z)]at n;exact n;rw[ai (Odf z)]at n;exact n
   ·have:t=0:=by have:=Odf h;omega
    subst this;exact n
  intro f n;refine l5 ?_;refine cq m ao _ _ ?_;refine @av ((IX d.length (i64.wrap ((k:Int)+(1:Int)+1),f)).aj (isJ d (i64.wrap ((k:Int)+(1:Int)+1),f)/\d.length-(i64.wrap ((k:Int)+(1:Int)+1)).toNat<d.length-((k:Int)+1).toNat)) _ ?_ ?_;kernel_rfl;rw[bC aa aa];exact aw ⟨⟨k+1,aa,aa,n⟩,aa⟩
 intro l p;refine cq m ao _ _ ?_;refine @av (d.length=d.length/\(l,())=(kA d,())) _ ?_ ?_;kernel_rfl;exact⟨rfl,by rw[p]⟩
def KV(n:Int):Int:=[0,1,2,2,3,3,3,3,4,4,4,4,4].getD n.toNat 0
theorem W7:aF au 106 f106:=ek
def b8T:ByteArray:=⟨([0,1,2,2]++replicate 4 3++replicate 8 4++replicate 16 5++replicate 32 6++replicate 64 7++replicate 128 (8:UInt8)).toArray⟩
theorem Ow:bu au 106 [.int .u64] [.val iK] cx (λ(n,_)=>0<=(n:Int)/\(n:Int)<=12) (λ(n,_)=>(KV n,())):=by
 have a:aS au (bw []):=bY;refine cu (sp:=bw []) W7 ae ae ab ?_;rintro w i ⟨n,⟨⟩⟩;revert n;intro(n:Int) _ ⟨c,d⟩;have c:0<=n:=c;have d:n<=12:=d;show Tr _ _ _ _ _ _ _;refine lL a ao 7 (λe=>(bL (.int .u64) 0 e,bL iK 2 e)) (λg=>ay f106.ntmps 56 [(0,sI .u64 g.1),(2,sJ g.2)] []) (λg=>g=(n,0)) ?_ ?_
 ·refine av (X:=((decide (n>=4294967296)=true->(0:Int)<=32/\(decide (n.fdiv (2^min 32 u64.bits)>=65536)=true->(0:Int)<=16/\(decide ((n.fdiv (2^min 32 u64.bits)).fdiv (2^min 16 u64.bits)>=256)=true->(0:Int)<=8/\(ay f106.ntmps 56 [(0,sI u64 (((n.fdiv (2^min 32 u64.bits)).fdiv (2^min 16 u64.bits)).fdiv (2^min 8 u64.bits),i64.wrap (i64.wrap ((32:Int)+16)+8)).fst),(2,sJ (((n.fdiv (2^min 32 u64.bits)).fdiv (2^min 16 u64.bits)).fdiv (2^min 8 u64.bits),i64.wrap (i64.wrap ((32:Int)+16)+8)).snd)] []).aj ((((n.fdiv (2^min 32 u64.bits)).fdiv (2^min 16 u64.bits)).fdiv (2^min 8 u64.bits),i64.wrap (i64.wrap ((32:Int)+16)+8))=(n,(0:a6 iK))))/\(decide ((n.fdiv (2^min 32 u64.bits)).fdiv (2^min 16 u64.bits)>=256)=false->(ay f106.ntmps 56 [(0,sI u64 ((n.fdiv (2^min 32 u64.bits)).fdiv (2^min 16 u64.bits),i64.wrap ((32:Int)+16)).fst),(2,sJ ((n.fdiv (2^min 32 u64.bits)).fdiv (2^min 16 u64.bits),i64.wrap ((32:Int)+16)).snd)] []).aj (((n.fdiv (2^min 32 u64.bits)).fdiv (2^min 16 u64.bits),i64.wrap ((32:Int)+16))=(n,(0:a6 iK)))))/\(decide (n.fdiv (2^min 32 u64.bits)>=65536)=false->(decide (n.fdiv (2^min 32 u64.bits)>=256)=true->(0:Int)<=8/\(ay f106.ntmps 56 [(0,sI u64 ((n.fdiv (2^min 32 u64.bits)).fdiv (2^min 8 u64.bits),i64.wrap ((32:Int)+8)).fst),(2,sJ ((n.fdiv (2^min 32 u64.bits)).fdiv (2^min 8 u64.bits),i64.wrap ((32:Int)+8)).snd)] []).aj (((n.fdiv (2^min 32 u64.bits)).fdiv (2^min 8 u64.bits),i64.wrap ((32:Int)+8))=(n,(0:a6 iK))))/\(decide (n.fdiv (2^min 32 u64.bits)>=256)=false->(ay f106.ntmps 56 [(0,sI u64 (n.fdiv (2^min 32 u64.bits),32).fst),(2,sJ (n.fdiv (2^min 32 u64.bits),32).snd)] []).aj ((n.fdiv (2^min 32 u64.bits),32)=(n,(0:a6 iK))))))/\(decide (n>=4294967296)=false->(decide (n>=65536)=true->(0:Int)<=16/\(decide (n.fdiv (2^min 16 u64.bits)>=256)=true->(0:Int)<=8/\(ay f106.ntmps 56 [(0,sI u64 ((n.fdiv (2^min 16 u64.bits)).fdiv (2^min 8 u64.bits),i64.wrap (i64.wrap ((0:Int)+16)+8)).fst),(2,sJ ((n.fdiv (2^min 16 u64.bits)).fdiv (2^min 8 u64.bits),i64.wrap (i64.wrap ((0:Int)+16)+8)).snd)] []).aj (((n.fdiv (2^min 16 u64.bits)).fdiv (2^min 8 u64.bits),i64.wrap (i64.wrap ((0:Int)+16)+8))=(n,(0:a6 iK))))/\(decide (n.fdiv (2^min 16 u64.bits)>=256)=false->(ay f106.ntmps 56 [(0,sI u64 (n.fdiv (2^min 16 u64.bits),i64.wrap ((0:Int)+16)).fst),(2,sJ (n.fdiv (2^min 16 u64.bits),i64.wrap ((0:Int)+16)).snd)] []).aj ((n.fdiv (2^min 16 u64.bits),i64.wrap ((0:Int)+16))=(n,(0:a6 iK)))))/\(decide (n>=65536)=false->(decide (n>=256)=true->(0:Int)<=8/\(ay f106.ntmps 56 [(0,sI u64 (n.fdiv (2^min 8 u64.bits),i64.wrap ((0:Int)+8)).fst),(2,sJ (n.fdiv (2^min 8 u64.bits),i64.wrap ((0:Int)+8)).snd)] []).aj ((n.fdiv (2^min 8 u64.bits),i64.wrap ((0:Int)+8))=(n,(0:a6 iK))))/\(decide (n>=256)=false->(ay f106.ntmps 56 [(0,sI u64 (n,0).fst),(2,sJ (n,0).snd)] []).aj ((n,0)=(n,(0:a6 iK)))))))) ab ?_;have b:∀{m:Int}{P:Prop},13<=m->decide (n>=m)=true->P:=λj h=>by have:=Odt h;omega
  exact⟨b ae,λ_=>⟨b ae,λ_=>⟨b ae,λ_=>aw rfl⟩⟩⟩
 rintro g rfl;refine cq a ao _ _ ?_;refine @av ((0<=u8.wrap n/\u8.wrap n<(b8T.size:Int))/\(i64.wrap (0+i64.wrap ((lz b8T).getD (u8.wrap n).toNat 0)),())=(KV n,())) _ ?_ ?_;kernel_rfl;have f:n=0\/n=1\/n=2\/n=3\/n=4\/n=5\/n=6\/n=7\/n=8\/n=9\/n=10\/n=11\/n=12:=aa;rcases f with rfl|rfl|rfl|rfl|rfl|rfl|rfl|rfl|rfl|rfl|rfl|rfl|rfl<;>exact⟨⟨ae,ae⟩,ae⟩
def ag4:=aZ Ow
theorem afk:aF au 61 f61:=ek
theorem Xn:bu au 61 [.int .u64] [.val iK] cx (λ(n,_)=>0<=n/\n<=12) (λ(n,_)=>(KV n,())):=by have a:=aV (a2 Ow) bY;refine cu (sp:=bw [ag4]) afk ae ae ab ?_;rintro w d ⟨n,⟨⟩⟩;revert n;intro n _ ⟨b,c⟩;refine cq a ao _ _ ?_;refine @av ((0<=n/\n<=12)/\(KV n,())=(KV n,())) _ ?_ ?_;kernel_rfl;exact⟨⟨b,c⟩,rfl⟩
def alZ:=aZ Xn
def alY:Nat×Eng.Spec:=(96,Bb iK [iK,iK] [] P9 (λ(a,_)=>(kA a,())))
theorem afm:aF au 60 f60:=ek
abbrev Qa:LI×HL [iK,iK,iK]->Prop:=λ(d,a,b,_)=>a=0/\b=(length d:Int)/\length d<=12
def Tv(a:LI)(q:Int)(_:Unit):St:=ay f60.ntmps 17 [(0,ag (.sl 0 0 0 a.length 1)),(1,sJ 0),(2,sJ a.length),(3,sJ q)] [(0,[.ints .i64 a.length a])]
theorem aif:Ib au 60 iK [iK,iK,iK] [] cx Qa (λ(d,_)=>(kA d,())):=by
 have f:=aV (Ce ah8) bY;refine El (sp:=bw [alY]) afm ae ae ab ?_;rintro w l m d ⟨a,b,q,⟨⟩⟩;revert d a b q;intro d a b q e o n k;obtain⟨g,i,j⟩:=k;have g:a=0:=g;have i:=i;have j:=j;have e:=e;subst g i;refine bN f ao 2 (Tv d q ()) True ?_ (λ_=>?_);refine av (X:=((Tv d q ()).aj True)) ab ?_;exact aw trivial;refine rq jH (λ_=>()) (Tv d q) (λ_=>True) (λ_=>0)
  (λ_=>()) (Tv d q) (λ_=>False) () (c:=ar (aq f60) 2) ab ab (aB ab ab ?_) ?_ ?_
 trivial;rintro⟨⟩ _;refine n3 (c:=ar (aO (ar (aq f60) 2)) 0) ab ab ?_;refine bN f ao 3 (Tv d q ()) False ?_ (λh=>h.elim);refine @av ((decide (i64.wrap ((d.length:Int)-0)<=12)=true->d.length=d.length/\0<d.length/\P9 (d,0,(d.length:Int),())/\d.length=d.length/\(kA d,())=(kA d,()))/\(decide (i64.wrap ((d.length:Int)-0)<=12)=false->(Tv d q ()).aj False)) _ ?_ ?_;kernel_rfl;refine⟨λ_=>⟨rfl,e,⟨rfl,rfl,j⟩,rfl,rfl⟩,λh=>?_⟩;rw[bC aa aa]at h;have:=Odf h;omega;rintro _ h;exact absurd h id
def al0:Nat×Eng.Spec:=(60,Bb iK [iK,iK,iK] [] Qa (λ(a,_)=>(kA a,())))
theorem aaF:aF au 27 f27:=ek
abbrev La:LI×HL []->Prop:=λ(a,_)=>length a<=12
theorem afA:Ib au 27 iK [] [] cx La (λ(a,_)=>(kA a,())):=by have d:=aV (a2 Xn) (aV (Ce aif) bY);refine El (sp:=bw [alZ,al0]) aaF ae ae ab ?_;rintro w f g a ⟨⟩;revert a;intro a b i h c;have c:=c;have b:=b;refine cq d ao _ _ ?_;refine @av ((0<=u64.wrap (a.length:Int)/\u64.wrap (a.length:Int)<=12)/\a.length=a.length/\0<a.length/\Qa (a,0,(a.length:Int),KV (u64.wrap (a.length:Int)),())/\a.length=a.length/\(kA a,())=(kA a,())) _ ?_ ?_;kernel_rfl;have e:u64.wrap a.length=a.length:=wrap_u64 aa aa;rw[e];exact⟨⟨aa,aa⟩,rfl,b,⟨rfl,rfl,c⟩,rfl,rfl⟩
def akB:Nat×Eng.Spec:=(27,Bb iK [] [] La (λ(a,_)=>(kA a,())))
end sorti
end Go.Proofs.YtofofalgjibokaaGreatDoor
open Go.IntKind(i64 u64 u8)
/- slices.Grow and Compact of ints: contracts of the library, as summaries of the engine. -/
namespace Go.Proofs.YtofofalgjibokaaGreatDoor
namespace cpg
open sorti(iK)
theorem aan:aF au 59 Tryz.f59:=ek
theorem aak:aF au 29 Tryz.f29:=ek
def Nn:Eng.Spec:=λ_ id args _=>match args with
 |[.is (.one (.v (.slice none 0 0))),.is (.one (.v (.int .i64 n)))]=>some {val:=.is (.one (.sl id 0 0 0 1)),new:=[(id,[.ints .i64 0 []])],pre:=[1<=n/\n<=1000]}
 |_=>none
theorem afH:pY au 59 Nn:=by
 intro Q id args B out b G N O w I z;unfold Nn at b;split at b
 ·rename_i n;simp only[cd]at b;subst b;obtain⟨E,F⟩:1<=n/\n<=1000:=G _ az;obtain⟨p,L,rfl,d,q,o,rfl,f,g⟩:=I;have g:o=[]:=g;have d:[p]=[Value.slice none 0 0]/\_:=d;have f:[q]=[Value.int .i64 n]/\_:=f;have u:p=.slice none 0 0:=by simpa using d.1
  have x:q=.int .i64 n:=by simpa using f.1
  subst g u x;obtain⟨K,C,j,k,l⟩:=info_parts Tryz.Mq.i3;obtain⟨m,D⟩:∃m:Nat,n=(m:Int):=⟨n.toNat,aa⟩;subst D;refine .inl ⟨aan.2 _ _,(Any8.slices_Grow_grow Tryz.abl K _ C j (by rw[k];decide) none 0 0 m [] w (aQ _) aa (by rw[l];omega) aa az (λ_=>rfl) (λa h=>by cases h)).mono ?_⟩;rintro e P ⟨rfl,rfl⟩;refine⟨_,rfl,?_⟩;generalize y:(([]:bn).toArray++Builtin.zeroCells (Value.int .i64 0).cells (0+m-0)++Builtin.zeroCells (Value.int .i64 0).cells (grownCap w (0+m) 0 (Tryz.yp.t 25)-(0+m)))=A;have H:grownCap w (0+m) 0 (Tryz.yp.t 25)<=A.size:=by rw[<-y];simp only[Array.size_append,size_zeroCells,List.size_toArray,jj];have:(Value.int .i64 0).cells.size=1:=rfl;rw[this];omega
  obtain⟨r⟩:=A;refine⟨N.push id w.heap.size ([]++r).length,?_,?_⟩;exact .inr ⟨w.heap.size,0,grownCap w (0+m) 0 3,aI.kr,aY _,.inl rfl,by rw[aI.wR,cy,wo];exact H,rfl⟩;refine A8 z _ _ (.inl (aQ _)) rfl rfl rfl ?_ ?_ (B6 w [] r _) ⟨[],[],rfl,⟨rfl,rfl⟩,rfl⟩ (λ_ h=>(nomatch h)) (λ_ h=>(nomatch h));show w.heap.size<=(w.heap.push _).size;simp;intro s i _;exact Below.heap_alloc w.drew _ s i
 cases b
def UE:Eng.Spec:=λ_ _ args B=>match args with
 |[.is (.one (.sl i 0 0 n 1))]=>match B i with
  |some [.ints .i64 m a]=>some {val:=ag (.ro iK (Lib.compact (a:LI))),wr:=[(i,[])],pre:=[m=n,0<n,n<=1000]}
  |_=>none
 |_=>none
theorem Qk{M:Mem}:∀a:LI,eQ (Rd M iK) a (a.map (Value.int .i64))
 |[]=>rfl
 |x::a=>⟨[.int .i64 x],a.map (Value.int .i64),rfl,rfl,Qk a⟩
theorem Z7(a:LI):(Lib.compact a).length<=a.length:=by unfold Lib.compact Lib.compactUpTo;rw[b5];refine fw (nM _ _) ?_;simp
theorem aeY:pY au 29 UE:=by
 intro w0 id args B out x t C us w hv R;unfold UE at x;split at x
 ·rename_i i n;split at x
  ·rename_i m f O;simp only[cd]at x;subst x;have T:m=n:=t _ az;have hn:0<n:=t _ az;have x3:n<=1000:=t _ az;subst T;obtain⟨u0,x0,rfl,V,k⟩:=hv;have k:x0=[]:=k;subst k;rcases p9 V with ⟨hl,_⟩|⟨b,o,E,K,hl,ho,hN,rfl⟩;omega;have ho:o=0:=by rcases ho with ho|ho<;>omega
   subst ho;obtain⟨l,a,y⟩:=R.bQ i _ O az b K;obtain⟨v1,v2,rfl,k1,Y⟩:=y;have Y:v2=[]:=Y;subst Y;obtain⟨W,rfl⟩:f.length=m/\v1=f.map (Value.int .i64):=k1;rw[bF]at a;have H:=a.len;rw[b5]at H;have hH:Go.Sort.Holds (Value.int .i64) w b 0 f.toArray:=by
    intro j s;have s:j<f.length:=by simpa using s
    rw[cy];refine⟨a.cell ?_,a.frozen aa⟩;rw[dM,bO s];simp[s]
   subst W;refine .inl ⟨aak.2 _ _,(Tryz.slices_Compact_int b 0 E f w hH aa hl).mono ?_⟩;rintro e w' ⟨rfl,q,rfl⟩;refine⟨_,rfl,?_⟩;obtain⟨r,el,fr,h1,h2,h3⟩:=a;have y:=Z7 f;generalize X:Lib.compact f=u;rw[X]at y;generalize hD:(u++replicate (f.length-u.length) 0).toArray=D;have x1:D.size=f.length:=by rw[<-hD];simp;omega
   obtain⟨L,P⟩:∃L,L=(Go.Sort.putCells (Value.int .i64) 0 D ⟨f.map (Value.int .i64)++r⟩).toList:=⟨_,rfl⟩;have z:(Go.Sort.putRow (Value.int .i64) (Go.Sort.ahead w q) b 0 D).heap[b]?=some (.cells ⟨L⟩ el fr):=by show(w.heap.modify b _)[b]?=_;rw[sG,ah rfl,h1];rw[P];rfl
   have F:L.length=f.length+r.length:=by rw[P];simp[Go.Sort.putCells]
   have U:L≠[]:=by intro c;rw[c]at F;simp at F;omega
   have A:L.take u.length=u.map (Value.int .i64):=by
    refine qS λj=>?_;rw[gI];split
    ·rename_i s;have G:j<f.length:=aa;rw[P,dM,bO s,Array.getElem?_toList];simp only[Go.Sort.putCells,Array.getElem?_mapIdx]
     rw[show(⟨f.map (Value.int .i64)++r⟩:Array Value)[j]?=some (Value.int .i64 f[j]) by
      rw[ze,uS (by simpa using G),dM,bO G];rfl]
     rw[fU,ah ⟨aY _,aa⟩];rw[<-hD];simp;rw[uS s,bO s];rfl
    rename_i s;rw[fQ (by simpa using s)]
   have Q:C.M b=none:=by
    cases N:C.M b with
    |none=>rfl
    |some l=>exact absurd K (R.apart b l N i _ O az)
   refine⟨⟨C.m,C.n,λd=>if d=b then some L else C.M d⟩,?_,?_⟩;refine .inr ⟨b,0,E,rfl,aa,L,λ_=>ah rfl,?_,?_⟩;show 0+u.length*1<=_;omega;show eQ _ u ((L.drop 0).take (u.length*1));rw[jU,wo,A];exact Qk u;refine⟨⟨λ_ _ h=>⟨h,rfl⟩,λd Z h=>?_⟩,λ_ _ h=>.inl h,λi' d h=>?_,rfl,rfl,rfl,?_,λd x2 h=>?_,λ_ h=>(nomatch h),λ_ h=>(nomatch h),λp t q N _=>by simp at t N;rw[t,N],λp t=>?_,λd Z h=>?_⟩;show(if d=b then some L else C.M d)=some Z;rw[ai];exact h;intro e;subst e;rw[Q]at h;cases h;show d<(w.heap.modify b _).size;rw[Array.size_modify];exact R.bound i' d h;show w.heap.size<=(w.heap.modify b _).size;rw[Array.size_modify];exact aQ _;have I:b≠d:=λe=>h (i,[]) az (by subst e;exact K);show(w.heap.modify b _)[d]?=_;rw[sG,ai I];simp at t;subst t;exact⟨⟨_,O,az⟩,λ_ _ h=>absurd rfl h⟩;have g:(if d=b then some L else C.M d)=some Z:=h;clear h;by_cases e:d=b;rw[ah e]at g;have g:=nO g;subst e;subst g;refine .inr ⟨λ_ h=>(nomatch h),.inr ⟨(i,[]),az,K,rfl⟩,el,fr,?_⟩;rw[z,vG U];rw[ai e]at g;exact .inl g
  cases x
 cases x
end cpg
end Go.Proofs.YtofofalgjibokaaGreatDoor
/- slices.Concat of ints. -/
namespace Go.Proofs.YtofofalgjibokaaGreatDoor
namespace cpg
open sorti(iK)
theorem UK:aF au 26 Tryz.f26:=ek
abbrev R1:Func:=Tryz.f26
def R3(a:List LI)(g:Int×Int):St:=ay R1.ntmps 40 [(0,ag (.ro (.sl iK) a)),(3,sJ g.1),(9,ag (.ro (.sl iK) a)),(10,sJ a.length),(11,sJ g.2)] []
def ccL(a:List LI)(g:Int×Nat×LI):St:=ay R1.ntmps 88 [(6,ag (.sl 48 0 0 g.2.1 1)),(25,ag (.ro (.sl iK) a)),(26,sJ a.length),(27,sJ g.1)] [(48,[.ints .i64 g.2.1 g.2.2])]
def ll(a:List LI)(k:Nat):LI:=(a.take k).flatten
theorem LU{a:List LI}{k:Nat}(h:k<a.length):ll a (k+1)=ll a k++a.getD k []:=by rw[ll,ll,List.take_add_one,bO h,vR,bx,bO h];simp
theorem Fw(a:List LI)(k:Nat):(ll a k).length<=a.flatten.length:=by
 have:a.flatten=ll a k++(a.drop k).flatten:=by rw[ll,<-vR,ff]
 rw[this,bA];omega
def ccJ(a:List LI)(g:Int×Int):Prop:=∃k:Nat,k<=a.length/\g.2=(k:Int)/\g.1=((ll a k).length:Int)
def ccN(a:List LI)(g:Int×Nat×LI):Prop:=∃k:Nat,k<=a.length/\g.1=(k:Int)/\g.2.2=ll a k/\g.2.1=(ll a k).length
abbrev Tx:HL [.sl (.sl iK)]->Prop:=λ(a,_)=>length a<=1000/\1<=(List.flatten a).length/\(List.flatten a).length<=1000
theorem L5:bu au 26 [.sl (.sl iK)] [.own iK] cx Tx (λ(a,_)=>(List.flatten a,())):=by
 have f:aS au (bw [(59,Nn)]):=aV afH bY;refine cu (sp:=bw [(59,Nn)]) UK ae ae ab ?_;rintro w K ⟨a,⟨⟩⟩;revert a;intro(a:List LI) _ I;obtain⟨F,D,E⟩:=I;have F:a.length<=1000:=F;have D:1<=a.flatten.length:=D;have E:a.flatten.length<=1000:=E;show Tr _ _ _ _ _ _ _;refine bN f ao 3 (R3 a (0,0)) True ?_ (λ_=>?_);refine av (X:=((R3 a (0,0)).aj True)) ab ?_;exact aw trivial;refine c2 f ao (λd=>[]) (λd=>(bL iK 3 d,bL iK 11 d)) (R3 a) (ccJ a) (λg=>a.length-g.2.toNat)
  (λd=>(bL iK 3 d,bL iK 11 d)) (R3 a) (λg=>g.1=(a.flatten.length:Int)) (0,0) (c:=ar (aq R1) 3) ab ab (aB ab ab ?_) ?_ ?_
 exact⟨0,aY _,rfl,rfl⟩
 ·rintro⟨s,i⟩ A;revert s i;intro(s:Int) (i:Int) ⟨k,G,j,q⟩;have j:i=(k:Int):=j;have q:s=((ll a k).length:Int):=q;subst j q;refine @av ((decide ((k:Int)<(a.length:Int))=true->(0<=(k:Int)/\(k:Int)<(a.length:Int))/\(k:Int).toNat<a.length/\(decide (i64.wrap ((↑(ll a k).length:Int)+(↑(a.getD (k:Int).toNat []).length:Int))<0)=true->False)/\(decide (i64.wrap ((↑(ll a k).length:Int)+(↑(a.getD (k:Int).toNat []).length:Int))<0)=false->(R3 a (i64.wrap ((↑(ll a k).length:Int)+(↑(a.getD (k:Int).toNat []).length:Int)),i64.wrap ((k:Int)+1))).aj (ccJ a (i64.wrap ((↑(ll a k).length:Int)+(↑(a.getD (k:Int).toNat []).length:Int)),i64.wrap ((k:Int)+1))/\a.length-(i64.wrap ((k:Int)+1)).toNat<a.length-(k:Int).toNat)))/\(decide ((k:Int)<(a.length:Int))=false->(R3 a ((↑(ll a k).length:Int),(k:Int))).aj ((↑(ll a k).length:Int)=(a.flatten.length:Int)))) _ ?_ ?_;kernel_rfl;rw[aJ,a5 aa];have z:=Fw a k;refine⟨λh=>?_,λh=>aw ?_⟩
  ·have b:k<a.length:=by have:=Odt h;omega
   have u:=congrArg length (LU b);rw[bA]at u;have r:=Fw a (k+1);have C:i64.wrap (((ll a k).length:Int)+((a.getD k []).length:Int))=((ll a k).length:Int)+((a.getD k []).length:Int):=bC aa aa;refine⟨⟨aa,aa⟩,b,λh=>by have h:=Odt h;exact absurd h (by show ¬i64.wrap (((ll a k).length:Int)+((a.getD k []).length:Int))<0;rw[C];omega),λ_=>aw ⟨⟨k+1,b,rfl,?_⟩,?_⟩⟩;show i64.wrap (((ll a k).length:Int)+((a.getD k []).length:Int))=_;rw[C];omega;show a.length-(((k:Nat):Int)+1).toNat<_;omega
  ·have:k=a.length:=by have:=Odf h;omega
   subst this;rw[ll,bg]
 rintro⟨s,i⟩ A;revert s i;intro(s:Int) (i:Int) (q:s=(a.flatten.length:Int));subst q;refine bN f ao 2 (ccL a (0,0,[])) True ?_ (λ_=>?_);refine av (X:=((1<=(a.flatten.length:Int)/\(a.flatten.length:Int)<=1000)/\(ccL a (0,0,[])).aj True)) ab ?_;exact⟨⟨aa,aa⟩,aw trivial⟩;refine c2 f ao (λd=>[(48,Qi 6 d)]) (λd=>(bL iK 27 d,qy 6 d,dO iK 48 d)) (ccL a) (ccN a) (λg=>a.length-g.1.toNat)
  (λd=>(qy 6 d,dO iK 48 d)) (λg=>ay R1.ntmps 88 [(6,ag (.sl 48 0 0 g.1 1))] [(48,[.ints .i64 g.1 g.2])]) (λg=>g.1=a.flatten.length/\g.2=a.flatten) (0,0,[]) (c:=ar (aq R1) 6) ab ab (aB ab ab ?_) ?_ ?_
 exact⟨0,aY _,rfl,rfl,rfl⟩
 ·rintro⟨i,m,l⟩ A;revert i l;intro(i:Int) (l:LI) ⟨k,G,n,o,p⟩;have j:i=(k:Int):=n;have el:l=ll a k:=o;have x:m=(ll a k).length:=p;clear n o p;subst j;refine @av ((decide ((k:Int)<(a.length:Int))=true->(0<=(k:Int)/\(k:Int)<(a.length:Int))/\(k:Int).toNat<a.length/\m<=m/\(m+(a.getD (k:Int).toNat []).length)*8<=2^47/\m+(a.getD (k:Int).toNat []).length<=2^62/\(ccL a (i64.wrap ((k:Int)+1),m+(a.getD (k:Int).toNat []).length,take m l++a.getD (k:Int).toNat [])).aj (ccN a (i64.wrap ((k:Int)+1),m+(a.getD (k:Int).toNat []).length,take m l++a.getD (k:Int).toNat [])/\a.length-(i64.wrap ((k:Int)+1)).toNat<a.length-(k:Int).toNat))/\(decide ((k:Int)<(a.length:Int))=false->(ay R1.ntmps 88 [(6,SV.is (TV.one (ax.sl 48 0 0 (m,l).fst 1)))] [(48,[ax.ints i64 (m,l).fst (m,l).snd])]).aj (m=a.flatten.length/\l=a.flatten))) _ ?_ ?_;kernel_rfl;rw[aJ,a5 aa];have z:=Fw a k;have H:l.length=m:=by rw[el,x]
  refine⟨λh=>?_,λh=>aw ?_⟩
  ·have b:k<a.length:=by have:=Odt h;omega
   have u:=LU b;have SL:=congrArg length u;rw[bA]at SL;have r:=Fw a (k+1);refine⟨⟨aa,aa⟩,b,aQ _,aa,aa,aw ⟨⟨k+1,b,rfl,?_,?_⟩,?_⟩⟩;show take m l++a.getD k []=_;rw[cA aa,u,el];show m+(a.getD k []).length=_;omega;show a.length-(((k+1:Nat):Int)).toNat<_;omega
  ·have:k=a.length:=by have:=Odf h;omega
   subst this;have e:ll a a.length=a.flatten:=by rw[ll,bg]
   rw[e]at x el;exact⟨x,el⟩
 rintro⟨m,l⟩ A;revert l;intro(l:LI) ⟨y,t⟩;have y:m=a.flatten.length:=y;have t:l=a.flatten:=t;refine cq f ao _ _ ?_;refine @av (0+m<=m/\(take m l,())=(a.flatten,())) _ ?_ ?_;kernel_rfl;refine⟨aa,?_⟩;rw[cA (by rw[t,y];exact aQ _),t]
def acm:=aZ L5
end cpg
end Go.Proofs.YtofofalgjibokaaGreatDoor
/- bcast.New. -/
namespace Go.Proofs.YtofofalgjibokaaGreatDoor
namespace rite
open bf deal Go.Eng.Ob
open Go.Hbn(dd a8 ez)
def jD(mem:LI)(k:Nat):Int:=if k=0 then 0 else mem.getD (k-1) 0
def ry(mem:LI)(k:Nat):Prop:=∀j,j<k->jD mem j<mem.getD j 0/\mem.getD j 0<=9
def sr(a:Int)(mem:LI):Prop:=ry mem mem.length/\a∈mem
theorem Og:aF au 28 Tryz.f28:=ek
abbrev ox:Func:=Tryz.f28
abbrev aa5:=bw [law22.mg,aer]
theorem m9:aS au aa5:=aV (a2 law22.kZ) (aV (a2 IG) bY)
abbrev hnC:Code:=ar (aq ox) 3
abbrev hnB:cw:=cg (ar (aO hnC) 2)
def Bg(b:Int)(mem:LI)(l k:Int)(a:g9):St:=ay ox.ntmps 8 ([(0,sJ b),(1,ag (.ro iK mem)),(5,sJ l),(8,ag (.ro iK mem)),(9,sJ mem.length),(10,sJ k)]++a) []
def hnE(b:Int)(mem:LI)(a:g9):St:=ay ox.ntmps 8 ([(0,sJ b),(1,ag (.ro iK mem))]++a) []
def hnG(a:Int)(n:Nat)(mem:LI):St:=ay ox.ntmps 25 [(27,sJ a),(29,ag (.sl 24 0 0 n 1))] [(24,[.ints .i64 n mem])]
def hnH(a:Int)(n:Nat)(mem:LI)(b:Nat):St:=ay ox.ntmps 66 [(4,al 65 0)] [(65,[vI a,.sl 24 0 0 n 1,.v (.map (some b))]),(24,[.ints .i64 n mem])]
section
variable (gl:dF)[W3]
abbrev hnX:cJ:=mO au aa5 gl
end
theorem XI{mem:LI}{k:Nat}(a:k<mem.length)(h:¬(jD mem k<mem.getD k 0/\mem.getD k 0<=9)):¬ry mem mem.length:=λg=>h (g k a)
theorem U2{mem:LI}{k:Nat}(a:ry mem k)(h:jD mem k<mem.getD k 0/\mem.getD k 0<=9):ry mem (k+1):=λj b=>by
 rcases cG j k with h2|h2;exact a j h2
 ·have:j=k:=by omega
  rw[this];exact h
theorem afG{mem:LI}{k:Nat}{q:Int}(b:ry mem k)(d:q=mem.getD k 0)(a:(decide (q<=jD mem k)||decide (q>9))=false):ry mem (k+1):=by rw[Bool.or_eq_false_iff]at a;have e:=Odf a.1;have f:=Odf a.2;exact U2 b (by rw[<-d];omega)
theorem afF{mem:LI}{k:Nat}{q:Int}(a:k<mem.length)(b:q=mem.getD k 0)(hb:(decide (q<=jD mem k)||decide (q>9))=true):¬ry mem mem.length:=by rw[sO]at hb;refine XI a λg=>?_;rw[<-b]at g;rcases hb with hb|hb;have:=Odt hb;omega;have:=Odt hb;omega
theorem age(gl:dF):fk au gl 28 (λz:Int×LI=>[sJ z.1,ag (.ro iK z.2)]) (λz=>z.2.length<1000) (λ_=>ak.none) (λ_ (y:Option (Nat×Nat))=>match y with|some q=>aT q.1|none=>lu) (λz y=>match y with|some q=>bX ⟨q.1,q.2,z.1,z.2,[]⟩|none=>ak.none) (λz y=>match y with|some _=>sr z.1 z.2|none=>¬sr z.1 z.2):=by
 refine dD (sp:=aa5) Og ab (λz=>by show 2<=ox.ntmps;exact Odt ab) (λz y=>by cases y<;>rfl) ?_;rintro⟨d,mem⟩ t _;have t:mem.length<1000:=t;refine e6 m9 3 (Bg d mem (jD mem 0) 0 []) ?_;refine OK m9 ao (c:=hnC) (λk=>Bg d mem (jD mem k) (k:Int) []) (λ_=>ak.none) (λk=>ry mem k) mem.length ab ab (λj i=>absurd i (sP _)) (λk r w ids M num=>?_) (λk r i=>?_) (λi=>?_);refine av (X:=((decide ((k:Int)<(mem.length:Int))=true->(Bg d mem (jD mem k) (k:Int) []).aj (k<mem.length))/\(decide ((k:Int)<(mem.length:Int))=false->(Bg d mem (jD mem k) (k:Int) []).aj (k=mem.length)))) ab ?_;exact⟨λh=>aw (by have:=cM h;omega),λh=>aw (by have:=cL h;omega)⟩
 ·refine dC (E:=hnX gl) (c:=ar (aO hnC) 2) (λa w=>ry mem (k+1)/\GH (hnX gl) ox.ntmps (Bg d mem (jD mem (k+1)) (k:Int) []) ak.none a w) ab ab ?_ ?_
  ·refine gcd m9 1 (λg=>bL iK 7 g) (λq=>Bg d mem (jD mem k) (k:Int) [(7,sJ q)]) (λq=>q=mem.getD k 0) ?_ (λq n=>?_);intros;refine @av ((0<=(k:Int)/\(k:Int)<(mem.length:Int))/\(k:Int).toNat<mem.length/\(Bg d mem (jD mem k) (k:Int) [(7,sJ (mem.getD (k:Int).toNat 0))]).aj (mem.getD (k:Int).toNat 0=mem.getD k 0)) _ ?_ ?_;kernel_rfl;rw[aJ];exact⟨⟨aa,aa⟩,r,aw rfl⟩;refine jY m9 ao 1 20 (λg=>bL .bool 20 g) (λb=>Bg d mem (jD mem k) (k:Int) [(7,sJ q),(20,aD b)]) (λb=>b=(decide (q<=jD mem k)||decide (q>9))) (λ_=>False) (λ_ _=>False) ?_ (λb f=>?_) (λ_ _ _ h _=>h.elim) (λ_ _ _ _ h _=>h.elim);intros;refine @av ((decide (q<=jD mem k)=true->(Bg d mem (jD mem k) (k:Int) [(7,sJ q),(20,aD true)]).aj (true=(decide (q<=jD mem k)||decide (q>(9:a6 iK)))))/\(decide (q<=jD mem k)=false->(Bg d mem (jD mem k) (k:Int) [(7,sJ q),(20,aD (decide (q>9)))]).aj (decide (q>9)=(decide (q<=jD mem k)||decide (q>(9:a6 iK)))))) _ ?_ ?_;kernel_rfl;exact⟨λh=>aw (by rw[h];rfl),λh=>aw (by rw[h];rfl)⟩;have m:(q:Int)=mem.getD k 0:=n;cases b
   ·have f:=f.symm;refine fF (ar hnB 2) ?_;refine e6 m9 1 (Bg d mem q (k:Int) []) ?_;refine cv λa w o=>⟨afG (q:=q) i m f,?_⟩;have e:jD mem (k+1)=q:=by rw[n];rfl
    rw[e];exact o
   have f:=f.symm;refine jX (ar hnB 2) ?_;refine jy m9 ao lu ?_ ⟨none,λh=>afF (q:=q) r m f h.1,bR _,rfl⟩;intros;refine @av (SV.is (TV.one (ax.v (Value.pointer none)))=lu) _ ?_ ?_;kernel_rfl;rfl
  intro a w u o C D F;obtain⟨x,A⟩:=o;refine va (l:=(aO hnC).drop 3) m9 ao 1 (λg=>bL iK 10 g) (λq=>Bg d mem (jD mem (k+1)) q []) (λq=>q=((k+1:Nat):Int)) (λ_=>False) (λ_ _=>False) ?_ (λq n=>?_) (λ_ _ _ h _=>h.elim) (λ_ _ _ _ h _=>h.elim) a w u A C D F;intros;refine @av ((Bg d mem (jD mem (k+1)) (IntKind.i64.wrap ((k:Int)+1)) []).aj (IntKind.i64.wrap ((k:Int)+1)=(↑(k+1):Int))) _ ?_ ?_;kernel_rfl;exact aw (a5 aa);subst n;exact cv λ_ _ h=>⟨x,h⟩
 refine gcd m9 1 (λg=>bL .bool 26 g) (λb=>hnE d mem [(26,aD b)]) (λb=>b=!decide (d∈mem)) ?_ (λb f=>?_);intros;refine @av (law22.lb (mem,d,())/\(hnE d mem [(26,aD !decide (d∈mem))]).aj ((!decide (d∈mem))=!decide (d∈mem))) _ ?_ ?_;kernel_rfl;exact⟨by show mem.length<_;omega,aw rfl⟩;cases b
 ·have s:d∈mem:=by
   have:decide (d∈mem)=true:=by cases h:decide (d∈mem)with|true=>rfl|false=>rw[h]at f;cases f
   exact Odt this
  refine fF (ar (aq ox) 5) ?_;refine eX 11 (bS (ar (aq ox) 6)) ?_;refine iS m9 3 (λ_=>()) (λ_=>hnG d mem.length mem) (λ_=>True) ?_ (λ_ _=>?_);intros;refine @av (Bt (mem,())/\(hnG d mem.length mem).aj True) _ ?_ ?_;kernel_rfl;exact⟨by show mem.length<_;omega,aw trivial⟩;refine hZ (fJ (E:=hnX gl) (sv:=λb:Nat=>ag (.v (.map (some b)))) (G2:=λb=>ia b []) (J:=λ_=>True) ab ?_) (λb _=>?_);rw[show j8 (bS (ar (aq ox) 6)) 3=.makeMap 118 none from by kernel_rfl];exact K1;refine eG m9 7 (hnH d mem.length mem b) (eK ?_);refine vb [vI d] 65 24 mem.length 1 (.int .i64) mem (.ints .i64 mem.length mem) [.v (.map (some b))] ae zO rfl rfl rfl ?_;refine Bf (E:=hnX gl) (bl:=[dW d mem b]) 4 [] [65] rfl ab ab rfl ab rfl ab (λp=>ay ox.ntmps 8 [(4,aT p)] []) (λp=>aB ab ab trivial) (λp=>?_);refine iU m9 ao (aT p) ?_ ⟨some (p,b),⟨i,s⟩,bR _,?_⟩;intros;refine @av (SV.is (TV.one (ax.v (Value.pointer (some {block:=p,off:=0}))))=aT p) _ ?_ ?_;kernel_rfl;rfl;show ak.obj [dW d mem b] p (ia b [])=bX ⟨p,b,d,mem,[]⟩;rw[bZ];unfold bX;show _=ak.sep _ (ak.sep (gR b []) (gU []));rw[show gU []=ak.none from rfl,kT];rfl
 ·have s:¬d∈mem:=by
   have:decide (d∈mem)=false:=by cases h:decide (d∈mem)with|false=>rfl|true=>rw[h]at f;cases f
   exact Odf this
  refine jX (ar (aq ox) 5) ?_;refine jy m9 ao lu ?_ ⟨none,λh=>s h.2,bR _,rfl⟩;intros;refine @av (SV.is (TV.one (ax.v (Value.pointer none)))=lu) _ ?_ ?_;kernel_rfl;rfl
end rite
end Go.Proofs.YtofofalgjibokaaGreatDoor
/- rite.New. -/
namespace Go.Proofs.YtofofalgjibokaaGreatDoor
namespace rite
open bf deal Go.Eng.Ob
open Go.Hbn(dd a8 ez)
theorem vd{E:cJ}{N:Nat}{n r:aA}{x:Nat->aA}{l:cw}{b:St}{G:ak}(id:Nat)(cell:ax)(cs d:cb)(o:b.B id=some cs)(i:cs≠[])(g:∀(k:aI)(j:bn),aH k cs j->aH k d j)(m:aR E.P l (GH E N ⟨b.aW,(id,d)::(b.next,[cell])::b.bQ,b.next+1⟩ G) n r x):aR E.P l (GH E N b G) n r x:=by
 refine m8 (l1:=[]) (GH E N ⟨b.aW,(id,d)::(b.next,[cell])::b.bQ,b.next+1⟩ G) ?_ m;refine yn (λf=>f=⟨b.aW,(id,d)::(b.next,[cell])::b.bQ,b.next+1⟩) (λ_=>False) (λ_ _=>False) (λw ids M num=>?_) (λf a w e q=>e▸q) (λ_ _ _ h _=>h.elim) (λ_ _ _ _ h _=>h.elim);exact Ua id cell cs d o i g (l5 rfl)
theorem Kx:aF au 8 Tryz.f8:=ek
abbrev yw:Func:=Tryz.f8
abbrev Xu:=IG.Bd
def al5:=aZ Xu
abbrev Xt:=ah4.Bd
def al4:=aZ Xt
abbrev Xv:=Cf.Bd
def al6:=aZ Xv
abbrev Oy:=aaQ.ou (λ((d,t,n,o),_)=>(gA (qp d t n o),())) λ((d,t,n,o),_)=>by show(gA (qp d t n o),())=(qp d t n o,());rw[bq]
def agU:=aZ Oy
abbrev abA:=bw [agU,law22.mg,cpg.acm,sorti.akB,(29,cpg.UE),al5,al6,al4]
theorem ke:aS au abA:=aV (a2 Oy) (aV (a2 law22.kZ) (aV (a2 cpg.L5) (aV (Ce sorti.afA) (aV cpg.aeY (aV (a2 Xu) (aV (a2 Xv) (aV (a2 Xt) bY)))))))
structure ld where
 me:Int
 d:LI
 t:LI
 bG:Int
 bJ:List Pt
 bB:cO
 start:Int
 dK:Int
def ld.args(z:ld):dq:=[sJ z.me,.is (.agg [.ro iK z.d,.ro iK z.t,vI z.bG,.ro bM z.bJ]),ag (.ro .fr z.bB),sJ z.start,sJ z.dK]
def ld.mem(z:ld):LI:=Lib.compact (sorti.kA (z.d++z.t))
def ld.bad(z:ld):Bool:=(gA (qp z.d z.t z.bG z.bJ) != 0)||decide (z.dK<1)||decide (z.dK>1048576)||decide (z.start<0)||decide (z.start>1099511627776)
def ld.nQ(z:ld):Bool:=decide (z.me∈z.d)&&(z.bB.length != z.bG)
theorem ahv{z:ld}(h:decide (z.me∈z.d)=true):(z.bB.length != z.bG)=z.nQ:=by unfold ld.nQ;rw[h];rfl
theorem ahu{z:ld}(h:decide (z.me∈z.d)=false):false=z.nQ:=by unfold ld.nQ;rw[h];rfl
structure ld.Pre(z:ld):Prop where
 len:z.d.length+z.t.length<=12
 mem:z.mem.length<1000
 bJ:z.bJ.length<1000
 bB:z.bB.length<1000
theorem ak2{z:ld}(h:z.bad=false):1<=z.d.length:=by unfold ld.bad at h;simp at h;have a:=h.1.1.1.1;rw[bq]at a;by_cases b:z.d.length=0;unfold qp at a;simp[b]at a;omega
def qu(z:ld)(next:Nat)(a:g9)(bl:e5):St:=ay yw.ntmps next ([(0,sJ z.me),(2,ag (.ro .fr z.bB)),(3,sJ z.start),(4,sJ z.dK),(6,al 0 0)]++a) ((0,[.ro iK z.d,.ro iK z.t,vI z.bG,.ro bM z.bJ])::bl)
abbrev nl:ax:=.v (.slice none 0 0)
abbrev Ct:cb:=[nl,nl,nl,nl,nl]
abbrev wL(z:ld)(c:ax)(l t:cb):cb:=[vI z.me,.ro iK z.d,.ro iK z.t,vI z.bG,.ro bM z.bJ,.ro .fr z.bB,vI z.start,vI z.dK,vI 0,c]++(l++t)
abbrev aag:cb:=[nl,nl]++(replicate 4 (.v (.int .u64 0))++replicate 32 (.v (.int .u8 0)))
def nwT(z:ld)(a:Nat):St:=ay yw.ntmps 177 [(10,al 161 0)] [(161,wL z (.ptr 96 0) Ct (aag++[vI 0])),(96,dW z.me z.mem a)]
def nwU(z:ld)(a:Nat):St:=ay yw.ntmps 177 [(10,al 161 0)] [(161,wL z (.v (pt a)) Ct (b7++[vI 0]))]
abbrev mU(id c:Nat):ax:=.sl id 0 0 0 c
def nwV(z:ld)(a:Nat):St:=ay yw.ntmps 182 [(10,al 161 0)] [(161,wL z (.v (pt a)) [mU 177 2,mU 178 2,mU 179 6,mU 180 1,mU 181 4] (b7++[vI 0])),(177,[.row ed 0 []]),(178,[.row dZ 0 []]),(179,[.row dX 0 []]),(180,[.ints .i64 0 []]),(181,[.row .fr 0 []])]
theorem rj{d:aI}{c c':ax}(h:∀v,c.rel d v->c'.rel d v)(post:cb):∀(pre:cb)(l:bn),aH d (pre++c::post) l->aH d (pre++c'::post) l
 |[],_,⟨a,b,e,f,g⟩=>⟨a,b,e,h a f,g⟩
 |_::pre,_,⟨a,b,e,f,g⟩=>⟨a,b,e,f,rj h post pre b g⟩
theorem BF{a:aI}(id c:Nat):∀v,nl.rel a v->(mU id c).rel a v:=λ_ h=>.inl ⟨rfl,h.1⟩
theorem TJ{b:aI}{cs a:cb}(h:∀l,aH b cs l->aH b a l):∀(pre:cb)(l:bn),aH b (pre++cs) l->aH b (pre++a) l
 |[],l,g=>h l g
 |_::pre,_,⟨i,c,e,d,f⟩=>⟨i,c,e,d,TJ h pre c f⟩
theorem Lh{b:aI}(k:IntKind)(post:cb):∀(n:Nat)(l:bn),aH b (replicate n (.v (.int k 0))++post) l->aH b (.ints k n (replicate n 0)::post) l
 |0,l,h=>⟨[],l,rfl,⟨rfl,rfl⟩,h⟩
 |n+1,l,⟨o,m,e,a,d⟩=>by obtain⟨i,j,c,⟨_,f⟩,g⟩:=Lh k post n m d;have a:=a.1;refine⟨.int k 0::i,j,?_,⟨az,?_⟩,g⟩;rw[e,a,c];rfl;rw[f];rfl
theorem ajr(z:ld)(c:Nat)(f:aI)(h:f 96=some c)(l:bn)(a:aH f (wL z (.ptr 96 0) Ct (aag++[vI 0])) l):aH f (wL z (.v (pt c)) Ct (b7++[vI 0])) l:=by
 have a:=rj (c':=.v (pt c)) (λv m=>by
  obtain⟨g,b,k⟩:∃g,f 96=some g/\v=[.pointer (some ⟨g,0,none⟩)]:=m;rw[h]at b;cases b
  exact⟨k,rfl⟩) (Ct++(aag++[vI 0])) [vI z.me,.ro iK z.d,.ro iK z.t,vI z.bG,.ro bM z.bJ,.ro .fr z.bB,vI z.start,vI z.dK,vI 0] l a
 refine TJ (λl a=>?_) (wL z (.v (pt c)) Ct [nl,nl]) l a;obtain⟨n,i,e,b,j⟩:=Lh .u64 _ 4 l a;exact⟨n,i,e,b,Lh .u8 _ 32 i j⟩
theorem OU(c a:Nat)(b:Int)(mem:LI):ak.obj [dW b mem a] c (ia a [])=bX ⟨c,a,b,mem,[]⟩:=by rw[bZ];unfold bX;rw[show gU []=ak.none from rfl,kT];rfl
section
variable (gl:dF)[W3]
abbrev GA:cJ:=mO au abA gl
end
theorem Yg(gl:dF):fk au gl 8 ld.args ld.Pre (λ_=>ak.none) (λ_ (y:Option eI)=>match y with|some q=>aT q.1|none=>lu)
  (λz y=>match y with|some q=>cc.eF ⟨⟨⟨q.1,z.me,z.d,z.t,z.bG,z.bJ,z.bB,z.start,z.dK,0,q.2.1,[],[],[],[],[],0⟩,⟨q.2.1,q.2.2,z.me,z.mem,[]⟩⟩,false⟩|none=>ak.none)
  (λz y=>match y with|some _=>z.bad=false/\z.nQ=false/\sr z.me z.mem|none=>¬(z.bad=false/\z.nQ=false/\sr z.me z.mem)):=by
 refine dD (sp:=abA) Kx ab (λz=>by show 5<=yw.ntmps;exact Odt ab) (λz y=>by cases y<;>rfl) ?_;rintro z w _;have H:=w.len;refine e6 ke 1 (qu z 16 [] []) ?_;refine jY ke ao 1 31 (λo=>bL .bool 31 o) (λb=>qu z 16 [(31,aD b)] []) (λb=>b=z.bad) (λ_=>False) (λ_ _=>False) ?_ (λb i=>?_) (λ_ _ _ h _=>h.elim) (λ_ _ _ _ h _=>h.elim);intros;refine @av (YD ((z.d,z.t,z.bG,z.bJ),())/\((gA (qp z.d z.t z.bG z.bJ) != 0)=true->(qu z 16 [(31,aD true)] []).aj (true=z.bad))/\((gA (qp z.d z.t z.bG z.bJ) != 0)=false->(decide (z.dK<1)=true->(qu z 16 [(31,aD true)] []).aj (true=z.bad))/\(decide (z.dK<1)=false->(decide (z.dK>1048576)=true->(qu z 16 [(31,aD true)] []).aj (true=z.bad))/\(decide (z.dK>1048576)=false->(decide (z.start<0)=true->(qu z 16 [(31,aD true)] []).aj (true=z.bad))/\(decide (z.start<0)=false->(qu z 16 [(31,aD (decide (z.start>1099511627776)))] []).aj (decide (z.start>1099511627776)=z.bad)))))) _ ?_ ?_;kernel_rfl;refine⟨⟨by show z.d.length<_;omega,by show z.t.length<_;omega⟩,λh=>aw (by unfold ld.bad;rw[h];simp),λh=>⟨λr=>aw (by unfold ld.bad;rw[h,r];simp),λr=>⟨λs=>aw (by unfold ld.bad;rw[h,r,s];simp),λs=>⟨λC=>aw (by unfold ld.bad;rw[h,r,s,C];simp),λC=>aw (by unfold ld.bad;rw[h,r,s,C];simp)⟩⟩⟩⟩;have i:b=z.bad:=i;cases b
 ·have i:=i.symm;have I:=ak2 i;refine fF (ar (aq yw) 2) ?_;refine jY ke ao 1 42 (λo=>bL .bool 42 o) (λb=>qu z 16 [(42,aD b)] []) (λb=>b=z.nQ) (λ_=>False) (λ_ _=>False) ?_ (λG c=>?_) (λ_ _ _ h _=>h.elim) (λ_ _ _ _ h _=>h.elim);intros;refine @av (law22.lb (z.d,z.me,())/\(decide (z.me∈z.d)=true->(qu z 16 [(42,aD ((z.bB.length:Int) != z.bG))] []).aj (((z.bB.length:Int) != z.bG)=z.nQ))/\(decide (z.me∈z.d)=false->(qu z 16 [(42,aD false)] []).aj (false=z.nQ))) _ ?_ ?_;kernel_rfl;exact⟨by show z.d.length<_;omega,λh=>aw (ahv h),λh=>aw (ahu h)⟩;have c:G=z.nQ:=c;cases G
  ·have c:=c.symm;refine fF (ar (aq yw) 4) ?_;refine gcd ke 1 (λo=>(qy 11 o,dO iK 56 o)) (λg:Nat×LI=>qu z 72 [(11,ag (.sl 56 0 0 g.1 1))] [(56,[.ints .i64 g.1 g.2])]) (λg=>g.1=z.d.length+z.t.length/\g.2=z.d++z.t) ?_ (λg K=>?_);intros;refine @av (0+2<=2/\cpg.Tx (take 2 [z.d,z.t],())/\(qu z 72 [(11,SV.is (TV.one (ax.sl 56 0 0 (((take 2 [z.d,z.t]).flatten,()).fst.length,((take 2 [z.d,z.t]).flatten,()).fst).fst 1)))] [(56,[ax.ints IntKind.i64 (((take 2 [z.d,z.t]).flatten,()).fst.length,((take 2 [z.d,z.t]).flatten,()).fst).fst (((take 2 [z.d,z.t]).flatten,()).fst.length,((take 2 [z.d,z.t]).flatten,()).fst).snd])]).aj ((take 2 [z.d,z.t]).flatten.length=z.d.length+z.t.length/\(take 2 [z.d,z.t]).flatten=z.d++z.t)) _ ?_ ?_;kernel_rfl;have e:(take 2 [z.d,z.t]).flatten=z.d++z.t:=az;have A:(z.d++z.t).length=z.d.length+z.t.length:=bA;refine⟨aQ _,⟨by show 2<=1000;decide,?_,?_⟩,aw ⟨by rw[e,A],e⟩⟩;show 1<=(take 2 [z.d,z.t]).flatten.length;rw[e,A];omega;show(take 2 [z.d,z.t]).flatten.length<=1000;rw[e,A];omega;obtain⟨m,l⟩:=g;obtain⟨D,u⟩:=K;have D:m=z.d.length+z.t.length:=D;have u:l=z.d++z.t:=u;have N:l.length=m:=by rw[u,D,bA]
   refine gcd ke 1 (λ_=>()) (λ_=>qu z 72 [(11,ag (.sl 56 0 0 m 1))] [(56,[.ints .i64 m (sorti.kA l)])]) (λ_=>True) ?_ (λ_ _=>?_);intros;refine @av (m=m/\0<m/\sorti.La (l,())/\(qu z 72 [(11,SV.is (TV.one (ax.sl 56 0 0 m 1)))] [(56,[ax.ints IntKind.i64 m (sorti.kA l)])]).aj True) _ ?_ ?_;kernel_rfl;exact⟨rfl,aa,by show l.length<=12;omega,aw trivial⟩;refine eX 7 (bS (ar (aq yw) 7)) ?_;refine iS ke 3 (λ_=>()) (λ_=>qu z 96 [(51,sJ z.me),(53,ag (.ro iK (Lib.compact (sorti.kA l))))] []) (λ_=>True) ?_ (λ_ _=>?_);intros;refine @av (m=m/\0<m/\m<=1000/\(qu z 96 [(51,sJ z.me),(53,SV.is (TV.one (ax.ro iK (Lib.compact (sorti.kA l)))))] []).aj True) _ ?_ ?_;kernel_rfl;exact⟨rfl,aa,aa,aw trivial⟩;rw[show Lib.compact (sorti.kA l)=z.mem by rw[u];rfl];refine hZ (jZ (E:=GA gl) (age gl) (z.me,z.mem) w.mem ab Og ab ab (λy=>by cases y<;>rfl)) (λy n=>?_);cases y with
   |none=>have n:¬sr z.me z.mem:=n;refine eG ke 5 (qu z 96 [(12,lu)] []) (eK ?_);refine e6 ke 1 (qu z 96 [(56,ag .T)] []) ?_;have f:¬(z.bad=false/\z.nQ=false/\sr z.me z.mem):=λh=>n h.2.2;refine gqT (ar (aq yw) 9) ?_;refine jy ke ao lu ?_ ⟨none,f,bR _,rfl⟩;intros;refine @av (SV.is (TV.one (ax.v (Value.pointer none)))=lu) _ ?_ ?_;kernel_rfl;rfl
   |some q=>obtain⟨a,j⟩:=q;have n:sr z.me z.mem:=n;refine eG ke 5 (qu z 96 [(12,aT a)] []) (eK ?_);refine eX 8 (bS (ar (aq yw) 8)) ?_;refine eG ke 1 (qu z 96 [(12,aT a),(55,aT a)] []) ?_;refine hZ (fJ (E:=GA gl) (sv:=λ_:Unit=>ag .F) (G2:=λ_=>bX ⟨a,j,z.me,z.mem,[]⟩) (J:=λ_=>True) ab ?_) (λ_ _=>?_);rw[show j8 (bS (ar (aq yw) 8)) 1=.binOp .eql 78 (.tmp 55) (.const (.pointer none)) 78 from by kernel_rfl];exact zV (p:=a) QL ab ab;refine eK ?_;refine gqF (ar (aq yw) 9) ?_;refine fh (qu z 96 [(12,aT a)] []) ?_;refine gcd ke 3 (λ_=>()) (λ_=>qu z 96 [(12,aT a)] []) (λ_=>True) ?_ (λ_ _=>?_);intros;refine @av (Bt (z.d,())/\Bt (z.t,())/\yH (z.bJ,())/\(qu z 96 [(12,aT a)] []).aj True) _ ?_ ?_;kernel_rfl;exact⟨by show z.d.length<_;omega,by show z.t.length<_;omega,by have:=w.bJ;show z.bJ.length<_;omega,aw trivial⟩;refine a7 (G':=ak.obj [dW z.me z.mem j] a (ia j [])) (OU a j z.me z.mem).symm ?_;refine jJ [12] (qu z 97 [(12,al 96 0)] [(96,dW z.me z.mem j)]) ?_;refine gcd ke 1 (λ_=>()) (λ_=>nwT z j) (λ_=>True) ?_ (λ_ _=>?_);intros;refine @av (YC (z.bB,())/\(nwT z j).aj True) _ ?_ ?_;kernel_rfl;exact⟨by have:=w.bB;show z.bB.length<_;omega,aw trivial⟩;refine qf (λ_ _ L=>OH (E:=(GA gl).cV 96 a) 96 a 161 _ (wL z (.v (pt a)) Ct (b7++[vI 0])) az ab az (ajr z a) L) ?_;refine gQ (E:=GA gl) (bl:=[dW z.me z.mem j]) [161] [96] 97 (nwU z a) ?_;refine vd (E:=GA gl) 161 (.row ed 0 []) _ (wL z (.v (pt a)) [mU 177 2,nl,nl,nl,nl] (b7++[vI 0])) ab az (λx k h=>rj (BF _ _) ([nl,nl,nl,nl]++(b7++[vI 0])) (wL z (.v (pt a)) [] []) k h) ?_;refine vd (E:=GA gl) 161 (.row dZ 0 []) _ (wL z (.v (pt a)) [mU 177 2,mU 178 2,nl,nl,nl] (b7++[vI 0])) ab az (λx k h=>rj (BF _ _) ([nl,nl,nl]++(b7++[vI 0])) (wL z (.v (pt a)) [mU 177 2] []) k h) ?_;refine vd (E:=GA gl) 161 (.row dX 0 []) _ (wL z (.v (pt a)) [mU 177 2,mU 178 2,mU 179 6,nl,nl] (b7++[vI 0])) ab az (λx k h=>rj (BF _ _) ([nl,nl]++(b7++[vI 0])) (wL z (.v (pt a)) [mU 177 2,mU 178 2] []) k h) ?_;refine vd (E:=GA gl) 161 (.ints .i64 0 []) _ (wL z (.v (pt a)) [mU 177 2,mU 178 2,mU 179 6,mU 180 1,nl] (b7++[vI 0])) ab az (λx k h=>rj (BF _ _) ([nl]++(b7++[vI 0])) (wL z (.v (pt a)) [mU 177 2,mU 178 2,mU 179 6] []) k h) ?_;refine vd (E:=GA gl) 161 (.row .fr 0 []) _ (wL z (.v (pt a)) [mU 177 2,mU 178 2,mU 179 6,mU 180 1,mU 181 4] (b7++[vI 0])) ab az (λx k h=>rj (BF _ _) (b7++[vI 0]) (wL z (.v (pt a)) [mU 177 2,mU 178 2,mU 179 6,mU 180 1] []) k h) ?_;refine fh (nwV z a) ?_;refine Bf (E:=GA gl) (bl:=hI ⟨0,z.me,z.d,z.t,z.bG,z.bJ,z.bB,z.start,z.dK,0,a,[],[],[],[],[],0⟩ (b7++[vI 0])) 10 [] [161,177,178,179,180,181] rfl ab ab rfl ab rfl ab (λp=>ay yw.ntmps 8 [(10,aT p)] []) (λp=>aB ab ab trivial) (λp=>?_);refine iU ke ao (aT p) ?_ ⟨some (p,a,j),⟨i,c,n⟩,bR _,?_⟩;intros;refine @av (SV.is (TV.one (ax.v (Value.pointer (some {block:=p,off:=0}))))=aT p) _ ?_ ?_;kernel_rfl;rfl;rw[OU,bZ];rfl
  ·have c:=c.symm;have f:¬(z.bad=false/\z.nQ=false/\sr z.me z.mem):=λh=>by rw[c]at h;cases h.2.1
   refine jX (ar (aq yw) 4) ?_;refine jy ke ao lu ?_ ⟨none,f,bR _,rfl⟩;intros;refine @av (SV.is (TV.one (ax.v (Value.pointer none)))=lu) _ ?_ ?_;kernel_rfl;rfl
 ·have i:=i.symm;have f:¬(z.bad=false/\z.nQ=false/\sr z.me z.mem):=λh=>by rw[i]at h;cases h.1
  refine jX (ar (aq yw) 2) ?_;refine jy ke ao lu ?_ ⟨none,f,bR _,rfl⟩;intros;refine @av (SV.is (TV.one (ax.v (Value.pointer none)))=lu) _ ?_ ?_;kernel_rfl;rfl
theorem acX{t:cc}(l:TOk t)(j:t.z.R.ba<4)(q:eI):TOk (db t q).1:=by
 obtain⟨⟨R,H⟩,f⟩:=t;have j:R.ba<4:=j;have o:0<=R.ba:=l.lo;have n:f=false:=by cases f;rfl;have:R.ba=4:=l.fin rfl;omega
 subst n;obtain⟨c,i,d⟩:=l.inv;have d:fm c R H:=d;have i:c<=28000+2*R.ba.toNat:=i;have m:R.ba=0\/R.ba=1\/R.ba=2\/R.ba=3:=aa;have t0:(0:Int).toNat=0:=rfl;have t1:(1:Int).toNat=1:=rfl;have t2:(2:Int).toNat=2:=rfl;have t3:(3:Int).toNat=3:=rfl;rcases m with k|k|k|k;have e:(db ⟨⟨R,H⟩,false⟩ q).1=⟨lF ⟨bh R 1,H⟩ q,false⟩:=congrArg Prod.fst (ah k);have b:=d.ph 1;have a:(lF ⟨bh R 1,H⟩ q).R.ba=1:=(tb ⟨bh R 1,H⟩ q).ba;rw[e];exact⟨⟨c+2,by rw[k]at i;rw[a];omega,OM b q⟩,by show(0:Int)<=_;rw[a];decide,by show _<=(4:Int);rw[a];decide,λh=>by cases h⟩
 ·have e:(db ⟨⟨R,H⟩,false⟩ q).1=⟨mH ⟨bh R 2,H⟩ q,false⟩:=by
   have g:db ⟨⟨R,H⟩,false⟩ q=(⟨mH ⟨bh R 2,H⟩ q,false⟩,fa ⟨bh R 2,H⟩ q):=(ai (show ¬R.ba=0 by omega)).trans (ah k);rw[g]
  have b:=d.ph 2;have a:(mH ⟨bh R 2,H⟩ q).R.ba=2:=(uT ⟨bh R 2,H⟩ q).ba;rw[e];exact⟨⟨c+2,by rw[k]at i;rw[a];omega,RL b q⟩,by show(0:Int)<=_;rw[a];decide,by show _<=(4:Int);rw[a];decide,λh=>by cases h⟩
 ·have e:(db ⟨⟨R,H⟩,false⟩ q).1=⟨r4 ⟨bh R 3,H⟩ q,false⟩:=by
   have g:db ⟨⟨R,H⟩,false⟩ q=(⟨r4 ⟨bh R 3,H⟩ q,false⟩,hO ⟨bh R 3,H⟩ q):=(ai (show ¬R.ba=0 by omega)).trans ((ai (show ¬R.ba=1 by omega)).trans (ah k));rw[g]
  have b:=d.ph 3;have a:(r4 ⟨bh R 3,H⟩ q).R.ba=3:=(xN ⟨bh R 3,H⟩ q).ba;rw[e];exact⟨⟨c+2,by rw[k]at i;rw[a];omega,YN b q⟩,by show(0:Int)<=_;rw[a];decide,by show _<=(4:Int);rw[a];decide,λh=>by cases h⟩
 ·have e:(db ⟨⟨R,H⟩,false⟩ q).1=⟨⟨bh R 4,H⟩,true⟩:=by
   have g:db ⟨⟨R,H⟩,false⟩ q=(⟨⟨bh R 4,H⟩,true⟩,[]):=(ai (show ¬R.ba=0 by omega)).trans ((ai (show ¬R.ba=1 by omega)).trans (ai (show ¬R.ba=2 by omega)));rw[g]
  have b:=d.ph 4;rw[e];exact⟨⟨c,by show c<=28000+2*(4:Int).toNat;have:(4:Int).toNat=4:=rfl;omega,b⟩,by show(0:Int)<=4;decide,by show(4:Int)<=4;decide,λ_=>rfl⟩
theorem ZC{a:Int}{t u:cc}{o:List (Int×aP)}(h:Ticks a t u o):TOk t->TOk u:=by
 induction h with
 |stop t b=>exact id
 |step t q u o b _ d=>exactλc=>d (acX c (N8 b) q)
def jG(z:ld)(q:eI):cc:=⟨⟨⟨q.1,z.me,z.d,z.t,z.bG,z.bJ,z.bB,z.start,z.dK,0,q.2.1,[],[],[],[],[],0⟩,⟨q.2.1,q.2.2,z.me,z.mem,[]⟩⟩,false⟩
theorem T6{z:ld}(b:z.Pre)(c:∀x,x∈z.d\/x∈z.t\/x=z.me->gb x)(g:∀x∈z.mem,m2 x)(a:z.me∈z.mem)(i:z.bG<1000)(q:eI):TOk (jG z q):=by have j:=b.len;refine⟨⟨0,aY _,⟨⟨λe=>?_,b.mem,g,a,zu,λt h=>(nomatch h),λt h=>(nomatch h)⟩,rfl,c _ (.inr (.inr rfl)),?_,?_,λx f=>c x (.inl f),λx f=>c x (.inr (.inl f)),b.bJ,b.bB,i,aY _,λd h=>(nomatch h),aY _,λd h=>(nomatch h),aY _,rfl,aY _⟩⟩,wq _,by show(0:Int)<=4;decide,λh=>by cases h⟩;have e:z.mem=[]:=e;rw[e]at a;cases a;show z.d.length<1000;omega;show z.t.length<1000;omega
def Lone.iq(L:Lone):ld:=⟨L.me,L.mem,L.mem,L.bG,[],L.bB,L.start,L.dK⟩
structure Lone.Set(L:Lone):Prop where
 ris:iD 0 L.mem=true
 cmp:Lib.compact (sorti.kA (L.mem++L.mem))=L.mem
 good:ry L.mem L.mem.length
theorem Pg{L:Lone}(h:L.Ok)(a:L.Set):L.iq.Pre:=by have b:=h.n1;have e:=h.n4;have c:=h.len;have d:=h.kn;refine⟨by show L.mem.length+L.mem.length<=12;omega,?_,by show 0<1000;decide,by show L.bB.length<1000;omega⟩;show(Lib.compact (sorti.kA (L.mem++L.mem))).length<1000;rw[a.cmp];omega
theorem X9{L:Lone}(h:L.Ok)(f:L.Set):L.iq.bad=false/\L.iq.nQ=false/\sr L.iq.me L.iq.mem:=by
 have m:=h.n1;have o:=h.n4;have l:=h.len;have n:=h.kn;have p:=h.k1;refine⟨?_,?_,?_,?_⟩
 ·have e:qp L.mem L.mem L.bG []=0:=by
   unfold qp;have g:((L.mem.length:Int)==0)=false:=by simpa using(show ¬(L.mem.length=0) by omega)
   have i:decide (L.bG<1)=false:=cm aa;have j:decide (L.bG>(L.mem.length:Int))=false:=cm aa;have k:decide ((([]:List Pt).length:Int)>(L.mem.length:Int))=false:=cm az;simp only[g,i,j,k,f.ris];simp
  unfold ld.bad;have a:=h.s0;have b:=h.s1;have c:=h.p1;have d:=h.p2;show(((gA (qp L.mem L.mem L.bG []) != 0)||decide (L.dK<1)||decide (L.dK>1048576))||decide (L.start<0)||decide (L.start>1099511627776))=false;rw[bq,e,cm (show ¬L.dK<1 by omega),cm (show ¬L.dK>1048576 by omega),cm (show ¬L.start<0 by omega),cm (show ¬L.start>1099511627776 by omega)];rfl
 ·unfold ld.nQ;have:((L.bB.length:Int) != L.bG)=false:=by rw[l];simp
  show(decide (L.me∈L.mem)&&((L.bB.length:Int) != L.bG))=false;rw[this,oY]
 show ry (Lib.compact (sorti.kA (L.mem++L.mem))) (Lib.compact (sorti.kA (L.mem++L.mem))).length;rw[f.cmp];exact f.good;show L.me∈Lib.compact (sorti.kA (L.mem++L.mem));rw[f.cmp];exact h.mm
theorem Vl{L:Lone}(h:L.Ok)(a:L.Set)(q:eI):Stg L 0 q.1 (jG L.iq q)/\TOk (jG L.iq q):=by
 have c:=h.kn;have d:=h.n4;have b:∀x,x∈L.mem->gb x:=λx hx=>by have:=h.rng x hx;exact⟨aa,aa⟩
 refine⟨⟨⟨q.2.1,?_⟩,rfl,?_,λx hx=>(nomatch hx),rfl⟩,T6 (Pg h a) ?_ ?_ ?_ (by show L.bG<1000;omega) q⟩;show(⟨q.1,L.me,L.mem,L.mem,L.bG,[],L.bB,L.start,L.dK,0,q.2.1,[],[],[],[],[],0⟩:Rt)=cz L 0 q.1 q.2.1;unfold cz;simp;exact a.cmp;intro x hx;rcases hx with hx|hx|hx;exact b x hx;exact b x hx;have hx:x=L.me:=hx;rw[hx];exact b _ h.mm;intro x hx;have hx:x∈Lib.compact (sorti.kA (L.mem++L.mem)):=hx;rw[a.cmp]at hx;have:=h.rng x hx;exact⟨aa,aa⟩;show L.me∈Lib.compact (sorti.kA (L.mem++L.mem));rw[a.cmp];exact h.mm
end rite
end Go.Proofs.YtofofalgjibokaaGreatDoor
/- Layer 23's law: the document's example. -/
namespace Go.Proofs.YtofofalgjibokaaGreatDoor
namespace law23
open bf deal rite Go.Eng.Ob
abbrev iL:Kd:=.int .i64
theorem k8{E:cJ}{N:Nat}{c b:St}{G G':ak}(h:∀{l:cw}{n r:aA}{x:Nat->aA},aR E.P l (GH E N b G') n r x->aR E.P l (GH E N c G) n r x)(a:Act)(w:World)(d:GH E N c G a w):GH E N b G' a w:=by have k:=h (l:=[]) (n:=GH E N b G') (r:=λ_ _=>True) (x:=λ_ _ _=>True) (cv λ_ _ h=>h) a w (λe a w=>match e with | .normal=>GH E N b G' a w|_=>True) d (λ_ _ h=>h) (λ_ _ _=>trivial) (λ_ _ _ _=>trivial);exact k
theorem YR(p:Nat):dE (aT p) (ag (.fv .pq (some p))):=λa v h=>by have h:[v]=[pt p]/\_:=h;exact⟨h.1,rfl⟩
theorem agz{a b:LI}{n:Int}:dE (.is (.agg [.ro iL a,.ro iL b,vI n,.v (.slice none 0 0)])) (.is (.agg [.ro iL a,.ro iL b,vI n,.ro bM []])):=λf v h=>by obtain⟨l,e,h⟩:=h;refine⟨l,e,rj (c:=.v (.slice none 0 0)) (c':=.ro bM []) (λv d=>?_) [] [.ro iL a,.ro iL b,vI n] l h⟩;exact .inl ⟨rfl,none,0,d.1,λ_=>rfl⟩
theorem aoY:poly.pat [kX 9] 2=kX 9:=by rw[poly.nB];show cB ([]:cO) (zm 2)*zm 2+kX 9=kX 9;have:cB ([]:cO) (zm 2)=0:=rfl;rw[this,Rg.zero_mul,Rg.zero_add]
theorem Oe:aF au 6 Tryz.f6:=ek
abbrev XL:Func:=Tryz.f6
abbrev aa0:=bw [fr.vu,g1.Nw,g1.FY]
theorem iV:aS au aa0:=aV (a2 fr.se) (aV (a2 g1.Es) (aV (a2 g1.Bc) bY))
def Mi:Lone:=⟨2,[2],1,[kX 9],0,1⟩
theorem IN:Mi.Ok:=⟨ae,ae,List.mem_singleton.2 rfl,λx a=>by rw[List.mem_singleton.1 a];decide,ae,ae,rfl,ae,ae,ae,ae⟩
theorem OL:Mi.Set:=⟨ae,ab,by unfold ry;decide⟩
def Dd(next:Nat)(b:g9)(a:e5):St:=ay XL.ntmps next b a
def h2B(id p:Nat)(o:List (Int×aP)):St:=Dd 144 [(1,aT p),(2,ag (.ro cl o)),(3,al id 0),(4,sJ 0),(5,ag .T)] [(id,[.ro iL [2],.ro bM (poly.cr [kX 9]),.row .fr 1 [poly.pat [kX 9] 2],.ints .u8 32 (rP [2] (poly.cr [kX 9]))])]
def xg(o:List (Int×aP))(a:g9):St:=Dd 144 ([(2,ag (.ro cl o)),(3,al 112 0),(4,sJ 0),(5,ag .T)]++a) [(112,[.ro iL [2],.ro bM (poly.cr [kX 9]),.row .fr 1 [poly.pat [kX 9] 2],.ints .u8 32 (rP [2] (poly.cr [kX 9]))])]
theorem s8{P:Program}{ops:Array Oper}{i:Nat}{l:cw}{Pre b n r:aA}{x:Nat->aA}(h:∀a w,Pre a w->b a w)(c:rL P ops i l b n r x):rL P ops i l Pre n r x:=λa w Q d=>c a w Q (h a w d)
abbrev h2X[W3]:cJ:=mO au aa0 sha.fE
theorem agd:fk au sha.fE 6 (λ_:Unit=>[]) (λ_=>True) (λ_=>ak.none) (λ_ (_:Unit)=>aD true) (λ_ _=>ak.none) (λ_ _=>True):=by
 refine dD (sp:=aa0) Oe ab (λz=>aY _) (λz y=>rfl) ?_;rintro _ _ _;refine e6 iV 1 (Dd 8 [] []) ?_;refine eX 1 (bS (ar (aq XL) 1)) ?_;refine eG iV 2 (Dd 24 [(6,ag (.sl 8 0 0 1 1)),(7,ag (.sl 16 0 0 1 1))] [(8,[.ints .i64 1 [2]]),(16,[.ints .i64 1 [2]])]) ?_;refine jx (k8 λh=>sq 6 8 1 1 .i64 [2] ab ab rfl h) ?_;refine jx (k8 λh=>sq 7 16 1 1 .i64 [2] ab ab rfl h) ?_;refine iS iV 5 (λ_=>()) (λ_=>Dd 64 [(8,.is (.agg [.ro iL [2],.ro iL [2],vI 1,.v (.slice none 0 0)])),(10,ag (.sl 56 0 0 1 4))] [(56,[.row .fr 1 [kX 9]])]) (λ_=>True) ?_ (λ_ _=>?_);intros;refine @av (jI 9/\(Dd 64 [(8,SV.is (TV.agg [ax.ro iL [(2:a6 iL)],ax.ro iL [(2:a6 iL)],ax.v (Value.int IntKind.i64 1),ax.v (Value.slice none 0 0)])),(10,SV.is (TV.one (ax.sl 56 0 0 1 4)))] [(56,[ax.row Kd.fr 1 [kX 9]])]).aj True) _ ?_ ?_;kernel_rfl;exact⟨⟨aa,aa⟩,aw trivial⟩;refine jx (k8 λh=>Be 10 56 1 4 .fr [kX 9] ab ab rfl h) ?_;refine jx (k8 λh=>iy 8 (.is (.agg [.ro iL [2],.ro iL [2],vI 1,.ro bM []])) (by exact agz) h) ?_;refine hZ (jZ (E:=h2X) (Yg sha.fE) Mi.iq (Pg IN OL) ab Kx ab ab (λy=>by cases y<;>rfl)) (λy d=>?_);cases y with
 |none=>exact absurd (X9 IN OL) d
 |some q=>
  obtain⟨l,f⟩:=Vl IN OL q;refine eG iV 7 (Dd 64 [(1,aT q.1)] []) (eK ?_);refine a7 (G':=(jG Mi.iq q).eF) rfl ?_;refine eX 2 (bS (ar (aq XL) 2)) ?_;refine eG iV 1 (Dd 64 [(1,aT q.1),(12,aT q.1)] []) ?_;refine ju (E:=h2X) Tc (jG Mi.iq q,3) f yb (λy d=>?_);obtain⟨u,o⟩:=y;have d:Ticks 3 (jG Mi.iq q) u o:=d;have w:=ZC d f;obtain⟨j,_,x,e,k,i,_⟩:=Vm IN d (aY _) l;have i:j=4:=by rcases i with h|h;exact h;have h:(3:Int)<0+(j:Int)*1:=h;omega
  subst i;have k:o=Nq Mi 4:=k;obtain⟨bf,g⟩:=e.R;have m:u.z.R.p=q.1:=by rw[g];rfl
  have t:u.fin=true:=e.fin;refine eG iV 3 (Dd 64 [(1,aT q.1),(2,ag (.ro cl o))] []) (eK ?_);refine a7 (G':=u.eF) rfl ?_;refine eX 3 (bS (ar (aq XL) 3)) ?_;refine eG iV 1 (Dd 64 [(1,aT q.1),(2,ag (.ro cl o)),(15,aT q.1)] []) ?_;have n:w7 u=Gm [2] (poly.cr [kX 9]) (.row .fr 1 [poly.pat [kX 9] 2]) (.ints .u8 32 (rP [2] (poly.cr [kX 9]))) 0:=by
   have s:iJ u.z.R=(some (ajh Mi),0):=by rw[g];exact abn IN rfl q.1 bf
   have r:u.z.R.bb=0:=by rw[g];rfl
   unfold w7;rw[t,s,r];rfl
  refine hZ (jZ (E:=h2X) (S8 sha.fE) u w ab xD (by rw[m];kernel_rfl) (by rw[m];kernel_rfl) (λy=>by show(w7 u).ids=[];rw[n];rfl)) (λy _=>?_);rw[n];refine eG iV 10 (h2B 112 q.1 o) (eK ?_);refine iy 1 (ag (.fv .pq (some q.1))) (YR q.1) ?_;refine ko ao (rid:=4) (ops:=bS (ar (aq XL) 4)) ab ?_;refine fY iV 2 (λc=>bL .bool 21 c) (λb=>xg o [(21,aD b)]) (λb=>b=true) ae ab ?_ (λb a=>?_);intros;refine @av ((xg o [(21,aD true)]).aj (true=true)) _ ?_ ?_;kernel_rfl;exact aw rfl;subst a;refine s8 (k8 λh=>iy 21 (ag .T) jc h) ?_;refine fY iV 6 (λ_=>()) (λ_=>xg o [(25,ag .T)]) (λ_=>True) ae ab ?_ (λ_ _=>?_);intros;refine @av ((xg o [(25,SV.is (TV.one ax.T))]).aj True) _ ?_ ?_;kernel_rfl;exact aw trivial;refine fY iV 10 (λc=>bL .bool 29 c) (λb=>xg o [(29,aD b)]) (λb=>b=true) ae ab ?_ (λb a=>?_);intros;refine @av ((xg o [(29,aD ((0:Int)==0))]).aj (((0:Int)==0)=true)) _ ?_ ?_;kernel_rfl;exact aw rfl;subst a;refine s8 (k8 λh=>iy 29 (ag .T) jc h) ?_;refine fY iV 15 (λc=>bL .bool 34 c) (λb=>xg o [(34,aD b)]) (λb=>b=true) ae ab ?_ (λb a=>?_);intros;refine @av ((xg o [(34,aD ((o.length:Int)==9))]).aj (((o.length:Int)==9)=true)) _ ?_ ?_;kernel_rfl;exact aw (by rw[k];rfl);subst a;refine s8 (k8 λh=>iy 34 (ag .T) jc h) ?_;refine fY iV 21 (λc=>bL .bool 40 c) (λb=>xg o [(40,aD b)]) (λb=>b=true) ae ab ?_ (λb a=>?_);intros;refine @av ((xg o [(40,aD ((↑[2].length:Int)==1))]).aj (((↑[2].length:Int)==1)=true)) _ ?_ ?_;kernel_rfl;exact aw rfl;subst a;refine s8 (k8 λh=>iy 40 (ag .T) jc h) ?_;refine fY iV 28 (λc=>bL .bool 47 c) (λb=>xg o [(47,aD b)]) (λb=>b=true) ae ab ?_ (λb a=>?_);intros;refine @av (((0:Int)<=0/\0<(↑[2].length:Int))/\0<[2].length/\(xg o [(47,aD ((2:Int)==2))]).aj (((2:Int)==2)=true)) _ ?_ ?_;kernel_rfl;exact⟨⟨ae,ae⟩,ae,aw rfl⟩;subst a;refine s8 (k8 λh=>iy 47 (ag .T) jc h) ?_;refine fY iV 34 (λc=>bL .bool 53 c) (λb=>xg o [(53,aD b)]) (λb=>b=true) ae ab ?_ (λb a=>?_);intros;refine @av (jI 9/\(xg o [(53,aD (p3 Kd.fr (poly.pat [kX 9] 2) (kX 9)))]).aj (p3 Kd.fr (poly.pat [kX 9] 2) (kX 9)=true)) _ ?_ ?_;kernel_rfl;exact⟨⟨aa,aa⟩,aw ((Ba _ _).2 aoY)⟩;subst a;refine s8 (k8 λh=>iy 53 (ag .T) jc h) ?_;refine fY iV 40 (λc=>bL .bool 59 c) (λb=>xg o [(59,aD b)]) (λb=>b=true) ae ab ?_ (λb a=>?_);intros;refine @av ((xg o [(59,aD ((↑(poly.cr [kX 9]).length:Int)==1))]).aj (((↑(poly.cr [kX 9]).length:Int)==1)=true)) _ ?_ ?_;kernel_rfl;exact aw (by rw[jq];rfl);subst a;refine s8 (k8 λh=>iy 59 (ag .T) jc h) ?_;refine jw iV (λc=>bL .bool 0 c) (λb=>Dd 8 [(0,aD b)] []) (λb=>b=true) (Odt ab) ?_ (λb a=>?_);intros;refine @av (((0:Int)<=0/\0<(↑(poly.cr [kX 9]).length:Int))/\0<(poly.cr [kX 9]).length/\True/\jI 9/\True/\(Dd 8 [(0,aD (p3 (Kd.fp.pair Kd.fp) ((poly.cr [kX 9]).getD 0 ((0:Fp),(0:Fp))) (g1.dt g1.gG (kX 9))))] []).aj (p3 (Kd.fp.pair Kd.fp) ((poly.cr [kX 9]).getD 0 ((0:Fp),(0:Fp))) (g1.dt g1.gG (kX 9))=true)) _ ?_ ?_;kernel_rfl;exact⟨⟨ae,by rw[jq];decide⟩,by rw[jq];decide,trivial,⟨aa,aa⟩,trivial,aw ((Ba _ _).2 rfl)⟩;subst a;refine a7 (G':=ak.sep u.eF ak.none) (kT _).symm ?_;refine OJ ?_;exact tP iV (aD true) ⟨(),trivial,bR _,rfl⟩
end law23
end Go.Proofs.YtofofalgjibokaaGreatDoor
/- cressetref16: kx, Copy. -/
namespace Go.Proofs.YtofofalgjibokaaGreatDoor
namespace ref16
open bf
theorem UL:aF au 17 Tryz.f17:=ek
def akp:Nat×Eng.Spec:=(34,mJ [.sl (.int .u8)] [.val (.sl (.int .u8))] ref01.xL ref01.FJ)
theorem L6:bu au 17 [ig] [.val ig] cx (λ((_,_,_,_,_,_,c),_)=>ref01.xL (c,())) (λ(a,_)=>(a,())):=by refine bH (sp:=bw [akp]) (aV (a2 ref01.KG.Bd) bY) ao UL ae ae ?_;rintro w k ⟨⟨d,e,f,g,h,i,b⟩,⟨⟩⟩;revert d e f g h i b;intro(d:Int) (e:Int) (f:Int) (g:Int) (h:Int) (i:Int) (b:LI) _ j;refine @av (ref01.xL (b,())/\((d,e,f,g,h,i,b),())=((d,e,f,g,h,i,b),())) _ ?_ ?_;kernel_rfl;exact⟨j,rfl⟩
def acn:=aZ L6
end ref16
end Go.Proofs.YtofofalgjibokaaGreatDoor
/- A rite: In, ahead of its end. Printed by tools/gen_rt20.py. -/
namespace Go.Proofs.YtofofalgjibokaaGreatDoor
namespace rite
open bf deal Go.Eng.Ob
open Go.Hbn(dd a8 ez)
abbrev abb:=bw [law22.mg,fr.QA,Nx]
theorem oy:aS au abb:=aV (a2 law22.kZ) (aV (a2 fr.KL) (aV Yh bY))
abbrev wF(gl:dF)[W3]:cJ:=mO au abb gl
def inA(p:Nat)(m:aP)(a:g9):St:=ay jf.ntmps 8 ([(0,aT p),(3,al 0 0)]++a) [(0,df m)]
def yo(R:Rt)(m:aP)(b:Nat)(a:g9)(bl:e5):St:=ay jf.ntmps b ([(0,al 8 0),(3,al 0 0)]++a) ((0,df m)::bl++kG R (b7++[vI R.bb]))
def inK(p:Nat)(m:aP)(y:Fr)(a:g9):St:=ay jf.ntmps 63 ([(0,aT p),(3,al 0 0),(5,al 62 0)]++a) [(0,df m),(62,[.row .fr 1 [y]])]
def inE(p:Nat)(ms:List aP)(a:g9):St:=ay jf.ntmps 8 ([(0,aT p),(7,ag (.ro ig ms))]++a) []
structure InZ where
 z:dR
 m:aP
structure InZ.Ok(y:InZ):Prop where
 inv:∃c,c<=29000/\fm c y.z.R y.z.H
 ba:y.z.R.ba<4
 bs:Bs y.m.body
 share:y.m.kind=4->y.m.aK∈y.z.R.aE/\(fr.ro y.m.body).2=0
def tQ(y:InZ)(q:eI):dR:=if y.m.kind=4 then⟨eD y.z.R y.m.aK (fr.ro y.m.body).1,y.z.H⟩else⟨fy y.z.R (Hbn.cF y.z.H y.m q).2.2,(Hbn.cF y.z.H y.m q).1⟩
def nu(y:InZ)(q:eI):List (Int×aP):=if y.m.kind=4 then []else dj (Hbn.cF y.z.H y.m q).2.1
section
variable (gl:dF)[W3]
theorem aoF(R:Rt)(H:a8)(m:aP)(f:R.aE.length<1000)(e:R.ba<4){n r:aA}{x:Nat->aA}(h:aR au ((aq jf).drop 4) (GH ((wF gl).cV 8 R.p) jf.ntmps (yo R m 14 [(30,aD ((m.1==(4:Int))&&decide (m.aK∈R.aE)))] []) (bX H)) n r x):
  aR au (aq jf) (GH (wF gl) jf.ntmps (lK jf [aT R.p,.is (.agg (df m))] [] 0) (ak.sep (bV R) (bX H))) n r x:=by
 refine e6 oy 1 (inA R.p m []) ?_;refine eX 1 (bS (ar (aq jf) 1)) ?_;refine eG oy 1 (inA R.p m [(9,aT R.p)]) ?_;refine ju (E:=wF gl) (cT (λ_=>bX H) (Cv gl)) R trivial jV (λ_ _=>?_);refine U4 (E:=wF gl) 10 ab ?_;refine iM (E:=wF gl) (G':=ak.obj (hI R (b7++[vI R.bb])) R.p (bX H)) (by unfold bV;exact(bZ _ _ _).symm) ?_;refine so (E:=wF gl) [0] ab (yo R m 14 [(10,ag .F)] []) (aB ab ab trivial) ?_;refine iS oy 9 (λd=>bL .bool 17 d) (λb=>yo R m 14 [(17,aD b)] []) (λb=>b=decide (R.ba>=4)) ?_ (λb a=>eK ?_);intros;refine @av ((yo R m 14 [(17,aD (decide (R.ba>=4)))] []).aj (decide (R.ba>=4)=decide (R.ba>=4))) _ ?_ ?_;kernel_rfl;exact aw rfl;have a:b=decide (R.ba>=4):=a;subst a;rw[cm (by omega:¬R.ba>=4)];refine fF (ar (aq jf) 2) ?_;refine jY oy ao 1 30 (λd=>bL .bool 30 d) (λb=>yo R m 14 [(30,aD b)] []) (λb=>b=((m.1==(4:Int))&&decide (m.aK∈R.aE))) (λ_=>False) (λ_ _=>False) ?_ (λb a=>?_) (λ_ _ _ h _=>h.elim) (λ_ _ _ _ h _=>h.elim);intros;refine @av (((m.fst==4)=true->law22.lb (R.aE,m.snd.snd.fst,())/\(yo R m 14 [(30,aD (decide (m.snd.snd.fst∈R.aE)))] []).aj (decide (m.snd.snd.fst∈R.aE)=(m.fst==4&&decide (m.aK∈R.aE))))/\((m.fst==4)=false->(yo R m 14 [(30,aD false)] []).aj (false=(m.fst==4&&decide (m.aK∈R.aE))))) _ ?_ ?_;kernel_rfl;exact⟨λc=>⟨by show R.aE.length<_;omega,aw (by rw[c];rfl)⟩,λc=>aw (by rw[c];rfl)⟩;have a:b=((m.1==(4:Int))&&decide (m.aK∈R.aE)):=a;subst a;exact h
theorem aoH(R:Rt)(H:a8)(m:aP)(a:Bs m.body)(g:((m.1==(4:Int))&&decide (m.aK∈R.aE))=true)(e:(fr.ro m.body).2=0)(c:R.aK.length<1000000)(d:R.br.length<1000000){Q:SV->ak->Prop}(f:Q gv (ak.sep (bV (eD R m.aK (fr.ro m.body).1)) (bX H))):
  aR au ((aq jf).drop 4) (GH ((wF gl).cV 8 R.p) jf.ntmps (yo R m 14 [(30,aD ((m.1==(4:Int))&&decide (m.aK∈R.aE)))] []) (bX H)) (du (wF gl) jf Q) (du (wF gl) jf Q) (λ_ _ _=>False):=by
 rw[g];refine jX (ar (aq jf) 4) ?_;refine gcd oy 2 (λh=>bL .bool 38 h) (λb=>yo R m 63 [(5,al 62 0),(38,aD b)] [(62,[.row .fr 1 [(fr.ro m.body).1]])]) (λb=>b=((fr.ro m.body).2==(0:Int))) ?_ (λb a=>?_);intros;refine @av (Bs m.snd.snd.snd.snd.snd.snd/\(yo R m 63 [(5,SV.is (TV.one (ax.ptr 62 0))),(38,aD ((fr.ro m.snd.snd.snd.snd.snd.snd).snd==0))] [(62,[ax.row Kd.fr 1 [(fr.ro m.body).fst]])]).aj (((fr.ro m.snd.snd.snd.snd.snd.snd).snd==0)=((fr.ro m.body).snd==0))) _ ?_ ?_;kernel_rfl;exact⟨a,aw rfl⟩;have a:b=((fr.ro m.body).2==(0:Int)):=a;subst a;rw[e];refine jX (ar (fC (ar (aq jf) 4)) 2) ?_;refine gQ (E:=wF gl) (bl:=hI R (b7++[vI R.bb])) [0,62] [8,9,10,11,12,13] 9 (inK R.p m (fr.ro m.body).1 []) ?_;refine a7 (G':=ak.sep (bV R) (bX H)) (by unfold bV;exact bZ _ _ _) ?_;refine eX 6 (bS (ar (fC (ar (fC (ar (aq jf) 4)) 2)) 0)) ?_;refine eG oy 4 (inK R.p m (fr.ro m.body).1 [(39,aT R.p),(41,sJ m.aK),(42,XG (fr.ro m.body).1)]) ?_;refine ju (E:=wF gl) (cT (λ_=>bX H) (Ta gl)) (R,m.aK,(fr.ro m.body).1) ⟨c,d⟩ G8 (λ_ _=>?_);refine eK ?_;refine jy oy ao gv ?_ f;intros;refine @av (SV.is (TV.one (ax.v (Value.slice none 0 0)))=gv) _ ?_ ?_;kernel_rfl;rfl
theorem aoG(R:Rt)(H:a8)(m:aP)(c:Bs m.body)(f:((m.1==(4:Int))&&decide (m.aK∈R.aE))=false)(e:R.bf=H.p)(b:ea H)(a:Big R){Q:SV->ak->Prop}(d:∀q,Q (ag (.ro cl (dj (Hbn.cF H m q).2.1))) (ak.sep (bV (fy R (Hbn.cF H m q).2.2)) (bX (Hbn.cF H m q).1))):
  aR au ((aq jf).drop 4) (GH ((wF gl).cV 8 R.p) jf.ntmps (yo R m 14 [(30,aD ((m.1==(4:Int))&&decide (m.aK∈R.aE)))] []) (bX H)) (du (wF gl) jf Q) (du (wF gl) jf Q) (λ_ _ _=>False):=by
 rw[f];refine fF (ar (aq jf) 4) ?_;refine ko ao (rid:=8) (ops:=bS (ar (aq jf) 5)) ab ?_;refine fY oy 5 (λ_=>()) (λ_=>yo R m 14 [(48,aT R.bf),(49,.is (.agg (df m)))] []) (λ_=>True) ae ab ?_ (λ_ _=>?_);intros;refine @av ((yo R m 14 [(48,aT R.bf),(49,SV.is (TV.agg (df m)))] []).aj True) _ ?_ ?_;kernel_rfl;exact aw trivial;rw[e];refine qW (jZ (E:=(wF gl).cV 8 R.p) (aly gl) (H,m) ⟨b,c⟩ ab WX ab ab (λ_=>rfl)) ab ab (λq _=>?_);refine jw oy (λ_=>()) (λ_=>yo R m 14 [(7,ag (.ro ig (Hbn.cF H m q).2.1)),(8,ag (.ro eU (Hbn.cF H m q).2.2))] []) (λ_=>True) (Odt ab) ?_ (λ_ _=>?_);intros;refine @av ((yo R m 14 [(7,SV.is (TV.one (ax.ro ig (Hbn.cF H m q).snd.fst))),(8,SV.is (TV.one (ax.ro eU (Hbn.cF H m q).snd.snd)))] []).aj True) _ ?_ ?_;kernel_rfl;exact aw trivial;refine gQ (E:=wF gl) (bl:=hI R (b7++[vI R.bb])) [] [8,9,10,11,12,13] 9 (inE R.p (Hbn.cF H m q).2.1 [(8,ag (.ro eU (Hbn.cF H m q).2.2))]) ?_;refine a7 (G':=ak.sep (bV R) (bX (Hbn.cF H m q).1)) (by unfold bV;exact bZ _ _ _) ?_;have t1:=F8 b (m:=m) c q;have t2:=pa H m q;refine eX 9 (bS (ar (aq jf) 6)) ?_;refine eG oy 2 (inE R.p (Hbn.cF H m q).2.1 [(53,aT R.p),(54,ag (.ro eU (Hbn.cF H m q).2.2))]) ?_;refine ju (E:=wF gl) (cT (λ_=>bX (Hbn.cF H m q).1) (Bo gl)) (R,(Hbn.cF H m q).2.2) ⟨a.aE,a.bJ,a.aG,a.aU,a.aM,by have:=t2.2.1;show(Hbn.cF H m q).2.2.length<_;omega,t1⟩ pG (λ_ _=>?_);refine eK ?_;refine fh (inE R.p (Hbn.cF H m q).2.1 []) ?_;refine iU oy ao _ ?_ (d q);intros;refine @av ((Hbn.cF H m q).snd.fst.length<1048576/\SV.is (TV.one (ax.ro cl (dj (Hbn.cF H m q).snd.fst)))=SV.is (TV.one (ax.ro cl (dj (Hbn.cF H m q).snd.fst)))) _ ?_ ?_;kernel_rfl;exact⟨by have:=t2.2.2;omega,rfl⟩
end
theorem alz(gl:dF):fk au gl 16 (λy:InZ=>[aT y.z.R.p,.is (.agg (df y.m))]) InZ.Ok (λy=>y.z.eF) (λy (q:eI)=>ag (.ro cl (nu y q))) (λy q=>(tQ y q).eF) (λ_ _=>True):=by refine dD (sp:=abb) IC ab (λz=>by show 2<=jf.ntmps;exact Odt ab) (λz _=>rfl) ?_;rintro⟨⟨R,H⟩,m⟩ ⟨⟨c,i,a⟩,e,f,d⟩ _;have a:fm c R H:=a;have d:m.kind=4->m.aK∈R.aE/\(fr.ro m.body).2=0:=d;refine aoF gl R H m a.dl e ?_;by_cases b:m.kind=4;obtain⟨g,h⟩:=d b;refine aoH gl R H m f (by rw[show m.1=4 from b,b6 g];rfl) h (by have:=a.frl;omega) (by have:=a.frl;have:=a.aK;omega) ⟨(0,0,0),trivial,?_,?_⟩;show dE _ (ag (.ro cl (nu ⟨⟨R,H⟩,m⟩ (0,0,0))));unfold nu;rw[ah b];exact BB cl;show _=(tQ ⟨⟨R,H⟩,m⟩ (0,0,0)).eF;unfold tQ;rw[ah b];refine aoG gl R H m f (by rw[beq_eq_false_iff_ne.2 (show m.1≠4 from b)];rfl) a.hp a.bf (a.Ik aa) (λq=>⟨q,trivial,?_,?_⟩);show dE _ (ag (.ro cl (nu ⟨⟨R,H⟩,m⟩ q)));unfold nu;rw[ai b];exact bR _;show _=(tQ ⟨⟨R,H⟩,m⟩ q).eF;unfold tQ;rw[ai b]
end rite
end Go.Proofs.YtofofalgjibokaaGreatDoor
namespace Go.Eng.Ob
theorem rz{E:cJ}{N:Nat}{n r:aA}{x:Nat->aA}(t:aS E.P E.sp)(O:E.P.follows .mixedOrders=true){l:cw}{c:Code}{α:Type}(I:α->St)(G:α->ak)(J T:α->Prop)(u:α->Nat)(p:α)(L:l.head?=some c)(K:ef c=true)(C:J p)(D:∀g,J g->∀(w:World)(ids:List (Nat×Nat))(M:Mem)(num:Nat×Nat->Nat),VC ⟨E.P,E.sp,⟨w,ids,E.gl,M,num,(I g).next⟩⟩ ((aO c).take 2) (I g) (λb=>b.le (cS E) (I g) (T g)) (λ_=>False) (λi b=>match beq i (cH c)with|true=>b.le (cS E) (I g) (¬T g)|false=>False))(F:∀g,J g->T g->aR E.P ((aO c).drop 2) (GH E N (I g) (G g)) (λa w=>∃j,(J j/\u j<u g)/\GH E N (I j) (G j) a w) r (λ_ _ _=>False))(H:∀g,J g->¬T g->aR E.P l.tail (GH E N (I g) (G g)) n r x):aR E.P l (GH E N (I p) (G p)) n r x:=by
 refine ym (α:=α) (β:=α) (λg a w=>J g/\GH E N (I g) (G g) a w) u (λg a w=>(J g/\¬T g)/\GH E N (I g) (G g) a w) L K (λa w h=>⟨p,C,h⟩) (λg=>?_) (λg=>?_)
 ·rw[<-ff 2 (aO c)];refine m8 (λa w=>(J g/\T g)/\GH E N (I g) (G g) a w) ?_ ?_
  ·intro a w Q d m o q;obtain⟨k,s⟩:=d;refine lY (E:=E) (N:=N) (G:=G g) t O _ (λ_=>False) (λi b=>match beq i (cH c)with|true=>b.le (cS E) (I g) (¬T g)|false=>False) (D g k) (λb a w h d=>?_) (λ_ _ _ h _=>h.elim) (λi b a w h d=>?_) a w Q s m o q;obtain⟨e,f⟩:=d.le h;exact⟨⟨k,e⟩,f⟩
   ·revert h;cases beq i (cH c)with
    |true=>intro h;obtain⟨e,f⟩:=d.le h;exact⟨g,⟨k,e⟩,f⟩
    |false=>intro h;exact h.elim
  intro a w Q d m o q;obtain⟨⟨k,R⟩,s⟩:=d;exact F g k R a w Q s (λy z ⟨j,⟨U,V⟩,W⟩=>m y z ⟨j,⟨U,W⟩,V⟩) o (λi y z A=>A.elim)
 intro a w Q d m o q;exact H g d.1.1 d.1.2 a w Q d.2 m o q
def oH:List ak->ak
 |[]=>ak.none
 |g::l=>ak.sep g (oH l)
theorem Lq:∀(l:List ak)(i:Nat)(h:i<l.length),oH l=ak.sep l[i] (oH (l.eraseIdx i))
 |_::_,0,_=>rfl
 |g::l,i+1,h=>by
  have a:i<l.length:=by simpa using h
  show ak.sep g (oH l)=ak.sep (l[i]'a) (ak.sep g (oH (l.eraseIdx i)));rw[Lq l i a];exact(lA _ _ _).symm.trans ((congrArg (λq=>ak.sep q _) (gf _ _)).trans (lA _ _ _))
theorem acd(l:List ak)(i:Nat)(h:i<l.length)(g:ak):oH (l.set i g)=ak.sep g (oH (l.eraseIdx i)):=by
 have a:i<(l.set i g).length:=by rw[jT];exact h
 rw[Lq _ i a];congr 1;exact DI a;congr 1;rw[List.eraseIdx_set_eq]
theorem MT:∀(l:List ak)(g:ak),oH (l++[g])=ak.sep g (oH l)
 |[],_=>rfl
 |h::l,g=>by show ak.sep h (oH (l++[g]))=ak.sep g (ak.sep h (oH l));rw[MT l g];exact(lA _ _ _).symm.trans ((congrArg (λq=>ak.sep q _) (gf _ _)).trans (lA _ _ _))
end Go.Eng.Ob
/- RiteAnew: what it begins with. Printed by tools/gen_lra.py. -/
namespace Go.Proofs.YtofofalgjibokaaGreatDoor
namespace law23
open bf deal rite Go.Eng.Ob
theorem G7:aF au 4 Tryz.f4:=ek
abbrev kt:Func:=Tryz.f4
abbrev OD:=afC.Bd
def agZ:=aZ OD
abbrev abX:=bw [agZ,akx,law22.ach,poly.ack,ref16.acn,law22.akq,g1.Nw,g1.FY,law22.Ze]
theorem bU:aS au abX:=aV (a2 OD) (aV (a2 Sw) (aV (a2 law22.L9) (aV (a2 poly.Nl) (aV (a2 ref16.L6) (aV (a2 law22.SB) (aV (a2 g1.Es) (aV (a2 g1.Bc) (aV (a2 law22.FA) bY))))))))
abbrev iY[W3]:cJ:=mO au abX sha.fE
abbrev dv[W3]:=GH iY kt.ntmps
structure An where
 n:Int
 m:Int
 was:Int
 bG:Int
 b:LI
def RS(g:Int×Int×Int×Int)(b:LI):An:=⟨g.1,g.2.1,g.2.2.1,g.2.2.2,b⟩
structure An.Ok(z:An):Prop where
 n1:1<=z.n
 n4:z.n<=4
 m1:1<=z.m
 m3:z.m<=3
 w1:1<=z.was
 wn:z.was<=z.n
 k1:1<=z.bG
 km:z.bG<=z.m
 bs:Bs z.b
 bl:z.b.length<=100
def gV(k:Nat):LI:=(range k).map λt:Nat=>3+(t:Int)
theorem BR(k:Nat):(gV k).length=k:=by simp[gV]
theorem acU(k:Nat):gV (k+1)=gV k++[3+(k:Int)]:=by rw[gV,qK,cE];rfl
theorem ama{x:Nat}(h:x<1000):i64.wrap (3+(x:Int))=3+(x:Int):=bC aa aa
def An.bJ(z:An):cO:=p7 z.b 60 z.was.toNat
def An.fH(z:An)(i:Int):cO:=(p7 z.b i z.bG.toNat).set 0 (poly.pat z.bJ i)
def nC(next:Nat)(b:g9)(a:e5):St:=ay kt.ntmps next b a
def Qg(z:An):g9:=[(0,sJ z.n),(1,sJ z.m),(2,sJ z.was),(3,sJ z.bG),(4,ag (.ro (.int .u8) z.b))]
def Js(z:An)(k:Int)(n:Nat)(l:LI):St:=nC 38 (Qg z++[(11,ag (.ro .fr z.bJ)),(12,ag (.sl 37 0 0 n 1)),(13,sJ k)]) [(37,[.ints .i64 n l])]
def Qu(z:An):cb:=[.ro iL (dg z.n.toNat),.ro iL (gV z.m.toNat),vI z.bG,.ro bM (poly.cr z.bJ)]
def jK(z:An)(i:Int)(e:List (Option Nat))(next:Nat)(d:g9)(a:e5):St:=nC next ([(0,sJ z.n),(1,sJ z.m),(3,sJ z.bG),(4,ag (.ro (.int .u8) z.b)),(11,ag (.ro .fr z.bJ)),(14,al 64 0),(15,al 80 0),(16,sJ i)]++d) ((64,Qu z)::(80,[.row .pq 10 e])::a)
theorem B4(n:Int):0<=aN .and .i64 n 1023/\aN .and .i64 n 1023<=1023:=law22.aeP n
theorem NB{x y:Int}(h:0<=x)(a:1<=y):0<=x.tmod y/\x.tmod y<y:=⟨Int.tmod_nonneg _ h,Int.tmod_lt_of_pos x aa⟩
theorem NF{x:Int}(h:0<=x)(a:x<1000):i64.wrap (1+x)=1+x:=bC aa aa
theorem YS{c:aI}:∀(n:Nat)(b:bn),aH c (replicate n (.v (.pointer none))) b->eQ (Rd c.M .pq) (replicate n none) b
 |0,_,h=>h
 |n+1,_,⟨g,a,e,d,f⟩=>⟨g,a,e,d.1,YS n a f⟩
theorem aht(b:aI)(a:bn)(h:aH b (replicate 10 (.v (.pointer none))) a):aH b [.row .pq 10 (replicate 10 none)] a:=ct ⟨pk,YS 10 a h⟩
section
variable [W3]
theorem apb(n m e a:Int)(b:LI)(C:Bs b)(H:b.length<=100){l r:aA}{x:Nat->aA}(h:∀z:An,z.Ok->aR au ((aq kt).drop 16) (dv (jK z 1 (replicate 10 none) 81 [] []) ak.none) l r x):
  aR au ((aq kt).drop 5) (dv (nC 8 [(0,sJ n),(1,sJ m),(2,sJ e),(3,sJ a),(4,ag (.ro (.int .u8) b))] []) ak.none) l r x:=by
 refine gcd bU 4 (λf=>(bL iL 0 f,bL iL 1 f,bL iL 2 f,bL iL 3 f)) (λg:Int×Int×Int×Int=>nC 8 (Qg (RS g b)) []) (λg=>An.Ok (RS g b)) ?_ (λg d=>?_);intros;refine @av (((4:Int)=0->False)/\((3:Int)=0->False)/\(i64.wrap (1+(aN BinOp.and i64 n 1023).tmod 4)=0->False)/\(i64.wrap (1+(aN BinOp.and i64 m 1023).tmod 3)=0->False)/\(nC 8 (Qg (RS (i64.wrap (1+(aN BinOp.and i64 n 1023).tmod 4),i64.wrap (1+(aN BinOp.and i64 m 1023).tmod 3),i64.wrap (1+(aN BinOp.and i64 e 1023).tmod (i64.wrap (1+(aN BinOp.and i64 n 1023).tmod 4))),i64.wrap (1+(aN BinOp.and i64 a 1023).tmod (i64.wrap (1+(aN BinOp.and i64 m 1023).tmod 3)))) b)) []).aj (RS (i64.wrap (1+(aN BinOp.and i64 n 1023).tmod 4),i64.wrap (1+(aN BinOp.and i64 m 1023).tmod 3),i64.wrap (1+(aN BinOp.and i64 e 1023).tmod (i64.wrap (1+(aN BinOp.and i64 n 1023).tmod 4))),i64.wrap (1+(aN BinOp.and i64 a 1023).tmod (i64.wrap (1+(aN BinOp.and i64 m 1023).tmod 3)))) b).Ok) _ ?_ ?_;kernel_rfl;have o:=NB (B4 n).1 (show(1:Int)<=4 by decide);have p:=NB (B4 m).1 (show(1:Int)<=3 by decide);have u:=NF o.1 aa;have y:=NF p.1 aa;have s:=NB (B4 e).1 (show(1:Int)<=1+(aN .and .i64 n 1023).tmod 4 by omega);have t:=NB (B4 a).1 (show(1:Int)<=1+(aN .and .i64 m 1023).tmod 3 by omega);simp only[u,y];rw[NF s.1 aa,NF t.1 aa];generalize (aN .and .i64 n 1023).tmod 4=A at *;generalize (aN .and .i64 m 1023).tmod 3=B at *;generalize (aN .and .i64 e 1023).tmod (1+A)=D at *;generalize (aN .and .i64 a 1023).tmod (1+B)=F at *;exact⟨ae,ae,aa,aa,aw ⟨by show(1:Int)<=1+A;omega,by show 1+A<=4;omega,by show(1:Int)<=1+B;omega,by show 1+B<=3;omega,by show(1:Int)<=1+D;omega,by show 1+D<=1+A;omega,by show(1:Int)<=1+F;omega,by show 1+F<=1+B;omega,C,H⟩⟩;have d:An.Ok (RS g b):=d;generalize RS g b=z at d;have L:=d.w1;have N:=d.wn;have K:=d.n4;have j:=d.m1;have I:=d.m3;refine gcd bU 1 (λ_=>()) (λ_=>nC 37 (Qg z++[(11,ag (.sl 24 0 0 z.bJ.length 4))]) [(24,[.row .fr z.bJ.length z.bJ])]) (λ_=>True) ?_ (λ_ _=>?_);intros;refine @av (HH (z.b,60,z.was,())/\(nC 37 (Qg z++[(11,SV.is (TV.one (ax.sl 24 0 0 z.bJ.length 4)))]) [(24,[ax.row Kd.fr z.bJ.length z.bJ])]).aj True) _ ?_ ?_;kernel_rfl;exact⟨⟨⟨d.bs,by have:=d.bl;show z.b.length<=1000;omega⟩,by show 0<=z.was;omega,by show z.was<=1000;omega⟩,aw trivial⟩;refine Mg 11 24 z.bJ.length 4 .fr z.bJ ?_;refine e6 bU 2 (nC 38 (Qg z++[(11,ag (.ro .fr z.bJ)),(12,ag (.sl 37 0 0 0 1)),(13,sJ 0)]) [(37,[.ints .i64 0 []])]) ?_;refine fh (Js z 0 0 []) ?_;refine xG bU ao (c:=ar (aq kt) 12) (λk=>Js z (k:Int) k (gV k)) (λ_=>ak.none) z.m.toNat ab ab (λk G w ids M num=>?_) (λk G=>?_) ?_;have j:=d.m1;refine @av ((decide ((k:Int)<z.m)=true->(Js z (k:Int) k (gV k)).aj (k<z.m.toNat))/\(decide ((k:Int)<z.m)=false->(Js z (k:Int) k (gV k)).aj (k=z.m.toNat))) _ ?_ ?_;kernel_rfl;exact⟨λh=>aw (by have:=cM h;omega),λh=>aw (by have:=cL h;omega)⟩;refine dC (E:=iY) (c:=ar (aO (ar (aq kt) 12)) 2) (dv (Js z (k:Int) (k+1) (gV (k+1))) ak.none) ab ab ?_ ?_;refine lP bU ao 1 [(37,70)] (λf=>dO iL 37 f) (λq=>Js z (k:Int) (k+1) q) (λq=>q=gV (k+1)) (λ_=>False) (λ_ _=>False) ?_ (λq i=>?_) (λ_ _ _ h _=>h.elim) (λ_ _ _ _ h _=>h.elim);intros;refine @av (0+1<=1/\k<=k/\(k+1)*8<=2^47/\k+1<=2^62/\(Js z (k:Int) (k+1) (take k (gV k)++take 1 [i64.wrap (3+(k:Int))])).aj (take k (gV k)++take 1 [i64.wrap (3+(k:Int))]=gV (k+1))) _ ?_ ?_;kernel_rfl;rw[cA (by rw[BR];omega)];exact⟨ae,aa,aa,aa,aw (by rw[acU,ama aa];rfl)⟩;have i:q=gV (k+1):=i;subst i;exact cv λ_ _ h=>h;refine gcd bU 1 (λf=>bL iL 13 f) (λq=>Js z q (k+1) (gV (k+1))) (λq=>q=((k+1:Nat):Int)) ?_ (λq i=>?_);intros;refine @av ((Js z (i64.wrap ((k:Int)+1)) (k+1) (gV (k+1))).aj (i64.wrap ((k:Int)+1)=(↑(k+1):Int))) _ ?_ ?_;kernel_rfl;exact aw (a5 aa);have i:q=((k+1:Nat):Int):=i;subst i;exact cv λ_ _ h=>h;refine sq 12 37 z.m.toNat 1 .i64 (gV z.m.toNat) ab ab (BR _) ?_;refine fh (nC 8 (Qg z++[(11,ag (.ro .fr z.bJ)),(12,ag (.ro iL (gV z.m.toNat)))]) []) ?_;refine gcd bU 1 (λ_=>()) (λ_=>nC 72 ([(0,sJ z.n),(1,sJ z.m),(3,sJ z.bG),(4,ag (.ro (.int .u8) z.b)),(11,ag (.ro .fr z.bJ)),(14,al 64 0)]) [(64,Qu z)]) (λ_=>True) ?_ (λ_ _=>?_);intros;refine @av ((0<=z.n/\z.n<=1000)/\poly.zZ (z.bJ,())/\(nC 72 [(0,sJ z.n),(1,sJ z.m),(3,sJ z.bG),(4,SV.is (TV.one (ax.ro (Kd.int u8) z.b))),(11,SV.is (TV.one (ax.ro Kd.fr z.bJ))),(14,SV.is (TV.one (ax.ptr 64 0)))] [(64,Qu z)]).aj True) _ ?_ ?_;kernel_rfl;exact⟨⟨by have:=d.n1;omega,aa⟩,by show z.bJ.length<_;unfold An.bJ;rw[p7];simp;omega,aw trivial⟩;refine e6 bU 2 (nC 81 ([(0,sJ z.n),(1,sJ z.m),(3,sJ z.bG),(4,ag (.ro (.int .u8) z.b)),(11,ag (.ro .fr z.bJ)),(14,al 64 0),(15,al 80 0),(16,sJ 1)]) [(64,Qu z),(80,replicate 10 (.v (.pointer none)))]) ?_;refine vd (E:=iY) 80 (.row .pq 0 []) (replicate 10 (.v (.pointer none))) [.row .pq 10 (replicate 10 none)] ab ae (λP O h=>aht P O h) ?_;refine fh (jK z 1 (replicate 10 none) 81 [] []) ?_;exact h z d
end
end law23
end Go.Proofs.YtofofalgjibokaaGreatDoor
/- RiteAnew: the rites are made. Printed by tools/gen_lrb.py. -/
namespace Go.Proofs.YtofofalgjibokaaGreatDoor
namespace law23
open bf deal rite Go.Eng.Ob
def An.mb(z:An)(i:Int):Bool:=decide (i<=z.n)||decide (i>=3)&&decide (i<3+z.m)
def An.pl(z:An)(i:Int):cO:=if i<=z.n then z.fH i else []
def An.iq(z:An)(i:Int):ld:=⟨i,dg z.n.toNat,gV z.m.toNat,z.bG,poly.cr z.bJ,z.pl i,0,5⟩
def bm(b:List cc):List (Option Nat):=(range 10).map λi:Nat=>(b.find? λt=>t.z.R.me==(i:Int)).map λt=>t.z.R.p
theorem Mu(b:LI)(i:Int)(n:Nat):(p7 b i n).length=n:=by simp[p7]
def ij(b:List cc):ak:=oH (b.map cc.eF)
abbrev xd:cw:=cg (ar (aO (ar (aq kt) 16)) 2)
theorem aj2:dE lu (ag (.fv .pq none)):=λa v h=>by have h:[v]=[Value.pointer none]/\_:=h;exact⟨h.1,rfl⟩
section
variable [W3]
theorem ape(z:An)(d:z.Ok)(i:Int)(p:1<=i)(q:i<=9)(a:List (Option Nat))(G:ak){j r:aA}{x:Nat->aA}(h:aR au (xd.drop 3) (dv (jK z i a 81 [(17,ag (.ro .fr (z.pl i)))] []) G) j r x):
  aR au (xd) (dv (jK z i a 81 [] []) G) j r x:=by
 have k:=d.k1;have l:=d.km;have m:=d.m3;refine e6 bU 1 (jK z i a 82 [(17,ag (.sl 81 0 0 0 4))] [(81,[.row .fr 0 []])]) ?_;refine Mg 17 81 0 4 .fr [] ?_;refine gcd bU 1 (λo=>bL .bool 85 o) (λb=>jK z i a 82 [(17,ag (.ro .fr [])),(85,aD b)] []) (λb=>b=decide (i<=z.n)) ?_ (λb g=>?_);intros;refine @av ((jK z i a 82 [(17,SV.is (TV.one (ax.ro Kd.fr []))),(85,aD (decide (i<=z.n)))] []).aj (decide (i<=z.n)=decide (i<=z.n))) _ ?_ ?_;kernel_rfl;exact aw rfl;cases b;have f:¬i<=z.n:=Odf g.symm;refine fF (ar xd 2) ?_;refine fh (jK z i a 81 [(17,ag (.ro .fr []))] []) ?_;have e:z.pl i=[]:=ai f;rw[e]at h;exact h;have f:i<=z.n:=Odt g.symm;refine jX (ar xd 2) ?_;refine gcd bU 2 (λ_=>()) (λ_=>jK z i a 107 [(17,ag (.sl 106 0 0 (p7 z.b i z.bG.toNat).length 4))] [(106,[.row .fr (p7 z.b i z.bG.toNat).length (z.fH i)])]) (λ_=>True) ?_ (λ_ _=>?_);intros;refine @av (HH (z.b,i,z.bG,())/\poly.Ns (z.bJ,i,())/\((0:Int)<=0/\0<(↑(p7 z.b i z.bG.toNat).length:Int))/\0<(p7 z.b i z.bG.toNat).length/\(jK z i a 107 [(17,SV.is (TV.one (ax.sl 106 0 0 (p7 z.b i z.bG.toNat).length 4)))] [(106,[ax.row Kd.fr (p7 z.b i z.bG.toNat).length (z.fH i)])]).aj True) _ ?_ ?_;kernel_rfl;exact⟨⟨⟨d.bs,by have:=d.bl;show z.b.length<=1000;omega⟩,by show 0<=z.bG;omega,by show z.bG<=1000;omega⟩,⟨by show z.bJ.length<_;unfold An.bJ;rw[Mu];have:=d.wn;have:=d.n4;omega,⟨aa,aa⟩⟩,⟨ae,by rw[Mu];omega⟩,by rw[Mu];omega,aw trivial⟩;refine Be 17 106 (p7 z.b i z.bG.toNat).length 4 .fr (z.fH i) ab ab (by rw[An.fH,jT]) ?_;refine fh (jK z i a 81 [(17,ag (.ro .fr (z.fH i)))] []) ?_;have e:z.pl i=z.fH i:=ah f;rw[e]at h;exact h
theorem apd(z:An)(l:z.Ok)(i:Int)(j:1<=i)(k:i<=9)(a:List (Option Nat))(G:ak)(b:(z.iq i).Pre){d r:aA}{x:Nat->aA}(f:¬((z.iq i).bad=false/\(z.iq i).nQ=false/\sr (z.iq i).me (z.iq i).mem)->aR au (xd.drop 4) (dv (jK z i (a.set i.toNat none) 81 [] []) G) d r x)(g:∀q:eI,(z.iq i).bad=false/\(z.iq i).nQ=false/\sr (z.iq i).me (z.iq i).mem->aR au (xd.drop 4) (dv (jK z i (a.set i.toNat (some q.1)) 81 [] []) (ak.sep (jG (z.iq i) q).eF G)) d r x):
  aR au (xd.drop 3) (dv (jK z i a 81 [(17,ag (.ro .fr (z.pl i)))] []) G) d r x:=by
 refine eX 24 (bS (ar xd 3)) ?_;refine eG bU 4 (jK z i a 81 [(95,sJ i),(96,sJ i),(97,.is (.agg (Qu z))),(98,ag (.ro .fr (z.pl i)))] []) ?_;refine iM (E:=iY) (G':=ak.sep ak.none G) (by rw[gf,kT]) ?_;refine hZ (jZ (E:=iY) (cT (λ_=>G) (Yg sha.fE)) (z.iq i) b ab Kx ab ab (λy=>by cases y<;>rfl)) (λy e=>?_);cases y with
 |none=>refine jx (k8 λh=>iy 99 (ag (.fv .pq none)) (by exact aj2) h) ?_;refine iS bU 7 (λ_=>()) (λ_=>jK z i (a.set i.toNat none) 81 [] []) (λ_=>True) ?_ (λ_ _=>eK ?_);intros;refine @av ((0<=i/\i<(↑(10:Nat):Int))/\i.toNat<10/\(jK z i (a.set i.toNat none) 81 [] []).aj True) _ ?_ ?_;kernel_rfl;exact⟨⟨aa,by show i<10;omega⟩,aa,aw trivial⟩;exact a7 (E:=iY) (by rw[gf,kT]) (f e)
 |some q=>refine jx (k8 λh=>iy 99 (ag (.fv .pq (some q.1))) (by exact YR q.1) h) ?_;refine iS bU 7 (λ_=>()) (λ_=>jK z i (a.set i.toNat (some q.1)) 81 [] []) (λ_=>True) ?_ (λ_ _=>eK ?_);intros;refine @av ((0<=i/\i<(↑(10:Nat):Int))/\i.toNat<10/\(jK z i (a.set i.toNat (some q.fst)) 81 [] []).aj True) _ ?_ ?_;kernel_rfl;exact⟨⟨aa,by show i<10;omega⟩,aa,aw trivial⟩;exact g q e
theorem apc(z:An)(g:z.Ok)(i:Int)(d:1<=i)(q:i<=9)(a:List (Option Nat))(o:isSome (a.getD i.toNat none)=z.mb i)(G:ak){j r:aA}{x:Nat->aA}(h:aR au (xd.drop 6) (dv (jK z i a 81 [] []) G) j r x):
  aR au (xd.drop 4) (dv (jK z i a 81 [] []) G) j r x:=by
 refine jY bU ao 1 118 (λp=>bL .bool 118 p) (λb=>jK z i a 81 [(118,aD b)] []) (λb=>b=((isSome (a.getD i.toNat none)) != z.mb i)) (λ_=>False) (λ_ _=>False) ?_ (λb f=>?_) (λ_ _ _ h _=>h.elim) (λ_ _ _ _ h _=>h.elim);intros;refine @av ((0<=i/\i<10)/\i.toNat<10/\(decide (i<=z.n)=true->(jK z i a 81 [(118,aD (!(isSome (a.getD i.toNat none)==true)))] []).aj ((!(isSome (a.getD i.toNat none)==true))=((isSome (a.getD i.toNat none)) != z.mb i)))/\(decide (i<=z.n)=false->(decide (i>=3)=true->(jK z i a 81 [(118,aD (!(isSome (a.getD i.toNat none)==decide (i<IntKind.i64.wrap (3+z.m)))))] []).aj ((!(isSome (a.getD i.toNat none)==decide (i<IntKind.i64.wrap (3+z.m))))=((isSome (a.getD i.toNat none)) != z.mb i)))/\(decide (i>=3)=false->(jK z i a 81 [(118,aD (!(isSome (a.getD i.toNat none)==false)))] []).aj ((!(isSome (a.getD i.toNat none)==false))=((isSome (a.getD i.toNat none)) != z.mb i))))) _ ?_ ?_;kernel_rfl;have k:=g.m1;have l:=g.m3;rw[show IntKind.i64.wrap (3+z.m)=3+z.m from bC aa aa];exact⟨⟨aa,by show i<10;omega⟩,aa,λd=>aw (by unfold An.mb;rw[d];rfl),λd=>⟨λe=>aw (by unfold An.mb;rw[d,e];rfl),λe=>aw (by unfold An.mb;rw[d,e];rfl)⟩⟩;have f:b=((isSome (a.getD i.toNat none)) != z.mb i):=f;subst f;rw[o,bne_self_eq_false];refine fF (ar xd 5) ?_;refine fh (jK z i a 81 [] []) ?_;exact h
end
def Made(z:An)(k:Nat)(b:List cc):Prop:=∃a:Int->eI,b=((dg k).filter z.mb).map λi=>jG (z.iq i) (a i)
theorem ZG{k:Nat}{x:Int}(h:x∈dg k):1<=x/\x<=k:=by obtain⟨i,a,rfl⟩:=mem_map.1 h;have:=mem_range.1 a;omega
theorem af2{z:An}{k:Nat}{a:List cc}(h:Made z k a):∀t∈a,t.z.R.me<=k:=by obtain⟨e,rfl⟩:=h;intro t d;obtain⟨i,b,rfl⟩:=mem_map.1 d;exact(ZG (List.mem_filter.1 b).1).2
theorem af3{z:An}{k:Nat}{a:List cc}(h:Made z k a)(b:z.mb ((k:Int)+1)=false):Made z (k+1) a:=by obtain⟨d,rfl⟩:=h;refine⟨d,?_⟩;rw[C1,nN,oU,b];simp
theorem abp{z:An}{k:Nat}{b:List cc}(h:Made z k b)(e:z.mb ((k:Int)+1)=true)(q:eI):Made z (k+1) (b++[jG (z.iq ((k:Int)+1)) q]):=by obtain⟨a,rfl⟩:=h;refine⟨λi=>if i=(k:Int)+1 then q else a i,?_⟩;rw[C1,nN,oU,e,cE];congr 1;refine qE λi d=>?_;have:=(ZG (List.mem_filter.1 d).1).2;show _=rite.jG _ (if i=(k:Int)+1 then q else a i);rw[ai aa];simp
theorem Bw(a:List cc)(j:Nat)(b:j<10):(bm a)[j]?=some ((a.find? λt=>t.z.R.me==(j:Int)).map λt=>t.z.R.p):=by rw[bm,dM,List.getElem?_range b];rfl
theorem wQ(a:List cc):(bm a).length=10:=by simp[bm]
theorem KC{a:List cc}{k:Nat}(h:∀t∈a,t.z.R.me<=k):a.find? (λt=>t.z.R.me==((k+1:Nat):Int))=none:=List.find?_eq_none.2 λt b=>by have:=h t b;simp only[qM];omega
theorem alK{a:List cc}{k:Nat}(h:∀t∈a,t.z.R.me<=k)(b:k<9):(bm a).set (k+1) none=bm a:=by refine qS λj=>?_;rw[pn];split;rename_i e;subst e;rw[Bw _ _ aa,KC h,ah (by rw[wQ];omega)];rfl;rfl
theorem YI{a:List cc}{k:Nat}(h:∀t∈a,t.z.R.me<=k)(f:k<9)(u:cc)(d:u.z.R.me=(k:Int)+1):(bm a).set (k+1) (some u.z.R.p)=bm (a++[u]):=by
 refine qS λj=>?_;rw[pn];by_cases b:j<10
 ·rw[Bw (a++[u]) _ b,List.find?_append];split
  ·rename_i e;subst e;rw[KC h,ah (by rw[wQ];omega)];have e:(u.z.R.me==((k+1:Nat):Int))=true:=by rw[d];simp
   rw[List.find?_cons,e];rfl
  ·rw[Bw a _ b];have e:(u.z.R.me==(j:Int))=false:=by rw[d,qP];omega
   rw[List.find?_cons,e];cases a.find? (λt=>t.z.R.me==(j:Int))<;>rfl
 rw[ai aa,fQ (by rw[wQ];omega),fQ (by rw[wQ];omega)]
section
variable [W3]
theorem agw(z:An)(F:z.Ok)(t:∀i,1<=i->i<=9->(z.iq i).Pre)(f:∀i,1<=i->i<=9->((z.iq i).bad=false/\(z.iq i).nQ=false/\sr (z.iq i).me (z.iq i).mem↔z.mb i=true)){H r:aA}{x:Nat->aA}(h:∀d,Made z 9 d->aR au ((aq kt).drop 17) (dv (jK z 10 (bm d) 81 [] []) (ij d)) H r x):
  aR au ((aq kt).drop 16) (dv (jK z 1 (replicate 10 none) 81 [] []) ak.none) H r x:=by
 refine rz (E:=iY) bU ao (c:=ar (aq kt) 16) (λg:Nat×List cc=>jK z ((g.1:Int)+1) (bm g.2) 81 [] []) (λg=>ij g.2) (λg=>g.1<=9/\Made z g.1 g.2) (λg=>g.1<9) (λg=>9-g.1) (0,[]) ab ab ⟨aY _,λ_=>(0,0,0),rfl⟩ (λg o w ids M num=>?_) (λg o C=>?_) (λg o C=>?_);obtain⟨k,d⟩:=g;refine @av ((decide ((k:Int)+(1:Int)<=9)=true->(jK z ((↑(k,d).fst:Int)+1) (bm (k,d).snd) 81 [] []).aj (k<9))/\(decide ((k:Int)+(1:Int)<=9)=false->(jK z ((↑(k,d).fst:Int)+1) (bm (k,d).snd) 81 [] []).aj ¬k<9)) _ ?_ ?_;kernel_rfl;exact⟨λh=>aw (by have:=Odt h;omega),λh=>aw (by have:=Odf h;omega)⟩
 ·obtain⟨k,d⟩:=g;have s:k<9:=C;have y:Made z k d:=o.2;have j:=af2 y;refine dC (E:=iY) (c:=ar (aO (ar (aq kt) 16)) 2) (λa w=>∃b,Made z (k+1) b/\dv (jK z ((k:Int)+1) (bm b) 81 [] []) (ij b) a w) ab ab ?_ ?_
  ·have A:((k:Int)+1).toNat=k+1:=by omega
   have fin:∀b,Made z (k+1) b->(isSome ((bm b).getD (k+1) none)=z.mb ((k:Int)+1))->∀{r:aA}{x:Nat->aA},aR au (xd.drop 4) (dv (jK z ((k:Int)+1) (bm b) 81 [] []) (ij b)) (λa w=>∃b,Made z (k+1) b/\dv (jK z ((k:Int)+1) (bm b) 81 [] []) (ij b) a w) r x:=λb D K=>by intro r x;refine apc z F ((k:Int)+1) aa aa _ (by rw[A];exact K) _ ?_;exact cv λa w l=>⟨b,D,l⟩
   refine ape z F ((k:Int)+1) aa aa _ _ ?_;refine apd z F ((k:Int)+1) aa aa _ _ (t _ aa aa) (λI=>?_) (λq u=>?_)
   ·have n:z.mb ((k:Int)+1)=false:=by
     cases e:z.mb ((k:Int)+1)with
     |false=>rfl
     |true=>exact absurd ((f _ aa aa).2 e) I
    rw[A,alK j s];refine fin d (af3 y n) ?_;rw[bx,Bw _ _ aa,KC j,n];rfl
   have n:=(f _ aa aa).1 u;rw[A,show some q.1=some (jG (z.iq ((k:Int)+1)) q).z.R.p from rfl,YI j s _ rfl];refine a7 (G':=ij (d++[jG (z.iq ((k:Int)+1)) q])) (by unfold ij;rw[cE];exact(MT _ _).symm) ?_;refine fin _ (abp y n q) ?_;rw[<-YI j s _ rfl,bx,DF (by rw[wQ];omega),n];rfl
  ·refine p4 (Pre':=λb a w=>Made z (k+1) b/\dv (jK z ((k:Int)+1) (bm b) 81 [] []) (ij b) a w) (λa w l=>l) λb=>?_;have G:Made z (k+1) b->aR au (((aO (ar (aq kt) 16)).drop 2).tail) (dv (jK z ((k:Int)+1) (bm b) 81 [] []) (ij b)) (λa w=>∃m:Nat×List cc,((m.1<=9/\Made z m.1 m.2)/\9-m.1<9-k)/\dv (jK z ((m.1:Int)+1) (bm m.2) 81 [] []) (ij m.2) a w) r (λ_ _ _=>False):=λL=>by
    refine gcd bU 1 (λN=>bL iL 16 N) (λq=>jK z q (bm b) 81 [] []) (λq=>q=((k+1:Nat):Int)+1) ?_ (λq u=>?_);intros;refine @av ((jK z (IntKind.i64.wrap ((k:Int)+(1:Int)+1)) (bm b) 81 [] []).aj (IntKind.i64.wrap ((k:Int)+(1:Int)+1)=(↑(k+1):Int)+(1:a6 iL))) _ ?_ ?_;kernel_rfl;exact aw (by rw[show(k:Int)+1=((k+1:Nat):Int)from rfl];exact a5 aa);have u:q=((k+1:Nat):Int)+1:=u;subst u;exact cv λa w l=>⟨(k+1,b),⟨⟨aa,L⟩,aa⟩,l⟩
   exactλa w Q l=>G l.1 a w Q l.2
 ·obtain⟨k,d⟩:=g;have s:k=9:=by have:=o.1;have:¬k<9:=C;show k=9;omega
  subst s;exact h d o.2
