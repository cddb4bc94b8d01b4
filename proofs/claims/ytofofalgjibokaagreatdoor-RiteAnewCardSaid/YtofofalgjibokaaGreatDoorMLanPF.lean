import Derived.LaidLaws
import Derived.LaidHandle
import Derived.LaidMore
import Derived.MakeChecks
import Derived.OpenShut
import Derived.Test.YtofofalgjibokaaGreatDoorMLanPE
set_option maxRecDepth 100000
set_option maxHeartbeats 4000000
noncomputable section
open Go Go.RowKit Cr Go.Eng
open List(all_eq_true drop length mem_cons mem_map mem_range range replicate take)
open Nat(beq ble blt)
open Option(isSome)
open Int(toNat)
namespace Go.Eng.Ob
def jh(κ:Kd)(a:Option Addr)(cap:Nat)(l:List (a6 κ)):ak where
 P w M F:=∃b o N L,a=some ⟨b,o,none⟩/\l.length<=cap/\o+cap*aC κ<=N/\cN w b N L/\o+l.length*aC κ<=L.length/\eQ (Rd M κ) l ((L.drop o).take (l.length*aC κ))/\∀x,F x↔x=b
 mono w M M' F hM h:=by obtain⟨b,o,N,L,h1,h2,h3,h4,h5,h6,h7⟩:=h;exact⟨b,o,N,L,h1,h2,h3,h4,h5,fe (λ_ _=>dT hM) h6,h7⟩
 stable w w' M F h hs:=by obtain⟨b,o,N,L,h1,h2,h3,⟨rest,el,fr,k1,k2⟩,h5,h6,h7⟩:=h;exact⟨b,o,N,L,h1,h2,h3,⟨rest,el,fr,(hs b ((h7 b).2 rfl)).trans k1,k2⟩,h5,h6,h7⟩
 lt w M F h b' hb:=by obtain⟨b,o,N,L,h1,h2,h3,⟨rest,el,fr,k1,k2⟩,h5,h6,h7⟩:=h;rw[(h7 b').1 hb];rcases cG b w.heap.size with h|h;exact h;rw[gH h]at k1;cases k1
section
variable {P:Program}{gl:dF}{S:dr}{κ:Kd}
theorem ago{t e j:TypeId}(h:P.underlying t=some (.slice e)){i:TypeInfo}(d:P.info? e=some i):jM P gl S (.buildSlice t 0 #[]) j ak.none (λb:Nat=>ag (.v (.slice (some ⟨b,0,none⟩) 0 0))) (λb=>jh κ (some ⟨b,0,none⟩) 0 []) (λ_=>True):=by refine Bp λw m ev F k a=>?_;refine⟨w.heap.size,.slice (some ⟨w.heap.size,0,none⟩) 0 0,w.alloc (.cells ⟨[]⟩ e),λb=>b=w.heap.size,trivial,jv λo g _=>?_,⟨w.heap.size,0,0,[],rfl,aQ _,aa,⟨[],e,(0,0),heap_alloc_new w _,rfl,.inl rfl⟩,az,by simp[eQ],λ_=>kk⟩,λb l=>.inr aa,ED,λ_ _ _=>⟨rfl,rfl⟩⟩;simp only[execOp,g];simp[Instr.buildSlice,bP h,c5 d,newRow,Result.andThen,show Array.range 0=#[]from rfl,show ∀f,Instr.fill f #[] []=some #[] fromλ_=>rfl]
theorem agn{t e s:TypeId}(q:P.underlying t=some (.slice e)){i:TypeInfo}(m:P.info? e=some i){x f:Operand}{a:Option Addr}{n cap:Nat}{l:List (a6 κ)}(z:n=l.length)(u:0<l.length)(r:fG S x=ag (.v (.slice a n cap)))(d:fG S f=sJ 0):
  jM P gl S (.indexAddr t x f) s (jh κ a cap l) (λ_:Unit=>ag (.v (.pointer a))) (λ_=>jh κ a cap l) (λ_=>True):=by
 refine xJ λw A ev F k c=>?_;obtain⟨b,o,N,L,rfl,_⟩:=k;have g:=oc r c;have h:=oc (x:=.int .i64 0) d c;refine⟨(),.pointer (some ⟨b,o,none⟩),trivial,jv λo p _=>?_,λ_ _ _=>⟨rfl,rfl⟩⟩;simp only[execOp,p,g,h];have j:0<n:=aa;simp[Instr.indexAt,bP q,c5 m,asIntOf,cf,Result.andThen,j,Addr.add]
theorem Qj{κ:Kd}{M:Mem}{y:a6 κ}{l:List (a6 κ)}{a:bn}(h:eQ (Rd M κ) (y::l) a):Rd M κ y (a.take (aC κ))/\eQ (Rd M κ) l (a.drop (aC κ)):=by obtain⟨d,f,rfl,b,c⟩:=h;have e:=cK b;rw[<-e,List.take_left,List.drop_left];exact⟨b,c⟩
theorem ajC{t A:TypeId}{d:TypeDesc}(q:P.underlying t=some d)(p:c3 P t=true)(h:P.cellsOf t=aC κ){x:Operand}{a:Option Addr}{cap:Nat}{y:a6 κ}{l:List (a6 κ)}(z:fG S x=ag (.v (.pointer a))):
  jM P gl S (.load t x) A (jh κ a cap (y::l)) (λ_:Unit=>.is (.agg (cellsOf κ y))) (λ_=>jh κ a cap (y::l)) (λ_=>True):=by
 refine xJ λw K ev F m c=>?_;obtain⟨b,o,N,L,rfl,D,G,j,k,f,H⟩:=m;have i:=oc z c;have u:(y::l).length*aC κ=aC κ+l.length*aC κ:=by rw[cP,eN,lj,mo]
 rw[u]at k f;have e:o+P.cellsOf t<=L.length:=by rw[h];omega
 have g:=(Qj f).1;rw[nP,jR (vX _ _),<-h]at g;refine⟨(),.agg ⟨(L.drop o).take (P.cellsOf t)⟩,trivial,jv λI r _=>?_,λC _ n=>⟨_,rfl,jL (by rw[n];exact g)⟩⟩;simp only[execOp,r,i];have s:=(vH (P:=P) q j e).1 p;simp[Instr.loadAt,Instr.sureAddr,Result.andThen,s]
theorem ajD{t e ty:TypeId}(G:P.underlying t=some (.slice e)){i:TypeInfo}(m:P.info? e=some i)(U:i.size=aC κ){x H:Operand}{a:Option Addr}{n cap:Nat}{y:a6 κ}{l:List (a6 κ)}(R:n=(y::l).length)(V:fG S x=ag (.v (.slice a n cap)))(q:fG S H=sJ 1):
  jM P gl S (.slice t x (some H) none none) ty (jh κ a cap (y::l)) (λg:Option Addr×Nat=>ag (.v (.slice g.1 l.length g.2))) (λg=>jh κ g.1 g.2 l) (λ_=>True):=by
 subst R;refine Bp λw ρ ev F Q h=>?_;obtain⟨b,o,N,L,rfl,K,h3,z,O,A,C⟩:=Q;have s:=oc V h;have u:=oc (x:=.int .i64 1) q h;have T:(y::l).length*aC κ=aC κ+l.length*aC κ:=by rw[cP,eN,lj,mo]
 rw[T]at O A;rw[cP]at K;have D:=(Qj A).2;rw[oW,iI,Nat.add_sub_cancel_left]at D;have hc:cap*aC κ=aC κ+(cap-1)*aC κ:=by obtain⟨c,rfl⟩:∃c,cap=c+1:=⟨cap-1,aa⟩;rw[Nat.add_sub_cancel,eN,lj,mo]
 have d:(Instr.sliceBounds true (l.length+1) cap (some (.int .i64 1)) none none).run P w=.ok (1,l.length+1,cap) w:=by have I:(1:Int)<=(l.length:Int)+1:=aa;simp[Instr.sliceBounds,Instr.sliceBound,asIntOf,Result.andThen,I]
 by_cases f:cap=1;have p:l=[]:=eL aa;subst p f;refine⟨(some ⟨b,o,none⟩,0),.slice (some ⟨b,o,none⟩) 0 0,w,F,trivial,jv λW r _=>?_,⟨b,o,N,L,rfl,aQ _,aa,z,by simp;omega,by simp[eQ],C⟩,λb j=>.inl j,⟨rfl,rfl,rfl,aQ _,λ_ _ _=>rfl⟩,λ_ _ _=>⟨rfl,rfl⟩⟩;simp only[execOp,r,s,u,Option.map];rw[jj,cy]at d;simp[Instr.sliceAt,Instr.slice,bP G,Result.andThen,c5 m,d]
 ·have X:l.length<=cap-1:=by omega
  have Y:o+aC κ+(cap-1)*aC κ<=N:=aa;have Z:o+aC κ+l.length*aC κ<=L.length:=aa;refine⟨(some ⟨b,o+aC κ,none⟩,cap-1),.slice (some ⟨b,o+aC κ,none⟩) l.length (cap-1),w,F,trivial,jv λW r _=>?_,⟨b,o+aC κ,N,L,rfl,X,Y,z,Z,D,C⟩,λb j=>.inl j,⟨rfl,rfl,rfl,aQ _,λ_ _ _=>rfl⟩,λ_ _ _=>⟨rfl,rfl⟩⟩;simp only[execOp,r,s,u,Option.map];have k:P.cellsOf e=aC κ:=by rw[<-U];simp[Program.cellsOf,m]
  simp[Instr.sliceAt,Instr.slice,bP G,Result.andThen,c5 m,d,f,k,Addr.add]
theorem ab7{t ty e:TypeId}{i:TypeInfo}{z:Value}(O:P.underlying t=some (.slice e))(I:P.info? e=some i)(hz:i.zero=some z)(G:z.cells.size=i.size){w:World}{b o len d N m c:Nat}{L a:bn}{n:Addr}(hN:o+d*i.size<=N) (k:cN w b N L) (Z:o+len*i.size<=L.length) (Q:∀j x,a[j]?=some x->w.cell? (n.add j)=some x) (s:a.length=m*i.size) (q:∀x∈a,x.oneCell'=true) (hb:(len+m)*i.bytes<=2^47) (Y:len+m<=2^62):
  (∃h,len+m<=d/\(Builtin.append_ #[t,t] ty #[.slice (some ⟨b,o,none⟩) len d,.slice (some n) m c]).run P w=.ok (.slice (some ⟨b,o,none⟩) (len+m) d) h/\cN h b N (L.take (o+len*i.size)++a)/\h.heap.size=w.heap.size/\(∀u,u≠b->h.heap[u]?=w.heap[u]?)/\h.os=w.os/\h.tape=w.tape/\h.output=w.output)\/
  (∃g l,len+m<=g/\((L.drop o).take (len*i.size)++a++l).length=g*i.size/\(Builtin.append_ #[t,t] ty #[.slice (some ⟨b,o,none⟩) len d,.slice (some n) m c]).run P w=.ok (.slice (some ⟨w.heap.size,0,none⟩) (len+m) g) (w.drew.alloc (.cells ⟨(L.drop o).take (len*i.size)++a++l⟩ e))):=by
 have F:Builtin.lenOf (.slice (some n) m c)=pure m:=rfl;have hf:(Builtin.firstCells i.size m (.slice (some n) m c)).run P w=.ok a.toArray w:=run_firstCells_some w i.size m n m c a s Q;by_cases f:len+m<=d
 ·refine .inl ?_;have K:len*i.size+a.length<=d*i.size:=by rw[s,<-eN];exact gr _ f
  obtain⟨H,y,x0,r,A⟩:=k.full;obtain⟨h,g1,g2,T,U,V,W,X⟩:=nG (P:=P) (b:=b) (off:=o+len*i.size) a 0 w H y aa q;have R:H.take (o+len*i.size+0)=L.take (o+len*i.size):=by rw[A,lf,mD Z]
  rw[R,<-cZ]at g2;exact⟨h,f,by simp[Builtin.append_,run_underlying O,sizeOf,typeInfo,I,F,f,hf,kM,g1],cN.pre g2,T,U,V,W,X⟩
 ·have C:=grownCap_ge w (len+m) d e;have p:((L.drop o).take (len*i.size)).length=len*i.size:=by simp;omega
  refine .inr ⟨grownCap w (len+m) d e,(Builtin.zeroCells z.cells (grownCap w (len+m) d e-(len+m))).toList,C,?_,?_⟩;simp only[bA,p,mE,size_zeroCells,G,s,<-eN];congr 1;omega
  ·rw[run_append_grow (P:=P) w t ty e i z O I hz ⟨b,o,none⟩ len d ((L.drop o).take (len*i.size)) p (λj v D=>?_) n m c a s Q aa aa (growslice_fits aa hb)];congr 3;apply lk;simp
   ·rw[kM];have E:j<len*i.size:=by have:=(List.getElem?_eq_some_iff.1 D).1;rw[p]at this;exact this
    refine k.cell ?_;rw[gI,ah E,zj]at D;exact D
theorem agm{t e ty:TypeId}(ht:P.underlying t=some (.slice e)){i:TypeInfo}{z:Value}(hi:P.info? e=some i)(hz:i.zero=some z)(x2:z.cells.size=i.size)(G:i.size=aC κ)(x1:0<aC κ){x u:Operand}{a:Option Addr}{n r:Nat}{l:List (a6 κ)}{y:a6 κ}(hn:n=l.length)(hx:fG S x=ag (.v (.slice a n r)))(hu:fG S u=ag (.ro κ [y]))(m:(l.length+1)*i.bytes<=2^47) (x0:l.length+1<=2^62):
  jM P gl S (.call ⟨.builtin .append,#[x,u],#[t,t]⟩) ty (jh κ a r l) (λg:Option Addr×Nat=>ag (.v (.slice g.1 (l.length+1) g.2))) (λg=>jh κ g.1 g.2 (l++[y])) (λ_=>True):=by
 subst hn;intro w V ev F hG hM x3 Q R;obtain⟨b,o,N,L,rfl,h2,h3,h4,h5,h6,h7⟩:=hG;have e1:=oc hx R;have e2:=R u;rw[hu]at e2;rcases BE e2 with ⟨h0,_⟩|⟨b',O,c,e3,k1,v,k2,k3,X⟩;cases h0;rw[<-G]at h3 h5 h6 k3 X x1;have hv:v≠[]:=by rintro rfl;simp at k3;omega
 have f:((v.drop O).take ([y].length*i.size)).length=1*i.size:=by simp at k3⊢;omega
 obtain⟨el,fr,hh⟩:=jA (hM _ _ (k2 hv));rw[vG hv]at hh;have D:∀j x,((v.drop O).take ([y].length*i.size))[j]?=some x->w.cell? ((⟨b',O,none⟩:Addr).add j)=some x:=λj x hj=>by have T:=(List.getElem?_eq_some_iff.1 hj).1;rw[f]at T;rw[gI,ah (by simpa using T),zj]at hj;rw[kM];simp only[World.cell?,hh];simp[hj]
 have ex:∀H:Oper,H.op=Op.call ⟨.builtin .append,#[x,u],#[t,t]⟩->H.type=ty->execOp ev H=(do pure (.value (<-Builtin.append_ #[t,t] ty #[.slice (some ⟨b,o,none⟩) l.length r,.slice (some ⟨b',O,none⟩) 1 c]))):=by rintro⟨Y,op,U,pos,af,gd⟩ K h;simp only at K h;subst K h;have e4:execOp ev ⟨Y,.call ⟨.builtin .append,#[x,u],#[t,t]⟩,U,pos,af,gd⟩=(do pure (.value (<-Builtin.append_ #[t,t] U (#[x,u].map ev)))):=rfl;rw[e4,show #[x,u].map ev=#[ev x,ev u]from by simp,e1,e3];rfl
 have s:∀(p:World)(F2:Nat->Prop)(g:Option Addr×Nat)(vv:Value),BY P ev (Op.call ⟨.builtin .append,#[x,u],#[t,t]⟩) ty w vv p->vv=.slice g.1 (l.length+1) g.2->(jh κ g.1 g.2 (l++[y])).P p V.M F2->(∀b,F2 b->F b\/w.heap.size<=b)->rX F w p ->
   ∃g v p F2 W,True/\BY P ev (Op.call ⟨.builtin .append,#[x,u],#[t,t]⟩) ty w v p/\(jh κ (g:Option Addr×Nat).1 g.2 (l++[y])).P p W F2/\(∀b,F2 b->F b\/w.heap.size<=b)/\rX F w p/\Mem.le V.M W/\(∀b l,W b=some l->cR p b=some l/\¬F2 b/\(w.heap.size<=b\/F b\/V.M b=some l))/\∀I:aI,aI.le V I->I.M=W->(SV.is (.one (.v (.slice g.1 (l.length+1) g.2)))).rel I v:=λp F2 g vv q1 q2 q3 q4 q5=>by
  subst q2;refine⟨g,_,p,F2,V.M,trivial,q1,q3,q4,q5,Mem.le_refl _,λb l m=>⟨Mv q5 (hM b l m) (λq=>Q b q l m),λq=>?_,.inr (.inr m)⟩,λ_ _ _=>⟨rfl,rfl⟩⟩;rcases q4 b q with q|q;exact Q b q l m;exact absurd (su (hM b l m)) aa
 have d:(l++[y]).length*i.size=l.length*i.size+1*i.size:=by rw[bA,eN];rfl
 rcases ab7 (ty:=ty) (c:=c) ht hi hz x2 h3 h4 h5 D f (xB (λ_ _=>vN) X) m x0 with ⟨w',g1,g2,Z,g4,g5,g6,g7,g8⟩|⟨A,C,g1,g2,Z⟩;refine s w' F (some ⟨b,o,none⟩,r) _ (jv λH K h=>by rw[ex H K h];simp only[cf,g2,cn,c1]) rfl ⟨b,o,N,_,rfl,by rw[bA];exact g1,by rw[<-G];exact h3,Z,?_,?_,h7⟩ (λb m=>.inl m) ⟨g6,g7,g8,aa,λk _ hk=>g5 k (λe=>hk ((h7 k).2 e))⟩;rw[<-G,d,bA,c6,f];omega;rw[<-G,d,qN (by rw[c6];omega),oW,Nat.add_sub_cancel_left,cA (by rw[bA,f,c6,gu];omega)];exact tD h6 X;refine s _ (λx=>x=w.heap.size) (some ⟨w.heap.size,0,none⟩,A) _ (jv λH K h=>by rw[ex H K h];simp only[cf,Z,cn,c1]) rfl ⟨w.heap.size,0,((L.drop o).take (l.length*i.size)++(v.drop O).take ([y].length*i.size)++C).length,(L.drop o).take (l.length*i.size)++(v.drop O).take ([y].length*i.size),rfl,by rw[bA];exact g1,by rw[<-G,g2];show 0+A*i.size<=_;omega,B6 w _ C e,?_,?_,λ_=>kk⟩ (λb m=>.inr aa) ⟨rfl,rfl,rfl,by show w.heap.size<=(w.heap.push _).size;rw[Array.size_push];omega,λk hk _=>Below.heap_alloc w.drew _ _ hk⟩;rw[<-G,d,cy,bA,f,c6,gu];omega;rw[<-G,d,jU,cA (by rw[bA,f,c6,gu];omega)];exact tD h6 X
theorem Qh{E:cJ}{N:Nat}{b:Array Oper}{k:Nat}{f:St}{t e:TypeId}(s:E.P.underlying t=some (.slice e)){i:TypeInfo}{z:Value}(q:E.P.info? e=some i)(D:i.zero=some z)(o:z.cells.size=i.size)(A:i.size=aC κ)(m:0<aC κ){x u:Operand}{a:Option Addr}{c n:Nat}{l:List (a6 κ)}{y:a6 κ}(G:ak)(r:n=l.length+1)(d:isStep f.S b k=true) (j:j8 b k=.call ⟨.builtin .append,#[x,u],#[t,t]⟩) (C:fG f.S x=ag (.v (.slice a l.length c))) (w:fG f.S u=ag (.ro κ [y])) (p:(l.length+1)*i.bytes<=2^47) (h:l.length+1<=2^62):
  BZ E b k (GH E N f (ak.sep (jh κ a c l) G)) (λ_=>True) (λg:Option Addr×Nat=>GH E N (f.put (nD b k) (ag (.v (.slice g.1 n g.2)))) (ak.sep (jh κ g.1 g.2 (l++[y])) G)):=by
 subst r;exact fJ (E:=E) d (by rw[j];exact q7 G (agm s q D o A m rfl C w p h))
end
end Go.Eng.Ob
/- RiteAnew: what is sent is laid into the mail. Printed by tools/gen_lrc.py. -/
namespace Go.Proofs.YtofofalgjibokaaGreatDoor
namespace law23
open Go.IntKind(i64)
open bf deal rite Go.Eng.Ob
abbrev cX:=Int×aP
abbrev cQ(o:List cX)(n:Nat):cX:=o.getD n (gn cl)
def my(b:List (Option Nat))(aK:Int)(x:cX)(a:Int):Bool:=((a != aK)&&((x.1==0)||(x.1==a)))&&isSome (b.getD a.toNat none)
def fb(a:List (Option Nat))(aK:Int)(x:cX)(k:Nat):List cX:=((dg k).filter (my a aK x)).map λb=>(b,x.2)
def dV(a:List (Option Nat))(aK:Int)(o:List cX):List cX:=o.flatMap λx=>fb a aK x 9
theorem Fa(a:List (Option Nat))(aK:Int)(x:cX)(k:Nat):(fb a aK x k).length<=k:=by rw[fb,b5];have:=nM (my a aK x) (dg k);rw[rI]at this;exact this
theorem Jx(a:List (Option Nat))(aK:Int)(x:cX)(k:Nat):fb a aK x (k+1)=fb a aK x k++if my a aK x (k+1)then [((k:Int)+1,x.2)]else []:=by rw[fb,C1,nN,cE,oU];split<;>rfl
theorem MS(a:List (Option Nat))(aK:Int)(o:List cX)(n:Nat):(dV a aK (o.take n)).length<=9*o.length:=by
 have b:∀l,(dV a aK l).length<=9*l.length:=λl=>by
  induction l with
  |nil=>exact aY _
  |cons x l d=>have:=Fa a aK x 9;show(fb a aK x 9++dV a aK l).length<=_;rw[bA,cP];omega
 have:=b (o.take n);rw[c6]at this;omega
theorem Jy(a:List (Option Nat))(aK:Int)(o:List cX)(n:Nat)(b:n<o.length):dV a aK (o.take (n+1))=dV a aK (o.take n)++fb a aK (cQ o n) 9:=by rw[dA b,dV,List.flatMap_append,<-dV,cQ,bx,bO b];simp
abbrev e7(x:cX):cb:=vI x.1::df x.2
theorem JS:Tryz.prog.underlying 57=some (.slice 59):=ab
theorem I3:∃i z,Tryz.prog.info? 59=some i/\i.zero=some z/\z.cells.size=i.size/\i.size=aC cl/\i.bytes<=200:=by obtain⟨i,z,g,k,e,b,m,j,d,f⟩:=AA ab;refine⟨i,z,g,k,by rw[<-mE,e,b,rr f],b,?_⟩;rw[d];have h:ble (bytesOf au 59) 200=true:=ab;exact fR h
abbrev vt:cw:=cg (ar (aO (ar (aq kt) 19)) 2)
abbrev sB:cw:=cg (ar (aO (ar vt 1)) 2)
def oF(v:An×Int×Int)(e:List (Option Nat))(o:List cX)(n:Nat)(a:Option Addr)(c:Nat)(l:List cX)(next:Nat)(d:g9)(b:e5):St:=nC next ([(1,sJ v.1.m),(11,ag (.ro .fr v.1.bJ)),(15,al 80 0),(18,ag (.v (.slice a l.length c))),(19,sJ v.2.1),(20,sJ v.2.2),(133,ag (.ro cl o)),(134,sJ o.length),(135,sJ n)]++d) ((80,[.row .pq 10 e])::b)
def VO(v:An×Int×Int)(b:List (Option Nat))(o:List cX)(n:Int)(a:Option Addr)(c:Nat)(l:List cX)(next:Nat):St:=nC next [(1,sJ v.1.m),(11,ag (.ro .fr v.1.bJ)),(15,al 80 0),(18,ag (.v (.slice a l.length c))),(19,sJ v.2.1),(20,sJ v.2.2),(133,ag (.ro cl o)),(134,sJ o.length),(135,sJ n)] [(80,[.row .pq 10 b])]
section
variable [W3]
theorem akk(v:An×Int×Int)(d:List (Option Nat))(E:d.length=10)(o:List cX)(n:Nat)(N:n<o.length)(G:ak)(k:Nat)(K:k<9)(a:Option Addr)(c:Nat)(l:List cX)(L:l.length<1000000){A r:aA}{C:Nat->aA}(h:∀e f,aR au ((cg (ar (aO (ar (cg (ar (aO (ar sB 1)) 2)) 2)) 2)).drop 2) (dv (oF v d o n e f (l++if(my d v.2.2 (cQ o n) (k+1))then [((k:Int)+1,(cQ o n).2)]else []) 98 ([(22,al 97 0),(23,sJ (k+1))]) ([(97,e7 (cQ o n))])) (ak.sep (jh cl e f (l++if(my d v.2.2 (cQ o n) (k+1))then [((k:Int)+1,(cQ o n).2)]else [])) G)) A r C):
  aR au (cg (ar (aO (ar (cg (ar (aO (ar sB 1)) 2)) 2)) 2)) (dv (oF v d o n a c l 98 ([(22,al 97 0),(23,sJ (k+1))]) ([(97,e7 (cQ o n))])) (ak.sep (jh cl a c l) G)) A r C:=by
 refine jY bU ao 1 162 (λI=>bL .bool 162 I) (λb=>oF v d o n a c l 98 ([(22,al 97 0),(23,sJ (k+1)),(162,aD b)]) ([(97,e7 (cQ o n))])) (λb=>b=(my d v.2.2 (cQ o n) (k+1))) (λ_=>False) (λ_ _=>False) ?_ (λb q=>?_) (λ_ _ _ h _=>h.elim) (λ_ _ _ _ h _=>h.elim);intros;refine @av ((((k+1) != v.2.2)=true->(((cQ o n).1==0)=true->(0<=(k:Int)+1/\k+1<(10:Int))/\((k:Int)+1).toNat<10/\(oF v d o n a c l 98 ([(22,al 97 0),(23,sJ (k+1)),(162,aD (isSome (d.getD ((k:Int)+1).toNat none)))]) ([(97,e7 (cQ o n))])).aj ((isSome (d.getD ((k:Int)+1).toNat none))=(my d v.2.2 (cQ o n) (k+1))))/\(((cQ o n).1==0)=false->(((cQ o n).1==k+1)=true->(0<=(k:Int)+1/\k+1<(10:Int))/\((k:Int)+1).toNat<10/\(oF v d o n a c l 98 ([(22,al 97 0),(23,sJ (k+1)),(162,aD (isSome (d.getD ((k:Int)+1).toNat none)))]) ([(97,e7 (cQ o n))])).aj ((isSome (d.getD ((k:Int)+1).toNat none))=(my d v.2.2 (cQ o n) (k+1))))/\(((cQ o n).1==k+1)=false->(oF v d o n a c l 98 ([(22,al 97 0),(23,sJ (k+1)),(162,aD (false))]) ([(97,e7 (cQ o n))])).aj ((false)=(my d v.2.2 (cQ o n) (k+1))))))/\(((k+1) != v.2.2)=false->(oF v d o n a c l 98 ([(22,al 97 0),(23,sJ (k+1)),(162,aD (false))]) ([(97,e7 (cQ o n))])).aj ((false)=(my d v.2.2 (cQ o n) (k+1))))) _ ?_ ?_;kernel_rfl;clear h;exact⟨λj=>⟨λm=>⟨⟨aa,by show(k:Int)+1<10;omega⟩,aa,aw (by unfold my;rw[j,m];rfl)⟩,λm=>⟨λp=>⟨⟨aa,by show(k:Int)+1<10;omega⟩,aa,aw (by unfold my;rw[j,m,p];rfl)⟩,λp=>aw (by unfold my;rw[j,m,p];rfl)⟩⟩,λj=>aw (by unfold my;rw[j];rfl)⟩;have q:b=(my d v.2.2 (cQ o n) (k+1)):=q;subst q;cases w:(my d v.2.2 (cQ o n) (k+1));rw[w]at h;refine fF (ar (cg (ar (aO (ar (cg (ar (aO (ar sB 1)) 2)) 2)) 2)) 1) ?_;refine fh (oF v d o n a c l 98 ([(22,al 97 0),(23,sJ (k+1))]) ([(97,e7 (cQ o n))])) ?_;have h:=h a c;rw[ai ae,bF]at h;exact h;rw[w]at h;refine jX (ar (cg (ar (aO (ar (cg (ar (aO (ar sB 1)) 2)) 2)) 2)) 1) ?_;refine eX 41 (bS (ar (fC (ar (cg (ar (aO (ar (cg (ar (aO (ar sB 1)) 2)) 2)) 2)) 1)) 0)) ?_;refine eG bU 6 (oF v d o n a c l 139 ([(22,al 97 0),(23,sJ (k+1)),(163,ag (.v (.slice a l.length c))),(168,ag (.sl 138 0 0 1 8))]) ([(97,e7 (cQ o n))]++[(138,[.row cl 1 [(k+1,(cQ o n).2)]])])) ?_;obtain⟨i,z,D,H,t,F,s⟩:=I3;refine jx (k8 λh=>Be 168 138 1 8 cl [(k+1,(cQ o n).2)] ab ab rfl h) ?_;refine hZ (Qh (x:=.tmp 163) (u:=.tmp 168) (y:=((k+1,(cQ o n).2):cX)) (n:=(l++[((k+1,(cQ o n).2):cX)]).length) JS D H t F ae G (by rw[bA];rfl) ab ab ab ab (fw (Nat.mul_le_mul_left _ s) aa) aa) (λg _=>?_);obtain⟨e,f⟩:=g;refine eG bU 8 (oF v d o n e f (l++[((k:Int)+1,(cQ o n).2)]) 98 ([(22,al 97 0),(23,sJ (k+1))]) ([(97,e7 (cQ o n))])) (eK ?_);have h:=h e f;rw[ah rfl]at h;exact h
theorem alR(v:An×Int×Int)(b:List (Option Nat))(s:b.length=10)(o:List cX)(n:Nat)(A:n<o.length)(F:o.length<100000)(G:ak)(a:Option Addr)(c:Nat)(l:List cX)(E:l.length<900000){x r:aA}{z:Nat->aA}(h:∀i j,aR au [] (dv (oF v b o n i j (l++fb b v.2.2 (cQ o n) 9) 81 ([]) ([])) (ak.sep (jh cl i j (l++fb b v.2.2 (cQ o n) 9)) G)) x r z):
  aR au (cg (ar (aO (ar sB 1)) 2)) (dv (oF v b o n a c l 81 ([]) ([])) (ak.sep (jh cl a c l) G)) x r z:=by
 refine gcd bU 2 (λ_=>()) (λ_=>oF v b o n a c l 98 ([(22,al 97 0),(23,sJ 1)]) ([(97,e7 (cQ o n))])) (λ_=>True) ?_ (λ_ _=>?_);intros;refine @av ((0<=(n:Int)/\ ↑n<(o.length:Int))/\(n:Int).toNat<o.length/\(oF v b o n a c l 98 [(22,SV.is (TV.one (ax.ptr 97 0))),(23,sJ 1)] [(97,e7 (cQ o n))]).aj True) _ ?_ ?_;kernel_rfl;exact⟨⟨aa,aa⟩,aa,aw trivial⟩;rw[<-(bF l:l++fb b v.2.2 (cQ o n) 0=l)];refine rz bU ao (c:=(ar (cg (ar (aO (ar sB 1)) 2)) 2)) (λg:Nat×Option Addr×Nat=>oF v b o n g.2.1 g.2.2 (l++fb b v.2.2 (cQ o n) g.1) 98 ([(22,al 97 0),(23,sJ (g.1+1))]) ([(97,e7 (cQ o n))])) (λg=>ak.sep (jh cl g.2.1 g.2.2 (l++fb b v.2.2 (cQ o n) g.1)) G) (λg=>g.1<=9) (λg=>g.1<9) (λg=>9-g.1) (0,a,c) ab ab (aY _) (λg m w ids M num=>?_) (λg m t=>?_) (λg m t=>?_);obtain⟨k,d,e⟩:=g;refine @av ((decide (↑k+1<=(9:Int))=true->(oF v b o n (k,d,e).snd.fst (k,d,e).snd.snd (l++fb b v.snd.snd (cQ o n) (k,d,e).fst) 98 [(22,SV.is (TV.one (ax.ptr 97 0))),(23,sJ ((↑(k,d,e).fst:Int)+1))] [(97,e7 (cQ o n))]).aj (k<9))/\(decide (↑k+1<=(9:Int))=false->(oF v b o n (k,d,e).snd.fst (k,d,e).snd.snd (l++fb b v.snd.snd (cQ o n) (k,d,e).fst) 98 [(22,SV.is (TV.one (ax.ptr 97 0))),(23,sJ ((↑(k,d,e).fst:Int)+1))] [(97,e7 (cQ o n))]).aj ¬k<9)) _ ?_ ?_;kernel_rfl;exact⟨λh=>aw (by have:=Odt h;omega),λh=>aw (by have:=Odf h;omega)⟩;obtain⟨k,d,e⟩:=g;have p:k<9:=t;have C:=Fa b v.2.2 (cQ o n) k;refine dC (c:=ar (aO (ar (cg (ar (aO (ar sB 1)) 2)) 2)) 2) (λa w=>∃q:Option Addr×Nat,(dv (oF v b o n q.1 q.2 (l++fb b v.2.2 (cQ o n) (k+1)) 98 ([(22,al 97 0),(23,sJ (k+1))]) ([(97,e7 (cQ o n))])) (ak.sep (jh cl q.1 q.2 (l++fb b v.2.2 (cQ o n) (k+1))) G)) a w) ab ab ?_ ?_;refine akk v b s o n A G k p d e _ (by show(l++fb b v.2.2 (cQ o n) k).length<1000000;rw[bA];omega) λi j=>?_;rw[cZ,<-Jx];exact cv λ_ _ f=>⟨(i,j),f⟩;refine p4 (λa w f=>f) λq=>?_;refine gcd bU 1 (λD=>bL iL 23 D) (λy=>oF v b o n q.1 q.2 (l++fb b v.2.2 (cQ o n) (k+1)) 98 ([(22,al 97 0),(23,sJ y)]) ([(97,e7 (cQ o n))])) (λy=>y=((k+1:Nat):Int)+1) ?_ (λy u=>?_);intros;refine @av ((oF v b o n q.fst q.snd (l++fb b v.snd.snd (cQ o n) (k+1)) 98 [(22,SV.is (TV.one (ax.ptr 97 0))),(23,sJ (i64.wrap (↑k+1+1)))] [(97,e7 (cQ o n))]).aj (i64.wrap (↑k+1+1)=(↑(k+1):Int)+1)) _ ?_ ?_;kernel_rfl;exact aw (by rw[show k+1=((k+1:Nat):Int)from rfl];exact a5 aa);have u:y=((k+1:Nat):Int)+1:=u;subst u;exact cv λ_ _ f=>⟨(k+1,q.1,q.2),⟨aa,aa⟩,f⟩
 ·obtain⟨k,d,e⟩:=g;have p:k=9:=by have:k<=9:=m;have:¬k<9:=t;omega
  subst p;refine fh (oF v b o n d e (l++fb b v.2.2 (cQ o n) 9) 81 ([]) ([])) ?_;exact h d e
theorem Y2(v:An×Int×Int)(b:List (Option Nat))(p:b.length=10)(o:List cX)(I:o.length<10000)(G:ak)(a:Option Addr)(c:Nat)(l:List cX)(H:l.length<700000){x r:aA}{z:Nat->aA}(h:∀j m,aR au (sB.drop 2) (dv (oF v b o o.length j m (l++dV b v.2.2 o) 81 ([]) ([])) (ak.sep (jh cl j m (l++dV b v.2.2 o)) G)) x r z):
  aR au (sB.drop 1) (dv (oF v b o 0 a c l 81 ([]) ([])) (ak.sep (jh cl a c l) G)) x r z:=by
 rw[<-(bF l:l++dV b v.2.2 (o.take 0)=l)];refine rz bU ao (c:=ar sB 1) (λg:Nat×Option Addr×Nat=>oF v b o g.1 g.2.1 g.2.2 (l++dV b v.2.2 (o.take g.1)) 81 ([]) ([])) (λg=>ak.sep (jh cl g.2.1 g.2.2 (l++dV b v.2.2 (o.take g.1))) G) (λg=>g.1<=o.length) (λg=>g.1<o.length) (λg=>o.length-g.1) (0,a,c) ab ab (aY _) (λg f w ids M num=>?_) (λg f s=>?_) (λg f s=>?_);obtain⟨k,d,e⟩:=g;have f:k<=o.length:=f;refine @av ((decide ((k:Int)<(o.length:Int))=true->(oF v b o (k,d,e).fst (k,d,e).snd.fst (k,d,e).snd.snd (l++dV b v.snd.snd (take (k,d,e).fst o)) 81 [] []).aj (k<o.length))/\(decide ((k:Int)<(o.length:Int))=false->(oF v b o (k,d,e).fst (k,d,e).snd.fst (k,d,e).snd.snd (l++dV b v.snd.snd (take (k,d,e).fst o)) 81 [] []).aj ¬k<o.length)) _ ?_ ?_;kernel_rfl;exact⟨λh=>aw (by have:=Odt h;omega),λh=>aw (by have:=Odf h;omega)⟩;obtain⟨n,d,e⟩:=g;have u:n<o.length:=s;have D:=MS b v.2.2 o n;have A:=Jy b v.2.2 o n u;refine dC (c:=ar (aO (ar sB 1)) 2) (λa w=>∃q:Option Addr×Nat,(dv (oF v b o n q.1 q.2 (l++dV b v.2.2 (o.take (n+1))) 81 ([]) ([])) (ak.sep (jh cl q.1 q.2 (l++dV b v.2.2 (o.take (n+1)))) G)) a w) ab ab ?_ ?_;refine alR v b p o n u aa G d e _ (by show(l++dV b v.2.2 (o.take n)).length<900000;rw[bA];omega) λj m=>?_;rw[cZ,<-A];exact cv λ_ _ i=>⟨(j,m),i⟩;refine p4 (λa w i=>i) λq=>?_;refine gcd bU 1 (λF=>bL iL 135 F) (λy=>VO v b o y q.1 q.2 (l++dV b v.2.2 (o.take (n+1))) 81) (λy=>y=((n+1:Nat):Int)) ?_ (λy t=>?_);intros;refine @av ((VO v b o (i64.wrap ((n:Int)+(1:Int))) q.fst q.snd (l++dV b v.snd.snd (take (n+1) o)) 81).aj (i64.wrap ((n:Int)+(1:Int))=(↑(n+1):Int))) _ ?_ ?_;kernel_rfl;exact aw (a5 aa);have t:y=((n+1:Nat):Int):=t;subst t;exact cv λ_ _ i=>⟨(n+1,q.1,q.2),⟨aa,aa⟩,i⟩
 ·obtain⟨k,d,e⟩:=g;have C:k=o.length:=by have:k<=o.length:=f;have:¬k<o.length:=s;omega
  subst C;have h:=h d e;rw[<-bg (l:=o)]at h;rw[bg]at h;rw[bg];exact h
end
abbrev lH:cw:=cg (ar (aO (ar vt 3)) 2)
abbrev ajS(v:An×Int×Int×cX)(o:List cX)(n:Int)(a:Option Addr)(c:Nat)(l:List cX):g9:=[(1,sJ v.1.m),(11,ag (.ro .fr v.1.bJ)),(15,al 80 0),(18,ag (.v (.slice a l.length c))),(19,sJ v.2.1),(24,sJ v.2.2.1),(25,al 105 0),(188,ag (.ro cl o)),(189,sJ o.length),(190,sJ n)]
def oE(v:An×Int×Int×cX)(e:List (Option Nat))(o:List cX)(n:Nat)(a:Option Addr)(c:Nat)(l:List cX)(next:Nat)(d:g9)(b:e5):St:=nC next (ajS v o n a c l++d) ((80,[.row .pq 10 e])::(105,e7 v.2.2.2)::b)
def VN(v:An×Int×Int×cX)(b:List (Option Nat))(o:List cX)(n:Int)(a:Option Addr)(c:Nat)(l:List cX)(next:Nat):St:=nC next (ajS v o n a c l) [(80,[.row .pq 10 b]),(105,e7 v.2.2.2)]
section
variable [W3]
theorem akl(v:An×Int×Int×cX)(d:List (Option Nat))(F:d.length=10)(o:List cX)(n:Nat)(O:n<o.length)(G:ak)(k:Nat)(L:k<9)(a:Option Addr)(c:Nat)(l:List cX)(N:l.length<1000000){A r:aA}{C:Nat->aA}(h:∀e f,aR au ((cg (ar (aO (ar (cg (ar (aO (ar lH 3)) 2)) 2)) 2)).drop 2) (dv (oE v d o n e f (l++if(my d v.2.2.2.1 (cQ o n) (k+1))then [((k:Int)+1,(cQ o n).2)]else []) 123 ([(27,al 122 0),(28,sJ (k+1))]) ([(122,e7 (cQ o n))])) (ak.sep (jh cl e f (l++if(my d v.2.2.2.1 (cQ o n) (k+1))then [((k:Int)+1,(cQ o n).2)]else [])) G)) A r C):
  aR au (cg (ar (aO (ar (cg (ar (aO (ar lH 3)) 2)) 2)) 2)) (dv (oE v d o n a c l 123 ([(27,al 122 0),(28,sJ (k+1))]) ([(122,e7 (cQ o n))])) (ak.sep (jh cl a c l) G)) A r C:=by
 refine jY bU ao 1 218 (λK=>bL .bool 218 K) (λb=>oE v d o n a c l 123 ([(27,al 122 0),(28,sJ (k+1)),(218,aD b)]) ([(122,e7 (cQ o n))])) (λb=>b=(my d v.2.2.2.1 (cQ o n) (k+1))) (λ_=>False) (λ_ _=>False) ?_ (λb q=>?_) (λ_ _ _ h _=>h.elim) (λ_ _ _ _ h _=>h.elim);intros;refine @av (((((k:Int)+1) != v.2.2.2.1)=true->(((cQ o n).1==(0:Int))=true->((0:Int)<=(k:Int)+1/\(k:Int)+1<(10:Int))/\((k:Int)+1).toNat<10/\(oE v d o n a c l 123 ([(27,al 122 0),(28,sJ ((k:Int)+1)),(218,aD (isSome (d.getD ((k:Int)+1).toNat none)))]) ([(122,e7 (cQ o n))])).aj ((isSome (d.getD ((k:Int)+1).toNat none))=(my d v.2.2.2.1 (cQ o n) ((k:Int)+1))))/\(((cQ o n).1==(0:Int))=false->(((cQ o n).1==(k:Int)+1)=true->((0:Int)<=(k:Int)+1/\(k:Int)+1<(10:Int))/\((k:Int)+1).toNat<10/\(oE v d o n a c l 123 ([(27,al 122 0),(28,sJ ((k:Int)+1)),(218,aD (isSome (d.getD ((k:Int)+1).toNat none)))]) ([(122,e7 (cQ o n))])).aj ((isSome (d.getD ((k:Int)+1).toNat none))=(my d v.2.2.2.1 (cQ o n) ((k:Int)+1))))/\(((cQ o n).1==(k:Int)+1)=false->(oE v d o n a c l 123 ([(27,al 122 0),(28,sJ ((k:Int)+1)),(218,aD (false))]) ([(122,e7 (cQ o n))])).aj ((false)=(my d v.2.2.2.1 (cQ o n) ((k:Int)+1))))))/\((((k:Int)+1) != v.2.2.2.1)=false->(oE v d o n a c l 123 ([(27,al 122 0),(28,sJ ((k:Int)+1)),(218,aD (false))]) ([(122,e7 (cQ o n))])).aj ((false)=(my d v.2.2.2.1 (cQ o n) ((k:Int)+1))))) _ ?_ ?_;kernel_rfl;clear h;exact⟨λj=>⟨λm=>⟨⟨aa,by show(k:Int)+1<10;omega⟩,aa,aw (by unfold my;rw[j,m];rfl)⟩,λm=>⟨λp=>⟨⟨aa,by show(k:Int)+1<10;omega⟩,aa,aw (by unfold my;rw[j,m,p];rfl)⟩,λp=>aw (by unfold my;rw[j,m,p];rfl)⟩⟩,λj=>aw (by unfold my;rw[j];rfl)⟩;have q:b=(my d v.2.2.2.1 (cQ o n) (k+1)):=q;subst q;cases w:(my d v.2.2.2.1 (cQ o n) (k+1));rw[w]at h;refine fF (ar (cg (ar (aO (ar (cg (ar (aO (ar lH 3)) 2)) 2)) 2)) 1) ?_;refine fh (oE v d o n a c l 123 ([(27,al 122 0),(28,sJ (k+1))]) ([(122,e7 (cQ o n))])) ?_;have h:=h a c;rw[ai ae,bF]at h;exact h;rw[w]at h;refine jX (ar (cg (ar (aO (ar (cg (ar (aO (ar lH 3)) 2)) 2)) 2)) 1) ?_;refine eX 55 (bS (ar (fC (ar (cg (ar (aO (ar (cg (ar (aO (ar lH 3)) 2)) 2)) 2)) 1)) 0)) ?_;refine eG bU 6 (oE v d o n a c l 164 ([(27,al 122 0),(28,sJ (k+1)),(219,ag (.v (.slice a l.length c))),(224,ag (.sl 163 0 0 1 8))]) ([(122,e7 (cQ o n))]++[(163,[.row cl 1 [(k+1,(cQ o n).2)]])])) ?_;obtain⟨i,z,D,I,t,H,s⟩:=I3;refine jx (k8 λh=>Be 224 163 1 8 cl [(k+1,(cQ o n).2)] ab ab rfl h) ?_;refine hZ (Qh (E:=iY) (x:=.tmp 219) (u:=.tmp 224) (y:=(((k:Int)+1,(cQ o n).2):cX)) (n:=(l++[(((k:Int)+1,(cQ o n).2):cX)]).length) JS D I t H ae G (by rw[bA];rfl) ab ab ab ab (fw (Nat.mul_le_mul_left _ s) aa) aa) (λg _=>?_);obtain⟨e,f⟩:=g;refine eG bU 8 (oE v d o n e f (l++[((k:Int)+1,(cQ o n).2)]) 123 ([(27,al 122 0),(28,sJ ((k:Int)+1))]) ([(122,e7 (cQ o n))])) (eK ?_);have h:=h e f;rw[ah rfl]at h;exact h
theorem alV(v:An×Int×Int×cX)(b:List (Option Nat))(s:b.length=10)(o:List cX)(n:Nat)(A:n<o.length)(F:o.length<100000)(G:ak)(a:Option Addr)(c:Nat)(l:List cX)(E:l.length<900000){x r:aA}{z:Nat->aA}(h:∀i j,aR au [] (dv (oE v b o n i j (l++fb b v.2.2.2.1 (cQ o n) 9) 106 ([]) ([])) (ak.sep (jh cl i j (l++fb b v.2.2.2.1 (cQ o n) 9)) G)) x r z):
  aR au (cg (ar (aO (ar lH 3)) 2)) (dv (oE v b o n a c l 106 ([]) ([])) (ak.sep (jh cl a c l) G)) x r z:=by
 refine gcd bU 2 (λ_=>()) (λ_=>oE v b o n a c l 123 ([(27,al 122 0),(28,sJ 1)]) ([(122,e7 (cQ o n))])) (λ_=>True) ?_ (λ_ _=>?_);intros;refine @av (((0:Int)<=(n:Int)/\(n:Int)<(o.length:Int))/\(n:Int).toNat<o.length/\(oE v b o n a c l 123 [(27,SV.is (TV.one (ax.ptr 122 0))),(28,sJ (1:Int))] [(122,e7 (cQ o n))]).aj True) _ ?_ ?_;kernel_rfl;exact⟨⟨aa,aa⟩,aa,aw trivial⟩;rw[<-(bF l:l++fb b v.2.2.2.1 (cQ o n) 0=l)];refine rz bU ao (c:=(ar (cg (ar (aO (ar lH 3)) 2)) 2)) (λg:Nat×Option Addr×Nat=>oE v b o n g.2.1 g.2.2 (l++fb b v.2.2.2.1 (cQ o n) g.1) 123 ([(27,al 122 0),(28,sJ (g.1+1))]) ([(122,e7 (cQ o n))])) (λg=>ak.sep (jh cl g.2.1 g.2.2 (l++fb b v.2.2.2.1 (cQ o n) g.1)) G) (λg=>g.1<=9) (λg=>g.1<9) (λg=>9-g.1) (0,a,c) ab ab (aY _) (λg m w ids M num=>?_) (λg m t=>?_) (λg m t=>?_);obtain⟨k,d,e⟩:=g;refine @av ((decide ((k:Int)+(1:Int)<=(9:Int))=true->(oE v b o n (k,d,e).snd.fst (k,d,e).snd.snd (l++fb b v.snd.snd.snd.fst (cQ o n) (k,d,e).fst) 123 [(27,SV.is (TV.one (ax.ptr 122 0))),(28,sJ ((↑(k,d,e).fst:Int)+(1:Int)))] [(122,e7 (cQ o n))]).aj (k<9))/\(decide ((k:Int)+(1:Int)<=(9:Int))=false->(oE v b o n (k,d,e).snd.fst (k,d,e).snd.snd (l++fb b v.snd.snd.snd.fst (cQ o n) (k,d,e).fst) 123 [(27,SV.is (TV.one (ax.ptr 122 0))),(28,sJ ((↑(k,d,e).fst:Int)+(1:Int)))] [(122,e7 (cQ o n))]).aj ¬k<9)) _ ?_ ?_;kernel_rfl;exact⟨λh=>aw (by have:=Odt h;omega),λh=>aw (by have:=Odf h;omega)⟩;obtain⟨k,d,e⟩:=g;have p:k<9:=t;have C:=Fa b v.2.2.2.1 (cQ o n) k;refine dC (c:=ar (aO (ar (cg (ar (aO (ar lH 3)) 2)) 2)) 2) (λa w=>∃q:Option Addr×Nat,(dv (oE v b o n q.1 q.2 (l++fb b v.2.2.2.1 (cQ o n) (k+1)) 123 ([(27,al 122 0),(28,sJ (k+1))]) ([(122,e7 (cQ o n))])) (ak.sep (jh cl q.1 q.2 (l++fb b v.2.2.2.1 (cQ o n) (k+1))) G)) a w) ab ab ?_ ?_;refine akl v b s o n A G k p d e _ (by show(l++fb b v.2.2.2.1 (cQ o n) k).length<1000000;rw[bA];omega) λi j=>?_;rw[cZ,<-Jx];exact cv λ_ _ f=>⟨(i,j),f⟩;refine p4 (λa w f=>f) λq=>?_;refine gcd bU 1 (λD=>bL iL 28 D) (λy=>oE v b o n q.1 q.2 (l++fb b v.2.2.2.1 (cQ o n) (k+1)) 123 ([(27,al 122 0),(28,sJ y)]) ([(122,e7 (cQ o n))])) (λy=>y=((k+1:Nat):Int)+1) ?_ (λy u=>?_);intros;refine @av ((oE v b o n q.fst q.snd (l++fb b v.snd.snd.snd.fst (cQ o n) (k+1)) 123 [(27,SV.is (TV.one (ax.ptr 122 0))),(28,sJ (i64.wrap ((k:Int)+(1:Int)+(1:Int))))] [(122,e7 (cQ o n))]).aj (i64.wrap ((k:Int)+(1:Int)+(1:Int))=(↑(k+1):Int)+(1:a6 iL))) _ ?_ ?_;kernel_rfl;exact aw (by rw[show k+1=((k+1:Nat):Int)from rfl];exact a5 aa);have u:y=((k+1:Nat):Int)+1:=u;subst u;exact cv λ_ _ f=>⟨(k+1,q.1,q.2),⟨aa,aa⟩,f⟩
 ·obtain⟨k,d,e⟩:=g;have p:k=9:=by have:k<=9:=m;have:¬k<9:=t;omega
  subst p;refine fh (oE v b o n d e (l++fb b v.2.2.2.1 (cQ o n) 9) 106 ([]) ([])) ?_;exact h d e
theorem akm(v:An×Int×Int×cX)(b:List (Option Nat))(s:b.length=10)(o:List cX)(N:o.length<10000)(G:ak)(a:Option Addr)(c:Nat)(l:List cX)(L:l.length<700000){C r:aA}{D:Nat->aA}(h:∀j p,aR au (lH.drop 4) (dv (oE v b o o.length j p (l++dV b v.2.2.2.1 o) 106 ([]) ([])) (ak.sep (jh cl j p (l++dV b v.2.2.2.1 o)) G)) C r D):
  aR au (lH.drop 3) (dv (oE v b o 0 a c l 106 ([]) ([])) (ak.sep (jh cl a c l) G)) C r D:=by
 rw[<-(bF l:l++dV b v.2.2.2.1 (o.take 0)=l)];refine rz bU ao (c:=ar lH 3) (λg:Nat×Option Addr×Nat=>oE v b o g.1 g.2.1 g.2.2 (l++dV b v.2.2.2.1 (o.take g.1)) 106 ([]) ([])) (λg=>ak.sep (jh cl g.2.1 g.2.2 (l++dV b v.2.2.2.1 (o.take g.1))) G) (λg=>g.1<=o.length) (λg=>g.1<o.length) (λg=>o.length-g.1) (0,a,c) ab ab (aY _) (λg f w ids M num=>?_) (λg f t=>?_) (λg f t=>?_);obtain⟨k,d,e⟩:=g;have f:k<=o.length:=f;refine @av ((decide ((k:Int)<(o.length:Int))=true->(oE v b o (k,d,e).fst (k,d,e).snd.fst (k,d,e).snd.snd (l++dV b v.snd.snd.snd.fst (take (k,d,e).fst o)) 106 [] []).aj (k<o.length))/\(decide ((k:Int)<(o.length:Int))=false->(oE v b o (k,d,e).fst (k,d,e).snd.fst (k,d,e).snd.snd (l++dV b v.snd.snd.snd.fst (take (k,d,e).fst o)) 106 [] []).aj ¬k<o.length)) _ ?_ ?_;kernel_rfl;exact⟨λh=>aw (by have:=Odt h;omega),λh=>aw (by have:=Odf h;omega)⟩;obtain⟨n,d,e⟩:=g;have A:n<o.length:=t;have I:=MS b v.2.2.2.1 o n;have F:=Jy b v.2.2.2.1 o n A;refine dC (c:=ar (aO (ar lH 3)) 2) (λa w=>∃q:Option Addr×Nat,(dv (oE v b o n q.1 q.2 (l++dV b v.2.2.2.1 (o.take (n+1))) 106 ([]) ([])) (ak.sep (jh cl q.1 q.2 (l++dV b v.2.2.2.1 (o.take (n+1)))) G)) a w) ab ab ?_ ?_;refine alV v b s o n A aa G d e _ (by show(l++dV b v.2.2.2.1 (o.take n)).length<900000;rw[bA];omega) λj p=>?_;rw[cZ,<-F];exact cv λ_ _ i=>⟨(j,p),i⟩;refine p4 (λa w i=>i) λq=>?_;refine gcd bU 1 (λK=>bL iL 190 K) (λy=>VN v b o y q.1 q.2 (l++dV b v.2.2.2.1 (o.take (n+1))) 106) (λy=>y=((n+1:Nat):Int)) ?_ (λy x=>?_);intros;refine @av ((VN v b o (i64.wrap ((n:Int)+(1:Int))) q.fst q.snd (l++dV b v.snd.snd.snd.fst (take (n+1) o)) 106).aj (i64.wrap ((n:Int)+(1:Int))=(↑(n+1):Int))) _ ?_ ?_;kernel_rfl;exact aw (a5 aa);have x:y=((n+1:Nat):Int):=x;subst x;exact cv λ_ _ i=>⟨(n+1,q.1,q.2),⟨aa,aa⟩,i⟩
 ·obtain⟨k,d,e⟩:=g;have H:k=o.length:=by have:k<=o.length:=f;have:¬k<o.length:=t;omega
  subst H;have h:=h d e;rw[<-bg (l:=o)]at h;rw[bg]at h;rw[bg];exact h
end
end law23
end Go.Proofs.YtofofalgjibokaaGreatDoor
open Go.IntKind(i64)
/- RiteAnew: a step of time for each member. Printed by tools/gen_lrd.py. -/
namespace Go.Proofs.YtofofalgjibokaaGreatDoor
namespace law23
open bf deal rite Go.Eng.Ob
structure Plan(z:An) where
 T:Nat->Nat->List cc->List cX->Prop
 M:Nat->Nat->List cc->List cX->Prop
 K:Nat->Nat
 t0:∀{ts},Made z 9 ts->T 0 0 ts []
 tl:∀{s i ts l},T s i ts l->l.length<600000
 ml:∀{s k ts l},M s k ts l->l.length<600000
 no:∀{s i ts l},T s i ts l->s<4->i<9->(bm ts).getD (i+1) none=none->T s (i+1) ts l
 yes:∀{s i ts l},T s i ts l->s<4->i<9->∀j (h:j<ts.length),ts[j].z.R.me=(i:Int)+1->TOk ts[j]/\∀u o,Ticks (5*(s:Int)) ts[j] u o->o.length<10000/\(u.z.R.me=ts[j].z.R.me/\u.z.R.p=ts[j].z.R.p)/\T s (i+1) (ts.set j u) (l++dV (bm ts) ((i:Int)+1) o)
 m0:∀{s ts l},T s 9 ts l->s<4->M s 0 ts l
 mB:∀{s k ts l},M s k ts l->k<=K s/\k<=20000
 qZ:∀{s k ts x l},M s k ts (x::l)->(1<=x.1/\x.1<=9)/\x.2.body.length<=100000/\(∃p,(bm ts).getD x.1.toNat none=some p)/\∀j (h:j<ts.length),ts[j].z.R.me=x.1->ts[j].fin=false/\InZ.Ok ⟨ts[j].z,x.2⟩/\∀q,(nu ⟨ts[j].z,x.2⟩ q).length<10000/\((tQ ⟨ts[j].z,x.2⟩ q).R.me=ts[j].z.R.me/\(tQ ⟨ts[j].z,x.2⟩ q).R.p=ts[j].z.R.p)/\M s (k+1) (ts.set j ⟨tQ ⟨ts[j].z,x.2⟩ q,false⟩) (l++dV (bm ts) x.1 (nu ⟨ts[j].z,x.2⟩ q))
 mt:∀{s k ts},M s k ts []->s<4->T (s+1) 0 ts []
abbrev YF(a:List cc):List (Int×Nat):=a.map λt=>(t.z.R.me,t.z.R.p)
theorem YG(a:List cc):bm a=(range 10).map λi:Nat=>((YF a).find? λy=>y.1==(i:Int)).map λy=>y.2:=by
 unfold bm YF;refine qE λi _=>?_;rw[List.find?_map];cases h:a.find? (λt=>t.z.R.me==(i:Int))with
 |none=>rw[show(λy:Int×Nat=>y.1==(i:Int))∘(λt:cc=>(t.z.R.me,t.z.R.p))=λt=>t.z.R.me==(i:Int)from rfl,h];rfl
 |some t=>rw[show(λy:Int×Nat=>y.1==(i:Int))∘(λt:cc=>(t.z.R.me,t.z.R.p))=λt=>t.z.R.me==(i:Int)from rfl,h];rfl
theorem YH{a:List cc}{j:Nat}(h:j<a.length){u:cc}(b:u.z.R.me=a[j].z.R.me)(c:u.z.R.p=a[j].z.R.p):bm (a.set j u)=bm a:=by
 have e:YF (a.set j u)=YF a:=by unfold YF;rw[wm];refine qS λi=>?_;rw[pn];split;rename_i e;subst e;rw[ah (by rw[b5];exact h),dM,bO h,b,c];rfl;rfl
 rw[YG,YG,e]
theorem FQ{a:List cc}{i p:Nat}(g:i<10)(h:(bm a).getD i none=some p):∃j,∃d:j<a.length,a[j].z.R.me=(i:Int)/\a[j].z.R.p=p:=by
 rw[bx,Bw _ _ g]at h;cases e:a.find? (λt=>t.z.R.me==(i:Int))with
 |none=>rw[e]at h;cases h
 |some t=>
  rw[e]at h;have k:t.z.R.p=p:=by simpa using h
  obtain⟨j,d,b⟩:=List.mem_iff_getElem.1 (List.mem_of_find?_eq_some e);have f:=List.find?_some e;exact⟨j,d,by rw[b];simpa using f,by rw[b];exact k⟩
theorem I9(a:List cc)(j:Nat)(h:j<a.length):ij a=ak.sep a[j].eF (oH ((a.map cc.eF).eraseIdx j)):=by unfold ij;rw[Lq _ j (by rw[b5];exact h),qJ]
theorem S5(a:List cc)(j:Nat)(h:j<a.length)(u:cc):ak.sep u.eF (oH ((a.map cc.eF).eraseIdx j))=ij (a.set j u):=by unfold ij;rw[wm,acd _ j (by rw[b5];exact h)]
theorem YQ{y:Option Nat}(h:y=none):dE (ag (.fv .pq y)) lu:=λb v a=>by subst h;have a:[v]=[Value.pointer none]/\_:=a;exact⟨a.1,rfl⟩
theorem Ql{y:Option Nat}{p:Nat}(h:y=some p):dE (ag (.fv .pq y)) (aT p):=λb v a=>by subst h;have a:[v]=[pt p]/\_:=a;exact⟨a.1,rfl⟩
def uI(z:An)(s i:Int)(d:List (Option Nat))(a:Option Addr)(c:Nat)(l:List cX)(b:g9):St:=nC 81 ([(1,sJ z.m),(11,ag (.ro .fr z.bJ)),(15,al 80 0),(18,ag (.v (.slice a l.length c))),(19,sJ s),(20,sJ i)]++b) [(80,[.row .pq 10 d])]
abbrev gN(b:List cc)(a:Option Addr)(c:Nat)(l:List cX):ak:=ak.sep (jh cl a c l) (ij b)
section
variable [W3]
theorem ajX{z:An}(pl:Plan z){s i:Nat}(H:s<4)(G:i<9){b:List cc}{l:List cX}(n:pl.T s i b l)(a:Option Addr)(c:Nat){K r:aA}{L:Nat->aA}(h:∀F d e D,pl.T s (i+1) F D->aR au (sB.drop 2) (dv (uI z s ((i:Int)+1) (bm F) d e D []) (gN F d e D)) K r L):
  aR au sB (dv (uI z s ((i:Int)+1) (bm b) a c l []) (gN b a c l)) K r L:=by
 have N:=pl.tl n;have C:IntKind.i64.wrap (5*(s:Int))=5*(s:Int):=bC aa aa;have t:((i:Int)+1).toNat=i+1:=aa;refine eX 34 (bS (ar sB 0)) ?_;refine iS bU 5 (λW=>(bL iL 132 W)) (λq=>uI z s ((i:Int)+1) (bm b) a c l [(130,ag (.fv .pq ((bm b).getD ((i:Int)+1).toNat none))),(132,sJ q)]) (λq=>q=5*(s:Int)) ?_ (λq A=>?_);intros;refine @av ((0<=(i:Int)+1/\(i:Int)+1<(↑(10:Nat):Int))/\((i:Int)+1).toNat<10/\(uI z (s:Int) ((i:Int)+1) (bm b) a c l [(130,SV.is (TV.one (ax.fv Kd.pq ((bm b).getD ((i:Int)+1).toNat none)))),(132,sJ (IntKind.i64.wrap (5*(s:Int))))]).aj (IntKind.i64.wrap (5*(s:Int))=(5:a6 iL)*(s:Int))) _ ?_ ?_;kernel_rfl;exact⟨⟨aa,by show(i:Int)+1<10;omega⟩,aa,aw C⟩;have A:q=5*(s:Int):=A;subst A;rw[t];cases I:(bm b).getD (i+1) none with
 |none=>refine jx (k8 λh=>iy 130 lu (by exact YQ rfl) h) ?_;refine iM (E:=iY) (G':=ak.sep ak.none (gN b a c l)) (by rw[gf,kT]) ?_;refine ju (E:=iY) (cT (λ_=>gN b a c l) (abD sha.fE)) (5*(s:Int)) trivial yb (λ_ _=>?_);refine iM (E:=iY) (G':=gN b a c l) (by rw[gf,kT]) ?_;refine eG bU 8 (VO (z,(s:Int),(i:Int)+1) (bm b) [] 0 a c l 81) (eK ?_);refine Y2 (z,(s:Int),(i:Int)+1) (bm b) (wQ b) [] ae (ij b) a c l aa λd e=>?_;have f:=pl.no n H G I;rw[show l++dV (bm b) ((i:Int)+1) []=l from bF l];refine fh (uI z s ((i:Int)+1) (bm b) d e l []) ?_;exact h b d e l f
 |some p=>obtain⟨j,k,w,P⟩:=FQ aa I;have w:b[j].z.R.me=(i:Int)+1:=w;obtain⟨x,g⟩:=pl.yes n H G j k w;refine jx (k8 λh=>iy 130 (aT p) (by exact Ql rfl) h) ?_;refine iM (E:=iY) (G':=ak.sep b[j].eF (ak.sep (oH ((b.map cc.eF).eraseIdx j)) (jh cl a c l))) (by unfold gN;rw[I9 b j k,gf,lA]) ?_;subst P;refine ju (E:=iY) (cT (λ_=>ak.sep (oH ((b.map cc.eF).eraseIdx j)) (jh cl a c l)) Tc) (b[j],5*(s:Int)) x yb (λy Q=>?_);obtain⟨u,o⟩:=y;obtain⟨O,⟨U,V⟩,f⟩:=g u o Q;have m:=YH k U V;refine iM (E:=iY) (G':=gN (b.set j u) a c l) (by unfold gN;rw[<-S5 b j k u,<-lA,gf]) ?_;refine eG bU 8 (VO (z,(s:Int),(i:Int)+1) (bm b) o 0 a c l 81) (eK ?_);refine Y2 (z,(s:Int),(i:Int)+1) (bm b) (wQ b) o O (ij (b.set j u)) a c l aa λd e=>?_;refine fh (uI z s ((i:Int)+1) (bm b) d e (l++dV (bm b) ((i:Int)+1) o) []) ?_;have h:=h (b.set j u) d e _ f;rw[m]at h;exact h
theorem ajW{z:An}(pl:Plan z){s:Nat}(L:s<4){u:List cc}{l:List cX}(H:pl.T s 0 u l)(a:Option Addr)(c:Nat){F r:aA}{G:Nat->aA}(h:∀b n o m,pl.T s 9 b m->aR au (vt.drop 2) (dv (uI z s 10 (bm b) n o m []) (gN b n o m)) F r G):
  aR au (vt.drop 1) (dv (uI z s 1 (bm u) a c l []) (gN u a c l)) F r G:=by
 refine rz (E:=iY) bU ao (c:=(ar vt 1)) (λg:Nat×List cc×List cX×Option Addr×Nat=>uI z s ((g.1:Int)+1) (bm g.2.1) g.2.2.2.1 g.2.2.2.2 g.2.2.1 []) (λg=>gN g.2.1 g.2.2.2.1 g.2.2.2.2 g.2.2.1) (λg=>g.1<=9/\pl.T s g.1 g.2.1 g.2.2.1) (λg=>g.1<9) (λg=>9-g.1) (0,u,l,a,c) ab ab ⟨aY _,H⟩ (λg t w ids M num=>?_) (λg t C=>?_) (λg t C=>?_);obtain⟨i,b,k,e,f⟩:=g;refine @av ((decide ((i:Int)+(1:Int)<=9)=true->(uI z (s:Int) ((↑(i,b,k,e,f).fst:Int)+1) (bm (i,b,k,e,f).snd.fst) (i,b,k,e,f).snd.snd.snd.fst (i,b,k,e,f).snd.snd.snd.snd (i,b,k,e,f).snd.snd.fst []).aj (i<9))/\(decide ((i:Int)+(1:Int)<=9)=false->(uI z (s:Int) ((↑(i,b,k,e,f).fst:Int)+1) (bm (i,b,k,e,f).snd.fst) (i,b,k,e,f).snd.snd.snd.fst (i,b,k,e,f).snd.snd.snd.snd (i,b,k,e,f).snd.snd.fst []).aj ¬i<9)) _ ?_ ?_;kernel_rfl;exact⟨λh=>aw (by have:=Odt h;omega),λh=>aw (by have:=Odf h;omega)⟩
 ·obtain⟨i,b,k,e,f⟩:=g;have I:i<9:=C;have y:pl.T s i b k:=t.2;refine dC (E:=iY) (c:=ar (aO (ar vt 1)) 2) (λa w=>∃q:List cc×List cX×Option Addr×Nat,pl.T s (i+1) q.1 q.2.1/\(dv (uI z s ((i:Int)+1) (bm q.1) q.2.2.1 q.2.2.2 q.2.1 []) (gN q.1 q.2.2.1 q.2.2.2 q.2.1)) a w) ab ab ?_ ?_;refine ajX pl L I y e f λd n o m x=>?_;exact cv λ_ _ p=>⟨(d,m,n,o),x,p⟩
  ·refine p4 (Pre':=λ(q:List cc×List cX×Option Addr×Nat) a w=>pl.T s (i+1) q.1 q.2.1/\(dv (uI z s ((i:Int)+1) (bm q.1) q.2.2.1 q.2.2.2 q.2.1 []) (gN q.1 q.2.2.1 q.2.2.2 q.2.1)) a w) (λa w p=>p) λq=>?_;obtain⟨d,m,n,o⟩:=q;have D:pl.T s (i+1) d m->aR au (((aO (ar vt 1)).drop 2).tail) (dv (uI z s ((i:Int)+1) (bm d) n o m []) (gN d n o m)) (λa w=>∃j:Nat×List cc×List cX×Option Addr×Nat,((j.1<=9/\pl.T s j.1 j.2.1 j.2.2.1)/\9-j.1<9-i)/\(dv (uI z s ((j.1:Int)+1) (bm j.2.1) j.2.2.2.1 j.2.2.2.2 j.2.2.1 []) (gN j.2.1 j.2.2.2.1 j.2.2.2.2 j.2.2.1)) a w) r (λ_ _ _=>False):=λN=>by
    refine gcd bU 1 (λO=>bL iL 20 O) (λq=>uI z s q (bm d) n o m []) (λq=>q=((i+1:Nat):Int)+1) ?_ (λq A=>?_);intros;refine @av ((uI z (s:Int) (IntKind.i64.wrap ((i:Int)+(1:Int)+1)) (bm d) n o m []).aj (IntKind.i64.wrap ((i:Int)+(1:Int)+1)=(↑(i+1):Int)+(1:a6 iL))) _ ?_ ?_;kernel_rfl;exact aw (by rw[show(i:Int)+1=((i+1:Nat):Int)from rfl];exact a5 aa);have A:q=((i+1:Nat):Int)+1:=A;subst A;exact cv λa w p=>⟨(i+1,d,m,n,o),⟨⟨by show i+1<=9;omega,N⟩,by show 9-(i+1)<9-i;omega⟩,p⟩
   exactλa w Q p=>D p.1 a w Q p.2
 ·obtain⟨i,b,k,e,f⟩:=g;have K:i=9:=by have:i<=9:=t.1;have:¬i<9:=C;show i=9;omega
  subst K;exact h b e f k t.2
end
end law23
end Go.Proofs.YtofofalgjibokaaGreatDoor
/- RiteAnew: the letters B7. Printed by tools/gen_lre.py. -/
namespace Go.Proofs.YtofofalgjibokaaGreatDoor
namespace law23
open bf deal rite Go.Eng.Ob
theorem FU{E:cJ}{N:Nat}{b:Array Oper}{k:Nat}{e:St}{op:Op}{i:Type}{m:i->SV}{G:ak}{j:i->ak}{J:i->Prop}(d:isStep e.S b k=true)(f:j8 b k=op)(h:∀n,jM E.P E.gl e.S op n G m j J):
  BZ E b k (GH E N e G) J (λg=>GH E N (e.put (nD b k) (m g)) (j g)):=fJ (E:=E) d (by rw[f];exact h _)
theorem alm{t:cc}(h:t.fin=false):t.eF=t.z.eF:=by obtain⟨z,f⟩:=t;have h:f=false:=h;subst h;rfl
def o7(z:An)(s k:Int)(e:List (Option Nat))(a:Option Addr)(c n next:Nat)(d:g9)(b:e5):St:=nC next ([(1,sJ z.m),(11,ag (.ro .fr z.bJ)),(15,al 80 0),(18,ag (.v (.slice a n c))),(19,sJ s),(24,sJ k)]++d) ((80,[.row .pq 10 e])::b)
section
variable [W3]
theorem aj1(z:An)(s k:Int)(b:List cc)(x:cX)(l:List cX)(a:Option Addr)(c:Nat){n r:aA}{p:Nat->aA}(h:∀e f,aR au (lH.drop 2) (dv (o7 z s k (bm b) e f l.length 106 ([(25,al 105 0)]) ([(105,e7 x)])) (gN b e f l)) n r p):
  aR au lH (dv (o7 z s k (bm b) a c (x::l).length 81 ([]) ([])) (gN b a c (x::l))) n r p:=by
 obtain⟨i,C,m,A,w,u,q⟩:=I3;obtain⟨d,t⟩:=Option.isSome_iff_exists.1 (show(Tryz.prog.underlying 59).isSome=true by kernel_rfl);have j:Tryz.prog.cellsOf 59=aC cl:=ab;refine eX 46 (bS (ar lH 0)) ?_;refine eG bU 1 (o7 z s k (bm b) a c (x::l).length 81 ([(176,ag (.v (.slice a (x::l).length c)))]) ([])) ?_;refine hZ (FU (E:=iY) (op:=.indexAddr 57 (.tmp 176) (.const (.int .i64 0))) ab ab (λo=>q7 (ij b) (agn (κ:=cl) (a:=a) (cap:=c) (l:=x::l) JS m rfl (pr _) ab ab))) (λ_ _=>?_);refine hZ (FU (E:=iY) (op:=.load 59 (.tmp 177)) ab ab (λo=>q7 (ij b) (ajC (κ:=cl) (a:=a) (cap:=c) (y:=x) (l:=l) t ab j ab))) (λ_ _=>?_);refine eG bU 5 (o7 z s k (bm b) a c (x::l).length 106 ([(25,al 105 0)]) ([(105,e7 x)])) (eK ?_);refine eX 47 (bS (ar lH 1)) ?_;refine eG bU 1 (o7 z s k (bm b) a c (x::l).length 106 ([(25,al 105 0),(179,ag (.v (.slice a (x::l).length c)))]) ([(105,e7 x)])) ?_;refine hZ (FU (E:=iY) (op:=.slice 57 (.tmp 179) (some (.const (.int .i64 1))) none none) ab ab (λo=>q7 (ij b) (ajD (κ:=cl) (a:=a) (cap:=c) (y:=x) (l:=l) JS m u rfl ab ab))) (λg _=>?_);obtain⟨e,f⟩:=g;refine eG bU 3 (o7 z s k (bm b) e f l.length 106 ([(25,al 105 0)]) ([(105,e7 x)])) (eK ?_);exact h e f
theorem agy{z:An}(pl:Plan z){s k:Nat}(Y:s<4){d:List cc}{x:cX}{l:List cX}(o:pl.M s k d (x::l))(a:Option Addr)(c:Nat){I r:aA}{K:Nat->aA}(h:∀G e f F,pl.M s (k+1) G F->aR au (lH.drop 6) (dv (o7 z s k (bm G) e f F.length 81 [] []) (gN G e f F)) I r K):
  aR au (lH.drop 2) (dv (o7 z s k (bm d) a c l.length 106 [(25,al 105 0)] [(105,e7 x)]) (gN d a c l)) I r K:=by
 have A:=pl.ml o;rw[cP]at A;obtain⟨⟨W,X⟩,L,⟨p,H⟩,y⟩:=pl.qZ o;obtain⟨j,i,C,Q⟩:=FQ aa H;have C:d[j].z.R.me=x.1:=by rw[C];omega
 obtain⟨N,D,g⟩:=y j i C;have O:=(pl.mB o).2;refine ko ao (rid:=48) (ops:=bS (ar lH 2)) ab ?_;refine Hl [9,0,1,2,3,4,5,6,7,8] ab ?_;refine yl (E:=iY) (sJ 0) ab ab (Ab (S:=(o7 z s k (bm d) a c l.length 106 [(25,al 105 0)] [(105,e7 x)]).S) (.const (.int .i64 0))) ?_;refine fY bU 8 (λ_=>()) (λ_=>o7 z s k (bm d) a c l.length 106 [(25,al 105 0),(184,ag (.fv .pq ((bm d).getD x.1.toNat none))),(187,.is (.agg (df x.2))),(190,sJ 0)] [(105,e7 x)]) (λ_=>True) ae ab ?_ (λ_ _=>?_);intros;refine @av ((0<=x.fst/\x.fst<(↑(10:Nat):Int))/\x.fst.toNat<10/\ref01.xL (x.snd.snd.snd.snd.snd.snd.snd,())/\(o7 z (s:Int) (k:Int) (bm d) a c l.length 106 [(25,SV.is (TV.one (ax.ptr 105 0))),(184,SV.is (TV.one (ax.fv Kd.pq ((bm d).getD x.fst.toNat none)))),(187,SV.is (TV.agg (df x.snd))),(190,sJ 0)] [(105,e7 x)]).aj True) _ ?_ ?_;kernel_rfl;exact⟨⟨aa,by show x.1<10;omega⟩,aa,by show x.2.body.length<=_;omega,aw trivial⟩;subst Q;refine s8 (k8 λh=>iy 184 (aT d[j].z.R.p) (by exact Ql H) h) ?_;refine qX (E:=iY) (G':=ak.sep d[j].z.eF (ak.sep (oH ((d.map cc.eF).eraseIdx j)) (jh cl a c l))) (by unfold gN;rw[I9 d j i,alm N,gf,lA]) ?_;refine qW (jZ (E:=iY) (cT (λ_=>ak.sep (oH ((d.map cc.eF).eraseIdx j)) (jh cl a c l)) (alz sha.fE)) ⟨d[j].z,x.2⟩ D ab IC ab ab (λ_=>rfl)) ab ab (λq _=>?_);obtain⟨P,⟨T,U⟩,t⟩:=g q;have n:=YH i (u:=⟨tQ ⟨d[j].z,x.2⟩ q,false⟩) T U;refine qX (E:=iY) (G':=gN (d.set j ⟨tQ ⟨d[j].z,x.2⟩ q,false⟩) a c l) (by unfold gN;rw[<-S5 d j i,<-lA,gf];rfl) ?_;refine jw bU (λ_=>()) (λ_=>VN (z,(s:Int),(k:Int),x) (bm d) (nu ⟨d[j].z,x.2⟩ q) 0 a c l 106) (λ_=>True) (Odt ab) ?_ (λ_ _=>?_);intros;refine @av ((VN (z,(s:Int),(k:Int),x) (bm d) (nu {z:=d[j].z,m:=x.snd} q) 0 a c l 106).aj True) _ ?_ ?_;kernel_rfl;exact aw trivial;refine akm (z,(s:Int),(k:Int),x) (bm d) (wQ d) (nu ⟨d[j].z,x.2⟩ q) P (ij (d.set j ⟨tQ ⟨d[j].z,x.2⟩ q,false⟩)) a c l aa λe f=>?_;refine gcd bU 1 (λV=>bL .bool 228 V) (λb=>o7 z s k (bm d) e f (l++dV (bm d) x.1 (nu ⟨d[j].z,x.2⟩ q)).length 81 [(228,aD b)] []) (λb=>b=decide ((k:Int)>20000)) ?_ (λb w=>?_);intros;refine @av ((o7 z (s:Int) (k:Int) (bm d) e f (l++dV (bm d) x.fst (nu {z:=d[j].z,m:=x.snd} q)).length 81 [(228,aD (decide ((k:Int)>20000)))] []).aj (decide ((k:Int)>20000)=decide ((k:Int)>20000))) _ ?_ ?_;kernel_rfl;exact aw rfl;have w:b=decide ((k:Int)>20000):=w;subst w;rw[cm (by omega:¬(k:Int)>20000)];refine fF (ar lH 5) ?_;refine fh (o7 z s k (bm d) e f (l++dV (bm d) x.1 (nu ⟨d[j].z,x.2⟩ q)).length 81 [] []) ?_;have h:=h (d.set j ⟨tQ ⟨d[j].z,x.2⟩ q,false⟩) e f _ t;rw[n]at h;exact h
theorem aj0{z:An}(pl:Plan z){s:Nat}(R:s<4){y:List cc}{l:List cX}(P:pl.M s 0 y l)(a:Option Addr)(c:Nat){I r:aA}{L:Nat->aA}(h:∀d m n k,pl.M s k d []->aR au (vt.drop 4) (dv (o7 z s k (bm d) m n 0 81 [] []) (gN d m n [])) I r L):
  aR au (vt.drop 3) (dv (o7 z s 0 (bm y) a c l.length 81 [] []) (gN y a c l)) I r L:=by
 refine rz (E:=iY) bU ao (c:=(ar vt 3)) (λg:Nat×List cc×List cX×Option Addr×Nat=>o7 z s g.1 (bm g.2.1) g.2.2.2.1 g.2.2.2.2 g.2.2.1.length 81 [] []) (λg=>gN g.2.1 g.2.2.2.1 g.2.2.2.2 g.2.2.1) (λg=>pl.M s g.1 g.2.1 g.2.2.1) (λg=>0<g.2.2.1.length) (λg=>pl.K s+1-g.1) (0,y,l,a,c) ab ab P (λg u w ids M num=>?_) (λg u D=>?_) (λg u D=>?_);obtain⟨k,d,b,f,i⟩:=g;refine @av ((decide ((b.length:Int)>0)=true->(o7 z (s:Int) (↑(k,d,b,f,i).fst:Int) (bm (k,d,b,f,i).snd.fst) (k,d,b,f,i).snd.snd.snd.fst (k,d,b,f,i).snd.snd.snd.snd (k,d,b,f,i).snd.snd.fst.length 81 [] []).aj (0<b.length))/\(decide ((b.length:Int)>0)=false->(o7 z (s:Int) (↑(k,d,b,f,i).fst:Int) (bm (k,d,b,f,i).snd.fst) (k,d,b,f,i).snd.snd.snd.fst (k,d,b,f,i).snd.snd.snd.snd (k,d,b,f,i).snd.snd.fst.length 81 [] []).aj ¬0<b.length)) _ ?_ ?_;kernel_rfl;exact⟨λh=>aw (by have:=Odt h;omega),λh=>aw (by have:=Odf h;omega)⟩
 ·obtain⟨k,d,b,f,i⟩:=g;have o:pl.M s k d b:=u;cases b with
  |nil=>exact absurd D (zw 0)
  |cons x H=>
  have U:=pl.mB o;refine dC (E:=iY) (c:=ar (aO (ar vt 3)) 2) (λa w=>∃q:List cc×List cX×Option Addr×Nat,pl.M s (k+1) q.1 q.2.1/\(dv (o7 z s k (bm q.1) q.2.2.1 q.2.2.2 q.2.1.length 81 [] []) (gN q.1 q.2.2.1 q.2.2.2 q.2.1)) a w) ab ab ?_ ?_;refine aj1 z s k d x H f i λN O=>?_;refine agy pl R o N O λe m n t A=>?_;exact cv λ_ _ p=>⟨(e,t,m,n),A,p⟩
  ·refine p4 (Pre':=λ(q:List cc×List cX×Option Addr×Nat) a w=>pl.M s (k+1) q.1 q.2.1/\(dv (o7 z s k (bm q.1) q.2.2.1 q.2.2.2 q.2.1.length 81 [] []) (gN q.1 q.2.2.1 q.2.2.2 q.2.1)) a w) (λa w p=>p) λq=>?_;obtain⟨e,t,m,n⟩:=q;have F:pl.M s (k+1) e t->aR au (((aO (ar vt 3)).drop 2).tail) (dv (o7 z s k (bm e) m n t.length 81 [] []) (gN e m n t)) (λa w=>∃j:Nat×List cc×List cX×Option Addr×Nat,(pl.M s j.1 j.2.1 j.2.2.1/\pl.K s+1-j.1<pl.K s+1-k)/\(dv (o7 z s j.1 (bm j.2.1) j.2.2.2.1 j.2.2.2.2 j.2.2.1.length 81 [] []) (gN j.2.1 j.2.2.2.1 j.2.2.2.2 j.2.2.1)) a w) r (λ_ _ _=>False):=λG=>by
    refine gcd bU 1 (λT=>bL iL 24 T) (λq=>o7 z s q (bm e) m n t.length 81 [] []) (λq=>q=((k+1:Nat):Int)) ?_ (λq C=>?_);intros;refine @av ((o7 z (s:Int) (IntKind.i64.wrap ((k:Int)+1)) (bm e) m n t.length 81 [] []).aj (IntKind.i64.wrap ((k:Int)+1)=(↑(k+1):Int))) _ ?_ ?_;kernel_rfl;exact aw (a5 aa);have C:q=((k+1:Nat):Int):=C;subst C;exact cv λa w p=>⟨(k+1,e,t,m,n),⟨G,by have:=(pl.mB G).1;show pl.K s+1-(k+1)<pl.K s+1-k;omega⟩,p⟩
   exactλa w Q p=>F p.1 a w Q p.2
 ·obtain⟨k,d,b,f,i⟩:=g;have o:pl.M s k d b:=u;cases b with
  |nil=>exact h d f i k o
  |cons x H=>exact absurd (pr _) D
end
end law23
end Go.Proofs.YtofofalgjibokaaGreatDoor
/- RiteAnew: the steps. Printed by tools/gen_lrx.py. -/
namespace Go.Proofs.YtofofalgjibokaaGreatDoor
namespace law23
open bf deal rite Go.Eng.Ob
def Bz(z:An)(s:Int)(b:List (Option Nat))(a:Option Addr)(c:Nat):St:=nC 81 [(1,sJ z.m),(11,ag (.ro .fr z.bJ)),(15,al 80 0),(18,ag (.v (.slice a 0 c))),(19,sJ s)] [(80,[.row .pq 10 b])]
section
variable [W3]
theorem ab8{z:An}(pl:Plan z){o:List cc}(R:Made z 9 o){O r:aA}{P:Nat->aA}(h:∀d a c,pl.T 4 0 d []->aR au ((aq kt).drop 20) (dv (Bz z 4 (bm d) a c) (gN d a c [])) O r P):
  aR au ((aq kt).drop 17) (dv (jK z 10 (bm o) 81 [] []) (ij o)) O r P:=by
 obtain⟨i,zz,W,hz,Z,hw,V⟩:=I3;refine a7 (G':=ak.sep ak.none (ij o)) (by rw[gf ak.none,kT]) ?_;refine eX 27 (bS (ar (aq kt) 17)) ?_;refine hZ (FU (E:=iY) (op:=.buildSlice 57 0 #[]) ab ab (λty=>q7 (ij o) (ago (κ:=cl) JS W))) (λb _=>?_);refine eG bU 2 (nC 81 [(1,sJ z.m),(11,ag (.ro .fr z.bJ)),(15,al 80 0),(18,ag (.v (.slice (some ⟨b,0,none⟩) 0 0)))] [(80,[.row .pq 10 (bm o)])]) (eK ?_);refine e6 bU 1 (Bz z 0 (bm o) (some ⟨b,0,none⟩) 0) ?_;refine rz (E:=iY) bU ao (c:=ar (aq kt) 19) (λg:Nat×List cc×Option Addr×Nat=>Bz z g.1 (bm g.2.1) g.2.2.1 g.2.2.2) (λg=>gN g.2.1 g.2.2.1 g.2.2.2 []) (λg=>g.1<=4/\pl.T g.1 0 g.2.1 []) (λg=>g.1<4) (λg=>4-g.1) (0,o,some ⟨b,0,none⟩,0) ab ab ⟨aY _,pl.t0 R⟩ (λg u w ids M num=>?_) (λg u F=>?_) (λg u F=>?_);obtain⟨s,d,e,f⟩:=g;refine @av ((decide ((s:Int)<4)=true->(Bz z (↑(s,d,e,f).fst:Int) (bm (s,d,e,f).snd.fst) (s,d,e,f).snd.snd.fst (s,d,e,f).snd.snd.snd).aj (s<4))/\(decide ((s:Int)<4)=false->(Bz z (↑(s,d,e,f).fst:Int) (bm (s,d,e,f).snd.fst) (s,d,e,f).snd.snd.fst (s,d,e,f).snd.snd.snd).aj ¬s<4)) _ ?_ ?_;kernel_rfl;exact⟨λh=>aw (by have:=Odt h;omega),λh=>aw (by have:=Odf h;omega)⟩
 ·obtain⟨s,d,e,f⟩:=g;have y:s<4:=F;have U:pl.T s 0 d []:=u.2;refine dC (E:=iY) (c:=ar (aO (ar (aq kt) 19)) 2) (λa w=>∃q:List cc×Option Addr×Nat,pl.T (s+1) 0 q.1 []/\(dv (Bz z s (bm q.1) q.2.1 q.2.2) (gN q.1 q.2.1 q.2.2 [])) a w) ab ab ?_ ?_;show aR _ vt _ _ _ _;refine e6 bU 1 (uI z s 1 (bm d) e f [] []) ?_;refine ajW pl y U e f λH I L l2 C=>?_;refine e6 bU 1 (o7 z s 0 (bm H) I L l2.length 81 [] []) ?_;refine aj0 pl y (pl.m0 C y) I L λx K N k A=>?_;refine fh (Bz z s (bm x) K N) ?_;exact cv λ_ _ n=>⟨(x,K,N),pl.mt A y,n⟩
  ·refine p4 (Pre':=λ(q:List cc×Option Addr×Nat) a w=>pl.T (s+1) 0 q.1 []/\(dv (Bz z s (bm q.1) q.2.1 q.2.2) (gN q.1 q.2.1 q.2.2 [])) a w) (λa w n=>n) λq=>?_;obtain⟨j,p,t⟩:=q;have G:pl.T (s+1) 0 j []->aR au (((aO (ar (aq kt) 19)).drop 2).tail) (dv (Bz z s (bm j) p t) (gN j p t [])) (λa w=>∃l:Nat×List cc×Option Addr×Nat,((l.1<=4/\pl.T l.1 0 l.2.1 [])/\4-l.1<4-s)/\(dv (Bz z l.1 (bm l.2.1) l.2.2.1 l.2.2.2) (gN l.2.1 l.2.2.1 l.2.2.2 [])) a w) r (λ_ _ _=>False):=λY=>by
    refine gcd bU 1 (λσ=>bL iL 19 σ) (λq=>Bz z q (bm j) p t) (λq=>q=((s+1:Nat):Int)) ?_ (λq D=>?_);intros;refine @av ((Bz z (IntKind.i64.wrap ((s:Int)+1)) (bm j) p t).aj (IntKind.i64.wrap ((s:Int)+1)=(↑(s+1):Int))) _ ?_ ?_;kernel_rfl;exact aw (a5 aa);have D:q=((s+1:Nat):Int):=D;subst D;exact cv λa w n=>⟨(s+1,j,p,t),⟨⟨by show s+1<=4;omega,Y⟩,by show 4-(s+1)<4-s;omega⟩,n⟩
   exactλa w Q n=>G n.1 a w Q n.2
 ·obtain⟨s,d,e,f⟩:=g;have X:s=4:=by have:s<=4:=u.1;have:¬s<4:=F;show s=4;omega
  subst X;exact h d e f u.2
end
end law23
end Go.Proofs.YtofofalgjibokaaGreatDoor
/- RiteAnew: the ends. Printed by tools/gen_lrx.py. -/
namespace Go.Proofs.YtofofalgjibokaaGreatDoor
namespace law23
open bf deal rite Go.Eng.Ob
def yJ(z:An)(i:Int)(d:List (Option Nat))(b:g9)(a:e5):St:=nC 81 ([(1,sJ z.m),(11,ag (.ro .fr z.bJ)),(15,al 80 0),(29,sJ i)]++b) ((80,[.row .pq 10 d])::a)
def sD(z:An)(i:Int)(b:List (Option Nat))(a:g9)(cs:cb):St:=nC 146 ([(1,sJ z.m),(11,ag (.ro .fr z.bJ)),(15,al 80 0),(29,sJ i),(30,al 145 0)]++a) [(80,[.row .pq 10 b]),(145,cs)]
abbrev ahj:=LI×cj×Fr×LI
abbrev D6(y:ahj):cb:=[.ro iL y.1,.ro bM y.2.1,.row .fr 1 [y.2.2.1],.ints .u8 32 y.2.2.2]
def Fu(z:An)(t:cc):Prop:=TOk t/\∃y:ahj,w7 t=.tup [.agg (D6 y),.one (vI 0),.one .T]/\y.2.1.length<1000/\law22.LX y.2.1 0=g1.dt g1.gG (z.bJ.getD 0 0)/\(3<=t.z.R.me->t.z.R.me<3+z.m->law22.qU y.2.1 t.z.R.me y.2.2.1=true)
section
variable [W3]
theorem ake(z:An)(A:z.Ok)(i:Nat)(Z:i<9)(d:List cc)(N:∀j (h:j<d.length),Fu z d[j])(G:ak){D r:aA}{H:Nat->aA}(Y:∀a w,(dv (yJ z ((i:Int)+1) (bm d) [] []) (ak.sep (ij d) G)) a w->H 19 a w) (U:∀a w,(dv (yJ z ((i:Int)+1) (bm d) [] []) (ak.sep (ij d) G)) a w->D a w):
  aR au (cg (ar (aO (ar (aq kt) 21)) 2)) (dv (yJ z ((i:Int)+1) (bm d) [] []) (ak.sep (ij d) G)) D r H:=by
 have k:((i:Int)+1).toNat=i+1:=aa;have P:=A.m1;have Q:=A.m3;have V:0<z.bJ.length:=by unfold An.bJ;rw[Mu];have:=A.w1;omega
 refine eX 62 (bS (ar (cg (ar (aO (ar (aq kt) 21)) 2)) 0)) ?_;refine iS bU 3 (λ_=>()) (λ_=>yJ z ((i:Int)+1) (bm d) [(236,ag (.fv .pq ((bm d).getD ((i:Int)+1).toNat none)))] []) (λ_=>True) ?_ (λ_ _=>?_);intros;refine @av ((0<=(i:Int)+1/\(i:Int)+1<(↑(10:Nat):Int))/\((i:Int)+1).toNat<10/\(yJ z ((i:Int)+1) (bm d) [(236,SV.is (TV.one (ax.fv Kd.pq ((bm d).getD ((i:Int)+1).toNat none))))] []).aj True) _ ?_ ?_;kernel_rfl;exact⟨⟨aa,by show(i:Int)+1<10;omega⟩,aa,aw trivial⟩;rw[k];cases l:(bm d).getD (i+1) none with
 |none=>
  refine jx (k8 λh=>iy 236 lu (by exact YQ rfl) h) ?_;refine iM (E:=iY) (G':=ak.sep ak.none (ak.sep (ij d) G)) (by rw[gf ak.none,kT]) ?_;refine ju (E:=iY) (cT (λ_=>ak.sep (ij d) G) (agb sha.fE)) () trivial xD (λ_ _=>?_);refine iM (E:=iY) (G':=ak.sep (ij d) G) (by rw[gf ak.none,kT]) ?_;refine eG bU 12 (sD z ((i:Int)+1) (bm d) [(31,sJ 0),(32,ag .F)] BW) (eK ?_);refine gcd bU 1 (λn=>bL .bool 244 n) (λb=>sD z ((i:Int)+1) (bm d) [(32,ag .F),(244,aD b)] BW) (λb=>b=(!isSome ((bm d).getD ((i:Int)+1).toNat none))) ?_ (λb f=>?_);intros;refine @av ((0<=(i:Int)+1/\(i:Int)+1<10)/\((i:Int)+1).toNat<10/\(sD z ((i:Int)+1) (bm d) [(32,ag .F),(244,aD (!isSome ((bm d).getD ((i:Int)+1).toNat none)))] BW).aj ((!isSome ((bm d).getD ((i:Int)+1).toNat none))=(!isSome ((bm d).getD ((i:Int)+1).toNat none)))) _ ?_ ?_;kernel_rfl;exact⟨⟨aa,by show(i:Int)+1<10;omega⟩,aa,aw rfl⟩;have f:b=(!isSome ((bm d).getD ((i:Int)+1).toNat none)):=f;have f:b=true:=by rw[f,k,l];rfl
  subst f;refine va bU ao 1 (λ_=>()) (λ_=>sD z ((i:Int)+1) (bm d) [] BW) (λ_=>False) (λ_=>False) (λe q=>match beq e 19 with|true=>q.le (cS (iY)) (yJ z ((i:Int)+1) (bm d) [] []) True|false=>False) ?_ (λ_ h=>h.elim) (λ_ _ _ h _=>h.elim) (λe q a w h O=>?_);intros;refine @av ((true=true->(yJ z ((i:Int)+1) (bm d) [] []).aj True)/\(true=false->(sD z ((i:Int)+1) (bm d) [] BW).aj False)) _ ?_ ?_;kernel_rfl;exact⟨λ_=>aw trivial,λh=>by cases h⟩
  ·cases s:beq e 19 with
   |true=>rw[s]at h;have I:e=19:=ji s;subst I;exact Y a w (O.le h).2
   |false=>rw[s]at h;exact h.elim
 |some p=>
  obtain⟨j,t,u,W⟩:=FQ aa l;have u:d[j].z.R.me=(i:Int)+1:=u;obtain⟨x,y,C,hl,o,g⟩:=N j t;rw[u]at g;refine jx (k8 λh=>iy 236 (aT p) (by exact Ql rfl) h) ?_;refine iM (E:=iY) (G':=ak.sep d[j].eF (ak.sep (oH ((d.map cc.eF).eraseIdx j)) G)) (by rw[I9 d j t];exact lA _ _ _) ?_;subst W;refine hZ (jZ (E:=iY) (cT (λ_=>ak.sep (oH ((d.map cc.eF).eraseIdx j)) G) (S8 sha.fE)) d[j] x ab xD ab ab (λ_=>by show SV.ids (w7 d[j])=[];rw[C];rfl)) (λ_ _=>?_);rw[C];refine iM (E:=iY) (G':=ak.sep (ij d) G) (by rw[I9 d j t];exact(lA _ _ _).symm) ?_;refine eG bU 12 (sD z ((i:Int)+1) (bm d) [(31,sJ 0),(32,ag .T)] (D6 y)) (eK ?_);refine gcd bU 1 (λn=>bL .bool 244 n) (λb=>sD z ((i:Int)+1) (bm d) [(31,sJ 0),(32,ag .T),(244,aD b)] (D6 y)) (λb=>b=(!isSome ((bm d).getD ((i:Int)+1).toNat none))) ?_ (λb f=>?_);intros;refine @av ((0<=(i:Int)+1/\(i:Int)+1<10)/\((i:Int)+1).toNat<10/\(sD z ((i:Int)+1) (bm d) [(31,sJ 0),(32,ag .T),(244,aD (!isSome ((bm d).getD ((i:Int)+1).toNat none)))] (D6 y)).aj ((!isSome ((bm d).getD ((i:Int)+1).toNat none))=(!isSome ((bm d).getD ((i:Int)+1).toNat none)))) _ ?_ ?_;kernel_rfl;exact⟨⟨aa,by show(i:Int)+1<10;omega⟩,aa,aw rfl⟩;have f:b=(!isSome ((bm d).getD ((i:Int)+1).toNat none)):=f;have f:b=false:=by rw[f,k,l];rfl
  subst f;refine fF (ar (cg (ar (aO (ar (aq kt) 21)) 2)) 2) ?_;refine jY bU ao 1 262 (λn=>bL .bool 262 n) (λb=>sD z ((i:Int)+1) (bm d) [(31,sJ 0),(32,ag .T),(262,aD b)] (D6 y)) (λb=>b=false) (λ_=>False) (λ_ _=>False) ?_ (λb f=>?_) (λ_ _ _ h _=>h.elim) (λ_ _ _ _ h _=>h.elim);intros;refine @av (((0 != 0)=true->(sD z ((i:Int)+1) (bm d) [(31,sJ 0),(32,SV.is (TV.one ax.T)),(262,aD true)] (D6 y)).aj (true=false))/\((0 != 0)=false->Ty (y.snd.fst,())/\True/\((0:Int)<=0/\0<(z.bJ.length:Int))/\0<z.bJ.length/\True/\(sD z ((i:Int)+1) (bm d) [(31,sJ 0),(32,SV.is (TV.one ax.T)),(262,aD !p3 (Kd.fp.pair Kd.fp) (law22.LX y.snd.fst 0) (g1.dt g1.gG (z.bJ.getD 0 (0:Fr))))] (D6 y)).aj ((!p3 (Kd.fp.pair Kd.fp) (law22.LX y.snd.fst 0) (g1.dt g1.gG (z.bJ.getD 0 (0:Fr))))=false))) _ ?_ ?_;kernel_rfl;exact⟨λh=>absurd h ae,λ_=>⟨by show y.2.1.length<_;omega,trivial,⟨ae,aa⟩,aa,trivial,aw (by rw[o];exact congrArg (λb=> !b) ((Ba _ _).2 rfl))⟩⟩;have f:b=false:=f;subst f;refine fF (ar (cg (ar (aO (ar (aq kt) 21)) 2)) 4) ?_;refine jY bU ao 1 279 (λn=>bL .bool 279 n) (λb=>sD z ((i:Int)+1) (bm d) [(31,sJ 0),(32,ag .T),(279,aD b)] (D6 y)) (λb=>b=false) (λ_=>False) (λ_ _=>False) ?_ (λb f=>?_) (λ_ _ _ h _=>h.elim) (λ_ _ _ _ h _=>h.elim);intros;refine @av ((decide ((i:Int)+(1:Int)>=3)=true->(decide ((i:Int)+1<IntKind.i64.wrap (3+z.m))=true->poly.Bu (y.snd.fst,(i:Int)+1,y.snd.snd.fst,())/\(sD z ((i:Int)+1) (bm d) [(31,sJ 0),(32,SV.is (TV.one ax.T)),(279,aD !(law22.qU y.snd.fst ((i:Int)+1) y.snd.snd.fst,()).fst)] (D6 y)).aj ((!law22.qU y.snd.fst ((i:Int)+1) y.snd.snd.fst)=false))/\(decide ((i:Int)+1<IntKind.i64.wrap (3+z.m))=false->(sD z ((i:Int)+1) (bm d) [(31,sJ 0),(32,SV.is (TV.one ax.T)),(279,aD false)] (D6 y)).aj (false=false)))/\(decide ((i:Int)+(1:Int)>=3)=false->(sD z ((i:Int)+1) (bm d) [(31,sJ 0),(32,SV.is (TV.one ax.T)),(279,aD false)] (D6 y)).aj (false=false))) _ ?_ ?_;kernel_rfl;rw[show IntKind.i64.wrap (3+z.m)=3+z.m from bC aa aa];exact⟨λK=>⟨λL=>⟨⟨by show y.2.1.length<_;omega,⟨aa,aa⟩⟩,aw (by rw[g (by have:=Odt K;omega) (by have:=Odt L;omega)];rfl)⟩,λ_=>aw rfl⟩,λ_=>aw rfl⟩;have f:b=false:=f;subst f;refine fF (ar (cg (ar (aO (ar (aq kt) 21)) 2)) 6) ?_;refine fh (yJ z ((i:Int)+1) (bm d) [] []) ?_;exact cv U
end
end law23
end Go.Proofs.YtofofalgjibokaaGreatDoor
/- RiteAnew: the whole walk. Printed by tools/gen_lrw.py. -/
namespace Go.Proofs.YtofofalgjibokaaGreatDoor
namespace law23
open bf deal rite Go.Eng.Ob
abbrev raR:SV->ak->Prop:=λs G=>∃_:Unit,True/\dE s (aD true)/\G=ak.none
structure Known(z:An):Prop where
 pre:∀i,1<=i->i<=9->(z.iq i).Pre
 fine:∀i,1<=i->i<=9->((z.iq i).bad=false/\(z.iq i).nQ=false/\sr (z.iq i).me (z.iq i).mem↔z.mb i=true)
 plan:∃pl:Plan z,∀us,pl.T 4 0 us []->∀j (h:j<us.length),Fu z us[j]
section
variable [W3]
theorem agI(z:An)(l:z.Ok)(b:List cc)(k:∀j (h:j<b.length),Fu z b[j])(a:Option Addr)(c:Nat):
  aR au ((aq kt).drop 20) (dv (Bz z 4 (bm b) a c) (gN b a c [])) (du (iY) kt raR) (du (iY) kt raR) (λ_ _ _=>False):=by
 refine a7 (G':=ak.sep (ij b) (jh cl a c [])) (gf _ _) ?_;refine e6 bU 1 (yJ z 1 (bm b) [] []) ?_;refine rz (E:=iY) bU ao (c:=ar (aq kt) 21) (λi:Nat=>yJ z ((i:Int)+1) (bm b) [] []) (λ_=>ak.sep (ij b) (jh cl a c [])) (λi=>i<=9) (λi=>i<9) (λi=>9-i) 0 ab ab (aY _) (λi f w ids M num=>?_) (λi f g=>?_) (λi f g=>?_);refine av (X:=((decide ((i:Int)+(1:Int)<=9)=true->(yJ z ((i:Int)+1) (bm b) [] []).aj (i<9))/\(decide ((i:Int)+(1:Int)<=9)=false->(yJ z ((i:Int)+1) (bm b) [] []).aj ¬i<9))) ab ?_;exact⟨λh=>aw (by have:=Odt h;omega),λh=>aw (by have:=Odf h;omega)⟩;refine dC (E:=iY) (c:=(ar (aO (ar (aq kt) 21)) 2)) (dv (yJ z ((i:Int)+1) (bm b) [] []) (ak.sep (ij b) (jh cl a c []))) ab ab ?_ ?_;refine ake z l i g b k _ (λa w d=>?_) (λ_ _ d=>d);rw[show beq 19 (cH (ar (aO (ar (aq kt) 21)) 2))=true from by kernel_rfl];exact d;refine gcd bU 1 (λm=>bL iL 29 m) (λq=>yJ z q (bm b) [] []) (λq=>q=((i+1:Nat):Int)+1) ?_ (λq e=>?_);intros;refine @av ((yJ z (IntKind.i64.wrap ((i:Int)+(1:Int)+1)) (bm b) [] []).aj (IntKind.i64.wrap ((i:Int)+(1:Int)+1)=(↑(i+1):Int)+(1:a6 iL))) _ ?_ ?_;kernel_rfl;exact aw (by rw[show(i:Int)+1=((i+1:Nat):Int)from rfl];exact a5 aa);have e:q=((i+1:Nat):Int)+1:=e;subst e;exact cv λ_ _ d=>⟨i+1,⟨aa,aa⟩,d⟩;refine a7 (G':=ak.sep (ak.sep (ij b) (jh cl a c [])) ak.none) (kT _).symm ?_;refine OJ ?_;exact tP bU (ag .T) ⟨(),trivial,Ac,rfl⟩
theorem agv(k:∀z:An,z.Ok->Known z)(n m e d:Int)(b:LI)(p:Bs b):
  aR au (aq kt) (dv (nC 0 [(0,sJ n),(1,sJ m),(2,sJ e),(3,sJ d),(4,ag (.ro (.int .u8) b))] []) (ak.none)) (du (iY) kt raR) (du (iY) kt raR) (λ_ _ _=>False):=by
 refine e6 bU 1 (nC 8 [(0,sJ n),(1,sJ m),(2,sJ e),(3,sJ d),(4,ag (.ro (.int .u8) b))] []) ?_;refine eX 1 (bS (ar (aq kt) 1)) ?_;refine ju (E:=iY) agd () trivial Oe (λ_ _=>?_);refine jx (k8 λh=>iy 33 (ag .T) jc h) ?_;refine eG bU 2 (nC 8 [(0,sJ n),(1,sJ m),(2,sJ e),(3,sJ d),(4,ag (.ro (.int .u8) b)),(34,ag .F)] []) (eK ?_);refine gqF (ar (aq kt) 2) ?_;refine gcd bU 1 (λt=>bL .bool 37 t) (λq=>nC 8 [(0,sJ n),(1,sJ m),(2,sJ e),(3,sJ d),(4,ag (.ro (.int .u8) b)),(37,aD q)] []) (λq=>q=decide ((b.length:Int)>100)) ?_ (λq s=>?_);intros;refine @av ((nC 8 [(0,sJ n),(1,sJ m),(2,sJ e),(3,sJ d),(4,SV.is (TV.one (ax.ro (Kd.int IntKind.u8) b))),(37,aD (decide ((b.length:Int)>100)))] []).aj (decide ((b.length:Int)>100)=decide ((b.length:Int)>100))) _ ?_ ?_;kernel_rfl;exact aw rfl;cases q
 ·refine fF (ar (aq kt) 4) ?_;have r:b.length<=100:=by have:=Odf s.symm;omega
  refine fh (nC 8 [(0,sJ n),(1,sJ m),(2,sJ e),(3,sJ d),(4,ag (.ro (.int .u8) b))] []) ?_;refine apb n m e d b p r λz i=>?_;have g:=k z i;refine agw z i g.pre g.fine λu l=>?_;obtain⟨pl,f⟩:=g.plan;exact ab8 pl l λj a c o=>agI z i j (f j o) a c
 refine jX (ar (aq kt) 4) ?_;refine jy bU ao (ag .T) ?_ ⟨(),trivial,Ac,rfl⟩;intros;refine @av (SV.is (TV.one ax.T)=SV.is (TV.one ax.T)) _ ?_ ?_;kernel_rfl;rfl
end
abbrev Tw:HL [.int .i64,.int .i64,.int .i64,.int .i64,Im]->Prop:=λ(n,m,c,a,b,_)=>gb n/\gb m/\gb c/\gb a/\preB b
theorem Xo{P:Program}{G:hU}{f:FuncId}{fn:Func}(o:aF P f fn){a:List Kd}{pre:HL a->Prop}(h:fk P G f (λd:HL a=>oq a d) pre (λ_=>ak.none) (λ_ (_:Unit)=>aD true) (λ_ _=>ak.none) (λ_ _=>True)):bu P f a [.val .bool] G pre (λ_=>(true,())):=by intro w M s d m j c q;refine .inl ⟨o.2 _ _,(h d q w M s (λ_=>False) (λ_ h=>h) m j (λ_ h=>h.elim) (tK (ρ:=aI.start M) c)).mono ?_⟩;rintro e x ⟨y,v,F2,t,u,rfl,l,i,b,g,n,r⟩;refine⟨v,rfl,[v],none,rfl,⟨v,[],rfl,r.1,rfl⟩,⟨b.os,b.tape,b.output,b.size,λk p=>b.block k p (λh=>h)⟩⟩
theorem aaP(e:∀z:An,z.Ok->Known z):bu au 4 [.int .i64,.int .i64,.int .i64,.int .i64,Im] [.val .bool] sha.fE Tw (λ_=>(true,())):=by refine Xo G7 ?_;refine dD (sp:=abX) G7 ab (λz=>by show 5<=kt.ntmps;exact Odt ab) (λz y=>rfl) ?_;rintro⟨n,m,c,a,b,⟨⟩⟩ d _;revert n m c a b;intro(n:Int) (m:Int) (c:Int) (a:Int) (b:LI) d;refine fh (nC 0 [(0,sJ n),(1,sJ m),(2,sJ c),(3,sJ a),(4,ag (.ro (.int .u8) b))] []) ?_;exact agv e n m c a b d.2.2.2.2.1
def dQ(N M:Nat):LI:=Lib.compact (sorti.kA (dg N++gV M))
def q0(N M i:Nat):Bool:=ble i N||(ble 3 i&&blt i (3+M))
def ahB(N M:Nat):Bool:=iD 0 (dg N)&&iD 0 (gV M)&&ble (dQ N M).length 9&&((dQ N M).all λx=>decide (1<=x/\x<=9))&&((range (dQ N M).length).all λj=>decide (jD (dQ N M) j<(dQ N M).getD j 0/\(dQ N M).getD j 0<=9))&&(range 10).all λi=>beq i 0||(decide ((i:Int)∈dQ N M)==q0 N M i)
theorem aeU:∀N,N<5->1<=N->∀M,M<4->1<=M->ahB N M=true:=by decide +kernel
structure Cfg(N M:Nat):Prop where
 rd:iD 0 (dg N)=true
 rt:iD 0 (gV M)=true
 len:(dQ N M).length<=9
 rng:∀x∈dQ N M,1<=x/\x<=9
 good:ry (dQ N M) (dQ N M).length
 mem:∀i:Nat,1<=i->i<=9->((i:Int)∈dQ N M↔q0 N M i=true)
theorem An.Ok.cfg{z:An}(h:z.Ok):Cfg z.n.toNat z.m.toNat:=by have r:=h.n1;have s:=h.n4;have t:=h.m1;have u:=h.m3;have k:=aeU z.n.toNat aa aa z.m.toNat aa aa;unfold ahB at k;simp only[bD]at k;obtain⟨⟨⟨⟨⟨e,f⟩,g⟩,l⟩,o⟩,q⟩:=k;refine⟨e,f,fR g,λx d=>Odt (all_eq_true.1 l x d),λj c=>Odt (all_eq_true.1 o j (mem_range.2 c)),λi a b=>?_⟩;have k7:=all_eq_true.1 q i (mem_range.2 aa);rw[sO]at k7;rcases k7 with k7|k7;have:=ji k7;omega;rw[qM]at k7;rw[<-k7];exact decide_eq_true_iff.symm
theorem S1{z:An}(h:z.Ok)(i:Nat):z.mb (i:Int)=q0 z.n.toNat z.m.toNat i:=by
 have d:=h.n1;have f:=h.m1;unfold An.mb q0;have a:decide ((i:Int)<=z.n)=ble i z.n.toNat:=by
  cases e:ble i z.n.toNat with
  |true=>exact b6 (by have:=fR e;omega)
  |false=>exact cm (λq=>by have:ble i z.n.toNat=true:=DJ aa;rw[e]at this;cases this)
 have b:decide ((i:Int)>=3)=ble 3 i:=by
  cases e:ble 3 i with
  |true=>exact b6 (by have:=fR e;omega)
  |false=>exact cm (λq=>by have:ble 3 i=true:=DJ aa;rw[e]at this;cases this)
 have c:decide ((i:Int)<3+z.m)=blt i (3+z.m.toNat):=by
  cases e:blt i (3+z.m.toNat)with
  |true=>exact b6 (by have:=fR e;omega)
  |false=>exact cm (λq=>by have:ble (i+1) (3+z.m.toNat)=true:=DJ aa;unfold blt at e;rw[e]at this;cases this)
 rw[a,b,c]
theorem vn(z:An)(i:Int):(z.fH i).length=z.bG.toNat:=by rw[An.fH,jT,Mu]
theorem FH(z:An):z.bJ.length=z.was.toNat:=Mu _ _ _
theorem qg{N:Nat}{x:Int}:x∈dg N↔1<=x/\x<=N:=ahc
theorem KY{M:Nat}{x:Int}:x∈gV M↔3<=x/\x<3+M:=by unfold gV;rw[mem_map];constructor;rintro⟨i,a,rfl⟩;have:=mem_range.1 a;omega;intro h;exact⟨(x-3).toNat,mem_range.2 aa,aa⟩
theorem S6{z:An}(h:z.Ok)(i:Int):(z.iq i).Pre:=by have b:=h.n4;have c:=h.m3;have d:=h.wn;have e:=h.km;have a:=h.cfg;refine⟨?_,?_,?_,?_⟩;show(dg z.n.toNat).length+(gV z.m.toNat).length<=12;rw[rI,BR];omega;have:=a.len;show(dQ z.n.toNat z.m.toNat).length<1000;omega;show(poly.cr z.bJ).length<1000;rw[rite.jq,FH];omega;show(z.pl i).length<1000;unfold An.pl;split;rw[vn];omega;exact pr _
theorem Ps{z:An}(h:z.Ok)(i:Int)(D:1<=i)(E:i<=9):(z.iq i).bad=false/\(z.iq i).nQ=false/\sr (z.iq i).me (z.iq i).mem↔z.mb i=true:=by
 have s:=h.n1;have t:=h.n4;have u:=h.m1;have w:=h.m3;have x:=h.w1;have y:=h.wn;have A:=h.k1;have C:=h.km;have b:=h.cfg;have p:(z.iq i).bad=false:=by
  have e:qp (dg z.n.toNat) (gV z.m.toNat) z.bG (poly.cr z.bJ)=0:=by
   unfold qp;rw[rI,BR,rite.jq,FH,b.rd,b.rt];have d:((z.n.toNat:Int)==0)=false:=by rw[qP];omega
   have f:((z.m.toNat:Int)==0)=false:=by rw[qP];omega
   have g:decide (z.bG<1)=false:=cm aa;have j:decide (z.bG>(z.m.toNat:Int))=false:=cm aa;have l:decide ((z.was.toNat:Int)>(z.n.toNat:Int))=false:=cm aa;have o:((z.was.toNat:Int)==0)=false:=by rw[qP];omega
   simp only[d,f,g,j,l,o];rfl
  show(((gA (qp (dg z.n.toNat) (gV z.m.toNat) z.bG (poly.cr z.bJ)) != 0)||decide ((5:Int)<1)||decide ((5:Int)>1048576))||decide ((0:Int)<0)||decide ((0:Int)>1099511627776))=false;rw[bq,e];decide
 have c:(z.iq i).nQ=false:=by
  show(decide (i∈dg z.n.toNat)&&(((z.pl i).length:Int) != z.bG))=false;by_cases r:i<=z.n
  ·have e:(((z.pl i).length:Int) != z.bG)=false:=by
    rw[An.pl,ah r,vn,bne_eq_false_iff_eq];omega
   rw[e,oY]
  rw[cm (λq=>by have:=(qg.1 q).2;omega),mG]
 have a:(i∈dQ z.n.toNat z.m.toNat↔z.mb i=true):=by have k:=b.mem i.toNat aa aa;have e:((i.toNat:Nat):Int)=i:=aa;rw[<-S1 h,e]at k;exact k
 exact⟨λq=>a.1 q.2.2.2,λq=>⟨p,c,b.good,a.2 q⟩⟩
end law23
end Go.Proofs.YtofofalgjibokaaGreatDoor
namespace Go.Hbn
open Go.Hbm(dG Told gq Ur gP dy)
def Gs(l:gq):gq:=l.map λp=>(p.1,[])
def Gt(t:dd):dd:={t with ptr:=0,e:=0,r:=0,ech:=Gs t.ech,rdy:=Gs t.rdy}
def gj(H:a8):a8:={H with p:=0,mp:=0,aX:=H.aX.map Gt}
def eJ(m:dG):dG:=(m.1,m.2.1,m.2.2.1,m.2.2.2.1,m.2.2.2.2.1,m.2.2.2.2.2.1,[])
def Oj(t:Hbm.Told):Hbm.Told:=(t.1,t.2.1,[])
section
variable (B:Int->Int->LI)
def xQ(l:gq)(b:LI):Prop:=∀s∈l,s.2=b
def ZN(t:dd):Prop:=xQ t.ech (B t.bo t.bE)/\xQ t.rdy (B t.bo t.bE)
def Fit(H:a8):Prop:=∀t∈H.aX,ZN B t
def l6(m:dG):Prop:=m.body=B m.bo m.bE/\m.body.length<=4096
abbrev zQ(H:a8):List (Int×Int):=H.aX.map λt=>(t.bo,t.bE)
def Pl(H:a8)(i:Nat)(m:dG):Prop:=∀k,(zQ H)[i]?=some k->k=(m.bo,m.bE)
structure Er(H:a8)(p p':ez):Prop where
 h:gj p.1=p'.1
 m:p.2.1.map eJ=p'.2.1
 t:p.2.2.map Oj=p'.2.2
 fit:Fit B p.1
 key:zQ p.1=zQ H
 ms:∀x∈p.2.1,l6 B x
 ts:∀x∈p.2.2,x.2.2=B x.1 x.2.1
variable {B}
theorem Ol{l:gq}{b:LI}(h:xQ l b):gP (Gs l) []=gP l b:=by
 have c:((Gs l).filter λx=>x.2==[])=Gs l:=List.filter_eq_self.2 λx a=>by obtain⟨y,_,rfl⟩:=mem_map.1 a;rfl
 have d:(l.filter λx=>x.2==b)=l:=List.filter_eq_self.2 λx a=>by rw[h x a];exact beq_self_eq_true _
 unfold gP;rw[c,d,Gs,b5]
theorem Oo(l:gq)(f:Int):dy (Gs l) f=dy l f:=by unfold dy Gs;rw[List.any_map];rfl
theorem ov(H:a8)(i:Nat):(gj H).get i=Gt (H.get i):=by show(H.aX.map Gt).getD i Bn=Gt (H.aX.getD i Bn);rw[bx,bx,dM];cases H.aX[i]? <;> rfl
theorem Ef(H:a8)(i:Nat)(t:dd):gj (H.set i t)=(gj H).set i (Gt t):=by unfold gj a8.set;simp only[wm]
theorem adC(H:a8)(m:dG):(gj H).at (eJ m)=H.at m:=by
 show(H.aX.map Gt).findIdx (kP (eJ m))=H.aX.findIdx (kP m);induction H.aX with
 |nil=>rfl
 |cons t l a=>have e:kP (eJ m) (Gt t)=kP m t:=rfl;rw[eV,qG,qG,a,e]
theorem P4{H:a8}{i:Nat}{m:dG}(g:Fit B H)(k:Pl H i m)(j:l6 B m):xQ (H.get i).ech m.body/\xQ (H.get i).rdy m.body:=by
 show xQ (H.aX.getD i Bn).ech _/\xQ (H.aX.getD i Bn).rdy _;rw[bx];cases h:H.aX[i]? with
 |none=>exact⟨λs b=>(by cases b),λs b=>by cases b⟩
 |some t=>have a:=g t (ft h);have c:(t.bo,t.bE)=(m.bo,m.bE):=k _ (by show(H.aX.map _)[i]?=_;rw[dM,h];rfl);have d:t.bo=m.bo:=congrArg Prod.fst c;have e:t.bE=m.bE:=congrArg Prod.snd c;unfold ZN at a;rw[d,e,<-j.1]at a;exact a
theorem BI{H:a8}{i:Nat}{m:dG}(c:Fit B H)(x:Pl H i m)(s:l6 B m)(t:dd)(k:t.bo=(H.get i).bo)(l:t.bE=(H.get i).bE)(n:xQ t.ech m.body)(o:xQ t.rdy m.body):Fit B (H.set i t)/\zQ (H.set i t)=zQ H:=by
 have r:zQ (H.set i t)=(zQ H).set i (t.bo,t.bE):=by show(H.aX.set i t).map _=_;rw[wm]
 by_cases a:i<H.aX.length
 ·have e:H.get i=H.aX[i]:=by show H.aX.getD i Bn=_;rw[bx,bO a];rfl
  have ek:(zQ H)[i]?=some (t.bo,t.bE):=by show(H.aX.map _)[i]?=_;rw[dM,bO a,k,l,e];rfl
  have b:(t.bo,t.bE)=(m.bo,m.bE):=x _ ek;refine⟨λu y=>?_,?_⟩;rcases zb y with q|q;exact c u q;subst q;have d:u.bo=m.bo:=congrArg Prod.fst b;have g:u.bE=m.bE:=congrArg Prod.snd b;unfold ZN;rw[d,g,<-s.1];exact⟨n,o⟩;rw[r];refine qS λj=>?_;rw[pn];split;rename_i p;subst p;split;exact ek.symm;rename_i w;exact absurd (by show i<(H.aX.map _).length;rw[b5];exact a) w;rfl
 ·have e:H.aX.set i t=H.aX:=List.set_eq_of_length_le aa;have h:H.set i t=H:=by unfold a8.set;rw[e]
  rw[h];exact⟨c,rfl⟩
theorem Pl.same{H K:a8}{i:Nat}{m:dG}(h:Pl H i m)(k:zQ K=zQ H):Pl K i m:=λx a=>h x (by rw[<-k];exact a)
theorem L0{H:a8}{i:Nat}{m:dG}(b:Fit B H)(f:Pl H i m)(c:l6 B m):Er B H (iF H i m) (iF (gj H) i (eJ m)):=by
 obtain⟨g,d⟩:=P4 b f c;have e:gP ((gj H).get i).rdy (eJ m).body=gP (H.get i).rdy m.body:=by rw[ov];exact Ol d
 have h:((gj H).get i).told=(H.get i).told:=by rw[ov];rfl
 unfold iF;rw[e,h];show Er B H (if(!(H.get i).told&&decide (gP (H.get i).rdy m.body>2*H.nV))=true then _ else _) (if(!(H.get i).told&&decide (gP (H.get i).rdy m.body>2*H.nV))=true then _ else _);split;obtain⟨j,k⟩:=BI b f c {H.get i with told:=true} rfl rfl g d;exact⟨by rw[ov];exact Ef _ _ _,rfl,rfl,j,k,λx a=>(by cases a),λx a=>by have e:x=(m.bo,m.bE,m.body):=List.mem_singleton.1 a;subst e;exact c.1⟩;exact⟨rfl,rfl,rfl,b,rfl,λx a=>(by cases a),λx a=>by cases a⟩
theorem Sk{H:a8}{p a:ez}{f f':a8->ez}(h:Er B H p a)(k:Fit B p.1->zQ p.1=zQ H->Er B p.1 (f p.1) (f' (gj p.1))):Er B H (andThen p f) (andThen a f'):=by
 have k:=k h.fit h.key;rw[h.h]at k
 exact⟨k.h,by show(p.2.1++_).map eJ=a.2.1++_;rw[cE,h.m,k.m],by show(p.2.2++_).map Oj=a.2.2++_;rw[cE,h.t,k.t],k.fit,k.key.trans h.key,
  λx b=>by rcases List.mem_append.1 b with q|q;exact h.ms x q;exact k.ms x q,λx b=>by rcases List.mem_append.1 b with q|q;exact h.ts x q;exact k.ts x q⟩
theorem Er.of{H K:a8}{p a:ez}(h:Er B K p a)(k:zQ K=zQ H):Er B H p a:=⟨h.h,h.m,h.t,h.fit,h.key.trans k,h.ms,h.ts⟩
variable {rec rec':a8->dG->ez}(hr:∀H m,Fit B H->l6 B m->Er B H (rec H m) (rec' (gj H) (eJ m)))
include hr
theorem Xd{H:a8}{m:dG}(b:Fit B H)(c:l6 B m)(k:Int):Er B H (mS rec H k m) (mS rec' (gj H) k (eJ m)):=by have a:l6 B (own H k m):=c;have h:=hr H (own H k m) b a;exact⟨h.h,by show eJ (own H k m)::(rec H (own H k m)).2.1.map eJ=_;rw[h.m];rfl,h.t,h.fit,h.key,λx d=>by rcases mem_cons.1 d with q|q;(rw[q];exact a);exact h.ms x q,h.ts⟩
theorem Cc{H:a8}{i:Nat}{m:dG}(c:Fit B H)(b:Pl H i m)(a:l6 B m):Er B H (eR rec H i m) (eR rec' (gj H) i (eJ m)):=by
 obtain⟨d,e⟩:=P4 c b a;have h:gP ((gj H).get i).rdy (eJ m).body=gP (H.get i).rdy m.body:=by rw[ov];exact Ol e
 have j:gP ((gj H).get i).ech (eJ m).body=gP (H.get i).ech m.body:=by rw[ov];exact Ol d
 have k:((gj H).get i).ready=(H.get i).ready:=by rw[ov];rfl
 unfold eR;rw[h,j,k];show Er B H (if(!(H.get i).ready&&(decide (gP (H.get i).ech m.body>H.half)||decide (gP (H.get i).rdy m.body>H.nV)))=true then _ else _) (if(!(H.get i).ready&&(decide (gP (H.get i).ech m.body>(gj H).half)||decide (gP (H.get i).rdy m.body>(gj H).nV)))=true then _ else _);have l:(gj H).half=H.half:=rfl;have n:(gj H).nV=H.nV:=rfl;rw[l,n];split
 ·obtain⟨r,g⟩:=BI c b a {H.get i with ready:=true} rfl rfl d e;have o:(gj H).set i {(gj H).get i with ready:=true}=gj (H.set i {H.get i with ready:=true}):=by rw[Ef,ov];rfl
  rw[o];exact(Sk (Xd hr r a 3) λp q=>L0 p ((b.same g).same q) a).of g
 exact L0 c b a
theorem Xc{H:a8}{i:Nat}{m:dG}(e:Fit B H)(c:Pl H i m)(b:l6 B m):Er B H (lq rec H i m) (lq rec' (gj H) i (eJ m)):=by
 obtain⟨p,r⟩:=P4 e c b;have t:dy ((gj H).get i).ech (eJ m).aK=dy (H.get i).ech m.aK:=by rw[ov];exact Oo _ _
 have u:dy ((gj H).get i).rdy (eJ m).aK=dy (H.get i).rdy m.aK:=by rw[ov];exact Oo _ _
 have w:((gj H).get i).eO=(H.get i).eO:=by rw[ov];rfl
 have k:∀{l:gq},xQ l m.body->xQ (l++[(m.aK,m.body)]) m.body:=λh s y=>by rcases List.mem_append.1 y with q|q;exact h s q;rw[hV]at q;rw[q]
 unfold lq;rw[t,u,w];by_cases j:m.kind=1
 ·rw[ah j,ah (show(eJ m).kind=1 from j)];by_cases a:m.aK=m.bE/\(H.get i).eO=false
  ·rw[ah a,ah (show(eJ m).aK=(eJ m).bE/\(H.get i).eO=false from a)];obtain⟨o,d⟩:=BI e c b {H.get i with eO:=true} rfl rfl p r;have n:(gj H).set i {(gj H).get i with eO:=true}=gj (H.set i {H.get i with eO:=true}):=by rw[Ef,ov];rfl
   rw[n];exact(Sk (f:=λH=>eR rec H i m) (f':=λH=>eR rec' H i (eJ m)) (Xd hr o b 2) λj a=>Cc hr j ((c.same d).same a) b).of d
  rw[ai a,ai (show ¬((eJ m).aK=(eJ m).bE/\(H.get i).eO=false)from a)];exact Cc hr e c b
 ·rw[ai j,ai (show ¬(eJ m).kind=1 from j)];by_cases a:m.kind=2
  ·rw[ah a,ah (show(eJ m).kind=2 from a)];split;exact⟨rfl,rfl,rfl,e,rfl,λx g=>(by cases g),λx g=>(by cases g)⟩
   ·obtain⟨o,d⟩:=BI e c b {H.get i with ech:=(H.get i).ech++[(m.aK,m.body)]} rfl rfl (k p) r;have n:(gj H).set i {(gj H).get i with ech:=((gj H).get i).ech++[((eJ m).aK,(eJ m).body)]}=gj (H.set i {H.get i with ech:=(H.get i).ech++[(m.aK,m.body)]}):=by
     rw[Ef,ov];unfold Gt Gs;simp only[cE];rfl
    rw[n];exact(Cc hr o (c.same d) b).of d
  ·rw[ai a,ai (show ¬(eJ m).kind=2 from a)];split;exact⟨rfl,rfl,rfl,e,rfl,λx g=>(by cases g),λx g=>(by cases g)⟩
   ·obtain⟨o,d⟩:=BI e c b {H.get i with rdy:=(H.get i).rdy++[(m.aK,m.body)]} rfl rfl p (k r);have n:(gj H).set i {(gj H).get i with rdy:=((gj H).get i).rdy++[((eJ m).aK,(eJ m).body)]}=gj (H.set i {H.get i with rdy:=(H.get i).rdy++[(m.aK,m.body)]}):=by
     rw[Ef,ov];unfold Gt Gs;simp only[cE];rfl
    rw[n];exact(Cc hr o (c.same d) b).of d
omit hr in
theorem L1{m:dG}(a:l6 B m)(mem:LI):counts mem (eJ m)=counts mem m:=by
 have h:decide (m.body.length<=4096)=true:=b6 a.2;unfold counts;have e:∀(l:LI),l.length<=4096->decide (1<=m.bo/\m.bo<=3/\l.length<=4096)=decide (1<=m.bo/\m.bo<=3):=λl b=>by apply decide_eq_decide.2;exact⟨λh=>⟨h.1,h.2.1⟩,λh=>⟨h.1,h.2,b⟩⟩
 show(_&&(decide (1<=m.bo/\m.bo<=3/\([]:LI).length<=4096)&&_))=(_&&(decide (1<=m.bo/\m.bo<=3/\m.body.length<=4096)&&_));rw[e _ a.2,e [] ae];rfl
omit hr in
theorem alE(H:a8)(m:dG):Pl H (H.at m) m:=by
 intro k f;have a:(H.aX.map λt=>(t.bo,t.bE))[H.at m]?=some k:=f;rw[dM]at a;cases c:H.aX[H.at m]? with
 |none=>rw[c]at a;cases a
 |some t=>
  rw[c]at a;have d:(t.bo,t.bE)=k:=by simpa using a
  obtain⟨g,e⟩:=List.getElem?_eq_some_iff.1 c;have b:kP m (H.aX[H.at m])=true:=sH (w:=g);rw[e]at b;unfold kP at b;simp only[bD,qM]at b;rw[<-d,b.1,b.2]
theorem Om{H:a8}{m:dG}(b:Fit B H)(c:l6 B m):Er B H (iT rec H m) (iT rec' (gj H) (eJ m)):=by unfold iT;rw[L1 c,adC];show Er B H (if counts H.mem m=true then _ else _) (if counts H.mem m=true then _ else _);split;exact Xc hr b (alE H m) c;exact⟨rfl,rfl,rfl,b,rfl,λx a=>(by cases a),λx a=>by cases a⟩
end
section
variable (B:Int->Int->LI)
variable {B}
theorem aaL:∀(d:Nat)(H:a8)(m:dG),Fit B H->l6 B m->Er B H (k9 d H m) (k9 d (gj H) (eJ m))
 |0,H,m,a,b=>Om (rec:=λH _=>(H,[],[])) (rec':=λH _=>(H,[],[])) (λH m e _=>⟨rfl,rfl,rfl,e,rfl,λx c=>(by cases c),λx c=>by cases c⟩) a b
 |d+1,H,m,a,b=>Om (aaL d) a b
theorem alc(H:a8)(m:dG)(q:eI):gj (H.of m q)=(gj H).of (eJ m) (0,0,0):=by unfold a8.of;rw[adC];have e:(gj H).aX.length=H.aX.length:=b5 _;rw[e];split;rfl;show {H with p:=0,mp:=0,aX:=(H.aX++_).map Gt}=_;rw[cE];rfl
theorem ajw{H:a8}(b:Fit B H)(m:dG)(q:eI):Fit B (H.of m q):=by unfold a8.of;split;exact b;intro t c;rcases List.mem_append.1 c with h|h;exact b t h;rw[hV]at h;subst h;exact⟨λs a=>(by cases a),λs a=>by cases a⟩
structure ErR(B:Int->Int->LI)(p p':ez):Prop where
 h:gj p.1=p'.1
 m:p.2.1.map eJ=p'.2.1
 t:p.2.2.map Oj=p'.2.2
 fit:Fit B p.1
 ms:∀x∈p.2.1,l6 B x
 ts:∀x∈p.2.2,x.2.2=B x.1 x.2.1
theorem KB{H:a8}{m:dG}(b:Fit B H)(a:l6 B m)(q:eI):ErR B (cF H m q) (cF (gj H) (eJ m) (0,0,0)):=by have c:counts (gj H).mem (eJ m)=counts H.mem m:=L1 a H.mem;unfold cF;rw[c];split;have h:=aaL 2 (H.of m q) m (ajw b m q) a;rw[alc]at h;exact⟨h.h,h.m,h.t,h.fit,h.ms,h.ts⟩;have h:=aaL 2 H m b a;exact⟨h.h,h.m,h.t,h.fit,h.ms,h.ts⟩
end
end Go.Hbn
namespace Go.Proofs.YtofofalgjibokaaGreatDoor
namespace law23
open bf deal rite
open Go.Hbn(dd a8 ez)
structure AM where
 me:Int
 H:a8
 told:List (Int×Int)
 aK:LI
structure AN where
 ms:List AM
 mail:List cX
structure Cs where
 d:LI
 t:LI
 mem:LI
def AM.cF(a:AM)(p:ez):AM:={a with H:=p.1,told:=a.told++p.2.2.map λx=>(x.1,x.2.1)}
abbrev ZT(ms:List aP):List cX:=dj ms
def AM.r5(a:AM)(tp:Int):AM×List cX:=(a.cF (Hbn.jC a.H tp [] (0,0,0)),ZT (Hbn.jC a.H tp [] (0,0,0)).2.1)
def nw(a:AM)(d:Int):AM:=if d∈a.aK then a else {a with aK:=a.aK++[d]}
def AM.tick(c:Cs)(a:AM):Nat->AM×List cX
 |0=>if a.me∈c.d then(((if a.me∈c.t then nw a a.me else a).r5 1).1,(c.t.filter (· != a.me)).map (λt=>(t,((4,0,a.me,0,0,0,[]):aP)))++(a.r5 1).2)else(a,[])
 |1=>if a.me∈c.t then a.r5 2 else(a,[])
 |2=>if a.me∈c.d then a.r5 3 else(a,[])
 |_=>(a,[])
def AM.qZ(a:AM)(m:aP):AM×List cX:=if m.1=4 then(nw a m.2.2.1,[])else(a.cF (Hbn.cF a.H m (0,0,0)),ZT (Hbn.cF a.H m (0,0,0)).2.1)
def CM(mem:LI)(aK:Int)(o:List cX):List cX:=o.flatMap λx=>(mem.filter λa=>(a != aK)&&((x.1==0)||(x.1==a))).map λa=>(a,x.2)
abbrev AN.at(n:AN)(i:Int):Nat:=n.ms.findIdx λa=>a.me==i
def AN.tick(c:Cs)(s:Nat)(i:Int)(n:AN):AN:=match n.ms[n.at i]? with
 |some a=>⟨n.ms.set (n.at i) (a.tick c s).1,n.mail++CM c.mem i (a.tick c s).2⟩
 |none=>n
def AN.B7(c:Cs)(n:AN):AN:=match n.mail with
 |[]=>n
 |x::l=>match n.ms[n.at x.1]? with
  |some a=>⟨n.ms.set (n.at x.1) (a.qZ x.2).1,l++CM c.mem x.1 (a.qZ x.2).2⟩
  |none=>n
def AN.ok(c:Cs)(s:Nat)(n:AN):Bool:=match n.mail with
 |[]=>false
 |x::l=>decide (x.1∈c.mem)&&(decide (x.2.1=1\/x.2.1=2\/x.2.1=3)&&decide (x.2.2.2.2.2.1=(s:Int)+1/\(s=0->x.2.2.2.2.1∈c.d))||decide (x.2.1=4)&&decide (x.2.2.2.1∈c.d))&&ble l.length 5000
def fK{a:Type}(n:Nat)(k:Nat->a):a:=match n with
 |0=>k 0
 |m+1=>k (m+1)
def fI{a:Type}(x:Int)(k:Int->a):a:=match x with
 |.ofNat n=>fK n λn=>k (.ofNat n)
 |.negSucc n=>fK n λn=>k (.negSucc n)
def fB{a:Type}(b:Bool)(k:Bool->a):a:=match b with
 |true=>k true
 |false=>k false
def fL{a b:Type}(f:b->(b->a)->a):List b->(List b->a)->a
 |[],k=>k []
 |x::l,k=>f x λx=>fL f l λl=>k (x::l)
def fS{c:Type}(p:Int×LI)(k:Int×LI->c):c:=fI p.1 λa=>fL fI p.2 λb=>k (a,b)
def fT{h:Type}(t:dd)(k:dd->h):h:=fK t.ptr λx=>fK t.e λy=>fK t.r λz=>fI t.bo λa=>fI t.bE λb=>fB t.eO λc=>fB t.ready λd=>fB t.told λe=>fL fS t.ech λf=>fL fS t.rdy λg=>k ⟨x,y,z,a,b,c,d,e,f,g⟩
def fM{e:Type}(m:aP)(k:aP->e):e:=fI m.1 λa=>fI m.2.1 λx=>fI m.2.2.1 λb=>fI m.2.2.2.1 λc=>fI m.2.2.2.2.1 λd=>fI m.2.2.2.2.2.1 λy=>fL fI m.2.2.2.2.2.2 λz=>k (a,x,b,c,d,y,z)
def fLt{b:Type}(x:cX)(k:cX->b):b:=fI x.1 λa=>fM x.2 λm=>k (a,m)
def fP{c:Type}(p:Int×Int)(k:Int×Int->c):c:=fI p.1 λa=>fI p.2 λb=>k (a,b)
def fA{b:Type}(a:AM)(k:AM->b):b:=fI a.me λd=>fK a.H.p λx=>fK a.H.mp λy=>fI a.H.me λc=>fL fI a.H.mem λmem=>fL fT a.H.aX λf=>fL fP a.told λe=>fL fI a.aK λfr=>k ⟨d,⟨x,y,c,mem,f⟩,e,fr⟩
def fN{b:Type}(n:AN)(k:AN->b):b:=fL fA n.ms λa=>fL fLt n.mail λm=>k ⟨a,m⟩
theorem UU{a:Type}(n:Nat)(k:Nat->a):fK n k=k n:=by cases n<;>rfl
theorem sa{a:Type}(x:Int)(k:Int->a):fI x k=k x:=by cases x<;>simp only[fI,UU]
theorem ale{a:Type}(b:Bool)(k:Bool->a):fB b k=k b:=by cases b<;>rfl
theorem sb{b a:Type}{f:a->(a->b)->b}(h:∀x k,f x k=k x):∀(l:List a)(k:List a->b),fL f l k=k l
 |[],_=>rfl
 |x::l,k=>by rw[fL,h,sb h l]
theorem alh{a:Type}(p:Int×LI)(k:Int×LI->a):fS p k=k p:=by rw[fS,sa,sb sa]
theorem ali{a:Type}(t:dd)(k:dd->a):fT t k=k t:=by simp only[fT,UU,sa,ale,sb alh]
theorem alf{a:Type}(m:aP)(k:aP->a):fM m k=k m:=by simp only[fM,sa,sb sa]
theorem ahY{a:Type}(x:cX)(k:cX->a):fLt x k=k x:=by simp only[fLt,sa,alf]
theorem alg{a:Type}(p:Int×Int)(k:Int×Int->a):fP p k=k p:=by simp only[fP,sa]
theorem ald{b:Type}(a:AM)(k:AM->b):fA a k=k a:=by simp only[fA,sa,UU,sb sa,sb ali,sb alg]
theorem UW{a:Type}(n:AN)(k:AN->a):fN n k=k n:=by simp only[fN,sb ald,sb ahY]
def drain(c:Cs)(s:Nat)(k:AN->Bool):Nat->AN->Bool
 |0,n=>n.mail.isEmpty&&k n
 |f+1,n=>match n.mail with
  |[]=>k n
  |_::_=>n.ok c s&&fN (n.B7 c) λa=>drain c s k f a
def turns(c:Cs)(s:Nat)(k:AN->Bool):Nat->Int->AN->Bool
 |0,_,n=>k n
 |f+1,i,n=>fN (n.tick c s i) λa=>turns c s k f (i+1) a
def gX(N M:Nat):Cs:=⟨dg N,gV M,(dg 9).filter λi=>q0 N M i.toNat⟩
def AJ(c:Cs):AN:=⟨c.mem.map λi=>⟨i,⟨0,0,i,c.mem,[]⟩,[],[]⟩,[]⟩
def AM.fin(c:Cs)(a:AM):Bool:=(c.d.all λd=>decide (((a.told.filter λx=>x.1==1).map λx=>x.2).count d=1))&&decide (((a.told.filter λx=>x.1==1).map λx=>x.2).length=c.d.length)&&(!decide (a.me∈c.t)||c.d.all λd=>decide (d∈a.aK))
def ab6(c:Cs)(n:AN):Bool:=turns c 0 (λn=>drain c 0 (λn=>(n.ms.all λa=>a.fin c)&&turns c 1 (λn=>drain c 1 (λn=>(n.ms.all λa=>a.fin c)&&turns c 2 (λn=>drain c 2 (λn=>(n.ms.all λa=>a.fin c)) 2000 n) 9 1 n) 2000 n) 9 1 n) 2000 n) 9 1 n
def sE(N M:Nat):Bool:=fN (AJ (gX N M)) λn=>fL fI (dg N) λd=>fL fI (gV M) λt=>fL fI (gX N M).mem λm=>ab6 ⟨d,t,m⟩ n
theorem agG(N M:Nat):sE N M=ab6 (gX N M) (AJ (gX N M)):=by unfold sE;rw[UW,sb sa,sb sa,sb sa];rfl
def comes(c:Cs)(n:AN):Nat->AN
 |0=>n
 |k+1=>(comes c n k).B7 c
def eP(c:Cs)(s:Nat)(n:AN):Nat->AN
 |0=>n
 |i+1=>(eP c s n i).tick c s ((i:Int)+1)
theorem xn(c:Cs)(n:AN):∀k,comes c (n.B7 c) k=comes c n (k+1)
 |0=>rfl
 |k+1=>by show(comes c (n.B7 c) k).B7 c=_;rw[xn c n k];rfl
theorem xo{c:Cs}{s:Nat}{k:AN->Bool}:∀(f:Nat)(n:AN),drain c s k f n=true->∃m,m<=f/\(∀i,i<m->(comes c n i).ok c s=true)/\(comes c n m).mail=[]/\k (comes c n m)=true
 |0,n,h=>by unfold drain at h;rw[bD]at h;exact⟨0,aQ _,λi a=>absurd a (sP _),List.isEmpty_iff.1 h.1,h.2⟩
 |f+1,n,h=>by
  unfold drain at h;split at h;rename_i e;exact⟨0,aY _,λi a=>absurd a (sP _),e,h⟩
  ·rw[bD,UW]at h;obtain⟨m,j,b,d,g⟩:=xo f _ h.2;refine⟨m+1,aa,λi a=>?_,by rw[<-xn];exact d,by rw[<-xn];exact g⟩;cases i with
   |zero=>exact h.1
   |succ i=>rw[<-xn];exact b i aa
theorem xz{c:Cs}{s:Nat}{k:AN->Bool}:∀(f j:Nat)(n:AN),turns c s k f ((j:Int)+1) (eP c s n j)=true->k (eP c s n (j+f))=true
 |0,j,n,h=>h
 |f+1,j,n,h=>by unfold turns at h;rw[UW]at h;have:=xz f (j+1) n h;rw[show j+(f+1)=j+1+f by omega];exact this
open Go.Hbn(dd a8 ez gj eJ Oj Fit l6 ErR KB)
def nm(z:An)(tp bE:Int):LI:=if tp=1 then law22.di (poly.cr (z.fH bE))else [0]
structure fq(z:An)(s bd:Nat)(a:AM)(t:cc):Prop where
 me:t.z.R.me=a.me
 dl:t.z.R.aE=dg z.n.toNat
 tk:t.z.R.aL=gV z.m.toNat
 bG:t.z.R.bG=z.bG
 bJ:t.z.R.bJ=poly.cr z.bJ
 bB:t.z.R.bB=z.pl a.me
 start:t.z.R.start=0
 dK:t.z.R.dK=5
 ph:t.z.R.ba=(s:Int)
 fin:t.fin=decide (s=4)
 bb:t.z.R.bb=0
 bf:gj t.z.H=a.H
 hme:a.H.me=a.me
 fit:Fit (nm z) t.z.H
 aG:t.z.R.aG=((a.told.filter λx=>x.1==1).map λx=>(x.2,poly.cr (z.fH x.2)))
 aU:t.z.R.aU=((a.told.filter λx=>x.1==2).map λx=>(x.2,[0]))
 aM:t.z.R.aM=[]
 aK:t.z.R.aK=a.aK
 br:t.z.R.br=a.aK.map λd=>poly.pat (z.fH d) a.me
 inv:∃c,c<=bd/\fm c t.z.R t.z.H
def Wv(z:An)(x:cX):Prop:=(x.2.kind=4->x.2.body=fr.lp (poly.pat (z.fH x.2.aK) x.1))/\(x.2.kind≠4->l6 (nm z) x.2)
abbrev Db(x:cX):cX:=(x.1,eJ x.2)
def rM(z:An)(o:List cX)(a:List cX):Prop:=o.map Db=a/\∀x∈o,x.1=0/\l6 (nm z) x.2/\x.2.kind≠4\/x.2.kind=4/\x.2.body=fr.lp (poly.pat (z.fH x.2.aK) x.1)/\x.1≠0
structure ql(z:An)(ph:Int->Nat)(bd:Nat)(n:AN)(ts:List cc)(l:List cX):Prop where
 len:ts.length=n.ms.length
 mem:∀j (h:j<ts.length) (h2:j<n.ms.length),fq z (ph n.ms[j].me) bd n.ms[j] ts[j]
 mes:n.ms.map AM.me=(gX z.n.toNat z.m.toNat).mem
 mail:l.map Db=n.mail
 ok:∀x∈l,Wv z x
theorem J6(z:An)(b bE:Int):Bs (nm z b bE):=by unfold nm;split;exact BV _;intro x a;rw[hV]at a;omega
theorem acb{z:An}{c:List cc}{mem:LI}(g:∀a∈dg 9,isSome ((bm c).getD a.toNat none)=decide (a∈mem))(s:mem=(dg 9).filter λi=>decide (i∈mem))(aK:Int){o q:List cX}(h:rM z o q):(dV (bm c) aK o).map Db=CM mem aK q/\∀x∈dV (bm c) aK o,Wv z x:=by
 obtain⟨r,n⟩:=h;subst r;constructor
 ·induction o with
  |nil=>rfl
  |cons x o j=>
   have j:=j (λy d=>n y (by simp[d]));show(fb (bm c) aK x 9++dV (bm c) aK o).map Db=_++CM mem aK (o.map Db);rw[cE,j];congr 1;rw[fb,fu];have e:(dg 9).filter (my (bm c) aK x)=mem.filter λa=>(a != aK)&&((x.1==0)||(x.1==a)):=by rw[s,List.filter_filter];refine vV λa b=>?_;unfold my;rw[g a b]
   rw[e];rfl
 intro y d;obtain⟨x,t,d⟩:=List.mem_flatMap.1 d;obtain⟨a,b,rfl⟩:=mem_map.1 d;rcases n x t with ⟨_,k,l⟩|⟨u,k,l⟩;exact⟨λe=>absurd e l,λ_=>k⟩;refine⟨λ_=>?_,λe=>absurd u e⟩;have f:=(List.mem_filter.1 b).2;unfold my at f;simp only[bD,sO,qM]at f;rcases f.1.2 with h5|h5;exact absurd h5 l;show x.2.body=_;rw[k,h5]
theorem ajZ{z:An}(h:z.Ok){bE:Int}(c:bE∈dg z.n.toNat):oG (dg z.n.toNat) z.bG (poly.cr z.bJ) bE (law22.di (poly.cr (z.fH bE)))=(poly.cr (z.fH bE),0):=by
 have d:=h.k1;have hr:=qg.1 c;have e:=h.n4;rw[oG,bq,law22.di,bq];have g:(((poly.cr (z.fH bE)).length:Nat):Int)=z.bG:=by rw[rite.jq,vn];omega
 have f:(lB (poly.cr (z.fH bE))).length=48*(poly.cr (z.fH bE)).length:=vB _;rw[qx,ah c,ah ⟨aa,aa⟩,show(lB (poly.cr (z.fH bE))).length/48=(poly.cr (z.fH bE)).length by omega,Xe (rite.Kp _),ah rfl,aee (rite.Kp _),ah ?_];refine .inr ⟨?_,?_⟩;omega
 ·rw[poly.Fx (show gb bE from⟨aa,aa⟩)];have a:0<(p7 z.b bE z.bG.toNat).length:=by rw[Mu];omega
  rw[poly.cr,bx,dM,An.fH,DF a];rfl
def yQ(tp:Int)(l:List (Int×Int)):LI:=(l.filter λx=>x.1==tp).map λx=>x.2
theorem N6(z:An)(l:List (Int×Int)):((l.filter λx=>x.1==1).map λx=>(x.2,poly.cr (z.fH x.2)))=(yQ 1 l).map λw=>(w,poly.cr (z.fH w)):=by rw[yQ,fu];rfl
theorem Mk{z:An}(A:z.Ok):∀(a:List Hbm.Told)(R:Rt),R.aE=dg z.n.toNat->R.bG=z.bG->R.bJ=poly.cr z.bJ->R.ba<3\/(∀x∈a,x.1≠2)->(∀x∈a,x.2.2=nm z x.1 x.2.1/\(x.1=1->x.2.1∈dg z.n.toNat)/\(x.1=1\/x.1=2\/x.1=3))->R.aM=[] ->
  (fy R a).aG=R.aG++((a.map λx=>(x.1,x.2.1)).filter λx=>x.1==1).map (λx=>(x.2,poly.cr (z.fH x.2)))/\(fy R a).aU=R.aU++((a.map λx=>(x.1,x.2.1)).filter λx=>x.1==2).map (λx=>(x.2,[0]))/\(fy R a).aM=[]
 |[],R,_,_,_,_,_,f=>⟨(bF _).symm,(bF _).symm,f⟩
 |x::a,R,r,s,t,u,w,f=>by
  obtain⟨c,bE,b⟩:=x;obtain⟨j,o,p⟩:=w (c,bE,b) az;have j:b=nm z c bE:=j;have o:c=1->bE∈dg z.n.toNat:=o;have p:c=1\/c=2\/c=3:=p;have k:=IQ R (c,bE,b);have d:=Mk A a (et R (c,bE,b)) (by rw[k.aE,r]) (by rw[k.bG,s]) (by rw[k.bJ,t]) (by rw[k.ba];exact u.imp id λq y l=>q y (by simp[l])) (λy l=>w y (by simp[l]));show(fy (et R (c,bE,b)) a).aG=_/\(fy (et R (c,bE,b)) a).aU=_/\(fy (et R (c,bE,b)) a).aM=_;rcases p with rfl|rfl|rfl
  ·have e:et R (1,bE,b)={R with aG:=R.aG++[(bE,poly.cr (z.fH bE))]}:=by
    have hr:oG R.aE R.bG R.bJ bE b=(poly.cr (z.fH bE),0):=by rw[r,s,t,j,nm,ah rfl,ajZ A (o rfl)]
    unfold et;rw[ah rfl,hr,ah rfl]
   rw[e]at d⊢;obtain⟨g,h,i⟩:=d f;exact⟨by rw[g,cZ];rfl,by rw[h];rfl,i⟩
  ·have C:R.ba<3:=u.elim id λq=>absurd rfl (q (2,bE,b) az);have e:et R (2,bE,b)={R with aU:=R.aU++[(bE,[0])]}:=by
    unfold et;rw[ai (show ¬(2:Int)=1 by decide),ah rfl,ah C,j];rfl
   rw[e]at d⊢;obtain⟨g,h,i⟩:=d f;exact⟨by rw[g];rfl,by rw[h,cZ];rfl,i⟩
  ·have e:et R (3,bE,b)=R:=by
    unfold et;rw[ai (show ¬(3:Int)=1 by decide),ai (show ¬(3:Int)=2 by decide),ah rfl,j];show {R with aM:=R.aM++qm bE (([0]:LI).length/33) [0]}=R;have:R.aM++qm bE (([0]:LI).length/33) [0]=R.aM:=bF _;rw[this]
   rw[e]at d⊢;obtain⟨g,h,i⟩:=d f;exact⟨by rw[g];rfl,by rw[h];rfl,i⟩
section
variable {rec:a8->aP->ez}(hr:∀H m,∀x∈(rec H m).2.1,x.1=2\/x.1=3)
include hr
theorem X4(H:a8)(k:Int)(m:aP)(a:k=2\/k=3):∀x∈(Hbn.mS rec H k m).2.1,x.1=2\/x.1=3:=λx b=>by rcases mem_cons.1 b with e|e;rw[e];exact a;exact hr _ _ x e
omit hr in
theorem adX(H:a8)(i:Nat)(m:aP):(Hbn.iF H i m).2.1=[]:=by unfold Hbn.iF;split<;>rfl
theorem IY(H:a8)(i:Nat)(m:aP):∀x∈(Hbn.eR rec H i m).2.1,x.1=2\/x.1=3:=by unfold Hbn.eR;split;intro x a;rcases List.mem_append.1 a with e|e;exact X4 hr _ 3 m (.inr rfl) x e;have e:x∈(Hbn.iF _ i m).2.1:=e;rw[adX]at e;cases e;rw[adX];intro x a;cases a
theorem abh(H:a8)(m:aP):∀x∈(Hbn.iT rec H m).2.1,x.1=2\/x.1=3:=by unfold Hbn.iT;split;unfold Hbn.lq;split;split;intro x a;rcases List.mem_append.1 a with e|e;exact X4 hr _ 2 m (.inl rfl) x e;exact IY hr _ _ m x e;exact IY hr _ _ m;split;split;intro x a;cases a;exact IY hr _ _ m;split;intro x a;cases a;exact IY hr _ _ m;intro x a;cases a
end
theorem afZ(H:a8)(m:aP)(q:eI):∀x∈(Hbn.cF H m q).2.1,x.1=2\/x.1=3:=
 abh (abh (abh (rec:=λH _=>(H,[],[])) (λ_ _ x a=>by cases a))) _ m
theorem aeO{z:An}{ms a:List aP}(d:ms.map eJ=a)(b:∀x∈ms,l6 (nm z) x/\x.1≠4):rM z (dj ms) (dj a):=by subst d;refine⟨by rw[dj,dj,fu,fu];rfl,λx e=>?_⟩;obtain⟨m,c,rfl⟩:=mem_map.1 e;exact .inl ⟨rfl,(b m c).1,(b m c).2⟩
theorem OP{z:An}(C:z.Ok){s o:Nat}{a:AM}{t:cc}(h:fq z s o a t){m:aP}(l:l6 (nm z) m)(A:m.bo=1->m.bE∈dg z.n.toNat)(y:m.bo=1\/m.bo=2\/m.bo=3)(w:s<3\/m.bo≠2)(q:eI):
  fq z s (o+1) (a.cF (Hbn.cF a.H (eJ m) (0,0,0))) ⟨⟨fy t.z.R (Hbn.cF t.z.H m q).2.2,(Hbn.cF t.z.H m q).1⟩,t.fin⟩/\rM z (dj (Hbn.cF t.z.H m q).2.1) (dj (Hbn.cF a.H (eJ m) (0,0,0)).2.1):=by
 have E:=KB h.fit l q;rw[h.bf]at E;obtain⟨c,D,i⟩:=h.inv;have g:Bs m.body:=by rw[l.1];exact J6 z _ _
 have k:=Ml i.bf g q;have d:=pa t.z.H m q;have b:=rA (Hbn.cF t.z.H m q).2.2 t.z.R
 have j:=Mk C (Hbn.cF t.z.H m q).2.2 t.z.R h.dl h.bG h.bJ (w.imp (λe=>by rw[h.ph];omega) (λe x f=>by rw[(d.1 x f).1];exact e)) (λx f=>by
  obtain⟨e,_⟩:=d.1 x f;subst e
  exact⟨l.1,A,y⟩) h.aM
 have p:(Hbn.cF t.z.H m q).2.2.map (λx=>(x.1,x.2.1))=(Hbn.cF a.H (eJ m) (0,0,0)).2.2.map (λx=>(x.1,x.2.1)):=by rw[<-E.t,fu];rfl
 refine⟨⟨b.me.trans h.me,b.aE.trans h.dl,b.aL.trans h.tk,b.bG.trans h.bG,b.bJ.trans h.bJ,b.bB.trans h.bB,b.start.trans h.start,b.dK.trans h.dK,b.ba.trans h.ph,h.fin,b.bb.trans h.bb,E.h,?_,E.fit,?_,?_,j.2.2,b.aK.trans h.aK,b.br.trans h.br,⟨c+1,aa,i.heard k.1 k.2.1 (F8 i.bf g q) d.2.1⟩⟩,aeO E.m λx f=>⟨E.ms x f,?_⟩⟩;have r:(gj (Hbn.cF t.z.H m q).1).me=t.z.H.me:=k.2.2.2;show(Hbn.cF a.H (eJ m) (0,0,0)).1.me=a.me;rw[<-E.h,r];have u:(gj t.z.H).me=t.z.H.me:=rfl;rw[<-u,h.bf];exact h.hme;show(fy t.z.R _).aG=_;rw[j.1,h.aG,p];show _=((a.told++_).filter _).map _;rw[nN,cE];show(fy t.z.R _).aU=_;rw[j.2.1,h.aU,p];show _=((a.told++_).filter _).map _;rw[nN,cE];rcases afZ t.z.H m q x f with e|e<;>rw[e]<;>decide
theorem fq.aln{z:An}{s b:Nat}{a:AM}{t:cc}(h:fq z s b a t):t.z.H.me=a.me:=by have e:(gj t.z.H).me=t.z.H.me:=rfl;rw[<-e,h.bf,h.hme]
theorem O6{z:An}{s j:Nat}{a:AM}{t:cc}(h:fq z s j a t)(d:Int):fq z s (j+1) (nw a d) ⟨⟨eD t.z.R d (poly.pat (z.fH d) a.me),t.z.H⟩,t.fin⟩:=by obtain⟨c,l,k⟩:=h.inv;have f:=k.kept d (poly.pat (z.fH d) a.me);by_cases e:d∈a.aK;have g:eD t.z.R d (poly.pat (z.fH d) a.me)=t.z.R:=ah (by rw[h.aK];exact e);have i:nw a d=a:=ah e;rw[g]at f⊢;rw[i];exact {h with inv:=⟨c+1,aa,f⟩};have g:eD t.z.R d (poly.pat (z.fH d) a.me)={t.z.R with aK:=t.z.R.aK++[d],br:=t.z.R.br++[poly.pat (z.fH d) a.me]}:=ai (by rw[h.aK];exact e);have i:nw a d={a with aK:=a.aK++[d]}:=ai e;rw[g]at f⊢;rw[i];exact {h with aK:=by show t.z.R.aK++[d]=a.aK++[d];rw[h.aK],br:=by show t.z.R.br++[_]=(a.aK++[d]).map _;rw[h.br,cE];rfl,inv:=⟨c+1,aa,f⟩}
theorem Lp{z:An}(w:z.Ok){s d:Nat}{a:AM}{t:cc}(h:fq z s d a t){tp:Int}{b:LI}(i:er b=nm z tp a.me)(l:(er b).length<=4096)(r:tp=1->a.me∈dg z.n.toNat)(p:tp=1\/tp=2\/tp=3)(o:s<3\/tp≠2)(j:Bs b)(q:eI):
  fq z s (d+1) (a.r5 tp).1 ⟨⟨oe ⟨t.z.R,t.z.H,tp,b⟩ q,qn ⟨t.z.R,t.z.H,tp,b⟩ q⟩,t.fin⟩/\rM z (dj (iN ⟨t.z.R,t.z.H,tp,b⟩ q)) (a.r5 tp).2:=by
 have c:=h.aln;have g:l6 (nm z) ((1,0,t.z.H.me,t.z.H.me,tp,0,er b):aP):=⟨by show er b=nm z tp t.z.H.me;rw[c];exact i,l⟩;have k:=OP w h g (λe=>by show t.z.H.me∈_;rw[c];exact r e) p o q;have f:eJ ((1,0,t.z.H.me,t.z.H.me,tp,0,er b):aP)=(1,0,a.H.me,a.H.me,tp,0,[]):=by rw[c,h.hme];rfl
 rw[f]at k;refine⟨k.1,?_⟩;obtain⟨y,A⟩:=k.2;refine⟨?_,λx u=>?_⟩;show((0:Int),eJ ((1,0,t.z.H.me,t.z.H.me,tp,0,er b):aP))::(dj (Hbn.cF t.z.H ((1,0,t.z.H.me,t.z.H.me,tp,0,er b):aP) q).2.1).map Db=((0:Int),((1,0,a.H.me,a.H.me,tp,0,[]):aP))::dj (Hbn.cF a.H ((1,0,a.H.me,a.H.me,tp,0,[]):aP) (0,0,0)).2.1;rw[y,f];rcases mem_cons.1 u with e|e;rw[e];exact .inl ⟨rfl,g,by show ¬(1:Int)=4;decide⟩;exact A x e
theorem aj9(x:Fr):fr.ro (fr.lp x)=(x,0):=by have b:=xE x;rw[fr.ro,bq,fr.CE,ah b,fr.lp,bq];have a:x.v<b9 32:=Int.lt_trans x.lt (by decide +kernel);rw[Cu 32 x.v x.nn a,ah x.lt,kj]
theorem ai3{z:An}(O:z.Ok){s l:Nat}{a:AM}{t:cc}(h:fq z s l a t)(F:t.fin=false)(G:l<=20000)(L:s<4){k:Int}{m:aP}(A:k=a.me)(E:Wv z (k,m))(I:(m.kind=1\/m.kind=2\/m.kind=3)/\(m.bo=1/\m.bE∈dg z.n.toNat\/m.bo=2\/m.bo=3)/\(s<3\/m.bo≠2)\/m.kind=4/\m.aK∈dg z.n.toNat):
  InZ.Ok ⟨t.z,m⟩/\m.body.length<=100000/\∀q,fq z s (l+1) (a.qZ (eJ m)).1 ⟨tQ ⟨t.z,m⟩ q,false⟩/\rM z (nu ⟨t.z,m⟩ q) (a.qZ (eJ m)).2:=by
 obtain⟨c,Q,D⟩:=h.inv;have f:t.z.R.ba<4:=by rw[h.ph];omega
 rcases I with ⟨i,C,P⟩|⟨i,C⟩
 ·have j:m.kind≠4:=by omega
  have d:=E.2 j;have d:l6 (nm z) m:=d;refine⟨⟨⟨c,aa,D⟩,f,by rw[d.1];exact J6 z _ _,λe=>absurd e j⟩,by have:=d.2;omega,λq=>?_⟩;have b:=OP O h d (λe=>C.elim (λy=>y.2) (λy=>aa)) aa P q;have o:(eJ m).1≠4:=j;have p:a.qZ (eJ m)=(a.cF (Hbn.cF a.H (eJ m) (0,0,0)),ZT (Hbn.cF a.H (eJ m) (0,0,0)).2.1):=ai o;have r:tQ ⟨t.z,m⟩ q=⟨fy t.z.R (Hbn.cF t.z.H m q).2.2,(Hbn.cF t.z.H m q).1⟩:=ai j;have u:nu ⟨t.z,m⟩ q=dj (Hbn.cF t.z.H m q).2.1:=ai j;rw[p,r,u,<-F];exact b
 ·have w:m.body=fr.lp (poly.pat (z.fH m.aK) k):=E.1 i;have g:fr.ro m.body=(poly.pat (z.fH m.aK) k,0):=by rw[w,aj9]
  refine⟨⟨⟨c,aa,D⟩,f,by rw[w];exact Xf _,λ_=>⟨by show m.aK∈t.z.R.aE;rw[h.dl];exact C,by show(fr.ro m.body).2=0;rw[g]⟩⟩,by rw[w,xE];omega,λq=>?_⟩;have b:=O6 h m.aK;have o:(eJ m).1=4:=i;have p:a.qZ (eJ m)=(nw a m.aK,[]):=ah o;have r:tQ ⟨t.z,m⟩ q=⟨eD t.z.R m.aK (fr.ro m.body).1,t.z.H⟩:=ah i;have u:nu ⟨t.z,m⟩ q=[]:=ah i;rw[p,r,u,g,A,<-F];exact⟨b,rfl,λx N=>by cases N⟩
theorem WV{R:Rt}{k:Nat}(d:R.ba=(k:Int))(e:R.start=0)(f:R.dK=5)(g:k<=4)(a:Int):jl R a=(decide ((k:Int)<4)&&decide (a>=5*(k:Int))):=by
 have b:IntKind.i64.wrap ((k:Int)*5)=(k:Int)*5:=bC aa aa;have c:IntKind.i64.wrap (0+(k:Int)*5)=5*(k:Int):=by rw[bC aa aa];omega
 unfold jl;rw[d,e,f,b,c]
theorem ZA{a:Int}{t u:cc}{o:List (Int×aP)}(h:Ticks a t u o)(d:jl t.z.R a=true)(e:∀q,jl (db t q).1.z.R a=false):∃q,u=(db t q).1/\o=(db t q).2:=by
 cases h with
 |stop _ b=>rw[d]at b;cases b
 |step _ q _ g _ f=>
  cases f with
  |stop _ _=>exact⟨q,rfl,bF _⟩
  |step _ j _ i c _=>rw[e q]at c;cases c
theorem Yw{z:An}{s b:Nat}{a:AM}{t:cc}(h:fq z s b a t):fq z (s+1) b a ⟨⟨bh t.z.R ((s+1:Nat):Int),t.z.H⟩,decide (s+1=4)⟩:=by obtain⟨c,e,d⟩:=h.inv;exact {h with ph:=rfl,fin:=rfl,inv:=⟨c,e,d.ph _⟩}
theorem rM.app{z:An}{a c d e:List cX}(h:rM z a d)(k:rM z c e):rM z (a++c) (d++e):=
 ⟨by rw[cE,h.1,k.1],λx f=>(List.mem_append.1 f).elim (h.2 x) (k.2 x)⟩
theorem Jg(z:An):rM z [] []:=⟨rfl,λx a=>by cases a⟩
theorem fq.more{z:An}{s e d:Nat}{a:AM}{t:cc}(h:fq z s e a t)(g:e<=d):fq z s d a t:=by obtain⟨c,i,f⟩:=h.inv;exact {h with inv:=⟨c,aa,f⟩}
theorem ZY{b:LI}(h:b≠[]):er b=b:=ai h
theorem aa1{z:An}(p:z.Ok){j:Nat}{a:AM}{t:cc}(h:fq z 1 j a t)(u:t.fin=false)(q:eI):
  fq z 1 (j+2) (a.tick (gX z.n.toNat z.m.toNat) 0).1 ⟨lF t.z q,false⟩/\rM z (eT t.z q) (a.tick (gX z.n.toNat z.m.toNat) 0).2:=by
 have T:=p.k1;have U:=p.km;have V:=p.m3;have s:(t.z.R.me∈t.z.R.aE)=(a.me∈dg z.n.toNat):=by rw[h.me,h.dl]
 have K:(t.z.R.me∈t.z.R.aL)=(a.me∈gV z.m.toNat):=by rw[h.me,h.tk]
 by_cases d:a.me∈dg z.n.toNat
 ·have F:a.me<=z.n:=by have:=(qg.1 d).2;have:=p.n1;omega
  have c:t.z.R.bB=z.fH a.me:=by rw[h.bB,An.pl,ah F]
  have A:lF t.z q=⟨oe (ns t.z) q,qn (ns t.z) q⟩:=ah (by rw[s];exact d);have C:eT t.z q=cW t.z.R t.z.R.aL++dj (iN (ns t.z) q):=ah (by rw[s];exact d);have D:a.tick (gX z.n.toNat z.m.toNat) 0=(((if a.me∈gV z.m.toNat then nw a a.me else a).r5 1).1,((gV z.m.toNat).filter (· != a.me)).map (λt=>(t,((4,0,a.me,0,0,0,[]):aP)))++(a.r5 1).2):=ah d;have l:(law22.di (poly.cr (z.fH a.me))).length<=4096:=by rw[law22.di,bq];have:=vB (poly.cr (z.fH a.me));rw[rite.jq,vn]at this;rw[this];omega
  have G:law22.di (poly.cr (z.fH a.me))≠[]:=by
   intro e;have O:(law22.di (poly.cr (z.fH a.me))).length=0:=by rw[e];rfl
   rw[law22.di,bq,vB,rite.jq,vn]at O;omega
  have k:er (law22.di (poly.cr t.z.R.bB))=nm z 1 a.me:=by rw[c,ZY G,nm,ah rfl]
  -- X own I
  have i:fq z 1 (j+1) (if a.me∈gV z.m.toNat then nw a a.me else a) ⟨⟨eH t.z.R t.z.R.aL,t.z.H⟩,t.fin⟩:=by unfold eH;by_cases w:a.me∈gV z.m.toNat;rw[ah w,ah (by rw[K];exact w),c,h.me];exact O6 h a.me;rw[ai w,ai (by rw[K];exact w)];exact h.more aa
  have g:(if a.me∈gV z.m.toNat then nw a a.me else a).me=a.me:=by split;unfold nw;split<;>rfl;rfl
  have E:(if a.me∈gV z.m.toNat then nw a a.me else a).H=a.H:=by split;unfold nw;split<;>rfl;rfl
  have r:=Lp p i (tp:=1) (b:=law22.di (poly.cr t.z.R.bB)) (by rw[g];exact k) (by rw[k,nm,ah rfl];exact l) (λ_=>by rw[g];exact d) (.inl rfl) (.inl ae) (BV _) q;rw[A,C,D];refine⟨by rw[<-u];exact r.1,rM.app ⟨?_,λx L=>?_⟩ ?_⟩
  ·show(cW t.z.R t.z.R.aL).map Db=_;rw[cW,h.tk,h.me,fu];have Q:(gV z.m.toNat).filter (λt=> !decide (t=a.me))=(gV z.m.toNat).filter (· != a.me):=vV λx _=>by
    by_cases e:x=a.me;rw[e];simp;rw[cm e];exact(bne_iff_ne.2 e).symm
   rw[Q];rfl
  rw[cW]at L;obtain⟨y,W,rfl⟩:=mem_map.1 L;have o:=(List.mem_filter.1 W).1;rw[h.tk]at o;refine .inr ⟨rfl,?_,?_⟩;show fr.lp (poly.pat t.z.R.bB y)=fr.lp (poly.pat (z.fH t.z.R.me) y);rw[c,h.me];have:=(KY.1 o).1;show y≠0;omega
  ·have N:=r.2;have P:((if a.me∈gV z.m.toNat then nw a a.me else a).r5 1).2=(a.r5 1).2:=by unfold AM.r5;rw[E]
   rw[P]at N;exact N
 have A:lF t.z q=t.z:=ai (by rw[s];exact d);have C:eT t.z q=[]:=ai (by rw[s];exact d);have D:a.tick (gX z.n.toNat z.m.toNat) 0=(a,[]):=ai d;rw[A,C,D];refine⟨?_,Jg z⟩;have:=h.more (show j<=j+2 by omega);obtain⟨Y,f⟩:=t;have u:f=false:=u;subst u;exact this
theorem R9{W:LI}{f:Int->List Pt}{d:Int}(h:d∈W):0<=je (W.map λw=>(w,f w)) d/\dp (W.map λw=>(w,f w)) d=f d:=by
 have a:(W.map λw=>(w,f w)).findIdx (λx:Int×List Pt=>x.1==d)<(W.map λw=>(w,f w)).length:=yY ⟨(d,f d),mem_map.2 ⟨d,h,rfl⟩,beq_self_eq_true d⟩;have e:je (W.map λw=>(w,f w)) d=(((W.map λw=>(w,f w)).findIdx (λx:Int×List Pt=>x.1==d):Nat):Int):=by rw[je,bq,eY,ah a]
 refine⟨by rw[e];omega,?_⟩;rw[dp,e,aJ,bx,bO a];have b:=sH (w:=a);rw[qJ]at b;have c:W[(W.map λw=>(w,f w)).findIdx (λx:Int×List Pt=>x.1==d)]'(by rw[b5]at a;exact a)=d:=by simpa using b
 rw[qJ,c7];exact congrArg f c
theorem afW{g:Int->Fr}{d:Int}:∀{W:LI},d∈W->0<=jg W d/\(W.map g).getD (jg W d).toNat 0=g d:=by
 have a:∀{W:LI},d∈W->(W.map g).getD (W.takeWhile λy=>decide (y≠d)).length 0=g d:=by
  intro W;induction W with
  |nil=>intro h;cases h
  |cons y l b=>intro h;by_cases e:y=d;rw[DN,cm (by rw[e];simp),ai ae];show g y=g d;rw[e];rw[DN,b6 e,ah rfl];rcases mem_cons.1 h with h|h;exact absurd h.symm e;exact b h
 intro W h;have e:jg W d=(((W.takeWhile λy=>decide (y≠d)).length:Nat):Int):=by rw[jg,bq,law22.xa,ah h]
 rw[e,aJ];exact⟨aa,a h⟩
theorem MV{z:An}{s e:Nat}{a:AM}{t:cc}(h:fq z s e a t)(c:gb a.me){d:Int}(i:d∈yQ 1 a.told)(j:d∈a.aK):c4 t.z.R d=(poly.pat (z.fH d) a.me,true):=by
 obtain⟨o,l⟩:=R9 (f:=λw=>poly.cr (z.fH w)) i;obtain⟨m,n⟩:=afW (g:=λd=>poly.pat (z.fH d) a.me) j;unfold c4;rw[h.aG,h.aK,h.br,h.me,N6,ai aa,l,n,b6 m];have k:law22.qU (poly.cr (z.fH d)) a.me (poly.pat (z.fH d) a.me)=true:=by rw[law22.qU,bq,poly.KE c];simp
 rw[k];rfl
theorem aeN{z:An}(C:z.Ok){k:Nat}{a:AM}{t:cc}(h:fq z 2 k a t)(o:t.fin=false)(u:gb a.me)(g:a.me∈gV z.m.toNat->∀d∈dg z.n.toNat,d∈yQ 1 a.told/\d∈a.aK)(q:eI):
  fq z 2 (k+2) (a.tick (gX z.n.toNat z.m.toNat) 1).1 ⟨mH t.z q,false⟩/\rM z (fa t.z q) (a.tick (gX z.n.toNat z.m.toNat) 1).2:=by
 have l:(t.z.R.me∈t.z.R.aL)=(a.me∈gV z.m.toNat):=by rw[h.me,h.tk]
 by_cases c:a.me∈gV z.m.toNat
 ·have w:iw t.z.R t.z.R.aE=[]:=by
   rw[iw,List.filter_eq_nil_iff.2 ?_];rfl;intro d i;rw[h.dl]at i;obtain⟨D,E⟩:=g c d i;rw[MV h u D E];exactλe=>by cases e
  have p:mH t.z q=⟨oe (pC t.z) q,qn (pC t.z) q⟩:=ah (by rw[l];exact c);have r:fa t.z q=dj (iN (pC t.z) q):=ah (by rw[l];exact c);have s:a.tick (gX z.n.toNat z.m.toNat) 1=a.r5 2:=ah c;have y:pC t.z=⟨t.z.R,t.z.H,2,[]⟩:=by rw[pC,w]
  have j:=Lp C h (tp:=2) (b:=[]) rfl ae (λe=>absurd e ae) (.inr (.inl rfl)) (.inl ae) (λx A=>by cases A) q;rw[p,r,s,y,<-o];exact⟨j.1.more aa,j.2⟩
 have p:mH t.z q=t.z:=ai (by rw[l];exact c);have r:fa t.z q=[]:=ai (by rw[l];exact c);have s:a.tick (gX z.n.toNat z.m.toNat) 1=(a,[]):=ai c;rw[p,r,s];refine⟨?_,Jg z⟩;have:=h.more (show k<=k+2 by omega);obtain⟨F,f⟩:=t;have o:f=false:=o;subst o;exact this
theorem ajQ{z:An}(C:z.Ok){g:Nat}{a:AM}{t:cc}(h:fq z 3 g a t)(j:t.fin=false)(u:1<=a.me)(q:eI):
  fq z 3 (g+2) (a.tick (gX z.n.toNat z.m.toNat) 2).1 ⟨r4 t.z q,false⟩/\rM z (hO t.z q) (a.tick (gX z.n.toNat z.m.toNat) 2).2:=by
 have i:(t.z.R.me∈t.z.R.aE)=(a.me∈dg z.n.toNat):=by rw[h.me,h.dl]
 by_cases c:a.me∈dg z.n.toNat
 ·have r:lZ t.z.R t.z.R.aL=[]:=by
   rw[lZ,List.flatMap_eq_nil_iff];intro y _;have e:m4 t.z.R.aU y t.z.R.me=false:=by rw[h.aU,h.me];rw[m4,bq,List.any_eq_false];intro D p;obtain⟨w,_,rfl⟩:=mem_map.1 p;unfold tn;simp;omega
   rw[e];rfl
  have k:r4 t.z q=⟨oe (ug t.z) q,qn (ug t.z) q⟩:=ah (by rw[i];exact c);have l:hO t.z q=dj (iN (ug t.z) q):=ah (by rw[i];exact c);have o:a.tick (gX z.n.toNat z.m.toNat) 2=a.r5 3:=ah c;have s:ug t.z=⟨t.z.R,t.z.H,3,[]⟩:=by rw[ug,r]
  have d:=Lp C h (tp:=3) (b:=[]) rfl ae (λe=>absurd e ae) (.inr (.inr rfl)) (.inr ae) (λx A=>by cases A) q;rw[k,l,o,s,<-j];exact⟨d.1.more aa,d.2⟩
 have k:r4 t.z q=t.z:=ai (by rw[i];exact c);have l:hO t.z q=[]:=ai (by rw[i];exact c);have o:a.tick (gX z.n.toNat z.m.toNat) 2=(a,[]):=ai c;rw[k,l,o];refine⟨?_,Jg z⟩;have:=h.more (show g<=g+2 by omega);obtain⟨E,f⟩:=t;have j:f=false:=j;subst j;exact this
theorem ahP{z:An}{s b:Nat}{a:AM}{u:cc}(h:fq z (s+1) b a u)(c:s<4):jl u.z.R (5*(s:Int))=false:=by rw[WV h.ph h.start h.dK aa];by_cases e:((s+1:Nat):Int)<4;rw[b6 e,cm aa];rfl;rw[cm e];rfl
theorem acT{z:An}(p:z.Ok){s j:Nat}{a:AM}{t:cc}(h:fq z s j a t)(x:s<4)(l:1<=a.me)(g:gb a.me)(f:s=1->a.me∈gV z.m.toNat->∀d∈dg z.n.toNat,d∈yQ 1 a.told/\d∈a.aK){u:cc}{o:List (Int×aP)}(w:Ticks (5*(s:Int)) t u o):
  fq z (s+1) (j+2) (a.tick (gX z.n.toNat z.m.toNat) s).1 u/\rM z o (a.tick (gX z.n.toNat z.m.toNat) s).2:=by
 have k:jl t.z.R (5*(s:Int))=true:=by rw[WV h.ph h.start h.dK aa,b6 aa,b6 (wq _)];rfl
 have i:=Yw h;have main:∀q,fq z (s+1) (j+2) (a.tick (gX z.n.toNat z.m.toNat) s).1 (db t q).1/\rM z (db t q).2 (a.tick (gX z.n.toNat z.m.toNat) s).2:=by
  intro q;have b:=h.ph;have r:s=0\/s=1\/s=2\/s=3:=aa;rcases r with rfl|rfl|rfl|rfl;have e:db t q=(⟨lF ⟨bh t.z.R 1,t.z.H⟩ q,false⟩,eT ⟨bh t.z.R 1,t.z.H⟩ q):=ah (show t.z.R.ba=0 from b);rw[e];exact aa1 p i rfl q
  ·have e:db t q=(⟨mH ⟨bh t.z.R 2,t.z.H⟩ q,false⟩,fa ⟨bh t.z.R 2,t.z.H⟩ q):=by
    unfold db;rw[ai (by rw[b];decide),ah (show t.z.R.ba=1 from b)]
   rw[e];exact aeN p i rfl g (f rfl) q
  ·have e:db t q=(⟨r4 ⟨bh t.z.R 3,t.z.H⟩ q,false⟩,hO ⟨bh t.z.R 3,t.z.H⟩ q):=by
    unfold db;rw[ai (by rw[b];decide),ai (by rw[b];decide),ah (show t.z.R.ba=2 from b)]
   rw[e];exact ajQ p i rfl l q
  ·have e:db t q=(⟨⟨bh t.z.R 4,t.z.H⟩,true⟩,[]):=by
    unfold db;rw[ai (by rw[b];decide),ai (by rw[b];decide),ai (by rw[b];decide)]
   rw[e];exact⟨i.more aa,Jg z⟩
 obtain⟨q,rfl,rfl⟩:=ZA w k (λq=>ahP (main q).1 x);exact main q
theorem r11:sE 1 1=true:=ab
theorem r12:sE 1 2=true:=ab
theorem r13:sE 1 3=true:=ab
theorem r21:sE 2 1=true:=ab
theorem r22:sE 2 2=true:=ab
theorem r23:sE 2 3=true:=ab
theorem r31:sE 3 1=true:=ab
theorem r32:sE 3 2=true:=ab
theorem r33:sE 3 3=true:=ab
theorem r41:sE 4 1=true:=ab
theorem r42:sE 4 2=true:=ab
theorem r43:sE 4 3=true:=ab
theorem agH:∀N,N<5->1<=N->∀M,M<4->1<=M->sE N M=true
 |1,_,_,1,_,_=>r11
 |1,_,_,2,_,_=>r12
 |1,_,_,3,_,_=>r13
 |2,_,_,1,_,_=>r21
 |2,_,_,2,_,_=>r22
 |2,_,_,3,_,_=>r23
 |3,_,_,1,_,_=>r31
 |3,_,_,2,_,_=>r32
 |3,_,_,3,_,_=>r33
 |4,_,_,1,_,_=>r41
 |4,_,_,2,_,_=>r42
 |4,_,_,3,_,_=>r43
 |0,_,h,_,_,_=>absurd h ae
 |_+5,h,_,_,_,_=>absurd h aa
 |1,_,_,0,_,h=>absurd h ae
 |1,_,_,_+4,h,_=>absurd h aa
 |2,_,_,0,_,h=>absurd h ae
 |2,_,_,_+4,h,_=>absurd h aa
 |3,_,_,0,_,h=>absurd h ae
 |3,_,_,_+4,h,_=>absurd h aa
 |4,_,_,0,_,h=>absurd h ae
 |4,_,_,_+4,h,_=>absurd h aa
open Go.Hbn(dd a8 ez gj eJ Oj Fit l6)
theorem Qx{z:An}{ph xi:Int->Nat}{s b:Nat}{n:AN}{d:List cc}{l r c:List cX}(h:ql z ph s n d l)(w:s<=b){j:Nat}(D:j<d.length)(k:j<n.ms.length){a:AM}{u:cc}(t:a.me=n.ms[j].me)(A:fq z (xi a.me) b a u)(q:∀i (C:i<n.ms.length),i≠j->xi n.ms[i].me=ph n.ms[i].me)(y:r.map Db=c)(p:∀x∈r,Wv z x):ql z xi b ⟨n.ms.set j a,c⟩ (d.set j u) r:=by
 refine⟨by simp[h.len],λi m f=>?_,?_,y,p⟩
 ·have o:i<d.length:=by simpa using m
  have g:i<n.ms.length:=by simpa using f
  by_cases e:i=j;subst e;show fq z (xi ((n.ms.set i a)[i]'f).me) b ((n.ms.set i a)[i]'f) ((d.set i u)[i]'m);rw[DI,DI];exact A;show fq z (xi ((n.ms.set j a)[i]'f).me) b ((n.ms.set j a)[i]'f) ((d.set j u)[i]'m);rw[List.getElem_set_ne (Ne.symm e),List.getElem_set_ne (Ne.symm e),q i g e];exact(h.mem i o g).more w
 show(n.ms.set j a).map AM.me=_;rw[wm,<-h.mes];refine qS λi=>?_;rw[pn];split;rename_i e;subst e;rw[ah (by rw[b5];exact k),dM,bO k,t];rfl;rfl
theorem Cd:∀(l:List AM),(l.map AM.me).Nodup->∀(j:Nat)(c:j<l.length),l.findIdx (λa=>a.me==l[j].me)=j
 |x::l,_,0,_=>by rw[qG];simp
 |x::l,h,j+1,c=>by
  rw[eV,List.nodup_cons]at h;have b:j<l.length:=by simpa using c
  have d:(x.me==l[j].me)=false:=by rw[qP];intro e;exact h.1 (mem_map.2 ⟨l[j],de b,e.symm⟩)
  show(x::l).findIdx (λa=>a.me==l[j].me)=j+1;rw[qG,d,Cd l h.2 j b];rfl
theorem VL{z:An}{ph:Int->Nat}{s:Nat}{n:AN}{f:List cc}{l:List cX}(h:ql z ph s n f l):∀d∈dg 9,isSome ((bm f).getD d.toNat none)=decide (d∈(gX z.n.toNat z.m.toNat).mem):=by
 intro d o;have y:=qg.1 o;have u:((d.toNat:Nat):Int)=d:=aa;rw[bx,Bw f d.toNat aa,u,c7,Option.isSome_map,<-h.mes];cases i:f.find? (λt=>t.z.R.me==d)with
 |none=>
  refine(cm λq=>?_).symm;obtain⟨a,x,e⟩:=mem_map.1 q;obtain⟨j,g,w⟩:=List.mem_iff_getElem.1 x;have b:j<f.length:=by rw[h.len];exact g
  have k:=(h.mem j b g).me;have:=List.find?_eq_none.1 i f[j] (de b);rw[k,w,e]at this;simp at this
 |some t=>
  refine(b6 ?_).symm;obtain⟨j,g,e⟩:=List.mem_iff_getElem.1 (List.mem_of_find?_eq_some i);have b:j<n.ms.length:=by rw[<-h.len];exact g
  have k:=(h.mem j g b).me;have r:=List.find?_some i;rw[<-e,k]at r;exact mem_map.2 ⟨n.ms[j],de b,by simpa using r⟩
theorem ZH(k:Nat):(dg k).Nodup:=by rw[dg];refine List.Pairwise.map _ (λa b (h:a≠b)=>?_) List.nodup_range;intro e;exact h aa
theorem Mw{z:An}{ph:Int->Nat}{a:Nat}{n:AN}{b:List cc}{l:List cX}(h:ql z ph a n b l):(n.ms.map AM.me).Nodup:=by rw[h.mes];exact List.Pairwise.filter (λi=>q0 z.n.toNat z.m.toNat i.toNat) (ZH 9)
theorem Kk{n:AN}{i:Int}(h:∀a∈n.ms,a.me≠i):n.ms[n.at i]?=none:=by
 have e:n.at i=n.ms.length:=by rw[AN.at,List.findIdx_eq_length];intro a b;rw[qP];exact h a b
 rw[e];exact fQ (aQ _)
theorem Kl{n:AN}{i:Int}{a:AM}(h:n.ms[n.at i]?=some a):a.me=i:=by obtain⟨b,e⟩:=List.getElem?_eq_some_iff.1 h;have:=sH (w:=b);rw[e]at this;exact eq_of_beq this
theorem O5(a:AM)(d:Int):(nw a d).me=a.me:=by unfold nw;split<;>rfl
theorem tk0(c:Cs)(a:AM):a.tick c 0=if a.me∈c.d then(((if a.me∈c.t then nw a a.me else a).r5 1).1,(c.t.filter (· != a.me)).map (λt=>(t,((4,0,a.me,0,0,0,[]):aP)))++(a.r5 1).2)else(a,[]):=rfl
theorem tk1(c:Cs)(a:AM):a.tick c 1=if a.me∈c.t then a.r5 2 else(a,[]):=rfl
theorem tk2(c:Cs)(a:AM):a.tick c 2=if a.me∈c.d then a.r5 3 else(a,[]):=rfl
theorem Ly(c:Cs)(a:AM):∀s,(a.tick c s).1.me=a.me
 |0=>by rw[tk0];split;show(if a.me∈c.t then nw a a.me else a).me=a.me;split;exact O5 _ _;rfl;rfl
 |1=>by rw[tk1];split<;>rfl
 |2=>by rw[tk2];split<;>rfl
 |_+3=>rfl
theorem ai4(a:AM)(m:aP):(a.qZ m).1.me=a.me:=by unfold AM.qZ;split;exact O5 _ _;rfl
theorem Lo(a:AM)(b:Int):(a.r5 b).2.length<=15:=by have h:=(pa a.H (1,0,a.H.me,a.H.me,b,0,[]) (0,0,0)).2.2;show(dj (((1,0,a.H.me,a.H.me,b,0,[]):aP)::(Hbn.cF a.H (1,0,a.H.me,a.H.me,b,0,[]) (0,0,0)).2.1)).length<=15;rw[dj,b5,cP];omega
theorem acR{c:Cs}(e:c.t.length<=3)(a:AM):∀s,(a.tick c s).2.length<=18
 |0=>by rw[tk0];split;show(((c.t.filter (· != a.me)).map (λt=>(t,((4,0,a.me,0,0,0,[]):aP))))++(a.r5 1).2).length<=18;rw[bA,b5];have b:=nM (· != a.me) c.t;have d:=Lo a 1;omega;exact aY _
 |1=>by rw[tk1];split;exact fw (Lo a 2) ae;exact aY _
 |2=>by rw[tk2];split;exact fw (Lo a 3) ae;exact aY _
 |_+3=>aY _
theorem afT(a:AM)(m:aP):(a.qZ m).2.length<=14:=by unfold AM.qZ;split;exact aY _;show(dj _).length<=14;rw[dj,b5];exact(pa a.H m (0,0,0)).2.2
theorem JF{z:An}{ph:Int->Nat}{c:Nat}{n:AN}{a:List cc}{l:List cX}(h:ql z ph c n a l)(aK:Int){o b:List cX}(f:rM z o b):(dV (bm a) aK o).map Db=CM (gX z.n.toNat z.m.toNat).mem aK b/\∀x∈dV (bm a) aK o,Wv z x:=by
 refine acb (VL h) ?_ aK f;refine vV λi d=>?_;cases e:q0 z.n.toNat z.m.toNat i.toNat with
 |true=>exact(b6 ((zq (p:=λi:Int=>q0 z.n.toNat z.m.toNat i.toNat)).2 ⟨d,e⟩)).symm
 |false=>exact(cm λq=>by have k:=((zq (p:=λi:Int=>q0 z.n.toNat z.m.toNat i.toNat)).1 q).2;rw[e]at k;cases k).symm
theorem Ij{z:An}{ph:Int->Nat}{e:Nat}{n:AN}{b:List cc}{l:List cX}(h:ql z ph e n b l){j:Nat}(d:j<b.length){i:Int}(f:b[j].z.R.me=i):∃a:j<n.ms.length,n.ms[j].me=i/\n.at i=j:=by
 have a:j<n.ms.length:=by rw[<-h.len];exact d
 have k:=(h.mem j d a).me;rw[f]at k;refine⟨a,k.symm,?_⟩;have:=Cd n.ms (Mw h) j a;rw[<-k]at this;exact this
theorem Zc{z:An}{ph xi:Int->Nat}{g:Nat}{n:AN}{d:List cc}{l:List cX}(h:ql z ph g n d l){s:Nat}{i:Int}{j:Nat}(p:j<d.length)(F:d[j].z.R.me=i)(f:xi i=s+1)(w:∀k,k≠i->xi k=ph k){u:cc}{o:List cX}(H:∀a,a∈n.ms->a.me=i->fq z (ph i) g a d[j]->fq z (s+1) (g+2) (a.tick (gX z.n.toNat z.m.toNat) s).1 u/\rM z o (a.tick (gX z.n.toNat z.m.toNat) s).2):
  ql z xi (g+2) (n.tick (gX z.n.toNat z.m.toNat) s i) (d.set j u) (l++dV (bm d) i o):=by
 obtain⟨b,r,y⟩:=Ij h p F;have A:=h.mem j p b;rw[r]at A;obtain⟨L,N⟩:=H n.ms[j] (de b) r A;obtain⟨D,E⟩:=JF h i N;have e:n.tick (gX z.n.toNat z.m.toNat) s i=⟨n.ms.set j (n.ms[j].tick (gX z.n.toNat z.m.toNat) s).1,n.mail++CM (gX z.n.toNat z.m.toNat).mem i (n.ms[j].tick (gX z.n.toNat z.m.toNat) s).2⟩:=by unfold AN.tick;rw[y,bO b]
 rw[e];refine Qx h (vX _ _) p b (Ly _ _ _) (by rw[Ly,r,f];exact L) (λk G t=>w _ λq=>?_) (by rw[cE,h.mail,D]) (λx I=>(List.mem_append.1 I).elim (h.ok x) (E x));have C:=Cd n.ms (Mw h) k G;rw[q]at C;exact t (C.symm.trans y)
theorem Zb{z:An}{s:Nat}{f:Nat}{n:AN}{d:List cc}{x:cX}{l:List cX}(h:ql z (λ_=>s) f n d (x::l)){j:Nat}(g:j<d.length)(t:d[j].z.R.me=x.1){u:cc}{o:List cX}(A:∀a,a∈n.ms->a.me=x.1->fq z s f a d[j]->fq z s (f+1) (a.qZ (eJ x.2)).1 u/\rM z o (a.qZ (eJ x.2)).2):
  ql z (λ_=>s) (f+1) (n.B7 (gX z.n.toNat z.m.toNat)) (d.set j u) (l++dV (bm d) x.1 o):=by
 obtain⟨b,w,r⟩:=Ij h g t;obtain⟨D,E⟩:=A n.ms[j] (de b) w (h.mem j g b);obtain⟨k,p⟩:=JF h x.1 E;have i:n.mail=(x.1,eJ x.2)::l.map Db:=h.mail.symm;have e:n.B7 (gX z.n.toNat z.m.toNat)=⟨n.ms.set j (n.ms[j].qZ (eJ x.2)).1,l.map Db++CM (gX z.n.toNat z.m.toNat).mem x.1 (n.ms[j].qZ (eJ x.2)).2⟩:=by unfold AN.B7;rw[i];show(match n.ms[n.at x.1]? with|some a=>_|none=>n)=_;rw[r,bO b]
 rw[e];exact Qx h (vX _ _) g b (ai4 _ _) D (λ_ _ _=>rfl) (by rw[cE,k]) (λy C=>(List.mem_append.1 C).elim (λq=>h.ok y (by simp[q])) (p y))
def ej(c:Cs)(K:Nat->Nat):Nat->AN
 |0=>AJ c
 |s+1=>comes c (eP c s (ej c K s) 9) (K s)
structure yX(c:Cs)(K:Nat->Nat):Prop where
 kl:∀s,K s<=2000
 k3:K 3=0
 ok:∀s,s<4->∀k,k<K s->(comes c (eP c s (ej c K s) 9) k).ok c s=true
 nil:∀s,s<4->(ej c K (s+1)).mail=[]
 fin:∀s,s<4->∀a∈(ej c K (s+1)).ms,a.fin c=true
theorem al7(c:Cs)(n:AN)(i:Int):n.tick c 3 i=n:=by
 unfold AN.tick;cases e:n.ms[n.at i]? with
 |none=>rfl
 |some a=>
  obtain⟨b,d⟩:=List.getElem?_eq_some_iff.1 e;have f:n.ms.set (n.at i) a=n.ms:=by rw[<-d];exact List.set_getElem_self b
  show(⟨n.ms.set (n.at i) a,n.mail++[]⟩:AN)=n;rw[f,bF]
theorem Zz(c:Cs)(n:AN):∀i,eP c 3 n i=n
 |0=>rfl
 |i+1=>by show(eP c 3 n i).tick c 3 _=n;rw[Zz c n i,al7]
def runK(a b d:Nat):Nat->Nat
 |0=>a
 |1=>b
 |2=>d
 |_=>0
theorem xj(c:Cs)(a b d:Nat):ej c (runK a b d) 1=comes c (eP c 0 (AJ c) 9) a:=rfl
theorem JL(c:Cs)(b a d:Nat):ej c (runK b a d) 2=comes c (eP c 1 (ej c (runK b a d) 1) 9) a:=rfl
theorem st3(c:Cs)(b d a:Nat):ej c (runK b d a) 3=comes c (eP c 2 (ej c (runK b d a) 2) 9) a:=rfl
theorem RE(c:Cs)(K:Nat->Nat)(s:Nat):ej c K (s+1)=comes c (eP c s (ej c K s) 9) (K s):=rfl
theorem WR(c:Cs)(n:AN)(k:Nat)(h:k=0):comes c n k=n:=by subst h;rfl
theorem st4(c:Cs)(a b d:Nat):ej c (runK a b d) 4=ej c (runK a b d) 3:=(RE c (runK a b d) 3).trans ((WR c _ _ rfl).trans (Zz c _ 9))
theorem akd{c:Cs}(h:ab6 c (AJ c)=true):∃K,yX c K:=by
 obtain⟨d,q,o,l,h⟩:=xo _ _ (xz (c:=c) (s:=0) 9 0 (AJ c) h);rw[bD]at h;obtain⟨m,h⟩:=h;obtain⟨f,r,n,g,h⟩:=xo _ _ (xz (c:=c) (s:=1) 9 0 (comes c (eP c 0 (AJ c) (0+9)) d) h);rw[bD]at h;obtain⟨b4,h⟩:=h;obtain⟨j,t,i,a,b⟩:=xo _ _ (xz (c:=c) (s:=2) 9 0 (comes c (eP c 1 (comes c (eP c 0 (AJ c) (0+9)) d) (0+9)) f) h);simp only[cy]at o l m n g b4 i a b;rw[<-xj c d f j]at l m n g b4 i a b;rw[<-JL c d f j]at g b4 i a b;rw[<-st3 c d f j]at a b;refine⟨runK d f j,λs=>?_,rfl,λs p=>?_,λs p=>?_,λs p=>?_⟩
 ·match s with
  |0=>exact q
  |1=>exact r
  |2=>exact t
  |_+3=>exact aY _
 ·have e:s=0\/s=1\/s=2\/s=3:=by omega
  rcases e with rfl|rfl|rfl|rfl;exact o;exact n;exact i;exactλk u=>absurd u (sP _)
 ·have e:s=0\/s=1\/s=2\/s=3:=by omega
  rcases e with rfl|rfl|rfl|rfl;exact l;exact g;exact a;rw[st4];exact a
 ·have e:s=0\/s=1\/s=2\/s=3:=by omega
  rcases e with rfl|rfl|rfl|rfl;exact all_eq_true.1 m;exact all_eq_true.1 b4;exact all_eq_true.1 b;rw[st4];exact all_eq_true.1 b
theorem akc{z:An}(h:z.Ok):∃K,yX (gX z.n.toNat z.m.toNat) K:=by have a:=h.n1;have b:=h.n4;have c:=h.m1;have d:=h.m3;have k:=agH z.n.toNat aa aa z.m.toNat aa aa;rw[agG]at k;exact akd k
theorem CV(c:Cs)(s:Nat)(n:AN):∀(i:Nat)(a:AM),a∈(eP c s n i).ms->(i:Int)<a.me->a∈n.ms
 |0,_,h,_=>h
 |i+1,a,h,f=>by
  have h:a∈((eP c s n i).tick c s ((i:Int)+1)).ms:=h;unfold AN.tick at h;cases e:(eP c s n i).ms[(eP c s n i).at ((i:Int)+1)]? with
  |none=>rw[e]at h;exact CV c s n i a h aa
  |some b=>rw[e]at h;rcases zb h with q|q;exact CV c s n i a q aa;have k:=Kl e;have d:=Ly c b s;rw[<-q,k]at d;omega
theorem JW(c:Cs)(s:Nat)(n:AN):∀(i j:Nat),(eP c s n i).mail.length<=(eP c s n (i+j)).mail.length
 |i,0=>aQ _
 |i,j+1=>by refine fw (JW c s n i j) ?_;show _<=((eP c s n (i+j)).tick c s (((i+j:Nat):Int)+1)).mail.length;unfold AN.tick;split;rw[bA];omega;exact aQ _
theorem S0{c:Cs}{s:Nat}{n:AN}(h:n.ok c s=true):n.mail.length<=5001/\n.mail≠[]:=by unfold AN.ok at h;split at h;cases h;rename_i x l e;rw[e];simp only[bD]at h;have:=fR h.2;exact⟨by rw[cP];omega,List.cons_ne_nil _ _⟩
theorem yX.len{c:Cs}{K:Nat->Nat}(h:yX c K){s:Nat}(f:s<4){k:Nat}(g:k<=K s):(comes c (eP c s (ej c K s) 9) k).mail.length<=5001:=by
 by_cases e:k<K s;exact(S0 (h.ok s f k e)).1
 ·have e:k=K s:=by omega
  have:=h.nil s f;subst e;rw[show(comes c (eP c s (ej c K s) 9) (K s)).mail=[]from this];exact aY _
theorem Lj:∀{b seen:LI}{a:Int},iD a b=true->0<=a->(∀y∈seen,y<=a)->poly.o5 seen b=0:=by
 intro b;induction b with
 |nil=>intro _ _ _ _ _;rfl
 |cons x b e=>intro seen a h c d;rw[iD]at h;split at h;cases h;rw[poly.o5];grind
theorem HS:∀{b:LI}{a:Int}(k:Nat),iD a b=true->iD a (b.take k)=true:=by
 intro b;induction b with
 |nil=>simp_all
 |cons x b c=>
  intro a k h;cases k with
  |zero=>rfl
  |succ k=>rw[iD]at h;rw[List.take_succ_cons,iD];simp_all
theorem Tp{pl:Int->cO}{ws:cO}{a:LI}{f:Int->Fr}{t:Int}(h:∀x∈a,poly.pat (pl x) t=f x)(b:ws.length≠0):∀k,k<=a.length->poly.pat (law22.jP pl ws a k) t=poly.S2 ws (a.map f) k
 |0,_=>by rw[law22.jP,law22.Tq];rfl
 |k+1,d=>by
  have c:a.getD k 0=a[k]:=by grind
  rw[law22.jP,poly.PX,Tp h b k aa,law22.Yt,tW,ai b,c,h _ (de _),poly.S2,poly.getD_map _ d]
theorem Yx{z:An}(a:z.Ok)(x:Int):poly.pat (z.fH x) 0=poly.pat z.bJ x:=by have:=a.k1;rw[law22.PY,An.fH,bx,DF (by rw[Mu];omega)];trivial
theorem RM(t:LI){x:Int}(b:1<=x):∀(a:LI),om t x (a.map λw=>(w,[0])) []=[]
 |[]=>rfl
 |w::a=>by show om t x (a.map λw=>(w,[0])) (if w∈t/\w∉([])/\x∈([0])then []++[w]else [])=[];rw[ai (λh=>by simp_all)];exact RM t b a
def An.ws(z:An):cO:=poly.oN ((dg z.n.toNat).take z.was.toNat)
def An.sum(z:An):cO:=law22.jP z.fH z.ws ((dg z.n.toNat).take z.was.toNat) ((dg z.n.toNat).take z.was.toNat).length
theorem Sf{z:An}(b:z.Ok):dL (dg z.n.toNat) (poly.cr z.bJ) (dg z.n.toNat)=((dg z.n.toNat).take z.was.toNat,z.ws,0):=by
 have e:=b.w1;have f:=b.wn;have c:=b.cfg;have a:(poly.cr z.bJ).length=z.was.toNat:=by rw[rite.jq,FH]
 have d:EI (dg z.n.toNat) (poly.cr z.bJ)=z.was:=by rw[EI,ah (by rw[a];simp;omega)];omega
 rw[dL,ah ⟨c.rd,by rw[rI];omega⟩,ai aa,a,Lj (HS _ c.rd) (wq 0) az];rfl
theorem ahR{z:An}(a:z.Ok):z.ws.length≠0:=by have b:=a.w1;have c:=a.wn;rw[An.ws,poly.oN,ah (Lj (HS _ a.cfg.rd) (wq 0) az),b5,c6,rI];omega
theorem aaj{z:An}(b:z.Ok):poly.pat z.sum 0=poly.pat z.bJ 0:=by have c:=b.wn;have a:=Lj (HS z.was.toNat b.cfg.rd) (wq 0) (seen:=[]) az;rw[An.sum,Tp (λx _=>Yx b x) (ahR b) _ (aQ _)];have h:=poly.ajk a (p:=z.bJ) (by rw[FH,c6,rI];omega);rw[poly.abq,ah (by rw[b5]),ah a]at h;exact congrArg Prod.fst h
theorem aai{z:An}(f:z.Ok){a:List Dl}(e:∀x∈dg z.n.toNat,0<=je a x/\dp a x=poly.cr (z.fH x)):law22.uG (dg z.n.toNat) z.bG (poly.cr z.bJ) (dg z.n.toNat) a=(poly.cr z.sum,0):=by
 have d:=f.k1;rw[law22.uG,bq,pM,Sf f,xq,ah rfl,ah ?_,law22.X0 (λx c=>(e x (kJ c)).2) _ (aQ _)];rfl
 ·refine all_eq_true.2 λx c=>?_;obtain⟨d,g⟩:=e x (kJ c);have b:((poly.cr (z.fH x)).length:Int)=z.bG:=by rw[rite.jq,vn];omega
  rw[o0,g,b,b6 d];simp
theorem ae5{z:An}(b:z.Ok)(x:Int):law22.wX (dg z.n.toNat) (poly.cr z.bJ) (dg z.n.toNat) (dg z.n.toNat) ((dg z.n.toNat).map λy=>poly.pat (z.fH y) x)=(poly.pat z.sum x,0):=by rw[law22.wX,bq,uy,Sf b,Fh,ah rfl,ah ?_,law22.Zv (λy a=>(law22.TY (λy=>poly.pat (z.fH y) x) (kJ a)).2) _ (aQ _)];rfl;exact all_eq_true.2 λy a=>(law22.TY (λy=>poly.pat (z.fH y) x) (kJ a)).1
theorem aah{z:An}(g:z.Ok){D:Nat}(P:D<=28000){a:AM}{t:cc}(h:fq z 4 D a t)(k:gb a.me)(E:∀d∈dg z.n.toNat,d∈yQ 1 a.told)(N:a.me∈gV z.m.toNat->∀d∈dg z.n.toNat,d∈a.aK):Fu z t:=by
 obtain⟨c,W,F⟩:=h.inv;have Q:=g.k1;have T:=g.km;have V:=g.m3;have U:=g.m1;have j:∀x∈dg z.n.toNat,0<=je t.z.R.aG x/\dp t.z.R.aG x=poly.cr (z.fH x):=λx q=>by rw[h.aG,N6];exact R9 (E x q)
 have I:dN t.z.R=dg z.n.toNat:=by
  rw[dN,bq,jE,h.dl];refine List.filter_eq_self.2 λx q=>?_;obtain⟨C,L⟩:=j x q;have s:((poly.cr (z.fH x)).length:Int)=z.bG:=by rw[rite.jq,vn];omega
  have O:oo t.z.R.aL x t.z.R.aU=[]:=by
   rw[oo,bq,h.aU];have e:((a.told.filter λx=>x.1==2).map λx=>(x.2,([0]:LI)))=(yQ 2 a.told).map λw=>(w,[0]):=by rw[yQ,fu];rfl
   rw[e];exact RM _ (qg.1 q).1 _
  rw[rD,bq,rC,O,o0,h.bG,L,s,b6 C,b6 rfl,b6 (show [].length<z.bG by trivial)];rfl
 have H:h8 t.z.R=(poly.cr z.sum,0):=by rw[h8,I,h.dl,h.bG,h.bJ,aai g j]
 have f:=by have:=KS t.z.R F.bG;rw[H]at this;exact this
 have b:law22.LX (poly.cr z.sum) 0=g1.dt g1.gG (z.bJ.getD 0 0):=by rw[law22.LX,bq,poly.Fx ae,aaj g,law22.PY]
 have l:TOk t:=⟨⟨c,aa,F⟩,by rw[h.ph];decide,by rw[h.ph];decide,λ_=>h.ph⟩;have G:t.fin=true:=h.fin;by_cases u:t.z.R.me∈t.z.R.aL
 ·have y:a.me∈gV z.m.toNat:=by rw[<-h.me,<-h.tk];exact u
  have o:=λd i=>MV h k (E d i) (N y d i);have p:e8 t.z.R (dg z.n.toNat)=dg z.n.toNat:=List.filter_eq_self.2 λd i=>by rw[o d i]
  have A:e9 t.z.R (dg z.n.toNat)=(dg z.n.toNat).map λd=>poly.pat (z.fH d) a.me:=by rw[e9,p];exact qE λd i=>by rw[o d i]
  have K:iE t.z.R (dg z.n.toNat)=(poly.pat z.sum a.me,0):=by rw[iE,p,A,h.dl,h.bJ,ae5 g]
  have r:iJ t.z.R=(some (dg z.n.toNat,poly.cr z.sum,poly.pat z.sum a.me,rP (dg z.n.toNat) (poly.cr z.sum)),0):=by unfold iJ;grind
  refine⟨l,(dg z.n.toNat,poly.cr z.sum,poly.pat z.sum a.me,rP (dg z.n.toNat) (poly.cr z.sum)),?_,f,b,λ_ _=>?_⟩;unfold w7;rw[G,r,h.bb];rw[law22.qU,bq,h.me,poly.KE k,b6 rfl]
 ·have r:iJ t.z.R=(some (dg z.n.toNat,poly.cr z.sum,0,rP (dg z.n.toNat) (poly.cr z.sum)),0):=by
   unfold iJ;rw[H,I,ah rfl,ai u]
  refine⟨l,(dg z.n.toNat,poly.cr z.sum,0,rP (dg z.n.toNat) (poly.cr z.sum)),?_,f,b,λC L=>?_⟩;unfold w7;rw[G,r,h.bb];exact absurd (by rw[h.tk];exact KY.2 ⟨C,aa⟩) u
end law23
end Go.Proofs.YtofofalgjibokaaGreatDoor
/- RiteAnew: the plan of the run; the law's contract. No program here but for the last line. -/
namespace Go.Proofs.YtofofalgjibokaaGreatDoor
namespace law23
open bf deal rite
open Go.Hbn(dd a8 ez gj eJ Oj Fit l6)
abbrev An.cs(z:An):Cs:=gX z.n.toNat z.m.toNat
theorem EJ{z:An}{i:Int}(h:i∈z.cs.mem):1<=i/\i<=9:=by have:=qg.1 (List.mem_filter.1 h).1;omega
theorem Pk{z:An}{ph:Int->Nat}{b:Nat}{n:AN}{e:List cc}{l:List cX}(h:ql z ph b n e l){a:AM}(d:a∈n.ms):a.me∈z.cs.mem:=by have:a.me∈n.ms.map AM.me:=mem_map.2 ⟨a,d,rfl⟩;rw[h.mes]at this;exact this
theorem ql.xi{z:An}{ph xi:Int->Nat}{b a:Nat}{n:AN}{e:List cc}{l:List cX}(h:ql z ph b n e l)(m:∀i,1<=i->i<=9->ph i=xi i)(g:b<=a):ql z xi a n e l:=
 ⟨h.len,λj f d=>by
  have k:=EJ (Pk h (de d));rw[<-m _ k.1 k.2]
  exact(h.mem j f d).more g,h.mes,h.mail,h.ok⟩
theorem fq.tok{z:An}{s b:Nat}{a:AM}{t:cc}(h:fq z s b a t)(j:s<=4)(g:b<=28000):TOk t:=by
 obtain⟨c,i,f⟩:=h.inv
 exact⟨⟨c,aa,f⟩,by rw[h.ph];omega,by rw[h.ph];omega,λe=>by
  have d:=h.fin;rw[e]at d;have:=Odt d.symm
  rw[h.ph,this];rfl⟩
theorem Wb{a:Int}{t u:cc}{o:List cX}(h:Ticks a t u o):u.z.R.me=t.z.R.me/\u.z.R.p=t.z.R.p:=by
 induction h with
 |stop t d=>exact⟨rfl,rfl⟩
 |step t q u o d _ b=>
  have k:(db t q).1.z.R.me=t.z.R.me/\(db t q).1.z.R.p=t.z.R.p:=by unfold db;split;exact⟨(tb ⟨bh t.z.R 1,t.z.H⟩ q).me,(tb ⟨bh t.z.R 1,t.z.H⟩ q).p⟩;split;exact⟨(uT ⟨bh t.z.R 2,t.z.H⟩ q).me,(uT ⟨bh t.z.R 2,t.z.H⟩ q).p⟩;split;exact⟨(xN ⟨bh t.z.R 3,t.z.H⟩ q).me,(xN ⟨bh t.z.R 3,t.z.H⟩ q).p⟩;exact⟨rfl,rfl⟩
  exact⟨b.1.trans k.1,b.2.trans k.2⟩
theorem afS(y:InZ)(q:eI):(tQ y q).R.me=y.z.R.me/\(tQ y q).R.p=y.z.R.p:=by unfold tQ;split;show(eD _ _ _).me=_/\(eD _ _ _).p=_;unfold eD;split<;>exact⟨rfl,rfl⟩;have k:=rA (Hbn.cF y.z.H y.m q).2.2 y.z.R;exact⟨k.me,k.p⟩
theorem af4:∀N,N<5->1<=N->∀M,M<4->1<=M->dQ N M=(gX N M).mem:=by decide +kernel
theorem ajj{z:An}(h:z.Ok):dQ z.n.toNat z.m.toNat=z.cs.mem:=by have a:=h.n1;have b:=h.n4;have c:=h.m1;have d:=h.m3;exact af4 _ aa aa _ aa aa
theorem abo{z:An}(b:z.Ok){w:List cc}(h:Made z 9 w):ql z (λ_=>0) 0 (AJ z.cs) w []:=by
 obtain⟨p,rfl⟩:=h;have G:=b.m1;have I:=b.m3;have E:=b.k1;have F:=b.km;have L:=b.n4;have A:=b.cfg;have q:(dg 9).filter z.mb=z.cs.mem:=by show(dg 9).filter z.mb=(dg 9).filter λi=>q0 z.n.toNat z.m.toNat i.toNat;refine vV λi f=>?_;have k:=qg.1 f;have e:=S1 b i.toNat;rw[show((i.toNat:Nat):Int)=i by omega]at e;exact e
 rw[q];have o:∀i∈z.cs.mem,fq z 0 0 ⟨i,⟨0,0,i,z.cs.mem,[]⟩,[],[]⟩ (jG (z.iq i) (p i)):=λi f=>by
  have u:=EJ f;have g:z.mb i=true:=by rw[<-q]at f;exact(List.mem_filter.1 f).2
  obtain⟨_,_,_,a⟩:=(Ps b i u.1 u.2).2 g;have a:i∈dQ z.n.toNat z.m.toNat:=a
  have l:=T6 (S6 b i) (λx d=>by
   have d:x∈dg z.n.toNat\/x∈gV z.m.toNat\/x=i:=d;rcases d with e|e|e;have:=qg.1 e;exact⟨aa,aa⟩;have:=KY.1 e;exact⟨aa,aa⟩;·rw[e];exact⟨aa,aa⟩) (λx d=>by
   have:=A.rng x d
   exact⟨aa,aa⟩) a (by show z.bG<1000;omega) (p i)
  obtain⟨c,C,s⟩:=l.inv;have O:ea (jG (z.iq i) (p i)).z.H:=s.bf;refine⟨rfl,rfl,rfl,rfl,rfl,rfl,rfl,rfl,rfl,rfl,rfl,?_,rfl,?_,rfl,rfl,rfl,rfl,rfl,0,aQ _,?_⟩;show(⟨0,0,i,dQ z.n.toNat z.m.toNat,[]⟩:a8)=⟨0,0,i,z.cs.mem,[]⟩;rw[ajj b];·exactλt l=>by cases l
  exact {s with aG:=aY _,aU:=aY _,aM:=aY _,frl:=aY _}
 refine⟨by rw[b5];show _=(z.cs.mem.map _).length;rw[b5],λj r N=>?_,?_,rfl,λx d=>by cases d⟩
 ·have D:j<z.cs.mem.length:=by rw[b5]at r;exact r
  have y:(AJ z.cs).ms[j]=⟨z.cs.mem[j],⟨0,0,z.cs.mem[j],z.cs.mem,[]⟩,[],[]⟩:=qJ (λi=>(⟨i,⟨0,0,i,z.cs.mem,[]⟩,[],[]⟩:AM));rw[y,qJ];exact o _ (de D)
 show(z.cs.mem.map _).map AM.me=z.cs.mem;rw[fu];exact List.map_id'' (λ_=>rfl) _
def EW(s i:Nat)(a:Int):Nat:=if a<=(i:Int)then s+1 else s
structure PT(z:An)(K:Nat->Nat)(s i:Nat)(ts:List cc)(l:List cX):Prop where
 s4:s<=4
 i9:i<=9
 end4:s=4->i=0
 sim:ql z (EW s i) (3000*s+2*i) (eP z.cs s (ej z.cs K s) i) ts l
structure PM(z:An)(K:Nat->Nat)(s k:Nat)(ts:List cc)(l:List cX):Prop where
 s4:s<4
 kK:k<=K s
 sim:ql z (λ_=>s+1) (3000*s+18+k) (comes z.cs (eP z.cs s (ej z.cs K s) 9) k) ts l
theorem Zy(c:Cs)(s:Nat)(n:AN):eP c s n 0=n:=rfl
theorem aoQ{c:Cs}{K:Nat->Nat}(h:yX c K):(ej c K 4).mail=[]:=h.nil 3 ae
theorem Pj{z:An}{ph:Int->Nat}{a:Nat}{n:AN}{b:List cc}{l:List cX}(h:ql z ph a n b l):l.length=n.mail.length:=by rw[<-h.mail,b5]
theorem ajM{z:An}{K:Nat->Nat}(a:yX z.cs K){s i:Nat}{b:List cc}{l:List cX}(h:PT z K s i b l):l.length<=5001:=by rw[Pj h.sim];by_cases e:s=4;have:=h.end4 e;rw[this,Zy,e,aoQ a];exact aY _;have d:=h.s4;have f:=h.i9;refine fw (JW z.cs s _ i (9-i)) ?_;rw[show i+(9-i)=9 by omega];have k:=a.len (s:=s) aa (aY _);rw[WR _ _ 0 rfl]at k;exact k
theorem ajK{z:An}{K:Nat->Nat}(a:yX z.cs K){s k:Nat}{b:List cc}{l:List cX}(h:PM z K s k b l):l.length<=5001:=by rw[Pj h.sim];exact a.len h.s4 h.kK
theorem Yj{z:An}{o a:List cX}(h:rM z o a):o.length=a.length:=by rw[<-h.1,b5]
theorem Sn{c:Cs}{a:AM}(h:a.fin c=true):(∀d∈c.d,d∈yQ 1 a.told)/\(a.me∈c.t->∀d∈c.d,d∈a.aK):=by unfold AM.fin at h;rw[bD,bD]at h;refine⟨λd b=>?_,λe d b=>?_⟩;have k:=Odt (all_eq_true.1 h.1.1 d b);exact List.count_pos_iff.1 (by show 0<(yQ 1 a.told).count d;rw[show(yQ 1 a.told).count d=1 from k];decide);have k:=h.2;rw[b6 e]at k;exact Odt (all_eq_true.1 k d b)
def ajJ{z:An}(hz:z.Ok){K:Nat->Nat}(hK:yX z.cs K):Plan z where
 T:=PT z K
 M:=PM z K
 K:=K
 t0:=λh=>⟨ae,ae,λ_=>rfl,(abo hz h).xi (λi h1 _=>by unfold EW;rw[ai aa]) (aY _)⟩
 tl:=λh=>by have:=ajM hK h;omega
 ml:=λh=>by have:=ajK hK h;omega
 no:=λ{s i ts l} h hs hi hn=>by
  have hno:∀a∈(eP z.cs s (ej z.cs K s) i).ms,a.me≠(i:Int)+1:=λa ha e=>by have k:=Pk h.sim ha;have k2:=VL h.sim ((i:Int)+1) (qg.2 (by have:=EJ k;omega));rw[show((i:Int)+1).toNat=i+1 by omega,hn,<-e,b6 k]at k2;cases k2
  have e:eP z.cs s (ej z.cs K s) (i+1)=eP z.cs s (ej z.cs K s) i:=by show(eP z.cs s (ej z.cs K s) i).tick z.cs s ((i:Int)+1)=_;unfold AN.tick;rw[Kk hno]
  refine⟨h.s4,aa,λe=>aa,?_⟩;rw[e];have hsim:=h.sim;refine⟨hsim.len,λj h1 h2=>?_,hsim.mes,hsim.mail,hsim.ok⟩;have ne:=hno _ (de h2);have ep:EW s (i+1) (eP z.cs s (ej z.cs K s) i).ms[j].me=EW s i (eP z.cs s (ej z.cs K s) i).ms[j].me:=by unfold EW;by_cases q:(eP z.cs s (ej z.cs K s) i).ms[j].me<=(i:Int);rw[ah q,ah aa];rw[ai q,ai aa]
  rw[ep];exact(hsim.mem j h1 h2).more aa
 yes:=λ{s i ts l} h hs hi j hj hm=>by
  obtain⟨hj2,hm2,_⟩:=Ij h.sim hj hm;have hsj:=h.sim.mem j hj hj2;have eph:EW s i ((i:Int)+1)=s:=ai aa;rw[hm2,eph]at hsj;refine⟨hsj.tok aa aa,λu o hT=>?_⟩;have hto:∀a,a∈(eP z.cs s (ej z.cs K s) i).ms->a.me=(i:Int)+1->fq z (EW s i ((i:Int)+1)) (3000*s+2*i) a ts[j]->fq z (s+1) (3000*s+2*i+2) (a.tick z.cs s).1 u/\rM z o (a.tick z.cs s).2:=λa ha hme hs0=>by rw[eph]at hs0;refine acT hz hs0 hs aa ⟨aa,aa⟩ (λe1 ht d hd=>?_) hT;subst e1;have ha0:=CV z.cs 1 (ej z.cs K 1) i a ha aa;obtain⟨k1,k2⟩:=Sn (hK.fin 0 ae a ha0);exact⟨k1 d hd,k2 ht d hd⟩
  obtain⟨_,ho⟩:=hto _ (de hj2) hm2 (by rw[eph];exact hsj);refine⟨?_,Wb hT,h.s4,aa,λe=>aa,?_⟩;rw[Yj ho];have:=acR (c:=z.cs) (by show(gV z.m.toNat).length<=3;rw[BR];have:=hz.m3;omega) (eP z.cs s (ej z.cs K s) i).ms[j] s;omega
  ·exact Zc h.sim hj hm (ah aa) (λk hk=>by
    unfold EW;by_cases q:k<=(i:Int);rw[ah q,ah aa]
    ·rw[ai q,ai aa]) hto
 m0:=λ{s ts l} h hs=>⟨hs,aY _,h.sim.xi (λi _ h9=>by unfold EW;rw[ah aa]) aa⟩
 mB:=λh=>⟨h.kK,fw h.kK (fw (hK.kl _) ae)⟩
 qZ:=λ{s k ts x l} h=>by
  have hml:(comes z.cs (eP z.cs s (ej z.cs K s) 9) k).mail=(x.1,eJ x.2)::l.map Db:=h.sim.mail.symm;have hk:k<K s:=by by_cases e:k=K s;have k2:=hK.nil s h.s4;rw[show(ej z.cs K (s+1)).mail=(comes z.cs (eP z.cs s (ej z.cs K s) 9) (K s)).mail from rfl,<-e,hml]at k2;cases k2;have:=h.kK;omega
  have hs3:s<3:=by have h4:=h.s4;by_cases e:s=3;rw[e,hK.k3]at hk;omega;omega
  have hok:=hK.ok s h.s4 k hk;unfold AN.ok at hok;rw[hml]at hok;simp only[bD,sO,mF]at hok;obtain⟨⟨o1,o2⟩,o3⟩:=hok;have hr:=EJ o1;have hL:=h.sim.ok x az;have hbK:=hK.kl s;have hkd:(x.2.kind=1\/x.2.kind=2\/x.2.kind=3)/\(x.2.bo=1/\x.2.bE∈dg z.n.toNat\/x.2.bo=2\/x.2.bo=3)/\(s+1<3\/x.2.bo≠2)\/x.2.kind=4/\x.2.aK∈dg z.n.toNat:=by rcases o2 with ⟨q1,q2,q3⟩|⟨q1,q2⟩;have q2:x.2.bo=(s:Int)+1:=q2;refine .inl ⟨q1,?_,aa⟩;have h3:s=0\/s=1\/s=2:=aa;rcases h3 with rfl|rfl|rfl;exact .inl ⟨q2,q3 rfl⟩;exact .inr (.inl q2);exact .inr (.inr q2);exact .inr ⟨q1,q2⟩
  have hps:=VL h.sim x.1 (qg.2 ⟨hr.1,aa⟩);rw[b6 o1]at hps;obtain⟨p,hp⟩:=Option.isSome_iff_exists.1 hps;have hin:∀(a:AM)(t:cc),a.me=x.1->fq z (s+1) (3000*s+18+k) a t->InZ.Ok ⟨t.z,x.2⟩/\x.2.body.length<=100000/\∀q,fq z (s+1) (3000*s+18+k+1) (a.qZ (eJ x.2)).1 ⟨tQ ⟨t.z,x.2⟩ q,false⟩/\rM z (nu ⟨t.z,x.2⟩ q) (a.qZ (eJ x.2)).2:=λa t hme hst=>
   ai3 hz hst (by rw[hst.fin];exact cm aa) aa aa hme.symm hL hkd
  obtain⟨j0,hj0,hm0,_⟩:=FQ aa hp;have hm0:ts[j0].z.R.me=x.1:=by rw[hm0];omega
  obtain⟨hj02,hm02,_⟩:=Ij h.sim hj0 hm0;refine⟨hr,(hin _ _ hm02 (h.sim.mem j0 hj0 hj02)).2.1,⟨p,hp⟩,λj hj hm=>?_⟩;obtain⟨hj2,hm2,_⟩:=Ij h.sim hj hm;have hst:=h.sim.mem j hj hj2;obtain⟨i1,_,i3⟩:=hin _ _ hm2 hst;refine⟨by rw[hst.fin];exact cm aa,i1,λq=>⟨?_,afS _ q,h.s4,hk,?_⟩⟩;rw[Yj (i3 q).2];have:=afT (comes z.cs (eP z.cs s (ej z.cs K s) 9) k).ms[j] (eJ x.2);omega;exact Zb h.sim hj hm λa _ hme hs0=>(hin a _ hme hs0).2.2 q
 mt:=λ{s k ts} h hs=>by
  have hml:(comes z.cs (eP z.cs s (ej z.cs K s) 9) k).mail=[]:=h.sim.mail.symm;have hk:k=K s:=by by_cases e:k<K s;exact absurd hml (S0 (hK.ok s hs k e)).2;have:=h.kK;omega
  have hb:=hK.kl s;have hsim:=h.sim;subst hk;exact⟨aa,ae,λ_=>rfl,hsim.xi (λi h1 _=>by unfold EW;rw[ai aa]) aa⟩
theorem known{z:An}(d:z.Ok):Known z:=by
 obtain⟨K,h⟩:=akc d;refine⟨λi _ _=>S6 d i,λi l m=>Ps d i l m,ajJ d h,λp g j k=>?_⟩;have g:PT z K 4 0 p []:=g;have e:=g.sim;rw[Zy]at e;have b:j<(ej z.cs K 4).ms.length:=by rw[<-e.len];exact k
 have c:=e.mem j k b;have a:=de b;have q:=EJ (Pk e a);have f:EW 4 0 (ej z.cs K 4).ms[j].me=4:=ai aa;rw[f]at c;obtain⟨n,o⟩:=Sn (h.fin 3 ae _ a);exact aah d ae c ⟨aa,aa⟩ n o
theorem afu:bu au 4 [.int .i64,.int .i64,.int .i64,.int .i64,Im] [.val .bool] sha.fE Tw (λ_=>(true,())):=aaP λ_ a=>known a
end law23
end Go.Proofs.YtofofalgjibokaaGreatDoor
namespace Go.Eng
open Go.ChangeShapes Go.WideShapes Go.ChangeAt
theorem Mn{P:Program}{t e:TypeId}{n:Nat}{k:IntKind}{H:Type}{enc:TypeId×Value->H}{W:World}{fl:Bool}{b:Nat}{cs:bn}{p:List MemPlace}{g:LI}(D:P.underlying t=some (.array n e))(A:P.underlying e=some (.int k))(o:P.cellsOf e=1)(d:P.cellsOf t=n)(h:DataW.trod enc P W 0 (λ_=>true) fl b t cs=some (.agg (g.map λx=>.lit (.int k x)),p)):cs=g.map (Value.int k):=by
 obtain⟨E,m,rfl,f,a,C,q⟩:=DataW.trod_array D h;simp only[cp,DataW.agg.injEq]at f;obtain⟨f,_⟩:=f;have s:g.length=n:=by have:=congrArg length f;simpa[C]using this
 refine oT (by rw[a,d,b5,s]) λi l F=>?_;have r:i<n:=by rw[a,d]at l;exact l
 have u:=q i r;rw[o,wo,bO aa]at u;obtain⟨z,j,w,_⟩:=DataW.trod_int A u;have y:(cs.drop i).take 1=[cs[i]]:=by rw[pd l];rfl
 rw[y]at j;simp only[dS,fW]at j;have c:(g.map λx=>(DataW.lit (.int k x):DataW H))[i]?=(E.map (·.1))[i]?:=by rw[f]
 rw[dM,dM,bO aa,bO aa]at c;simp only[fU,cd]at c;rw[w]at c;simp only[DataW.lit.injEq,Lit.int.injEq,true_and]at c;rw[j,qJ,c]
theorem O8{P:Program}{W:World}{i:String}{g n:Nat}{k:IntKind}{cs:Array Value}{f:LI}(j:P.globalNamed i=some g)(d:W.var? P i=some cs)(a:cs.toList=f.map (Value.int k))(h:f.length=n):n9 (Rd (cR W) (.arr n (.int k))) (aC (.arr n (.int k))) (cR W) g 0 [f]:=by
 have b:∃el fr,W.heap[g]?=some (.cells cs el fr):=by simp only[World.var?,j,Option.bind_some]at d;split at d;rename_i c el fr b;simp only[cd]at d;subst d;exact⟨el,fr,b⟩;cases d
 obtain⟨el,fr,b⟩:=b;obtain⟨l⟩:=cs;have a:l=f.map (Value.int k):=a;refine⟨l,λm=>mu b m,?_,?_⟩;simp[aC,a,h];rw[jU,cA (by simp[aC,a,h])];exact ru ⟨h,xC.2 a⟩
theorem abk{C:Checked}{f:FuncId}{fn:Func}{s:ChangeSpec}{bt:TypeId}{ts:List TypeId}{L:List Kd}{pre g:HL L->Prop}{H:Type}{enc:TypeId×Value->H}{G:hU}(Z:aF C.prog f fn) (hf:bu C.prog f L [.val .bool] G pre (λ_=>(true,()))) (hl:laidOutB C.prog=true) (d:fn.params.toList=ts) (D:fn.resultTypes=#[bt]) (w:C.prog.underlying bt=some .bool)(T:OpnL C.prog ts L g) (m:∀r,g r->pre r) (F:s.vars=[]) (E:∀ds:List (DataW H),ds.length=ts.length->s.fn H ds={results:=[.lit (.bool true)],args:=ds})(W:World) (V:tC G (cR W)) (base:Nat) (args:Array Value) (ds O:List (DataW H)) (a:List MemPlace)(A:∀(j:Nat) t v,fn.params[j]?=some t->args[j]?=some v->Value.okWide C.prog W .any base t v)(Q:DataW.Whole enc C.prog fn.params.toList s.vars false W args.toList ds O a)(o:(DataW.weightsEach C.prog (fn.params.toList++s.plain.varTypes C.prog) (ds++O)).all (· <= reachBytes)=true):
  Calls C.prog f args W λe N=>∃v,e=.returned v/\s.post enc C.prog fn false true false false W args v N:=by
 have k:=Q;have z:∀x∈a,x.block<W.heap.size:=λx K=>by simpa using k.lt x K
 obtain⟨p,q,u,P,rfl,x0,x1⟩:=Q;rw[F]at P;obtain⟨rfl,rfl⟩:=trodVars_none P;rw[d]at u;have c:ds.length=ts.length:=by exact RH u
 have I:∀n∈DataW.weightsEach C.prog ts ds,n<=reachBytes:=by
  intro n hn;have e:s.plain.varTypes C.prog=[]:=by simp[DataSpec.varTypes,ChangeSpec.plain,F]
  rw[e,d,bF,bF,sM]at o;simpa using o n hn
 obtain⟨r,y,hp⟩:=Yl T (enc:=enc) (W:=W) (base:=base) (vs:=args.toList) (ds:=ds) (p:=p) (λj t v U hj=>A j t v (by rw[<-d]at U;simpa using U) (by simpa using hj)) u I;have Y:=hf W (cR W) args.toList r (λb l h=>h) V y (m r hp);refine(NY Z Y).mono ?_;rintro e N ⟨v,rfl,vs,ob,rfl,⟨v,x2,rfl,i,rfl⟩,R⟩;have i:v=.bool true:=by have h:[v]=[Value.bool true]:=i;simpa using h
 subst i;refine⟨_,rfl,ds,[],p++[],[],p,[],k,?_,?_,?_,?_,λh=>by cases h⟩;rw[D,bF,E ds c];exact trodAll_mk1 (shut_bool w true);rw[d,bF,E ds c];exact Vw hl T R u (λx K=>z x (by simpa using K));rw[F,bF,E ds c];rfl;exact R.frame _
end Go.Eng
/- sha's tables as the card's rows list them. -/
namespace Go.Proofs.YtofofalgjibokaaGreatDoor
namespace sha
abbrev BK : List (String × DataW Unit) := [("cresset/sha.first", Rows.laid_cresset_sha_first), ("cresset/sha.roots", Rows.laid_cresset_sha_roots)]
theorem ail : Tryz.prog.globalNamed "cresset/sha.first" = some 0 := by kernel_rfl
theorem ain : Tryz.prog.globalNamed "cresset/sha.roots" = some 1 := by kernel_rfl
theorem akI:(Tryz.prog.globals[0]?).map (·.type)=some 227:=ab
theorem akJ:(Tryz.prog.globals[1]?).map (·.type)=some 252:=ab
theorem acf{W:World}(h:laidMetH au BK W):tC fE (cR W):=by rw[MakeChecks.laidMetH_plain _ _ _ ab]at h;obtain⟨E,⟨z,t0,r,f0,A,F,d,j,m,b,⟨g1,t1,s,f1,D,G,f,l,o,c,_,_⟩,_⟩,_,_⟩:=h;obtain rfl:=nO (ail.symm.trans d);obtain rfl:=nO (ain.symm.trans f);obtain rfl:=nO (akI.symm.trans j);obtain rfl:=nO (akJ.symm.trans l);have t:(Rows.laid_cresset_sha_first:DataW Unit)=.agg (gk.map λx=>.lit (.int .u32 x)):=rfl;have u:(Rows.laid_cresset_sha_roots:DataW Unit)=.agg (ly.map λx=>.lit (.int .u32 x)):=rfl;rw[t]at b;rw[u]at c;have p:=Mn (e:=174) (n:=8) (k:=.u32) ab ab ab ab b;have q:=Mn (e:=174) (n:=64) (k:=.u32) ab ab ab ab c;have w:=O8 d m p (n:=8) rfl;have y:=O8 f o q (n:=64) rfl;intro g e x a;unfold fE at a;split at a;rename_i i;subst i;simp only[cd]at a;cases a;exact w;split at a;rename_i i;subst i;simp only[cd]at a;cases a;exact y;cases a
theorem aaf(os:Os)(args:Array Value):laidMetH au BK ((World.doorLaid au 400 os).forCall (λ_ _=>0) ⟨#[],args,[]⟩).memory:=
 laidMetH_of_parts3 (fuel:=8) (laidMet_of_run' 8 ab ab) ab ab
