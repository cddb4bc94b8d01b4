import Derived.Test.YtbeeaekepmnfhaaGreatDoorML24oPJ
set_option maxRecDepth 100000
namespace Go.Eng
open Go Go.RowKit Cr
abbrev HL:List Kd->Type
 | []=>Unit
 | κ::ks=>au κ × HL ks
def AG:Kd->Bool
 | .fp | .fr | .pair _ _ | .arr _ _=>true
 | _=>false
def fe:Kd->Bool
 | .pair a b=>fe a&&fe b
 | .arr _ e=>fe e
 | .sl _ | .ptr _ | .cap _ _=>false
 | _=>true
def cu (w:World):Mem:=fun b=>match w.heap[b]? with
 | some (.cells c _ _)=>some c.toList
 | _=>none
def mu (M:Mem) (κ:Kd) (x:au κ) (v:Value):Prop :=
 match AG κ with
 | true=>∃ l,v=.agg ⟨l⟩/\Rd M κ x l
 | false=>Rd M κ x [v]
def mF (M:Mem):(ks:List Kd)->HL ks->List Value->Prop
 | [],_,us=>us=[]
 | κ::ks,x,us=>∃ u us',us=u::us'/\mu M κ x.1 u/\mF M ks x.2 us'
def pb:(κ:Kd)->au κ->Prop
 | .pair a b,x=>pb a x.1/\pb b x.2
 | .arr n e,xs=>xs.length=n/\∀ x∈xs,pb e x
 | .sl e,xs=>∀ x∈xs,pb e x
 | .ptr e,x=>pb e x
 | .cap c e,x=>pb c x.1/\pb e x.2
 | _,_=>True
def vI:(ks:List Kd)->HL ks->Prop
 | [],_=>True
 | κ::ks,x=>pb κ x.1/\vI ks x.2
inductive bH where
 | own (e:Kd)
 | val (κ:Kd)
 | box (κ:Kd)
abbrev bH.kd:bH->Kd
 | .own e=>.sl e
 | .val κ=>κ
 | .box κ=>κ
abbrev HO:List bH->Type
 | []=>Unit
 | o::os=>au o.kd × HO os
def cV (N:Nat) (M:Mem) (ob:Option Nat) (w':World):Mem:=fun b =>
 if ob=some b then none else if N<=b then cu w' b else M b
def aad (N:Nat) (M:Mem) (ob:Option Nat) (w':World):(o:bH)->au o.kd->Value->Prop
 | .val κ,x,v=>mu (cV N M ob w') κ x v
 | .own e,xs,v=>(xs=[]/\v=.slice none 0 0)\/∃ b o cap n l,ob=some b/\N<=b/\v=.slice (some ⟨b,o,none⟩) xs.length cap/\xs.length<=cap/\(o=0\/cap=0)/\o+cap*width e<=n/\bw w' b n l/\dJ (Rd (cV N M ob w') e) xs l
 | .box κ,x,v=>∃ b n l,ob=some b/\N<=b/\v=.pointer (some ⟨b,0,none⟩)/\bw w' b n l/\Rd (cV N M ob w') κ x l
def dY (N:Nat) (M:Mem) (ob:Option Nat) (w':World):(os:List bH)->HO os->List Value->Prop
 | [],_,vs=>vs=[]
 | o::os,x,vs=>∃ v vs',vs=v::vs'/\aad N M ob w' o x.1 v/\dY N M ob w' os x.2 vs'
def iY:List Value->Value
 | [v]=>v
 | vs=>.tuple ⟨vs⟩
abbrev dH:=Nat->Option (Sigma au)
def aM:dH:=fun _=>none
def pd (G:dH) (M:Mem):Prop:=∀ g e x,G g=some ⟨e,x⟩->jW (Rd M e) (width e) M g 0 [x]
def aB (P:Program) (f:FuncId) (ins:List Kd) (outs:List bH) (G:dH) (pre:HL ins->Prop) (F:HL ins->HO outs):Prop :=
 ∀ (w:World) (M:Mem) (us:List Value) (xs:HL ins),Mem.le M (cu w)->pd G M->mF M ins xs us->pre xs ->
  iy P f ⟨us⟩ w fun v w'=>∃ vs ob,v=iY vs/\dY w.heap.size M ob w' outs (F xs) vs/\Below w.heap.size w w'
def BH (P:Program) (f:FuncId) (ins:List Kd) (tl:List Value) (outs:List bH) (G:dH) (pre:HL ins->Prop) (F:HL ins->HO outs):Prop :=
 ∀ (w:World) (M:Mem) (us:List Value) (xs:HL ins),Mem.le M (cu w)->pd G M->mF M ins xs us->pre xs ->
  iy P f ⟨us++tl⟩ w fun v w'=>∃ vs ob,v=iY vs/\dY w.heap.size M ob w' outs (F xs) vs/\Below w.heap.size w w'
theorem aB.toT {P:Program} {f:FuncId} {ins:List Kd} {outs:List bH} {G:dH} {pre:HL ins->Prop} {F:HL ins->HO outs} (h:aB P f ins outs G pre F):BH P f ins [] outs G pre F:=by
 intro w M us xs
 rw[List.append_nil]
 exact h w M us xs
def Ek (B:bm) (κ:Kd):SV->Option (au κ × List Prop)
 | .is (.agg cs)=>match AG κ,eK B κ cs with
  | true,some (x,ps,[])=>some (x,ps)
  | _,_=>none
 | .is (.one c)=>match AG κ,eK B κ [c] with
  | false,some (x,ps,[])=>some (x,ps)
  | _,_=>none
 | _=>none
def nF (B:bm):(ks:List Kd)->List SV->Option (HL ks × List Prop)
 | [],[]=>some ((),[])
 | κ::ks,v::vs=>match Ek B κ v with
  | some (x,ps)=>match nF B ks vs with
   | some (xs,qs)=>some ((x,xs),ps++qs)
   | none=>none
  | none=>none
 | _,_=>none
def Cu (id:Nat):(o:bH)->au o.kd->TV
 | .val κ,x=>match AG κ with
  | true=>.agg (cellsOf κ x)
  | false=>match cellsOf κ x with
   | c::_=>.one c
   | []=>.agg []
 | .own e,xs=>.one (.sl id 0 0 xs.length (width e))
 | .box _,_=>.one (.ptr id 0)
def fI (id:Nat):(os:List bH)->HO os->List TV
 | [],_=>[]
 | o::os,x=>Cu id o x.1::fI id os x.2
def qD (id:Nat):(os:List bH)->HO os->List (Nat × List Cell)
 | [],_=>[]
 | .own e::_,x=>[(id,[ft e (x.1:List (au e)).length x.1])]
 | .val _::os,x=>qD id os x.2
 | .box κ::_,x=>[(id,cellsOf κ x.1)]
def p5:List TV->SV
 | [x]=>.is x
 | l=>.tup l
def cx:List bH->Nat
 | []=>0
 | .own _::os=>cx os+1
 | .val _::os=>cx os
 | .box _::os=>cx os+1
def cF:List bH->Bool
 | []=>true
 | .own e::os=>fe e&&cF os
 | .val κ::os=>fe κ&&cF os
 | .box κ::os=>fe κ&&cF os
def isLive (B:bm) (i:Nat):Bool:=match B i with
 | some (_::_)=>true
 | _=>false
def nV (B:bm) (outs:List bH) (ids:List Nat):List (Nat × List Cell) :=
 match cF outs with
 | true=>[]
 | false=>(ids.filter (isLive B)).map fun i=>(i,[])
def ar (ins:List Kd) (outs:List bH) (pre:HL ins->Prop) (F:HL ins->HO outs):Spec:=fun _ id args B =>
 match nF (gV (dL B args) B) ins args with
 | some (xs,ps)=>some { val:=p5 (fI id outs (F xs)),new:=qD id outs (F xs),wr:=nV B outs (dL B args),pre:=ps++[pre xs] }
 | none=>none
def mc (G:dH) (ins:List Kd) (outs:List bH) (pre:HL ins->Prop) (F:HL ins->HO outs):Spec:=fun W id args B =>
 match ar ins outs pre F W id args B with
 | some o=>some { o with pre:=(∀ g s,G g=some s->W.gl g=some s)::o.pre }
 | none=>none
section
variable {P:Program}
theorem iy.mono {f:FuncId} {us:Array Value} {w:World} {R R':Value->World->Prop} (h:iy P f us w R) (hr:∀ v w',R v w'->R' v w'):iy P f us w R':=by
 rcases h with ⟨h1,h2⟩|⟨v,w',h1,h2⟩
 ·exact .inl ⟨h1,h2.mono fun e w' ⟨v,he,hv⟩=>⟨v,he,hr v w' hv⟩⟩
 ·exact .inr ⟨v,w',h1,hr v w' h2⟩
theorem rR {M M':Mem}:∀ {e:Kd} {x:au e} {vs:List Value},fe e=true->Rd M e x vs->Rd M' e x vs:=by
 intro e
 induction e with
 | int k=>intro x vs _ h;exact h
 | bool=>intro x vs _ h;exact h
 | str=>intro x vs _ h;exact h
 | fp=>intro x vs _ h;exact h
 | fr=>intro x vs _ h;exact h
 | pair a b iha ihb=>intro x vs hp ⟨v1,v2,e,h1,h2⟩;simp[fe] at hp;exact⟨v1,v2,e,iha hp.1 h1,ihb hp.2 h2⟩
 | arr n e ih=>intro x vs hp ⟨h1,h2⟩;exact⟨h1,dz (fun _ _=>ih hp) h2⟩
 | sl e ih=>intro x vs hp;simp[fe] at hp
 | ptr e ih=>intro x vs hp;simp[fe] at hp
 | fn f=>intro x vs _ h;exact h
 | cap c e ihc ihe=>intro x vs hp;simp[fe] at hp
 | pq=>intro x vs _ h;exact h
theorem o4 {M M':Mem} {κ:Kd} {x:au κ} {v:Value} (h:∀ l,Rd M κ x l->Rd M' κ x l) (hr:mu M κ x v):mu M' κ x v:=by
 unfold mu at hr ⊢
 cases hk:AG κ with
 | true=>rw[hk] at hr;obtain⟨l,e,hl⟩:=hr;exact⟨l,e,h l hl⟩
 | false=>rw[hk] at hr;exact h _ hr
theorem p8 {B:bm} {ρ:aH} {M:Mem} (hS:Sees B ρ M) {κ:Kd} {s:SV} {x:au κ} {ps:List Prop} {v:Value} (h:Ek B κ s=some (x,ps)) (hp:∀ p∈ps,p) (hr:s.rel ρ v):mu M κ x v:=by
 unfold Ek at h
 split at h
 ·rename_i cs
  split at h
  ·rename_i y qs hk hq
   simp only[Option.some.injEq,Prod.mk.injEq] at h
   obtain⟨rfl,rfl⟩:=h
   obtain⟨l,e,hl⟩:=hr
   obtain⟨l1,l2,e1,h1,h2⟩:=gz hS _ _ _ _ _ _ hq hp hl
   have h2:l2=[]:=h2
   subst h2
   rw[List.append_nil] at e1
   subst e1
   unfold mu
   rw[hk]
   exact⟨_,e,h1⟩
  ·simp at h
 ·rename_i c
  split at h
  ·rename_i y qs hk hq
   simp only[Option.some.injEq,Prod.mk.injEq] at h
   obtain⟨rfl,rfl⟩:=h
   obtain⟨l1,l2,e1,h1,h2⟩:=gz hS _ _ _ _ _ _ hq hp (aZ hr)
   have h2:l2=[]:=h2
   subst h2
   rw[List.append_nil] at e1
   unfold mu
   rw[hk,e1]
   exact h1
  ·simp at h
 ·simp at h
theorem xw {B:bm} {ρ:aH} {M:Mem} (hS:Sees B ρ M):∀ {ks:List Kd} {ss:List SV} {xs:HL ks} {ps:List Prop} {us:List Value},nF B ks ss=some (xs,ps)->(∀ p∈ps,p)->aW ρ ss us->mF M ks xs us:=by
 intro ks
 induction ks with
 | nil=>intro ss xs ps us h hp hr;cases ss with
  | nil=>exact hr
  | cons _ _=>simp[nF] at h
 | cons κ ks ih=>intro ss xs ps us h hp hr;cases ss with
  | nil=>simp[nF] at h
  | cons s ss =>
   simp only[nF] at h
   split at h
   ·rename_i x p1 h1
    split at h
    ·rename_i ys p2 h2
     simp only[Option.some.injEq,Prod.mk.injEq] at h
     obtain⟨rfl,rfl⟩:=h
     obtain⟨u,us',e,k1,k2⟩:=hr
     exact⟨u,us',e,p8 hS h1 (fun p hp'=>hp p (List.mem_append_left _ hp')) k1,ih h2 (fun p hp'=>hp p (List.mem_append_right _ hp')) k2⟩
    ·simp at h
   ·simp at h
theorem c9 {w:World} {b:Nat} {l:List Value} {el:TypeId} {fr:Nat × Nat} (h:w.heap[b]?=some (.cells ⟨l⟩ el fr)):cu w b=some l:=by
 simp[cu,h]
theorem fU {w:World} {b:Nat} {l:List Value} (h:cu w b=some l):∃ el fr,w.heap[b]?=some (.cells ⟨l⟩ el fr):=by
 unfold cu at h
 split at h
 ·rename_i c el fr hh
  simp at h
  exact⟨el,fr,by rw[hh,<- h]⟩
 ·simp at h
theorem we {w:World} {b:Nat} {l:List Value} (h:cu w b=some l):b<w.heap.size:=by
 obtain⟨el,fr,h⟩:=fU h
 rcases Nat.lt_or_ge b w.heap.size with h'|h'
 ·exact h'
 ·rw[Array.getElem?_eq_none h'] at h;cases h
theorem y4 {κ:Kd} {ρ:aH} {id:Nat} {x:au κ} {v:Value} (h:mu ρ.M κ x v):(Cu id (.val κ) x).rel ρ v:=by
 unfold mu at h
 cases hk:AG κ with
 | true =>
  rw[hk] at h
  obtain⟨l,e,hl⟩:=h
  have:Cu id (.val κ) x=.agg (cellsOf κ x):=by simp only[Cu,hk]
  rw[this]
  exact⟨l,e,eg hl⟩
 | false =>
  rw[hk] at h
  have:=eg h
  cases κ with
  | int k=>exact cI this
  | bool=>exact cI this
  | str=>exact cI this
  | sl e=>exact cI this
  | ptr e=>exact cI this
  | fn f=>exact cI this
  | cap c e=>exact cI this
  | pq=>exact cI this
  | _=>simp[AG] at hk
theorem vG {ρ:aH} {l:List TV} {vs:List Value} (h:dX ρ l vs):(p5 l).rel ρ (iY vs):=by
 match l,vs,h with
 | [],_,h=>have e:_=[]:=h;subst e;exact⟨[],rfl,rfl⟩
 | [x],_,⟨y,ys,e,h1,h2⟩=>have e2:ys=[]:=h2;subst e2;subst e;exact h1
 | x::x'::l,_,⟨y,ys,e,h1,y',ys',e',h2⟩=>subst e' e;exact⟨_,rfl,y,_,rfl,h1,y',ys',rfl,h2⟩
theorem LS:∀ (κ:Kd) (x:au κ),cellsOf κ x≠[]:=by
 intro κ
 induction κ with
 | pair a b iha ihb =>
  intro x h
  have h:cellsOf a x.1++cellsOf b x.2=[]:=h
  exact iha x.1 (List.append_eq_nil_iff.1 h).1
 | _=>intro x h;simp[cellsOf] at h
theorem Bf {ρ':aH} {N:Nat} {M:Mem} {ob:Option Nat} {w':World} {id:Nat} (hM:∀ (e:Kd) (x:au e) l,Rd (cV N M ob w') e x l->(fe e=true\/Mem.le (cV N M ob w') ρ'.M)->Rd ρ'.M e x l)
  : ∀ {os:List bH} {ys:HO os} {vs:List Value},cx os=0->(cF os=true\/Mem.le (cV N M ob w') ρ'.M)->dY N M ob w' os ys vs->qD id os ys=[]/\dX ρ' (fI id os ys) vs:=by
 intro os
 induction os with
 | nil=>intro ys vs _ _ h;exact⟨rfl,h⟩
 | cons o os ih =>
  intro ys vs h0 hp h
  cases o with
  | own e=>simp[cx] at h0
  | box e=>simp[cx] at h0
  | val κ =>
   obtain⟨v,vs',e,h1,h2⟩:=h
   have hp2:cF os=true\/Mem.le (cV N M ob w') ρ'.M:=by
    rcases hp with hp|hp
    ·simp[cF] at hp;exact .inl hp.2
    ·exact .inr hp
   have hp1:fe κ=true\/Mem.le (cV N M ob w') ρ'.M:=by
    rcases hp with hp|hp
    ·simp[cF] at hp;exact .inl hp.1
    ·exact .inr hp
   obtain⟨k1,k2⟩:=ih (ys:=ys.2) h0 hp2 h2
   exact⟨k1,v,vs',e,y4 (o4 (fun l hl=>hM κ _ l hl hp1) h1),k2⟩
theorem wy {ρ':aH} {N:Nat} {M:Mem} {ob:Option Nat} {w':World} {id:Nat} (hM:∀ (e:Kd) (x:au e) l,Rd (cV N M ob w') e x l->(fe e=true\/Mem.le (cV N M ob w') ρ'.M)->Rd ρ'.M e x l)
  : ∀ {os:List bH} {ys:HO os} {vs:List Value},cx os<=1->(cF os=true\/Mem.le (cV N M ob w') ρ'.M)->dY N M ob w' os ys vs ->
   (qD id os ys=[]/\dX ρ' (fI id os ys) vs) \/
   (∃ cs,cs≠[]/\qD id os ys=[(id,cs)]/\(dX ρ' (fI id os ys) vs\/∃ b n l,ob=some b/\N<=b/\bw w' b n l/\aD ρ' cs l/\(ρ' id=some b->ρ'.n id=n->dX ρ' (fI id os ys) vs))):=by
 intro os
 induction os with
 | nil=>intro ys vs _ _ h;exact .inl ⟨rfl,h⟩
 | cons o os ih =>
  intro ys vs h0 hp h
  obtain⟨v,vs',e,h1,h2⟩:=h
  cases o with
  | val κ =>
   have hp2:cF os=true\/Mem.le (cV N M ob w') ρ'.M:=by
    rcases hp with hp|hp
    ·simp[cF] at hp;exact .inl hp.2
    ·exact .inr hp
   have hp1:fe κ=true\/Mem.le (cV N M ob w') ρ'.M:=by
    rcases hp with hp|hp
    ·simp[cF] at hp;exact .inl hp.1
    ·exact .inr hp
   have hv:=y4 (id:=id) (o4 (fun l hl=>hM κ _ l hl hp1) h1)
   rcases ih (ys:=ys.2) h0 hp2 h2 with ⟨k1,k2⟩|⟨cs,k0,k1,k2|⟨b,n,l,k3,k4,k5,k6,k7⟩⟩
   ·exact .inl ⟨k1,v,vs',e,hv,k2⟩
   ·exact .inr ⟨cs,k0,k1,.inl ⟨v,vs',e,hv,k2⟩⟩
   ·exact .inr ⟨cs,k0,k1,.inr ⟨b,n,l,k3,k4,k5,k6,fun hb hn=>⟨v,vs',e,hv,k7 hb hn⟩⟩⟩
  | own e0 =>
   have hp2:cF os=true\/Mem.le (cV N M ob w') ρ'.M:=by
    rcases hp with hp|hp
    ·simp[cF] at hp;exact .inl hp.2
    ·exact .inr hp
   have hp1:fe e0=true\/Mem.le (cV N M ob w') ρ'.M:=by
    rcases hp with hp|hp
    ·simp[cF] at hp;exact .inl hp.1
    ·exact .inr hp
   have hz:cx os=0:=by simp[cx] at h0;omega
   obtain⟨_,k2⟩:=Bf (id:=id) hM (ys:=ys.2) hz hp2 h2
   refine .inr ⟨_,by simp,rfl,?_⟩
   rcases h1 with ⟨hx,hv⟩|⟨b,o,cap,n,l,hob,hN,hv,hc,ho,hn,hblk,hr⟩
   ·refine .inl ⟨v,vs',e,.inl ⟨?_,by rw[hv]⟩,k2⟩
    have hx:(ys.1:List (au e0))=[]:=hx
    rw[hx];rfl
   ·refine .inr ⟨b,n,l,hob,hN,hblk,aZ (dU rfl (dz (fun x l hl=>hM e0 x l hl hp1) hr)),fun hb hn'=>⟨v,vs',e,.inr ⟨b,o,cap,hb,hc,by simpa using ho,by rw[hn'];exact hn,by rw[hv]⟩,k2⟩⟩
  | box κ =>
   have hp2:cF os=true\/Mem.le (cV N M ob w') ρ'.M:=by
    rcases hp with hp|hp
    ·simp[cF] at hp;exact .inl hp.2
    ·exact .inr hp
   have hp1:fe κ=true\/Mem.le (cV N M ob w') ρ'.M:=by
    rcases hp with hp|hp
    ·simp[cF] at hp;exact .inl hp.1
    ·exact .inr hp
   have hz:cx os=0:=by simp[cx] at h0;omega
   obtain⟨_,k2⟩:=Bf (id:=id) hM (ys:=ys.2) hz hp2 h2
   obtain⟨b,n,l,hob,hN,hv,hblk,hr⟩:=h1
   exact .inr ⟨_,LS κ ys.1,rfl,.inr ⟨b,n,l,hob,hN,hblk,eg (hM κ ys.1 l hr hp1),fun hb _=>⟨v,vs',e,⟨b,hb,by rw[hv]⟩,k2⟩⟩⟩
theorem tC {B:bm} {outs:List bH} {ids:List Nat} {p:Nat × List Cell} (h:p∈nV B outs ids):p.2=[]/\p.1∈ids/\∃ cs,B p.1=some cs/\cs≠[]:=by
 unfold nV at h
 split at h
 ·cases h
 ·obtain⟨i,hi,rfl⟩:=List.mem_map.1 h
  obtain⟨h1,h2⟩:=List.mem_filter.1 hi
  refine⟨rfl,h1,?_⟩
  unfold isLive at h2
  split at h2
  ·rename_i c cs hq
   exact⟨_,hq,by simp⟩
  ·cases h2
theorem B7 {f:FuncId} {ins:List Kd} {tl:List Value} {outs:List bH} {G:dH} {pre:HL ins->Prop} {F:HL ins->HO outs} (h:BH P f ins tl outs G pre F) (h1:cx outs<=1) {w0:bW} {id:Nat} {args:List SV} {B:bm} {out:Out}
  (hF:ar ins outs pre F w0 id args B=some out) (hp:∀ p∈out.pre,p) (hG:∀ g s,G g=some s->w0.gl g=some s) {ρ:aH} {us:List Value} {w:World} (hv:aW ρ args us) (hc:Ctx w0 id ρ B w) :
  iy P f ⟨us++tl⟩ w fun v w'=>∃ ρ',out.val.rel ρ' v/\Eff id B out ρ ρ' w w':=by
 classical
 unfold ar at hF
 split at hF
 ·rename_i xs ps hxs
  simp only[Option.some.injEq] at hF;subst hF
  -- what the callee may see
  let own:Nat->Prop:=fun b=>∃ i cs,i∈dL B args/\B i=some cs/\cs≠[]/\ρ i=some b
  let M0:Mem:=fun b=>if own b then cu w b else ρ.M b
  have hM0:∀ b l,M0 b=some l->cu w b=some l:=by
   intro b l hb
   simp only[M0] at hb
   split at hb
   ·exact hb
   ·obtain⟨el,fr,hh⟩:=hc.mem b l hb;exact c9 hh
  have hρM:Mem.le ρ.M M0:=by
   intro b l hb
   simp only[M0]
   split
   ·obtain⟨el,fr,hh⟩:=hc.mem b l hb;exact c9 hh
   ·exact hb
  have hsees:Sees (gV (dL B args) B) ρ M0:=by
   refine⟨hρM,fun i cs b hi hne hb=>?_⟩
   have hmem:i∈dL B args:=by
    unfold gV at hi
    split at hi
    ·rename_i hm;exact wc hm
    ·cases hi
   have hBi:=jC hi
   obtain⟨l,⟨rest,el,fr,k1,k2,_⟩,k3⟩:=hc.blks i cs hBi hne b hb
   refine⟨l,rest,k3,?_,k2⟩
   simp only[M0]
   rw[if_pos ⟨i,cs,hmem,hBi,hne,hb⟩]
   exact c9 k1
  have hins:=xw hsees hxs (fun p hp'=>hp p (by simp[hp'])) hv
  have hgl:pd G M0:=fun g e x hg=>kF hρM (hc.glob g e x (hG g _ hg))
  refine (h w M0 us xs hM0 hgl hins (hp _ (by simp))).mono ?_
  rintro v w' ⟨vs,ob,rfl,hout,hbel⟩
  -- what is known behind the call
  let Mx:Mem:=if cF outs=true then ρ.M else M0
  let ρ1:aH:=⟨ρ.m,ρ.n,fun b=>if ob=some b/\w.heap.size<=b then none else if w.heap.size<=b then cu w' b else Mx b⟩
  have hlt:∀ b l,ρ.M b=some l->b<w.heap.size:=by
   intro b l hb
   obtain⟨el,fr,hh⟩:=hc.mem b l hb
   exact we (c9 hh)
  have hxM:Mem.le ρ.M Mx:=by
   intro b l hb
   simp only[Mx]
   split
   ·exact hb
   ·exact hρM b l hb
  have hle1:Mem.le ρ.M ρ1.M:=by
   intro b l hb
   have:=hlt b l hb
   simp only[ρ1]
   rw[if_neg (fun h=>by omega),if_neg (by omega)]
   exact hxM b l hb
  have hle2:cF outs=true\/Mem.le (cV w.heap.size M0 ob w') ρ1.M:=by
   by_cases hpl:cF outs=true
   ·exact .inl hpl
   ·refine .inr fun b l hb=>?_
    simp only[cV] at hb
    simp only[ρ1]
    split at hb
    ·cases hb
    ·rename_i hob
     rw[if_neg (fun h=>hob h.1)]
     split at hb
     ·rename_i hN;rw[if_pos hN];exact hb
     ·rename_i hN;rw[if_neg hN];simp only[Mx,hpl];exact hb
  have conv:∀ (ρ':aH),ρ'.M=ρ1.M->∀ (e:Kd) (x:au e) l,Rd (cV w.heap.size M0 ob w') e x l->(fe e=true\/Mem.le (cV w.heap.size M0 ob w') ρ'.M)->Rd ρ'.M e x l:=by
   intro ρ' _ e x l hr hor
   rcases hor with hor|hor
   ·exact rR hor hr
   ·exact cy hor hr
  have hmem1:∀ (ρ':aH) (new:List (Nat × List Cell)),ρ'.M=ρ1.M->(∀ p∈new,∀ b,ρ' p.1=some b->ob=some b/\w.heap.size<=b)->∀ b l,ρ'.M b=some l->ρ.M b=some l\/((∀ p∈new,ρ' p.1≠some b)/\(w.heap.size<=b\/∃ q∈nV B outs (dL B args),ρ q.1=some b/\q.2=[])/\∃ el fr,w'.heap[b]?=some (.cells ⟨l⟩ el fr)):=by
   intro ρ' new hρ' hnew b l hb
   rw[hρ'] at hb
   simp only[ρ1] at hb
   split at hb
   ·cases hb
   ·rename_i hob
    split at hb
    ·rename_i hN
     exact .inr ⟨fun p hp' e=>hob (hnew p hp' b e),.inl hN,fU hb⟩
    ·rename_i hN
     simp only[Mx] at hb
     split at hb
     ·exact .inl hb
     ·rename_i hpl
      have hm:=hM0 b l hb
      obtain⟨el,fr,hh⟩:=fU hm
      simp only[M0] at hb
      split at hb
      ·rename_i hown
       obtain⟨i,cs,hi1,hi2,hi3,hi4⟩:=hown
       refine .inr ⟨fun p hp' e=>hN (hnew p hp' b e).2,.inr ⟨(i,[]),?_,hi4,rfl⟩,el,fr,by rw[hbel.block b (by omega)];exact hh⟩
       unfold nV
       have:cF outs=false:=by simpa using hpl
       rw[this]
       refine List.mem_map.2 ⟨i,List.mem_filter.2 ⟨hi1,?_⟩,rfl⟩
       unfold isLive
       rw[hi2]
       cases cs with
       | nil=>exact absurd rfl hi3
       | cons c cs=>rfl
      ·exact .inl hb
  have hwr:∀ (ρ':aH) (p:Nat × List Cell),p∈nV B outs (dL B args)->(∃ cs,B p.1=some cs/\cs≠[])/\∀ b,ρ p.1=some b->p.2≠[]->∃ l,bw w' b (ρ.n p.1) l/\aD ρ' p.2 l:=by
   intro ρ' p hp'
   obtain⟨k1,k2,k3⟩:=tC hp'
   exact⟨k3,fun _ _ h=>absurd k1 h⟩
  have hwu:∀ p∈nV B outs (dL B args),∀ q∈nV B outs (dL B args),p.1=q.1->p=q:=by
   intro p hp' q hq' e
   exact Prod.ext e ((tC hp').1.trans (tC hq').1.symm)
  have hfree:=hc.free id (Nat.le_refl _) (by omega)
  -- nothing in a block of its own
  have plain:∀ (new:List (Nat × List Cell)),(∀ p∈new,p.1=id)->dX ρ1 (fI id outs (F xs)) vs->∃ ρ',(p5 (fI id outs (F xs))).rel ρ' (iY vs)/\Eff id B { val:=p5 (fI id outs (F xs)),new:=new,wr:=nV B outs (dL B args),pre:=ps++[pre xs] } ρ ρ' w w':=by
   intro new hnew ht
   have hnone:∀ p∈new,ρ1 p.1=none:=fun p hp'=>by rw[hnew p hp'];exact hfree
   refine⟨ρ1,vG ht,⟨⟨fun _ _ h=>⟨h,rfl⟩,hle1⟩,fun _ _ h=>.inl h,fun i b hi=>Nat.lt_of_lt_of_le (hc.bound i b hi) hbel.size,hbel.os,hbel.tape,hbel.output,hbel.size,fun b hb _=>hbel.block b hb,?_,?_,hwu,hwr ρ1,hmem1 ρ1 new rfl (fun p hp' b hb=>by rw[hnone p hp'] at hb;cases hb)⟩⟩
   ·intro p hp'
    have:=hnew p hp'
    exact⟨by omega,by omega,fun b hb=>by rw[hnone p hp'] at hb;cases hb⟩
   ·intro p hp' q hq' b hb
    rw[hnone p hp'] at hb;cases hb
  rcases wy (ρ':=ρ1) (id:=id) (conv ρ1 rfl) h1 hle2 hout with ⟨k1,k2⟩|⟨cs,k0,k1,k2|⟨b,n,l,k3,k4,k5,k6,k7⟩⟩
  ·rw[k1];exact plain [] (fun _ h=>nomatch h) k2
  ·rw[k1];exact plain [(id,cs)] (fun p hp'=>by simp at hp';rw[hp']) k2
  ·rw[k1]
   let ρ2:aH:=⟨fun i=>if i=id then some b else ρ i,fun i=>if i=id then n else ρ.n i,ρ1.M⟩
   have hle:aH.le ρ ρ2:=by
    refine⟨fun i c hi=>?_,hle1⟩
    by_cases e:i=id
    ·subst e;rw[hfree] at hi;cases hi
    ·simp[ρ2,e,hi]
   have hle12:aH.le ρ1 ρ2:=⟨fun i c hi=>hle.id i c hi,Mem.le_refl _⟩
   have ht:dX ρ2 (fI id outs (F xs)) vs:=by
    rcases wy (ρ':=ρ2) (id:=id) (conv ρ2 rfl) h1 hle2 hout with ⟨_,j2⟩|⟨cs',_,_,j2|⟨b',n',l',j3,j4,j5,j6,j7⟩⟩
    ·exact j2
    ·exact j2
    ·have e:b'=b:=by rw[k3] at j3;simpa using j3.symm
     subst e
     have en:=k5.size_eq j5
     subst en
     exact j7 (by simp[ρ2]) (by simp[ρ2])
   refine⟨ρ2,vG ht,⟨hle,?_,?_,hbel.os,hbel.tape,hbel.output,hbel.size,fun b hb _=>hbel.block b hb,?_,?_,hwu,hwr ρ2,hmem1 ρ2 _ rfl ?_⟩⟩
   ·intro i b' hi
    by_cases e:i=id
    ·simp[ρ2,e] at hi;subst hi
     exact .inr ⟨by omega,by omega,⟨(id,cs),by simp,by simp[e]⟩,.inl k4⟩
    ·simp[ρ2,e] at hi;exact .inl hi
   ·intro i b' hi
    by_cases e:i=id
    ·simp[ρ2,e] at hi;subst hi;exact k5.lt
    ·simp[ρ2,e] at hi;exact Nat.lt_of_lt_of_le (hc.bound i b' hi) hbel.size
   ·intro p hp'
    simp at hp';subst hp'
    refine⟨Nat.le_refl _,by show id<id+8;omega,fun b' hb' _=>?_⟩
    simp[ρ2] at hb';subst hb'
    exact⟨.inl k4,l,by simp[ρ2];exact k5,fP hle12 k6⟩
   ·intro p hp' q hq' _ _ _
    simp at hp' hq';rw[hp',hq']
   ·intro p hp' b' hb'
    simp at hp';subst hp'
    simp[ρ2] at hb';subst hb'
    exact⟨k3,k4⟩
 ·simp at hF
theorem B6 {f:FuncId} {ins:List Kd} {outs:List bH} {G:dH} {pre:HL ins->Prop} {F:HL ins->HO outs} (h:aB P f ins outs G pre F) (h1:cx outs<=1) {w0:bW} {id:Nat} {args:List SV} {B:bm} {out:Out}
  (hF:ar ins outs pre F w0 id args B=some out) (hp:∀ p∈out.pre,p) (hG:∀ g s,G g=some s->w0.gl g=some s) {ρ:aH} {us:List Value} {w:World} (hv:aW ρ args us) (hc:Ctx w0 id ρ B w) :
  iy P f ⟨us⟩ w fun v w'=>∃ ρ',out.val.rel ρ' v/\Eff id B out ρ ρ' w w':=by
 have:=B7 h.toT h1 hF hp hG hv hc
 rwa [List.append_nil] at this
def Ka (g:FuncId):Value:=.func (.func g) #[] #[]
def Gp (g:FuncId):SV:=.is (.one (.v (.func (.func g) ⟨[]⟩ ⟨[]⟩)))
def B8:List FuncId->List SV->Bool
 | [],[]=>true
 | g::gs,.is (.one (.v (.func (.func f) ⟨[]⟩ ⟨[]⟩)))::l=>Nat.beq f g&&B8 gs l
 | _,_=>false
theorem OE {ρ:aH}:∀ {gs:List FuncId} {l:List SV} {us:List Value},B8 gs l=true->aW ρ l us->us=gs.map Ka:=by
 intro gs
 induction gs with
 | nil =>
  intro l us h hv
  cases l with
  | nil=>exact hv
  | cons a l=>simp[B8] at h
 | cons g gs ih =>
  intro l us h hv
  unfold B8 at h
  split at h
  ·rename_i h1;simp at h1
  ·rename_i g' gs' f l' h1
   simp only[List.cons.injEq] at h1
   obtain⟨rfl,rfl⟩:=h1
   rw[Bool.and_eq_true] at h
   obtain⟨y,ys,e,hy,hys⟩:=hv
   have hb:=beq_true h.1
   subst hb
   have hv:=bT hy
   subst hv
   rw[e,ih h.2 hys]
   rfl
  ·simp at h
theorem Nr {ρ:aH}:∀ {l m:List SV} {us:List Value},aW ρ (l++m) us->∃ u1 u2,us=u1++u2/\aW ρ l u1/\aW ρ m u2:=by
 intro l
 induction l with
 | nil=>intro m us h;exact⟨[],us,rfl,rfl,h⟩
 | cons a l ih =>
  intro m us h
  obtain⟨y,ys,e,hy,hys⟩:=h
  obtain⟨u1,u2,e2,h1,h2⟩:=ih hys
  exact⟨y::u1,u2,by rw[e,e2];rfl,⟨y,u1,rfl,hy,h1⟩,h2⟩
def Dx (ins:List Kd) (gs:List FuncId) (outs:List bH) (pre:HL ins->Prop) (F:HL ins->HO outs):Spec:=fun W id args B =>
 match B8 gs (args.drop ins.length) with
 | true=>ar ins outs pre F W id (args.take ins.length) B
 | false=>none
theorem Mc {f:FuncId} {ins:List Kd} {gs:List FuncId} {outs:List bH} {pre:HL ins->Prop} {F:HL ins->HO outs} (h:BH P f ins (gs.map Ka) outs aM pre F) (h1:cx outs<=1:=by decide):nE P f (Dx ins gs outs pre F):=by
 intro w0 id args B out hF hp ρ us w hv hc
 unfold Dx at hF
 split at hF
 ·rename_i hg
  rw[<- List.take_append_drop ins.length args] at hv
  obtain⟨u1,u2,e,k1,k2⟩:=Nr hv
  rw[e,OE hg k2]
  exact B7 h h1 hF hp (fun g s hg=>by simp[aM] at hg) k1 hc
 ·simp at hF
theorem ak {f:FuncId} {ins:List Kd} {outs:List bH} {pre:HL ins->Prop} {F:HL ins->HO outs} (h:aB P f ins outs aM pre F) (h1:cx outs<=1:=by decide):nE P f (ar ins outs pre F):=by
 intro w0 id args B out hF hp ρ us w hv hc
 exact B6 h h1 hF hp (fun g s hg=>by simp[aM] at hg) hv hc
theorem B5 {f:FuncId} {ins:List Kd} {outs:List bH} {G:dH} {pre:HL ins->Prop} {F:HL ins->HO outs} (h:aB P f ins outs G pre F) (h1:cx outs<=1:=by decide):nE P f (mc G ins outs pre F):=by
 intro w0 id args B out hF hp ρ us w hv hc
 unfold mc at hF
 split at hF
 ·rename_i o ho
  simp at hF;subst hF
  have:=B6 h h1 ho (fun p hp'=>hp p (by simp[hp'])) (hp _ (by simp)) hv hc
  refine this.mono fun v w' ⟨ρ',hv',hE⟩=>⟨ρ',hv',?_⟩
  exact⟨hE.le,hE.dom,hE.bound,hE.os,hE.tape,hE.output,hE.size,hE.same,hE.new,hE.newinj,hE.wruniq,hE.wr,hE.mem⟩
 ·simp at hF
def enters (P:Program) (f:FuncId) (fn:Func):Prop:=P.funcs[f]?=some fn/\∀ us w,(callFunc f us).run P w=.ok (.enter f us) w
theorem Og {f : FuncId} {fn : Func} (h : P.funcs[f]? = some fn) (hn : (fn.name == "runtime.NumGoroutine") = false) (hb : fn.body.isNone = false) : enters P f fn := by
 refine⟨h,fun us w=>?_⟩
 unfold callFunc
 simp only[Sem.run_bind,run_program,Result.andThen_ok,h,hn,hb]
 rfl
theorem ek {f : FuncId} {fn : Func} (h : P.funcs[f]? = some fn := by kernel_rfl) (hn : (fn.name == "runtime.NumGoroutine") = false := by kernel_rfl) (hb : fn.body.isNone = false := by kernel_rfl) : enters P f fn := Og h hn hb
def abx:(κ:Kd)->au κ->TV:=fun κ x=>Cu 0 (.val κ) x
def g9:(ks:List Kd)->HL ks->List SV
 | [],_=>[]
 | κ::ks,x=>.is (abx κ x.1)::g9 ks x.2
theorem jo {ρ:aH}:∀ {ks:List Kd} {xs:HL ks} {us:List Value},mF ρ.M ks xs us->aW ρ (g9 ks xs) us:=by
 intro ks
 induction ks with
 | nil=>intro xs us h;exact h
 | cons κ ks ih=>intro xs us ⟨u,us',e,h1,h2⟩;exact⟨u,us',e,y4 h1,ih h2⟩
theorem jm:∀ {ks:List Kd} {xs:HL ks},(g9 ks xs).length=ks.length:=by
 intro ks
 induction ks with
 | nil=>intro xs;rfl
 | cons κ ks ih=>intro xs;simp[g9,ih]
theorem zc {M:Mem}:∀ {e:Kd} {x:au e} {vs:List Value},Rd M e x vs->pb e x:=by
 intro e
 have hl:∀ (e:Kd),(∀ {x:au e} {vs:List Value},Rd M e x vs->pb e x)->∀ (xs:List (au e)) (vs:List Value),dJ (Rd M e) xs vs->∀ x∈xs,pb e x:=by
  intro e ih xs
  induction xs with
  | nil=>intro vs _ x hx;cases hx
  | cons y ys ihy =>
   intro vs ⟨v1,v2,_,h1,h2⟩ x hx
   rcases List.mem_cons.1 hx with rfl|hx
   ·exact ih h1
   ·exact ihy v2 h2 x hx
 induction e with
 | pair a b iha ihb=>intro x vs ⟨v1,v2,e,h1,h2⟩;exact⟨iha h1,ihb h2⟩
 | arr n e ih=>intro x vs ⟨h1,h2⟩;exact⟨h1,hl e ih x vs h2⟩
 | sl e ih =>
  intro x vs h
  rcases h with ⟨h,_⟩|⟨b,o,cap,_,_,l,_,_,h5⟩
  ·intro y hy
   have h:(x:List (au e))=[]:=h
   rw[h] at hy;cases hy
  ·exact hl e ih x _ h5
 | int k=>intro x vs _;trivial
 | bool=>intro x vs _;trivial
 | str=>intro x vs _;trivial
 | fp=>intro x vs _;trivial
 | fr=>intro x vs _;trivial
 | ptr e ih=>intro x vs ⟨b,o,_,l,_,_,h⟩;exact ih (lf (R:=Rd M e) h)
 | fn f=>intro x vs _;trivial
 | cap c e ihc ihe=>intro x vs ⟨g,caps,b,o,_,h2,l,_,_,h⟩;exact⟨ihc h2,ihe (lf (R:=Rd M e) h)⟩
 | pq=>intro x vs _;trivial
theorem kB {M:Mem}:∀ {ks:List Kd} {xs:HL ks} {us:List Value},mF M ks xs us->vI ks xs:=by
 intro ks
 induction ks with
 | nil=>intro xs us _;trivial
 | cons κ ks ih =>
  intro xs us ⟨u,us',e,h1,h2⟩
  refine⟨?_,ih h2⟩
  unfold mu at h1
  split at h1
  ·obtain⟨l,_,hl⟩:=h1;exact zc hl
  ·exact zc h1
def wK (jv:Bool) (B:bm):(o:bH)->TV->Option (au o.kd × List Prop)
 | .val κ,x=>Ek (match jv with|true=>kg|false=>B) κ (.is x)
 | .own e,x=>match x with
  | .one (.sl id 0 0 len c)=>match B id with
   | some (d::ds)=>match re e (d::ds) 0 0 len c with
    | some (xs,p)=>some (xs,p)
    | none=>rb (eK kg e) (width e) (d::ds) 0 0 len c
   | _=>none
  | .one (.v (.slice none 0 0))=>some ([],[])
  | _=>none
 | .box κ,x=>match x with
  | .one (.ptr id 0)=>match B id with
   | some (d::ds)=>match eK kg κ (d::ds) with
    | some (y,p,[])=>some (y,p)
    | _=>none
   | _=>none
  | _=>none
def fu (jv:Bool) (B:bm):(os:List bH)->List TV->Option (HO os × List Prop)
 | [],[]=>some ((),[])
 | o::os,x::xs=>match wK jv B o x with
  | some (y,p)=>match fu jv B os xs with
   | some (ys,ps)=>some ((y,ys),p++ps)
   | none=>none
  | none=>none
 | _,_=>none
def z5:SV->List TV
 | .is x=>[x]
 | .tup l=>l
 | _=>[]
def vD:SV->Bool
 | .is _=>true
 | .tup []=>true
 | .tup (_::_::_)=>true
 | _=>false
def jv (outs:List bH):Bool:=match cx outs with
 | 0=>false
 | _=>true
def post (outs:List bH) (ys:HO outs) (sv:SV) (σ:St):Prop :=
 match vD sv,fu (jv outs) σ.B outs (z5 sv) with
 | true,some (zs,ps)=>uj ps (zs=ys)
 | _,_=>False
theorem Ij {ρ:aH} {sv:SV} {v:Value} (hv:sv.rel ρ v) (hs:vD sv=true):∃ vs,dX ρ (z5 sv) vs/\v=iY vs:=by
 match sv,hs with
 | .is x,_=>exact⟨[v],⟨v,[],rfl,hv,rfl⟩,rfl⟩
 | .tup [],_ =>
  obtain⟨vs,e,h⟩:=hv
  have h':vs=[]:=h
  subst h'
  exact⟨[],rfl,e⟩
 | .tup (x::y::l),_ =>
  obtain⟨vs,e,h⟩:=hv
  refine⟨vs,h,?_⟩
  obtain⟨a,as',rfl,_,b,bs,rfl,_⟩:=h
  exact e
section
variable {w0:bW} {n:Nat} {σ:St} {ρ:aH} {a:Act} {w':World}
theorem wJ {M:Mem} (hr:dI w0 n σ.S σ.B ρ a w') (hi:w0.ids=[]) (hM:w0.M=M) {ob:Option Nat} (hob:∀ b,ob=some b->∀ l,ρ.M b≠some l):Mem.le ρ.M (cV w0.w.heap.size M ob w'):=by
 intro b l hb
 unfold cV
 rw[if_neg (fun h=>hob b h l hb)]
 obtain⟨_,el,fr,hh⟩:=hr.mem b l hb
 split
 ·exact c9 hh
 ·rename_i hlt
  rcases hr.old b l hb (by omega) with h|h
  ·simp[bW.own,hi] at h
  ·rw[<- hM];exact h
theorem Sw {M:Mem} (hr:dI w0 n σ.S σ.B ρ a w') (hi:w0.ids=[]) (hM:w0.M=M):Sees σ.B ρ (cV w0.w.heap.size M none w'):=by
 refine⟨wJ hr hi hM (fun b h=>(nomatch h)),fun i cs b hB hne hb=>?_⟩
 obtain⟨l,⟨rest,el,fr,k1,k2,_⟩,k3⟩:=hr.blks i cs hB hne b hb
 refine⟨l,rest,k3,?_,k2⟩
 unfold cV
 rw[if_neg (fun h=>nomatch h)]
 rcases (hr.bound i b hb).1 with h|h
 ·rw[if_pos h];exact c9 k1
 ·simp[bW.own,hi] at h
theorem yG {M:Mem} {ob:Option Nat} {B:bm} (hS:Sees B ρ (cV w0.w.heap.size M ob w')) {ho:Bool} (hB:(match ho with|true=>kg|false=>σ.B)=B) :
  ∀ {os:List bH} {xs:List TV} {ys:HO os} {ps:List Prop} {vs:List Value},cx os=0->fu ho σ.B os xs=some (ys,ps)->(∀ p∈ps,p)->dX ρ xs vs->dY w0.w.heap.size M ob w' os ys vs:=by
 intro os
 induction os with
 | nil=>intro xs ys ps vs _ h _ ht;cases xs with
  | nil=>exact ht
  | cons _ _=>simp[fu] at h
 | cons o os ih=>intro xs ys ps vs h0 h hp ht;cases xs with
  | nil=>simp[fu] at h
  | cons x xs =>
   cases o with
   | own e=>simp[cx] at h0
   | box e=>simp[cx] at h0
   | val κ =>
    simp only[fu] at h
    split at h
    ·rename_i y p hy
     split at h
     ·rename_i zs qs hz
      simp only[Option.some.injEq,Prod.mk.injEq] at h
      obtain⟨rfl,rfl⟩:=h
      obtain⟨v,vs',e,h1,h2⟩:=ht
      simp only[wK,hB] at hy
      exact⟨v,vs',e,p8 hS hy (fun p hp'=>hp p (List.mem_append_left _ hp')) h1,ih h0 hz (fun p hp'=>hp p (List.mem_append_right _ hp')) h2⟩
     ·simp at h
    ·simp at h
theorem Sy {e:Kd} {ho:Bool} {x:TV} {y:List (au e)} {ps:List Prop} {v:Value} (hr:dI w0 n σ.S σ.B ρ a w') (h:wK ho σ.B (.own e) x=some (y,ps)) (hp:∀ p∈ps,p) (hv:x.rel ρ v) :
  (y=[]/\v=.slice none 0 0)\/∃ b o cap n l,(∀ l,ρ.M b≠some l)/\w0.G4 b/\v=.slice (some ⟨b,o,none⟩) y.length cap/\y.length<=cap/\(o=0\/cap=0)/\o+cap*width e<=n/\bw w' b n l/\dJ (Rd ρ.M e) y l:=by
 simp only[wK] at h
 split at h
 ·rename_i id len c
  split at h
  ·rename_i d ds hB
   have key:∀ {y:List (au e)},(∀ l,aD ρ (d::ds) l->y.length=len/\c=width e/\0+0*c+len*c<=l.length/\dJ (Rd ρ.M e) y ((l.drop (0+0*c)).take (len*c)))->(len=0->y=[]) ->
     (y=[]/\v=.slice none 0 0)\/∃ b o cap n l,(∀ l,ρ.M b≠some l)/\w0.G4 b/\v=.slice (some ⟨b,o,none⟩) y.length cap/\y.length<=cap/\(o=0\/cap=0)/\o+cap*width e<=n/\bw w' b n l/\dJ (Rd ρ.M e) y l:=by
    intro y hx h0
    rcases lY hv with ⟨hl,ev⟩|⟨b,o,cap,hb,hl,ho,hn,ev⟩
    ·exact .inl ⟨h0 hl,ev⟩
    ·obtain⟨l,hblk,hl'⟩:=hr.blks _ _ hB (by simp) b hb
     obtain⟨k1,k2,k3,k4⟩:=hx l hl'
     subst k1 k2
     refine .inr ⟨b,o,cap,_,_,fun l hm=>(hr.mem b l hm).1 _ _ hB (by simp) hb,(hr.bound _ _ hb).1,ev,hl,by simpa using ho,hn,?_,k4⟩
     simp only[Nat.zero_mul,Nat.zero_add,List.drop_zero] at k3 ⊢
     have hbk:=hblk
     rw[<- List.take_append_drop (y.length*width e) l] at hbk
     exact hbk.pre
   split at h
   ·rename_i xs p hq
    simp only[Option.some.injEq,Prod.mk.injEq] at h
    obtain⟨rfl,rfl⟩:=h
    refine key (fun l hl=>tS hq hp hl) (fun hm=>?_)
    subst hm
    unfold re at hq
    split at hq
    ·split at hq
     ·simp only[Option.some.injEq,Prod.mk.injEq] at hq
      rw[<- hq.1];simp
     ·simp at hq
    ·simp at hq
   ·refine key (fun l hl=>tO (R:=Rd ρ.M e) (fun _ _=>bD) (fun cs x ps r l=>gz (iX ρ) e cs x ps r l) h hp hl) (fun hm=>?_)
    subst hm
    unfold rb at h
    split at h
    ·split at h
     ·rename_i hq2
      simp only[pN,Option.some.injEq,Prod.mk.injEq] at h hq2
      rw[<- h.1,<- hq2.1]
     ·simp at h
    ·simp at h
  ·simp at h
 ·simp only[Option.some.injEq,Prod.mk.injEq] at h
  obtain⟨rfl,rfl⟩:=h
  exact .inl ⟨rfl,bT (ρ:=ρ) hv⟩
 ·simp at h
theorem HN {S:dC} {B:bm} {κ:Kd} {ho:Bool} {x:TV} {y:au κ} {ps:List Prop} {v:Value} (hr:dI w0 n S B ρ a w') (h:wK ho B (.box κ) x=some (y,ps)) (hp:∀ p∈ps,p) (hv:x.rel ρ v) :
  ∃ i cs b m l,B i=some cs/\cs≠[]/\ρ i=some b/\(∀ l,ρ.M b≠some l)/\v=.pointer (some ⟨b,0,none⟩)/\bw w' b m l/\Rd ρ.M κ y l:=by
 simp only[wK] at h
 split at h
 ·rename_i id
  split at h
  ·rename_i d ds hB
   split at h
   ·rename_i z q hq
    simp only[Option.some.injEq,Prod.mk.injEq] at h
    obtain⟨rfl,rfl⟩:=h
    obtain⟨b,hb,ev⟩:=hv
    obtain⟨l,hblk,hl⟩:=hr.blks _ _ hB (by simp) b hb
    obtain⟨l1,l2,e1,k1,k2⟩:=gz (iX ρ) _ _ _ _ _ _ hq hp hl
    have k2:l2=[]:=k2
    subst k2
    rw[List.append_nil] at e1
    subst e1
    exact⟨id,_,b,_,l,hB,by simp,hb,fun l hm=>(hr.mem b l hm).1 _ _ hB (by simp) hb,by simpa using ev,hblk,k1⟩
   ·simp at h
  ·simp at h
 ·simp at h
theorem PS {M:Mem} (hr:dI w0 n σ.S σ.B ρ a w') (hi:w0.ids=[]) (hM:w0.M=M) {ho:Bool} :
  ∀ {os:List bH} {xs:List TV} {ys:HO os} {ps:List Prop} {vs:List Value},cx os<=1->(ho=false->cx os=0)->fu ho σ.B os xs=some (ys,ps)->(∀ p∈ps,p)->dX ρ xs vs->∃ ob,(∀ b,ob=some b->∀ l,ρ.M b≠some l)/\dY w0.w.heap.size M ob w' os ys vs:=by
 intro os xs ys ps vs h1 hho h hp ht
 cases ho with
 | false=>exact⟨none,(fun b h=>(nomatch h)),yG (Sw hr hi hM) rfl (hho rfl) h hp ht⟩
 | true =>
  -- find the block
  have main:∀ {os:List bH} {xs:List TV} {ys:HO os} {ps:List Prop} {vs:List Value},cx os<=1->fu true σ.B os xs=some (ys,ps)->(∀ p∈ps,p)->dX ρ xs vs ->
    ∃ ob,(∀ b,ob=some b->∀ l,ρ.M b≠some l)/\(∀ ob',(∀ b,ob'=some b->∀ l,ρ.M b≠some l)->(ob=none\/ob'=ob)->dY w0.w.heap.size M ob' w' os ys vs):=by
   intro os
   induction os with
   | nil=>intro xs ys ps vs _ h _ ht;cases xs with
    | nil=>exact⟨none,(fun b h=>(nomatch h)),fun _ _ _=>ht⟩
    | cons _ _=>simp[fu] at h
   | cons o os ih=>intro xs ys ps vs h1 h hp ht;cases xs with
    | nil=>simp[fu] at h
    | cons x xs =>
     simp only[fu] at h
     split at h
     ·rename_i y p hy
      split at h
      ·rename_i zs qs hz
       simp only[Option.some.injEq,Prod.mk.injEq] at h
       obtain⟨rfl,rfl⟩:=h
       obtain⟨v,vs',e,k1,k2⟩:=ht
       have hp1:∀ q∈p,q:=fun q hq=>hp q (List.mem_append_left _ hq)
       have hp2:∀ q∈qs,q:=fun q hq=>hp q (List.mem_append_right _ hq)
       have hsn:∀ ob',(∀ b,ob'=some b->∀ l,ρ.M b≠some l)->Sees kg ρ (cV w0.w.heap.size M ob' w'):=fun ob' hob'=>⟨wJ hr hi hM hob',fun _ _ _ h=>by simp[kg] at h⟩
       cases o with
       | val κ =>
        obtain⟨ob,g1,g2⟩:=ih (ys:=zs) h1 hz hp2 k2
        refine⟨ob,g1,fun ob' hob' hor=>⟨v,vs',e,?_,g2 ob' hob' hor⟩⟩
        exact p8 (hsn ob' hob') hy hp1 k1
       | own e0 =>
        have hz0:cx os=0:=by simp[cx] at h1;omega
        have tail:∀ ob',(∀ b,ob'=some b->∀ l,ρ.M b≠some l)->dY w0.w.heap.size M ob' w' os zs vs':=fun ob' hob'=>yG (hsn ob' hob') rfl hz0 hz hp2 k2
        rcases Sy hr hy hp1 k1 with ⟨g1,g2⟩|⟨b,o,cap,nn,l,g1,g2,g3,g4,g5,g6,g7,g8⟩
        ·exact⟨none,(fun b h=>(nomatch h)),fun ob' hob' _=>⟨v,vs',e,.inl ⟨g1,g2⟩,tail ob' hob'⟩⟩
        ·have hN:w0.w.heap.size<=b:=by
          rcases g2 with h|h
          ·exact h
          ·simp[bW.own,hi] at h
         refine⟨some b,fun b' hb'=>by simp at hb';subst hb';exact g1,fun ob' hob' hor=>⟨v,vs',e,?_,tail ob' hob'⟩⟩
         rcases hor with hor|hor
         ·cases hor
         ·refine .inr ⟨b,o,cap,nn,l,hor,hN,g3,g4,g5,g6,g7,dz (fun _ _=>cy (wJ hr hi hM hob')) g8⟩
       | box κ =>
        have hz0:cx os=0:=by simp[cx] at h1;omega
        have tail:∀ ob',(∀ b,ob'=some b->∀ l,ρ.M b≠some l)->dY w0.w.heap.size M ob' w' os zs vs':=fun ob' hob'=>yG (hsn ob' hob') rfl hz0 hz hp2 k2
        obtain⟨i,cs,b,m,l,hB,hne,hb,g1,g3,g7,g8⟩:=HN hr hy hp1 k1
        have hN:w0.w.heap.size<=b:=by
         rcases (hr.bound _ _ hb).1 with h|h
         ·exact h
         ·simp[bW.own,hi] at h
        refine⟨some b,fun b' hb'=>by simp at hb';subst hb';exact g1,fun ob' hob' hor=>⟨v,vs',e,?_,tail ob' hob'⟩⟩
        rcases hor with hor|hor
        ·cases hor
        ·exact⟨b,m,l,hor,hN,g3,g7,cy (wJ hr hi hM hob') g8⟩
      ·simp at h
     ·simp at h
  obtain⟨ob,g1,g2⟩:=main h1 h hp ht
  exact⟨ob,g1,g2 ob g1 (.inr rfl)⟩
theorem wA {M:Mem} {outs:List bH} {ys:HO outs} {sv:SV} {v:Value} (hr:dI w0 n σ.S σ.B ρ a w') (hi:w0.ids=[]) (hM:w0.M=M) (h1:cx outs<=1) (h:post outs ys sv σ) (hv:sv.rel ρ v) :
  ∃ vs ob,v=iY vs/\dY w0.w.heap.size M ob w' outs ys vs:=by
 unfold post at h
 split at h
 ·rename_i zs ps hf hz
  obtain⟨hps,rfl⟩:=lH h
  obtain⟨vs,ht,e⟩:=Ij hv hf
  obtain⟨ob,_,ho⟩:=PS hr hi hM h1 (fun h=>by unfold jv at h;split at h<;>simp_all) hz hps ht
  exact⟨vs,ob,e,ho⟩
 ·exact h.elim
end
theorem wV {G:dH} {w:World} {M:Mem} (hM:Mem.le M (cu w)) (hG:pd G M):Start ⟨w,[],G,M⟩ [] 0 (aH.start M) :=
 ⟨fun id cs h=>by simp[dE] at h,fun id id' cs cs' b h=>by simp[dE] at h,fun _ _ h=>by simp[aH.start] at h,fun _ h=>by simp at h,fun _ _ h=>by simp[aH.start] at h,
  fun b l hb=>⟨fun i cs h=>by simp[dE] at h,fU (hM b l hb)⟩,fun b l hb _=>.inr hb,hG⟩
theorem ax {sp:FuncId->Option Spec} (hsp:aN P sp) (hm:P.follows .mixedOrders=true) {f:FuncId} {fn:Func} (hf:enters P f fn) {ins:List Kd} {outs:List bH} {G:dH} {pre:HL ins->Prop} {F:HL ins->HO outs}
  (hn:ins.length<=fn.ntmps) (h1:cx outs<=1)
  (h:∀ (w:World) (M:Mem) (xs:HL ins),vI ins xs->pre xs->Ns ⟨P,sp,⟨w,[],G,M⟩⟩ fn (g9 ins xs) [] 0 (post outs (F xs))):aB P f ins outs G pre F:=by
 intro w M us xs hM hG hin hp
 refine .inl ⟨hf.2 _ _,?_⟩
 refine (RK (E:=⟨P,sp,⟨w,[],G,M⟩⟩) hsp hm hf.1 (wV hM hG) (jo (ρ:=aH.start M) hin) (by rw[jm];exact hn) (h w M xs (kB hin) hp)).mono ?_
 rintro e w' ⟨v,sv,σ,ρ,n,a,rfl,hv,hq,hr⟩
 obtain⟨vs,ob,e,ho⟩:=wA hr rfl rfl h1 hq hv
 exact⟨v,rfl,vs,ob,e,ho,hr.below.below rfl⟩
theorem bh {sp:FuncId->Option Spec} {f:FuncId} {fn:Func} (hf:enters P f fn) {ins:List Kd} {outs:List bH} {G:dH} {pre:HL ins->Prop} {F:HL ins->HO outs}
  (hn:ins.length<=fn.ntmps) (h1:cx outs<=1) (hbody:fn.body.isSome=true)
  (h:∀ (w:World) (M:Mem) (xs:HL ins),vI ins xs->pre xs->qQ ⟨P,sp,⟨w,[],G,M⟩⟩ fn (g9 ins xs) [] 0 (post outs (F xs))):aB P f ins outs G pre F:=by
 intro w M us xs hM hG hin hp
 refine .inl ⟨hf.2 _ _,?_⟩
 refine (lL (E:=⟨P,sp,⟨w,[],G,M⟩⟩) hf.1 hbody (wV hM hG) (jo (ρ:=aH.start M) hin) (by rw[jm];exact hn) (h w M xs (kB hin) hp)).mono ?_
 rintro e w' ⟨v,sv,σ,ρ,n,a,rfl,hv,hq,hr⟩
 obtain⟨vs,ob,e,ho⟩:=wA hr rfl rfl h1 hq hv
 exact⟨v,rfl,vs,ob,e,ho,hr.below.below rfl⟩
theorem S1 {ρ:aH} {gs:List FuncId}:∀ {l:List SV} {us:List Value},aW ρ l us->aW ρ (l++gs.map Gp) (us++gs.map Ka):=by
 intro l
 induction l with
 | nil =>
  intro us h
  have h:us=[]:=h
  subst h
  induction gs with
  | nil=>rfl
  | cons g gs ih=>exact⟨_,_,rfl,⟨rfl,rfl⟩,ih⟩
 | cons a l ih =>
  intro us h
  obtain⟨y,ys,e,hy,hys⟩:=h
  subst e
  exact⟨y,_,rfl,hy,ih hys⟩
theorem IJ {ρ:aH} {ks:List Kd} {xs:HL ks} {us:List Value} {gs:List FuncId} (h:mF ρ.M ks xs us):aW ρ (g9 ks xs++gs.map Gp) (us++gs.map Ka):=S1 (jo h)
theorem OB {sp:FuncId->Option Spec} {f:FuncId} {fn:Func} (hf:enters P f fn) {ins:List Kd} {gs:List FuncId} {outs:List bH} {G:dH} {pre:HL ins->Prop} {F:HL ins->HO outs}
  (hn:ins.length+gs.length<=fn.ntmps) (h1:cx outs<=1) (hbody:fn.body.isSome=true)
  (h:∀ (w:World) (M:Mem) (xs:HL ins),vI ins xs->pre xs->qQ ⟨P,sp,⟨w,[],G,M⟩⟩ fn (g9 ins xs++gs.map Gp) [] 0 (post outs (F xs))):BH P f ins (gs.map Ka) outs G pre F:=by
 intro w M us xs hM hG hin hp
 refine .inl ⟨hf.2 _ _,?_⟩
 refine (lL (E:=⟨P,sp,⟨w,[],G,M⟩⟩) hf.1 hbody (wV hM hG) (IJ (ρ:=aH.start M) hin) (by rw[List.length_append,jm,List.length_map];exact hn) (h w M xs (kB hin) hp)).mono ?_
 rintro e w' ⟨v,sv,σ,ρ,n,a,rfl,hv,hq,hr⟩
 obtain⟨vs,ob,e,ho⟩:=wA hr rfl rfl h1 hq hv
 exact⟨v,rfl,vs,ob,e,ho,hr.below.below rfl⟩
end
def aF:List (Nat × Spec)->FuncId->Option Spec
 | [],_=>none
 | (g,F)::l,f=>match Nat.beq g f with
  | true=>some F
  | false=>aF l f
theorem aR {P:Program}:aN P (aF []):=by intro f F h;simp[aF] at h
theorem ai {P:Program} {g:Nat} {F:Spec} {l:List (Nat × Spec)} (h:nE P g F) (hl:aN P (aF l)):aN P (aF ((g,F)::l)):=by
 intro f G hG
 simp only[aF] at hG
 split at hG
 ·rename_i hb
  have:=beq_true hb
  subst this
  simp at hG;subst hG;exact h
 ·exact hl f G hG
end Go.Eng
