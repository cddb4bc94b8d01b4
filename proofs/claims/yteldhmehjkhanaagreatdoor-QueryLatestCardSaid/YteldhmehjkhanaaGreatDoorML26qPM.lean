import Derived.Test.YteldhmehjkhanaaGreatDoorML26qPL
set_option maxRecDepth 100000
namespace Go.Eng
open Go Go.RowKit Cr
abbrev HL:List Kd->Type
 | []=>Unit
 | κ::ks=>Car κ × HL ks
def aggK:Kd->Bool
 | .fp | .fr | .pair _ _ | .arr _ _=>true
 | _=>false
def plainK:Kd->Bool
 | .pair a b=>plainK a&&plainK b
 | .arr _ e=>plainK e
 | .sl _ | .ptr _ | .cap _ _ | .mp=>false
 | _=>true
def memOf (w:World):Mem:=fun b=>match w.heap[b]? with
 | some (.cells c _ _)=>match c.toList with
  | []=>none
  | v::l=>some (v::l)
 | some (.map es _)=>match es.toList with
  | []=>some []
  | _=>none
 | _=>none
def valRd (M:Mem) (κ:Kd) (x:Car κ) (v:Value):Prop :=
 match aggK κ with
 | true=>∃ l,v=.agg ⟨l⟩/\Rd M κ x l
 | false=>Rd M κ x [v]
def insRel (M:Mem):(ks:List Kd)->HL ks->List Value->Prop
 | [],_,us=>us=[]
 | κ::ks,x,us=>∃ u us',us=u::us'/\valRd M κ x.1 u/\insRel M ks x.2 us'
def wfK:(κ:Kd)->Car κ->Prop
 | .pair a b,x=>wfK a x.1/\wfK b x.2
 | .arr n e,xs=>xs.length=n/\∀ x∈xs,wfK e x
 | .sl e,xs=>∀ x∈xs,wfK e x
 | .ptr e,x=>wfK e x
 | .cap c e,x=>wfK c x.1/\wfK e x.2
 | _,_=>True
def wfL:(ks:List Kd)->HL ks->Prop
 | [],_=>True
 | κ::ks,x=>wfK κ x.1/\wfL ks x.2
inductive OutK where
 | own (e:Kd)
 | val (κ:Kd)
 | box (κ:Kd)
abbrev OutK.kd:OutK->Kd
 | .own e=>.sl e
 | .val κ=>κ
 | .box κ=>κ
abbrev HO:List OutK->Type
 | []=>Unit
 | o::os=>Car o.kd × HO os
def outM (N:Nat) (M:Mem) (ob:Option Nat) (w':World):Mem:=fun b =>
 if ob=some b then none else if N<=b then memOf w' b else M b
def outRel (N:Nat) (M:Mem) (ob:Option Nat) (w':World):(o:OutK)->Car o.kd->Value->Prop
 | .val κ,x,v=>valRd (outM N M ob w') κ x v
 | .own e,xs,v=>(xs=[]/\v=.slice none 0 0)\/∃ b o cap n l,ob=some b/\N<=b/\v=.slice (some ⟨b,o,none⟩) xs.length cap/\xs.length<=cap/\(o=0\/cap=0)/\o+cap*width e<=n/\BlkAt w' b n l/\RdL (Rd (outM N M ob w') e) xs l
 | .box κ,x,v=>∃ b n l,ob=some b/\N<=b/\v=.pointer (some ⟨b,0,none⟩)/\BlkAt w' b n l/\Rd (outM N M ob w') κ x l
def outsRel (N:Nat) (M:Mem) (ob:Option Nat) (w':World):(os:List OutK)->HO os->List Value->Prop
 | [],_,vs=>vs=[]
 | o::os,x,vs=>∃ v vs',vs=v::vs'/\outRel N M ob w' o x.1 v/\outsRel N M ob w' os x.2 vs'
def tupled:List Value->Value
 | [v]=>v
 | vs=>.tuple ⟨vs⟩
abbrev Glob:=Nat->Option (Sigma Car)
def noG:Glob:=fun _=>none
def GlOk (G:Glob) (M:Mem):Prop:=∀ g e x,G g=some ⟨e,x⟩->RowAt (Rd M e) (width e) M g 0 [x]
def FnOk (P:Program) (f:FuncId) (ins:List Kd) (outs:List OutK) (G:Glob) (pre:HL ins->Prop) (F:HL ins->HO outs):Prop :=
 ∀ (w:World) (M:Mem) (us:List Value) (xs:HL ins),Mem.le M (memOf w)->GlOk G M->insRel M ins xs us->pre xs ->
  CallOk P f ⟨us⟩ w fun v w'=>∃ vs ob,v=tupled vs/\outsRel w.heap.size M ob w' outs (F xs) vs/\Below w.heap.size w w'
def FnOkT (P:Program) (f:FuncId) (ins:List Kd) (tl:List Value) (outs:List OutK) (G:Glob) (pre:HL ins->Prop) (F:HL ins->HO outs):Prop :=
 ∀ (w:World) (M:Mem) (us:List Value) (xs:HL ins),Mem.le M (memOf w)->GlOk G M->insRel M ins xs us->pre xs ->
  CallOk P f ⟨us++tl⟩ w fun v w'=>∃ vs ob,v=tupled vs/\outsRel w.heap.size M ob w' outs (F xs) vs/\Below w.heap.size w w'
theorem FnOk.toT {P:Program} {f:FuncId} {ins:List Kd} {outs:List OutK} {G:Glob} {pre:HL ins->Prop} {F:HL ins->HO outs} (h:FnOk P f ins outs G pre F):FnOkT P f ins [] outs G pre F:=by
 intro w M us xs
 rw[List.append_nil]
 exact h w M us xs
def valP (B:Blks) (κ:Kd):SV->Option (Car κ × List Prop)
 | .is (.agg cs)=>match aggK κ,pOne B κ cs with
  | true,some (x,ps,[])=>some (x,ps)
  | _,_=>none
 | .is (.one c)=>match aggK κ,pOne B κ [c] with
  | false,some (x,ps,[])=>some (x,ps)
  | _,_=>none
 | _=>none
def argsP (B:Blks):(ks:List Kd)->List SV->Option (HL ks × List Prop)
 | [],[]=>some ((),[])
 | κ::ks,v::vs=>match valP B κ v with
  | some (x,ps)=>match argsP B ks vs with
   | some (xs,qs)=>some ((x,xs),ps++qs)
   | none=>none
  | none=>none
 | _,_=>none
def outTV (id:Nat):(o:OutK)->Car o.kd->TV
 | .val κ,x=>match aggK κ with
  | true=>.agg (cellsOf κ x)
  | false=>match cellsOf κ x with
   | c::_=>.one c
   | []=>.agg []
 | .own e,xs=>.one (.sl id 0 0 xs.length (width e))
 | .box _,_=>.one (.ptr id 0)
def outTVs (id:Nat):(os:List OutK)->HO os->List TV
 | [],_=>[]
 | o::os,x=>outTV id o x.1::outTVs id os x.2
def outNew (id:Nat):(os:List OutK)->HO os->List (Nat × List Cell)
 | [],_=>[]
 | .own e::_,x=>[(id,[mkRow e (x.1:List (Car e)).length x.1])]
 | .val _::os,x=>outNew id os x.2
 | .box κ::_,x=>[(id,cellsOf κ x.1)]
def svOf:List TV->SV
 | [x]=>.is x
 | l=>.tup l
def ownN:List OutK->Nat
 | []=>0
 | .own _::os=>ownN os+1
 | .val _::os=>ownN os
 | .box _::os=>ownN os+1
def plainO:List OutK->Bool
 | []=>true
 | .own e::os=>plainK e&&plainO os
 | .val κ::os=>plainK κ&&plainO os
 | .box κ::os=>plainK κ&&plainO os
def isLive (B:Blks) (i:Nat):Bool:=match B i with
 | some (_::_)=>true
 | _=>false
def kills (B:Blks) (outs:List OutK) (ids:List Nat):List (Nat × List Cell) :=
 match plainO outs with
 | true=>[]
 | false=>(ids.filter (isLive B)).map fun i=>(i,[])
def fnSpec (ins:List Kd) (outs:List OutK) (pre:HL ins->Prop) (F:HL ins->HO outs):Spec:=fun _ id args B =>
 match argsP (restr (idsOf B args) B) ins args with
 | some (xs,ps)=>some { val:=svOf (outTVs id outs (F xs)),new:=outNew id outs (F xs),wr:=kills B outs (idsOf B args),pre:=ps++[pre xs] }
 | none=>none
def fnSpecG (G:Glob) (ins:List Kd) (outs:List OutK) (pre:HL ins->Prop) (F:HL ins->HO outs):Spec:=fun W id args B =>
 match fnSpec ins outs pre F W id args B with
 | some o=>some { o with pre:=(∀ g s,G g=some s->W.gl g=some s)::o.pre }
 | none=>none
section
variable {P:Program}
theorem CallOk.mono {f:FuncId} {us:Array Value} {w:World} {R R':Value->World->Prop} (h:CallOk P f us w R) (hr:∀ v w',R v w'->R' v w'):CallOk P f us w R':=by
 rcases h with ⟨h1,h2⟩|⟨v,w',h1,h2⟩
 ·exact .inl ⟨h1,h2.mono fun e w' ⟨v,he,hv⟩=>⟨v,he,hr v w' hv⟩⟩
 ·exact .inr ⟨v,w',h1,hr v w' h2⟩
theorem Rd_plain {M M':Mem}:∀ {e:Kd} {x:Car e} {vs:List Value},plainK e=true->Rd M e x vs->Rd M' e x vs:=by
 intro e
 induction e with
 | int k=>intro x vs _ h;exact h
 | bool=>intro x vs _ h;exact h
 | str=>intro x vs _ h;exact h
 | fp=>intro x vs _ h;exact h
 | fr=>intro x vs _ h;exact h
 | pair a b iha ihb=>intro x vs hp ⟨v1,v2,e,h1,h2⟩;simp[plainK] at hp;exact⟨v1,v2,e,iha hp.1 h1,ihb hp.2 h2⟩
 | arr n e ih=>intro x vs hp ⟨h1,h2⟩;exact⟨h1,RdL_mono (fun _ _=>ih hp) h2⟩
 | sl e ih=>intro x vs hp;simp[plainK] at hp
 | ptr e ih=>intro x vs hp;simp[plainK] at hp
 | fn f=>intro x vs _ h;exact h
 | cap c e ihc ihe=>intro x vs hp;simp[plainK] at hp
 | pq=>intro x vs _ h;exact h
 | mp=>intro x vs hp;simp[plainK] at hp
theorem valRd_mono {M M':Mem} {κ:Kd} {x:Car κ} {v:Value} (h:∀ l,Rd M κ x l->Rd M' κ x l) (hr:valRd M κ x v):valRd M' κ x v:=by
 unfold valRd at hr ⊢
 cases hk:aggK κ with
 | true=>rw[hk] at hr;obtain⟨l,e,hl⟩:=hr;exact⟨l,e,h l hl⟩
 | false=>rw[hk] at hr;exact h _ hr
theorem valP_rel {B:Blks} {ρ:Rho} {M:Mem} (hS:Sees B ρ M) {κ:Kd} {s:SV} {x:Car κ} {ps:List Prop} {v:Value} (h:valP B κ s=some (x,ps)) (hp:∀ p∈ps,p) (hr:s.rel ρ v):valRd M κ x v:=by
 unfold valP at h
 split at h
 ·rename_i cs
  split at h
  ·rename_i y qs hk hq
   simp only[Option.some.injEq,Prod.mk.injEq] at h
   obtain⟨rfl,rfl⟩:=h
   obtain⟨l,e,hl⟩:=hr
   obtain⟨l1,l2,e1,h1,h2⟩:=pOne_rel hS _ _ _ _ _ _ hq hp hl
   have h2:l2=[]:=h2
   subst h2
   rw[List.append_nil] at e1
   subst e1
   unfold valRd
   rw[hk]
   exact⟨_,e,h1⟩
  ·simp at h
 ·rename_i c
  split at h
  ·rename_i y qs hk hq
   simp only[Option.some.injEq,Prod.mk.injEq] at h
   obtain⟨rfl,rfl⟩:=h
   obtain⟨l1,l2,e1,h1,h2⟩:=pOne_rel hS _ _ _ _ _ _ hq hp (cellsRel_one1 hr)
   have h2:l2=[]:=h2
   subst h2
   rw[List.append_nil] at e1
   unfold valRd
   rw[hk,e1]
   exact h1
  ·simp at h
 ·simp at h
theorem argsP_rel {B:Blks} {ρ:Rho} {M:Mem} (hS:Sees B ρ M):∀ {ks:List Kd} {ss:List SV} {xs:HL ks} {ps:List Prop} {us:List Value},argsP B ks ss=some (xs,ps)->(∀ p∈ps,p)->valsRel ρ ss us->insRel M ks xs us:=by
 intro ks
 induction ks with
 | nil=>intro ss xs ps us h hp hr;cases ss with
  | nil=>exact hr
  | cons _ _=>simp[argsP] at h
 | cons κ ks ih=>intro ss xs ps us h hp hr;cases ss with
  | nil=>simp[argsP] at h
  | cons s ss =>
   simp only[argsP] at h
   split at h
   ·rename_i x p1 h1
    split at h
    ·rename_i ys p2 h2
     simp only[Option.some.injEq,Prod.mk.injEq] at h
     obtain⟨rfl,rfl⟩:=h
     obtain⟨u,us',e,k1,k2⟩:=hr
     exact⟨u,us',e,valP_rel hS h1 (fun p hp'=>hp p (List.mem_append_left _ hp')) k1,ih h2 (fun p hp'=>hp p (List.mem_append_right _ hp')) k2⟩
    ·simp at h
   ·simp at h
theorem memOf_blk {w:World} {b:Nat} {l:List Value} {el:TypeId} {fr:Nat × Nat} (h:w.heap[b]?=some (.cells ⟨l⟩ el fr)) (hn:l≠[]):memOf w b=some l:=by
 cases l with
 | nil=>exact absurd rfl hn
 | cons v l=>simp only[memOf,h]
theorem memOf_at {w:World} {b:Nat} {l:List Value} {el:TypeId} {fr:Nat × Nat} (h:w.heap[b]?=some (objOf l el fr)):memOf w b=some l:=by
 cases l with
 | nil=>simp only[memOf,h,objOf]
 | cons v l=>simp only[memOf,h,objOf]
theorem memOf_inv {w:World} {b:Nat} {l:List Value} (h:memOf w b=some l):∃ el fr,w.heap[b]?=some (objOf l el fr):=by
 unfold memOf at h
 split at h
 ·rename_i c el fr hh
  split at h
  ·cases h
  ·rename_i v l' hc
   simp only[Option.some.injEq] at h
   subst h
   exact⟨el,fr,by rw[hh,objOf,<- hc]⟩
 ·rename_i es ck hh
  split at h
  ·rename_i hc
   simp only[Option.some.injEq] at h
   subst h
   exact⟨ck,(0,0),by rw[hh,objOf,<- Array.toList_inj.1 (show es.toList=(#[]:Array MapEntry).toList from hc)]⟩
  ·cases h
 ·cases h
theorem memOf_lt {w:World} {b:Nat} {l:List Value} (h:memOf w b=some l):b<w.heap.size:=by
 obtain⟨el,fr,h⟩:=memOf_inv h
 rcases Nat.lt_or_ge b w.heap.size with h'|h'
 ·exact h'
 ·rw[Array.getElem?_eq_none h'] at h;cases h
theorem val_cells {κ:Kd} {ρ:Rho} {id:Nat} {x:Car κ} {v:Value} (h:valRd ρ.M κ x v):(outTV id (.val κ) x).rel ρ v:=by
 unfold valRd at h
 cases hk:aggK κ with
 | true =>
  rw[hk] at h
  obtain⟨l,e,hl⟩:=h
  have:outTV id (.val κ) x=.agg (cellsOf κ x):=by simp only[outTV,hk]
  rw[this]
  exact⟨l,e,cellsOf_rel hl⟩
 | false =>
  rw[hk] at h
  have:=cellsOf_rel h
  cases κ with
  | int k=>exact cellsRel_one1_inv this
  | bool=>exact cellsRel_one1_inv this
  | str=>exact cellsRel_one1_inv this
  | sl e=>exact cellsRel_one1_inv this
  | ptr e=>exact cellsRel_one1_inv this
  | fn f=>exact cellsRel_one1_inv this
  | cap c e=>exact cellsRel_one1_inv this
  | pq=>exact cellsRel_one1_inv this
  | mp=>exact cellsRel_one1_inv this
  | _=>simp[aggK] at hk
theorem tup_one {ρ:Rho} {l:List TV} {vs:List Value} (h:tupRel ρ l vs):(svOf l).rel ρ (tupled vs):=by
 match l,vs,h with
 | [],_,h=>have e:_=[]:=h;subst e;exact⟨[],rfl,rfl⟩
 | [x],_,⟨y,ys,e,h1,h2⟩=>have e2:ys=[]:=h2;subst e2;subst e;exact h1
 | x::x'::l,_,⟨y,ys,e,h1,y',ys',e',h2⟩=>subst e' e;exact⟨_,rfl,y,_,rfl,h1,y',ys',rfl,h2⟩
theorem cellsOf_ne:∀ (κ:Kd) (x:Car κ),cellsOf κ x≠[]:=by
 intro κ
 induction κ with
 | pair a b iha ihb =>
  intro x h
  have h:cellsOf a x.1++cellsOf b x.2=[]:=h
  exact iha x.1 (List.append_eq_nil_iff.1 h).1
 | _=>intro x h;simp[cellsOf] at h
theorem outs_val {ρ':Rho} {N:Nat} {M:Mem} {ob:Option Nat} {w':World} {id:Nat} (hM:∀ (e:Kd) (x:Car e) l,Rd (outM N M ob w') e x l->(plainK e=true\/Mem.le (outM N M ob w') ρ'.M)->Rd ρ'.M e x l)
  : ∀ {os:List OutK} {ys:HO os} {vs:List Value},ownN os=0->(plainO os=true\/Mem.le (outM N M ob w') ρ'.M)->outsRel N M ob w' os ys vs->outNew id os ys=[]/\tupRel ρ' (outTVs id os ys) vs:=by
 intro os
 induction os with
 | nil=>intro ys vs _ _ h;exact⟨rfl,h⟩
 | cons o os ih =>
  intro ys vs h0 hp h
  cases o with
  | own e=>simp[ownN] at h0
  | box e=>simp[ownN] at h0
  | val κ =>
   obtain⟨v,vs',e,h1,h2⟩:=h
   have hp2:plainO os=true\/Mem.le (outM N M ob w') ρ'.M:=by
    rcases hp with hp|hp
    ·simp[plainO] at hp;exact .inl hp.2
    ·exact .inr hp
   have hp1:plainK κ=true\/Mem.le (outM N M ob w') ρ'.M:=by
    rcases hp with hp|hp
    ·simp[plainO] at hp;exact .inl hp.1
    ·exact .inr hp
   obtain⟨k1,k2⟩:=ih (ys:=ys.2) h0 hp2 h2
   exact⟨k1,v,vs',e,val_cells (valRd_mono (fun l hl=>hM κ _ l hl hp1) h1),k2⟩
theorem outs_any {ρ':Rho} {N:Nat} {M:Mem} {ob:Option Nat} {w':World} {id:Nat} (hM:∀ (e:Kd) (x:Car e) l,Rd (outM N M ob w') e x l->(plainK e=true\/Mem.le (outM N M ob w') ρ'.M)->Rd ρ'.M e x l)
  : ∀ {os:List OutK} {ys:HO os} {vs:List Value},ownN os<=1->(plainO os=true\/Mem.le (outM N M ob w') ρ'.M)->outsRel N M ob w' os ys vs ->
   (outNew id os ys=[]/\tupRel ρ' (outTVs id os ys) vs) \/
   (∃ cs,cs≠[]/\outNew id os ys=[(id,cs)]/\(tupRel ρ' (outTVs id os ys) vs\/∃ b n l,ob=some b/\N<=b/\BlkAt w' b n l/\cellsRel ρ' cs l/\(ρ' id=some b->ρ'.n id=n->tupRel ρ' (outTVs id os ys) vs))):=by
 intro os
 induction os with
 | nil=>intro ys vs _ _ h;exact .inl ⟨rfl,h⟩
 | cons o os ih =>
  intro ys vs h0 hp h
  obtain⟨v,vs',e,h1,h2⟩:=h
  cases o with
  | val κ =>
   have hp2:plainO os=true\/Mem.le (outM N M ob w') ρ'.M:=by
    rcases hp with hp|hp
    ·simp[plainO] at hp;exact .inl hp.2
    ·exact .inr hp
   have hp1:plainK κ=true\/Mem.le (outM N M ob w') ρ'.M:=by
    rcases hp with hp|hp
    ·simp[plainO] at hp;exact .inl hp.1
    ·exact .inr hp
   have hv:=val_cells (id:=id) (valRd_mono (fun l hl=>hM κ _ l hl hp1) h1)
   rcases ih (ys:=ys.2) h0 hp2 h2 with ⟨k1,k2⟩|⟨cs,k0,k1,k2|⟨b,n,l,k3,k4,k5,k6,k7⟩⟩
   ·exact .inl ⟨k1,v,vs',e,hv,k2⟩
   ·exact .inr ⟨cs,k0,k1,.inl ⟨v,vs',e,hv,k2⟩⟩
   ·exact .inr ⟨cs,k0,k1,.inr ⟨b,n,l,k3,k4,k5,k6,fun hb hn=>⟨v,vs',e,hv,k7 hb hn⟩⟩⟩
  | own e0 =>
   have hp2:plainO os=true\/Mem.le (outM N M ob w') ρ'.M:=by
    rcases hp with hp|hp
    ·simp[plainO] at hp;exact .inl hp.2
    ·exact .inr hp
   have hp1:plainK e0=true\/Mem.le (outM N M ob w') ρ'.M:=by
    rcases hp with hp|hp
    ·simp[plainO] at hp;exact .inl hp.1
    ·exact .inr hp
   have hz:ownN os=0:=by simp[ownN] at h0;omega
   obtain⟨_,k2⟩:=outs_val (id:=id) hM (ys:=ys.2) hz hp2 h2
   refine .inr ⟨_,by simp,rfl,?_⟩
   rcases h1 with ⟨hx,hv⟩|⟨b,o,cap,n,l,hob,hN,hv,hc,ho,hn,hblk,hr⟩
   ·refine .inl ⟨v,vs',e,.inl ⟨?_,by rw[hv]⟩,k2⟩
    have hx:(ys.1:List (Car e0))=[]:=hx
    rw[hx];rfl
   ·refine .inr ⟨b,n,l,hob,hN,hblk,cellsRel_one1 (mkRow_rel rfl (RdL_mono (fun x l hl=>hM e0 x l hl hp1) hr)),fun hb hn'=>⟨v,vs',e,.inr ⟨b,o,cap,hb,hc,by simpa using ho,by rw[hn'];exact hn,by rw[hv]⟩,k2⟩⟩
  | box κ =>
   have hp2:plainO os=true\/Mem.le (outM N M ob w') ρ'.M:=by
    rcases hp with hp|hp
    ·simp[plainO] at hp;exact .inl hp.2
    ·exact .inr hp
   have hp1:plainK κ=true\/Mem.le (outM N M ob w') ρ'.M:=by
    rcases hp with hp|hp
    ·simp[plainO] at hp;exact .inl hp.1
    ·exact .inr hp
   have hz:ownN os=0:=by simp[ownN] at h0;omega
   obtain⟨_,k2⟩:=outs_val (id:=id) hM (ys:=ys.2) hz hp2 h2
   obtain⟨b,n,l,hob,hN,hv,hblk,hr⟩:=h1
   exact .inr ⟨_,cellsOf_ne κ ys.1,rfl,.inr ⟨b,n,l,hob,hN,hblk,cellsOf_rel (hM κ ys.1 l hr hp1),fun hb _=>⟨v,vs',e,⟨b,hb,by rw[hv]⟩,k2⟩⟩⟩
theorem kills_mem {B:Blks} {outs:List OutK} {ids:List Nat} {p:Nat × List Cell} (h:p∈kills B outs ids):p.2=[]/\p.1∈ids/\∃ cs,B p.1=some cs/\cs≠[]:=by
 unfold kills at h
 split at h
 ·cases h
 ·obtain⟨i,hi,rfl⟩:=List.mem_map.1 h
  obtain⟨h1,h2⟩:=List.mem_filter.1 hi
  refine⟨rfl,h1,?_⟩
  unfold isLive at h2
  split at h2
  ·rename_i c cs hq
   exact⟨_,hq,by simp⟩
  ·cases h2
theorem fnSpec_okT {f:FuncId} {ins:List Kd} {tl:List Value} {outs:List OutK} {G:Glob} {pre:HL ins->Prop} {F:HL ins->HO outs} (h:FnOkT P f ins tl outs G pre F) (h1:ownN outs<=1) {w0:Base} {id:Nat} {args:List SV} {B:Blks} {out:Out}
  (hF:fnSpec ins outs pre F w0 id args B=some out) (hp:∀ p∈out.pre,p) (hG:∀ g s,G g=some s->w0.gl g=some s) {ρ:Rho} {us:List Value} {w:World} (hv:valsRel ρ args us) (hc:Ctx w0 id ρ B w) :
  CallOk P f ⟨us++tl⟩ w fun v w'=>∃ ρ',out.val.rel ρ' v/\Eff id B out ρ ρ' w w':=by
 classical
 unfold fnSpec at hF
 split at hF
 ·rename_i xs ps hxs
  simp only[Option.some.injEq] at hF;subst hF
  -- what the callee may see
  let own:Nat->Prop:=fun b=>∃ i cs,i∈idsOf B args/\B i=some cs/\cs≠[]/\ρ i=some b
  let M0:Mem:=fun b=>if own b then memOf w b else ρ.M b
  have hM0:∀ b l,M0 b=some l->memOf w b=some l:=by
   intro b l hb
   simp only[M0] at hb
   split at hb
   ·exact hb
   ·obtain⟨el,fr,hh⟩:=hc.mem b l hb;exact memOf_at hh
  have hρM:Mem.le ρ.M M0:=by
   intro b l hb
   simp only[M0]
   split
   ·obtain⟨el,fr,hh⟩:=hc.mem b l hb;exact memOf_at hh
   ·exact hb
  have hsees:Sees (restr (idsOf B args) B) ρ M0:=by
   refine⟨hρM,fun i cs b hi hne hb=>?_⟩
   have hmem:i∈idsOf B args:=by
    unfold restr at hi
    split at hi
    ·rename_i hm;exact memN_mem hm
    ·cases hi
   have hBi:=restr_some hi
   obtain⟨l,⟨rest,el,fr,k1,k2,_⟩,k3⟩:=hc.blks i cs hBi hne b hb
   refine⟨l,rest,k3,fun hn=>?_,k2⟩
   simp only[M0]
   rw[if_pos ⟨i,cs,hmem,hBi,hne,hb⟩]
   exact memOf_blk k1 hn
  have hins:=argsP_rel hsees hxs (fun p hp'=>hp p (by simp[hp'])) hv
  have hgl:GlOk G M0:=fun g e x hg=>RowAt_mono hρM (hc.glob g e x (hG g _ hg))
  refine (h w M0 us xs hM0 hgl hins (hp _ (by simp))).mono ?_
  rintro v w' ⟨vs,ob,rfl,hout,hbel⟩
  -- what is known behind the call
  let Mx:Mem:=if plainO outs=true then ρ.M else M0
  let ρ1:Rho:=⟨ρ.m,ρ.n,fun b=>if ob=some b/\w.heap.size<=b then none else if w.heap.size<=b then memOf w' b else Mx b⟩
  have hlt:∀ b l,ρ.M b=some l->b<w.heap.size:=by
   intro b l hb
   obtain⟨el,fr,hh⟩:=hc.mem b l hb
   exact memOf_lt (memOf_at hh)
  have hxM:Mem.le ρ.M Mx:=by
   intro b l hb
   simp only[Mx]
   split
   ·exact hb
   ·exact hρM b l hb
  have hle1:Mem.le ρ.M ρ1.M:=by
   intro b l hb
   have:=hlt b l hb
   simp only[ρ1]
   rw[if_neg (fun h=>by omega),if_neg (by omega)]
   exact hxM b l hb
  have hle2:plainO outs=true\/Mem.le (outM w.heap.size M0 ob w') ρ1.M:=by
   by_cases hpl:plainO outs=true
   ·exact .inl hpl
   ·refine .inr fun b l hb=>?_
    simp only[outM] at hb
    simp only[ρ1]
    split at hb
    ·cases hb
    ·rename_i hob
     rw[if_neg (fun h=>hob h.1)]
     split at hb
     ·rename_i hN;rw[if_pos hN];exact hb
     ·rename_i hN;rw[if_neg hN];simp only[Mx,hpl];exact hb
  have conv:∀ (ρ':Rho),ρ'.M=ρ1.M->∀ (e:Kd) (x:Car e) l,Rd (outM w.heap.size M0 ob w') e x l->(plainK e=true\/Mem.le (outM w.heap.size M0 ob w') ρ'.M)->Rd ρ'.M e x l:=by
   intro ρ' _ e x l hr hor
   rcases hor with hor|hor
   ·exact Rd_plain hor hr
   ·exact Rd_mono hor hr
  have hmem1:∀ (ρ':Rho) (new:List (Nat × List Cell)),ρ'.M=ρ1.M->(∀ p∈new,∀ b,ρ' p.1=some b->ob=some b/\w.heap.size<=b)->∀ b l,ρ'.M b=some l->ρ.M b=some l\/((∀ p∈new,ρ' p.1≠some b)/\(w.heap.size<=b\/∃ q∈kills B outs (idsOf B args),ρ q.1=some b/\q.2=[])/\∃ el fr,w'.heap[b]?=some (objOf l el fr)):=by
   intro ρ' new hρ' hnew b l hb
   rw[hρ'] at hb
   simp only[ρ1] at hb
   split at hb
   ·cases hb
   ·rename_i hob
    split at hb
    ·rename_i hN
     exact .inr ⟨fun p hp' e=>hob (hnew p hp' b e),.inl hN,memOf_inv hb⟩
    ·rename_i hN
     simp only[Mx] at hb
     split at hb
     ·exact .inl hb
     ·rename_i hpl
      have hm:=hM0 b l hb
      obtain⟨el,fr,hh⟩:=memOf_inv hm
      simp only[M0] at hb
      split at hb
      ·rename_i hown
       obtain⟨i,cs,hi1,hi2,hi3,hi4⟩:=hown
       refine .inr ⟨fun p hp' e=>hN (hnew p hp' b e).2,.inr ⟨(i,[]),?_,hi4,rfl⟩,el,fr,by rw[hbel.block b (by omega)];exact hh⟩
       unfold kills
       have:plainO outs=false:=by simpa using hpl
       rw[this]
       refine List.mem_map.2 ⟨i,List.mem_filter.2 ⟨hi1,?_⟩,rfl⟩
       unfold isLive
       rw[hi2]
       cases cs with
       | nil=>exact absurd rfl hi3
       | cons c cs=>rfl
      ·exact .inl hb
  have hwr:∀ (ρ':Rho) (p:Nat × List Cell),p∈kills B outs (idsOf B args)->(∃ cs,B p.1=some cs/\cs≠[])/\∀ b,ρ p.1=some b->p.2≠[]->∃ l,BlkAt w' b (ρ.n p.1) l/\cellsRel ρ' p.2 l:=by
   intro ρ' p hp'
   obtain⟨k1,k2,k3⟩:=kills_mem hp'
   exact⟨k3,fun _ _ h=>absurd k1 h⟩
  have hwu:∀ p∈kills B outs (idsOf B args),∀ q∈kills B outs (idsOf B args),p.1=q.1->p=q:=by
   intro p hp' q hq' e
   exact Prod.ext e ((kills_mem hp').1.trans (kills_mem hq').1.symm)
  have hfree:=hc.free id (Nat.le_refl _) (by omega)
  -- nothing in a block of its own
  have plain:∀ (new:List (Nat × List Cell)),(∀ p∈new,p.1=id)->tupRel ρ1 (outTVs id outs (F xs)) vs->∃ ρ',(svOf (outTVs id outs (F xs))).rel ρ' (tupled vs)/\Eff id B { val:=svOf (outTVs id outs (F xs)),new:=new,wr:=kills B outs (idsOf B args),pre:=ps++[pre xs] } ρ ρ' w w':=by
   intro new hnew ht
   have hnone:∀ p∈new,ρ1 p.1=none:=fun p hp'=>by rw[hnew p hp'];exact hfree
   refine⟨ρ1,tup_one ht,⟨⟨fun _ _ h=>⟨h,rfl⟩,hle1⟩,fun _ _ h=>.inl h,fun i b hi=>Nat.lt_of_lt_of_le (hc.bound i b hi) hbel.size,hbel.os,hbel.tape,hbel.output,hbel.size,fun b hb _=>hbel.block b hb,?_,?_,hwu,hwr ρ1,hmem1 ρ1 new rfl (fun p hp' b hb=>by rw[hnone p hp'] at hb;cases hb)⟩⟩
   ·intro p hp'
    have:=hnew p hp'
    exact⟨by omega,by omega,fun b hb=>by rw[hnone p hp'] at hb;cases hb⟩
   ·intro p hp' q hq' b hb
    rw[hnone p hp'] at hb;cases hb
  rcases outs_any (ρ':=ρ1) (id:=id) (conv ρ1 rfl) h1 hle2 hout with ⟨k1,k2⟩|⟨cs,k0,k1,k2|⟨b,n,l,k3,k4,k5,k6,k7⟩⟩
  ·rw[k1];exact plain [] (fun _ h=>nomatch h) k2
  ·rw[k1];exact plain [(id,cs)] (fun p hp'=>by simp at hp';rw[hp']) k2
  ·rw[k1]
   let ρ2:Rho:=⟨fun i=>if i=id then some b else ρ i,fun i=>if i=id then n else ρ.n i,ρ1.M⟩
   have hle:Rho.le ρ ρ2:=by
    refine⟨fun i c hi=>?_,hle1⟩
    by_cases e:i=id
    ·subst e;rw[hfree] at hi;cases hi
    ·simp[ρ2,e,hi]
   have hle12:Rho.le ρ1 ρ2:=⟨fun i c hi=>hle.id i c hi,Mem.le_refl _⟩
   have ht:tupRel ρ2 (outTVs id outs (F xs)) vs:=by
    rcases outs_any (ρ':=ρ2) (id:=id) (conv ρ2 rfl) h1 hle2 hout with ⟨_,j2⟩|⟨cs',_,_,j2|⟨b',n',l',j3,j4,j5,j6,j7⟩⟩
    ·exact j2
    ·exact j2
    ·have e:b'=b:=by rw[k3] at j3;simpa using j3.symm
     subst e
     have en:=k5.size_eq j5
     subst en
     exact j7 (by simp[ρ2]) (by simp[ρ2])
   refine⟨ρ2,tup_one ht,⟨hle,?_,?_,hbel.os,hbel.tape,hbel.output,hbel.size,fun b hb _=>hbel.block b hb,?_,?_,hwu,hwr ρ2,hmem1 ρ2 _ rfl ?_⟩⟩
   ·intro i b' hi
    by_cases e:i=id
    ·simp[ρ2,e] at hi;subst hi
     exact .inr ⟨by omega,by omega,⟨(id,cs),by simp,by simp[e]⟩,.inl k4⟩
    ·simp[ρ2,e] at hi;exact .inl hi
   ·intro i b' hi
    by_cases e:i=id
    ·simp[ρ2,e] at hi;subst hi;exact k5.lt
    ·simp[ρ2,e] at hi;exact Nat.lt_of_lt_of_le (hc.bound i b' hi) hbel.size
   ·intro p hp'
    simp at hp';subst hp'
    refine⟨Nat.le_refl _,by show id<id+8;omega,fun b' hb' _=>?_⟩
    simp[ρ2] at hb';subst hb'
    exact⟨.inl k4,l,by simp[ρ2];exact k5,cellsRel_mono hle12 k6⟩
   ·intro p hp' q hq' _ _ _
    simp at hp' hq';rw[hp',hq']
   ·intro p hp' b' hb'
    simp at hp';subst hp'
    simp[ρ2] at hb';subst hb'
    exact⟨k3,k4⟩
 ·simp at hF
theorem fnSpec_ok' {f:FuncId} {ins:List Kd} {outs:List OutK} {G:Glob} {pre:HL ins->Prop} {F:HL ins->HO outs} (h:FnOk P f ins outs G pre F) (h1:ownN outs<=1) {w0:Base} {id:Nat} {args:List SV} {B:Blks} {out:Out}
  (hF:fnSpec ins outs pre F w0 id args B=some out) (hp:∀ p∈out.pre,p) (hG:∀ g s,G g=some s->w0.gl g=some s) {ρ:Rho} {us:List Value} {w:World} (hv:valsRel ρ args us) (hc:Ctx w0 id ρ B w) :
  CallOk P f ⟨us⟩ w fun v w'=>∃ ρ',out.val.rel ρ' v/\Eff id B out ρ ρ' w w':=by
 have:=fnSpec_okT h.toT h1 hF hp hG hv hc
 rwa [List.append_nil] at this
theorem fok {f:FuncId} {ins:List Kd} {outs:List OutK} {pre:HL ins->Prop} {F:HL ins->HO outs} (h:FnOk P f ins outs noG pre F) (h1:ownN outs<=1:=by decide):SpecOk P f (fnSpec ins outs pre F):=by
 intro w0 id args B out hF hp ρ us w hv hc
 exact fnSpec_ok' h h1 hF hp (fun g s hg=>by simp[noG] at hg) hv hc
theorem fgk {f:FuncId} {ins:List Kd} {outs:List OutK} {G:Glob} {pre:HL ins->Prop} {F:HL ins->HO outs} (h:FnOk P f ins outs G pre F) (h1:ownN outs<=1:=by decide):SpecOk P f (fnSpecG G ins outs pre F):=by
 intro w0 id args B out hF hp ρ us w hv hc
 unfold fnSpecG at hF
 split at hF
 ·rename_i o ho
  simp at hF;subst hF
  have:=fnSpec_ok' h h1 ho (fun p hp'=>hp p (by simp[hp'])) (hp _ (by simp)) hv hc
  refine this.mono fun v w' ⟨ρ',hv',hE⟩=>⟨ρ',hv',?_⟩
  exact⟨hE.le,hE.dom,hE.bound,hE.os,hE.tape,hE.output,hE.size,hE.same,hE.new,hE.newinj,hE.wruniq,hE.wr,hE.mem⟩
 ·simp at hF
def enters (P:Program) (f:FuncId) (fn:Func):Prop:=P.funcs[f]?=some fn/\∀ us w,(callFunc f us).run P w=.ok (.enter f us) w
theorem enters_mk {f : FuncId} {fn : Func} (h : P.funcs[f]? = some fn) (hn : (fn.name == "runtime.NumGoroutine") = false) (hb : fn.body.isNone = false) : enters P f fn := by
 refine⟨h,fun us w=>?_⟩
 unfold callFunc
 simp only[Sem.run_bind,run_program,Result.andThen_ok,h,hn,hb]
 rfl
theorem ek {f : FuncId} {fn : Func} (h : P.funcs[f]? = some fn := by kernel_rfl) (hn : (fn.name == "runtime.NumGoroutine") = false := by kernel_rfl) (hb : fn.body.isNone = false := by kernel_rfl) : enters P f fn := enters_mk h hn hb
def argTV:(κ:Kd)->Car κ->TV:=fun κ x=>outTV 0 (.val κ) x
def argSVs:(ks:List Kd)->HL ks->List SV
 | [],_=>[]
 | κ::ks,x=>.is (argTV κ x.1)::argSVs ks x.2
theorem argSVs_rel {ρ:Rho}:∀ {ks:List Kd} {xs:HL ks} {us:List Value},insRel ρ.M ks xs us->valsRel ρ (argSVs ks xs) us:=by
 intro ks
 induction ks with
 | nil=>intro xs us h;exact h
 | cons κ ks ih=>intro xs us ⟨u,us',e,h1,h2⟩;exact⟨u,us',e,val_cells h1,ih h2⟩
theorem argSVs_len:∀ {ks:List Kd} {xs:HL ks},(argSVs ks xs).length=ks.length:=by
 intro ks
 induction ks with
 | nil=>intro xs;rfl
 | cons κ ks ih=>intro xs;simp[argSVs,ih]
theorem Rd_wf {M:Mem}:∀ {e:Kd} {x:Car e} {vs:List Value},Rd M e x vs->wfK e x:=by
 intro e
 have hl:∀ (e:Kd),(∀ {x:Car e} {vs:List Value},Rd M e x vs->wfK e x)->∀ (xs:List (Car e)) (vs:List Value),RdL (Rd M e) xs vs->∀ x∈xs,wfK e x:=by
  intro e ih xs
  induction xs with
  | nil=>intro vs _ x hx;cases hx
  | cons y ys ihy =>
   intro vs ⟨v1,v2,_,h1,h2⟩ x hx
   rcases List.mem_cons.1 hx with rfl|hx
   ·exact ih h1
   ·exact ihy v2 h2 x hx
 induction e with
 | pair a b iha ihb=>intro x vs ⟨v1,v2,e,h1,h2⟩;exact⟨iha h1,ihb h2⟩
 | arr n e ih=>intro x vs ⟨h1,h2⟩;exact⟨h1,hl e ih x vs h2⟩
 | sl e ih =>
  intro x vs h
  rcases h with ⟨h,_⟩|⟨b,o,cap,_,_,l,_,_,h5⟩
  ·intro y hy
   have h:(x:List (Car e))=[]:=h
   rw[h] at hy;cases hy
  ·exact hl e ih x _ h5
 | int k=>intro x vs _;trivial
 | bool=>intro x vs _;trivial
 | str=>intro x vs _;trivial
 | fp=>intro x vs _;trivial
 | fr=>intro x vs _;trivial
 | ptr e ih=>intro x vs ⟨b,o,_,l,_,_,h⟩;exact ih (RdL_one_inv (R:=Rd M e) h)
 | fn f=>intro x vs _;trivial
 | cap c e ihc ihe=>intro x vs ⟨g,caps,b,o,_,h2,l,_,_,h⟩;exact⟨ihc h2,ihe (RdL_one_inv (R:=Rd M e) h)⟩
 | pq=>intro x vs _;trivial
 | mp=>intro x vs _;trivial
theorem insRel_wf {M:Mem}:∀ {ks:List Kd} {xs:HL ks} {us:List Value},insRel M ks xs us->wfL ks xs:=by
 intro ks
 induction ks with
 | nil=>intro xs us _;trivial
 | cons κ ks ih =>
  intro xs us ⟨u,us',e,h1,h2⟩
  refine⟨?_,ih h2⟩
  unfold valRd at h1
  split at h1
  ·obtain⟨l,_,hl⟩:=h1;exact Rd_wf hl
  ·exact Rd_wf h1
def resP (hasOwn:Bool) (B:Blks):(o:OutK)->TV->Option (Car o.kd × List Prop)
 | .val κ,x=>valP (match hasOwn with|true=>noB|false=>B) κ (.is x)
 | .own e,x=>match x with
  | .one (.sl id 0 0 len c)=>match B id with
   | some (d::ds)=>match slRow e (d::ds) 0 0 len c with
    | some (xs,p)=>some (xs,p)
    | none=>slRaw (pOne noB e) (width e) (d::ds) 0 0 len c
   | _=>none
  | .one (.v (.slice none 0 0))=>some ([],[])
  | _=>none
 | .box κ,x=>match x with
  | .one (.ptr id 0)=>match B id with
   | some (d::ds)=>match pOne noB κ (d::ds) with
    | some (y,p,[])=>some (y,p)
    | _=>none
   | _=>none
  | _=>none
def resPs (hasOwn:Bool) (B:Blks):(os:List OutK)->List TV->Option (HO os × List Prop)
 | [],[]=>some ((),[])
 | o::os,x::xs=>match resP hasOwn B o x with
  | some (y,p)=>match resPs hasOwn B os xs with
   | some (ys,ps)=>some ((y,ys),p++ps)
   | none=>none
  | none=>none
 | _,_=>none
def svTVs:SV->List TV
 | .is x=>[x]
 | .tup l=>l
 | _=>[]
def svForm:SV->Bool
 | .is _=>true
 | .tup []=>true
 | .tup (_::_::_)=>true
 | _=>false
def hasOwn (outs:List OutK):Bool:=match ownN outs with
 | 0=>false
 | _=>true
def post (outs:List OutK) (ys:HO outs) (sv:SV) (σ:St):Prop :=
 match svForm sv,resPs (hasOwn outs) σ.B outs (svTVs sv) with
 | true,some (zs,ps)=>conj ps (zs=ys)
 | _,_=>False
theorem sv_tvs {ρ:Rho} {sv:SV} {v:Value} (hv:sv.rel ρ v) (hs:svForm sv=true):∃ vs,tupRel ρ (svTVs sv) vs/\v=tupled vs:=by
 match sv,hs with
 | .is x,_=>exact⟨[v],⟨v,[],rfl,hv,rfl⟩,rfl⟩
 | .tup [],_ =>
  obtain⟨vs,e,h⟩:=hv
  have h':vs=[]:=h
  subst h'
  exact⟨[],rfl,e⟩
 | .tup (x::y::l),_ =>
  obtain⟨vs,e,h⟩:=hv
  refine⟨vs,h,?_⟩
  obtain⟨a,as',rfl,_,b,bs,rfl,_⟩:=h
  exact e
section
variable {w0:Base} {n:Nat} {σ:St} {ρ:Rho} {a:Act} {w':World}
theorem rep_outM {M:Mem} (hr:RepL w0 n σ.S σ.B ρ a w') (hi:w0.ids=[]) (hM:w0.M=M) {ob:Option Nat} (hob:∀ b,ob=some b->∀ l,ρ.M b≠some l):Mem.le ρ.M (outM w0.w.heap.size M ob w'):=by
 intro b l hb
 unfold outM
 rw[if_neg (fun h=>hob b h l hb)]
 obtain⟨_,el,fr,hh⟩:=hr.mem b l hb
 split
 ·exact memOf_at hh
 ·rename_i hlt
  rcases hr.old b l hb (by omega) with h|h
  ·simp[Base.own,hi] at h
  ·rw[<- hM];exact h
theorem rep_sees {M:Mem} (hr:RepL w0 n σ.S σ.B ρ a w') (hi:w0.ids=[]) (hM:w0.M=M):Sees σ.B ρ (outM w0.w.heap.size M none w'):=by
 refine⟨rep_outM hr hi hM (fun b h=>(nomatch h)),fun i cs b hB hne hb=>?_⟩
 obtain⟨l,⟨rest,el,fr,k1,k2,_⟩,k3⟩:=hr.blks i cs hB hne b hb
 refine⟨l,rest,k3,fun hn=>?_,k2⟩
 unfold outM
 rw[if_neg (fun h=>nomatch h)]
 rcases (hr.bound i b hb).1 with h|h
 ·rw[if_pos h];exact memOf_blk k1 hn
 ·simp[Base.own,hi] at h
theorem resPs_val {M:Mem} {ob:Option Nat} {B:Blks} (hS:Sees B ρ (outM w0.w.heap.size M ob w')) {ho:Bool} (hB:(match ho with|true=>noB|false=>σ.B)=B) :
  ∀ {os:List OutK} {xs:List TV} {ys:HO os} {ps:List Prop} {vs:List Value},ownN os=0->resPs ho σ.B os xs=some (ys,ps)->(∀ p∈ps,p)->tupRel ρ xs vs->outsRel w0.w.heap.size M ob w' os ys vs:=by
 intro os
 induction os with
 | nil=>intro xs ys ps vs _ h _ ht;cases xs with
  | nil=>exact ht
  | cons _ _=>simp[resPs] at h
 | cons o os ih=>intro xs ys ps vs h0 h hp ht;cases xs with
  | nil=>simp[resPs] at h
  | cons x xs =>
   cases o with
   | own e=>simp[ownN] at h0
   | box e=>simp[ownN] at h0
   | val κ =>
    simp only[resPs] at h
    split at h
    ·rename_i y p hy
     split at h
     ·rename_i zs qs hz
      simp only[Option.some.injEq,Prod.mk.injEq] at h
      obtain⟨rfl,rfl⟩:=h
      obtain⟨v,vs',e,h1,h2⟩:=ht
      simp only[resP,hB] at hy
      exact⟨v,vs',e,valP_rel hS hy (fun p hp'=>hp p (List.mem_append_left _ hp')) h1,ih h0 hz (fun p hp'=>hp p (List.mem_append_right _ hp')) h2⟩
     ·simp at h
    ·simp at h
theorem resP_own {e:Kd} {ho:Bool} {x:TV} {y:List (Car e)} {ps:List Prop} {v:Value} (hr:RepL w0 n σ.S σ.B ρ a w') (h:resP ho σ.B (.own e) x=some (y,ps)) (hp:∀ p∈ps,p) (hv:x.rel ρ v) :
  (y=[]/\v=.slice none 0 0)\/∃ b o cap n l,(∀ l,ρ.M b≠some l)/\w0.mine b/\v=.slice (some ⟨b,o,none⟩) y.length cap/\y.length<=cap/\(o=0\/cap=0)/\o+cap*width e<=n/\BlkAt w' b n l/\RdL (Rd ρ.M e) y l:=by
 simp only[resP] at h
 split at h
 ·rename_i id len c
  split at h
  ·rename_i d ds hB
   have key:∀ {y:List (Car e)},(∀ l,cellsRel ρ (d::ds) l->y.length=len/\c=width e/\0+0*c+len*c<=l.length/\RdL (Rd ρ.M e) y ((l.drop (0+0*c)).take (len*c)))->(len=0->y=[]) ->
     (y=[]/\v=.slice none 0 0)\/∃ b o cap n l,(∀ l,ρ.M b≠some l)/\w0.mine b/\v=.slice (some ⟨b,o,none⟩) y.length cap/\y.length<=cap/\(o=0\/cap=0)/\o+cap*width e<=n/\BlkAt w' b n l/\RdL (Rd ρ.M e) y l:=by
    intro y hx h0
    rcases rel_sl hv with ⟨hl,ev⟩|⟨b,o,cap,hb,hl,ho,hn,ev⟩
    ·exact .inl ⟨h0 hl,ev⟩
    ·obtain⟨l,hblk,hl'⟩:=hr.blks _ _ hB (by simp) b hb
     obtain⟨k1,k2,k3,k4⟩:=hx l hl'
     subst k1 k2
     refine .inr ⟨b,o,cap,_,_,fun l hm=>(hr.mem b l hm).1 _ _ hB (by simp) hb,(hr.bound _ _ hb).1,ev,hl,by simpa using ho,hn,?_,k4⟩
     simp only[Nat.zero_mul,Nat.zero_add,List.drop_zero] at k3 ⊢
     have hbk:=hblk
     rw[<- List.take_append_drop (y.length*width e) l] at hbk
     exact hbk.pre
   split at h
   ·rename_i xs p hq
    simp only[Option.some.injEq,Prod.mk.injEq] at h
    obtain⟨rfl,rfl⟩:=h
    refine key (fun l hl=>slRow_rel hq hp hl) (fun hm=>?_)
    subst hm
    unfold slRow at hq
    split at hq
    ·split at hq
     ·simp only[Option.some.injEq,Prod.mk.injEq] at hq
      rw[<- hq.1];simp
     ·simp at hq
    ·simp at hq
   ·refine key (fun l hl=>slRaw_rel (R:=Rd ρ.M e) (fun _ _=>Rd_len) (fun cs x ps r l=>pOne_rel (sees_noB ρ) e cs x ps r l) h hp hl) (fun hm=>?_)
    subst hm
    unfold slRaw at h
    split at h
    ·split at h
     ·rename_i hq2
      simp only[pN,Option.some.injEq,Prod.mk.injEq] at h hq2
      rw[<- h.1,<- hq2.1]
     ·simp at h
    ·simp at h
  ·simp at h
 ·simp only[Option.some.injEq,Prod.mk.injEq] at h
  obtain⟨rfl,rfl⟩:=h
  exact .inl ⟨rfl,rel_v (ρ:=ρ) hv⟩
 ·simp at h
theorem resP_box {S:Slots} {B:Blks} {κ:Kd} {ho:Bool} {x:TV} {y:Car κ} {ps:List Prop} {v:Value} (hr:RepL w0 n S B ρ a w') (h:resP ho B (.box κ) x=some (y,ps)) (hp:∀ p∈ps,p) (hv:x.rel ρ v) :
  ∃ i cs b m l,B i=some cs/\cs≠[]/\ρ i=some b/\(∀ l,ρ.M b≠some l)/\v=.pointer (some ⟨b,0,none⟩)/\BlkAt w' b m l/\Rd ρ.M κ y l:=by
 simp only[resP] at h
 split at h
 ·rename_i id
  split at h
  ·rename_i d ds hB
   split at h
   ·rename_i z q hq
    simp only[Option.some.injEq,Prod.mk.injEq] at h
    obtain⟨rfl,rfl⟩:=h
    obtain⟨b,hb,ev⟩:=hv
    obtain⟨l,hblk,hl⟩:=hr.blks _ _ hB (by simp) b hb
    obtain⟨l1,l2,e1,k1,k2⟩:=pOne_rel (sees_noB ρ) _ _ _ _ _ _ hq hp hl
    have k2:l2=[]:=k2
    subst k2
    rw[List.append_nil] at e1
    subst e1
    exact⟨id,_,b,_,l,hB,by simp,hb,fun l hm=>(hr.mem b l hm).1 _ _ hB (by simp) hb,by simpa using ev,hblk,k1⟩
   ·simp at h
  ·simp at h
 ·simp at h
theorem resPs_any {M:Mem} (hr:RepL w0 n σ.S σ.B ρ a w') (hi:w0.ids=[]) (hM:w0.M=M) {ho:Bool} :
  ∀ {os:List OutK} {xs:List TV} {ys:HO os} {ps:List Prop} {vs:List Value},ownN os<=1->(ho=false->ownN os=0)->resPs ho σ.B os xs=some (ys,ps)->(∀ p∈ps,p)->tupRel ρ xs vs->∃ ob,(∀ b,ob=some b->∀ l,ρ.M b≠some l)/\outsRel w0.w.heap.size M ob w' os ys vs:=by
 intro os xs ys ps vs h1 hho h hp ht
 cases ho with
 | false=>exact⟨none,(fun b h=>(nomatch h)),resPs_val (rep_sees hr hi hM) rfl (hho rfl) h hp ht⟩
 | true =>
  -- find the block
  have main:∀ {os:List OutK} {xs:List TV} {ys:HO os} {ps:List Prop} {vs:List Value},ownN os<=1->resPs true σ.B os xs=some (ys,ps)->(∀ p∈ps,p)->tupRel ρ xs vs ->
    ∃ ob,(∀ b,ob=some b->∀ l,ρ.M b≠some l)/\(∀ ob',(∀ b,ob'=some b->∀ l,ρ.M b≠some l)->(ob=none\/ob'=ob)->outsRel w0.w.heap.size M ob' w' os ys vs):=by
   intro os
   induction os with
   | nil=>intro xs ys ps vs _ h _ ht;cases xs with
    | nil=>exact⟨none,(fun b h=>(nomatch h)),fun _ _ _=>ht⟩
    | cons _ _=>simp[resPs] at h
   | cons o os ih=>intro xs ys ps vs h1 h hp ht;cases xs with
    | nil=>simp[resPs] at h
    | cons x xs =>
     simp only[resPs] at h
     split at h
     ·rename_i y p hy
      split at h
      ·rename_i zs qs hz
       simp only[Option.some.injEq,Prod.mk.injEq] at h
       obtain⟨rfl,rfl⟩:=h
       obtain⟨v,vs',e,k1,k2⟩:=ht
       have hp1:∀ q∈p,q:=fun q hq=>hp q (List.mem_append_left _ hq)
       have hp2:∀ q∈qs,q:=fun q hq=>hp q (List.mem_append_right _ hq)
       have hsn:∀ ob',(∀ b,ob'=some b->∀ l,ρ.M b≠some l)->Sees noB ρ (outM w0.w.heap.size M ob' w'):=fun ob' hob'=>⟨rep_outM hr hi hM hob',fun _ _ _ h=>by simp[noB] at h⟩
       cases o with
       | val κ =>
        obtain⟨ob,g1,g2⟩:=ih (ys:=zs) h1 hz hp2 k2
        refine⟨ob,g1,fun ob' hob' hor=>⟨v,vs',e,?_,g2 ob' hob' hor⟩⟩
        exact valP_rel (hsn ob' hob') hy hp1 k1
       | own e0 =>
        have hz0:ownN os=0:=by simp[ownN] at h1;omega
        have tail:∀ ob',(∀ b,ob'=some b->∀ l,ρ.M b≠some l)->outsRel w0.w.heap.size M ob' w' os zs vs':=fun ob' hob'=>resPs_val (hsn ob' hob') rfl hz0 hz hp2 k2
        rcases resP_own hr hy hp1 k1 with ⟨g1,g2⟩|⟨b,o,cap,nn,l,g1,g2,g3,g4,g5,g6,g7,g8⟩
        ·exact⟨none,(fun b h=>(nomatch h)),fun ob' hob' _=>⟨v,vs',e,.inl ⟨g1,g2⟩,tail ob' hob'⟩⟩
        ·have hN:w0.w.heap.size<=b:=by
          rcases g2 with h|h
          ·exact h
          ·simp[Base.own,hi] at h
         refine⟨some b,fun b' hb'=>by simp at hb';subst hb';exact g1,fun ob' hob' hor=>⟨v,vs',e,?_,tail ob' hob'⟩⟩
         rcases hor with hor|hor
         ·cases hor
         ·refine .inr ⟨b,o,cap,nn,l,hor,hN,g3,g4,g5,g6,g7,RdL_mono (fun _ _=>Rd_mono (rep_outM hr hi hM hob')) g8⟩
       | box κ =>
        have hz0:ownN os=0:=by simp[ownN] at h1;omega
        have tail:∀ ob',(∀ b,ob'=some b->∀ l,ρ.M b≠some l)->outsRel w0.w.heap.size M ob' w' os zs vs':=fun ob' hob'=>resPs_val (hsn ob' hob') rfl hz0 hz hp2 k2
        obtain⟨i,cs,b,m,l,hB,hne,hb,g1,g3,g7,g8⟩:=resP_box hr hy hp1 k1
        have hN:w0.w.heap.size<=b:=by
         rcases (hr.bound _ _ hb).1 with h|h
         ·exact h
         ·simp[Base.own,hi] at h
        refine⟨some b,fun b' hb'=>by simp at hb';subst hb';exact g1,fun ob' hob' hor=>⟨v,vs',e,?_,tail ob' hob'⟩⟩
        rcases hor with hor|hor
        ·cases hor
        ·exact⟨b,m,l,hor,hN,g3,g7,Rd_mono (rep_outM hr hi hM hob') g8⟩
      ·simp at h
     ·simp at h
  obtain⟨ob,g1,g2⟩:=main h1 h hp ht
  exact⟨ob,g1,g2 ob g1 (.inr rfl)⟩
theorem post_rel {M:Mem} {outs:List OutK} {ys:HO outs} {sv:SV} {v:Value} (hr:RepL w0 n σ.S σ.B ρ a w') (hi:w0.ids=[]) (hM:w0.M=M) (h1:ownN outs<=1) (h:post outs ys sv σ) (hv:sv.rel ρ v) :
  ∃ vs ob,v=tupled vs/\outsRel w0.w.heap.size M ob w' outs ys vs:=by
 unfold post at h
 split at h
 ·rename_i zs ps hf hz
  obtain⟨hps,rfl⟩:=conj_iff h
  obtain⟨vs,ht,e⟩:=sv_tvs hv hf
  obtain⟨ob,_,ho⟩:=resPs_any hr hi hM h1 (fun h=>by unfold hasOwn at h;split at h<;>simp_all) hz hps ht
  exact⟨vs,ob,e,ho⟩
 ·exact h.elim
end
theorem start_ok {G:Glob} {w:World} {M:Mem} (hM:Mem.le M (memOf w)) (hG:GlOk G M):Start ⟨w,[],G,M,fun p=>sizeAt w p.2,0⟩ [] 0 (Rho.start M) :=
 ⟨fun id cs h=>by simp[lookB] at h,fun id id' cs cs' b h=>by simp[lookB] at h,fun _ _ h=>by simp[Rho.start] at h,fun _ h=>by simp at h,fun _ _ h=>by simp[Rho.start] at h,
  fun b l hb=>⟨fun i cs h=>by simp[lookB] at h,memOf_inv (hM b l hb)⟩,fun b l hb _=>.inr hb,hG,fun _ h=>by simp at h,Mem.le_refl _⟩
theorem fn_of_vc {sp:FuncId->Option Spec} (hsp:SpecsOk P sp) (hm:P.follows .mixedOrders=true) {f:FuncId} {fn:Func} (hf:enters P f fn) {ins:List Kd} {outs:List OutK} {G:Glob} {pre:HL ins->Prop} {F:HL ins->HO outs}
  (hn:ins.length<=fn.ntmps) (h1:ownN outs<=1)
  (h:∀ (w:World) (M:Mem) (xs:HL ins),wfL ins xs->pre xs->vcFn ⟨P,sp,⟨w,[],G,M,fun p=>sizeAt w p.2,0⟩⟩ fn (argSVs ins xs) [] 0 (post outs (F xs))):FnOk P f ins outs G pre F:=by
 intro w M us xs hM hG hin hp
 refine .inl ⟨hf.2 _ _,?_⟩
 refine (fn_sound (E:=⟨P,sp,⟨w,[],G,M,fun p=>sizeAt w p.2,0⟩⟩) hsp hm hf.1 (start_ok hM hG) (argSVs_rel (ρ:=Rho.start M) hin) (by rw[argSVs_len];exact hn) (h w M xs (insRel_wf hin) hp)).mono ?_
 rintro e w' ⟨v,sv,σ,ρ,n,a,rfl,hv,hq,hr⟩
 obtain⟨vs,ob,e,ho⟩:=post_rel hr rfl rfl h1 hq hv
 exact⟨v,rfl,vs,ob,e,ho,hr.below.below rfl⟩
theorem fn_of_tr {sp:FuncId->Option Spec} {f:FuncId} {fn:Func} (hf:enters P f fn) {ins:List Kd} {outs:List OutK} {G:Glob} {pre:HL ins->Prop} {F:HL ins->HO outs}
  (hn:ins.length<=fn.ntmps) (h1:ownN outs<=1) (hbody:fn.body.isSome=true)
  (h:∀ (w:World) (M:Mem) (xs:HL ins),wfL ins xs->pre xs->TrFn ⟨P,sp,⟨w,[],G,M,fun p=>sizeAt w p.2,0⟩⟩ fn (argSVs ins xs) [] 0 (post outs (F xs))):FnOk P f ins outs G pre F:=by
 intro w M us xs hM hG hin hp
 refine .inl ⟨hf.2 _ _,?_⟩
 refine (fn_soundT (E:=⟨P,sp,⟨w,[],G,M,fun p=>sizeAt w p.2,0⟩⟩) hf.1 hbody (start_ok hM hG) (argSVs_rel (ρ:=Rho.start M) hin) (by rw[argSVs_len];exact hn) (h w M xs (insRel_wf hin) hp)).mono ?_
 rintro e w' ⟨v,sv,σ,ρ,n,a,rfl,hv,hq,hr⟩
 obtain⟨vs,ob,e,ho⟩:=post_rel hr rfl rfl h1 hq hv
 exact⟨v,rfl,vs,ob,e,ho,hr.below.below rfl⟩
end
def sps:List (Nat × Spec)->FuncId->Option Spec
 | [],_=>none
 | (g,F)::l,f=>match Nat.beq g f with
  | true=>some F
  | false=>sps l f
theorem snl {P:Program}:SpecsOk P (sps []):=by intro f F h;simp[sps] at h
theorem spk {P:Program} {g:Nat} {F:Spec} {l:List (Nat × Spec)} (h:SpecOk P g F) (hl:SpecsOk P (sps l)):SpecsOk P (sps ((g,F)::l)):=by
 intro f G hG
 simp only[sps] at hG
 split at hG
 ·rename_i hb
  have:=beq_true hb
  subst this
  simp at hG;subst hG;exact h
 ·exact hl f G hG
end Go.Eng
