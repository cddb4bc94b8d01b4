import Derived.Test.YteldhmehjkhanaaGreatDoorML26qPI
set_option maxRecDepth 100000
namespace Go.Eng
open Go Go.RowKit Cr
def resSV (E:Env) (σ:St):ResultVar->Option TV
 | .tmp t=>match σ.S t with
  | .is x=>some x
  | _=>none
 | .cell a t=>match typeOk E.P t,σ.S a with
  | true,.is (.one (.ptr b off))=>match σ.B b with
   | some (c::cs)=>match subC (c::cs) off (E.P.cellsOf t) with
    | some m=>ofCells (isAggT E.P t) m
    | none=>none
   | _=>none
  | _,_=>none
def resAll (E:Env) (σ:St):List ResultVar->Option (List TV)
 | []=>some []
 | r::rs=>match resSV E σ r,resAll E σ rs with
  | some x,some xs=>some (x::xs)
  | _,_=>none
def resOf (E:Env) (σ:St) (rs:List ResultVar):Option SV :=
 match resAll E σ rs with
 | some [x]=>some (.is x)
 | some xs=>some (.tup xs)
 | none=>none
def retK (E:Env) (fn:Func) (Q:SV->St->Prop) (σ:St):Prop :=
 match resOf E σ fn.results.toList with
 | some v=>Q v σ
 | none=>False
def vcFn (E:Env) (fn:Func) (args:List SV) (bl:List (Nat × List Cell)) (nx:Nat) (Q:SV->St->Prop):Prop :=
 match fn.body with
 | some c=>vc E c ⟨args++List.replicate (fn.ntmps-args.length) .undef,bl,nx⟩ (retK E fn Q) (retK E fn Q) (fun _ _=>False)
 | none=>False
def resSem (tmps:Array Value):ResultVar->Sem Value
 | .tmp t=>pure (tmps.getD t Go.undef)
 | .cell a t=>do loadVar t (<- asAddr (tmps.getD a Go.undef))
section
variable {E:Env}
theorem resSV_run {σ:St} {r:ResultVar} {x:TV} {n:Nat} {ρ:Rho} {a:Act} {w:World} (h:resSV E σ r=some x) (hr:RepL E.w0 n σ.S σ.B ρ a w) :
  ∃ v,(resSem a.tmps r).run E.P w=.ok v w/\x.rel ρ v:=by
 cases r with
 | tmp t =>
  simp only[resSV] at h
  have:=hr.slots t
  cases hS:σ.S t with
  | is y =>
   rw[hS] at h this
   simp at h
   subst h
   exact⟨_,rfl,this⟩
  | _=>rw[hS] at h;simp at h
 | cell b t =>
  simp only[resSV] at h
  split at h
  ·rename_i id off hty hS
   have hsl:=hr.slots b
   rw[hS] at hsl
   obtain⟨bb,hb,ev⟩:=rel_ptr hsl
   obtain⟨q1,q2,q3⟩:=typeOk_spec hty
   obtain⟨d,hd⟩:=Option.isSome_iff_exists.1 q2
   split at h
   ·rename_i c cs hcs
    obtain⟨l,hblk,hrel⟩:=hr.blks _ _ hcs (by simp) bb hb
    split at h
    ·rename_i m hm
     obtain⟨hrm,hle⟩:=subC_rel hm hrel
     obtain⟨g1,g2⟩:=run_loadVar (P:=E.P) hd hblk hle
     obtain⟨k1,k2⟩:=ofCells_rel h hrm (fun h=>by rw[q3 h];simp;rw[q3 h] at hle;omega)
     cases hag:isAggT E.P t with
     | true=>exact⟨.agg ⟨(l.drop off).take (E.P.cellsOf t)⟩,by simp only[resSem];rw[ev];simp[asAddr,g1 hag],k1 hag⟩
     | false =>
      obtain⟨v,hv1,hv2⟩:=k2 hag
      rw[q3 hag] at hv1
      exact⟨v,by simp only[resSem];rw[ev];simp[asAddr,g2 hag v hv1],hv2⟩
    ·simp at h
   ·simp at h
  ·simp at h
theorem resAll_run {σ:St} {n:Nat} {ρ:Rho} {a:Act} {w:World} (hr:RepL E.w0 n σ.S σ.B ρ a w):∀ (rs:List ResultVar) (xs:List TV),resAll E σ rs=some xs ->
  ∃ vs,(rs.mapM (resSem a.tmps)).run E.P w=.ok vs w/\tupRel ρ xs vs:=by
 intro rs
 induction rs with
 | nil=>intro xs h;simp[resAll] at h;subst h;exact⟨[],by simp,rfl⟩
 | cons r rs ih =>
  intro xs h
  simp only[resAll] at h
  split at h
  ·rename_i x xs' h1 h2
   simp at h;subst h
   obtain⟨v,g1,g2⟩:=resSV_run h1 hr
   obtain⟨vs,g3,g4⟩:=ih xs' h2
   refine⟨v::vs,?_,v,vs,rfl,g2,g4⟩
   simp only[List.mapM_cons,Sem.run_bind,g1,Result.andThen_ok,g3]
   simp
  ·simp at h
theorem resOf_run {σ:St} {n:Nat} {ρ:Rho} {a:Act} {w:World} {fn:Func} {sv:SV} (hr:RepL E.w0 n σ.S σ.B ρ a w) (h:resOf E σ fn.results.toList=some sv) :
  ∃ v,(results fn a.tmps).run E.P w=.ok v w/\sv.rel ρ v:=by
 unfold resOf at h
 cases hq:resAll E σ fn.results.toList with
 | none=>rw[hq] at h;simp at h
 | some xs =>
  rw[hq] at h
  obtain⟨vs,g1,g2⟩:=resAll_run hr _ _ hq
  have hres:(results fn a.tmps).run E.P w=.ok (if h:vs.toArray.size=1 then vs.toArray[0] else .tuple vs.toArray) w:=by
   have e:results fn a.tmps=(do let vs <- fn.results.mapM (resSem a.tmps);pure (if h:vs.size=1 then vs[0] else .tuple vs)):=by
    rfl
   rw[e,Array.mapM_eq_mapM_toList]
   simp only[Sem.run_bind,Sem.run_map,g1,Result.andThen_ok,Sem.run_pure]
  rw[hres]
  match xs,vs,g2,h with
  | [],vs,g2,h =>
   have:vs=[]:=g2
   subst this
   simp at h;subst h
   exact⟨_,rfl,[],by simp,rfl⟩
  | [x],vs,g2,h =>
   obtain⟨v,vs',rfl,h1,h2⟩:=g2
   have:vs'=[]:=h2
   subst this
   simp at h;subst h
   exact⟨v,by simp,h1⟩
  | x::y::xs,vs,g2,h =>
   obtain⟨v,vs',rfl,h1,v2,vs2,rfl,h2,h3⟩:=g2
   simp at h;subst h
   refine⟨.tuple ⟨v::v2::vs2⟩,by simp,v::v2::vs2,rfl,v,_,rfl,h1,v2,vs2,rfl,h2,h3⟩
theorem vals_len {ρ:Rho}:∀ {l:List SV} {us:List Value},valsRel ρ l us->l.length=us.length:=by
 intro l
 induction l with
 | nil=>intro us h;have:us=[]:=h;subst this;rfl
 | cons x l ih=>intro us h;obtain⟨y,ys,rfl,_,h2⟩:=h;simp[ih h2]
structure Start (W:Base) (bl:List (Nat × List Cell)) (nx:Nat) (ρ:Rho):Prop where
 blks:∀ id cs,lookB bl id=some cs->cs≠[]->∀ b,ρ id=some b->∃ l,BlkAt W.w b (ρ.n id) l/\cellsRel ρ cs l
 inj:∀ id id' cs cs' b,lookB bl id=some cs->cs≠[]->lookB bl id'=some cs'->cs'≠[]->ρ id=some b->ρ id'=some b->id=id'
 bound:∀ id b,ρ id=some b->W.mine b/\b<W.w.heap.size
 init:∀ p∈W.ids,ρ p.1=some p.2/\ρ.n p.1=W.num p
 next:∀ id b,ρ id=some b->id<nx
 mem:∀ b l,ρ.M b=some l->(∀ i cs,lookB bl i=some cs->cs≠[]->ρ i≠some b)/\∃ el fr,W.w.heap[b]?=some (objOf l el fr)
 old:∀ b l,ρ.M b=some l->b<W.w.heap.size->W.own b=true\/W.M b=some l
 glob:∀ g e x,W.gl g=some ⟨e,x⟩->RowAt (Rd ρ.M e) (width e) ρ.M g 0 [x]
 tops:∀ p∈W.ids,p.1<W.top
 memle:Mem.le W.M ρ.M
def Rho.start (M:Mem):Rho:=⟨fun _=>none,fun _=>0,M⟩
theorem start_holds {fn:Func} {args:List SV} {us:List Value} {bl:List (Nat × List Cell)} {nx:Nat} {ρ0:Rho} (hst:Start E.w0 bl nx ρ0) (hv:valsRel ρ0 args us) (hn:args.length<=fn.ntmps) :
  Holds E.w0 fn.ntmps ⟨args++List.replicate (fn.ntmps-args.length) .undef,bl,nx⟩ { tmps:=(⟨us⟩:Array Value)++Array.replicate (fn.ntmps-(⟨us⟩:Array Value).size) undef,defers:=[] } E.w0.w:=by
 have hlen:us.length=args.length:=(vals_len hv).symm
 refine⟨by simp;omega,ρ0,⟨rfl,by simp;omega,?_,Keeps.refl _,hst.blks,hst.inj,hst.bound,hst.init,hst.mem,hst.old,hst.glob,hst.tops,hst.memle⟩,hst.next⟩
 ·intro t
  simp only[St.S,List.getD_eq_getElem?_getD,Array.getD_eq_getD_getElem?]
  by_cases ht:t<args.length
  ·rw[List.getElem?_append_left ht,Array.getElem?_append_left (by simpa[hlen] using ht)]
   have key:∀ (l:List SV) (us:List Value) (t:Nat),valsRel ρ0 l us->t<l.length->(l[t]?.getD .junk).rel ρ0 (us[t]?.getD Go.undef):=by
    intro l
    induction l with
    | nil=>intro us t _ h;simp at h
    | cons x l ih =>
     intro us t h ht
     obtain⟨y,ys,rfl,h1,h2⟩:=h
     cases t with
     | zero=>simpa using h1
     | succ t=>simpa using ih ys t h2 (by simpa using ht)
   simpa using key args us t hv ht
  ·by_cases ht2:t<fn.ntmps
   ·rw[List.getElem?_append_right (by omega),List.getElem?_replicate,if_pos (by omega)]
    rw[Array.getElem?_append_right (by simp[hlen];omega),Array.getElem?_replicate,if_pos (by simp[hlen];omega)]
    rfl
   ·rw[List.getElem?_append_right (by omega),List.getElem?_replicate,if_neg (by omega)]
    trivial
theorem fn_sound (hsp:SpecsOk E.P E.sp) (hm:E.P.follows .mixedOrders=true) {f:FuncId} {fn:Func} (hf:E.P.funcs[f]?=some fn) {args:List SV} {us:List Value} {bl:List (Nat × List Cell)} {nx:Nat} {ρ0:Rho} (hst:Start E.w0 bl nx ρ0) {Q:SV->St->Prop}
  (hv:valsRel ρ0 args us) (hn:args.length<=fn.ntmps) (h:vcFn E fn args bl nx Q) :
  Calls E.P f ⟨us⟩ E.w0.w fun e w'=>∃ v sv σ ρ n a,e=.returned v/\sv.rel ρ v/\Q sv σ/\RepL E.w0 n σ.S σ.B ρ a w':=by
 unfold vcFn at h
 split at h
 ·rename_i c hc
  refine calls_of_wp hf hc ?_
  have hh:=start_holds (E:=E) (fn:=fn) hst hv hn
  have hret:∀ σ' a w,Holds E.w0 fn.ntmps σ' a w->retK E fn Q σ'->a.defers=[]/\∃ v,(results fn a.tmps).run E.P w=.ok v w/\∃ v' sv σ ρ n a,(Ending.returned v)=.returned v'/\sv.rel ρ v'/\Q sv σ/\RepL E.w0 n σ.S σ.B ρ a w:=by
   intro σ' a w hh' hk
   obtain⟨_,ρ,hrep,_⟩:=hh'
   unfold retK at hk
   split at hk
   ·rename_i sv hsv
    obtain⟨v,g1,g2⟩:=resOf_run hrep hsv
    exact⟨hrep.defers,v,g1,v,sv,σ',ρ,_,a,rfl,g2,hk,hrep⟩
   ·exact hk.elim
  exact vc_sound hsp hm c _ _ _ _ _ _ _ h hh (fun σ' a w hh' hk=>hret σ' a w hh' hk) (fun σ' a w hh' hk=>hret σ' a w hh' hk) (fun i σ' a w _ hk=>hk.elim)
 ·exact h.elim
end
attribute [irreducible] vcFn
end Go.Eng
