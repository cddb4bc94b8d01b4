import Derived.Test.YtbeeaekepmnfhaaGreatDoorML24oPG
set_option maxRecDepth 100000
namespace Go.Eng
open Go Go.RowKit Cr
def FB (E:Env) (σ:St):ResultVar->Option TV
 | .tmp t=>match σ.S t with
  | .is x=>some x
  | _=>none
 | .cell a t=>match qM E.P t,σ.S a with
  | true,.is (.one (.ptr b off))=>match σ.B b with
   | some (c::cs)=>match Bv (c::cs) off (E.P.cellsOf t) with
    | some m=>mg (bN E.P t) m
    | none=>none
   | _=>none
  | _,_=>none
def vp (E:Env) (σ:St):List ResultVar->Option (List TV)
 | []=>some []
 | r::rs=>match FB E σ r,vp E σ rs with
  | some x,some xs=>some (x::xs)
  | _,_=>none
def M1 (E:Env) (σ:St) (rs:List ResultVar):Option SV :=
 match vp E σ rs with
 | some [x]=>some (.is x)
 | some xs=>some (.tup xs)
 | none=>none
def uq (E:Env) (fn:Func) (Q:SV->St->Prop) (σ:St):Prop :=
 match M1 E σ fn.results.toList with
 | some v=>Q v σ
 | none=>False
def Ns (E:Env) (fn:Func) (args:List SV) (bl:List (Nat × List Cell)) (nx:Nat) (Q:SV->St->Prop):Prop :=
 match fn.body with
 | some c=>vc E c ⟨args++List.replicate (fn.ntmps-args.length) .undef,bl,nx⟩ (uq E fn Q) (uq E fn Q) (fun _ _=>False)
 | none=>False
def yH (tmps:Array Value):ResultVar->Sem Value
 | .tmp t=>pure (tmps.getD t Go.undef)
 | .cell a t=>do loadVar t (<- asAddr (tmps.getD a Go.undef))
section
variable {E:Env}
theorem PU {σ:St} {r:ResultVar} {x:TV} {n:Nat} {ρ:aH} {a:Act} {w:World} (h:FB E σ r=some x) (hr:dI E.w0 n σ.S σ.B ρ a w) :
  ∃ v,(yH a.tmps r).run E.P w=.ok v w/\x.rel ρ v:=by
 cases r with
 | tmp t =>
  simp only[FB] at h
  have:=hr.slots t
  cases hS:σ.S t with
  | is y =>
   rw[hS] at h this
   simp at h
   subst h
   exact⟨_,rfl,this⟩
  | _=>rw[hS] at h;simp at h
 | cell b t =>
  simp only[FB] at h
  split at h
  ·rename_i id off hty hS
   have hsl:=hr.slots b
   rw[hS] at hsl
   obtain⟨bb,hb,ev⟩:=kn hsl
   obtain⟨q1,q2,q3⟩:=jU hty
   obtain⟨d,hd⟩:=Option.isSome_iff_exists.1 q2
   split at h
   ·rename_i c cs hcs
    obtain⟨l,hblk,hrel⟩:=hr.blks _ _ hcs (by simp) bb hb
    split at h
    ·rename_i m hm
     obtain⟨hrm,hle⟩:=sZ hm hrel
     obtain⟨g1,g2⟩:=uv (P:=E.P) hd hblk hle
     obtain⟨k1,k2⟩:=ll h hrm (fun h=>by rw[q3 h];simp;rw[q3 h] at hle;omega)
     cases hag:bN E.P t with
     | true=>exact⟨.agg ⟨(l.drop off).take (E.P.cellsOf t)⟩,by simp only[yH];rw[ev];simp[asAddr,g1 hag],k1 hag⟩
     | false =>
      obtain⟨v,hv1,hv2⟩:=k2 hag
      rw[q3 hag] at hv1
      exact⟨v,by simp only[yH];rw[ev];simp[asAddr,g2 hag v hv1],hv2⟩
    ·simp at h
   ·simp at h
  ·simp at h
theorem MZ {σ:St} {n:Nat} {ρ:aH} {a:Act} {w:World} (hr:dI E.w0 n σ.S σ.B ρ a w):∀ (rs:List ResultVar) (xs:List TV),vp E σ rs=some xs ->
  ∃ vs,(rs.mapM (yH a.tmps)).run E.P w=.ok vs w/\dX ρ xs vs:=by
 intro rs
 induction rs with
 | nil=>intro xs h;simp[vp] at h;subst h;exact⟨[],by simp,rfl⟩
 | cons r rs ih =>
  intro xs h
  simp only[vp] at h
  split at h
  ·rename_i x xs' h1 h2
   simp at h;subst h
   obtain⟨v,g1,g2⟩:=PU h1 hr
   obtain⟨vs,g3,g4⟩:=ih xs' h2
   refine⟨v::vs,?_,v,vs,rfl,g2,g4⟩
   simp only[List.mapM_cons,Sem.run_bind,g1,Result.andThen_ok,g3]
   simp
  ·simp at h
theorem EU {σ:St} {n:Nat} {ρ:aH} {a:Act} {w:World} {fn:Func} {sv:SV} (hr:dI E.w0 n σ.S σ.B ρ a w) (h:M1 E σ fn.results.toList=some sv) :
  ∃ v,(results fn a.tmps).run E.P w=.ok v w/\sv.rel ρ v:=by
 unfold M1 at h
 cases hq:vp E σ fn.results.toList with
 | none=>rw[hq] at h;simp at h
 | some xs =>
  rw[hq] at h
  obtain⟨vs,g1,g2⟩:=MZ hr _ _ hq
  have hres:(results fn a.tmps).run E.P w=.ok (if h:vs.toArray.size=1 then vs.toArray[0] else .tuple vs.toArray) w:=by
   have e:results fn a.tmps=(do let vs <- fn.results.mapM (yH a.tmps);pure (if h:vs.size=1 then vs[0] else .tuple vs)):=by
    rfl
   rw[e,Array.mapM_eq_mapM_toList]
   simp only[Sem.run_bind,Sem.run_map,g1,Result.andThen_ok,Sem.run_pure]
  rw[hres]
  match xs,vs,g2,h with
  | [],vs,g2,h =>
   have:vs=[]:=g2
   subst this
   simp at h;subst h
   exact⟨_,rfl,[],by simp,rfl⟩
  | [x],vs,g2,h =>
   obtain⟨v,vs',rfl,h1,h2⟩:=g2
   have:vs'=[]:=h2
   subst this
   simp at h;subst h
   exact⟨v,by simp,h1⟩
  | x::y::xs,vs,g2,h =>
   obtain⟨v,vs',rfl,h1,v2,vs2,rfl,h2,h3⟩:=g2
   simp at h;subst h
   refine⟨.tuple ⟨v::v2::vs2⟩,by simp,v::v2::vs2,rfl,v,_,rfl,h1,v2,vs2,rfl,h2,h3⟩
theorem S2 {ρ:aH}:∀ {l:List SV} {us:List Value},aW ρ l us->l.length=us.length:=by
 intro l
 induction l with
 | nil=>intro us h;have:us=[]:=h;subst this;rfl
 | cons x l ih=>intro us h;obtain⟨y,ys,rfl,_,h2⟩:=h;simp[ih h2]
structure Start (W:bW) (bl:List (Nat × List Cell)) (nx:Nat) (ρ:aH):Prop where
 blks:∀ id cs,dE bl id=some cs->cs≠[]->∀ b,ρ id=some b->∃ l,bw W.w b (ρ.n id) l/\aD ρ cs l
 inj:∀ id id' cs cs' b,dE bl id=some cs->cs≠[]->dE bl id'=some cs'->cs'≠[]->ρ id=some b->ρ id'=some b->id=id'
 bound:∀ id b,ρ id=some b->W.G4 b/\b<W.w.heap.size
 init:∀ p∈W.ids,ρ p.1=some p.2/\ρ.n p.1=sR W.w p.2
 next:∀ id b,ρ id=some b->id<nx
 mem:∀ b l,ρ.M b=some l->(∀ i cs,dE bl i=some cs->cs≠[]->ρ i≠some b)/\∃ el fr,W.w.heap[b]?=some (.cells ⟨l⟩ el fr)
 old:∀ b l,ρ.M b=some l->b<W.w.heap.size->W.own b=true\/W.M b=some l
 glob:∀ g e x,W.gl g=some ⟨e,x⟩->jW (Rd ρ.M e) (width e) ρ.M g 0 [x]
def aH.start (M:Mem):aH:=⟨fun _=>none,fun _=>0,M⟩
theorem Ax {fn:Func} {args:List SV} {us:List Value} {bl:List (Nat × List Cell)} {nx:Nat} {ρ0:aH} (hst:Start E.w0 bl nx ρ0) (hv:aW ρ0 args us) (hn:args.length<=fn.ntmps) :
  ed E.w0 fn.ntmps ⟨args++List.replicate (fn.ntmps-args.length) .undef,bl,nx⟩ { tmps:=(⟨us⟩:Array Value)++Array.replicate (fn.ntmps-(⟨us⟩:Array Value).size) undef,defers:=[] } E.w0.w:=by
 have hlen:us.length=args.length:=(S2 hv).symm
 refine⟨by simp;omega,ρ0,⟨rfl,by simp;omega,?_,ny.refl _,hst.blks,hst.inj,hst.bound,hst.init,hst.mem,hst.old,hst.glob⟩,hst.next⟩
 ·intro t
  simp only[St.S,List.getD_eq_getElem?_getD,Array.getD_eq_getD_getElem?]
  by_cases ht:t<args.length
  ·rw[List.getElem?_append_left ht,Array.getElem?_append_left (by simpa[hlen] using ht)]
   have key:∀ (l:List SV) (us:List Value) (t:Nat),aW ρ0 l us->t<l.length->(l[t]?.getD .junk).rel ρ0 (us[t]?.getD Go.undef):=by
    intro l
    induction l with
    | nil=>intro us t _ h;simp at h
    | cons x l ih =>
     intro us t h ht
     obtain⟨y,ys,rfl,h1,h2⟩:=h
     cases t with
     | zero=>simpa using h1
     | succ t=>simpa using ih ys t h2 (by simpa using ht)
   simpa using key args us t hv ht
  ·by_cases ht2:t<fn.ntmps
   ·rw[List.getElem?_append_right (by omega),List.getElem?_replicate,if_pos (by omega)]
    rw[Array.getElem?_append_right (by simp[hlen];omega),Array.getElem?_replicate,if_pos (by simp[hlen];omega)]
    rfl
   ·rw[List.getElem?_append_right (by omega),List.getElem?_replicate,if_neg (by omega)]
    trivial
theorem RK (hsp:aN E.P E.sp) (hm:E.P.follows .mixedOrders=true) {f:FuncId} {fn:Func} (hf:E.P.funcs[f]?=some fn) {args:List SV} {us:List Value} {bl:List (Nat × List Cell)} {nx:Nat} {ρ0:aH} (hst:Start E.w0 bl nx ρ0) {Q:SV->St->Prop}
  (hv:aW ρ0 args us) (hn:args.length<=fn.ntmps) (h:Ns E fn args bl nx Q) :
  Calls E.P f ⟨us⟩ E.w0.w fun e w'=>∃ v sv σ ρ n a,e=.returned v/\sv.rel ρ v/\Q sv σ/\dI E.w0 n σ.S σ.B ρ a w':=by
 unfold Ns at h
 split at h
 ·rename_i c hc
  refine calls_of_wp hf hc ?_
  have hh:=Ax (E:=E) (fn:=fn) hst hv hn
  have hret:∀ σ' a w,ed E.w0 fn.ntmps σ' a w->uq E fn Q σ'->a.defers=[]/\∃ v,(results fn a.tmps).run E.P w=.ok v w/\∃ v' sv σ ρ n a,(Ending.returned v)=.returned v'/\sv.rel ρ v'/\Q sv σ/\dI E.w0 n σ.S σ.B ρ a w:=by
   intro σ' a w hh' hk
   obtain⟨_,ρ,hrep,_⟩:=hh'
   unfold uq at hk
   split at hk
   ·rename_i sv hsv
    obtain⟨v,g1,g2⟩:=EU hrep hsv
    exact⟨hrep.defers,v,g1,v,sv,σ',ρ,_,a,rfl,g2,hk,hrep⟩
   ·exact hk.elim
  exact Ix hsp hm c _ _ _ _ _ _ _ h hh (fun σ' a w hh' hk=>hret σ' a w hh' hk) (fun σ' a w hh' hk=>hret σ' a w hh' hk) (fun i σ' a w _ hk=>hk.elim)
 ·exact h.elim
end
attribute [irreducible] Ns
end Go.Eng
