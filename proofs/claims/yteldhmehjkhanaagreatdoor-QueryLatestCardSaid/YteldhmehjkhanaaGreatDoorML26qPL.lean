import Derived.Test.YteldhmehjkhanaaGreatDoorML26qPK
set_option maxRecDepth 100000
namespace Go.Eng
open Go Go.RowKit Cr
def trivS:List SV->Prop->Prop
 | [],K=>K
 | .junk::m,K=>trivS m K
 | t::m,K=>t=t/\trivS m K
def trivB:List (Nat × List Cell)->Prop->Prop
 | [],K=>K
 | (_,cs)::l,K=>cs=cs/\trivB l K
def St.triv (τ:St) (K:Prop):Prop:=trivS τ.slots (trivB τ.blks K)
theorem trivB_intro {K:Prop} (h:K):∀ l:List (Nat × List Cell),trivB l K:=by
 intro l
 induction l with
 | nil=>exact h
 | cons p l ih=>exact⟨rfl,ih⟩
theorem trivS_intro {K:Prop} (h:K):∀ l:List SV,trivS l K:=by
 intro l
 induction l with
 | nil=>exact h
 | cons t l ih =>
  cases t with
  | junk=>exact ih
  | _=>exact⟨rfl,ih⟩
theorem tvi {τ:St} {K:Prop} (h:K):τ.triv K:=trivS_intro (trivB_intro h _) _
def seqAll:List Code->Code
 | []=>.skip
 | c::l=>.seq c (seqAll l)
def flat:Code->List Code
 | .seq a b=>flat a++flat b
 | .skip=>[]
 | c=>[c]
def WpL (P:Program):List Code->(Exit->Act->World->Prop)->Act->World->Prop
 | [],Q,a,w=>Q .normal a w
 | c::l,Q,a,w=>c.wp P (Exit.then (WpL P l Q) Q) a w
theorem wp_flat {P:Program}:∀ (c:Code) (l:List Code) (Q:Exit->Act->World->Prop) (a:Act) (w:World),WpL P (flat c++l) Q a w->c.wp P (Exit.then (WpL P l Q) Q) a w:=by
 intro c
 induction c with
 | skip=>intro l Q a w h;exact wp_skip h
 | seq p q ihp ihq =>
  intro l Q a w h
  simp only[flat,List.append_assoc] at h
  refine wp_seq (wp_mono (ihp _ Q a w h) ?_)
  intro e a' w' he
  cases e with
  | normal=>exact ihq l Q a' w' he
  | _=>exact he
 | _=>intro l Q a w h;exact h
def VC (E:Env) (l:List Code) (σ:St) (n r:St->Prop) (x:Nat->St->Prop):Prop:=vc E (seqAll l) σ n r x
def Tr (E:Env) (N:Nat) (l:List Code) (σ:St) (n r:St->Prop) (x:Nat->St->Prop):Prop :=
 ∀ (a:Act) (w:World) (Q:Exit->Act->World->Prop),Holds E.w0 N σ a w->(∀ σ' a w,Holds E.w0 N σ' a w->n σ'->Q .normal a w)->(∀ σ' a w,Holds E.w0 N σ' a w->r σ'->Q .ret a w) ->
  (∀ i σ' a w,Holds E.w0 N σ' a w->x i σ'->Q (.exit i) a w)->WpL E.P l Q a w
section
variable {E:Env} {N:Nat} {n r:St->Prop} {x:Nat->St->Prop}
theorem tr_vc (hsp:SpecsOk E.P E.sp) (hm:E.P.follows .mixedOrders=true):∀ (l:List Code) (σ:St),VC E l σ n r x->Tr E N l σ n r x:=by
 intro l
 induction l with
 | nil=>intro σ h a w Q hh hn _ _;exact hn σ a w hh h
 | cons c l ih =>
  intro σ h a w Q hh hn hr hx
  exact vc_sound hsp hm c σ _ r x a w _ h hh (fun σ' a w hh' h'=>ih σ' h' a w Q hh' hn hr hx) hr hx
theorem WpL_append {P:Program} {Q:Exit->Act->World->Prop}:∀ (l m:List Code) (a:Act) (w:World),WpL P l (Exit.then (WpL P m Q) Q) a w->WpL P (l++m) Q a w:=by
 intro l
 induction l with
 | nil=>intro m a w h;exact h
 | cons c l ih =>
  intro m a w h
  refine wp_mono h ?_
  intro e a' w' he
  cases e with
  | normal=>exact ih m a' w' he
  | _=>exact he
theorem tr_cut (hsp:SpecsOk E.P E.sp) (hm:E.P.follows .mixedOrders=true) {l:List Code} {σ:St} (k:Nat) (τ:St) (K:Prop) (h1:VC E (l.take k) σ (fun σ'=>σ'.le E.w0 τ K) r x) (h2:K->Tr E N (l.drop k) τ n r x):Tr E N l σ n r x:=by
 intro a w Q hh hn hr hx
 rw[<- List.take_append_drop k l]
 refine WpL_append _ _ a w ?_
 refine tr_vc hsp hm _ _ h1 a w _ hh (fun σ' a' w' hh' h'=>?_) hr hx
 obtain⟨hK,hτ⟩:=le_spec h' hh'
 exact h2 hK a' w' Q hτ hn hr hx
theorem tr_le {l:List Code} {σ τ:St} {K:Prop} (h:σ.le E.w0 τ K) (h2:K->Tr E N l τ n r x):Tr E N l σ n r x:=by
 intro a w Q hh hn hr hx
 obtain⟨hK,hτ⟩:=le_spec h hh
 exact h2 hK a w Q hτ hn hr hx
def blockId:Code->Nat
 | .block id _=>id
 | _=>0
def loopOf:Code->List Code
 | .block _ (.loop b)=>flat b
 | _=>[]
def isBlockLoop:Code->Bool
 | .block _ (.loop _)=>true
 | _=>false
theorem tr_loop {α:Type} {l:List Code} {c:Code} {σ:St} (I:α->St) (J:α->Prop) (μ:α->Nat) (out:α->St) (Jo:α->Prop) (g0:α)
  (hl:l.head?=some c) (hc:isBlockLoop c=true) (h0:σ.le E.w0 (I g0) (J g0))
  (hb:∀ g,J g->Tr E N (loopOf c) (I g) (fun σ'=>∃ g',σ'.le E.w0 (I g') (J g'/\μ g'<μ g)) r (fun i σ'=>match Nat.beq i (blockId c) with|true=>∃ g',σ'.le E.w0 (out g') (Jo g')|false=>x i σ'))
  (ha:∀ g,Jo g->Tr E N l.tail (out g) n r x):Tr E N l σ n r x:=by
 intro a w Q hh hn hr hx
 cases l with
 | nil=>simp at hl
 | cons d l =>
  simp at hl;subst hl
  unfold isBlockLoop at hc
  split at hc
  ·rename_i id b
   obtain⟨hj0,hh0⟩:=le_spec h0 hh
   refine wp_block ?_
   refine wp_loop_ghost (fun m a w=>∃ g,μ g=m/\J g/\Holds E.w0 N (I g) a w) (μ g0) ⟨g0,rfl,hj0,hh0⟩ ?_
   rintro m a w ⟨g,rfl,hj,hg⟩
   have key:=hb g hj a w (Exit.then (fun a' w'=>∃ n',n'<μ g/\∃ g,μ g=n'/\J g/\Holds E.w0 N (I g) a' w') (Exit.inBlock id (Exit.then (WpL E.P l Q) Q))) hg ?_ ?_ ?_
   ·have:=wp_flat b [] _ a w (by simpa[loopOf] using key)
    refine wp_mono this ?_
    intro e a' w' he
    cases e<;>exact he
   ·rintro σ' a' w' hh' ⟨g',h'⟩
    obtain⟨⟨h1,h2⟩,h3⟩:=le_spec h' hh'
    exact⟨μ g',h2,g',rfl,h1,h3⟩
   ·intro σ' a' w' hh' h';exact hr σ' a' w' hh' h'
   ·intro i σ' a' w' hh' h'
    show Exit.inBlock id (Exit.then (WpL E.P l Q) Q) (.exit i) a' w'
    simp only[Exit.inBlock]
    by_cases hi:i=id
    ·subst hi
     rw[if_pos rfl]
     simp only[blockId,Nat.beq_refl] at h'
     obtain⟨g',h'⟩:=h'
     obtain⟨hJo,hτ⟩:=le_spec h' hh'
     exact ha g' hJo a' w' Q hτ hn hr hx
    ·rw[if_neg hi]
     have:Nat.beq i id=false:=by
      cases hb:Nat.beq i id with
      | false=>rfl
      | true=>exact absurd (beq_true hb) hi
     simp only[blockId,this] at h'
     exact hx i σ' a' w' hh' h'
  ·cases hc
theorem tr_mono {l:List Code} {σ:St} {n':St->Prop} {x':Nat->St->Prop} (h:Tr E N l σ n' r x') (hn':∀ σ',n' σ'->n σ') (hx':∀ i σ',x' i σ'->x i σ'):Tr E N l σ n r x:=by
 intro a w Q hh hn hr hx
 exact h a w Q hh (fun σ' a w hh' h'=>hn σ' a w hh' (hn' σ' h')) hr (fun i σ' a w hh' h'=>hx i σ' a w hh' (hx' i σ' h'))
theorem tr_loopN (hsp:SpecsOk E.P E.sp) (hm:E.P.follows .mixedOrders=true) {α:Type} {l:List Code} {c:Code} {σ:St} (I:α->St) (J:α->Prop) (μ:α->Nat) (nxt:α->α) (out:α->St) (Jo:α->Prop) (g0:α)
  (hl:l.head?=some c) (hc:isBlockLoop c=true) (h0:σ.le E.w0 (I g0) (J g0))
  (hb:∀ g,J g->VC E (loopOf c) (I g) (fun σ'=>σ'.le E.w0 (I (nxt g)) (J (nxt g)/\μ (nxt g)<μ g)) r (fun i σ'=>match Nat.beq i (blockId c) with|true=>σ'.le E.w0 (out g) (Jo g)|false=>x i σ'))
  (ha:∀ g,Jo g->Tr E N l.tail (out g) n r x):Tr E N l σ n r x:=by
 refine tr_loop I J μ out Jo g0 hl hc h0 (fun g hg=>?_) ha
 refine tr_mono (tr_vc hsp hm _ _ (hb g hg)) (fun σ' h'=>⟨nxt g,h'⟩) (fun i σ' h'=>?_)
 cases hq:Nat.beq i (blockId c) with
 | true=>rw[hq] at h';exact⟨g,h'⟩
 | false=>rw[hq] at h';exact h'
def nthC (l:List Code) (k:Nat):Code:=l.getD k .skip
def condOf:Code->Operand
 | .cond c _ _=>c
 | _=>.const (.bool true)
def thenOf:Code->List Code
 | .cond _ a _=>flat a
 | _=>[]
def elseOf:Code->List Code
 | .cond _ _ b=>flat b
 | _=>[]
def isCond:Code->Bool
 | .cond _ _ _=>true
 | _=>false
def bodyOf:Code->List Code
 | .block _ b=>flat b
 | _=>[]
def isBlock:Code->Bool
 | .block _ _=>true
 | _=>false
theorem tr_cond {l:List Code} {c:Code} {σ:St} (t:Bool) (hl:l.head?=some c) (hc:isCond c=true) (hv:condVal σ.S (condOf c)=.is (.one (.v (.bool t))))
  (h1:t=true->Tr E N (thenOf c++l.tail) σ n r x) (h2:t=false->Tr E N (elseOf c++l.tail) σ n r x):Tr E N l σ n r x:=by
 intro a w Q hh hn hr hx
 cases l with
 | nil=>simp at hl
 | cons d l =>
  simp at hl;subst hl
  unfold isCond at hc
  split at hc
  ·rename_i c p q
   have hrel:(condVal σ.S c).rel hh.2.choose (a.eval c):=(hh.2.choose_spec.1).opd (E:=E) c
   simp only[condOf] at hv
   rw[hv] at hrel
   refine wp_cond_split (rel_v hrel) (fun ht=>?_) (fun ht=>?_)
   ·exact wp_flat p l Q a w (h1 ht a w Q hh hn hr hx)
   ·exact wp_flat q l Q a w (h2 ht a w Q hh hn hr hx)
  ·cases hc
theorem tr_block {l:List Code} {c:Code} {σ:St} (hl:l.head?=some c) (hc:isBlock c=true)
  (h1:Tr E N (bodyOf c) σ (fun σ'=>Tr E N l.tail σ' n r x) r (fun i σ'=>match Nat.beq i (blockId c) with|true=>Tr E N l.tail σ' n r x|false=>x i σ')):Tr E N l σ n r x:=by
 intro a w Q hh hn hr hx
 cases l with
 | nil=>simp at hl
 | cons d l =>
  simp at hl;subst hl
  unfold isBlock at hc
  split at hc
  ·rename_i id b
   refine wp_block ?_
   have key:=h1 a w (Exit.inBlock id (Exit.then (WpL E.P l Q) Q)) hh (fun σ' a' w' hh' h'=>h' a' w' Q hh' hn hr hx) (fun σ' a' w' hh' h'=>hr σ' a' w' hh' h') ?_
   ·have:=wp_flat b [] _ a w (by simpa[bodyOf] using key)
    refine wp_mono this ?_
    intro e a' w' he
    cases e<;>exact he
   ·intro i σ' a' w' hh' h'
    simp only[Exit.inBlock]
    by_cases hi:i=id
    ·subst hi
     rw[if_pos rfl]
     simp only[blockId,Nat.beq_refl] at h'
     exact h' a' w' Q hh' hn hr hx
    ·rw[if_neg hi]
     have:Nat.beq i id=false:=by
      cases hb:Nat.beq i id with
      | false=>rfl
      | true=>exact absurd (beq_true hb) hi
     simp only[blockId,this] at h'
     exact hx i σ' a' w' hh' h'
  ·cases hc
def codeOf (fn:Func):List Code :=
 match fn.body with
 | some c=>flat c
 | none=>[]
def startSt (fn:Func) (args:List SV) (bl:List (Nat × List Cell)) (nx:Nat):St:=⟨args++List.replicate (fn.ntmps-args.length) .undef,bl,nx⟩
def TrFn (E:Env) (fn:Func) (args:List SV) (bl:List (Nat × List Cell)) (nx:Nat) (Q:SV->St->Prop):Prop :=
 Tr E fn.ntmps (codeOf fn) (startSt fn args bl nx) (retK E fn Q) (retK E fn Q) (fun _ _=>False)
theorem fn_soundT {f:FuncId} {fn:Func} (hf:E.P.funcs[f]?=some fn) (hbody:fn.body.isSome=true) {args:List SV} {us:List Value} {bl:List (Nat × List Cell)} {nx:Nat} {ρ0:Rho} (hst:Start E.w0 bl nx ρ0) {Q:SV->St->Prop}
  (hv:valsRel ρ0 args us) (hn:args.length<=fn.ntmps) (h:TrFn E fn args bl nx Q) :
  Calls E.P f ⟨us⟩ E.w0.w fun e w'=>∃ v sv σ ρ n a,e=.returned v/\sv.rel ρ v/\Q sv σ/\RepL E.w0 n σ.S σ.B ρ a w':=by
 obtain⟨c,hc⟩:=Option.isSome_iff_exists.1 hbody
 have hh:=start_holds (E:=E) (fn:=fn) hst hv hn
 refine calls_of_wp hf hc ?_
 have hret:∀ σ' a w,Holds E.w0 fn.ntmps σ' a w->retK E fn Q σ'->a.defers=[]/\∃ v,(results fn a.tmps).run E.P w=.ok v w/\∃ v' sv σ ρ n a,(Ending.returned v)=.returned v'/\sv.rel ρ v'/\Q sv σ/\RepL E.w0 n σ.S σ.B ρ a w:=by
  intro σ' a w hh' hk
  obtain⟨_,ρ,hrep,_⟩:=hh'
  unfold retK at hk
  split at hk
  ·rename_i sv hsv
   obtain⟨v,g1,g2⟩:=resOf_run hrep hsv
   exact⟨hrep.defers,v,g1,v,sv,σ',ρ,_,a,rfl,g2,hk,hrep⟩
  ·exact hk.elim
 have hl:flat c++[]=codeOf fn:=by simp[codeOf,hc]
 suffices hw:WpL E.P (codeOf fn) (bodyPost E.P fn fun e w'=>∃ v sv σ ρ n a,e=.returned v/\SV.rel ρ sv v/\Q sv σ/\RepL E.w0 n σ.S σ.B ρ a w') { tmps:=(⟨us⟩:Array Value)++Array.replicate (fn.ntmps-(⟨us⟩:Array Value).size) undef,defers:=[] } E.w0.w by
  refine wp_mono (wp_flat c [] _ _ _ (hl▸hw)) ?_
  intro e a' w' he
  cases e<;>exact he
 exact h _ _ _ hh (fun σ' a w hh' hk=>hret σ' a w hh' hk) (fun σ' a w hh' hk=>hret σ' a w hh' hk) (fun i σ' a w _ hk=>hk.elim)
end
attribute [irreducible] VC
end Go.Eng
