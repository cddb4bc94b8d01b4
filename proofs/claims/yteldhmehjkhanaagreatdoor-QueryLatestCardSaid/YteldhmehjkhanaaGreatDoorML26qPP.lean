import Derived.Test.YteldhmehjkhanaaGreatDoorML26qPO
set_option maxRecDepth 100000
namespace Go.Eng
open Go Go.RowKit Cr
theorem FnOk.out {P:Program} {f:FuncId} {ins:List Kd} {outs:List OutK} {G:Glob} {pre:HL ins->Prop} {A B:HL ins->HO outs} (h:FnOk P f ins outs G pre A) (e:∀ x,B x=A x):FnOk P f ins outs G pre B:=by
 have:B=A:=funext e
 rw[this];exact h
def rdBo (κ:Kd) (id:Nat) (σ:St):Option (Car κ):=match σ.B id with
 | some cs=>match pOne noB κ cs with
  | some (x,_,_)=>some x
  | none=>none
 | none=>none
def rdSo (κ:Kd) (t:Nat) (σ:St):Option (Car κ):=match σ.S t with
 | .is x=>match pOne noB κ x.cells with
  | some (x,_,_)=>some x
  | none=>none
 | _=>none
def rdRo (κ:Kd) (id:Nat) (σ:St):Option (List (Car κ)):=match σ.B id with
 | some [c]=>match asRow c with
  | some ⟨e,_,xs⟩=>match e.eq? κ with
   | some ⟨h⟩=>some (castL h xs)
   | none=>none
  | none=>none
 | none=>some []
 | _=>none
def rdNo (id:Nat) (σ:St):Option Nat:=match σ.B id with
 | some [c]=>match asRow c with
  | some ⟨_,n,_⟩=>some n
  | none=>none
 | _=>none
def rdLo (t:Nat) (σ:St):Option Nat:=match σ.S t with
 | .is (.one (.sl _ _ _ n _))=>some n
 | .is (.one (.v (.slice none 0 0)))=>some 0
 | _=>none
def rdOo (κ:Kd) (t:Nat) (σ:St):Option (List (Car κ)):=match σ.S t with
 | .is (.one (.ro e xs))=>match e.eq? κ with
  | some ⟨h⟩=>some (castL h xs)
  | none=>none
 | _=>none
def rdI (t:Nat) (σ:St):Nat:=match σ.S t with
 | .is (.one (.sl i _ _ _ _))=>i
 | .is (.one (.ptr i _))=>i
 | _=>0
def noSw:St->List (Nat × Nat):=fun _=>[]
def orD {α:Type} (d:α):Option α->α
 | some x=>x
 | none=>d
def rdB (κ:Kd) (id:Nat) (σ:St):Car κ:=orD (zeroOf κ) (rdBo κ id σ)
def rdS (κ:Kd) (t:Nat) (σ:St):Car κ:=orD (zeroOf κ) (rdSo κ t σ)
def rdR (κ:Kd) (id:Nat) (σ:St):List (Car κ):=orD [] (rdRo κ id σ)
def rdN (id:Nat) (σ:St):Nat:=orD 0 (rdNo id σ)
def rdL (t:Nat) (σ:St):Nat:=orD 0 (rdLo t σ)
def rdO (κ:Kd) (t:Nat) (σ:St):List (Car κ):=orD [] (rdOo κ t σ)
section
variable {E:Env} {N:Nat} {n r:St->Prop} {x:Nat->St->Prop}
theorem tr_cutF (hsp:SpecsOk E.P E.sp) (hm:E.P.follows .mixedOrders=true) {l:List Code} {σ:St} {α:Type} (k:Nat) (f:St->α) (τ:α->St) (K:α->Prop) (h1:VC E (l.take k) σ (fun σ'=>σ'.le E.w0 (τ (f σ')) (K (f σ'))) r x) (h2:∀ a,K a->Tr E N (l.drop k) (τ a) n r x):Tr E N l σ n r x:=by
 intro a w Q hh hn hr hx
 rw[<- List.take_append_drop k l]
 refine WpL_append _ _ a w ?_
 refine tr_vc hsp hm _ _ h1 a w _ hh (fun σ' a' w' hh' h'=>?_) hr hx
 obtain⟨hK,hτ⟩:=le_spec h' hh'
 exact h2 _ hK a' w' Q hτ hn hr hx
theorem tr_whileT {α β:Type} {l:List Code} {c:Code} {σ:St} (sw:St->List (Nat × Nat)) (f:St->α) (I:α->St) (J:α->Prop) (μ:α->Nat) (fo:St->β) (out:β->St) (Jo:β->Prop) (g0:α)
  (hl:l.head?=some c) (hc:isBlockLoop c=true) (h0:σ.le E.w0 (I g0) (J g0))
  (hb:∀ g,J g->Tr E N (loopOf c) (I g) (fun σ'=>σ'.leS E.w0 (sw σ') (I (f (σ'.sws (sw σ')))) (J (f (σ'.sws (sw σ')))/\μ (f (σ'.sws (sw σ')))<μ g)) r (fun i σ'=>match Nat.beq i (blockId c) with|true=>σ'.le E.w0 (out (fo σ')) (Jo (fo σ'))|false=>x i σ'))
  (ha:∀ g,Jo g->Tr E N l.tail (out g) n r x):Tr E N l σ n r x:=by
 intro a w Q hh hn hr hx
 cases l with
 | nil=>simp at hl
 | cons d l =>
  simp at hl;subst hl
  unfold isBlockLoop at hc
  split at hc
  ·rename_i id b
   obtain⟨hj0,hh0⟩:=le_spec h0 hh
   refine wp_block ?_
   refine wp_loop_ghost (fun m a w=>∃ g,μ g=m/\J g/\Holds E.w0 N (I g) a w) (μ g0) ⟨g0,rfl,hj0,hh0⟩ ?_
   rintro m a w ⟨g,rfl,hj,hg⟩
   have key:=hb g hj a w (Exit.then (fun a' w'=>∃ n',n'<μ g/\∃ g,μ g=n'/\J g/\Holds E.w0 N (I g) a' w') (Exit.inBlock id (Exit.then (WpL E.P l Q) Q))) hg ?_ ?_ ?_
   ·have:=wp_flat b [] _ a w (by simpa[loopOf] using key)
    refine wp_mono this ?_
    intro e a' w' he
    cases e<;>exact he
   ·rintro σ' a' w' hh' h'
    obtain⟨⟨h1,h2⟩,h3⟩:=leS_spec h' hh'
    exact⟨_,h2,_,rfl,h1,h3⟩
   ·intro σ' a' w' hh' h';exact hr σ' a' w' hh' h'
   ·intro i σ' a' w' hh' h'
    show Exit.inBlock id (Exit.then (WpL E.P l Q) Q) (.exit i) a' w'
    simp only[Exit.inBlock]
    by_cases hi:i=id
    ·subst hi
     rw[if_pos rfl]
     simp only[blockId,Nat.beq_refl] at h'
     obtain⟨hJo,hτ⟩:=le_spec h' hh'
     exact ha _ hJo a' w' Q hτ hn hr hx
    ·rw[if_neg hi]
     have:Nat.beq i id=false:=by
      cases hb:Nat.beq i id with
      | false=>rfl
      | true=>exact absurd (beq_true hb) hi
     simp only[blockId,this] at h'
     exact hx i σ' a' w' hh' h'
  ·cases hc
theorem tr_while (hsp:SpecsOk E.P E.sp) (hm:E.P.follows .mixedOrders=true) {α β:Type} {l:List Code} {c:Code} {σ:St} (sw:St->List (Nat × Nat)) (f:St->α) (I:α->St) (J:α->Prop) (μ:α->Nat) (fo:St->β) (out:β->St) (Jo:β->Prop) (g0:α)
  (hl:l.head?=some c) (hc:isBlockLoop c=true) (h0:σ.le E.w0 (I g0) (J g0))
  (hb:∀ g,J g->VC E (loopOf c) (I g) (fun σ'=>σ'.leS E.w0 (sw σ') (I (f (σ'.sws (sw σ')))) (J (f (σ'.sws (sw σ')))/\μ (f (σ'.sws (sw σ')))<μ g)) r (fun i σ'=>match Nat.beq i (blockId c) with|true=>σ'.le E.w0 (out (fo σ')) (Jo (fo σ'))|false=>x i σ'))
  (ha:∀ g,Jo g->Tr E N l.tail (out g) n r x):Tr E N l σ n r x :=
 tr_whileT sw f I J μ fo out Jo g0 hl hc h0 (fun g hg=>tr_vc hsp hm _ _ (hb g hg)) ha
end
end Go.Eng
