import Derived.Test.YtbeeaekepmnfhaaGreatDoorML24oPP
set_option maxRecDepth 100000
namespace Go.Eng
open Go Go.RowKit Cr
theorem aB.out {P:Program} {f:FuncId} {ins:List Kd} {outs:List bH} {G:dH} {pre:HL ins->Prop} {A B:HL ins->HO outs} (h:aB P f ins outs G pre A) (e:∀ x,B x=A x):aB P f ins outs G pre B:=by
 have:B=A:=funext e
 rw[this];exact h
def afS (κ:Kd) (id:Nat) (σ:St):Option (au κ):=match σ.B id with
 | some cs=>match eK kg κ cs with
  | some (x,_,_)=>some x
  | none=>none
 | none=>none
def afZ (κ:Kd) (t:Nat) (σ:St):Option (au κ):=match σ.S t with
 | .is x=>match eK kg κ x.cells with
  | some (x,_,_)=>some x
  | none=>none
 | _=>none
def afY (κ:Kd) (id:Nat) (σ:St):Option (List (au κ)):=match σ.B id with
 | some [c]=>match iD c with
  | some ⟨e,_,xs⟩=>match e.eq? κ with
   | some ⟨h⟩=>some (jq h xs)
   | none=>none
  | none=>none
 | none=>some []
 | _=>none
def afW (id:Nat) (σ:St):Option Nat:=match σ.B id with
 | some [c]=>match iD c with
  | some ⟨_,n,_⟩=>some n
  | none=>none
 | _=>none
def afV (t:Nat) (σ:St):Option Nat:=match σ.S t with
 | .is (.one (.sl _ _ _ n _))=>some n
 | .is (.one (.v (.slice none 0 0)))=>some 0
 | _=>none
def afX (κ:Kd) (t:Nat) (σ:St):Option (List (au κ)):=match σ.S t with
 | .is (.one (.ro e xs))=>match e.eq? κ with
  | some ⟨h⟩=>some (jq h xs)
  | none=>none
 | _=>none
def afT (t:Nat) (σ:St):Option Bool:=match σ.S t with
 | .is (.one (.v (.slice none 0 0)))=>some true
 | .is (.one (.sl _ _ _ _ _))=>some false
 | _=>none
def PO (t:Nat) (σ:St):Nat:=match σ.S t with
 | .is (.one (.sl i _ _ _ _))=>i
 | .is (.one (.ptr i _))=>i
 | _=>0
def dA:St->List (Nat × Nat):=fun _=>[]
def Cs {α:Type} (d:α):Option α->α
 | some x=>x
 | none=>d
def ga (κ:Kd) (id:Nat) (σ:St):au κ:=Cs (zeroOf κ) (afS κ id σ)
def bU (κ:Kd) (t:Nat) (σ:St):au κ:=Cs (zeroOf κ) (afZ κ t σ)
def cN (κ:Kd) (id:Nat) (σ:St):List (au κ):=Cs [] (afY κ id σ)
def PQ (id:Nat) (σ:St):Nat:=Cs 0 (afW id σ)
def rdE (t:Nat) (σ:St):Bool:=Cs false (afT t σ)
def yD (t:Nat) (σ:St):Nat:=Cs 0 (afV t σ)
def KW (κ:Kd) (t:Nat) (σ:St):List (au κ):=Cs [] (afX κ t σ)
section
variable {E:Env} {N:Nat} {n r:St->Prop} {x:Nat->St->Prop}
theorem eB (hsp:aN E.P E.sp) (hm:E.P.follows .mixedOrders=true) {l:List Code} {σ:St} {α:Type} (k:Nat) (f:St->α) (τ:α->St) (K:α->Prop) (h1:VC E (l.take k) σ (fun σ'=>σ'.le E.w0 (τ (f σ')) (K (f σ'))) r x) (h2:∀ a,K a->Tr E N (l.drop k) (τ a) n r x):Tr E N l σ n r x:=by
 intro a w Q hh hn hr hx
 rw[<- List.take_append_drop k l]
 refine vM _ _ a w ?_
 refine bf hsp hm _ _ h1 a w _ hh (fun σ' a' w' hh' h'=>?_) hr hx
 obtain⟨hK,hτ⟩:=ji h' hh'
 exact h2 _ hK a' w' Q hτ hn hr hx
theorem fh {α β:Type} {l:List Code} {c:Code} {σ:St} (sw:St->List (Nat × Nat)) (f:St->α) (I:α->St) (J:α->Prop) (μ:α->Nat) (fo:St->β) (out:β->St) (Jo:β->Prop) (g0:α)
  (hl:l.head?=some c) (hc:iN c=true) (h0:σ.le E.w0 (I g0) (J g0))
  (hb:∀ g,J g->Tr E N (bQ c) (I g) (fun σ'=>σ'.TR E.w0 (sw σ') (I (f (σ'.yW (sw σ')))) (J (f (σ'.yW (sw σ')))/\μ (f (σ'.yW (sw σ')))<μ g)) r (fun i σ'=>match Nat.beq i (gF c) with|true=>σ'.le E.w0 (out (fo σ')) (Jo (fo σ'))|false=>x i σ'))
  (ha:∀ g,Jo g->Tr E N l.tail (out g) n r x):Tr E N l σ n r x:=by
 intro a w Q hh hn hr hx
 cases l with
 | nil=>simp at hl
 | cons d l =>
  simp at hl;subst hl
  unfold iN at hc
  split at hc
  ·rename_i id b
   obtain⟨hj0,hh0⟩:=ji h0 hh
   refine wp_block ?_
   refine wp_loop_ghost (fun m a w=>∃ g,μ g=m/\J g/\ed E.w0 N (I g) a w) (μ g0) ⟨g0,rfl,hj0,hh0⟩ ?_
   rintro m a w ⟨g,rfl,hj,hg⟩
   have key:=hb g hj a w (Exit.then (fun a' w'=>∃ n',n'<μ g/\∃ g,μ g=n'/\J g/\ed E.w0 N (I g) a' w') (Exit.inBlock id (Exit.then (uE E.P l Q) Q))) hg ?_ ?_ ?_
   ·have:=rO b [] _ a w (by simpa[bQ] using key)
    refine wp_mono this ?_
    intro e a' w' he
    cases e<;>exact he
   ·rintro σ' a' w' hh' h'
    obtain⟨⟨h1,h2⟩,h3⟩:=R3 h' hh'
    exact⟨_,h2,_,rfl,h1,h3⟩
   ·intro σ' a' w' hh' h';exact hr σ' a' w' hh' h'
   ·intro i σ' a' w' hh' h'
    show Exit.inBlock id (Exit.then (uE E.P l Q) Q) (.exit i) a' w'
    simp only[Exit.inBlock]
    by_cases hi:i=id
    ·subst hi
     rw[if_pos rfl]
     simp only[gF,Nat.beq_refl] at h'
     obtain⟨hJo,hτ⟩:=ji h' hh'
     exact ha _ hJo a' w' Q hτ hn hr hx
    ·rw[if_neg hi]
     have:Nat.beq i id=false:=by
      cases hb:Nat.beq i id with
      | false=>rfl
      | true=>exact absurd (beq_true hb) hi
     simp only[gF,this] at h'
     exact hx i σ' a' w' hh' h'
  ·cases hc
theorem bO (hsp:aN E.P E.sp) (hm:E.P.follows .mixedOrders=true) {α β:Type} {l:List Code} {c:Code} {σ:St} (sw:St->List (Nat × Nat)) (f:St->α) (I:α->St) (J:α->Prop) (μ:α->Nat) (fo:St->β) (out:β->St) (Jo:β->Prop) (g0:α)
  (hl:l.head?=some c) (hc:iN c=true) (h0:σ.le E.w0 (I g0) (J g0))
  (hb:∀ g,J g->VC E (bQ c) (I g) (fun σ'=>σ'.TR E.w0 (sw σ') (I (f (σ'.yW (sw σ')))) (J (f (σ'.yW (sw σ')))/\μ (f (σ'.yW (sw σ')))<μ g)) r (fun i σ'=>match Nat.beq i (gF c) with|true=>σ'.le E.w0 (out (fo σ')) (Jo (fo σ'))|false=>x i σ'))
  (ha:∀ g,Jo g->Tr E N l.tail (out g) n r x):Tr E N l σ n r x :=
 fh sw f I J μ fo out Jo g0 hl hc h0 (fun g hg=>bf hsp hm _ _ (hb g hg)) ha
end
end Go.Eng
