/- The engine (6): code in pieces; loops by invariants, all states by computation. -/
import Derived.Test.YteldhmehjkhanaaDoorML26PK
namespace Go.Eng
open Go Go.RowKit Cr

def trivS : List SV → Prop → Prop
  | [], K => K
  | .junk :: m, K => trivS m K
  | t :: m, K => t = t ∧ trivS m K

def trivB : List (Nat × List Cell) → Prop → Prop
  | [], K => K
  | (_, cs) :: l, K => cs = cs ∧ trivB l K

/-- What 'σ.le W τ K' comes to where σ knows all that τ knows, in τ's own terms. -/
def St.triv (τ : St) (K : Prop) : Prop := trivS τ.slots (trivB τ.blks K)

theorem trivB_intro {K : Prop} (h : K) : ∀ l : List (Nat × List Cell), trivB l K := by
  intro l
  induction l with
  | nil => exact h
  | cons p l ih => exact ⟨rfl, ih⟩

theorem trivS_intro {K : Prop} (h : K) : ∀ l : List SV, trivS l K := by
  intro l
  induction l with
  | nil => exact h
  | cons t l ih =>
    cases t with
    | junk => exact ih
    | _ => exact ⟨rfl, ih⟩

theorem triv_intro {τ : St} {K : Prop} (h : K) : τ.triv K := trivS_intro (trivB_intro h _) _

def seqAll : List Code → Code
  | [] => .skip
  | c :: l => .seq c (seqAll l)

/-- Code without its nesting of sequences. -/
def flat : Code → List Code
  | .seq a b => flat a ++ flat b
  | .skip => []
  | c => [c]

def WpL (P : Program) : List Code → (Exit → Act → World → Prop) → Act → World → Prop
  | [], Q, a, w => Q .normal a w
  | c :: l, Q, a, w => c.wp P (Exit.then (WpL P l Q) Q) a w

theorem wp_flat {P : Program} : ∀ (c : Code) (l : List Code) (Q : Exit → Act → World → Prop) (a : Act) (w : World), WpL P (flat c ++ l) Q a w → c.wp P (Exit.then (WpL P l Q) Q) a w := by
  intro c
  induction c with
  | skip => intro l Q a w h; exact wp_skip h
  | seq p q ihp ihq =>
    intro l Q a w h
    simp only [flat, List.append_assoc] at h
    refine wp_seq (wp_mono (ihp _ Q a w h) ?_)
    intro e a' w' he
    cases e with
    | normal => exact ihq l Q a' w' he
    | _ => exact he
  | _ => intro l Q a w h; exact h

/-- The executor's condition on pieces of code. -/
def VC (E : Env) (l : List Code) (σ : St) (n r : St → Prop) (x : Nat → St → Prop) : Prop := vc E (seqAll l) σ n r x

/-- From a symbolic state, these pieces of code, one behind the other. -/
def Tr (E : Env) (N : Nat) (l : List Code) (σ : St) (n r : St → Prop) (x : Nat → St → Prop) : Prop :=
  ∀ (a : Act) (w : World) (Q : Exit → Act → World → Prop), Holds E.w0 N σ a w → (∀ σ' a w, Holds E.w0 N σ' a w → n σ' → Q .normal a w) → (∀ σ' a w, Holds E.w0 N σ' a w → r σ' → Q .ret a w) →
    (∀ i σ' a w, Holds E.w0 N σ' a w → x i σ' → Q (.exit i) a w) → WpL E.P l Q a w

section
variable {E : Env} {N : Nat} {n r : St → Prop} {x : Nat → St → Prop}

/-- By the executor. -/
theorem tr_vc (hsp : SpecsOk E.P E.sp) (hm : E.P.follows .mixedOrders = true) : ∀ (l : List Code) (σ : St), VC E l σ n r x → Tr E N l σ n r x := by
  intro l
  induction l with
  | nil => intro σ h a w Q hh hn _ _; exact hn σ a w hh h
  | cons c l ih =>
    intro σ h a w Q hh hn hr hx
    exact vc_sound hsp hm c σ _ r x a w _ h hh (fun σ' a w hh' h' => ih σ' h' a w Q hh' hn hr hx) hr hx

theorem WpL_append {P : Program} {Q : Exit → Act → World → Prop} : ∀ (l m : List Code) (a : Act) (w : World), WpL P l (Exit.then (WpL P m Q) Q) a w → WpL P (l ++ m) Q a w := by
  intro l
  induction l with
  | nil => intro m a w h; exact h
  | cons c l ih =>
    intro m a w h
    refine wp_mono h ?_
    intro e a' w' he
    cases e with
    | normal => exact ih m a' w' he
    | _ => exact he

/-- Up to piece k by the executor, there a state that knows what is needed. -/
theorem tr_cut (hsp : SpecsOk E.P E.sp) (hm : E.P.follows .mixedOrders = true) {l : List Code} {σ : St} (k : Nat) (τ : St) (K : Prop) (h1 : VC E (l.take k) σ (fun σ' => σ'.le E.w0 τ K) r x) (h2 : K → Tr E N (l.drop k) τ n r x) : Tr E N l σ n r x := by
  intro a w Q hh hn hr hx
  rw [← List.take_append_drop k l]
  refine WpL_append _ _ a w ?_
  refine tr_vc hsp hm _ _ h1 a w _ hh (fun σ' a' w' hh' h' => ?_) hr hx
  obtain ⟨hK, hτ⟩ := le_spec h' hh'
  exact h2 hK a' w' Q hτ hn hr hx

def blockId : Code → Nat
  | .block id _ => id
  | _ => 0

/-- The body of 'block (loop body)', in pieces. -/
def loopOf : Code → List Code
  | .block _ (.loop b) => flat b
  | _ => []

def isBlockLoop : Code → Bool
  | .block _ (.loop _) => true
  | _ => false

/-- The k-th piece of a function's code. -/
def nthC (l : List Code) (k : Nat) : Code := l.getD k .skip

def codeOf (fn : Func) : List Code :=
  match fn.body with
  | some c => flat c
  | none => []

def startSt (fn : Func) (args : List SV) (bl : List (Nat × List Cell)) (nx : Nat) : St := ⟨args ++ List.replicate (fn.ntmps - args.length) .undef, bl, nx⟩

/-- The verification of a call, in pieces. -/
def TrFn (E : Env) (fn : Func) (args : List SV) (bl : List (Nat × List Cell)) (nx : Nat) (Q : SV → St → Prop) : Prop :=
  Tr E fn.ntmps (codeOf fn) (startSt fn args bl nx) (retK E fn Q) (retK E fn Q) (fun _ _ => False)

theorem fn_soundT {f : FuncId} {fn : Func} (hf : E.P.funcs[f]? = some fn) (hbody : fn.body.isSome = true) {args : List SV} {us : List Value} {bl : List (Nat × List Cell)} {nx : Nat} {ρ0 : Rho} (hst : Start E.w0 bl nx ρ0) {Q : SV → St → Prop}
    (hv : valsRel ρ0 args us) (hn : args.length ≤ fn.ntmps) (h : TrFn E fn args bl nx Q) :
    Calls E.P f ⟨us⟩ E.w0.w fun e w' => ∃ v sv σ ρ n a, e = .returned v ∧ sv.rel ρ v ∧ Q sv σ ∧ RepL E.w0 n σ.S σ.B ρ a w' := by
  obtain ⟨c, hc⟩ := Option.isSome_iff_exists.1 hbody
  have hh := start_holds (E := E) (fn := fn) hst hv hn
  refine calls_of_wp hf hc ?_
  have hret : ∀ σ' a w, Holds E.w0 fn.ntmps σ' a w → retK E fn Q σ' → a.defers = [] ∧ ∃ v, (results fn a.tmps).run E.P w = .ok v w ∧ ∃ v' sv σ ρ n a, (Ending.returned v) = .returned v' ∧ sv.rel ρ v' ∧ Q sv σ ∧ RepL E.w0 n σ.S σ.B ρ a w := by
    intro σ' a w hh' hk
    obtain ⟨_, ρ, hrep, _⟩ := hh'
    unfold retK at hk
    split at hk
    · rename_i sv hsv
      obtain ⟨v, g1, g2⟩ := resOf_run hrep hsv
      exact ⟨hrep.defers, v, g1, v, sv, σ', ρ, _, a, rfl, g2, hk, hrep⟩
    · exact hk.elim
  have hl : flat c ++ [] = codeOf fn := by simp [codeOf, hc]
  suffices hw : WpL E.P (codeOf fn) (bodyPost E.P fn fun e w' => ∃ v sv σ ρ n a, e = .returned v ∧ SV.rel ρ sv v ∧ Q sv σ ∧ RepL E.w0 n σ.S σ.B ρ a w') { tmps := (⟨us⟩ : Array Value) ++ Array.replicate (fn.ntmps - (⟨us⟩ : Array Value).size) undef, defers := [] } E.w0.w by
    refine wp_mono (wp_flat c [] _ _ _ (hl ▸ hw)) ?_
    intro e a' w' he
    cases e <;> exact he
  exact h _ _ _ hh (fun σ' a w hh' hk => hret σ' a w hh' hk) (fun σ' a w hh' hk => hret σ' a w hh' hk) (fun i σ' a w _ hk => hk.elim)

end
attribute [irreducible] VC
end Go.Eng
