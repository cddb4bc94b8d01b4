/- Commutative rings and fields: identities by computation. No program here. -/
import Derived.KernelRfl
namespace Cr

class Rg (F : Type) extends Add F, Mul F, Neg F, Sub F, Zero F, One F where
  add_comm : ∀ a b : F, a + b = b + a
  add_assoc : ∀ a b c : F, a + b + c = a + (b + c)
  zero_add : ∀ a : F, 0 + a = a
  neg_add : ∀ a : F, -a + a = 0
  sub_def : ∀ a b : F, a - b = a + -b
  mul_comm : ∀ a b : F, a * b = b * a
  mul_assoc : ∀ a b c : F, a * b * c = a * (b * c)
  one_mul : ∀ a : F, 1 * a = a
  add_mul : ∀ a b c : F, (a + b) * c = a * c + b * c

namespace Rg
variable {F : Type} [Rg F]

theorem add_zero (a : F) : a + 0 = a := by rw [add_comm, zero_add]
theorem add_neg (a : F) : a + -a = 0 := by rw [add_comm, neg_add]
theorem mul_one (a : F) : a * 1 = a := by rw [mul_comm, one_mul]
theorem mul_add (a b c : F) : a * (b + c) = a * b + a * c := by rw [mul_comm, add_mul, mul_comm b, mul_comm c]
theorem add_left {a b c : F} (h : a + b = a + c) : b = c := by
  have := congrArg (fun x => -a + x) h
  simpa only [← add_assoc, neg_add, zero_add] using this
theorem zero_mul (a : F) : 0 * a = 0 := by
  have h : 0 * a + 0 * a = 0 * a + 0 := by rw [← add_mul, add_zero, add_zero]
  exact add_left h
theorem mul_zero (a : F) : a * 0 = 0 := by rw [mul_comm, zero_mul]
theorem neg_eq {a b : F} (h : a + b = 0) : -a = b := by
  have : -a + (a + b) = -a + 0 := by rw [h]
  rw [← add_assoc, neg_add, zero_add, add_zero] at this
  exact this.symm
theorem neg_mul (a b : F) : -a * b = -(a * b) := by
  refine (neg_eq ?_).symm
  rw [← add_mul, add_neg, zero_mul]
theorem mul_neg (a b : F) : a * -b = -(a * b) := by rw [mul_comm, neg_mul, mul_comm]
theorem neg_neg (a : F) : - -a = a := neg_eq (neg_add a)
theorem neg_zero : -(0 : F) = 0 := neg_eq (zero_add 0)
theorem neg_add_rev (a b : F) : -(a + b) = -a + -b := by
  refine neg_eq ?_
  rw [add_assoc, ← add_assoc b, add_comm b, add_assoc (-a), add_neg, add_zero, add_neg]
theorem sub_self (a : F) : a - a = 0 := by rw [sub_def, add_neg]
theorem eq_of_sub {a b : F} (h : a - b = 0) : a = b := by
  rw [sub_def, add_comm] at h
  have := neg_eq h
  rw [neg_neg] at this
  exact this.symm
theorem sub_of_eq {a b : F} (h : a = b) : a - b = 0 := by rw [h, sub_self]
theorem add_add_add (a b c d : F) : a + b + (c + d) = a + c + (b + d) := by
  rw [add_assoc, add_assoc, ← add_assoc b, add_comm b c, add_assoc c]

/-- Natural numbers. -/
def nc : Nat → F
  | 0 => 0
  | n + 1 => nc n + 1
theorem nc_add (m n : Nat) : nc (m + n) = (nc m + nc n : F) := by
  induction n with
  | zero => exact (add_zero _).symm
  | succ n ih => show nc (m + n) + 1 = nc m + (nc n + 1); rw [ih, add_assoc]
theorem nc_mul (m n : Nat) : nc (m * n) = (nc m * nc n : F) := by
  induction n with
  | zero => exact (mul_zero _).symm
  | succ n ih => show nc (m * n + m) = nc m * (nc n + 1); rw [nc_add, ih, mul_add, mul_one]
/-- Integers. -/
def ic (a : Int) : F := nc a.toNat + -nc (-a).toNat
theorem ic_of {a : Int} {x y : Nat} (h : a = (x : Int) - y) : ic a = (nc x + -nc y : F) := by
  unfold ic
  have e : a.toNat + y = x + (-a).toNat := by omega
  have e2 : (nc a.toNat + nc y : F) = nc x + nc (-a).toNat := by rw [← nc_add, ← nc_add, e]
  generalize (nc a.toNat : F) = p at *
  generalize (nc (-a).toNat : F) = q at *
  generalize (nc x : F) = u at *
  generalize (nc y : F) = v at *
  have : p = u + q + -v := by rw [← e2, add_assoc, add_neg, add_zero]
  rw [this, add_assoc, add_assoc, add_comm (-v), ← add_assoc q, add_neg, zero_add]
theorem ic_split (a : Int) : a = (a.toNat : Int) - ((-a).toNat : Nat) := by omega
theorem ic_add (a b : Int) : ic (a + b) = (ic a + ic b : F) := by
  rw [ic_of (a := a + b) (x := a.toNat + b.toNat) (y := (-a).toNat + (-b).toNat) (by omega), nc_add, nc_add, neg_add_rev]
  exact add_add_add _ _ _ _
theorem ic_mul (a b : Int) : ic (a * b) = (ic a * ic b : F) := by
  have h : a * b = ((a.toNat * b.toNat + (-a).toNat * (-b).toNat : Nat) : Int) - ((a.toNat * (-b).toNat + (-a).toNat * b.toNat : Nat) : Int) := by
    conv => lhs; rw [ic_split a, ic_split b]
    simp only [Int.natCast_add, Int.natCast_mul, Int.sub_mul, Int.mul_sub]
    omega
  rw [ic_of h]
  unfold ic
  generalize hp : (nc a.toNat : F) = p
  generalize hq : (nc (-a).toNat : F) = q
  generalize hu : (nc b.toNat : F) = u
  generalize hv : (nc (-b).toNat : F) = v
  rw [nc_add, nc_add, nc_mul, nc_mul, nc_mul, nc_mul, hp, hq, hu, hv, add_mul, mul_add, mul_add, mul_neg, neg_mul, neg_mul, mul_neg, neg_neg, neg_add_rev]
  rw [add_add_add (p * u) (q * v), add_comm (q * v)]
theorem ic_one : ic 1 = (1 : F) := by
  show (0 + 1 : F) + -0 = 1
  rw [zero_add, neg_zero, add_zero]
theorem ic_zero : ic 0 = (0 : F) := by
  show (0 : F) + -0 = 0
  rw [zero_add, neg_zero]
theorem ic_neg_one : ic (-1) = (-1 : F) := by
  show (0 : F) + -(0 + 1) = -1
  rw [zero_add, zero_add]
end Rg

/-- Expressions. -/
inductive PE
  | v (i : Nat)
  | one
  | zero
  | add (a b : PE)
  | mul (a b : PE)
  | sub (a b : PE)
  | neg (a : PE)
instance : Add PE := ⟨.add⟩
instance : Mul PE := ⟨.mul⟩
instance : Sub PE := ⟨.sub⟩
instance : Neg PE := ⟨.neg⟩
instance : One PE := ⟨.one⟩
instance : Zero PE := ⟨.zero⟩

def nth {F : Type} [Zero F] : List F → Nat → F
  | [], _ => 0
  | x :: _, 0 => x
  | _ :: l, n + 1 => nth l n
def PE.ev {F : Type} [Rg F] (l : List F) : PE → F
  | .v i => nth l i
  | .one => 1
  | .zero => 0
  | .add a b => a.ev l + b.ev l
  | .mul a b => a.ev l * b.ev l
  | .sub a b => a.ev l - b.ev l
  | .neg a => -a.ev l

abbrev Mo := List Nat
abbrev Po := List (Mo × Int)
def insM (i : Nat) : Mo → Mo
  | [] => [i]
  | j :: l => match Nat.ble i j with
    | true => i :: j :: l
    | false => j :: insM i l
def mulM : Mo → Mo → Mo
  | [], m => m
  | i :: l, m => insM i (mulM l m)
def eqM : Mo → Mo → Bool
  | [], [] => true
  | i :: l, j :: m => match Nat.beq i j with
    | true => eqM l m
    | false => false
  | _, _ => false
def ltM : Mo → Mo → Bool
  | [], [] => false
  | [], _ => true
  | _, [] => false
  | i :: l, j :: m => match Nat.beq i j with
    | true => ltM l m
    | false => Nat.blt i j
def addT (m : Mo) (c : Int) : Po → Po
  | [] => [(m, c)]
  | t :: p => match eqM m t.1 with
    | true => (m, c + t.2) :: p
    | false => match ltM m t.1 with
      | true => (m, c) :: t :: p
      | false => t :: addT m c p
def addP : Po → Po → Po
  | [], q => q
  | t :: p, q => addT t.1 t.2 (addP p q)
def mulT (m : Mo) (c : Int) : Po → Po → Po
  | [], acc => acc
  | t :: q, acc => addT (mulM m t.1) (c * t.2) (mulT m c q acc)
def mulP : Po → Po → Po
  | [], _ => []
  | t :: p, q => mulT t.1 t.2 q (mulP p q)
def scP (c : Int) : Po → Po
  | [] => []
  | t :: p => (t.1, c * t.2) :: scP c p
def PE.nf : PE → Po
  | .v i => [([i], 1)]
  | .one => [([], 1)]
  | .zero => []
  | .add a b => addP a.nf b.nf
  | .mul a b => mulP a.nf b.nf
  | .sub a b => addP (scP (-1) b.nf) a.nf
  | .neg a => scP (-1) a.nf
def isZ : Po → Bool
  | [] => true
  | t :: p => match t.2 with
    | .ofNat 0 => isZ p
    | _ => false

section
variable {F : Type} [Rg F] (l : List F)
open Rg
def evM : Mo → F
  | [] => 1
  | i :: m => nth l i * evM m
def evP : Po → F
  | [] => 0
  | t :: p => ic t.2 * evM l t.1 + evP p
theorem insM_ev (i : Nat) : ∀ m : Mo, evM l (insM i m) = nth l i * evM l m := by
  intro m
  induction m with
  | nil => rfl
  | cons j m ih =>
    unfold insM
    split
    · rfl
    · show nth l j * evM l (insM i m) = nth l i * (nth l j * evM l m)
      rw [ih, ← mul_assoc, ← mul_assoc, mul_comm (nth l j)]
theorem mulM_ev : ∀ a m : Mo, evM l (mulM a m) = evM l a * evM l m := by
  intro a
  induction a with
  | nil => intro m; exact (one_mul _).symm
  | cons i a ih => intro m; show evM l (insM i (mulM a m)) = nth l i * evM l a * evM l m; rw [insM_ev, ih, mul_assoc]
theorem eqM_eq : ∀ {a b : Mo}, eqM a b = true → a = b := by
  intro a
  induction a with
  | nil => intro b h; cases b with
    | nil => rfl
    | cons j m => simp [eqM] at h
  | cons i a ih => intro b h; cases b with
    | nil => simp [eqM] at h
    | cons j m =>
      unfold eqM at h
      split at h
      · rename_i hb; rw [Nat.eq_of_beq_eq_true hb, ih h]
      · cases h
theorem addT_ev (m : Mo) (c : Int) : ∀ p : Po, evP l (addT m c p) = ic c * evM l m + evP l p := by
  intro p
  induction p with
  | nil => rfl
  | cons t p ih =>
    unfold addT
    split
    · rename_i h
      show ic (c + t.2) * evM l m + evP l p = ic c * evM l m + (ic t.2 * evM l t.1 + evP l p)
      rw [eqM_eq h, ic_add, add_mul, add_assoc]
    · split
      · rfl
      · show ic t.2 * evM l t.1 + evP l (addT m c p) = ic c * evM l m + (ic t.2 * evM l t.1 + evP l p)
        rw [ih, ← add_assoc, ← add_assoc, add_comm (ic t.2 * evM l t.1)]
theorem addP_ev : ∀ p q : Po, evP l (addP p q) = evP l p + evP l q := by
  intro p
  induction p with
  | nil => intro q; exact (zero_add _).symm
  | cons t p ih => intro q; show evP l (addT t.1 t.2 (addP p q)) = _; rw [addT_ev, ih]; exact (add_assoc _ _ _).symm
theorem mulT_ev (m : Mo) (c : Int) : ∀ q acc : Po, evP l (mulT m c q acc) = ic c * evM l m * evP l q + evP l acc := by
  intro q
  induction q with
  | nil => intro acc; show evP l acc = ic c * evM l m * 0 + evP l acc; rw [mul_zero, zero_add]
  | cons t q ih =>
    intro acc
    show evP l (addT (mulM m t.1) (c * t.2) (mulT m c q acc)) = ic c * evM l m * (ic t.2 * evM l t.1 + evP l q) + evP l acc
    rw [addT_ev, ih, mulM_ev, ic_mul, mul_add, add_assoc]
    congr 1
    rw [mul_assoc, mul_assoc, ← mul_assoc (ic t.2), mul_comm (ic t.2), mul_assoc (evM l m)]
theorem mulP_ev : ∀ p q : Po, evP l (mulP p q) = evP l p * evP l q := by
  intro p
  induction p with
  | nil => intro q; exact (zero_mul _).symm
  | cons t p ih => intro q; show evP l (mulT t.1 t.2 q (mulP p q)) = (ic t.2 * evM l t.1 + evP l p) * evP l q; rw [mulT_ev, ih, add_mul]
theorem scP_ev (c : Int) : ∀ p : Po, evP l (scP c p) = ic c * evP l p := by
  intro p
  induction p with
  | nil => exact (mul_zero _).symm
  | cons t p ih => show ic (c * t.2) * evM l t.1 + evP l (scP c p) = ic c * (ic t.2 * evM l t.1 + evP l p); rw [ih, ic_mul, mul_add, mul_assoc]
theorem nf_ev : ∀ e : PE, evP l e.nf = e.ev l := by
  intro e
  induction e with
  | v i => show ic 1 * (nth l i * 1) + 0 = nth l i; rw [ic_one, add_zero, one_mul, mul_one]
  | one => show ic 1 * 1 + 0 = (1 : F); rw [ic_one, add_zero, one_mul]
  | zero => rfl
  | add a b iha ihb => show evP l (addP a.nf b.nf) = a.ev l + b.ev l; rw [addP_ev, iha, ihb]
  | mul a b iha ihb => show evP l (mulP a.nf b.nf) = a.ev l * b.ev l; rw [mulP_ev, iha, ihb]
  | sub a b iha ihb => show evP l (addP (scP (-1) b.nf) a.nf) = a.ev l - b.ev l; rw [addP_ev, scP_ev, iha, ihb, ic_neg_one, neg_mul, one_mul, sub_def, add_comm]
  | neg a iha => show evP l (scP (-1) a.nf) = -a.ev l; rw [scP_ev, iha, ic_neg_one, neg_mul, one_mul]
theorem isZ_ev : ∀ {p : Po}, isZ p = true → evP l p = 0 := by
  intro p
  induction p with
  | nil => intro _; rfl
  | cons t p ih =>
    intro h
    obtain ⟨m, c⟩ := t
    unfold isZ at h
    split at h
    · rename_i hc
      have hc : c = 0 := hc
      show ic c * evM l m + evP l p = 0
      rw [hc, ic_zero, zero_mul, zero_add, ih h]
    · cases h
/-- An identity, by computation. -/
theorem rid (a b : PE) (h : isZ (PE.nf (.sub a b)) = true) : a.ev l = b.ev l := by
  have := isZ_ev l h
  rw [nf_ev] at this
  exact eq_of_sub this
end

/-- Fields. -/
class Fd (F : Type) extends Rg F where
  deq : DecidableEq F
  inv : F → F
  mul_inv : ∀ a : F, a ≠ 0 → a * inv a = 1
  one_ne : (1 : F) ≠ 0
  two_ne : (1 + 1 : F) ≠ 0
  three_ne : (1 + 1 + 1 : F) ≠ 0
attribute [instance_reducible, instance] Fd.deq

namespace Fd
open Rg
variable {F : Type} [Fd F]
theorem mul_eq_zero {a b : F} (h : a * b = 0) : a = 0 ∨ b = 0 := by
  by_cases ha : a = 0
  · exact .inl ha
  · right
    have : inv a * (a * b) = 0 := by rw [h, mul_zero]
    rwa [← mul_assoc, mul_comm (inv a), mul_inv a ha, one_mul] at this
theorem mul_ne {a b : F} (ha : a ≠ 0) (hb : b ≠ 0) : a * b ≠ 0 := fun h => (mul_eq_zero h).elim ha hb
theorem mul_left {a b c : F} (ha : a ≠ 0) (h : a * b = a * c) : b = c := by
  have : inv a * (a * b) = inv a * (a * c) := by rw [h]
  rwa [← mul_assoc, ← mul_assoc, mul_comm (inv a), mul_inv a ha, one_mul, one_mul] at this
theorem double_eq_zero {a : F} (h : a + a = 0) : a = 0 := by
  have : (1 + 1) * a = 0 := by rw [add_mul, one_mul]; exact h
  exact (mul_eq_zero this).resolve_left two_ne
theorem sub_ne {a b : F} (h : a ≠ b) : a - b ≠ 0 := fun e => h (eq_of_sub e)
end Fd
end Cr
