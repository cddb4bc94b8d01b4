/- The numbers modulo a prime are a field. No program here. -/
import Derived.Test.YtkfghpniaahjjaaJac
import Derived.Test.YtkfghpniaahjjaaPrmP
import Derived.Test.YtkfghpniaahjjaaPow
import Derived.Test.YtkfghpniaahjjaaMd
namespace Cr

section
variable {M : Int} [Md M]
instance rgZm : Rg (Zm M) where
  add_comm a b := Zm.ext (by simp only [add_v, Int.add_comm])
  add_assoc a b c := by rw [← zm_self a, ← zm_self b, ← zm_self c]; simp only [zm_add, Int.add_assoc]
  zero_add a := by rw [← zm_self a, ← zm_zero]; simp only [zm_add, Int.zero_add]
  neg_add a := by rw [← zm_self a, ← zm_zero]; simp only [zm_add, zm_neg]; congr 1; omega
  sub_def a b := by rw [← zm_self a, ← zm_self b]; simp only [zm_add, zm_neg, zm_sub]; congr 1
  mul_comm := mul_comm'
  mul_assoc := mul_assoc'
  one_mul := one_mul'
  add_mul := add_mul'

theorem zpow_v (x : Zm M) (n : Nat) : (zpow x n).v = x.v ^ n % M := by
  induction n with
  | zero => show (1 : Zm M).v = _; rw [one_v, Int.pow_zero, Int.emod_eq_of_lt (by omega) Md.gt]
  | succ n ih => show (zpow x n * x).v = _; rw [mul_v, ih, Int.pow_succ, Int.mul_emod, Int.emod_emod, ← Int.mul_emod]

theorem zm_fermat {P : Nat} (hM : M = (P : Int)) (hp : Prm P) {x : Zm M} (hx : x ≠ 0) {n : Nat} (hn : n + 2 = P) : x * zpow x n = 1 := by
  obtain ⟨a, ha⟩ := Int.eq_ofNat_of_zero_le x.nn
  have hna : ¬ P ∣ a := by
    intro hd
    have hlt : a < P := by have := x.lt; omega
    have : a = 0 := Nat.eq_zero_of_dvd_of_lt hd hlt
    exact hx (Zm.ext (by rw [zero_v, ha, this]; rfl))
  have hf := hp.fermat' hna
  refine Zm.ext ?_
  rw [mul_v, zpow_v, one_v, Int.mul_emod, Int.emod_emod, ← Int.mul_emod, Int.mul_comm, ← Int.pow_succ, ha, hM, ← Int.natCast_pow]
  have e : P - 1 = n + 1 := by omega
  rw [e] at hf
  rw [← Int.natCast_emod, hf]
  rfl
end

theorem Mp_nat : Mp = ((4002409555221667393417789825735904156556882819939007885332058136124031650490837864442687629129015664037894272559787 : Nat) : Int) := rfl
theorem Mr_nat : Mr = ((52435875175126190479447740508185965837690552500527637822603658699938581184513 : Nat) : Int) := rfl
theorem zpw_inv {x : Fp} (hx : x ≠ 0) : x * zpw x 4002409555221667393417789825735904156556882819939007885332058136124031650490837864442687629129015664037894272559785 = 1 := by
  rw [zpw_eq]
  exact zm_fermat Mp_nat prm_p hx (of_decide_eq_true (by kernel_rfl))
theorem zpw_inv_r {x : Fr} (hx : x ≠ 0) : x * zpw x 52435875175126190479447740508185965837690552500527637822603658699938581184511 = 1 := by
  rw [zpw_eq]
  exact zm_fermat Mr_nat prm_r hx (of_decide_eq_true (by kernel_rfl))

noncomputable instance fdFp : Fd Fp where
  deq := inferInstance
  inv x := zpw x 4002409555221667393417789825735904156556882819939007885332058136124031650490837864442687629129015664037894272559785
  mul_inv _ h := zpw_inv h
  one_ne := by decide
  two_ne := by decide
  three_ne := by decide
noncomputable instance fdFr : Fd Fr where
  deq := inferInstance
  inv x := zpw x 52435875175126190479447740508185965837690552500527637822603658699938581184511
  mul_inv _ h := zpw_inv_r h
  one_ne := by decide
  two_ne := by decide
  three_ne := by decide
end Cr
