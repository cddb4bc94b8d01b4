/- Forms of numbers: what the words' operations come to. No program here. -/
import Derived.Test.YtkfghpniaahjjaaMd
namespace Cr
section
variable {M : Int} [Md M]

theorem times_enc (x y : Zm M) : lim (Md.n M) (val (enc x) * val (enc y) * Md.rinv M % M) = enc (x * y) := by
  rw [← enc_mul, dec_enc, dec_enc]

theorem val_enc_lt (x : Zm M) : 0 ≤ val (enc x) ∧ val (enc x) < M := ⟨val_nonneg (enc_ws x), (enc_canon x).2.2⟩

theorem val_lim_of {n : Nat} {a : Int} (h0 : 0 ≤ a) (h1 : a < pw n) : val (lim n a) = a := by
  rw [val_lim, Int.emod_eq_of_lt h0 h1]

theorem add_enc (x y : Zm M) : (if val (lim (Md.n M) (val (enc x) + val (enc y))) < M then lim (Md.n M) (val (enc x) + val (enc y)) else lim (Md.n M) (val (lim (Md.n M) (val (enc x) + val (enc y))) - M)) = enc (x + y) := by
  have hx := val_enc_lt x
  have hy := val_enc_lt y
  have hb := Md.big (M := M)
  have e : enc (x + y) = lim (Md.n M) ((val (enc x) + val (enc y)) % M) := by rw [← enc_add, dec_enc, dec_enc]
  rw [val_lim_of (by omega) (by omega), e]
  split
  · rename_i h; rw [Int.emod_eq_of_lt (by omega) h]
  · rename_i h; rw [← Int.sub_emod_right, Int.emod_eq_of_lt (by omega) (by omega)]

theorem lim_mod (n : Nat) (a : Int) : lim n (a % pw n) = lim n a := by
  have h1 := val_lim n a
  have h2 := val_lim n (a % pw n)
  rw [Int.emod_emod] at h2
  exact val_inj (lim_ws _ _) (lim_ws _ _) (by rw [lim_length, lim_length]) (by rw [h1, h2])

theorem sub_enc_lt {x y : Zm M} (h : val (enc x) < val (enc y)) : lim (Md.n M) (val (lim (Md.n M) (val (enc x) - val (enc y))) + M) = enc (x - y) := by
  have hx := val_enc_lt x
  have hy := val_enc_lt y
  have e : enc (x - y) = lim (Md.n M) ((val (enc x) - val (enc y)) % M) := by rw [← enc_sub, dec_enc, dec_enc]
  rw [e, val_lim, ← lim_mod _ (_ + M), Int.emod_add_emod, lim_mod]
  congr 1
  rw [← Int.add_emod_right, Int.emod_eq_of_lt (by omega) (by omega)]

theorem sub_enc_ge {x y : Zm M} (h : ¬ val (enc x) < val (enc y)) : lim (Md.n M) (val (enc x) - val (enc y)) = enc (x - y) := by
  have hx := val_enc_lt x
  have hy := val_enc_lt y
  have e : enc (x - y) = lim (Md.n M) ((val (enc x) - val (enc y)) % M) := by rw [← enc_sub, dec_enc, dec_enc]
  rw [e, Int.emod_eq_of_lt (by omega) (by omega)]

/-- The number itself, of its form: times 1. -/
theorem plain_enc (x : Zm M) {u : List Int} (hu : val u = 1) : lim (Md.n M) (val (enc x) * val u * Md.rinv M % M) = lim (Md.n M) x.v := by
  congr 1
  rw [hu, Int.mul_one, val_enc]
  show ((x.v * (pw (Md.n M) % M)) % M) * Md.rinv M % M = _
  have h := Md.inv (M := M)
  have : (x.v * (pw (Md.n M) % M) % M) * Md.rinv M % M = x.v * (pw (Md.n M) * Md.rinv M) % M := by
    rw [Int.mul_emod, Int.emod_emod, ← Int.mul_emod, Int.mul_assoc, Int.mul_emod, Int.mul_emod (pw (Md.n M) % M), Int.emod_emod, ← Int.mul_emod (pw (Md.n M)), ← Int.mul_emod]
  rw [this, Int.mul_emod, h, Int.mul_one, Int.emod_emod, v_mod]

/-- Any words, as a number: times against 2^(128 n). -/
theorem shift_enc {ys : List Int} : lim (Md.n M) (val (enc (R2 : Zm M)) * val ys * Md.rinv M % M) = enc (zm (val ys) : Zm M) := by
  rw [enc_zm, val_enc]
  congr 1
  have h := Md.inv (M := M)
  show ((pw (Md.n M) % M) * (pw (Md.n M) % M) % M) * val ys * Md.rinv M % M = _
  rw [← Int.mul_emod]
  have e : (pw (Md.n M) * pw (Md.n M) % M) * val ys * Md.rinv M % M = (pw (Md.n M) * pw (Md.n M)) * (val ys * Md.rinv M) % M := by
    rw [Int.mul_assoc, Int.mul_emod, Int.emod_emod, ← Int.mul_emod]
  rw [e, show pw (Md.n M) * pw (Md.n M) * (val ys * Md.rinv M) = (val ys * pw (Md.n M)) * (pw (Md.n M) * Md.rinv M) by
    rw [Int.mul_assoc, Int.mul_comm (val ys) (pw (Md.n M)), Int.mul_assoc, Int.mul_left_comm (pw (Md.n M)) (val ys)], Int.mul_emod, h, Int.mul_one, Int.emod_emod]

theorem enc_ne_lt {x y : Zm M} : (enc x = enc y) ↔ x = y := ⟨enc_inj, fun h => by rw [h]⟩

end
end Cr
