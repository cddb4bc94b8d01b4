/- The two moduli are prime: certificates, printed by a program. No program under proof here. -/
import Derived.Test.YtkfghpniaahjjaaPrm
namespace Cr
set_option maxRecDepth 100000
theorem pock_fin {K d n : Nat} (hd : 1 < d) (h : K ∣ d - 1) (hdd : d * d ≤ n) (hK : n < K * K) : False := by
  have hle := Nat.le_of_dvd (by omega) h
  have : K * K ≤ d * d := Nat.mul_le_mul (by omega) (by omega)
  omega
theorem prm_421987 : Prm 421987 := trial (f := 10) (by decide) (by decide) (by kernel_rfl)
theorem prm_13090036741 : Prm 13090036741 := by
  refine Classical.byContradiction fun hp => ?_
  obtain ⟨d, hd, hdn, hdd⟩ := small_prime (n := 13090036741) (by decide) hp
  have h0 : 421987 ∣ d - 1 := pock (k := 31020) (a := 2) (f := 34) prm_421987 (by kernel_rfl) (of_decide_eq_true (by kernel_rfl)) (by kernel_rfl) (by kernel_rfl) hd hdn
  exact pock_fin hd.1 h0 hdd (of_decide_eq_true (by kernel_rfl))
theorem prm_755057 : Prm 755057 := trial (f := 10) (by decide) (by decide) (by kernel_rfl)
theorem prm_3819663927398918131021 : Prm 3819663927398918131021 := by
  refine Classical.byContradiction fun hp => ?_
  obtain ⟨d, hd, hdn, hdd⟩ := small_prime (n := 3819663927398918131021) (by decide) hp
  have h0 : 13090036741 ∣ d - 1 := pock (k := 291799328220) (a := 2) (f := 72) prm_13090036741 (by kernel_rfl) (of_decide_eq_true (by kernel_rfl)) (by kernel_rfl) (by kernel_rfl) hd hdn
  have h1 : 755057 ∣ d - 1 := pock (k := 5058775598926860) (a := 2) (f := 72) prm_755057 (by kernel_rfl) (of_decide_eq_true (by kernel_rfl)) (by kernel_rfl) (by kernel_rfl) hd hdn
  have g1 : 13090036741 * 755057 ∣ d - 1 := Nat.Coprime.mul_dvd_of_dvd_of_dvd (show Nat.gcd 13090036741 755057 = 1 by kernel_rfl) h0 h1
  rw [show 13090036741 * 755057 = 9883723871549237 by kernel_rfl] at g1
  exact pock_fin hd.1 g1 hdd (of_decide_eq_true (by kernel_rfl))
theorem prm_1125266252156850182658904441386709967 : Prm 1125266252156850182658904441386709967 := by
  refine Classical.byContradiction fun hp => ?_
  obtain ⟨d, hd, hdn, hdd⟩ := small_prime (n := 1125266252156850182658904441386709967) (by decide) hp
  have h0 : 3819663927398918131021 ∣ d - 1 := pock (k := 294598235223046) (a := 2) (f := 120) prm_3819663927398918131021 (by kernel_rfl) (of_decide_eq_true (by kernel_rfl)) (by kernel_rfl) (by kernel_rfl) hd hdn
  exact pock_fin hd.1 h0 hdd (of_decide_eq_true (by kernel_rfl))
theorem prm_15778400344354997994418419698270088123916926905054652752758194827714659 : Prm 15778400344354997994418419698270088123916926905054652752758194827714659 := by
  refine Classical.byContradiction fun hp => ?_
  obtain ⟨d, hd, hdn, hdd⟩ := small_prime (n := 15778400344354997994418419698270088123916926905054652752758194827714659) (by decide) hp
  have h0 : 1125266252156850182658904441386709967 ∣ d - 1 := pock (k := 14021926201120671579994175730661374) (a := 2) (f := 234) prm_1125266252156850182658904441386709967 (by kernel_rfl) (of_decide_eq_true (by kernel_rfl)) (by kernel_rfl) (by kernel_rfl) hd hdn
  exact pock_fin hd.1 h0 hdd (of_decide_eq_true (by kernel_rfl))
theorem prm_p : Prm 4002409555221667393417789825735904156556882819939007885332058136124031650490837864442687629129015664037894272559787 := by
  refine Classical.byContradiction fun hp => ?_
  obtain ⟨d, hd, hdn, hdd⟩ := small_prime (n := 4002409555221667393417789825735904156556882819939007885332058136124031650490837864442687629129015664037894272559787) (by decide) hp
  have h0 : 15778400344354997994418419698270088123916926905054652752758194827714659 ∣ d - 1 := pock (k := 253663835868735594330404923636534084567099854) (a := 2) (f := 381) prm_15778400344354997994418419698270088123916926905054652752758194827714659 (by kernel_rfl) (of_decide_eq_true (by kernel_rfl)) (by kernel_rfl) (by kernel_rfl) hd hdn
  exact pock_fin hd.1 h0 hdd (of_decide_eq_true (by kernel_rfl))
theorem prm_254760293 : Prm 254760293 := trial (f := 14) (by decide) (by decide) (by kernel_rfl)
theorem prm_52437899 : Prm 52437899 := trial (f := 13) (by decide) (by decide) (by kernel_rfl)
theorem prm_2529403 : Prm 2529403 := trial (f := 11) (by decide) (by decide) (by kernel_rfl)
theorem prm_2508409 : Prm 2508409 := trial (f := 11) (by decide) (by decide) (by kernel_rfl)
theorem prm_906349 : Prm 906349 := trial (f := 10) (by decide) (by decide) (by kernel_rfl)
theorem prm_859267 : Prm 859267 := trial (f := 10) (by decide) (by decide) (by kernel_rfl)
theorem prm_r : Prm 52435875175126190479447740508185965837690552500527637822603658699938581184513 := by
  refine Classical.byContradiction fun hp => ?_
  obtain ⟨d, hd, hdn, hdd⟩ := small_prime (n := 52435875175126190479447740508185965837690552500527637822603658699938581184513) (by decide) hp
  have h0 : 254760293 ∣ d - 1 := pock (k := 205824363591567193241718168805002771125288949563767528806397073424384) (a := 2) (f := 255) prm_254760293 (by kernel_rfl) (of_decide_eq_true (by kernel_rfl)) (by kernel_rfl) (by kernel_rfl) hd hdn
  have h1 : 52437899 ∣ d - 1 := pock (k := 999961405302035279473110478895921551656570994587857873989262207090688) (a := 2) (f := 255) prm_52437899 (by kernel_rfl) (of_decide_eq_true (by kernel_rfl)) (by kernel_rfl) (by kernel_rfl) hd hdn
  have h2 : 2529403 ∣ d - 1 := pock (k := 20730534112249487519168649878325425342537568153642435714120548880482304) (a := 2) (f := 255) prm_2529403 (by kernel_rfl) (of_decide_eq_true (by kernel_rfl)) (by kernel_rfl) (by kernel_rfl) hd hdn
  have h3 : 2508409 ∣ d - 1 := pock (k := 20904037250355181503274681484632675866531555460264908084209416686010368) (a := 2) (f := 255) prm_2508409 (by kernel_rfl) (of_decide_eq_true (by kernel_rfl)) (by kernel_rfl) (by kernel_rfl) hd hdn
  have h4 : 906349 ∣ d - 1 := pock (k := 57853956009358636109763171259841369977448590444219211167666824479244288) (a := 2) (f := 255) prm_906349 (by kernel_rfl) (of_decide_eq_true (by kernel_rfl)) (by kernel_rfl) (by kernel_rfl) hd hdn
  have h5 : 859267 ∣ d - 1 := pock (k := 61023960160376449321861238134579782346686830170980193377150127608692736) (a := 2) (f := 255) prm_859267 (by kernel_rfl) (of_decide_eq_true (by kernel_rfl)) (by kernel_rfl) (by kernel_rfl) hd hdn
  have g1 : 254760293 * 52437899 ∣ d - 1 := Nat.Coprime.mul_dvd_of_dvd_of_dvd (show Nat.gcd 254760293 52437899 = 1 by kernel_rfl) h0 h1
  rw [show 254760293 * 52437899 = 13359094513544407 by kernel_rfl] at g1
  have g2 : 13359094513544407 * 2529403 ∣ d - 1 := Nat.Coprime.mul_dvd_of_dvd_of_dvd (show Nat.gcd 13359094513544407 2529403 = 1 by kernel_rfl) g1 h2
  rw [show 13359094513544407 * 2529403 = 33790533739842763699021 by kernel_rfl] at g2
  have g3 : 33790533739842763699021 * 2508409 ∣ d - 1 := Nat.Coprime.mul_dvd_of_dvd_of_dvd (show Nat.gcd 33790533739842763699021 2508409 = 1 by kernel_rfl) g2 h3
  rw [show 33790533739842763699021 * 2508409 = 84760478947825247047497567589 by kernel_rfl] at g3
  have g4 : 84760478947825247047497567589 * 906349 ∣ d - 1 := Nat.Coprime.mul_dvd_of_dvd_of_dvd (show Nat.gcd 84760478947825247047497567589 906349 = 1 by kernel_rfl) g3 h4
  rw [show 84760478947825247047497567589 * 906349 = 76822575333882464836252372886722561 by kernel_rfl] at g4
  have g5 : 76822575333882464836252372886722561 * 859267 ∣ d - 1 := Nat.Coprime.mul_dvd_of_dvd_of_dvd (show Nat.gcd 76822575333882464836252372886722561 859267 = 1 by kernel_rfl) g4 h5
  rw [show 76822575333882464836252372886722561 * 859267 = 66011103839419183912452067693255434822787 by kernel_rfl] at g5
  exact pock_fin hd.1 g5 hdd (of_decide_eq_true (by kernel_rfl))
end Cr
