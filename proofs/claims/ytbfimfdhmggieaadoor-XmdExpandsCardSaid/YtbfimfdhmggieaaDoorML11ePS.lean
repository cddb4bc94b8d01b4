/- g1: points without a division. -/
import Derived.Test.YtbfimfdhmggieaaDoorProg
import Derived.KernelRfl
import Derived.Test.YtbfimfdhmggieaaDoorML11ePR
/- Words of 64 bits: the library's Mul64, Add64, Sub64. -/
namespace Go.Proofs.YtbfimfdhmggieaaDoor
open Go Go.Eng Go.RowKit Cr

theorem mixed : Tryd.prog.follows .mixedOrders = true := by kernel_rfl

theorem wrap_u64 {a : Int} (h0 : 0 ≤ a) (h1 : a < 18446744073709551616) : IntKind.u64.wrap a = a := by
  simp only [IntKind.wrap, IntKind.signed, IntKind.bits]
  simp only [Bool.false_and]
  exact Int.emod_eq_of_lt h0 (by simpa using h1)

end Go.Proofs.YtbfimfdhmggieaaDoor
/- Montgomery's product, in plain words. No program here. -/
namespace Cr

end Cr
/- Words of package cresset/fp: muladd, minus, plus, modulus, fit, times. Printed by gen_field.py. -/
namespace Go.Proofs.YtbfimfdhmggieaaDoor.fp
set_option maxRecDepth 100000
open Go Go.Eng Go.RowKit Cr Go.Proofs.YtbfimfdhmggieaaDoor

end Go.Proofs.YtbfimfdhmggieaaDoor.fp
/- Forms of numbers: what the words' operations come to. No program here. -/
namespace Cr
section
variable {M : Int} [Md M]

end
end Cr
/- Numbers of package cresset/fp: Mul, Square, Add, Sub, Neg, Zero, one, shift, Of. Printed by gen_el.py. -/
namespace Go.Proofs.YtbfimfdhmggieaaDoor.fp
set_option maxRecDepth 100000
open Go Go.Eng Go.RowKit Cr Go.Proofs.YtbfimfdhmggieaaDoor


end Go.Proofs.YtbfimfdhmggieaaDoor.fp
/- Words of package cresset/fr: muladd, minus, plus, modulus, fit, times. Printed by gen_field.py. -/
namespace Go.Proofs.YtbfimfdhmggieaaDoor.fr
set_option maxRecDepth 100000
open Go Go.Eng Go.RowKit Cr Go.Proofs.YtbfimfdhmggieaaDoor

end Go.Proofs.YtbfimfdhmggieaaDoor.fr
/- Numbers of package cresset/fr: Mul, Square, Add, Sub, Neg, Zero, one, shift, Of. Printed by gen_el.py. -/
namespace Go.Proofs.YtbfimfdhmggieaaDoor.fr
set_option maxRecDepth 100000
open Go Go.Eng Go.RowKit Cr Go.Proofs.YtbfimfdhmggieaaDoor


end Go.Proofs.YtbfimfdhmggieaaDoor.fr
/- shift and Of of both fields. -/
namespace Go.Proofs.YtbfimfdhmggieaaDoor.fp
set_option maxRecDepth 100000
open Go Go.Eng Go.RowKit Cr Go.Proofs.YtbfimfdhmggieaaDoor

end Go.Proofs.YtbfimfdhmggieaaDoor.fp

namespace Go.Proofs.YtbfimfdhmggieaaDoor.fr
set_option maxRecDepth 100000
open Go Go.Eng Go.RowKit Cr Go.Proofs.YtbfimfdhmggieaaDoor

end Go.Proofs.YtbfimfdhmggieaaDoor.fr
/- sha: rotations, one block. -/
namespace Go.Proofs.YtbfimfdhmggieaaDoor.sha
set_option maxRecDepth 100000
open Go Go.Eng Go.RowKit Cr Go.Proofs.YtbfimfdhmggieaaDoor
abbrev uK : Kd := .int .u32
abbrev bK : Kd := .int .u8
abbrev hashK : Kd := .pair (.arr 8 uK) (.pair (.arr 64 bK) (.int .i64))
def firstL : List Int := [1779033703, 3144134277, 1013904242, 2773480762, 1359893119, 2600822924, 528734635, 1541459225]
def rootsL : List Int := [1116352408, 1899447441, 3049323471, 3921009573, 961987163, 1508970993, 2453635748, 2870763221, 3624381080, 310598401, 607225278, 1426881987, 1925078388, 2162078206, 2614888103, 3248222580, 3835390401, 4022224774, 264347078, 604807628, 770255983, 1249150122, 1555081692, 1996064986, 2554220882, 2821834349, 2952996808, 3210313671, 3336571891, 3584528711, 113926993, 338241895, 666307205, 773529912, 1294757372, 1396182291, 1695183700, 1986661051, 2177026350, 2456956037, 2730485921, 2820302411, 3259730800, 3345764771, 3516065817, 3600352804, 4094571909, 275423344, 430227734, 506948616, 659060556, 883997877, 958139571, 1322822218, 1537002063, 1747873779, 1955562222, 2024104815, 2227730452, 2361852424, 2428436474, 2756734187, 3204031479, 3329325298]
/-- The package's variables. -/
def shaG : Glob := fun g => if g = 0 then some ⟨.arr 8 uK, firstL⟩ else if g = 1 then some ⟨.arr 64 uK, rootsL⟩ else none
theorem ent_rot : enters Tryd.prog 145 Tryd.f145 := enters_mk (by kernel_rfl) (by kernel_rfl) (by kernel_rfl)
def rotF (x k : Int) : Int := bitOp .or .u32 (IntKind.u32.wrap (x * 2 ^ min (bitOp .and .u64 (IntKind.u64.wrap k) 31).toNat IntKind.u32.bits)) (Int.fdiv x (2 ^ min (IntKind.u64.wrap (32 - bitOp .and .u64 (IntKind.u64.wrap k) 31)).toNat IntKind.u32.bits))
noncomputable def rot (x k : Int) : Int := opq (rotF x k)
theorem wrap_nn (x : Int) : 0 ≤ IntKind.u64.wrap x := by
  simp only [IntKind.wrap, IntKind.signed, IntKind.bits]
  simp
  omega
theorem fn_rot : FnOk Tryd.prog 145 [uK, .int .i64] [.val uK] noG (fun _ => True) (fun (x, k, _) => (rot x k, ())) := by
  refine fn_of_vc (sp := sps []) sps_nil mixed ent_rot (by decide) (by decide) ?_
  rintro w M0 ⟨x, k, ⟨⟩⟩
  revert x k
  intro (x : Int) (k : Int) _ _
  refine vcx (X := ((0 : Int) ≤ bitOp BinOp.and IntKind.u64 (IntKind.u64.wrap k) (31 : Int) ∧ (0 : Int) ≤ IntKind.u64.wrap ((32 : Int) - bitOp BinOp.and IntKind.u64 (IntKind.u64.wrap k) (31 : Int)) ∧ (bitOp BinOp.or IntKind.u32 (IntKind.u32.wrap (x * (2 : Int) ^ min (bitOp BinOp.and IntKind.u64 (IntKind.u64.wrap k) (31 : Int)).toNat IntKind.u32.bits)) (x.fdiv ((2 : Int) ^ min (IntKind.u64.wrap ((32 : Int) - bitOp BinOp.and IntKind.u64 (IntKind.u64.wrap k) (31 : Int))).toNat IntKind.u32.bits)), ()) = (rot x k, ()))) (by kernel_rfl) ?_
  refine ⟨?_, ?_, by show _ = (rot x k, ()); rw [rot, opq_eq]; rfl⟩
  · have h : (0 : Int) ≤ bitOp .and .u64 (IntKind.u64.wrap k) 31 := by
      show (0 : Int) ≤ IntKind.u64.wrap _
      exact wrap_nn _
    exact h
  · exact wrap_nn _
noncomputable def spRot : Nat × Eng.Spec := (145, fnSpec [uK, .int .i64] [.val uK] (fun _ => True) (fun (x, k, _) => (rot x k, ())))
theorem ent_take : enters Tryd.prog 135 Tryd.f135 := enters_mk (by kernel_rfl) (by kernel_rfl) (by kernel_rfl)
noncomputable abbrev TK : List Code := codeOf Tryd.f135
noncomputable def tkA (st rest p : List Int) (sz : Int) (g : Int × List Int) : St := mkSt Tryd.f135.ntmps 25 [(0, .is (.one (.ptr 0 0))), (3, .is (.one (.ptr 1 0))), (4, .is (.one (.ptr 9 0))), (23, sI .i64 g.1)] [(9, [.ints .u32 64 g.2]), (1, [.ints .u8 64 p]), (0, [.ints .u32 8 st, .ints .u8 64 rest, .v (.int .i64 sz)])]
noncomputable def tkB (st rest p : List Int) (sz : Int) (i : Nat) (g : Int × List Int) : St := mkSt Tryd.f135.ntmps 25 [(0, .is (.one (.ptr 0 0))), (3, .is (.one (.ptr 1 0))), (4, .is (.one (.ptr 9 0))), (5, sI .i64 i), (23, sI .i64 i), (26, sI .i64 g.1)] [(9, [.ints .u32 64 g.2]), (1, [.ints .u8 64 p]), (0, [.ints .u32 8 st, .ints .u8 64 rest, .v (.int .i64 sz)])]
/-- A byte more in a word. -/
def wB (p : List Int) (i j : Nat) (w : List Int) : List Int := w.set i (bitOp .or .u32 (IntKind.u32.wrap (w.getD i 0 * 2 ^ min (8 : Nat) IntKind.u32.bits)) (IntKind.u32.wrap (p.getD (4 * i + j) 0)))
def wBk (p : List Int) (i : Nat) (w : List Int) : Nat → List Int
  | 0 => w
  | j + 1 => wB p i j (wBk p i w j)
def wAk (p : List Int) : Nat → List Int
  | 0 => List.replicate 64 0
  | i + 1 => wBk p i (wAk p i) 4
theorem wBk_len (p : List Int) (i : Nat) (w : List Int) : ∀ j, (wBk p i w j).length = w.length
  | 0 => rfl
  | j + 1 => by show (wB p i j _).length = _; rw [wB, List.length_set, wBk_len p i w j]
theorem wAk_len (p : List Int) : ∀ i, (wAk p i).length = 64
  | 0 => List.length_replicate
  | i + 1 => by show (wBk p i (wAk p i) 4).length = _; rw [wBk_len, wAk_len p i]
noncomputable def tkC (st rest p : List Int) (sz : Int) (g : Int × List Int) : St := mkSt Tryd.f135.ntmps 25 [(0, .is (.one (.ptr 0 0))), (4, .is (.one (.ptr 9 0))), (45, sI .i64 g.1)] [(9, [.ints .u32 64 g.2]), (0, [.ints .u32 8 st, .ints .u8 64 rest, .v (.int .i64 sz)])]
noncomputable def tkD (st rest p : List Int) (sz : Int) (w : List Int) (g : Int × List Int) : St := mkSt Tryd.f135.ntmps 81 [(0, .is (.one (.ptr 0 0))), (4, .is (.one (.ptr 9 0))), (12, .is (.one (.ptr 57 0))), (92, sI .i64 g.1)] [(57, [.ints .u32 8 g.2]), (9, [.ints .u32 64 w]), (0, [.ints .u32 8 st, .ints .u8 64 rest, .v (.int .i64 sz)])]
noncomputable def sg0 (a : Int) : Int := bitOp .xor .u32 (bitOp .xor .u32 (rot a (-7)) (rot a (-18))) (a.fdiv (2 ^ min (3 : Nat) IntKind.u32.bits))
noncomputable def sg1 (a : Int) : Int := bitOp .xor .u32 (bitOp .xor .u32 (rot a (-17)) (rot a (-19))) (a.fdiv (2 ^ min (10 : Nat) IntKind.u32.bits))
/-- A word more. -/
noncomputable def wC (w : List Int) (i : Nat) : List Int := w.set (i + 16) (IntKind.u32.wrap (IntKind.u32.wrap (IntKind.u32.wrap (w.getD i 0 + sg0 (w.getD (i + 1) 0)) + w.getD (i + 9) 0) + sg1 (w.getD (i + 14) 0)))
noncomputable def wCk (w : List Int) : Nat → List Int
  | 0 => w
  | i + 1 => wC (wCk w i) i
theorem wCk_len (w : List Int) : ∀ i, (wCk w i).length = w.length
  | 0 => rfl
  | i + 1 => by show (wC _ i).length = _; rw [wC, List.length_set, wCk_len w i]
noncomputable def tkE (rest : List Int) (sz : Int) (w v : List Int) (g : Int × List Int) : St := mkSt Tryd.f135.ntmps 81 [(0, .is (.one (.ptr 0 0))), (12, .is (.one (.ptr 57 0))), (172, sI .i64 g.1)] [(57, [.ints .u32 8 v]), (0, [.ints .u32 8 g.2, .ints .u8 64 rest, .v (.int .i64 sz)])]
theorem eight : ∀ {v : List Int}, v.length = 8 → ∃ a b c d e f g h, v = [a, b, c, d, e, f, g, h]
  | [a, b, c, d, e, f, g, h], _ => ⟨a, b, c, d, e, f, g, h, rfl⟩
noncomputable def rT (w : List Int) (e f g h : Int) (i : Nat) : Int := IntKind.u32.wrap (IntKind.u32.wrap (h + bitOp .xor .u32 (bitOp .xor .u32 (rot e (-6)) (rot e (-11))) (rot e (-25))) + IntKind.u32.wrap (IntKind.u32.wrap (bitOp .xor .u32 (bitOp .and .u32 e f) (bitOp .and .u32 (bitOp .xor .u32 (if IntKind.u32.signed = true then (-1 : Int) else IntKind.u32.max) e) g) + rootsL.getD i 0) + w.getD i 0))
noncomputable def rU (a b c : Int) : Int := IntKind.u32.wrap (bitOp .xor .u32 (bitOp .xor .u32 (rot a (-2)) (rot a (-13))) (rot a (-22)) + bitOp .xor .u32 (bitOp .xor .u32 (bitOp .and .u32 a b) (bitOp .and .u32 a c)) (bitOp .and .u32 b c))
/-- A round. -/
noncomputable def vC (w : List Int) : List Int → Nat → List Int
  | [a, b, c, d, e, f, g, h], i => [IntKind.u32.wrap (rT w e f g h i + rU a b c), a, b, c, IntKind.u32.wrap (d + rT w e f g h i), e, f, g]
  | v, _ => v
noncomputable def vCk (w v : List Int) : Nat → List Int
  | 0 => v
  | i + 1 => vC w (vCk w v i) i
theorem vCk_len (w : List Int) {v : List Int} (hv : v.length = 8) : ∀ i, (vCk w v i).length = 8
  | 0 => hv
  | i + 1 => by
    obtain ⟨a, b, c, d, e, f, g, h, e1⟩ := eight (vCk_len w hv i)
    show (vC w (vCk w v i) i).length = 8
    rw [e1]; rfl
def fCk (v s : List Int) : Nat → List Int
  | 0 => s
  | i + 1 => (fCk v s i).set i (IntKind.u32.wrap ((fCk v s i).getD i 0 + v.getD i 0))
theorem fCk_len (v s : List Int) : ∀ i, (fCk v s i).length = s.length
  | 0 => rfl
  | i + 1 => by show (List.set _ _ _).length = _; rw [List.length_set, fCk_len v s i]
/-- A block laid over a state. -/
noncomputable def takeF (st p : List Int) : List Int := fCk (vCk (wCk (wAk p 16) 48) st 64) st 8
noncomputable def tko (st p : List Int) : List Int := opq (takeF st p)
theorem tko_len (st p : List Int) : (tko st p).length = st.length := by rw [tko, opq_eq, takeF, fCk_len]
theorem fn_take : FnOkP Tryd.prog 135 hashK [.arr 64 bK] [] shaG (fun _ => True) (fun ((st, rest, sz), p, _) => ((tko st p, rest, sz), ())) := by
  have hsp : SpecsOk Tryd.prog (sps [spRot]) := sps_cons (fnSpec_ok fn_rot) sps_nil
  refine fn_of_trP (sp := sps [spRot]) ent_take (by decide) (by decide) (by kernel_rfl) ?_
  rintro w M0 b0 ⟨st, rest, sz⟩ ⟨p, ⟨⟩⟩
  revert st rest sz p
  intro (st : List Int) (rest : List Int) (sz : Int) (p : List Int) hw hw2 _
  have hst : st.length = 8 := hw.1.1
  have hp : p.length = 64 := hw2.1.1
  show Tr _ _ _ _ _ _ _
  refine tr_cut hsp mixed 3 (tkA st rest p sz (0, List.replicate 64 0)) True ?_ (fun _ => ?_)
  · refine vcx (X := ((tkA st rest p sz ((0 : Int), List.replicate (64 : Nat) (0 : Int))).triv True)) (by kernel_rfl) ?_
    exact triv_intro trivial
  refine tr_whileT noSw (fun σ => (rdS (.int .i64) 23 σ, rdR uK 9 σ)) (tkA st rest p sz) (fun g => ∃ k : Nat, k ≤ 16 ∧ g.1 = (k : Int) ∧ g.2 = wAk p k) (fun g => 16 - g.1.toNat)
    (fun σ => (rdS (.int .i64) 23 σ, rdR uK 9 σ)) (tkA st rest p sz) (fun g => g.2 = wAk p 16) (0, List.replicate 64 0) (c := nthC TK 3) (by kernel_rfl) (by kernel_rfl) (le_of_proj (by kernel_rfl) (by kernel_rfl) ?_) ?_ ?_
  · exact ⟨0, by decide, rfl, rfl⟩
  · rintro ⟨i, wl⟩ hj
    revert i wl
    intro (i : Int) (wl : List Int) ⟨k, hk, ei, ew⟩
    have ei : i = (k : Int) := ei
    have kw : wl = wAk p k := ew
    subst ei
    refine tr_cut hsp mixed 2 (tkA st rest p sz ((k : Int), wl)) (k < 16) ?_ (fun hlt => ?_)
    · refine vcx (X := ((decide ((↑k : Int) < (16 : Int)) = true → (tkA st rest p sz ((↑k : Int), wl)).triv (k < (16 : Nat))) ∧ (decide ((↑k : Int) < (16 : Int)) = false → (tkA st rest p sz ((↑k : Int), wl)).triv (wl = wAk p (16 : Nat))))) (by kernel_rfl) ?_
      refine ⟨fun h => triv_intro (by have := of_decide_eq_true h; omega), fun h => triv_intro ?_⟩
      have : k = 16 := by have := of_decide_eq_false h; omega
      rw [kw, this]
    refine tr_block (c := nthC (loopOf (nthC (codeOf Tryd.f135) 3)) 2) (by kernel_rfl) (by kernel_rfl) ?_
    refine tr_cut hsp mixed 2 (tkB st rest p sz k (0, wl)) True ?_ (fun _ => ?_)
    · refine vcx (X := ((tkB st rest p sz k ((0 : Int), wl)).triv True)) (by kernel_rfl) ?_
      exact triv_intro trivial
    refine tr_while hsp mixed noSw (fun σ => (rdS (.int .i64) 26 σ, rdR uK 9 σ)) (tkB st rest p sz k) (fun g => ∃ j : Nat, j ≤ 4 ∧ g.1 = (j : Int) ∧ g.2 = wBk p k wl j) (fun g => 4 - g.1.toNat)
      (fun σ => rdR uK 9 σ) (fun w => tkA st rest p sz ((k : Int), w)) (fun w => w = wBk p k wl 4) (0, wl) (c := nthC (bodyOf (nthC (loopOf (nthC (codeOf Tryd.f135) 3)) 2)) 2) (by kernel_rfl) (by kernel_rfl) (le_of_proj (by kernel_rfl) (by kernel_rfl) ?_) ?_ ?_
    · exact ⟨0, by decide, rfl, rfl⟩
    · rintro ⟨j, wj⟩ hj
      revert j wj
      intro (j : Int) (wj : List Int) ⟨t, ht, ej, ewj⟩
      have ej : j = (t : Int) := ej
      have kwj : wj = wBk p k wl t := ewj
      subst ej
      refine vcx (X := ((decide ((↑t : Int) < (4 : Int)) = true → ((0 : Int) ≤ (↑k : Int) ∧ (↑k : Int) < (↑(64 : Nat) : Int)) ∧ (↑k : Int).toNat < (64 : Nat) ∧ (0 : Int) ≤ (8 : Int) ∧ ((0 : Int) ≤ IntKind.i64.wrap (IntKind.i64.wrap ((4 : Int) * (↑k : Int)) + (↑t : Int)) ∧ IntKind.i64.wrap (IntKind.i64.wrap ((4 : Int) * (↑k : Int)) + (↑t : Int)) < (↑(64 : Nat) : Int)) ∧ (IntKind.i64.wrap (IntKind.i64.wrap ((4 : Int) * (↑k : Int)) + (↑t : Int))).toNat < (64 : Nat) ∧ ((0 : Int) ≤ (↑k : Int) ∧ (↑k : Int) < (↑(64 : Nat) : Int)) ∧ (↑k : Int).toNat < (64 : Nat) ∧ (tkB st rest p sz k (IntKind.i64.wrap ((↑t : Int) + (1 : Int)), wj.set (↑k : Int).toNat (bitOp BinOp.or IntKind.u32 (IntKind.u32.wrap (wj.getD (↑k : Int).toNat (0 : Int) * (2 : Int) ^ min (8 : Nat) IntKind.u32.bits)) (IntKind.u32.wrap (p.getD (IntKind.i64.wrap (IntKind.i64.wrap ((4 : Int) * (↑k : Int)) + (↑t : Int))).toNat (0 : Int)))))).triv ((∃ j, j ≤ (4 : Nat) ∧ IntKind.i64.wrap ((↑t : Int) + (1 : Int)) = (↑j : Int) ∧ wj.set (↑k : Int).toNat (bitOp BinOp.or IntKind.u32 (IntKind.u32.wrap (wj.getD (↑k : Int).toNat (0 : Int) * (2 : Int) ^ min (8 : Nat) IntKind.u32.bits)) (IntKind.u32.wrap (p.getD (IntKind.i64.wrap (IntKind.i64.wrap ((4 : Int) * (↑k : Int)) + (↑t : Int))).toNat (0 : Int)))) = wBk p k wl j) ∧ (4 : Nat) - (IntKind.i64.wrap ((↑t : Int) + (1 : Int))).toNat < (4 : Nat) - (↑t : Int).toNat)) ∧ (decide ((↑t : Int) < (4 : Int)) = false → (tkA st rest p sz ((↑k : Int), wj)).triv (wj = wBk p k wl (4 : Nat))))) (by kernel_rfl) ?_
      refine ⟨fun h => ?_, fun h => triv_intro ?_⟩
      · have h4 : t < 4 := by have := of_decide_eq_true h; omega
        have e1 : IntKind.i64.wrap (IntKind.i64.wrap ((4 : Int) * (k : Int)) + (t : Int)) = ((4 * k + t : Nat) : Int) := by
          rw [wrap_i64' (a := 4 * (k : Int)) (by omega) (by omega), wrap_i64' (by omega) (by omega)]; omega
        rw [e1, wrap_succ (by omega), Int.toNat_natCast, Int.toNat_natCast]
        exact ⟨⟨by omega, by omega⟩, by omega, by decide, ⟨by omega, by omega⟩, by omega, ⟨by omega, by omega⟩, by omega, triv_intro ⟨⟨t + 1, h4, rfl, by rw [kwj]; rfl⟩, by rw [Int.toNat_natCast, Int.toNat_natCast]; omega⟩⟩
      · have : t = 4 := by have := of_decide_eq_false h; omega
        rw [kwj, this]
    intro (w' : List Int) (hw' : w' = wBk p k wl 4)
    refine tr_nil ?_
    refine tr_vc hsp mixed _ _ ?_
    refine vcx (X := ((tkA st rest p sz (IntKind.i64.wrap ((↑k : Int) + (1 : Int)), w')).triv ((∃ k_1, k_1 ≤ (16 : Nat) ∧ IntKind.i64.wrap ((↑k : Int) + (1 : Int)) = (↑k_1 : Int) ∧ w' = wAk p k_1) ∧ (16 : Nat) - (IntKind.i64.wrap ((↑k : Int) + (1 : Int))).toNat < (16 : Nat) - (↑k : Int).toNat))) (by kernel_rfl) ?_
    rw [wrap_succ (by omega)]
    exact triv_intro ⟨⟨k + 1, hlt, rfl, by rw [hw', kw]; rfl⟩, by rw [Int.toNat_natCast, Int.toNat_natCast]; omega⟩
  rintro ⟨i1, w1⟩ hw1
  revert i1 w1
  intro (i1 : Int) (w1 : List Int) (hw1 : w1 = wAk p 16)
  have hw1l : w1.length = 64 := by rw [hw1, wAk_len]
  refine tr_cut hsp mixed 1 (tkC st rest p sz (0, w1)) True ?_ (fun _ => ?_)
  · refine vcx (X := ((tkC st rest p sz ((0 : Int), w1)).triv True)) (by kernel_rfl) ?_
    exact triv_intro trivial
  refine tr_while hsp mixed noSw (fun σ => (rdS (.int .i64) 45 σ, rdR uK 9 σ)) (tkC st rest p sz) (fun g => ∃ j : Nat, j ≤ 48 ∧ g.1 = (j : Int) ∧ g.2 = wCk w1 j) (fun g => 48 - g.1.toNat)
    (fun σ => (rdS (.int .i64) 45 σ, rdR uK 9 σ)) (tkC st rest p sz) (fun g => g.2 = wCk w1 48) (0, w1) (c := nthC (codeOf Tryd.f135) 5) (by kernel_rfl) (by kernel_rfl) (le_of_proj (by kernel_rfl) (by kernel_rfl) ?_) ?_ ?_
  · exact ⟨0, by decide, rfl, rfl⟩
  · rintro ⟨j, wj⟩ hj
    revert j wj
    intro (j : Int) (wj : List Int) ⟨t, ht, ej, ewj⟩
    have ej : j = (t : Int) := ej
    have kwj : wj = wCk w1 t := ewj
    subst ej
    refine vcx (X := ((decide ((↑t : Int) < (48 : Int)) = true → ((0 : Int) ≤ IntKind.i64.wrap ((↑t : Int) + (1 : Int)) ∧ IntKind.i64.wrap ((↑t : Int) + (1 : Int)) < (↑(64 : Nat) : Int)) ∧ (IntKind.i64.wrap ((↑t : Int) + (1 : Int))).toNat < (64 : Nat) ∧ ((0 : Int) ≤ IntKind.i64.wrap ((↑t : Int) + (14 : Int)) ∧ IntKind.i64.wrap ((↑t : Int) + (14 : Int)) < (↑(64 : Nat) : Int)) ∧ (IntKind.i64.wrap ((↑t : Int) + (14 : Int))).toNat < (64 : Nat) ∧ True ∧ True ∧ (0 : Int) ≤ (3 : Int) ∧ True ∧ True ∧ (0 : Int) ≤ (10 : Int) ∧ ((0 : Int) ≤ (↑t : Int) ∧ (↑t : Int) < (↑(64 : Nat) : Int)) ∧ (↑t : Int).toNat < (64 : Nat) ∧ ((0 : Int) ≤ IntKind.i64.wrap ((↑t : Int) + (9 : Int)) ∧ IntKind.i64.wrap ((↑t : Int) + (9 : Int)) < (↑(64 : Nat) : Int)) ∧ (IntKind.i64.wrap ((↑t : Int) + (9 : Int))).toNat < (64 : Nat) ∧ ((0 : Int) ≤ IntKind.i64.wrap ((↑t : Int) + (16 : Int)) ∧ IntKind.i64.wrap ((↑t : Int) + (16 : Int)) < (↑(64 : Nat) : Int)) ∧ (IntKind.i64.wrap ((↑t : Int) + (16 : Int))).toNat < (64 : Nat) ∧ (tkC st rest p sz (IntKind.i64.wrap ((↑t : Int) + (1 : Int)), wj.set (IntKind.i64.wrap ((↑t : Int) + (16 : Int))).toNat (IntKind.u32.wrap (IntKind.u32.wrap (IntKind.u32.wrap (wj.getD (↑t : Int).toNat (0 : Int) + bitOp BinOp.xor IntKind.u32 (bitOp BinOp.xor IntKind.u32 (rot (wj.getD (IntKind.i64.wrap ((↑t : Int) + (1 : Int))).toNat (0 : Int)) (-7 : Int), ()).fst (rot (wj.getD (IntKind.i64.wrap ((↑t : Int) + (1 : Int))).toNat (0 : Int)) (-18 : Int), ()).fst) ((wj.getD (IntKind.i64.wrap ((↑t : Int) + (1 : Int))).toNat (0 : Int)).fdiv ((2 : Int) ^ min (3 : Nat) IntKind.u32.bits))) + wj.getD (IntKind.i64.wrap ((↑t : Int) + (9 : Int))).toNat (0 : Int)) + bitOp BinOp.xor IntKind.u32 (bitOp BinOp.xor IntKind.u32 (rot (wj.getD (IntKind.i64.wrap ((↑t : Int) + (14 : Int))).toNat (0 : Int)) (-17 : Int), ()).fst (rot (wj.getD (IntKind.i64.wrap ((↑t : Int) + (14 : Int))).toNat (0 : Int)) (-19 : Int), ()).fst) ((wj.getD (IntKind.i64.wrap ((↑t : Int) + (14 : Int))).toNat (0 : Int)).fdiv ((2 : Int) ^ min (10 : Nat) IntKind.u32.bits)))))).triv ((∃ j, j ≤ (48 : Nat) ∧ IntKind.i64.wrap ((↑t : Int) + (1 : Int)) = (↑j : Int) ∧ wj.set (IntKind.i64.wrap ((↑t : Int) + (16 : Int))).toNat (IntKind.u32.wrap (IntKind.u32.wrap (IntKind.u32.wrap (wj.getD (↑t : Int).toNat (0 : Int) + bitOp BinOp.xor IntKind.u32 (bitOp BinOp.xor IntKind.u32 (rot (wj.getD (IntKind.i64.wrap ((↑t : Int) + (1 : Int))).toNat (0 : Int)) (-7 : Int)) (rot (wj.getD (IntKind.i64.wrap ((↑t : Int) + (1 : Int))).toNat (0 : Int)) (-18 : Int))) ((wj.getD (IntKind.i64.wrap ((↑t : Int) + (1 : Int))).toNat (0 : Int)).fdiv ((2 : Int) ^ min (3 : Nat) IntKind.u32.bits))) + wj.getD (IntKind.i64.wrap ((↑t : Int) + (9 : Int))).toNat (0 : Int)) + bitOp BinOp.xor IntKind.u32 (bitOp BinOp.xor IntKind.u32 (rot (wj.getD (IntKind.i64.wrap ((↑t : Int) + (14 : Int))).toNat (0 : Int)) (-17 : Int)) (rot (wj.getD (IntKind.i64.wrap ((↑t : Int) + (14 : Int))).toNat (0 : Int)) (-19 : Int))) ((wj.getD (IntKind.i64.wrap ((↑t : Int) + (14 : Int))).toNat (0 : Int)).fdiv ((2 : Int) ^ min (10 : Nat) IntKind.u32.bits)))) = wCk w1 j) ∧ (48 : Nat) - (IntKind.i64.wrap ((↑t : Int) + (1 : Int))).toNat < (48 : Nat) - (↑t : Int).toNat)) ∧ (decide ((↑t : Int) < (48 : Int)) = false → (tkC st rest p sz ((↑t : Int), wj)).triv (wj = wCk w1 (48 : Nat))))) (by kernel_rfl) ?_
    refine ⟨fun h => ?_, fun h => triv_intro ?_⟩
    · have h4 : t < 48 := by have := of_decide_eq_true h; omega
      have e1 : ∀ m : Nat, m < 20 → IntKind.i64.wrap ((t : Int) + (m : Int)) = ((t + m : Nat) : Int) := fun m hm => by
        rw [wrap_i64' (by omega) (by omega)]; omega
      have e1a : IntKind.i64.wrap ((t : Int) + 1) = ((t + 1 : Nat) : Int) := e1 1 (by decide)
      have e1b : IntKind.i64.wrap ((t : Int) + 9) = ((t + 9 : Nat) : Int) := e1 9 (by decide)
      have e1c : IntKind.i64.wrap ((t : Int) + 14) = ((t + 14 : Nat) : Int) := e1 14 (by decide)
      have e1d : IntKind.i64.wrap ((t : Int) + 16) = ((t + 16 : Nat) : Int) := e1 16 (by decide)
      rw [e1a, e1b, e1c, e1d]
      simp only [Int.toNat_natCast]
      exact ⟨⟨by omega, by omega⟩, by omega, ⟨by omega, by omega⟩, by omega, trivial, trivial, by decide, trivial, trivial, by decide, ⟨by omega, by omega⟩, by omega, ⟨by omega, by omega⟩, by omega, ⟨by omega, by omega⟩, by omega, triv_intro ⟨⟨t + 1, h4, rfl, by rw [kwj]; rfl⟩, by omega⟩⟩
    · have : t = 48 := by have := of_decide_eq_false h; omega
      rw [kwj, this]
  rintro ⟨i2, w2⟩ hw2
  revert i2 w2
  intro (i2 : Int) (w2 : List Int) (hw2' : w2 = wCk w1 48)
  refine tr_cut hsp mixed 2 (tkD st rest p sz w2 (0, st)) True ?_ (fun _ => ?_)
  · refine vcx (X := ((tkD st rest p sz w2 ((0 : Int), st)).triv True)) (by kernel_rfl) ?_
    exact triv_intro trivial
  have hw2l : w2.length = 64 := by rw [hw2', wCk_len, hw1l]
  refine tr_while hsp mixed noSw (fun σ => (rdS (.int .i64) 92 σ, rdR uK 57 σ)) (tkD st rest p sz w2) (fun g => ∃ j : Nat, j ≤ 64 ∧ g.1 = (j : Int) ∧ g.2 = vCk w2 st j) (fun g => 64 - g.1.toNat)
    (fun σ => (rdS (.int .i64) 92 σ, rdR uK 57 σ)) (tkD st rest p sz w2) (fun g => g.2 = vCk w2 st 64) (0, st) (c := nthC (codeOf Tryd.f135) 8) (by kernel_rfl) (by kernel_rfl) (le_of_proj (by kernel_rfl) (by kernel_rfl) ?_) ?_ ?_
  · exact ⟨0, by decide, rfl, rfl⟩
  · rintro ⟨j, v⟩ hj
    revert j v
    intro (j : Int) (v : List Int) ⟨t, ht, ej, ev⟩
    have ej : j = (t : Int) := ej
    have kv : v = vCk w2 st t := ev
    subst ej
    have hvl : v.length = 8 := by rw [kv, vCk_len _ hst]
    obtain ⟨a, b, c, d, e, f, g, h, rfl⟩ := eight hvl
    refine vcx (X := ((decide ((↑t : Int) < (64 : Int)) = true → True ∧ True ∧ True ∧ ((0 : Int) ≤ (↑t : Int) ∧ (↑t : Int) < (↑(64 : Nat) : Int)) ∧ (↑t : Int).toNat < rootsL.length ∧ ((0 : Int) ≤ (↑t : Int) ∧ (↑t : Int) < (↑(64 : Nat) : Int)) ∧ (↑t : Int).toNat < (64 : Nat) ∧ True ∧ True ∧ True ∧ (tkD st rest p sz w2 (IntKind.i64.wrap ((↑t : Int) + (1 : Int)), [IntKind.u32.wrap (IntKind.u32.wrap (IntKind.u32.wrap (h + bitOp BinOp.xor IntKind.u32 (bitOp BinOp.xor IntKind.u32 (rot e (-6 : Int), ()).fst (rot e (-11 : Int), ()).fst) (rot e (-25 : Int), ()).fst) + IntKind.u32.wrap (IntKind.u32.wrap (bitOp BinOp.xor IntKind.u32 (bitOp BinOp.and IntKind.u32 e f) (bitOp BinOp.and IntKind.u32 (bitOp BinOp.xor IntKind.u32 (if IntKind.u32.signed = true then (-1 : Int) else IntKind.u32.max) e) g) + rootsL.getD (↑t : Int).toNat (0 : Int)) + w2.getD (↑t : Int).toNat (0 : Int))) + IntKind.u32.wrap (bitOp BinOp.xor IntKind.u32 (bitOp BinOp.xor IntKind.u32 (rot a (-2 : Int), ()).fst (rot a (-13 : Int), ()).fst) (rot a (-22 : Int), ()).fst + bitOp BinOp.xor IntKind.u32 (bitOp BinOp.xor IntKind.u32 (bitOp BinOp.and IntKind.u32 a b) (bitOp BinOp.and IntKind.u32 a c)) (bitOp BinOp.and IntKind.u32 b c))), a, b, c, IntKind.u32.wrap (d + IntKind.u32.wrap (IntKind.u32.wrap (h + bitOp BinOp.xor IntKind.u32 (bitOp BinOp.xor IntKind.u32 (rot e (-6 : Int), ()).fst (rot e (-11 : Int), ()).fst) (rot e (-25 : Int), ()).fst) + IntKind.u32.wrap (IntKind.u32.wrap (bitOp BinOp.xor IntKind.u32 (bitOp BinOp.and IntKind.u32 e f) (bitOp BinOp.and IntKind.u32 (bitOp BinOp.xor IntKind.u32 (if IntKind.u32.signed = true then (-1 : Int) else IntKind.u32.max) e) g) + rootsL.getD (↑t : Int).toNat (0 : Int)) + w2.getD (↑t : Int).toNat (0 : Int)))), e, f, g])).triv ((∃ j, j ≤ (64 : Nat) ∧ IntKind.i64.wrap ((↑t : Int) + (1 : Int)) = (↑j : Int) ∧ [IntKind.u32.wrap (IntKind.u32.wrap (IntKind.u32.wrap (h + bitOp BinOp.xor IntKind.u32 (bitOp BinOp.xor IntKind.u32 (rot e (-6 : Int)) (rot e (-11 : Int))) (rot e (-25 : Int))) + IntKind.u32.wrap (IntKind.u32.wrap (bitOp BinOp.xor IntKind.u32 (bitOp BinOp.and IntKind.u32 e f) (bitOp BinOp.and IntKind.u32 (bitOp BinOp.xor IntKind.u32 (if IntKind.u32.signed = true then (-1 : Int) else IntKind.u32.max) e) g) + rootsL.getD (↑t : Int).toNat (0 : Int)) + w2.getD (↑t : Int).toNat (0 : Int))) + IntKind.u32.wrap (bitOp BinOp.xor IntKind.u32 (bitOp BinOp.xor IntKind.u32 (rot a (-2 : Int)) (rot a (-13 : Int))) (rot a (-22 : Int)) + bitOp BinOp.xor IntKind.u32 (bitOp BinOp.xor IntKind.u32 (bitOp BinOp.and IntKind.u32 a b) (bitOp BinOp.and IntKind.u32 a c)) (bitOp BinOp.and IntKind.u32 b c))), a, b, c, IntKind.u32.wrap (d + IntKind.u32.wrap (IntKind.u32.wrap (h + bitOp BinOp.xor IntKind.u32 (bitOp BinOp.xor IntKind.u32 (rot e (-6 : Int)) (rot e (-11 : Int))) (rot e (-25 : Int))) + IntKind.u32.wrap (IntKind.u32.wrap (bitOp BinOp.xor IntKind.u32 (bitOp BinOp.and IntKind.u32 e f) (bitOp BinOp.and IntKind.u32 (bitOp BinOp.xor IntKind.u32 (if IntKind.u32.signed = true then (-1 : Int) else IntKind.u32.max) e) g) + rootsL.getD (↑t : Int).toNat (0 : Int)) + w2.getD (↑t : Int).toNat (0 : Int)))), e, f, g] = vCk w2 st j) ∧ (64 : Nat) - (IntKind.i64.wrap ((↑t : Int) + (1 : Int))).toNat < (64 : Nat) - (↑t : Int).toNat)) ∧ (decide ((↑t : Int) < (64 : Int)) = false → (tkD st rest p sz w2 ((↑t : Int), [a, b, c, d, e, f, g, h])).triv ([a, b, c, d, e, f, g, h] = vCk w2 st (64 : Nat))))) (by kernel_rfl) ?_
    refine ⟨fun h' => ?_, fun h' => triv_intro ?_⟩
    · have h4 : t < 64 := by have := of_decide_eq_true h'; omega
      have hrl : rootsL.length = 64 := rfl
      rw [wrap_succ (by omega), Int.toNat_natCast]
      exact ⟨trivial, trivial, trivial, ⟨by omega, by omega⟩, by omega, ⟨by omega, by omega⟩, by omega, trivial, trivial, trivial, triv_intro ⟨⟨t + 1, h4, rfl, by show _ = vC w2 (vCk w2 st t) t; rw [← kv]; rfl⟩, by rw [Int.toNat_natCast]; omega⟩⟩
    · have : t = 64 := by have := of_decide_eq_false h'; omega
      rw [kv, this]
  rintro ⟨i3, v⟩ hv
  revert i3 v
  intro (i3 : Int) (v : List Int) (hv : v = vCk w2 st 64)
  refine tr_cut hsp mixed 1 (tkE rest sz w2 v (0, st)) True ?_ (fun _ => ?_)
  · refine vcx (X := ((tkE rest sz w2 v ((0 : Int), st)).triv True)) (by kernel_rfl) ?_
    exact triv_intro trivial
  refine tr_while hsp mixed noSw (fun σ => (rdS (.int .i64) 172 σ, (rdB hashK 0 σ).1)) (tkE rest sz w2 v) (fun g => ∃ j : Nat, j ≤ 8 ∧ g.1 = (j : Int) ∧ g.2 = fCk v st j) (fun g => 8 - g.1.toNat)
    (fun σ => (rdS (.int .i64) 172 σ, (rdB hashK 0 σ).1)) (tkE rest sz w2 v) (fun g => g.2 = fCk v st 8) (0, st) (c := nthC (codeOf Tryd.f135) 10) (by kernel_rfl) (by kernel_rfl) (le_of_proj (by kernel_rfl) (by kernel_rfl) ?_) ?_ ?_
  · exact ⟨0, by decide, rfl, rfl⟩
  · rintro ⟨j, s⟩ hj
    revert j s
    intro (j : Int) (s : List Int) ⟨t, ht, ej, es⟩
    have ej : j = (t : Int) := ej
    have ks : s = fCk v st t := es
    subst ej
    refine vcx (X := ((decide ((↑t : Int) < (8 : Int)) = true → ((0 : Int) ≤ (↑t : Int) ∧ (↑t : Int) < (↑(8 : Nat) : Int)) ∧ (↑t : Int).toNat < (8 : Nat) ∧ ((0 : Int) ≤ (↑t : Int) ∧ (↑t : Int) < (↑(8 : Nat) : Int)) ∧ (↑t : Int).toNat < (8 : Nat) ∧ ((0 : Int) ≤ (↑t : Int) ∧ (↑t : Int) < (↑(8 : Nat) : Int)) ∧ (↑t : Int).toNat < (8 : Nat) ∧ (tkE rest sz w2 v (IntKind.i64.wrap ((↑t : Int) + (1 : Int)), (s.set (↑t : Int).toNat (IntKind.u32.wrap (s.getD (↑t : Int).toNat (0 : Int) + v.getD (↑t : Int).toNat (0 : Int))), rest, sz).fst)).triv ((∃ j, j ≤ (8 : Nat) ∧ IntKind.i64.wrap ((↑t : Int) + (1 : Int)) = (↑j : Int) ∧ s.set (↑t : Int).toNat (IntKind.u32.wrap (s.getD (↑t : Int).toNat (0 : Int) + v.getD (↑t : Int).toNat (0 : Int))) = fCk v st j) ∧ (8 : Nat) - (IntKind.i64.wrap ((↑t : Int) + (1 : Int))).toNat < (8 : Nat) - (↑t : Int).toNat)) ∧ (decide ((↑t : Int) < (8 : Int)) = false → (tkE rest sz w2 v ((↑t : Int), (s, rest, sz).fst)).triv (s = fCk v st (8 : Nat))))) (by kernel_rfl) ?_
    refine ⟨fun h => ?_, fun h => triv_intro ?_⟩
    · have h4 : t < 8 := by have := of_decide_eq_true h; omega
      rw [wrap_succ (by omega), Int.toNat_natCast]
      exact ⟨⟨by omega, by omega⟩, h4, ⟨by omega, by omega⟩, h4, ⟨by omega, by omega⟩, h4, triv_intro ⟨⟨t + 1, h4, rfl, by rw [ks]; rfl⟩, by rw [Int.toNat_natCast]; omega⟩⟩
    · have : t = 8 := by have := of_decide_eq_false h; omega
      rw [ks, this]
  rintro ⟨i4, s⟩ hs
  revert i4 s
  intro (i4 : Int) (s : List Int) (hs : s = fCk v st 8)
  refine tr_vc hsp mixed _ _ ?_
  refine vcx (X := (((s, rest, sz), ()) = ((tko st p, rest, sz), ()))) (by kernel_rfl) ?_
  show ((s, rest, sz), ()) = ((tko st p, rest, sz), ())
  rw [hs, hv, hw2', hw1, tko, opq_eq, takeF]
noncomputable def spTake : Nat × Eng.Spec := (135, fnSpecPG shaG hashK [.arr 64 bK] [] (fun _ => True) (fun ((st, rest, sz), p, _) => ((tko st p, rest, sz), ())))
end Go.Proofs.YtbfimfdhmggieaaDoor.sha
/- sha: bytes taken piece by piece (plain). No program here. -/
namespace Cr
section
variable (tk : List Int → List Int → List Int) (first : List Int)
/-- So many blocks laid over a state. -/
def absK (st b : List Int) : Nat → List Int
  | 0 => st
  | k + 1 => tk (absK st b k) ((b.drop (64 * k)).take 64)
theorem absK_pre (st X Y : List Int) : ∀ j, 64 * j ≤ X.length → absK tk st (X ++ Y) j = absK tk st X j
  | 0, _ => rfl
  | j + 1, h => by
    show tk _ _ = tk _ _
    rw [absK_pre st X Y j (by omega), List.drop_append_of_le_length (by omega), List.take_append_of_le_length (by rw [List.length_drop]; omega)]
theorem absK_app (st X Y : List Int) (k : Nat) (hk : X.length = 64 * k) : ∀ j, absK tk st (X ++ Y) (k + j) = absK tk (absK tk st X k) Y j
  | 0 => absK_pre tk st X Y k (by omega)
  | j + 1 => by
    show tk (absK tk st (X ++ Y) (k + j)) _ = tk _ _
    rw [absK_app st X Y k hk j]
    congr 2
    have hkj : X.length ≤ 64 * (k + j) := by omega
    rw [show k.add j = k + j from rfl, List.drop_append, List.drop_eq_nil_of_le hkj, List.nil_append]
    congr 1; omega
def tailOf (L : List Int) : List Int := L.drop (64 * (L.length / 64))
def Hs (L : List Int) : List Int := absK tk first L (L.length / 64)
theorem tailOf_len (L : List Int) : (tailOf L).length = L.length % 64 := by rw [tailOf, List.length_drop]; omega
theorem tailOf_app (X Y : List Int) (k : Nat) (hk : X.length = 64 * k) : tailOf (X ++ Y) = tailOf Y := by
  rw [tailOf, tailOf, List.length_append, List.drop_append, List.drop_eq_nil_of_le (by omega), List.nil_append]
  congr 1; omega
theorem Hs_app (X Y : List Int) (k : Nat) (hk : X.length = 64 * k) : Hs tk first (X ++ Y) = absK tk (absK tk first X k) Y (Y.length / 64) := by
  rw [Hs, List.length_append, show (X.length + Y.length) / 64 = k + Y.length / 64 by omega, absK_app tk first X Y k hk]
def wrEnd (st rest b : List Int) : List Int × List Int := (absK tk st b (b.length / 64), tailOf b ++ rest.drop (tailOf b).length)
/-- What Write makes of a state. -/
def wrF (st rest : List Int) (sz : Int) (b : List Int) : List Int × List Int × Int :=
  match decide ((sz % 64).toNat = 0) with
  | true => ((wrEnd tk (bif decide (sz = 0) then first else st) rest b).1, (wrEnd tk (bif decide (sz = 0) then first else st) rest b).2, sz + b.length)
  | false => match decide ((sz % 64).toNat + b.length < 64) with
    | true => (st, rest.take (sz % 64).toNat ++ (b ++ rest.drop ((sz % 64).toNat + b.length)), sz + b.length)
    | false => ((wrEnd tk (tk st (rest.take (sz % 64).toNat ++ b.take (64 - (sz % 64).toNat))) (rest.take (sz % 64).toNat ++ b.take (64 - (sz % 64).toNat)) (b.drop (64 - (sz % 64).toNat))).1,
        (wrEnd tk (tk st (rest.take (sz % 64).toNat ++ b.take (64 - (sz % 64).toNat))) (rest.take (sz % 64).toNat ++ b.take (64 - (sz % 64).toNat)) (b.drop (64 - (sz % 64).toNat))).2, sz + b.length)
/-- A state that has taken these bytes. -/
def Took (L : List Int) (st rest : List Int) (sz : Int) : Prop := sz = (L.length : Int) ∧ rest.length = 64 ∧ (L ≠ [] → st = Hs tk first L) ∧ rest.take (L.length % 64) = tailOf L
theorem took_nil (st rest : List Int) (h : rest.length = 64) : Took tk first [] st rest 0 := ⟨rfl, h, fun h => absurd rfl h, by simp [tailOf]⟩
theorem took_wr {L st rest : List Int} {sz : Int} (h : Took tk first L st rest sz) (b : List Int) : Took tk first (L ++ b) (wrF tk first st rest sz b).1 (wrF tk first st rest sz b).2.1 (wrF tk first st rest sz b).2.2 := by
  obtain ⟨h1, h2, h3, h4⟩ := h
  subst h1
  have hr : (((L.length : Int)) % 64).toNat = L.length % 64 := by omega
  have hsplit : L = L.take (64 * (L.length / 64)) ++ tailOf L := (List.take_append_drop _ L).symm
  have hXl : (L.take (64 * (L.length / 64))).length = 64 * (L.length / 64) := by rw [List.length_take]; omega
  unfold wrF
  rw [hr]
  have hsz : (L.length : Int) + (b.length : Int) = ((L ++ b).length : Int) := by rw [List.length_append]; omega
  cases hd : decide (L.length % 64 = 0) with
  | true =>
    have h0 : L.length % 64 = 0 := of_decide_eq_true hd
    have ht : tailOf L = [] := List.eq_nil_of_length_eq_zero (by rw [tailOf_len, h0])
    have hL : L.length = 64 * (L.length / 64) := by omega
    have hs : (bif decide ((L.length : Int) = 0) then first else st) = absK tk first L (L.length / 64) := by
      cases L with
      | nil => rfl
      | cons x l => rw [decide_eq_false (by simp only [List.length_cons]; omega), cond_false]; exact h3 (by simp)
    refine ⟨hsz, ?_, fun _ => ?_, ?_⟩
    · show (tailOf b ++ rest.drop _).length = 64
      rw [List.length_append, List.length_drop, tailOf_len, h2]; omega
    · show absK tk _ b (b.length / 64) = _
      rw [hs, Hs_app tk first L b _ hL]
    · show (tailOf b ++ rest.drop _).take _ = _
      rw [tailOf_app L b _ hL, List.length_append, show (L.length + b.length) % 64 = (tailOf b).length by rw [tailOf_len]; omega, List.take_left' rfl]
  | false =>
    have h0 : L.length % 64 ≠ 0 := of_decide_eq_false hd
    have hne : L ≠ [] := by rintro rfl; exact h0 rfl
    have hst : st = absK tk first (L.take (64 * (L.length / 64))) (L.length / 64) := by
      rw [h3 hne, Hs]
      have := absK_pre tk first (L.take (64 * (L.length / 64))) (tailOf L) (L.length / 64) (by omega)
      rw [← hsplit] at this
      exact this
    have hLb : L ++ b = L.take (64 * (L.length / 64)) ++ (tailOf L ++ b) := by rw [← List.append_assoc, ← hsplit]
    cases hd2 : decide (L.length % 64 + b.length < 64) with
    | true =>
      have h5 : L.length % 64 + b.length < 64 := of_decide_eq_true hd2
      refine ⟨hsz, ?_, fun _ => ?_, ?_⟩
      · show (rest.take _ ++ (b ++ rest.drop _)).length = 64
        rw [List.length_append, List.length_append, List.length_drop, List.length_take, h2]; omega
      · show st = _
        rw [hLb, Hs_app tk first _ _ _ hXl, ← hst, show (tailOf L ++ b).length / 64 = 0 by rw [List.length_append, tailOf_len]; omega]
        rfl
      · show (rest.take _ ++ (b ++ rest.drop _)).take _ = _
        rw [hLb, tailOf_app _ _ _ hXl]
        have e1 : tailOf (tailOf L ++ b) = tailOf L ++ b := by
          rw [tailOf, show (tailOf L ++ b).length / 64 = 0 by rw [List.length_append, tailOf_len]; omega]; rfl
        have e2 : (L.take (64 * (L.length / 64)) ++ (tailOf L ++ b)).length % 64 = (tailOf L ++ b).length := by
          rw [List.length_append, List.length_append, tailOf_len, hXl]; omega
        rw [e1, h4, e2, ← List.append_assoc]
        exact List.take_left' rfl
    | false =>
      have h5 : ¬ L.length % 64 + b.length < 64 := of_decide_eq_false hd2
      have hrl : (rest.take (L.length % 64) ++ b.take (64 - L.length % 64)).length = 64 := by
        rw [List.length_append, List.length_take, List.length_take, h2]; omega
      have hb1 : L ++ b = (L.take (64 * (L.length / 64)) ++ (rest.take (L.length % 64) ++ b.take (64 - L.length % 64))) ++ b.drop (64 - L.length % 64) := by
        rw [h4, List.append_assoc, List.append_assoc, List.take_append_drop]; exact hLb
      have hXl2 : (L.take (64 * (L.length / 64)) ++ (rest.take (L.length % 64) ++ b.take (64 - L.length % 64))).length = 64 * (L.length / 64 + 1) := by
        rw [List.length_append, hrl, hXl]; omega
      have hst2 : absK tk first (L.take (64 * (L.length / 64)) ++ (rest.take (L.length % 64) ++ b.take (64 - L.length % 64))) (L.length / 64 + 1) = tk st (rest.take (L.length % 64) ++ b.take (64 - L.length % 64)) := by
        rw [absK_app tk first _ _ _ hXl 1, ← hst]
        show tk st _ = _
        rw [Nat.mul_zero, List.drop_zero, List.take_of_length_le (by omega)]
      refine ⟨hsz, ?_, fun _ => ?_, ?_⟩
      · show (tailOf _ ++ List.drop _ (_ ++ _)).length = 64
        rw [List.length_append, List.length_drop, tailOf_len, hrl]; omega
      · show absK tk _ _ _ = _
        rw [hb1, Hs_app tk first _ _ _ hXl2, hst2]
      · show (tailOf _ ++ List.drop _ (_ ++ _)).take _ = _
        rw [hb1, tailOf_app _ _ _ hXl2]
        rw [show (L.take (64 * (L.length / 64)) ++ (rest.take (L.length % 64) ++ b.take (64 - L.length % 64)) ++ b.drop (64 - L.length % 64)).length % 64 = (tailOf (b.drop (64 - L.length % 64))).length by rw [tailOf_len, List.length_append, hXl2]; omega, List.take_left' rfl]
end
end Cr
/- Values forced one by one, for computation. No program here. -/
namespace Cr
def fcn {α : Type} (n : Nat) (k : Nat → α) : α := Nat.rec (k 0) (fun m _ => k (m + 1)) n
theorem fcn_eq {α : Type} (n : Nat) (k : Nat → α) : fcn n k = k n := by cases n <;> rfl
noncomputable def fi {α : Type} (x : Int) (k : Int → α) : α := Int.rec (fun n => fcn n fun m => k (Int.ofNat m)) (fun n => fcn n fun m => k (Int.negSucc m)) x
theorem fi_eq {α : Type} (x : Int) (k : Int → α) : fi x k = k x := by
  cases x with
  | ofNat n => exact fcn_eq n fun m => k (Int.ofNat m)
  | negSucc n => exact fcn_eq n fun m => k (Int.negSucc m)
noncomputable def fl {α : Type} (l : List Int) (k : List Int → α) : α := List.rec (motive := fun _ => (List Int → α) → α) (fun k => k []) (fun x _ ih k => fi x fun x' => ih fun l' => k (x' :: l')) l k
theorem fl_eq {α : Type} (l : List Int) (k : List Int → α) : fl l k = k l := by
  induction l generalizing k with
  | nil => rfl
  | cons x l ih => show fi x (fun x' => fl l fun l' => k (x' :: l')) = _; rw [fi_eq, ih]
/-- So many steps. -/
def it {α : Type} (f : Nat → α → α) (s : α) : Nat → α
  | 0 => s
  | k + 1 => f k (it f s k)
noncomputable def itC (f : Nat → List Int → List Int) (s : List Int) : Nat → List Int
  | 0 => s
  | k + 1 => fl (itC f s k) fun X => fl (f k X) fun Y => Y
theorem itC_eq (f : Nat → List Int → List Int) (s : List Int) : ∀ k, itC f s k = it f s k
  | 0 => rfl
  | k + 1 => by show fl _ _ = f k _; rw [fl_eq, fl_eq, itC_eq f s k]
theorem it_congr {α : Type} {f g : Nat → α → α} (s : α) : ∀ k, (∀ j, j < k → ∀ x, f j x = g j x) → it f s k = it g s k
  | 0, _ => rfl
  | k + 1, h => by show f k _ = g k _; rw [it_congr s k (fun j hj => h j (by omega)), h k (by omega)]
end Cr
/- sha by computation; digests (plain). -/
namespace Go.Proofs.YtbfimfdhmggieaaDoor.sha
set_option maxRecDepth 100000
open Go Go.Eng Go.RowKit Cr Go.Proofs.YtbfimfdhmggieaaDoor
theorem rot_eq : rot = rotF := by funext x k; exact opq_eq _
def sg0C (a : Int) : Int := bitOp .xor .u32 (bitOp .xor .u32 (rotF a (-7)) (rotF a (-18))) (a.fdiv (2 ^ min (3 : Nat) IntKind.u32.bits))
def sg1C (a : Int) : Int := bitOp .xor .u32 (bitOp .xor .u32 (rotF a (-17)) (rotF a (-19))) (a.fdiv (2 ^ min (10 : Nat) IntKind.u32.bits))
def wCC (w : List Int) (i : Nat) : List Int := w.set (i + 16) (IntKind.u32.wrap (IntKind.u32.wrap (IntKind.u32.wrap (w.getD i 0 + sg0C (w.getD (i + 1) 0)) + w.getD (i + 9) 0) + sg1C (w.getD (i + 14) 0)))
def rTC (w : List Int) (e f g h : Int) (i : Nat) : Int := IntKind.u32.wrap (IntKind.u32.wrap (h + bitOp .xor .u32 (bitOp .xor .u32 (rotF e (-6)) (rotF e (-11))) (rotF e (-25))) + IntKind.u32.wrap (IntKind.u32.wrap (bitOp .xor .u32 (bitOp .and .u32 e f) (bitOp .and .u32 (bitOp .xor .u32 (if IntKind.u32.signed = true then (-1 : Int) else IntKind.u32.max) e) g) + rootsL.getD i 0) + w.getD i 0))
def rUC (a b c : Int) : Int := IntKind.u32.wrap (bitOp .xor .u32 (bitOp .xor .u32 (rotF a (-2)) (rotF a (-13))) (rotF a (-22)) + bitOp .xor .u32 (bitOp .xor .u32 (bitOp .and .u32 a b) (bitOp .and .u32 a c)) (bitOp .and .u32 b c))
noncomputable def vCC (w : List Int) : List Int → Nat → List Int
  | [a, b, c, d, e, f, g, h], i => fi (rTC w e f g h i) fun t => [IntKind.u32.wrap (t + rUC a b c), a, b, c, IntKind.u32.wrap (d + t), e, f, g]
  | v, _ => v
theorem wCC_eq (w : List Int) (i : Nat) : wCC w i = wC w i := by simp only [wC, wCC, sg0, sg1, sg0C, sg1C, rot_eq]
theorem rTC_eq (w : List Int) (e f g h : Int) (i : Nat) : rTC w e f g h i = rT w e f g h i := by simp only [rT, rTC, rot_eq]
theorem rUC_eq (a b c : Int) : rUC a b c = rU a b c := by simp only [rU, rUC, rot_eq]
theorem vCC_eq (w v : List Int) (i : Nat) : vCC w v i = vC w v i := by
  unfold vCC vC
  split
  · rw [fi_eq, rTC_eq, rUC_eq]
  · rename_i h
    first
      | rfl
      | (split
         · exact (h _ _ _ _ _ _ _ _ rfl).elim
         · rfl)
theorem wBk_it (p : List Int) (i : Nat) (w : List Int) : ∀ j, wBk p i w j = it (fun j w => wB p i j w) w j
  | 0 => rfl
  | j + 1 => by show wB p i j _ = wB p i j _; rw [wBk_it p i w j]
theorem wAk_it (p : List Int) : ∀ i, wAk p i = it (fun i w => wBk p i w 4) (List.replicate 64 0) i
  | 0 => rfl
  | j + 1 => by show wBk p j _ 4 = wBk p j _ 4; rw [wAk_it p j]
theorem wCk_it (w : List Int) : ∀ i, wCk w i = it (fun i w => wC w i) w i
  | 0 => rfl
  | j + 1 => by show wC _ j = wC _ j; rw [wCk_it w j]
theorem vCk_it (w v : List Int) : ∀ i, vCk w v i = it (fun i v => vC w v i) v i
  | 0 => rfl
  | j + 1 => by show vC w _ j = vC w _ j; rw [vCk_it w v j]
theorem fCk_it (v s : List Int) : ∀ i, fCk v s i = it (fun i s => s.set i (IntKind.u32.wrap (s.getD i 0 + v.getD i 0))) s i
  | 0 => rfl
  | j + 1 => by show List.set _ _ _ = List.set _ _ _; rw [fCk_it v s j]
noncomputable def takeC (st p : List Int) : List Int :=
  fl st fun st => fl p fun p => fl (itC (fun i w => itC (fun j w => wB p i j w) w 4) (List.replicate 64 0) 16) fun w0 => fl (itC (fun i w => wCC w i) w0 48) fun w => fl (itC (fun i v => vCC w v i) st 64) fun v => itC (fun i s => s.set i (IntKind.u32.wrap (s.getD i 0 + v.getD i 0))) st 8
theorem takeC_eq (st p : List Int) : takeC st p = tko st p := by
  rw [tko, opq_eq, takeF, takeC]
  simp only [fl_eq]
  rw [itC_eq, itC_eq, itC_eq, itC_eq, wCk_it, vCk_it, fCk_it, wAk_it]
  rw [it_congr (g := fun i w => wBk p i w 4) _ 16 (fun i _ w => by rw [itC_eq, wBk_it])]
  rw [it_congr (g := fun i w => wC w i) _ 48 (fun i _ w => wCC_eq w i)]
  rw [it_congr (f := fun i v => vCC _ v i) _ 64 (fun i _ v => vCC_eq _ v i)]
/-- What stands behind so many bytes. -/
def padB (n : Nat) : List Int := 128 :: (List.replicate ((64 + 55 - n % 64) % 64) 0 ++ (List.range 8).map fun i => ((n : Int) * 8) / 2 ^ (56 - 8 * i) % 256)
/-- A state's bytes. -/
def outB (s : List Int) : List Int := (List.range 32).map fun i => IntKind.u8.wrap ((s.getD (i / 4) 0).fdiv (2 ^ (24 - 8 * (i % 4))))
noncomputable def digF (L : List Int) : List Int := outB (Hs tko firstL (L ++ padB L.length))
/-- The digest. -/
noncomputable def dig (L : List Int) : List Int := opq (digF L)
theorem outB_len (s : List Int) : (outB s).length = 32 := by simp [outB]
theorem dig_len (L : List Int) : (dig L).length = 32 := by rw [dig, opq_eq, digF, outB_len]
noncomputable def digC (L : List Int) : List Int := fl L fun L => fl (L ++ padB L.length) fun m => fl (itC (fun k st => takeC st ((m.drop (64 * k)).take 64)) firstL (m.length / 64)) fun s => fl (outB s) fun o => o
theorem absK_it (tk : List Int → List Int → List Int) (st b : List Int) : ∀ k, absK tk st b k = it (fun k st => tk st ((b.drop (64 * k)).take 64)) st k
  | 0 => rfl
  | j + 1 => by show tk _ _ = tk _ _; rw [absK_it tk st b j]
theorem digC_eq (L : List Int) : digC L = dig L := by
  rw [dig, opq_eq, digF, digC, Hs]
  simp only [fl_eq]
  rw [itC_eq, absK_it]
  rw [it_congr _ _ (fun i _ w => takeC_eq w _)]
end Go.Proofs.YtbfimfdhmggieaaDoor.sha
/- sha: Write. -/
namespace Go.Proofs.YtbfimfdhmggieaaDoor.sha
set_option maxRecDepth 100000
open Go Go.Eng Go.RowKit Cr Go.Proofs.YtbfimfdhmggieaaDoor
theorem ent_write : enters Tryd.prog 99 Tryd.f99 := enters_mk (by kernel_rfl) (by kernel_rfl) (by kernel_rfl)
/-- What Write makes of a state. -/
noncomputable def wro (st rest : List Int) (sz : Int) (b : List Int) : Car hashK := opq (wrF tko firstL st rest sz b)
theorem took_wro {L st rest : List Int} {sz : Int} (h : Took tko firstL L st rest sz) (b : List Int) : Took tko firstL (L ++ b) (wro st rest sz b).1 (wro st rest sz b).2.1 (wro st rest sz b).2.2 := by
  rw [wro, opq_eq]; exact took_wr tko firstL h b
theorem wrEnd_step (st rest b : List Int) (h : 64 ≤ b.length) : wrEnd tko (tko st (b.take 64)) rest (b.drop 64) = wrEnd tko st rest b := by
  have h1 : b.take 64 ++ b.drop 64 = b := List.take_append_drop _ _
  have h2 : (b.take 64).length = 64 * 1 := by rw [List.length_take]; omega
  have h3 : tailOf (b.drop 64) = tailOf b := by
    have := tailOf_app (b.take 64) (b.drop 64) 1 h2
    rw [h1] at this; exact this.symm
  have h4 : absK tko (tko st (b.take 64)) (b.drop 64) ((b.drop 64).length / 64) = absK tko st b (b.length / 64) := by
    have := absK_app tko st (b.take 64) (b.drop 64) 1 h2 ((b.drop 64).length / 64)
    rw [h1] at this
    have e : absK tko st (b.take 64) 1 = tko st (b.take 64) := by
      show tko st _ = _
      rw [Nat.mul_zero, List.drop_zero, List.take_take]; rfl
    rw [e] at this
    rw [← this]
    congr 1
    rw [List.length_drop]; omega
  unfold wrEnd
  rw [h3, h4]
abbrev Wg : Type := (List Int × List Int × Int) × List Int
noncomputable def wrS (g : Wg) : St := mkSt Tryd.f99.ntmps 201 [(0, .is (.one (.ptr 0 0))), (1, .is (.one (.ro bK g.2)))] [(0, [.ints .u32 8 g.1.1, .ints .u8 64 g.1.2.1, .v (.int .i64 g.1.2.2)])]
abbrev preWr : Car hashK × HL [.sl bK] → Prop := fun ((_, _, sz), b, _) => (0 : Int) ≤ sz ∧ sz ≤ (1152921504606846976 : Int) ∧ List.length b ≤ 1152921504606846976
noncomputable def wrJ (st rest : List Int) (sz : Int) (b : List Int) (g : Wg) : Prop := ((wrEnd tko g.1.1 g.1.2.1 g.2).1, (wrEnd tko g.1.1 g.1.2.1 g.2).2, g.1.2.2) = wro st rest sz b ∧ g.1.2.1.length = 64
theorem wro_eq0 {st rest : List Int} {sz : Int} {b : List Int} (h : (sz % 64).toNat = 0) : wro st rest sz b = ((wrEnd tko (bif decide (sz = 0) then firstL else st) rest b).1, (wrEnd tko (bif decide (sz = 0) then firstL else st) rest b).2, sz + b.length) := by
  rw [wro, opq_eq, wrF, decide_eq_true h]
theorem wro_eq1 {st rest : List Int} {sz : Int} {b : List Int} {a : Nat} (ha : a = (sz % 64).toNat) (h : a ≠ 0) (h2 : a + b.length < 64) : wro st rest sz b = (st, rest.take a ++ (b ++ rest.drop (a + b.length)), sz + b.length) := by
  subst ha
  rw [wro, opq_eq, wrF, decide_eq_false h, decide_eq_true h2]
theorem wro_eq2 {st rest : List Int} {sz : Int} {b : List Int} {a : Nat} (ha : a = (sz % 64).toNat) (h : a ≠ 0) (h2 : ¬a + b.length < 64) : wro st rest sz b =
    ((wrEnd tko (tko st (rest.take a ++ b.take (64 - a))) (rest.take a ++ b.take (64 - a)) (b.drop (64 - a))).1, (wrEnd tko (tko st (rest.take a ++ b.take (64 - a))) (rest.take a ++ b.take (64 - a)) (b.drop (64 - a))).2, sz + b.length) := by
  subst ha
  rw [wro, opq_eq, wrF, decide_eq_false h, decide_eq_false h2]
theorem fn_write : FnOkP Tryd.prog 99 hashK [.sl bK] [] shaG preWr (fun ((st, rest, sz), b, _) => (wro st rest sz b, ())) := by
  have hsp : SpecsOk Tryd.prog (sps [spTake]) := sps_cons (fnSpecPG_ok fn_take) sps_nil
  refine fn_of_trP (sp := sps [spTake]) ent_write (by decide) (by decide) (by kernel_rfl) ?_
  rintro w M0 b0 ⟨st, rest, sz⟩ ⟨b, ⟨⟩⟩
  revert st rest sz b
  intro (st : List Int) (rest : List Int) (sz : Int) (b : List Int) hw hw2 hp
  obtain ⟨hs0, hs1, hb⟩ := hp
  have hs0 : (0 : Int) ≤ sz := hs0
  have hs1 : sz ≤ (1152921504606846976 : Int) := hs1
  have hb : b.length ≤ 1152921504606846976 := hb
  have hst : st.length = 8 := hw.1.1
  have hrl : rest.length = 64 := hw.2.1.1
  show Tr _ _ _ _ _ _ _
  refine tr_cutF hsp mixed 8 (fun σ => (rdB hashK 0 σ, rdO bK 1 σ)) wrS (wrJ st rest sz b) ?_ ?_
  · refine vcx (X := (((sz == (0 : Int)) = true → (0 : Nat) < [firstL].length ∧ ((64 : Int) = (0 : Int) → False) ∧ (decide (sz.tmod (64 : Int) > (0 : Int)) = true → ((0 : Int) ≤ sz.tmod (64 : Int) ∧ sz.tmod (64 : Int) ≤ (↑(64 : Nat) : Int)) ∧ (sz.tmod (64 : Int)).toNat + ((↑(64 : Nat) : Int) - sz.tmod (64 : Int)).toNat ≤ (64 : Nat) ∧ (decide (IntKind.i64.wrap (sz.tmod (64 : Int) + (↑(b.length.min ((↑(64 : Nat) : Int) - sz.tmod (64 : Int)).toNat) : Int)) < (64 : Int)) = true → (([(1779033703 : Int), (3144134277 : Int), (1013904242 : Int), (2773480762 : Int), (1359893119 : Int), (2600822924 : Int), (528734635 : Int), (1541459225 : Int)], List.take (sz.tmod (64 : Int)).toNat rest ++ (List.take (b.length.min ((↑(64 : Nat) : Int) - sz.tmod (64 : Int)).toNat) b ++ List.drop ((sz.tmod (64 : Int)).toNat + b.length.min ((↑(64 : Nat) : Int) - sz.tmod (64 : Int)).toNat) rest), IntKind.i64.wrap (sz + (↑b.length : Int))), ()) = (wro st rest sz b, ())) ∧ (decide (IntKind.i64.wrap (sz.tmod (64 : Int) + (↑(b.length.min ((↑(64 : Nat) : Int) - sz.tmod (64 : Int)).toNat) : Int)) < (64 : Int)) = false → ((0 : Int) ≤ (↑(b.length.min ((↑(64 : Nat) : Int) - sz.tmod (64 : Int)).toNat) : Int) ∧ (↑(b.length.min ((↑(64 : Nat) : Int) - sz.tmod (64 : Int)).toNat) : Int) ≤ (↑b.length : Int)) ∧ (∀ (g : Nat) (s : Sigma Car), shaG g = some s → Decidable.rec (fun h => (fun x => if g = (1 : Nat) then some ⟨Kd.arr (64 : Nat) uK, rootsL⟩ else none) h) (fun h => (fun x => some ⟨Kd.arr (8 : Nat) uK, firstL⟩) h) (instDecidableEqNat g (0 : Nat)) = some s) ∧ True ∧ (wrS ((tko firstL (List.take (sz.tmod (64 : Int)).toNat rest ++ (List.take (b.length.min ((↑(64 : Nat) : Int) - sz.tmod (64 : Int)).toNat) b ++ List.drop ((sz.tmod (64 : Int)).toNat + b.length.min ((↑(64 : Nat) : Int) - sz.tmod (64 : Int)).toNat) rest)), List.take (sz.tmod (64 : Int)).toNat rest ++ (List.take (b.length.min ((↑(64 : Nat) : Int) - sz.tmod (64 : Int)).toNat) b ++ List.drop ((sz.tmod (64 : Int)).toNat + b.length.min ((↑(64 : Nat) : Int) - sz.tmod (64 : Int)).toNat) rest), IntKind.i64.wrap (sz + (↑b.length : Int))), List.take ((↑b.length : Int) - (↑(b.length.min ((↑(64 : Nat) : Int) - sz.tmod (64 : Int)).toNat) : Int)).toNat (List.drop (↑(b.length.min ((↑(64 : Nat) : Int) - sz.tmod (64 : Int)).toNat) : Int).toNat b))).triv (wrJ st rest sz b ((tko firstL (List.take (sz.tmod (64 : Int)).toNat rest ++ (List.take (b.length.min ((↑(64 : Nat) : Int) - sz.tmod (64 : Int)).toNat) b ++ List.drop ((sz.tmod (64 : Int)).toNat + b.length.min ((↑(64 : Nat) : Int) - sz.tmod (64 : Int)).toNat) rest)), List.take (sz.tmod (64 : Int)).toNat rest ++ (List.take (b.length.min ((↑(64 : Nat) : Int) - sz.tmod (64 : Int)).toNat) b ++ List.drop ((sz.tmod (64 : Int)).toNat + b.length.min ((↑(64 : Nat) : Int) - sz.tmod (64 : Int)).toNat) rest), IntKind.i64.wrap (sz + (↑b.length : Int))), List.take ((↑b.length : Int) - (↑(b.length.min ((↑(64 : Nat) : Int) - sz.tmod (64 : Int)).toNat) : Int)).toNat (List.drop (↑(b.length.min ((↑(64 : Nat) : Int) - sz.tmod (64 : Int)).toNat) : Int).toNat b))))) ∧ (decide (sz.tmod (64 : Int) > (0 : Int)) = false → (wrS (([(1779033703 : Int), (3144134277 : Int), (1013904242 : Int), (2773480762 : Int), (1359893119 : Int), (2600822924 : Int), (528734635 : Int), (1541459225 : Int)], rest, IntKind.i64.wrap (sz + (↑b.length : Int))), b)).triv (wrJ st rest sz b (([(1779033703 : Int), (3144134277 : Int), (1013904242 : Int), (2773480762 : Int), (1359893119 : Int), (2600822924 : Int), (528734635 : Int), (1541459225 : Int)], rest, IntKind.i64.wrap (sz + (↑b.length : Int))), b)))) ∧ ((sz == (0 : Int)) = false → ((64 : Int) = (0 : Int) → False) ∧ (decide (sz.tmod (64 : Int) > (0 : Int)) = true → ((0 : Int) ≤ sz.tmod (64 : Int) ∧ sz.tmod (64 : Int) ≤ (↑(64 : Nat) : Int)) ∧ (sz.tmod (64 : Int)).toNat + ((↑(64 : Nat) : Int) - sz.tmod (64 : Int)).toNat ≤ (64 : Nat) ∧ (decide (IntKind.i64.wrap (sz.tmod (64 : Int) + (↑(b.length.min ((↑(64 : Nat) : Int) - sz.tmod (64 : Int)).toNat) : Int)) < (64 : Int)) = true → ((st, List.take (sz.tmod (64 : Int)).toNat rest ++ (List.take (b.length.min ((↑(64 : Nat) : Int) - sz.tmod (64 : Int)).toNat) b ++ List.drop ((sz.tmod (64 : Int)).toNat + b.length.min ((↑(64 : Nat) : Int) - sz.tmod (64 : Int)).toNat) rest), IntKind.i64.wrap (sz + (↑b.length : Int))), ()) = (wro st rest sz b, ())) ∧ (decide (IntKind.i64.wrap (sz.tmod (64 : Int) + (↑(b.length.min ((↑(64 : Nat) : Int) - sz.tmod (64 : Int)).toNat) : Int)) < (64 : Int)) = false → ((0 : Int) ≤ (↑(b.length.min ((↑(64 : Nat) : Int) - sz.tmod (64 : Int)).toNat) : Int) ∧ (↑(b.length.min ((↑(64 : Nat) : Int) - sz.tmod (64 : Int)).toNat) : Int) ≤ (↑b.length : Int)) ∧ (∀ (g : Nat) (s : Sigma Car), shaG g = some s → Decidable.rec (fun h => (fun x => if g = (1 : Nat) then some ⟨Kd.arr (64 : Nat) uK, rootsL⟩ else none) h) (fun h => (fun x => some ⟨Kd.arr (8 : Nat) uK, firstL⟩) h) (instDecidableEqNat g (0 : Nat)) = some s) ∧ True ∧ (wrS ((tko st (List.take (sz.tmod (64 : Int)).toNat rest ++ (List.take (b.length.min ((↑(64 : Nat) : Int) - sz.tmod (64 : Int)).toNat) b ++ List.drop ((sz.tmod (64 : Int)).toNat + b.length.min ((↑(64 : Nat) : Int) - sz.tmod (64 : Int)).toNat) rest)), List.take (sz.tmod (64 : Int)).toNat rest ++ (List.take (b.length.min ((↑(64 : Nat) : Int) - sz.tmod (64 : Int)).toNat) b ++ List.drop ((sz.tmod (64 : Int)).toNat + b.length.min ((↑(64 : Nat) : Int) - sz.tmod (64 : Int)).toNat) rest), IntKind.i64.wrap (sz + (↑b.length : Int))), List.take ((↑b.length : Int) - (↑(b.length.min ((↑(64 : Nat) : Int) - sz.tmod (64 : Int)).toNat) : Int)).toNat (List.drop (↑(b.length.min ((↑(64 : Nat) : Int) - sz.tmod (64 : Int)).toNat) : Int).toNat b))).triv (wrJ st rest sz b ((tko st (List.take (sz.tmod (64 : Int)).toNat rest ++ (List.take (b.length.min ((↑(64 : Nat) : Int) - sz.tmod (64 : Int)).toNat) b ++ List.drop ((sz.tmod (64 : Int)).toNat + b.length.min ((↑(64 : Nat) : Int) - sz.tmod (64 : Int)).toNat) rest)), List.take (sz.tmod (64 : Int)).toNat rest ++ (List.take (b.length.min ((↑(64 : Nat) : Int) - sz.tmod (64 : Int)).toNat) b ++ List.drop ((sz.tmod (64 : Int)).toNat + b.length.min ((↑(64 : Nat) : Int) - sz.tmod (64 : Int)).toNat) rest), IntKind.i64.wrap (sz + (↑b.length : Int))), List.take ((↑b.length : Int) - (↑(b.length.min ((↑(64 : Nat) : Int) - sz.tmod (64 : Int)).toNat) : Int)).toNat (List.drop (↑(b.length.min ((↑(64 : Nat) : Int) - sz.tmod (64 : Int)).toNat) : Int).toNat b))))) ∧ (decide (sz.tmod (64 : Int) > (0 : Int)) = false → (wrS ((st, rest, IntKind.i64.wrap (sz + (↑b.length : Int))), b)).triv (wrJ st rest sz b ((st, rest, IntKind.i64.wrap (sz + (↑b.length : Int))), b)))))) (by kernel_rfl) ?_
    obtain ⟨a, ha, ha64, har⟩ : ∃ a : Nat, sz.tmod 64 = (a : Int) ∧ a < 64 ∧ a = (sz % 64).toNat := ⟨(sz % 64).toNat, by rw [Int.tmod_eq_emod_of_nonneg hs0]; omega, by omega, rfl⟩
    have e1 : ((↑(64 : Nat) : Int) - (a : Int)).toNat = 64 - a := by omega
    have e3 : IntKind.i64.wrap (sz + (↑b.length : Int)) = sz + b.length := wrap_i64' (by omega) (by omega)
    rw [ha, e1, e3]
    obtain ⟨n, hn⟩ : ∃ n, n = b.length.min (64 - a) := ⟨_, rfl⟩
    have hn' : n = min b.length (64 - a) := hn
    have e2 : IntKind.i64.wrap ((a : Int) + (n : Int)) = ((a + n : Nat) : Int) := by rw [wrap_i64' (by omega) (by omega)]; omega
    rw [← hn, e2]
    simp only [Int.toNat_natCast]
    refine ⟨fun h0 => ⟨by decide, by decide, fun hpos => ?_, fun hz => triv_intro ?_⟩, fun h0 => ⟨by decide, fun hpos => ⟨⟨by omega, by omega⟩, by omega, fun hlt => ?_, fun hge => ⟨⟨by omega, by omega⟩, fun _ _ h => h, trivial, triv_intro ?_⟩⟩, fun hz => triv_intro ?_⟩⟩
    · exfalso
      have h0 : sz = 0 := by simpa using h0
      have := of_decide_eq_true hpos
      subst h0; omega
    · have h0 : sz = 0 := by simpa using h0
      refine ⟨?_, hrl⟩
      rw [wro_eq0 (by omega), decide_eq_true h0]; rfl
    · have hlt := of_decide_eq_true hlt
      have hpos := of_decide_eq_true hpos
      have hnb : n = b.length := by omega
      rw [wro_eq1 har (by omega) (by omega), hnb, List.take_of_length_le (Nat.le_refl _)]
    · have hge := of_decide_eq_false hge
      have hpos := of_decide_eq_true hpos
      have hnb : n = 64 - a := by omega
      have hr1 : rest.take a ++ (b.take n ++ rest.drop (a + n)) = rest.take a ++ b.take (64 - a) := by
        rw [hnb, List.drop_eq_nil_of_le (by omega), List.append_nil]
      have hb1 : List.take ((↑b.length : Int) - (n : Int)).toNat (List.drop n b) = b.drop (64 - a) := by
        rw [List.take_of_length_le (by rw [List.length_drop]; omega), hnb]
      rw [hr1, hb1]
      refine ⟨?_, ?_⟩
      · rw [wro_eq2 har (by omega) (by omega)]
      · show (rest.take a ++ b.take (64 - a)).length = 64
        rw [List.length_append, List.length_take, List.length_take]; omega
    · have hz := of_decide_eq_false hz
      have h0 : ¬ sz = 0 := by simpa using h0
      refine ⟨?_, hrl⟩
      rw [wro_eq0 (by omega), decide_eq_false h0]; rfl
  rintro ⟨⟨st1, rest1, sz1⟩, b1⟩ hJ
  revert st1 rest1 sz1 b1
  intro (b1 : List Int) (st1 : List Int) (rest1 : List Int) (sz1 : Int) (hJ : wrJ st rest sz b ((st1, rest1, sz1), b1))
  refine tr_while hsp mixed noSw (fun σ => (rdB hashK 0 σ, rdO bK 1 σ)) wrS (wrJ st rest sz b) (fun g => g.2.length)
    (fun σ => (rdB hashK 0 σ, rdO bK 1 σ)) wrS (fun g => wrJ st rest sz b g ∧ g.2.length < 64) ((st1, rest1, sz1), b1) (c := nthC (codeOf Tryd.f99) 8) (by kernel_rfl) (by kernel_rfl) (le_of_proj (by kernel_rfl) (by kernel_rfl) ?_) ?_ ?_
  · exact hJ
  · rintro ⟨⟨st1, rest1, sz1⟩, b1⟩ hj
    revert st1 rest1 sz1 b1
    intro (b1 : List Int) (st1 : List Int) (rest1 : List Int) (sz1 : Int) (hj : wrJ st rest sz b ((st1, rest1, sz1), b1))
    refine vcx (X := ((decide ((↑b1.length : Int) ≥ (64 : Int)) = true → (64 : Nat) ≤ b1.length ∧ (0 : Nat) + Tryd.prog.cellsOf 130 / width bK ≤ b1.length ∧ (∀ (g : Nat) (s : Sigma Car), shaG g = some s → Decidable.rec (fun h => (fun x => if g = (1 : Nat) then some ⟨Kd.arr (64 : Nat) uK, rootsL⟩ else none) h) (fun h => (fun x => some ⟨Kd.arr (8 : Nat) uK, firstL⟩) h) (instDecidableEqNat g (0 : Nat)) = some s) ∧ True ∧ ((0 : Int) ≤ (64 : Int) ∧ (64 : Int) ≤ (↑b1.length : Int)) ∧ (wrS ((tko st1 (List.take (Tryd.prog.cellsOf 130 / width bK) b1), rest1, sz1), List.take ((↑b1.length : Int) - (64 : Int)).toNat (List.drop (64 : Nat) b1))).triv (wrJ st rest sz b ((tko st1 (List.take (Tryd.prog.cellsOf 130 / width bK) b1), rest1, sz1), List.take ((↑b1.length : Int) - (64 : Int)).toNat (List.drop (64 : Nat) b1)) ∧ (List.take ((↑b1.length : Int) - (64 : Int)).toNat (List.drop (64 : Nat) b1)).length < b1.length)) ∧ (decide ((↑b1.length : Int) ≥ (64 : Int)) = false → (wrS ((st1, rest1, sz1), b1)).triv (wrJ st rest sz b ((st1, rest1, sz1), b1) ∧ b1.length < (64 : Nat))))) (by kernel_rfl) ?_
    have e64 : Tryd.prog.cellsOf 130 / width bK = 64 := by kernel_rfl
    obtain ⟨hj1, hj2⟩ := hj
    refine ⟨fun h => ?_, fun h => triv_intro ⟨⟨hj1, hj2⟩, by have := of_decide_eq_false h; omega⟩⟩
    have h64 : 64 ≤ b1.length := by have := of_decide_eq_true h; omega
    have hd : List.take ((↑b1.length : Int) - (64 : Int)).toNat (List.drop 64 b1) = b1.drop 64 := List.take_of_length_le (by rw [List.length_drop]; omega)
    show 64 ≤ b1.length ∧ 0 + Tryd.prog.cellsOf 130 / width bK ≤ b1.length ∧ _
    rw [e64, hd]
    refine ⟨h64, by omega, fun _ _ h => h, trivial, ⟨by omega, by omega⟩, triv_intro ⟨⟨?_, hj2⟩, ?_⟩⟩
    · show ((wrEnd tko (tko st1 (List.take (Tryd.prog.cellsOf 130 / width bK) b1)) rest1 (b1.drop 64)).1, (wrEnd tko (tko st1 (List.take (Tryd.prog.cellsOf 130 / width bK) b1)) rest1 (b1.drop 64)).2, sz1) = _
      rw [e64, wrEnd_step _ _ _ h64]; exact hj1
    · rw [List.length_drop]; omega
  rintro ⟨⟨st2, rest2, sz2⟩, b2⟩ hj
  revert st2 rest2 sz2 b2
  intro (b2 : List Int) (st2 : List Int) (rest2 : List Int) (sz2 : Int) (hj : wrJ st rest sz b ((st2, rest2, sz2), b2) ∧ b2.length < 64)
  refine tr_vc hsp mixed _ _ ?_
  refine vcx (X := ((0 : Nat) + (64 : Nat) ≤ (64 : Nat) ∧ ((st2, List.take (0 : Nat) rest2 ++ (List.take (b2.length.min (64 : Nat)) b2 ++ List.drop ((0 : Nat) + b2.length.min (64 : Nat)) rest2), sz2), ()) = (wro st rest sz b, ()))) (by kernel_rfl) ?_
  obtain ⟨⟨hj1, hj2⟩, hlt⟩ := hj
  have hlt : b2.length < 64 := hlt
  refine ⟨by decide, ?_⟩
  have e1 : b2.length.min 64 = b2.length := Nat.min_eq_left (by omega)
  have e2 : tailOf b2 = b2 := by rw [tailOf, show b2.length / 64 = 0 by omega]; rfl
  rw [← hj1, e1]
  show ((st2, List.take 0 rest2 ++ (List.take b2.length b2 ++ List.drop (0 + b2.length) rest2), sz2), ()) = (((wrEnd tko st2 rest2 b2).1, (wrEnd tko st2 rest2 b2).2, sz2), ())
  unfold wrEnd
  rw [e2, List.take_of_length_le (Nat.le_refl _), show b2.length / 64 = 0 by omega, Nat.zero_add]
  rfl
noncomputable def spWrite : Nat × Eng.Spec := (99, fnSpecPG shaG hashK [.sl bK] [] preWr (fun ((st, rest, sz), b, _) => (wro st rest sz b, ())))
end Go.Proofs.YtbfimfdhmggieaaDoor.sha
/- sha: Sum, Of. -/
namespace Go.Proofs.YtbfimfdhmggieaaDoor.sha
set_option maxRecDepth 100000
open Go Go.Eng Go.RowKit Cr Go.Proofs.YtbfimfdhmggieaaDoor
theorem set_fill (f : Nat → Int) (p : List Int) (k n : Nat) : (p ++ ((List.range k).map f ++ List.replicate (n + 1) 0)).set (p.length + k) (f k) = p ++ ((List.range (k + 1)).map f ++ List.replicate n 0) := by
  rw [List.set_append_right _ _ (by omega), show p.length + k - p.length = k by omega, List.set_append_right _ _ (by simp)]
  rw [show k - ((List.range k).map f).length = 0 by simp, List.replicate_succ, List.set_cons_zero, List.range_succ, List.map_append, List.append_assoc]
  rfl
theorem wrap_u8 (x : Int) : IntKind.u8.wrap x = x % 256 := by
  simp only [IntKind.wrap, IntKind.signed, IntKind.bits]
  simp
theorem ent_sum : enters Tryd.prog 100 Tryd.f100 := enters_mk (by kernel_rfl) (by kernel_rfl) (by kernel_rfl)
def nn (sz : Int) : Nat := (64 + 55 - sz.toNat % 64) % 64
def szB (sz : Int) (i : Nat) : Int := sz * 8 / 2 ^ (56 - 8 * i) % 256
def tlk (sz : Int) (k : Nat) : List Int := (128 :: List.replicate (nn sz) 0) ++ ((List.range k).map (szB sz) ++ List.replicate (71 - nn sz - k) 0)
theorem tlk_pad (sz : Int) (h : 0 ≤ sz) : (tlk sz 8).take (1 + nn sz + 8) = padB sz.toNat := by
  have e : tlk sz 8 = ((128 :: List.replicate (nn sz) 0) ++ (List.range 8).map (szB sz)) ++ List.replicate (71 - nn sz - 8) 0 := by rw [tlk, List.append_assoc]
  rw [e, List.take_left' (by simp; omega)]
  have e2 : ((sz.toNat : Nat) : Int) = sz := by omega
  unfold padB szB nn
  rw [e2]
  rfl
noncomputable def smA (st rest : List Int) (sz : Int) (n : Int) (g : Int × List Int) : St := mkSt Tryd.f100.ntmps 129 [(0, .is (.one (.ptr 0 0))), (2, .is (.one (.ptr 1 0))), (3, .is (.one (.ptr 9 0))), (4, .is (.one (.ptr 33 0))), (5, sI .i64 n), (20, sI .i64 g.1)] [(33, [.ints .u8 72 g.2]), (9, [.ints .u8 32 (List.replicate 32 0)]), (1, [.ints .u8 32 (List.replicate 32 0)]), (0, [.ints .u32 8 st, .ints .u8 64 rest, .v (.int .i64 sz)])]
noncomputable def smB (st rest : List Int) (sz : Int) (y : Car hashK) (g : Int × List Int) : St := mkSt Tryd.f100.ntmps 217 [(2, .is (.one (.ptr 1 0))), (3, .is (.one (.ptr 9 0))), (7, .is (.one (.ptr 153 0))), (48, sI .i64 g.1)] [(153, [.ints .u32 8 y.1, .ints .u8 64 y.2.1, .v (.int .i64 y.2.2)]), (9, [.ints .u8 32 g.2]), (1, [.ints .u8 32 (List.replicate 32 0)]), (0, [.ints .u32 8 st, .ints .u8 64 rest, .v (.int .i64 sz)])]
def outE (s : List Int) (i : Nat) : Int := IntKind.u8.wrap ((s.getD (i / 4) 0).fdiv (2 ^ (24 - 8 * (i % 4))))
def oK (s : List Int) (k : Nat) : List Int := [] ++ ((List.range k).map (outE s) ++ List.replicate (32 - k) 0)
noncomputable def sumo (st rest : List Int) (sz : Int) : List Int := opq (outB (wro st rest sz (padB sz.toNat)).1)
theorem took_sum {L st rest : List Int} {sz : Int} (h : Took tko firstL L st rest sz) : sumo st rest sz = dig L := by
  have e : sz.toNat = L.length := by have := h.1; omega
  have k := took_wro h (padB L.length)
  have hne : L ++ padB L.length ≠ [] := by simp [padB]
  rw [sumo, opq_eq, dig, opq_eq, digF, e, k.2.2.1 hne]
theorem fn_sum : FnOkP Tryd.prog 100 hashK [] [.val (.arr 32 bK)] shaG (fun ((_, _, sz), _) => (0 : Int) ≤ sz ∧ sz ≤ (1152921504606846976 : Int)) (fun ((st, rest, sz), _) => ((st, rest, sz), (sumo st rest sz, ()))) := by
  have hsp : SpecsOk Tryd.prog (sps [spWrite]) := sps_cons (fnSpecPG_ok fn_write) sps_nil
  refine fn_of_trP (sp := sps [spWrite]) ent_sum (by decide) (by decide) (by kernel_rfl) ?_
  rintro w M0 b0 ⟨st, rest, sz⟩ ⟨⟩
  revert st rest sz
  intro (st : List Int) (rest : List Int) (sz : Int) hw hw2 hp
  have hs0 : (0 : Int) ≤ sz := hp.1
  have hs1 : sz ≤ (1152921504606846976 : Int) := hp.2
  have hnn : nn sz < 64 := Nat.mod_lt _ (by decide)
  have hn0 : (119 - sz.tmod 64).tmod 64 = (nn sz : Int) := by
    rw [Int.tmod_eq_emod_of_nonneg hs0, Int.tmod_eq_emod_of_nonneg (by omega)]
    show _ = (((64 + 55 - sz.toNat % 64) % 64 : Nat) : Int)
    omega
  have hw64 : IntKind.u64.wrap sz = sz := by
    simp only [IntKind.wrap, IntKind.signed, IntKind.bits]
    simp; omega
  have hw8 : IntKind.u64.wrap (sz * 8) = sz * 8 := by
    simp only [IntKind.wrap, IntKind.signed, IntKind.bits]
    simp; omega
  show Tr _ _ _ _ _ _ _
  refine tr_cutF hsp mixed 8 (fun σ => (rdS (.int .i64) 5 σ, rdR bK 33 σ)) (fun g => smA st rest sz g.1 (0, g.2)) (fun g => g.1 = (nn sz : Int) ∧ g.2 = tlk sz 0) ?_ ?_
  · refine vcx (X := ((0 : Nat) < (72 : Nat) ∧ ((64 : Int) = (0 : Int) → False) ∧ ((64 : Int) = (0 : Int) → False) ∧ (smA st rest sz ((IntKind.i64.wrap ((119 : Int) - sz.tmod (64 : Int))).tmod (64 : Int), [(128 : Int), (0 : Int), (0 : Int), (0 : Int), (0 : Int), (0 : Int), (0 : Int), (0 : Int), (0 : Int), (0 : Int), (0 : Int), (0 : Int), (0 : Int), (0 : Int), (0 : Int), (0 : Int), (0 : Int), (0 : Int), (0 : Int), (0 : Int), (0 : Int), (0 : Int), (0 : Int), (0 : Int), (0 : Int), (0 : Int), (0 : Int), (0 : Int), (0 : Int), (0 : Int), (0 : Int), (0 : Int), (0 : Int), (0 : Int), (0 : Int), (0 : Int), (0 : Int), (0 : Int), (0 : Int), (0 : Int), (0 : Int), (0 : Int), (0 : Int), (0 : Int), (0 : Int), (0 : Int), (0 : Int), (0 : Int), (0 : Int), (0 : Int), (0 : Int), (0 : Int), (0 : Int), (0 : Int), (0 : Int), (0 : Int), (0 : Int), (0 : Int), (0 : Int), (0 : Int), (0 : Int), (0 : Int), (0 : Int), (0 : Int), (0 : Int), (0 : Int), (0 : Int), (0 : Int), (0 : Int), (0 : Int), (0 : Int), (0 : Int)]).fst ((0 : Int), ((IntKind.i64.wrap ((119 : Int) - sz.tmod (64 : Int))).tmod (64 : Int), [(128 : Int), (0 : Int), (0 : Int), (0 : Int), (0 : Int), (0 : Int), (0 : Int), (0 : Int), (0 : Int), (0 : Int), (0 : Int), (0 : Int), (0 : Int), (0 : Int), (0 : Int), (0 : Int), (0 : Int), (0 : Int), (0 : Int), (0 : Int), (0 : Int), (0 : Int), (0 : Int), (0 : Int), (0 : Int), (0 : Int), (0 : Int), (0 : Int), (0 : Int), (0 : Int), (0 : Int), (0 : Int), (0 : Int), (0 : Int), (0 : Int), (0 : Int), (0 : Int), (0 : Int), (0 : Int), (0 : Int), (0 : Int), (0 : Int), (0 : Int), (0 : Int), (0 : Int), (0 : Int), (0 : Int), (0 : Int), (0 : Int), (0 : Int), (0 : Int), (0 : Int), (0 : Int), (0 : Int), (0 : Int), (0 : Int), (0 : Int), (0 : Int), (0 : Int), (0 : Int), (0 : Int), (0 : Int), (0 : Int), (0 : Int), (0 : Int), (0 : Int), (0 : Int), (0 : Int), (0 : Int), (0 : Int), (0 : Int), (0 : Int)]).snd)).triv ((IntKind.i64.wrap ((119 : Int) - sz.tmod (64 : Int))).tmod (64 : Int) = (↑(nn sz) : Int) ∧ [(128 : Int), (0 : Int), (0 : Int), (0 : Int), (0 : Int), (0 : Int), (0 : Int), (0 : Int), (0 : Int), (0 : Int), (0 : Int), (0 : Int), (0 : Int), (0 : Int), (0 : Int), (0 : Int), (0 : Int), (0 : Int), (0 : Int), (0 : Int), (0 : Int), (0 : Int), (0 : Int), (0 : Int), (0 : Int), (0 : Int), (0 : Int), (0 : Int), (0 : Int), (0 : Int), (0 : Int), (0 : Int), (0 : Int), (0 : Int), (0 : Int), (0 : Int), (0 : Int), (0 : Int), (0 : Int), (0 : Int), (0 : Int), (0 : Int), (0 : Int), (0 : Int), (0 : Int), (0 : Int), (0 : Int), (0 : Int), (0 : Int), (0 : Int), (0 : Int), (0 : Int), (0 : Int), (0 : Int), (0 : Int), (0 : Int), (0 : Int), (0 : Int), (0 : Int), (0 : Int), (0 : Int), (0 : Int), (0 : Int), (0 : Int), (0 : Int), (0 : Int), (0 : Int), (0 : Int), (0 : Int), (0 : Int), (0 : Int), (0 : Int)] = tlk sz (0 : Nat)))) (by kernel_rfl) ?_
    have e : IntKind.i64.wrap (119 - sz.tmod 64) = 119 - sz.tmod 64 := by
      rw [Int.tmod_eq_emod_of_nonneg hs0]; exact wrap_i64' (by omega) (by omega)
    rw [e, hn0]
    refine ⟨by decide, by decide, by decide, triv_intro ⟨rfl, ?_⟩⟩
    show _ = (128 :: List.replicate (nn sz) 0) ++ ([] ++ List.replicate (71 - nn sz - 0) 0)
    rw [List.nil_append, List.cons_append, List.replicate_append_replicate, show nn sz + (71 - nn sz - 0) = 71 by omega]
    rfl
  rintro ⟨n0, t0⟩ hK
  revert n0 t0
  intro (n0 : Int) (t0 : List Int) ⟨e0, et⟩
  have e0 : n0 = (nn sz : Int) := e0
  have et : t0 = tlk sz 0 := et
  subst e0 et
  refine tr_while hsp mixed noSw (fun σ => (rdS (.int .i64) 20 σ, rdR bK 33 σ)) (smA st rest sz (nn sz)) (fun g => ∃ k : Nat, k ≤ 8 ∧ g.1 = (k : Int) ∧ g.2 = tlk sz k) (fun g => 8 - g.1.toNat)
    (fun σ => (rdS (.int .i64) 20 σ, rdR bK 33 σ)) (smA st rest sz (nn sz)) (fun g => g.2 = tlk sz 8) (0, tlk sz 0) (c := nthC (codeOf Tryd.f100) 8) (by kernel_rfl) (by kernel_rfl) (le_of_proj (by kernel_rfl) (by kernel_rfl) ?_) ?_ ?_
  · exact ⟨0, by decide, rfl, rfl⟩
  · rintro ⟨i, l⟩ hj
    revert i l
    intro (i : Int) (l : List Int) ⟨k, hk, ei, el⟩
    have ei : i = (k : Int) := ei
    have kl : l = tlk sz k := el
    subst ei
    refine vcx (X := ((decide ((↑k : Int) < (8 : Int)) = true → (0 : Int) ≤ IntKind.i64.wrap ((56 : Int) - IntKind.i64.wrap ((8 : Int) * (↑k : Int))) ∧ ((0 : Int) ≤ IntKind.i64.wrap (IntKind.i64.wrap ((1 : Int) + (↑(nn sz) : Int)) + (↑k : Int)) ∧ IntKind.i64.wrap (IntKind.i64.wrap ((1 : Int) + (↑(nn sz) : Int)) + (↑k : Int)) < (↑(72 : Nat) : Int)) ∧ (IntKind.i64.wrap (IntKind.i64.wrap ((1 : Int) + (↑(nn sz) : Int)) + (↑k : Int))).toNat < (72 : Nat) ∧ (smA st rest sz (↑(nn sz) : Int) (IntKind.i64.wrap ((↑k : Int) + (1 : Int)), l.set (IntKind.i64.wrap (IntKind.i64.wrap ((1 : Int) + (↑(nn sz) : Int)) + (↑k : Int))).toNat (IntKind.u8.wrap ((IntKind.u64.wrap (IntKind.u64.wrap sz * (8 : Int))).fdiv ((2 : Int) ^ min (IntKind.i64.wrap ((56 : Int) - IntKind.i64.wrap ((8 : Int) * (↑k : Int)))).toNat IntKind.u64.bits))))).triv ((∃ k_1, k_1 ≤ (8 : Nat) ∧ IntKind.i64.wrap ((↑k : Int) + (1 : Int)) = (↑k_1 : Int) ∧ l.set (IntKind.i64.wrap (IntKind.i64.wrap ((1 : Int) + (↑(nn sz) : Int)) + (↑k : Int))).toNat (IntKind.u8.wrap ((IntKind.u64.wrap (IntKind.u64.wrap sz * (8 : Int))).fdiv ((2 : Int) ^ min (IntKind.i64.wrap ((56 : Int) - IntKind.i64.wrap ((8 : Int) * (↑k : Int)))).toNat IntKind.u64.bits))) = tlk sz k_1) ∧ (8 : Nat) - (IntKind.i64.wrap ((↑k : Int) + (1 : Int))).toNat < (8 : Nat) - (↑k : Int).toNat)) ∧ (decide ((↑k : Int) < (8 : Int)) = false → (smA st rest sz (↑(nn sz) : Int) ((↑k : Int), l)).triv (l = tlk sz (8 : Nat))))) (by kernel_rfl) ?_
    refine ⟨fun h => ?_, fun h => triv_intro ?_⟩
    · have h4 : k < 8 := by have := of_decide_eq_true h; omega
      have e1 : IntKind.i64.wrap (IntKind.i64.wrap ((1 : Int) + (nn sz : Int)) + (k : Int)) = ((1 + nn sz + k : Nat) : Int) := by
        rw [wrap_i64' (a := 1 + (nn sz : Int)) (by omega) (by omega), wrap_i64' (by omega) (by omega)]; omega
      have e2 : IntKind.i64.wrap (56 - IntKind.i64.wrap (8 * (k : Int))) = ((56 - 8 * k : Nat) : Int) := by
        rw [wrap_i64' (a := 8 * (k : Int)) (by omega) (by omega), wrap_i64' (by omega) (by omega)]; omega
      rw [e1, e2, wrap_succ (by omega), hw64, hw8]
      simp only [Int.toNat_natCast]
      refine ⟨by omega, ⟨by omega, by omega⟩, by omega, triv_intro ⟨⟨k + 1, h4, rfl, ?_⟩, by omega⟩⟩
      have ev : IntKind.u8.wrap ((sz * 8).fdiv (2 ^ min (56 - 8 * k) IntKind.u64.bits)) = szB sz k := by
        have hm : min (56 - 8 * k) IntKind.u64.bits = 56 - 8 * k := Nat.min_eq_left (show 56 - 8 * k ≤ 64 by omega)
        rw [wrap_u8, hm, Int.fdiv_eq_ediv_of_nonneg _ (Int.le_of_lt (Int.pow_pos (by decide)))]; rfl
      rw [ev, kl, tlk, tlk, show 71 - nn sz - k = (71 - nn sz - (k + 1)) + 1 by omega]
      have := set_fill (szB sz) (128 :: List.replicate (nn sz) 0) k (71 - nn sz - (k + 1))
      rw [show (128 :: List.replicate (nn sz) (0 : Int)).length = 1 + nn sz by simp; omega] at this
      exact this
    · have : k = 8 := by have := of_decide_eq_false h; omega
      rw [kl, this]
  rintro ⟨i1, l1⟩ hl1
  revert i1 l1
  intro (i1 : Int) (l1 : List Int) (hl1 : l1 = tlk sz 8)
  subst hl1
  refine tr_cutF hsp mixed 3 (fun σ => rdB hashK 153 σ) (fun y => smB st rest sz y (0, List.replicate 32 0)) (fun y => y = wro st rest sz (padB sz.toNat)) ?_ ?_
  · refine vcx (X := (((0 : Int) ≤ IntKind.i64.wrap (IntKind.i64.wrap ((1 : Int) + (↑(nn sz) : Int)) + (8 : Int)) ∧ IntKind.i64.wrap (IntKind.i64.wrap ((1 : Int) + (↑(nn sz) : Int)) + (8 : Int)) ≤ (↑(72 : Nat) : Int)) ∧ (∀ (g : Nat) (s : Sigma Car), shaG g = some s → Decidable.rec (fun h => (fun x => if g = (1 : Nat) then some ⟨Kd.arr (64 : Nat) uK, rootsL⟩ else none) h) (fun h => (fun x => some ⟨Kd.arr (8 : Nat) uK, firstL⟩) h) (instDecidableEqNat g (0 : Nat)) = some s) ∧ (0 : Nat) + (IntKind.i64.wrap (IntKind.i64.wrap ((1 : Int) + (↑(nn sz) : Int)) + (8 : Int)) - (0 : Int)).toNat ≤ (72 : Nat) ∧ preWr ((st, rest, sz), List.take (IntKind.i64.wrap (IntKind.i64.wrap ((1 : Int) + (↑(nn sz) : Int)) + (8 : Int)) - (0 : Int)).toNat (tlk sz (8 : Nat)), ()) ∧ (smB st rest sz (wro st rest sz (List.take (IntKind.i64.wrap (IntKind.i64.wrap ((1 : Int) + (↑(nn sz) : Int)) + (8 : Int)) - (0 : Int)).toNat (tlk sz (8 : Nat)))) ((0 : Int), List.replicate (32 : Nat) (0 : Int))).triv (wro st rest sz (List.take (IntKind.i64.wrap (IntKind.i64.wrap ((1 : Int) + (↑(nn sz) : Int)) + (8 : Int)) - (0 : Int)).toNat (tlk sz (8 : Nat))) = wro st rest sz (padB sz.toNat)))) (by kernel_rfl) ?_
    have e1 : IntKind.i64.wrap (IntKind.i64.wrap ((1 : Int) + (nn sz : Int)) + 8) = ((1 + nn sz + 8 : Nat) : Int) := by
      rw [wrap_i64' (a := 1 + (nn sz : Int)) (by omega) (by omega), wrap_i64' (by omega) (by omega)]; omega
    have e2 : (((1 + nn sz + 8 : Nat) : Int) - 0).toNat = 1 + nn sz + 8 := by omega
    rw [e1, e2, tlk_pad sz hs0]
    refine ⟨⟨by omega, by omega⟩, fun _ _ h => h, by omega, ⟨hs0, hs1, ?_⟩, triv_intro rfl⟩
    show (padB sz.toNat).length ≤ _
    rw [← tlk_pad sz hs0, List.length_take]; omega
  rintro ⟨y1, y2, y3⟩ hy
  revert y1 y2 y3
  intro (y1 : List Int) (y2 : List Int) (y3 : Int) (hy : (y1, y2, y3) = wro st rest sz (padB sz.toNat))
  rw [hy]
  refine tr_while hsp mixed noSw (fun σ => (rdS (.int .i64) 48 σ, rdR bK 9 σ)) (smB st rest sz (wro st rest sz (padB sz.toNat))) (fun g => ∃ k : Nat, k ≤ 32 ∧ g.1 = (k : Int) ∧ g.2 = oK (wro st rest sz (padB sz.toNat)).1 k) (fun g => 32 - g.1.toNat)
    (fun σ => (rdS (.int .i64) 48 σ, rdR bK 9 σ)) (smB st rest sz (wro st rest sz (padB sz.toNat))) (fun g => g.2 = oK (wro st rest sz (padB sz.toNat)).1 32) (0, List.replicate 32 0) (c := nthC (codeOf Tryd.f100) 12) (by kernel_rfl) (by kernel_rfl) (le_of_proj (by kernel_rfl) (by kernel_rfl) ?_) ?_ ?_
  · exact ⟨0, by decide, rfl, rfl⟩
  · rintro ⟨i, l⟩ hj
    revert i l
    intro (i : Int) (l : List Int) ⟨k, hk, ei, el⟩
    have ei : i = (k : Int) := ei
    have kl : l = oK (wro st rest sz (padB sz.toNat)).1 k := el
    subst ei
    refine vcx (X := ((decide ((↑k : Int) < (32 : Int)) = true → ((4 : Int) = (0 : Int) → False) ∧ ((0 : Int) ≤ IntKind.i64.wrap ((↑k : Int).tdiv (4 : Int)) ∧ IntKind.i64.wrap ((↑k : Int).tdiv (4 : Int)) < (↑(8 : Nat) : Int)) ∧ (IntKind.i64.wrap ((↑k : Int).tdiv (4 : Int))).toNat < (8 : Nat) ∧ ((4 : Int) = (0 : Int) → False) ∧ (0 : Int) ≤ IntKind.i64.wrap ((24 : Int) - IntKind.i64.wrap ((8 : Int) * (↑k : Int).tmod (4 : Int))) ∧ ((0 : Int) ≤ (↑k : Int) ∧ (↑k : Int) < (↑(32 : Nat) : Int)) ∧ (↑k : Int).toNat < (32 : Nat) ∧ (smB st rest sz (wro st rest sz (padB sz.toNat)) (IntKind.i64.wrap ((↑k : Int) + (1 : Int)), l.set (↑k : Int).toNat (IntKind.u8.wrap (((wro st rest sz (padB sz.toNat)).fst.getD (IntKind.i64.wrap ((↑k : Int).tdiv (4 : Int))).toNat (0 : Int)).fdiv ((2 : Int) ^ min (IntKind.i64.wrap ((24 : Int) - IntKind.i64.wrap ((8 : Int) * (↑k : Int).tmod (4 : Int)))).toNat IntKind.u32.bits))))).triv ((∃ k_1, k_1 ≤ (32 : Nat) ∧ IntKind.i64.wrap ((↑k : Int) + (1 : Int)) = (↑k_1 : Int) ∧ l.set (↑k : Int).toNat (IntKind.u8.wrap (((wro st rest sz (padB sz.toNat)).fst.getD (IntKind.i64.wrap ((↑k : Int).tdiv (4 : Int))).toNat (0 : Int)).fdiv ((2 : Int) ^ min (IntKind.i64.wrap ((24 : Int) - IntKind.i64.wrap ((8 : Int) * (↑k : Int).tmod (4 : Int)))).toNat IntKind.u32.bits))) = oK (wro st rest sz (padB sz.toNat)).fst k_1) ∧ (32 : Nat) - (IntKind.i64.wrap ((↑k : Int) + (1 : Int))).toNat < (32 : Nat) - (↑k : Int).toNat)) ∧ (decide ((↑k : Int) < (32 : Int)) = false → (smB st rest sz (wro st rest sz (padB sz.toNat)) ((↑k : Int), l)).triv (l = oK (wro st rest sz (padB sz.toNat)).fst (32 : Nat))))) (by kernel_rfl) ?_
    refine ⟨fun h => ?_, fun h => triv_intro ?_⟩
    · have h4 : k < 32 := by have := of_decide_eq_true h; omega
      have e1 : IntKind.i64.wrap ((k : Int).tdiv 4) = ((k / 4 : Nat) : Int) := by
        rw [Int.tdiv_eq_ediv_of_nonneg (by omega), wrap_i64' (by omega) (by omega)]; omega
      have e2 : IntKind.i64.wrap (24 - IntKind.i64.wrap (8 * (k : Int).tmod 4)) = ((24 - 8 * (k % 4) : Nat) : Int) := by
        rw [Int.tmod_eq_emod_of_nonneg (by omega), wrap_i64' (a := 8 * ((k : Int) % 4)) (by omega) (by omega), wrap_i64' (by omega) (by omega)]; omega
      rw [e1, e2, wrap_succ (by omega)]
      simp only [Int.toNat_natCast]
      refine ⟨by decide, ⟨by omega, by omega⟩, by omega, by decide, by omega, ⟨by omega, by omega⟩, h4, triv_intro ⟨⟨k + 1, h4, rfl, ?_⟩, by omega⟩⟩
      have ev : IntKind.u8.wrap (((wro st rest sz (padB sz.toNat)).1.getD (k / 4) 0).fdiv (2 ^ min (24 - 8 * (k % 4)) IntKind.u32.bits)) = outE (wro st rest sz (padB sz.toNat)).1 k := by
        have hm : min (24 - 8 * (k % 4)) IntKind.u32.bits = 24 - 8 * (k % 4) := Nat.min_eq_left (show 24 - 8 * (k % 4) ≤ 32 by omega)
        rw [hm]; rfl
      rw [ev, kl, oK, oK, show 32 - k = (32 - (k + 1)) + 1 by omega]
      have := set_fill (outE (wro st rest sz (padB sz.toNat)).1) [] k (32 - (k + 1))
      rw [show ([] : List Int).length + k = k by simp] at this
      exact this
    · have : k = 32 := by have := of_decide_eq_false h; omega
      rw [kl, this]
  rintro ⟨i2, l2⟩ hl2
  revert i2 l2
  intro (i2 : Int) (l2 : List Int) (hl2 : l2 = oK (wro st rest sz (padB sz.toNat)).1 32)
  refine tr_vc hsp mixed _ _ ?_
  refine vcx (X := (((st, rest, sz), l2, ()) = ((st, rest, sz), sumo st rest sz, ()))) (by kernel_rfl) ?_
  rw [hl2, sumo, opq_eq]
  have e : oK (wro st rest sz (padB sz.toNat)).1 32 = outB (wro st rest sz (padB sz.toNat)).1 := by
    show [] ++ (_ ++ []) = _
    rw [List.append_nil, List.nil_append]; rfl
  rw [e]
noncomputable def spSum : Nat × Eng.Spec := (100, fnSpecPG shaG hashK [] [.val (.arr 32 bK)] (fun ((_, _, sz), _) => (0 : Int) ≤ sz ∧ sz ≤ (1152921504606846976 : Int)) (fun ((st, rest, sz), _) => ((st, rest, sz), (sumo st rest sz, ()))))
theorem ent_of : enters Tryd.prog 44 Tryd.f44 := enters_mk (by kernel_rfl) (by kernel_rfl) (by kernel_rfl)
noncomputable def ofS (ps : List (List Int)) (g : Int × Car hashK) : St := mkSt Tryd.f44.ntmps 40 [(2, .is (.one (.ptr 0 0))), (3, .is (.one (.ptr 8 0))), (6, .is (.one (.ro (.sl bK) ps))), (7, sI .i64 ps.length), (8, sI .i64 g.1)] [(8, [.ints .u32 8 g.2.1, .ints .u8 64 g.2.2.1, .v (.int .i64 g.2.2.2)]), (0, [.ints .u8 32 (List.replicate 32 0)])]
abbrev preOf : HL [.sl (.sl bK)] → Prop := fun (ps, _) => List.length (List.flatten ps) ≤ 1099511627776 ∧ List.length ps ≤ 1099511627776
theorem fn_of : FnOk Tryd.prog 44 [.sl (.sl bK)] [.val (.arr 32 bK)] shaG preOf (fun (ps, _) => (dig (List.flatten ps), ())) := by
  have hsp : SpecsOk Tryd.prog (sps [spWrite, spSum]) := sps_cons (fnSpecPG_ok fn_write) (sps_cons (fnSpecPG_ok fn_sum) sps_nil)
  refine fn_of_tr (sp := sps [spWrite, spSum]) ent_of (by decide) (by decide) (by kernel_rfl) ?_
  rintro w M0 ⟨ps, ⟨⟩⟩
  revert ps
  intro (ps : List (List Int)) _ hp
  have hl : (List.flatten ps).length ≤ 1099511627776 := hp.1
  have hn : ps.length ≤ 1099511627776 := hp.2
  show Tr _ _ _ _ _ _ _
  refine tr_cut hsp mixed 3 (ofS ps (0, (List.replicate 8 0, List.replicate 64 0, 0))) True ?_ (fun _ => ?_)
  · refine vcx (X := ((ofS ps ((0 : Int), List.replicate (8 : Nat) (0 : Car uK), List.replicate (64 : Nat) (0 : Car bK), (0 : Car (Kd.int IntKind.i64)))).triv True)) (by kernel_rfl) ?_
    exact triv_intro trivial
  refine tr_while hsp mixed noSw (fun σ => (rdS (.int .i64) 8 σ, rdB hashK 8 σ)) (ofS ps) (fun g => ∃ k : Nat, k ≤ ps.length ∧ g.1 = (k : Int) ∧ Took tko firstL (List.flatten (ps.take k)) g.2.1 g.2.2.1 g.2.2.2) (fun g => ps.length - g.1.toNat)
    (fun σ => (rdS (.int .i64) 8 σ, rdB hashK 8 σ)) (ofS ps) (fun g => Took tko firstL (List.flatten ps) g.2.1 g.2.2.1 g.2.2.2) (0, (List.replicate 8 0, List.replicate 64 0, 0)) (c := nthC (codeOf Tryd.f44) 3) (by kernel_rfl) (by kernel_rfl) (le_of_proj (by kernel_rfl) (by kernel_rfl) ?_) ?_ ?_
  · exact ⟨0, Nat.zero_le _, rfl, took_nil tko firstL _ _ List.length_replicate⟩
  · rintro ⟨i, st, rest, sz⟩ hj
    revert i st rest sz
    intro (i : Int) (st : List Int) (rest : List Int) (sz : Int) ⟨k, hk, ei, tk⟩
    have ei : i = (k : Int) := ei
    have tk : Took tko firstL (List.flatten (ps.take k)) st rest sz := tk
    subst ei
    refine vcx (X := ((decide ((↑k : Int) < (↑ps.length : Int)) = true → ((0 : Int) ≤ (↑k : Int) ∧ (↑k : Int) < (↑ps.length : Int)) ∧ (↑k : Int).toNat < ps.length ∧ (∀ (g : Nat) (s : Sigma Car), shaG g = some s → Decidable.rec (fun h => (fun x => if g = (1 : Nat) then some ⟨Kd.arr (64 : Nat) uK, rootsL⟩ else none) h) (fun h => (fun x => some ⟨Kd.arr (8 : Nat) uK, firstL⟩) h) (instDecidableEqNat g (0 : Nat)) = some s) ∧ preWr ((st, rest, sz), ps.getD (↑k : Int).toNat [], ()) ∧ (ofS ps (IntKind.i64.wrap ((↑k : Int) + (1 : Int)), wro st rest sz (ps.getD (↑k : Int).toNat []))).triv ((∃ k_1, k_1 ≤ ps.length ∧ IntKind.i64.wrap ((↑k : Int) + (1 : Int)) = (↑k_1 : Int) ∧ Took tko firstL (List.take k_1 ps).flatten (wro st rest sz (ps.getD (↑k : Int).toNat [])).fst (wro st rest sz (ps.getD (↑k : Int).toNat [])).snd.fst (wro st rest sz (ps.getD (↑k : Int).toNat [])).snd.snd) ∧ ps.length - (IntKind.i64.wrap ((↑k : Int) + (1 : Int))).toNat < ps.length - (↑k : Int).toNat)) ∧ (decide ((↑k : Int) < (↑ps.length : Int)) = false → (ofS ps ((↑k : Int), st, rest, sz)).triv (Took tko firstL ps.flatten st rest sz)))) (by kernel_rfl) ?_
    refine ⟨fun h => ?_, fun h => triv_intro ?_⟩
    · have h4 : k < ps.length := by have := of_decide_eq_true h; omega
      have hx : ps.getD k [] = ps[k] := by simp [List.getElem?_eq_getElem h4]
      have hf : (ps.take (k + 1)).flatten = (ps.take k).flatten ++ ps.getD k [] := by
        rw [List.take_succ_eq_append_getElem h4, List.flatten_append, hx]; simp
      have hlen : (ps.take (k + 1)).flatten.length ≤ ps.flatten.length := by
        have : ps.flatten = (ps.take (k + 1)).flatten ++ (ps.drop (k + 1)).flatten := by rw [← List.flatten_append, List.take_append_drop]
        rw [this, List.length_append]; omega
      have hsz : sz = (((ps.take k).flatten.length : Nat) : Int) := tk.1
      have hl2 : (ps.take k).flatten.length + (ps.getD k []).length ≤ 1099511627776 := by
        rw [hf, List.length_append] at hlen; omega
      rw [wrap_succ (by omega)]
      simp only [Int.toNat_natCast]
      have a1 : (0 : Int) ≤ sz := by rw [hsz]; omega
      have a2 : sz ≤ (1152921504606846976 : Int) := by rw [hsz]; omega
      refine ⟨⟨by omega, by omega⟩, h4, fun _ _ h => h, ⟨a1, a2, ?_⟩, triv_intro ⟨⟨k + 1, h4, rfl, ?_⟩, by omega⟩⟩
      · show (ps.getD k []).length ≤ _
        omega
      · rw [hf]; exact took_wro tk _
    · have : k = ps.length := by have := of_decide_eq_false h; omega
      rw [this, List.take_length] at tk
      exact tk
  rintro ⟨i, st, rest, sz⟩ hj
  revert i st rest sz
  intro (i : Int) (st : List Int) (rest : List Int) (sz : Int) (tk : Took tko firstL (List.flatten ps) st rest sz)
  refine tr_vc hsp mixed _ _ ?_
  refine vcx (X := ((∀ (g : Nat) (s : Sigma Car), shaG g = some s → Decidable.rec (fun h => (fun x => if g = (1 : Nat) then some ⟨Kd.arr (64 : Nat) uK, rootsL⟩ else none) h) (fun h => (fun x => some ⟨Kd.arr (8 : Nat) uK, firstL⟩) h) (instDecidableEqNat g (0 : Nat)) = some s) ∧ ((0 : Int) ≤ sz ∧ sz ≤ (1152921504606846976 : Int)) ∧ (sumo st rest sz, ()) = (dig ps.flatten, ()))) (by kernel_rfl) ?_
  have hsz : sz = ((ps.flatten.length : Nat) : Int) := tk.1
  have a1 : (0 : Int) ≤ sz := by rw [hsz]; omega
  have a2 : sz ≤ (1152921504606846976 : Int) := by rw [hsz]; omega
  exact ⟨fun _ _ h => h, ⟨a1, a2⟩, by rw [took_sum tk]⟩
noncomputable def spOf : Nat × Eng.Spec := (44, fnSpecG shaG [.sl (.sl bK)] [.val (.arr 32 bK)] preOf (fun (ps, _) => (dig (List.flatten ps), ())))
end Go.Proofs.YtbfimfdhmggieaaDoor.sha
/- xmd: words of a digest. -/
namespace Go.Proofs.YtbfimfdhmggieaaDoor.xmd
set_option maxRecDepth 100000
open Go Go.Eng Go.RowKit Cr Go.Proofs.YtbfimfdhmggieaaDoor Go.Proofs.YtbfimfdhmggieaaDoor.sha
theorem ent_split : enters Tryd.prog 45 Tryd.f45 := enters_mk (by kernel_rfl) (by kernel_rfl) (by kernel_rfl)
def sB (d : List Int) (i j : Nat) (w : List Int) : List Int := w.set i (bitOp .or .u32 (IntKind.u32.wrap (w.getD i 0 * 2 ^ min (8 : Nat) IntKind.u32.bits)) (IntKind.u32.wrap (d.getD (4 * i + j) 0)))
def sBk (d : List Int) (i : Nat) (w : List Int) (j : Nat) : List Int := it (fun j w => sB d i j w) w j
def sAk (d : List Int) (i : Nat) : List Int := it (fun i w => sBk d i w 4) (List.replicate 8 0) i
/-- A digest's words. -/
noncomputable def spl (d : List Int) : List Int := opq (sAk d 8)
theorem sBk_len (d : List Int) (i : Nat) (w : List Int) : ∀ j, (sBk d i w j).length = w.length
  | 0 => rfl
  | j + 1 => by show (sB d i j _).length = _; rw [sB, List.length_set]; exact sBk_len d i w j
theorem sAk_len (d : List Int) : ∀ i, (sAk d i).length = 8
  | 0 => rfl
  | i + 1 => by show (sBk d i _ 4).length = _; rw [sBk_len]; exact sAk_len d i
theorem spl_len (d : List Int) : (spl d).length = 8 := by rw [spl, opq_eq, sAk_len]
noncomputable def spA (d : List Int) (g : Int × List Int) : St := mkSt Tryd.f45.ntmps 32 [(1, .is (.one (.ptr 0 0))), (2, .is (.one (.ptr 8 0))), (3, .is (.one (.ptr 16 0))), (6, sI .i64 g.1)] [(16, [.ints .u32 8 g.2]), (8, [.ints .u32 8 (List.replicate 8 0)]), (0, [.ints .u8 32 d])]
noncomputable def spB (d : List Int) (i : Nat) (g : Int × List Int) : St := mkSt Tryd.f45.ntmps 32 [(1, .is (.one (.ptr 0 0))), (2, .is (.one (.ptr 8 0))), (3, .is (.one (.ptr 16 0))), (4, sI .i64 i), (6, sI .i64 i), (9, sI .i64 g.1)] [(16, [.ints .u32 8 g.2]), (8, [.ints .u32 8 (List.replicate 8 0)]), (0, [.ints .u8 32 d])]
theorem fn_split : FnOk Tryd.prog 45 [.arr 32 bK] [.val (.arr 8 uK)] noG (fun _ => True) (fun (d, _) => (spl d, ())) := by
  have hsp : SpecsOk Tryd.prog (sps []) := sps_nil
  refine fn_of_tr (sp := sps []) ent_split (by decide) (by decide) (by kernel_rfl) ?_
  rintro w M0 ⟨d, ⟨⟩⟩
  revert d
  intro (d : List Int) hw _
  have hd : d.length = 32 := hw.1.1
  show Tr _ _ _ _ _ _ _
  refine tr_cut hsp mixed 3 (spA d (0, List.replicate 8 0)) True ?_ (fun _ => ?_)
  · refine vcx (X := ((spA d ((0 : Int), List.replicate (8 : Nat) (0 : Int))).triv True)) (by kernel_rfl) ?_
    exact triv_intro trivial
  refine tr_whileT noSw (fun σ => (rdS (.int .i64) 6 σ, rdR uK 16 σ)) (spA d) (fun g => ∃ k : Nat, k ≤ 8 ∧ g.1 = (k : Int) ∧ g.2 = sAk d k) (fun g => 8 - g.1.toNat)
    (fun σ => (rdS (.int .i64) 6 σ, rdR uK 16 σ)) (spA d) (fun g => g.2 = sAk d 8) (0, List.replicate 8 0) (c := nthC (codeOf Tryd.f45) 3) (by kernel_rfl) (by kernel_rfl) (le_of_proj (by kernel_rfl) (by kernel_rfl) ?_) ?_ ?_
  · exact ⟨0, by decide, rfl, rfl⟩
  · rintro ⟨i, wl⟩ hj
    revert i wl
    intro (i : Int) (wl : List Int) ⟨k, hk, ei, ew⟩
    have ei : i = (k : Int) := ei
    have kw : wl = sAk d k := ew
    subst ei
    refine tr_cut hsp mixed 2 (spA d ((k : Int), wl)) (k < 8) ?_ (fun hlt => ?_)
    · refine vcx (X := ((decide ((↑k : Int) < (8 : Int)) = true → (spA d ((↑k : Int), wl)).triv (k < (8 : Nat))) ∧ (decide ((↑k : Int) < (8 : Int)) = false → (spA d ((↑k : Int), wl)).triv (wl = sAk d (8 : Nat))))) (by kernel_rfl) ?_
      refine ⟨fun h => triv_intro (by have := of_decide_eq_true h; omega), fun h => triv_intro ?_⟩
      have : k = 8 := by have := of_decide_eq_false h; omega
      rw [kw, this]
    refine tr_block (c := nthC (loopOf (nthC (codeOf Tryd.f45) 3)) 2) (by kernel_rfl) (by kernel_rfl) ?_
    refine tr_cut hsp mixed 2 (spB d k (0, wl)) True ?_ (fun _ => ?_)
    · refine vcx (X := ((spB d k ((0 : Int), wl)).triv True)) (by kernel_rfl) ?_
      exact triv_intro trivial
    refine tr_while hsp mixed noSw (fun σ => (rdS (.int .i64) 9 σ, rdR uK 16 σ)) (spB d k) (fun g => ∃ j : Nat, j ≤ 4 ∧ g.1 = (j : Int) ∧ g.2 = sBk d k wl j) (fun g => 4 - g.1.toNat)
      (fun σ => rdR uK 16 σ) (fun w => spA d ((k : Int), w)) (fun w => w = sBk d k wl 4) (0, wl) (c := nthC (bodyOf (nthC (loopOf (nthC (codeOf Tryd.f45) 3)) 2)) 2) (by kernel_rfl) (by kernel_rfl) (le_of_proj (by kernel_rfl) (by kernel_rfl) ?_) ?_ ?_
    · exact ⟨0, by decide, rfl, rfl⟩
    · rintro ⟨j, wj⟩ hj
      revert j wj
      intro (j : Int) (wj : List Int) ⟨t, ht, ej, ewj⟩
      have ej : j = (t : Int) := ej
      have kwj : wj = sBk d k wl t := ewj
      subst ej
      refine vcx (X := ((decide ((↑t : Int) < (4 : Int)) = true → ((0 : Int) ≤ (↑k : Int) ∧ (↑k : Int) < (↑(8 : Nat) : Int)) ∧ (↑k : Int).toNat < (8 : Nat) ∧ (0 : Int) ≤ (8 : Int) ∧ ((0 : Int) ≤ IntKind.i64.wrap (IntKind.i64.wrap ((4 : Int) * (↑k : Int)) + (↑t : Int)) ∧ IntKind.i64.wrap (IntKind.i64.wrap ((4 : Int) * (↑k : Int)) + (↑t : Int)) < (↑(32 : Nat) : Int)) ∧ (IntKind.i64.wrap (IntKind.i64.wrap ((4 : Int) * (↑k : Int)) + (↑t : Int))).toNat < (32 : Nat) ∧ ((0 : Int) ≤ (↑k : Int) ∧ (↑k : Int) < (↑(8 : Nat) : Int)) ∧ (↑k : Int).toNat < (8 : Nat) ∧ (spB d k (IntKind.i64.wrap ((↑t : Int) + (1 : Int)), wj.set (↑k : Int).toNat (bitOp BinOp.or IntKind.u32 (IntKind.u32.wrap (wj.getD (↑k : Int).toNat (0 : Int) * (2 : Int) ^ min (8 : Nat) IntKind.u32.bits)) (IntKind.u32.wrap (d.getD (IntKind.i64.wrap (IntKind.i64.wrap ((4 : Int) * (↑k : Int)) + (↑t : Int))).toNat (0 : Int)))))).triv ((∃ j, j ≤ (4 : Nat) ∧ IntKind.i64.wrap ((↑t : Int) + (1 : Int)) = (↑j : Int) ∧ wj.set (↑k : Int).toNat (bitOp BinOp.or IntKind.u32 (IntKind.u32.wrap (wj.getD (↑k : Int).toNat (0 : Int) * (2 : Int) ^ min (8 : Nat) IntKind.u32.bits)) (IntKind.u32.wrap (d.getD (IntKind.i64.wrap (IntKind.i64.wrap ((4 : Int) * (↑k : Int)) + (↑t : Int))).toNat (0 : Int)))) = sBk d k wl j) ∧ (4 : Nat) - (IntKind.i64.wrap ((↑t : Int) + (1 : Int))).toNat < (4 : Nat) - (↑t : Int).toNat)) ∧ (decide ((↑t : Int) < (4 : Int)) = false → (spA d ((↑k : Int), wj)).triv (wj = sBk d k wl (4 : Nat))))) (by kernel_rfl) ?_
      refine ⟨fun h => ?_, fun h => triv_intro ?_⟩
      · have h4 : t < 4 := by have := of_decide_eq_true h; omega
        have e1 : IntKind.i64.wrap (IntKind.i64.wrap ((4 : Int) * (k : Int)) + (t : Int)) = ((4 * k + t : Nat) : Int) := by
          rw [wrap_i64' (a := 4 * (k : Int)) (by omega) (by omega), wrap_i64' (by omega) (by omega)]; omega
        rw [e1, wrap_succ (by omega), Int.toNat_natCast, Int.toNat_natCast]
        exact ⟨⟨by omega, by omega⟩, by omega, by decide, ⟨by omega, by omega⟩, by omega, ⟨by omega, by omega⟩, by omega, triv_intro ⟨⟨t + 1, h4, rfl, by rw [kwj]; rfl⟩, by rw [Int.toNat_natCast, Int.toNat_natCast]; omega⟩⟩
      · have : t = 4 := by have := of_decide_eq_false h; omega
        rw [kwj, this]
    intro (w' : List Int) (hw' : w' = sBk d k wl 4)
    refine tr_nil ?_
    refine tr_vc hsp mixed _ _ ?_
    refine vcx (X := ((spA d (IntKind.i64.wrap ((↑k : Int) + (1 : Int)), w')).triv ((∃ k_1, k_1 ≤ (8 : Nat) ∧ IntKind.i64.wrap ((↑k : Int) + (1 : Int)) = (↑k_1 : Int) ∧ w' = sAk d k_1) ∧ (8 : Nat) - (IntKind.i64.wrap ((↑k : Int) + (1 : Int))).toNat < (8 : Nat) - (↑k : Int).toNat))) (by kernel_rfl) ?_
    rw [wrap_succ (by omega)]
    exact triv_intro ⟨⟨k + 1, hlt, rfl, by rw [hw', kw]; rfl⟩, by rw [Int.toNat_natCast, Int.toNat_natCast]; omega⟩
  rintro ⟨i1, w1⟩ hw1
  revert i1 w1
  intro (i1 : Int) (w1 : List Int) (hw1 : w1 = sAk d 8)
  refine tr_vc hsp mixed _ _ ?_
  refine vcx (X := ((w1, ()) = (spl d, ()))) (by kernel_rfl) ?_
  rw [hw1, spl, opq_eq]
noncomputable def spSplit : Nat × Eng.Spec := (45, fnSpec [.arr 32 bK] [.val (.arr 8 uK)] (fun _ => True) (fun (d, _) => (spl d, ())))
theorem ent_over : enters Tryd.prog 46 Tryd.f46 := enters_mk (by kernel_rfl) (by kernel_rfl) (by kernel_rfl)
def oA (b : List Int) (i : Nat) (a : List Int) : List Int := a.set i (bitOp .xor .u32 (a.getD i 0) (b.getD i 0))
def oAk (a b : List Int) (i : Nat) : List Int := it (oA b) a i
/-- Words over words. -/
noncomputable def ovr (a b : List Int) : List Int := opq (oAk a b 8)
theorem oAk_len (a b : List Int) : ∀ i, (oAk a b i).length = a.length
  | 0 => rfl
  | i + 1 => by show (oA b i _).length = _; rw [oA, List.length_set]; exact oAk_len a b i
noncomputable def ovS (b : List Int) (g : Int × List Int) : St := mkSt Tryd.f46.ntmps 40 [(2, .is (.one (.ptr 0 0))), (4, .is (.one (.ptr 16 0))), (7, sA .u32 8 b), (8, sI .i64 g.1)] [(16, [.ints .u32 8 (List.replicate 8 0)]), (0, [.ints .u32 8 g.2])]
theorem fn_over : FnOk Tryd.prog 46 [.arr 8 uK, .arr 8 uK] [.val (.arr 8 uK)] noG (fun _ => True) (fun (a, b, _) => (ovr a b, ())) := by
  have hsp : SpecsOk Tryd.prog (sps []) := sps_nil
  refine fn_of_tr (sp := sps []) ent_over (by decide) (by decide) (by kernel_rfl) ?_
  rintro w M0 ⟨a, b, ⟨⟩⟩
  revert a b
  intro (a : List Int) (b : List Int) hw _
  have ha : a.length = 8 := hw.1.1
  show Tr _ _ _ _ _ _ _
  refine tr_cut hsp mixed 2 (ovS b (0, a)) True ?_ (fun _ => ?_)
  · refine vcx (X := ((ovS b ((0 : Int), a)).triv True)) (by kernel_rfl) ?_
    exact triv_intro trivial
  refine tr_while hsp mixed noSw (fun σ => (rdS (.int .i64) 8 σ, rdR uK 0 σ)) (ovS b) (fun g => ∃ k : Nat, k ≤ 8 ∧ g.1 = (k : Int) ∧ g.2 = oAk a b k) (fun g => 8 - g.1.toNat)
    (fun σ => (rdS (.int .i64) 8 σ, rdR uK 0 σ)) (ovS b) (fun g => g.2 = oAk a b 8) (0, a) (c := nthC (codeOf Tryd.f46) 2) (by kernel_rfl) (by kernel_rfl) (le_of_proj (by kernel_rfl) (by kernel_rfl) ?_) ?_ ?_
  · exact ⟨0, by decide, rfl, rfl⟩
  · rintro ⟨i, l⟩ hj
    revert i l
    intro (i : Int) (l : List Int) ⟨k, hk, ei, el⟩
    have ei : i = (k : Int) := ei
    have kl : l = oAk a b k := el
    subst ei
    refine vcx (X := ((decide ((↑k : Int) < (8 : Int)) = true → ((0 : Int) ≤ (↑k : Int) ∧ (↑k : Int) < (↑(8 : Nat) : Int)) ∧ ((0 : Int) ≤ (↑k : Int) ∧ (↑k : Int) < (↑(8 : Nat) : Int)) ∧ (↑k : Int).toNat < (8 : Nat) ∧ ((0 : Int) ≤ (↑k : Int) ∧ (↑k : Int) < (↑(8 : Nat) : Int)) ∧ (↑k : Int).toNat < (8 : Nat) ∧ (ovS b (IntKind.i64.wrap ((↑k : Int) + (1 : Int)), l.set (↑k : Int).toNat (bitOp BinOp.xor IntKind.u32 (l.getD (↑k : Int).toNat (0 : Int)) (b.getD (↑k : Int).toNat (0 : Int))))).triv ((∃ k_1, k_1 ≤ (8 : Nat) ∧ IntKind.i64.wrap ((↑k : Int) + (1 : Int)) = (↑k_1 : Int) ∧ l.set (↑k : Int).toNat (bitOp BinOp.xor IntKind.u32 (l.getD (↑k : Int).toNat (0 : Int)) (b.getD (↑k : Int).toNat (0 : Int))) = oAk a b k_1) ∧ (8 : Nat) - (IntKind.i64.wrap ((↑k : Int) + (1 : Int))).toNat < (8 : Nat) - (↑k : Int).toNat)) ∧ (decide ((↑k : Int) < (8 : Int)) = false → (ovS b ((↑k : Int), l)).triv (l = oAk a b (8 : Nat))))) (by kernel_rfl) ?_
    refine ⟨fun h => ?_, fun h => triv_intro ?_⟩
    · have h4 : k < 8 := by have := of_decide_eq_true h; omega
      rw [wrap_succ (by omega)]
      simp only [Int.toNat_natCast]
      exact ⟨⟨by omega, by omega⟩, ⟨by omega, by omega⟩, h4, ⟨by omega, by omega⟩, h4, triv_intro ⟨⟨k + 1, h4, rfl, by rw [kl]; rfl⟩, by omega⟩⟩
    · have : k = 8 := by have := of_decide_eq_false h; omega
      rw [kl, this]
  rintro ⟨i1, w1⟩ hw1
  revert i1 w1
  intro (i1 : Int) (w1 : List Int) (hw1 : w1 = oAk a b 8)
  refine tr_vc hsp mixed _ _ ?_
  refine vcx (X := ((w1, ()) = (ovr a b, ()))) (by kernel_rfl) ?_
  rw [hw1, ovr, opq_eq]
noncomputable def spOver : Nat × Eng.Spec := (46, fnSpec [.arr 8 uK, .arr 8 uK] [.val (.arr 8 uK)] (fun _ => True) (fun (a, b, _) => (ovr a b, ())))
theorem ent_bytes : enters Tryd.prog 47 Tryd.f47 := enters_mk (by kernel_rfl) (by kernel_rfl) (by kernel_rfl)
def bB (w : List Int) (i j : Nat) (d : List Int) : List Int := d.set (4 * i + j) (IntKind.u8.wrap ((w.getD i 0).fdiv (2 ^ min (24 - 8 * j) IntKind.u32.bits)))
def bBk (w : List Int) (i : Nat) (d : List Int) (j : Nat) : List Int := it (fun j d => bB w i j d) d j
def bAk (w : List Int) (i : Nat) : List Int := it (fun i d => bBk w i d 4) (List.replicate 32 0) i
/-- Words' bytes. -/
noncomputable def byt (w : List Int) : List Int := opq (bAk w 8)
theorem bBk_len (w : List Int) (i : Nat) (d : List Int) : ∀ j, (bBk w i d j).length = d.length
  | 0 => rfl
  | j + 1 => by show (bB w i j _).length = _; rw [bB, List.length_set]; exact bBk_len w i d j
theorem bAk_len (w : List Int) : ∀ i, (bAk w i).length = 32
  | 0 => rfl
  | i + 1 => by show (bBk w i _ 4).length = _; rw [bBk_len]; exact bAk_len w i
theorem byt_len (w : List Int) : (byt w).length = 32 := by rw [byt, opq_eq, bAk_len]
noncomputable def byA (wd : List Int) (g : Int × List Int) : St := mkSt Tryd.f47.ntmps 40 [(2, .is (.one (.ptr 8 0))), (3, .is (.one (.ptr 16 0))), (7, sA .u32 8 wd), (8, sI .i64 g.1)] [(16, [.ints .u8 32 g.2]), (8, [.ints .u8 32 (List.replicate 32 0)])]
noncomputable def byB (wd : List Int) (i : Nat) (x : Int) (g : Int × List Int) : St := mkSt Tryd.f47.ntmps 40 [(2, .is (.one (.ptr 8 0))), (3, .is (.one (.ptr 16 0))), (4, sI .i64 i), (5, sI .u32 x), (7, sA .u32 8 wd), (8, sI .i64 i), (12, sI .i64 g.1)] [(16, [.ints .u8 32 g.2]), (8, [.ints .u8 32 (List.replicate 32 0)])]
theorem fn_bytes : FnOk Tryd.prog 47 [.arr 8 uK] [.val (.arr 32 bK)] noG (fun _ => True) (fun (w, _) => (byt w, ())) := by
  have hsp : SpecsOk Tryd.prog (sps []) := sps_nil
  refine fn_of_tr (sp := sps []) ent_bytes (by decide) (by decide) (by kernel_rfl) ?_
  rintro w M0 ⟨wd, ⟨⟩⟩
  revert wd
  intro (wd : List Int) hw _
  have hd : wd.length = 8 := hw.1.1
  show Tr _ _ _ _ _ _ _
  refine tr_cut hsp mixed 3 (byA wd (0, List.replicate 32 0)) True ?_ (fun _ => ?_)
  · refine vcx (X := ((byA wd ((0 : Int), List.replicate (32 : Nat) (0 : Int))).triv True)) (by kernel_rfl) ?_
    exact triv_intro trivial
  refine tr_whileT noSw (fun σ => (rdS (.int .i64) 8 σ, rdR bK 16 σ)) (byA wd) (fun g => ∃ k : Nat, k ≤ 8 ∧ g.1 = (k : Int) ∧ g.2 = bAk wd k) (fun g => 8 - g.1.toNat)
    (fun σ => (rdS (.int .i64) 8 σ, rdR bK 16 σ)) (byA wd) (fun g => g.2 = bAk wd 8) (0, List.replicate 32 0) (c := nthC (codeOf Tryd.f47) 3) (by kernel_rfl) (by kernel_rfl) (le_of_proj (by kernel_rfl) (by kernel_rfl) ?_) ?_ ?_
  · exact ⟨0, by decide, rfl, rfl⟩
  · rintro ⟨i, wl⟩ hj
    revert i wl
    intro (i : Int) (wl : List Int) ⟨k, hk, ei, ew⟩
    have ei : i = (k : Int) := ei
    have kw : wl = bAk wd k := ew
    subst ei
    refine tr_cut hsp mixed 2 (byA wd ((k : Int), wl)) (k < 8) ?_ (fun hlt => ?_)
    · refine vcx (X := ((decide ((↑k : Int) < (8 : Int)) = true → (byA wd ((↑k : Int), wl)).triv (k < (8 : Nat))) ∧ (decide ((↑k : Int) < (8 : Int)) = false → (byA wd ((↑k : Int), wl)).triv (wl = bAk wd (8 : Nat))))) (by kernel_rfl) ?_
      refine ⟨fun h => triv_intro (by have := of_decide_eq_true h; omega), fun h => triv_intro ?_⟩
      have : k = 8 := by have := of_decide_eq_false h; omega
      rw [kw, this]
    refine tr_block (c := nthC (loopOf (nthC (codeOf Tryd.f47) 3)) 2) (by kernel_rfl) (by kernel_rfl) ?_
    refine tr_cutF hsp mixed 2 (fun σ => rdS (.int .u32) 5 σ) (fun x => byB wd k x (0, wl)) (fun x => x = wd.getD k 0) ?_ ?_
    · refine vcx (X := (((0 : Int) ≤ (↑k : Int) ∧ (↑k : Int) < (↑(8 : Nat) : Int)) ∧ (byB wd k (wd.getD (↑k : Int).toNat (0 : Int)) ((0 : Int), wl)).triv (wd.getD (↑k : Int).toNat (0 : Int) = wd.getD k (0 : Int)))) (by kernel_rfl) ?_
      simp only [Int.toNat_natCast]
      exact ⟨⟨by omega, by omega⟩, triv_intro (by first | exact trivial | rfl)⟩
    intro (x : Int) (hx : x = wd.getD k 0)
    refine tr_while hsp mixed noSw (fun σ => (rdS (.int .i64) 12 σ, rdR bK 16 σ)) (byB wd k x) (fun g => ∃ j : Nat, j ≤ 4 ∧ g.1 = (j : Int) ∧ g.2 = bBk wd k wl j) (fun g => 4 - g.1.toNat)
      (fun σ => rdR bK 16 σ) (fun w => byA wd ((k : Int), w)) (fun w => w = bBk wd k wl 4) (0, wl) (c := nthC (bodyOf (nthC (loopOf (nthC (codeOf Tryd.f47) 3)) 2)) 2) (by kernel_rfl) (by kernel_rfl) (le_of_proj (by kernel_rfl) (by kernel_rfl) ?_) ?_ ?_
    · exact ⟨0, by decide, rfl, rfl⟩
    · rintro ⟨j, wj⟩ hj
      revert j wj
      intro (j : Int) (wj : List Int) ⟨t, ht, ej, ewj⟩
      have ej : j = (t : Int) := ej
      have kwj : wj = bBk wd k wl t := ewj
      subst ej
      refine vcx (X := ((decide ((↑t : Int) < (4 : Int)) = true → (0 : Int) ≤ IntKind.i64.wrap ((24 : Int) - IntKind.i64.wrap ((8 : Int) * (↑t : Int))) ∧ ((0 : Int) ≤ IntKind.i64.wrap (IntKind.i64.wrap ((4 : Int) * (↑k : Int)) + (↑t : Int)) ∧ IntKind.i64.wrap (IntKind.i64.wrap ((4 : Int) * (↑k : Int)) + (↑t : Int)) < (↑(32 : Nat) : Int)) ∧ (IntKind.i64.wrap (IntKind.i64.wrap ((4 : Int) * (↑k : Int)) + (↑t : Int))).toNat < (32 : Nat) ∧ (byB wd k x (IntKind.i64.wrap ((↑t : Int) + (1 : Int)), wj.set (IntKind.i64.wrap (IntKind.i64.wrap ((4 : Int) * (↑k : Int)) + (↑t : Int))).toNat (IntKind.u8.wrap (x.fdiv ((2 : Int) ^ min (IntKind.i64.wrap ((24 : Int) - IntKind.i64.wrap ((8 : Int) * (↑t : Int)))).toNat IntKind.u32.bits))))).triv ((∃ j, j ≤ (4 : Nat) ∧ IntKind.i64.wrap ((↑t : Int) + (1 : Int)) = (↑j : Int) ∧ wj.set (IntKind.i64.wrap (IntKind.i64.wrap ((4 : Int) * (↑k : Int)) + (↑t : Int))).toNat (IntKind.u8.wrap (x.fdiv ((2 : Int) ^ min (IntKind.i64.wrap ((24 : Int) - IntKind.i64.wrap ((8 : Int) * (↑t : Int)))).toNat IntKind.u32.bits))) = bBk wd k wl j) ∧ (4 : Nat) - (IntKind.i64.wrap ((↑t : Int) + (1 : Int))).toNat < (4 : Nat) - (↑t : Int).toNat)) ∧ (decide ((↑t : Int) < (4 : Int)) = false → (byA wd ((↑k : Int), wj)).triv (wj = bBk wd k wl (4 : Nat))))) (by kernel_rfl) ?_
      refine ⟨fun h => ?_, fun h => triv_intro ?_⟩
      · have h4 : t < 4 := by have := of_decide_eq_true h; omega
        have e1 : IntKind.i64.wrap (IntKind.i64.wrap ((4 : Int) * (k : Int)) + (t : Int)) = ((4 * k + t : Nat) : Int) := by
          rw [wrap_i64' (a := 4 * (k : Int)) (by omega) (by omega), wrap_i64' (by omega) (by omega)]; omega
        have e2 : IntKind.i64.wrap (24 - IntKind.i64.wrap ((8 : Int) * (t : Int))) = ((24 - 8 * t : Nat) : Int) := by
          rw [wrap_i64' (a := 8 * (t : Int)) (by omega) (by omega), wrap_i64' (by omega) (by omega)]; omega
        rw [e1, e2, wrap_succ (by omega)]
        simp only [Int.toNat_natCast]
        exact ⟨by omega, ⟨by omega, by omega⟩, by omega, triv_intro ⟨⟨t + 1, h4, rfl, by rw [kwj, hx]; rfl⟩, by omega⟩⟩
      · have : t = 4 := by have := of_decide_eq_false h; omega
        rw [kwj, this]
    intro (w' : List Int) (hw' : w' = bBk wd k wl 4)
    refine tr_nil ?_
    refine tr_vc hsp mixed _ _ ?_
    refine vcx (X := ((byA wd (IntKind.i64.wrap ((↑k : Int) + (1 : Int)), w')).triv ((∃ k_1, k_1 ≤ (8 : Nat) ∧ IntKind.i64.wrap ((↑k : Int) + (1 : Int)) = (↑k_1 : Int) ∧ w' = bAk wd k_1) ∧ (8 : Nat) - (IntKind.i64.wrap ((↑k : Int) + (1 : Int))).toNat < (8 : Nat) - (↑k : Int).toNat))) (by kernel_rfl) ?_
    rw [wrap_succ (by omega)]
    exact triv_intro ⟨⟨k + 1, hlt, rfl, by rw [hw', kw]; rfl⟩, by rw [Int.toNat_natCast, Int.toNat_natCast]; omega⟩
  rintro ⟨i1, w1⟩ hw1
  revert i1 w1
  intro (i1 : Int) (w1 : List Int) (hw1 : w1 = bAk wd 8)
  refine tr_vc hsp mixed _ _ ?_
  refine vcx (X := ((w1, ()) = (byt wd, ()))) (by kernel_rfl) ?_
  rw [hw1, byt, opq_eq]
noncomputable def spBytes : Nat × Eng.Spec := (47, fnSpec [.arr 8 uK] [.val (.arr 32 bK)] (fun _ => True) (fun (w, _) => (byt w, ())))
end Go.Proofs.YtbfimfdhmggieaaDoor.xmd
/- xmd: Expand. -/
namespace Go.Proofs.YtbfimfdhmggieaaDoor.xmd
set_option maxRecDepth 100000
open Go Go.Eng Go.RowKit Cr Go.Proofs.YtbfimfdhmggieaaDoor Go.Proofs.YtbfimfdhmggieaaDoor.sha
abbrev bsl : Kd := .sl bK
def overS : List Int := [72, 50, 67, 45, 79, 86, 69, 82, 83, 73, 90, 69, 45, 68, 83, 84, 45]
/-- The tag that stands for a tag. -/
noncomputable def tagF (tag : List Int) : List Int := match decide (255 < tag.length) with
  | true => dig (overS ++ tag)
  | false => tag
noncomputable def endF (t : List Int) : List Int := [IntKind.u8.wrap t.length]
noncomputable def fstF (msg t : List Int) (n : Int) : List Int := spl (dig (List.flatten [List.replicate 64 0, msg, [IntKind.u8.wrap (n.fdiv (2 ^ min (8 : Nat) IntKind.i64.bits)), IntKind.u8.wrap n, 0], t, endF t]))
/-- A round: the bytes so far, the last words. -/
noncomputable def nxD (f t : List Int) (i : Nat) (last : List Int) : List Int := dig (List.flatten [byt (ovr f last), [IntKind.u8.wrap ((i : Int) + 1)], t, endF t])
noncomputable def exK (f t : List Int) (i : Nat) : List Int × List Int := it (fun i s => (s.1 ++ nxD f t i s.2, spl (nxD f t i s.2))) ([], List.replicate 8 0) i
theorem exK_len (f t : List Int) : ∀ i, (exK f t i).1.length = 32 * i
  | 0 => rfl
  | i + 1 => by show ((exK f t i).1 ++ nxD f t i _).length = _; rw [List.length_append, exK_len f t i, nxD, dig_len]; omega
noncomputable def expF (msg tag : List Int) (n : Int) : List Int := (exK (fstF msg (tagF tag) n) (tagF tag) ((n.toNat + 31) / 32)).1.take n.toNat
/-- The bytes. -/
noncomputable def expo (msg tag : List Int) (n : Int) : List Int := opq (expF msg tag n)
theorem expo_len (msg tag : List Int) (n : Int) : (expo msg tag n).length = n.toNat := by
  rw [expo, opq_eq, expF, List.length_take, exK_len]; omega
/-- The answer. -/
noncomputable def exA (msg tag : List Int) (n : Int) : List Int × Int := match decide (n < 0) || decide (n > 8160) with
  | true => ([], 1)
  | false => (expo msg tag n, 0)
noncomputable def exS (m : List Int) (n : Int) (t : List Int) : St := mkSt Tryd.f13.ntmps 88 [(0, .is (.one (.ro bK m))), (1, .is (.one (.ro bK t))), (2, sI .i64 n)] []
noncomputable def exS0 (m : List Int) (n : Int) (t : List Int) : St := mkSt Tryd.f13.ntmps 88 [(0, .is (.one (.ro bK m))), (1, .is (.one (.ro bK t))), (2, sI .i64 n), (24, .is (.one (.v (.bool (decide ((t.length : Int) > 255))))))] []
theorem tr_eqL {E : Env} {N : Nat} {n r : St → Prop} {x : Nat → St → Prop} {l l' : List Code} {σ : St} (h : l = l') (ht : Tr E N l' σ n r x) : Tr E N l σ n r x := h ▸ ht
noncomputable def exS1 (m : List Int) (n : Int) (d : List Int) : St := mkSt Tryd.f13.ntmps 160 [(0, .is (.one (.ro bK m))), (1, .is (.one (.sl 128 0 0 32 1))), (2, sI .i64 n)] [(128, [.ints .u8 32 d])]
abbrev Xg : Type := Int × Nat × Nat × List Int × List Int
noncomputable def exI (n : Int) (t e f : List Int) (g : Xg) : St := mkSt Tryd.f13.ntmps 296 [(1, .is (.one (.ro bK t))), (2, sI .i64 n), (9, .is (.one (.sl 112 0 0 1 1))), (10, .is (.one (.ptr 232 0))), (11, .is (.one (.sl 264 0 0 g.2.1 1))), (12, .is (.one (.ptr 280 0))), (13, sI .i64 g.1)] [(280, [.ints .u32 8 g.2.2.2.2]), (264, [.ints .u8 g.2.2.1 g.2.2.2.1]), (232, [.ints .u32 8 f]), (112, [.ints .u8 1 e])]
noncomputable def exJ (n : Int) (t f : List Int) (g : Xg) : Prop := ∃ k : Nat, g.1 = (k : Int) + 1 ∧ g.2.1 = 32 * k ∧ g.2.1 ≤ g.2.2.1 ∧ g.2.2.2.1.take (32 * k) = (exK f t k).1 ∧ g.2.2.2.2 = (exK f t k).2 ∧ ((32 * k : Nat) : Int) < n + 32
theorem ent_expand : enters Tryd.prog 13 Tryd.f13 := enters_mk (by kernel_rfl) (by kernel_rfl) (by kernel_rfl)
abbrev preEx : HL [bsl, bsl, .int .i64] → Prop := fun (m, t, _) => List.length m ≤ 1048576 ∧ List.length t ≤ 1048576
theorem fn_expand : FnOk Tryd.prog 13 [bsl, bsl, .int .i64] [.own bK, .val (.int .i64)] shaG preEx (fun (m, t, n, _) => ((exA m t n).1, (exA m t n).2, ())) := by
  have hsp : SpecsOk Tryd.prog (sps [spOf, spSplit, spOver, spBytes]) := sps_cons (fnSpecG_ok fn_of) (sps_cons (fnSpec_ok fn_split) (sps_cons (fnSpec_ok fn_over) (sps_cons (fnSpec_ok fn_bytes) sps_nil)))
  refine fn_of_tr (sp := sps [spOf, spSplit, spOver, spBytes]) ent_expand (by decide) (by decide) (by kernel_rfl) ?_
  rintro w M0 ⟨m, t, n, ⟨⟩⟩
  revert m t n
  intro (m : List Int) (t : List Int) (n : Int) hw hp
  have hm : m.length ≤ 1048576 := hp.1
  have ht : t.length ≤ 1048576 := hp.2
  show Tr _ _ _ _ _ _ _
  have rest : ∀ t' : List Int, t'.length ≤ 255 → 0 ≤ n → n ≤ 8160 → tagF t = t' → Tr ⟨Tryd.prog, sps [spOf, spSplit, spOver, spBytes], ⟨w, [], shaG, M0⟩⟩ Tryd.f13.ntmps (List.drop 5 (codeOf Tryd.f13)) (exS m n t') (retK ⟨Tryd.prog, sps [spOf, spSplit, spOver, spBytes], ⟨w, [], shaG, M0⟩⟩ Tryd.f13 (post [.own bK, .val (.int .i64)] ((exA m t n).1, (exA m t n).2, ()))) (retK ⟨Tryd.prog, sps [spOf, spSplit, spOver, spBytes], ⟨w, [], shaG, M0⟩⟩ Tryd.f13 (post [.own bK, .val (.int .i64)] ((exA m t n).1, (exA m t n).2, ()))) (fun _ _ => False) := by
    intro t' ht' hn0 hn1 htag
    refine tr_cutF hsp mixed 5 (fun σ => (rdR uK 232 σ, rdR bK 112 σ, rdR bK 264 σ)) (fun g => exI n t' g.2.1 g.1 (1, 0, (IntKind.i64.wrap (n + 32)).toNat, g.2.2, List.replicate 8 0)) (fun g => g.1 = fstF m t' n ∧ g.2.1 = endF t') ?_ ?_
    · refine vcx (X := (((0 : Int) ≤ (64 : Int) ∧ (64 : Int) ≤ (64 : Int) ∧ (↑(1 : Nat) : Int) * (64 : Int) ≤ (281474976710656 : Int) ∧ (64 : Int) ≤ (9223372036854775807 : Int)) ∧ (0 : Int) ≤ (8 : Int) ∧ (∀ (g : Nat) (s : Sigma Car), shaG g = some s → Decidable.rec (fun h => (fun x => if g = (1 : Nat) then some ⟨Kd.arr (64 : Nat) uK, rootsL⟩ else none) h) (fun h => (fun x => some ⟨Kd.arr (8 : Nat) uK, firstL⟩) h) (instDecidableEqNat g (0 : Nat)) = some s) ∧ (0 : Nat) + (64 : Nat) ≤ (64 : Nat) ∧ (0 : Nat) + (3 : Nat) ≤ (3 : Nat) ∧ (0 : Nat) + (1 : Nat) ≤ (1 : Nat) ∧ preOf ([List.take (64 : Nat) (List.replicate (64 : Nat) (0 : Int)), m, List.take (3 : Nat) [IntKind.u8.wrap (n.fdiv ((2 : Int) ^ min (8 : Nat) IntKind.i64.bits)), IntKind.u8.wrap n, (0 : Int)], t', List.take (1 : Nat) [IntKind.u8.wrap (↑t'.length : Int)]], ()) ∧ True ∧ ((0 : Int) ≤ (0 : Int) ∧ (0 : Int) ≤ IntKind.i64.wrap (n + (32 : Int)) ∧ (↑(1 : Nat) : Int) * IntKind.i64.wrap (n + (32 : Int)) ≤ (281474976710656 : Int) ∧ IntKind.i64.wrap (n + (32 : Int)) ≤ (9223372036854775807 : Int)) ∧ (exI n t' ((spl (dig [List.take (64 : Nat) (List.replicate (64 : Nat) (0 : Int)), m, List.take (3 : Nat) [IntKind.u8.wrap (n.fdiv ((2 : Int) ^ min (8 : Nat) IntKind.i64.bits)), IntKind.u8.wrap n, (0 : Int)], t', List.take (1 : Nat) [IntKind.u8.wrap (↑t'.length : Int)]].flatten, ()).fst, ()).fst, [IntKind.u8.wrap (↑t'.length : Int)], List.replicate (IntKind.i64.wrap (n + (32 : Int))).toNat (0 : Int)).snd.fst ((spl (dig [List.take (64 : Nat) (List.replicate (64 : Nat) (0 : Int)), m, List.take (3 : Nat) [IntKind.u8.wrap (n.fdiv ((2 : Int) ^ min (8 : Nat) IntKind.i64.bits)), IntKind.u8.wrap n, (0 : Int)], t', List.take (1 : Nat) [IntKind.u8.wrap (↑t'.length : Int)]].flatten, ()).fst, ()).fst, [IntKind.u8.wrap (↑t'.length : Int)], List.replicate (IntKind.i64.wrap (n + (32 : Int))).toNat (0 : Int)).fst ((1 : Int), (0 : Nat), (IntKind.i64.wrap (n + (32 : Int))).toNat, ((spl (dig [List.take (64 : Nat) (List.replicate (64 : Nat) (0 : Int)), m, List.take (3 : Nat) [IntKind.u8.wrap (n.fdiv ((2 : Int) ^ min (8 : Nat) IntKind.i64.bits)), IntKind.u8.wrap n, (0 : Int)], t', List.take (1 : Nat) [IntKind.u8.wrap (↑t'.length : Int)]].flatten, ()).fst, ()).fst, [IntKind.u8.wrap (↑t'.length : Int)], List.replicate (IntKind.i64.wrap (n + (32 : Int))).toNat (0 : Int)).snd.snd, List.replicate (8 : Nat) (0 : Int))).triv (spl (dig [List.take (64 : Nat) (List.replicate (64 : Nat) (0 : Int)), m, List.take (3 : Nat) [IntKind.u8.wrap (n.fdiv ((2 : Int) ^ min (8 : Nat) IntKind.i64.bits)), IntKind.u8.wrap n, (0 : Int)], t', List.take (1 : Nat) [IntKind.u8.wrap (↑t'.length : Int)]].flatten) = fstF m t' n ∧ [IntKind.u8.wrap (↑t'.length : Int)] = endF t'))) (by kernel_rfl) ?_
      have e1 : IntKind.i64.wrap (n + 32) = n + 32 := wrap_i64' (by omega) (by omega)
      have e2 : List.take 64 (List.replicate 64 (0 : Int)) = List.replicate 64 0 := by rw [List.take_of_length_le (by simp)]
      have e3 : ∀ a b c : Int, List.take 3 [a, b, c] = [a, b, c] := fun _ _ _ => rfl
      have e4 : ∀ a : Int, List.take 1 [a] = [a] := fun _ => rfl
      rw [e1, e2, e3, e4]
      refine ⟨⟨by decide, by decide, by decide, by decide⟩, by decide, fun _ _ h => h, by decide, by decide, by decide, ⟨?_, by show 5 ≤ _; decide⟩, trivial, ⟨by decide, by omega, by omega, by omega⟩, triv_intro ⟨rfl, rfl⟩⟩
      show (List.flatten [List.replicate 64 (0 : Int), m, [_, _, 0], t', [_]]).length ≤ 1099511627776
      simp only [List.flatten_cons, List.flatten_nil, List.length_append, List.length_replicate, List.length_cons, List.length_nil]
      omega
    rintro ⟨f, e, x0⟩ ⟨hf, he⟩
    revert f e x0
    intro (f : List Int) (e : List Int) (x0 : List Int) (hf : f = fstF m t' n) (he : e = endF t')
    refine tr_while hsp mixed (fun σ => [(264, rdI 11 σ)]) (fun σ => (rdS (.int .i64) 13 σ, rdL 11 σ, rdN 264 σ, rdR bK 264 σ, rdR uK 280 σ)) (exI n t' e f) (exJ n t' f) (fun g => n.toNat - g.2.1)
      (fun σ => (rdS (.int .i64) 13 σ, rdL 11 σ, rdN 264 σ, rdR bK 264 σ, rdR uK 280 σ)) (exI n t' e f) (fun g => exJ n t' f g ∧ n ≤ (g.2.1 : Int)) (1, 0, (IntKind.i64.wrap (n + 32)).toNat, x0, List.replicate 8 0) (c := nthC (codeOf Tryd.f13) 10) (by kernel_rfl) (by kernel_rfl) (le_of_proj (by kernel_rfl) (by kernel_rfl) ?_) ?_ ?_
    · refine ⟨0, rfl, rfl, Nat.zero_le _, rfl, rfl, ?_⟩
      show ((0 : Nat) : Int) < n + 32
      omega
    · rintro ⟨i, L, N, xs, last⟩ hj
      revert i xs last
      intro (i : Int) (xs : List Int) (last : List Int) (hj : exJ n t' f (i, L, N, xs, last))
      obtain ⟨k, ei, eL, hLN, hx, hl, hk⟩ := hj
      have ei : i = (k : Int) + 1 := ei
      have eL : L = 32 * k := eL
      have hLN : L ≤ N := hLN
      have hx : xs.take (32 * k) = (exK f t' k).1 := hx
      have hl : last = (exK f t' k).2 := hl
      have hbl := byt_len (ovr f last)
      refine vcx (X := ((decide ((↑L : Int) < n) = true → True ∧ True ∧ (∀ (g : Nat) (s : Sigma Car), shaG g = some s → Decidable.rec (fun h => (fun x => if g = (1 : Nat) then some ⟨Kd.arr (64 : Nat) uK, rootsL⟩ else none) h) (fun h => (fun x => some ⟨Kd.arr (8 : Nat) uK, firstL⟩) h) (instDecidableEqNat g (0 : Nat)) = some s) ∧ (0 : Nat) + (32 : Nat) ≤ (32 : Nat) ∧ (0 : Nat) + (1 : Nat) ≤ (1 : Nat) ∧ (0 : Nat) + (1 : Nat) ≤ (1 : Nat) ∧ preOf ([List.take (32 : Nat) (byt (ovr f last)), List.take (1 : Nat) [IntKind.u8.wrap i], t', List.take (1 : Nat) e], ()) ∧ (0 : Nat) + (32 : Nat) ≤ (32 : Nat) ∧ L ≤ N ∧ (L + (32 : Nat)) * (1 : Nat) ≤ (140737488355328 : Nat) ∧ L + (32 : Nat) ≤ (4611686018427387904 : Nat) ∧ True ∧ (exI n t' e f (IntKind.i64.wrap (i + (1 : Int)), L + (32 : Nat), L + (32 : Nat), List.take L xs ++ List.take (32 : Nat) (dig [List.take (32 : Nat) (byt (ovr f last, ()).fst, ()).fst, List.take (1 : Nat) [IntKind.u8.wrap i], t', List.take (1 : Nat) e].flatten, ()).fst, (spl (dig [List.take (32 : Nat) (byt (ovr f last, ()).fst, ()).fst, List.take (1 : Nat) [IntKind.u8.wrap i], t', List.take (1 : Nat) e].flatten, ()).fst, ()).fst)).triv (exJ n t' f (IntKind.i64.wrap (i + (1 : Int)), L + (32 : Nat), L + (32 : Nat), List.take L xs ++ List.take (32 : Nat) (dig [List.take (32 : Nat) (byt (ovr f last)), List.take (1 : Nat) [IntKind.u8.wrap i], t', List.take (1 : Nat) e].flatten), spl (dig [List.take (32 : Nat) (byt (ovr f last)), List.take (1 : Nat) [IntKind.u8.wrap i], t', List.take (1 : Nat) e].flatten)) ∧ n.toNat - (L + (32 : Nat)) < n.toNat - L)) ∧ (decide ((↑L : Int) < n) = false → (exI n t' e f (i, L, N, xs, last)).triv (exJ n t' f (i, L, N, xs, last) ∧ n ≤ (↑L : Int))))) (by kernel_rfl) ?_
      have e5 : List.take 32 (byt (ovr f last)) = byt (ovr f last) := List.take_of_length_le (by omega)
      have e4 : ∀ a : Int, List.take 1 [a] = [a] := fun _ => rfl
      have e6 : List.take 1 e = e := by rw [he]; rfl
      have e7 : ∀ l, List.take 32 (dig l) = dig l := fun l => List.take_of_length_le (by rw [dig_len]; omega)
      refine ⟨fun h => ?_, fun h => triv_intro ⟨⟨k, ei, eL, hLN, hx, hl, hk⟩, by have := of_decide_eq_false h; omega⟩⟩
      have hLn : (L : Int) < n := of_decide_eq_true h
      have e8 : dig (List.flatten [byt (ovr f last), [IntKind.u8.wrap i], t', e]) = nxD f t' k (exK f t' k).2 := by
        rw [nxD, hl, ei, he]
      rw [e5, e4, e6, e8]
      refine ⟨trivial, trivial, fun _ _ h => h, by decide, by decide, by decide, ⟨?_, by show 4 ≤ _; decide⟩, by decide, hLN, by omega, by omega, trivial, ?_⟩
      · show (List.flatten [byt (ovr f last), [IntKind.u8.wrap i], t', e]).length ≤ 1099511627776
        rw [he]
        simp only [List.flatten_cons, List.flatten_nil, List.length_append, List.length_cons, List.length_nil, hbl, endF]
        omega
      · refine triv_intro ⟨⟨k + 1, ?_, ?_, Nat.le_refl _, ?_, ?_, ?_⟩, by omega⟩
        · show IntKind.i64.wrap (i + 1) = _
          rw [ei, wrap_i64' (by omega) (by omega)]; omega
        · show L + 32 = _
          omega
        · show List.take (32 * (k + 1)) (List.take L xs ++ List.take 32 (nxD f t' k (exK f t' k).2)) = _
          rw [nxD, e7, List.take_of_length_le (by rw [List.length_append, List.length_take, dig_len]; omega), eL, hx]
          rfl
        · rfl
        · show ((32 * (k + 1) : Nat) : Int) < n + 32
          omega
    rintro ⟨i, L, N, xs, last⟩ hj
    revert i xs last
    intro (i : Int) (xs : List Int) (last : List Int) (hj : exJ n t' f (i, L, N, xs, last) ∧ n ≤ (L : Int))
    refine tr_vc hsp mixed _ _ ?_
    obtain ⟨⟨k, ei, eL, hLN, hx, hl, hk⟩, hnL⟩ := hj
    have eL : L = 32 * k := eL
    have hLN : L ≤ N := hLN
    have hx : xs.take (32 * k) = (exK f t' k).1 := hx
    have hk : ((32 * k : Nat) : Int) < n + 32 := hk
    have hnL : n ≤ (L : Int) := hnL
    have hA : exA m t n = (expo m t n, 0) := by
      rw [exA, decide_eq_false (by omega), decide_eq_false (by omega)]; rfl
    have hkk : (n.toNat + 31) / 32 = k := by omega
    have hE : xs.take n.toNat = expo m t n := by
      rw [expo, opq_eq, expF, htag, hkk, ← hf, ← hx, List.take_take, Nat.min_eq_left (by omega)]
    rw [hA]
    refine vcx (X := (((0 : Int) ≤ n ∧ n ≤ n ∧ n ≤ (↑L : Int)) ∧ (0 : Nat) + (n - (0 : Int)).toNat ≤ N ∧ (List.take (n - (0 : Int)).toNat xs, (0 : Int), ()) = (expo m t n, (0 : Int), ()))) (by kernel_rfl) ?_
    have e1 : (n - 0).toNat = n.toNat := by omega
    rw [e1, hE]
    exact ⟨⟨by omega, by omega, hnL⟩, by omega, rfl⟩
  refine tr_cut hsp mixed 4 (exS0 m n t) (0 ≤ n ∧ n ≤ 8160) ?_ (fun hn => ?_)
  · refine vcx (X := ((decide (n < (0 : Int)) = true → ([], (1 : Int), ()) = ((exA m t n).fst, (exA m t n).snd, ())) ∧ (decide (n < (0 : Int)) = false → (decide (n > (8160 : Int)) = true → ([], (1 : Int), ()) = ((exA m t n).fst, (exA m t n).snd, ())) ∧ (decide (n > (8160 : Int)) = false → (exS0 m n t).triv ((0 : Int) ≤ n ∧ n ≤ (8160 : Int)))))) (by kernel_rfl) ?_
    refine ⟨fun h => ?_, fun h => ⟨fun h2 => ?_, fun h2 => triv_intro ⟨by have := of_decide_eq_false h; omega, by have := of_decide_eq_false h2; omega⟩⟩⟩
    · rw [exA, h]; rfl
    · rw [exA, h, h2]; rfl
  refine tr_cond (c := nthC (codeOf Tryd.f13) 4) (decide ((t.length : Int) > 255)) (by kernel_rfl) (by kernel_rfl) (by kernel_rfl) (fun hT => ?_) (fun hT => ?_)
  · have hT : 255 < t.length := by have := of_decide_eq_true hT; omega
    refine tr_cutF hsp mixed 2 (fun σ => rdR bK 128 σ) (exS1 m n) (fun d => d = dig (overS ++ t)) ?_ ?_
    · refine vcx (X := ((∀ (g : Nat) (s : Sigma Car), shaG g = some s → Decidable.rec (fun h => (fun x => if g = (1 : Nat) then some ⟨Kd.arr (64 : Nat) uK, rootsL⟩ else none) h) (fun h => (fun x => some ⟨Kd.arr (8 : Nat) uK, firstL⟩) h) (instDecidableEqNat g (0 : Nat)) = some s) ∧ (0 : Nat) + (nat_lit 16 + (1 : Nat)) ≤ (17 : Nat) ∧ preOf ([List.take (nat_lit 16 + (1 : Nat)) [(72 : Int), (50 : Int), (67 : Int), (45 : Int), (79 : Int), (86 : Int), (69 : Int), (82 : Int), (83 : Int), (73 : Int), (90 : Int), (69 : Int), (45 : Int), (68 : Int), (83 : Int), (84 : Int), (45 : Int)], t], ()) ∧ (exS1 m n (dig [List.take (nat_lit 16 + (1 : Nat)) [(72 : Int), (50 : Int), (67 : Int), (45 : Int), (79 : Int), (86 : Int), (69 : Int), (82 : Int), (83 : Int), (73 : Int), (90 : Int), (69 : Int), (45 : Int), (68 : Int), (83 : Int), (84 : Int), (45 : Int)], t].flatten, ()).fst).triv (dig [List.take (nat_lit 16 + (1 : Nat)) [(72 : Int), (50 : Int), (67 : Int), (45 : Int), (79 : Int), (86 : Int), (69 : Int), (82 : Int), (83 : Int), (73 : Int), (90 : Int), (69 : Int), (45 : Int), (68 : Int), (83 : Int), (84 : Int), (45 : Int)], t].flatten = dig (overS ++ t)))) (by kernel_rfl) ?_
      refine ⟨fun _ _ h => h, by decide, ⟨?_, by show 2 ≤ _; decide⟩, triv_intro ?_⟩
      · show (List.flatten [overS, t]).length ≤ 1099511627776
        simp only [List.flatten_cons, List.flatten_nil, List.length_append, List.length_nil]
        have : overS.length = 17 := rfl
        omega
      · show dig (List.flatten [overS, t]) = _
        simp only [List.flatten_cons, List.flatten_nil, List.append_nil]
    intro (d : List Int) (hd : d = dig (overS ++ t))
    have hdl : d.length = 32 := by rw [hd, dig_len]
    refine tr_frzI 1 128 32 1 .u8 d (by kernel_rfl) (by kernel_rfl) hdl ?_
    refine tr_le (τ := exS m n d) (K := True) (le_of_proj (by kernel_rfl) (by kernel_rfl) trivial) (fun _ => ?_)
    exact tr_eqL (by kernel_rfl) (rest d (by omega) hn.1 hn.2 (by rw [tagF, decide_eq_true hT, hd]))
  · have hT : ¬ 255 < t.length := by have := of_decide_eq_false hT; omega
    refine tr_le (τ := exS m n t) (K := True) (le_of_proj (by kernel_rfl) (by kernel_rfl) trivial) (fun _ => ?_)
    exact tr_eqL (by kernel_rfl) (rest t (by omega) hn.1 hn.2 (by rw [tagF, decide_eq_false hT]))
noncomputable def spExpand : Nat × Eng.Spec := (13, fnSpecG shaG [bsl, bsl, .int .i64] [.own bK, .val (.int .i64)] preEx (fun (m, t, n, _) => ((exA m t n).1, (exA m t n).2, ())))
end Go.Proofs.YtbfimfdhmggieaaDoor.xmd
/- Bytes and words, numbers. No program here. -/
namespace Cr

/-- Bytes. -/
def Bs (l : List Int) : Prop := ∀ x ∈ l, 0 ≤ x ∧ x < 256

end Cr
/- What the code's loops over bytes and words compute, as the executor spells it. -/
namespace Go.Eng
open Go Cr

theorem wrap_u8 (a : Int) : IntKind.u8.wrap a = a % 256 := by simp [IntKind.wrap, IntKind.signed, IntKind.bits]
def wk (n i : Int) : Int := IntKind.i64.wrap (IntKind.i64.wrap (n - 1) - i)
def wj (n i : Int) : Int := IntKind.i64.wrap ((wk n i).tdiv 8)
end Go.Eng
/- words, Bytes of both fields. Printed by gen_byt.py. -/
namespace Go.Proofs.YtbfimfdhmggieaaDoor.fp
set_option maxRecDepth 100000
open Go Go.Eng Go.RowKit Cr Go.Proofs.YtbfimfdhmggieaaDoor

end Go.Proofs.YtbfimfdhmggieaaDoor.fp
namespace Go.Proofs.YtbfimfdhmggieaaDoor.fr
set_option maxRecDepth 100000
open Go Go.Eng Go.RowKit Cr Go.Proofs.YtbfimfdhmggieaaDoor

end Go.Proofs.YtbfimfdhmggieaaDoor.fr
/- Read, Odd, Large of package fp; Wide of package fr. -/
namespace Go.Proofs.YtbfimfdhmggieaaDoor.fp
set_option maxRecDepth 100000
open Go Go.Eng Go.RowKit Cr Go.Proofs.YtbfimfdhmggieaaDoor

end Go.Proofs.YtbfimfdhmggieaaDoor.fp

namespace Go.Proofs.YtbfimfdhmggieaaDoor.fr
set_option maxRecDepth 100000
open Go Go.Eng Go.RowKit Cr Go.Proofs.YtbfimfdhmggieaaDoor

end Go.Proofs.YtbfimfdhmggieaaDoor.fr
/- The references' Copy; law07: scalar, long. -/
namespace Go.Proofs.YtbfimfdhmggieaaDoor.ref01
set_option maxRecDepth 100000
open Go Go.Eng Go.RowKit Cr Go.Proofs.YtbfimfdhmggieaaDoor

theorem ent_copy : enters Tryd.prog 11 Tryd.f11 := enters_mk (by kernel_rfl) (by kernel_rfl) (by kernel_rfl)
noncomputable def cpI (b : List Int) (g : Int × List Int) : St := mkSt Tryd.f11.ntmps 64 [(0, .is (.one (.ro (.int .u8) b))), (3, .is (.one (.sl 24 0 0 (b.length : Int).toNat 1))), (9, sI .i64 b.length), (10, sI .i64 g.1)] [(24, [.ints .u8 (b.length : Int).toNat g.2])]
def cpL (b : List Int) (k : Nat) : List Int := b.take k ++ List.replicate (b.length - k) 0
theorem cpL_step {b : List Int} {k : Nat} (h : k < b.length) : (cpL b k).set k (b.getD k 0) = cpL b (k + 1) := by
  unfold cpL
  rw [List.set_append_right _ _ (by simp; omega), List.take_succ_eq_append_getElem h]
  have e : b.length - k = (b.length - (k + 1)) + 1 := by omega
  have e2 : k - (b.take k).length = 0 := by simp; omega
  rw [e2, e, List.replicate_succ, List.set_cons_zero, List.append_assoc]
  simp [h]
abbrev preCopy : HL [.sl (.int .u8)] → Prop := fun (b, _) => List.length b ≤ 281474976710656
abbrev outCopy : HL [.sl (.int .u8)] → HO [.own (.int .u8)] := fun (b, _) => (b, ())
theorem fn_copy : FnOk Tryd.prog 11 [.sl (.int .u8)] [.own (.int .u8)] noG preCopy outCopy := by
  have hsp : SpecsOk Tryd.prog (sps []) := sps_nil
  refine fn_of_tr (sp := sps []) ent_copy (by decide) (by decide) (by kernel_rfl) ?_
  rintro w M0 ⟨b, ⟨⟩⟩
  revert b
  intro (b : List Int) _ hl
  have hl : b.length ≤ 281474976710656 := hl
  show Tr _ _ _ _ _ _ _
  refine tr_cut hsp mixed 3 (cpI b (0, List.replicate (b.length : Int).toNat 0)) True ?_ (fun _ => ?_)
  · refine vcx (X := ((0 ≤ (b.length : Int) ∧ (b.length : Int) ≤ (b.length : Int) ∧ ((1 : Nat) : Int) * (b.length : Int) ≤ 281474976710656 ∧ (b.length : Int) ≤ 9223372036854775807) ∧ (cpI b (0, List.replicate (b.length : Int).toNat 0)).triv True)) (by kernel_rfl) ?_
    exact ⟨⟨by omega, by omega, by omega, by omega⟩, triv_intro trivial⟩
  rw [show List.replicate (b.length : Int).toNat (0 : Int) = cpL b 0 by simp [cpL]]
  refine tr_count hsp mixed (cpI b) (fun k => ((k : Int), cpL b k)) b.length (fun g => (IntKind.i64.wrap (g.1 + 1), g.2.set g.1.toNat (b.getD g.1.toNat 0))) (cpI b) (c := nthC (codeOf Tryd.f11) 3) (by kernel_rfl) (by kernel_rfl) (le_of_proj (by kernel_rfl) (by kernel_rfl) trivial)
    (fun k hk => by show (_, _) = (_, _); rw [wrap_succ (by omega), Int.toNat_natCast, cpL_step hk]) ?_ ?_
  · intro k hk
    generalize cpL b k = xs
    refine vcx (X := ((decide ((k : Int) < (b.length : Int)) = true → (0 ≤ (k : Int) ∧ (k : Int) < (b.length : Int)) ∧ (k : Int).toNat < b.length ∧ (0 ≤ (k : Int) ∧ (k : Int) < ((b.length : Int).toNat : Int)) ∧ (k : Int).toNat < (b.length : Int).toNat ∧ (cpI b (IntKind.i64.wrap ((k : Int) + 1), xs.set (k : Int).toNat (b.getD (k : Int).toNat 0))).triv (k < b.length)) ∧
      (decide ((k : Int) < (b.length : Int)) = false → (cpI b ((k : Int), xs)).triv (k = b.length)))) (by kernel_rfl) ?_
    refine ⟨fun h => ?_, fun h => triv_intro (by have := dec_ge h; omega)⟩
    have hlt : k < b.length := by have := dec_lt h; omega
    exact ⟨⟨by omega, by omega⟩, by omega, ⟨by omega, by omega⟩, by omega, triv_intro hlt⟩
  · refine tr_vc hsp mixed _ _ ?_
    refine vcx (X := (0 + (b.length : Int).toNat ≤ (b.length : Int).toNat ∧ (((cpL b b.length).take (b.length : Int).toNat, ()) : List Int × Unit) = outCopy (b, ()))) (by kernel_rfl) ⟨by omega, ?_⟩
    simp [cpL, outCopy]
noncomputable def spCopy : Nat × Eng.Spec := (11, fnSpec [.sl (.int .u8)] [.own (.int .u8)] preCopy outCopy)
end Go.Proofs.YtbfimfdhmggieaaDoor.ref01
/- g1: number, Gen; codec: mark, G1. -/
namespace Go.Proofs.YtbfimfdhmggieaaDoor
open Go Go.Eng Cr

end Go.Proofs.YtbfimfdhmggieaaDoor
namespace Go.Proofs.YtbfimfdhmggieaaDoor.g1
set_option maxRecDepth 100000
open Go Go.Eng Go.RowKit Cr Go.Proofs.YtbfimfdhmggieaaDoor

end Go.Proofs.YtbfimfdhmggieaaDoor.g1

namespace Go.Proofs.YtbfimfdhmggieaaDoor.codec
set_option maxRecDepth 100000
open Go Go.Eng Go.RowKit Cr Go.Proofs.YtbfimfdhmggieaaDoor

end Go.Proofs.YtbfimfdhmggieaaDoor.codec
/- Powers, and the digits of an exponent. No program here. -/
namespace Cr
section
variable {M : Int} [Md M]

theorem one_mul' (a : Zm M) : 1 * a = a := by rw [mul_comm', mul_one']

def zpow (x : Zm M) : Nat → Zm M
  | 0 => 1
  | n + 1 => zpow x n * x

/-- The same; nothing unfolds it. -/
noncomputable def zpw (x : Zm M) (E : Int) : Zm M := Classical.choose (⟨zpow x E.toNat, rfl⟩ : ∃ y, y = zpow x E.toNat)
theorem zpw_eq (x : Zm M) (E : Int) : zpw x E = zpow x E.toNat := Classical.choose_spec (⟨zpow x E.toNat, rfl⟩ : ∃ y, y = zpow x E.toNat)

end

end Cr
/- What the loops of 'power' compute, as the executor spells it. -/
namespace Go.Eng
open Go Cr

end Go.Eng
/- power, Inv of package fp. Printed by gen_pow.py. -/
namespace Go.Proofs.YtbfimfdhmggieaaDoor.fp
set_option maxRecDepth 100000
open Go Go.Eng Go.RowKit Cr Go.Proofs.YtbfimfdhmggieaaDoor

end Go.Proofs.YtbfimfdhmggieaaDoor.fp
/- Commutative rings and fields: identities by computation. No program here. -/
namespace Cr

class Rg (F : Type) extends Add F, Mul F, Neg F, Sub F, Zero F, One F where
  add_comm : ∀ a b : F, a + b = b + a
  add_assoc : ∀ a b c : F, a + b + c = a + (b + c)
  zero_add : ∀ a : F, 0 + a = a
  neg_add : ∀ a : F, -a + a = 0
  sub_def : ∀ a b : F, a - b = a + -b
  mul_comm : ∀ a b : F, a * b = b * a
  mul_assoc : ∀ a b c : F, a * b * c = a * (b * c)
  one_mul : ∀ a : F, 1 * a = a
  add_mul : ∀ a b c : F, (a + b) * c = a * c + b * c

namespace Rg
variable {F : Type} [Rg F]

theorem add_zero (a : F) : a + 0 = a := by rw [add_comm, zero_add]
theorem add_neg (a : F) : a + -a = 0 := by rw [add_comm, neg_add]
theorem mul_one (a : F) : a * 1 = a := by rw [mul_comm, one_mul]
theorem mul_add (a b c : F) : a * (b + c) = a * b + a * c := by rw [mul_comm, add_mul, mul_comm b, mul_comm c]
theorem add_left {a b c : F} (h : a + b = a + c) : b = c := by
  have := congrArg (fun x => -a + x) h
  simpa only [← add_assoc, neg_add, zero_add] using this
theorem zero_mul (a : F) : 0 * a = 0 := by
  have h : 0 * a + 0 * a = 0 * a + 0 := by rw [← add_mul, add_zero, add_zero]
  exact add_left h
theorem mul_zero (a : F) : a * 0 = 0 := by rw [mul_comm, zero_mul]
theorem neg_eq {a b : F} (h : a + b = 0) : -a = b := by
  have : -a + (a + b) = -a + 0 := by rw [h]
  rw [← add_assoc, neg_add, zero_add, add_zero] at this
  exact this.symm
theorem neg_mul (a b : F) : -a * b = -(a * b) := by
  refine (neg_eq ?_).symm
  rw [← add_mul, add_neg, zero_mul]
theorem mul_neg (a b : F) : a * -b = -(a * b) := by rw [mul_comm, neg_mul, mul_comm]
theorem neg_neg (a : F) : - -a = a := neg_eq (neg_add a)
theorem neg_zero : -(0 : F) = 0 := neg_eq (zero_add 0)
theorem neg_add_rev (a b : F) : -(a + b) = -a + -b := by
  refine neg_eq ?_
  rw [add_assoc, ← add_assoc b, add_comm b, add_assoc (-a), add_neg, add_zero, add_neg]
theorem sub_self (a : F) : a - a = 0 := by rw [sub_def, add_neg]
theorem eq_of_sub {a b : F} (h : a - b = 0) : a = b := by
  rw [sub_def, add_comm] at h
  have := neg_eq h
  rw [neg_neg] at this
  exact this.symm
theorem sub_of_eq {a b : F} (h : a = b) : a - b = 0 := by rw [h, sub_self]
theorem add_add_add (a b c d : F) : a + b + (c + d) = a + c + (b + d) := by
  rw [add_assoc, add_assoc, ← add_assoc b, add_comm b c, add_assoc c]

/-- Natural numbers. -/
def nc : Nat → F
  | 0 => 0
  | n + 1 => nc n + 1
theorem nc_add (m n : Nat) : nc (m + n) = (nc m + nc n : F) := by
  induction n with
  | zero => exact (add_zero _).symm
  | succ n ih => show nc (m + n) + 1 = nc m + (nc n + 1); rw [ih, add_assoc]
theorem nc_mul (m n : Nat) : nc (m * n) = (nc m * nc n : F) := by
  induction n with
  | zero => exact (mul_zero _).symm
  | succ n ih => show nc (m * n + m) = nc m * (nc n + 1); rw [nc_add, ih, mul_add, mul_one]
/-- Integers. -/
def ic (a : Int) : F := nc a.toNat + -nc (-a).toNat
theorem ic_of {a : Int} {x y : Nat} (h : a = (x : Int) - y) : ic a = (nc x + -nc y : F) := by
  unfold ic
  have e : a.toNat + y = x + (-a).toNat := by omega
  have e2 : (nc a.toNat + nc y : F) = nc x + nc (-a).toNat := by rw [← nc_add, ← nc_add, e]
  generalize (nc a.toNat : F) = p at *
  generalize (nc (-a).toNat : F) = q at *
  generalize (nc x : F) = u at *
  generalize (nc y : F) = v at *
  have : p = u + q + -v := by rw [← e2, add_assoc, add_neg, add_zero]
  rw [this, add_assoc, add_assoc, add_comm (-v), ← add_assoc q, add_neg, zero_add]
theorem ic_split (a : Int) : a = (a.toNat : Int) - ((-a).toNat : Nat) := by omega
theorem ic_add (a b : Int) : ic (a + b) = (ic a + ic b : F) := by
  rw [ic_of (a := a + b) (x := a.toNat + b.toNat) (y := (-a).toNat + (-b).toNat) (by omega), nc_add, nc_add, neg_add_rev]
  exact add_add_add _ _ _ _
theorem ic_mul (a b : Int) : ic (a * b) = (ic a * ic b : F) := by
  have h : a * b = ((a.toNat * b.toNat + (-a).toNat * (-b).toNat : Nat) : Int) - ((a.toNat * (-b).toNat + (-a).toNat * b.toNat : Nat) : Int) := by
    conv => lhs; rw [ic_split a, ic_split b]
    simp only [Int.natCast_add, Int.natCast_mul, Int.sub_mul, Int.mul_sub]
    omega
  rw [ic_of h]
  unfold ic
  generalize hp : (nc a.toNat : F) = p
  generalize hq : (nc (-a).toNat : F) = q
  generalize hu : (nc b.toNat : F) = u
  generalize hv : (nc (-b).toNat : F) = v
  rw [nc_add, nc_add, nc_mul, nc_mul, nc_mul, nc_mul, hp, hq, hu, hv, add_mul, mul_add, mul_add, mul_neg, neg_mul, neg_mul, mul_neg, neg_neg, neg_add_rev]
  rw [add_add_add (p * u) (q * v), add_comm (q * v)]
theorem ic_one : ic 1 = (1 : F) := by
  show (0 + 1 : F) + -0 = 1
  rw [zero_add, neg_zero, add_zero]
theorem ic_zero : ic 0 = (0 : F) := by
  show (0 : F) + -0 = 0
  rw [zero_add, neg_zero]
theorem ic_neg_one : ic (-1) = (-1 : F) := by
  show (0 : F) + -(0 + 1) = -1
  rw [zero_add, zero_add]
end Rg

/-- Expressions. -/
inductive PE
  | v (i : Nat)
  | one
  | zero
  | add (a b : PE)
  | mul (a b : PE)
  | sub (a b : PE)
  | neg (a : PE)
instance : Add PE := ⟨.add⟩
instance : Mul PE := ⟨.mul⟩
instance : Sub PE := ⟨.sub⟩
instance : Neg PE := ⟨.neg⟩
instance : One PE := ⟨.one⟩
instance : Zero PE := ⟨.zero⟩

def nth {F : Type} [Zero F] : List F → Nat → F
  | [], _ => 0
  | x :: _, 0 => x
  | _ :: l, n + 1 => nth l n
def PE.ev {F : Type} [Rg F] (l : List F) : PE → F
  | .v i => nth l i
  | .one => 1
  | .zero => 0
  | .add a b => a.ev l + b.ev l
  | .mul a b => a.ev l * b.ev l
  | .sub a b => a.ev l - b.ev l
  | .neg a => -a.ev l

abbrev Mo := List Nat
abbrev Po := List (Mo × Int)
def insM (i : Nat) : Mo → Mo
  | [] => [i]
  | j :: l => match Nat.ble i j with
    | true => i :: j :: l
    | false => j :: insM i l
def mulM : Mo → Mo → Mo
  | [], m => m
  | i :: l, m => insM i (mulM l m)
def eqM : Mo → Mo → Bool
  | [], [] => true
  | i :: l, j :: m => match Nat.beq i j with
    | true => eqM l m
    | false => false
  | _, _ => false
def ltM : Mo → Mo → Bool
  | [], [] => false
  | [], _ => true
  | _, [] => false
  | i :: l, j :: m => match Nat.beq i j with
    | true => ltM l m
    | false => Nat.blt i j
def addT (m : Mo) (c : Int) : Po → Po
  | [] => [(m, c)]
  | t :: p => match eqM m t.1 with
    | true => (m, c + t.2) :: p
    | false => match ltM m t.1 with
      | true => (m, c) :: t :: p
      | false => t :: addT m c p
def addP : Po → Po → Po
  | [], q => q
  | t :: p, q => addT t.1 t.2 (addP p q)
def mulT (m : Mo) (c : Int) : Po → Po → Po
  | [], acc => acc
  | t :: q, acc => addT (mulM m t.1) (c * t.2) (mulT m c q acc)
def mulP : Po → Po → Po
  | [], _ => []
  | t :: p, q => mulT t.1 t.2 q (mulP p q)
def scP (c : Int) : Po → Po
  | [] => []
  | t :: p => (t.1, c * t.2) :: scP c p
def PE.nf : PE → Po
  | .v i => [([i], 1)]
  | .one => [([], 1)]
  | .zero => []
  | .add a b => addP a.nf b.nf
  | .mul a b => mulP a.nf b.nf
  | .sub a b => addP (scP (-1) b.nf) a.nf
  | .neg a => scP (-1) a.nf
def isZ : Po → Bool
  | [] => true
  | t :: p => match t.2 with
    | .ofNat 0 => isZ p
    | _ => false

section
variable {F : Type} [Rg F] (l : List F)
open Rg
def evM : Mo → F
  | [] => 1
  | i :: m => nth l i * evM m
def evP : Po → F
  | [] => 0
  | t :: p => ic t.2 * evM l t.1 + evP p
theorem insM_ev (i : Nat) : ∀ m : Mo, evM l (insM i m) = nth l i * evM l m := by
  intro m
  induction m with
  | nil => rfl
  | cons j m ih =>
    unfold insM
    split
    · rfl
    · show nth l j * evM l (insM i m) = nth l i * (nth l j * evM l m)
      rw [ih, ← mul_assoc, ← mul_assoc, mul_comm (nth l j)]
theorem mulM_ev : ∀ a m : Mo, evM l (mulM a m) = evM l a * evM l m := by
  intro a
  induction a with
  | nil => intro m; exact (one_mul _).symm
  | cons i a ih => intro m; show evM l (insM i (mulM a m)) = nth l i * evM l a * evM l m; rw [insM_ev, ih, mul_assoc]
theorem eqM_eq : ∀ {a b : Mo}, eqM a b = true → a = b := by
  intro a
  induction a with
  | nil => intro b h; cases b with
    | nil => rfl
    | cons j m => simp [eqM] at h
  | cons i a ih => intro b h; cases b with
    | nil => simp [eqM] at h
    | cons j m =>
      unfold eqM at h
      split at h
      · rename_i hb; rw [Nat.eq_of_beq_eq_true hb, ih h]
      · cases h
theorem addT_ev (m : Mo) (c : Int) : ∀ p : Po, evP l (addT m c p) = ic c * evM l m + evP l p := by
  intro p
  induction p with
  | nil => rfl
  | cons t p ih =>
    unfold addT
    split
    · rename_i h
      show ic (c + t.2) * evM l m + evP l p = ic c * evM l m + (ic t.2 * evM l t.1 + evP l p)
      rw [eqM_eq h, ic_add, add_mul, add_assoc]
    · split
      · rfl
      · show ic t.2 * evM l t.1 + evP l (addT m c p) = ic c * evM l m + (ic t.2 * evM l t.1 + evP l p)
        rw [ih, ← add_assoc, ← add_assoc, add_comm (ic t.2 * evM l t.1)]
theorem addP_ev : ∀ p q : Po, evP l (addP p q) = evP l p + evP l q := by
  intro p
  induction p with
  | nil => intro q; exact (zero_add _).symm
  | cons t p ih => intro q; show evP l (addT t.1 t.2 (addP p q)) = _; rw [addT_ev, ih]; exact (add_assoc _ _ _).symm
theorem mulT_ev (m : Mo) (c : Int) : ∀ q acc : Po, evP l (mulT m c q acc) = ic c * evM l m * evP l q + evP l acc := by
  intro q
  induction q with
  | nil => intro acc; show evP l acc = ic c * evM l m * 0 + evP l acc; rw [mul_zero, zero_add]
  | cons t q ih =>
    intro acc
    show evP l (addT (mulM m t.1) (c * t.2) (mulT m c q acc)) = ic c * evM l m * (ic t.2 * evM l t.1 + evP l q) + evP l acc
    rw [addT_ev, ih, mulM_ev, ic_mul, mul_add, add_assoc]
    congr 1
    rw [mul_assoc, mul_assoc, ← mul_assoc (ic t.2), mul_comm (ic t.2), mul_assoc (evM l m)]
theorem mulP_ev : ∀ p q : Po, evP l (mulP p q) = evP l p * evP l q := by
  intro p
  induction p with
  | nil => intro q; exact (zero_mul _).symm
  | cons t p ih => intro q; show evP l (mulT t.1 t.2 q (mulP p q)) = (ic t.2 * evM l t.1 + evP l p) * evP l q; rw [mulT_ev, ih, add_mul]
theorem scP_ev (c : Int) : ∀ p : Po, evP l (scP c p) = ic c * evP l p := by
  intro p
  induction p with
  | nil => exact (mul_zero _).symm
  | cons t p ih => show ic (c * t.2) * evM l t.1 + evP l (scP c p) = ic c * (ic t.2 * evM l t.1 + evP l p); rw [ih, ic_mul, mul_add, mul_assoc]
theorem nf_ev : ∀ e : PE, evP l e.nf = e.ev l := by
  intro e
  induction e with
  | v i => show ic 1 * (nth l i * 1) + 0 = nth l i; rw [ic_one, add_zero, one_mul, mul_one]
  | one => show ic 1 * 1 + 0 = (1 : F); rw [ic_one, add_zero, one_mul]
  | zero => rfl
  | add a b iha ihb => show evP l (addP a.nf b.nf) = a.ev l + b.ev l; rw [addP_ev, iha, ihb]
  | mul a b iha ihb => show evP l (mulP a.nf b.nf) = a.ev l * b.ev l; rw [mulP_ev, iha, ihb]
  | sub a b iha ihb => show evP l (addP (scP (-1) b.nf) a.nf) = a.ev l - b.ev l; rw [addP_ev, scP_ev, iha, ihb, ic_neg_one, neg_mul, one_mul, sub_def, add_comm]
  | neg a iha => show evP l (scP (-1) a.nf) = -a.ev l; rw [scP_ev, iha, ic_neg_one, neg_mul, one_mul]
theorem isZ_ev : ∀ {p : Po}, isZ p = true → evP l p = 0 := by
  intro p
  induction p with
  | nil => intro _; rfl
  | cons t p ih =>
    intro h
    obtain ⟨m, c⟩ := t
    unfold isZ at h
    split at h
    · rename_i hc
      have hc : c = 0 := hc
      show ic c * evM l m + evP l p = 0
      rw [hc, ic_zero, zero_mul, zero_add, ih h]
    · cases h
/-- An identity, by computation. -/
theorem rid (a b : PE) (h : isZ (PE.nf (.sub a b)) = true) : a.ev l = b.ev l := by
  have := isZ_ev l h
  rw [nf_ev] at this
  exact eq_of_sub this
end

/-- Fields. -/
class Fd (F : Type) extends Rg F where
  deq : DecidableEq F
  inv : F → F
  mul_inv : ∀ a : F, a ≠ 0 → a * inv a = 1
  one_ne : (1 : F) ≠ 0
  two_ne : (1 + 1 : F) ≠ 0
  three_ne : (1 + 1 + 1 : F) ≠ 0
attribute [instance_reducible, instance] Fd.deq

namespace Fd
open Rg
variable {F : Type} [Fd F]
theorem mul_eq_zero {a b : F} (h : a * b = 0) : a = 0 ∨ b = 0 := by
  by_cases ha : a = 0
  · exact .inl ha
  · right
    have : inv a * (a * b) = 0 := by rw [h, mul_zero]
    rwa [← mul_assoc, mul_comm (inv a), mul_inv a ha, one_mul] at this
theorem double_eq_zero {a : F} (h : a + a = 0) : a = 0 := by
  have : (1 + 1) * a = 0 := by rw [add_mul, one_mul]; exact h
  exact (mul_eq_zero this).resolve_left two_ne
end Fd
end Cr
/- The curve y^2 = x^3 + b over a field: its points are a group. No program here. -/
namespace Cr
open Rg Fd

/-- On the curve. -/
def On {F : Type} [Rg F] (b x y : F) : Prop := y * y = x * x * x + b
/-- The line through two points (the tangent, if they are one), by its slope. -/
def Ln {F : Type} [Rg F] (x1 y1 x2 y2 l : F) : Prop := l * (x2 - x1) = y2 - y1 ∧ l * (y1 + y2) = x1 * x1 + x1 * x2 + x2 * x2
/-- The sum by the slope. -/
def sx {F : Type} [Rg F] (x1 x2 l : F) : F := l * l - x1 - x2
def sy {F : Type} [Rg F] (x1 y1 x2 l : F) : F := -(y1 + l * (sx x1 x2 l - x1))

section
variable {F : Type} [Rg F]
theorem lc1 {a b p q : F} (c : F) (h : a - b = c * (p - q)) (h1 : p = q) : a = b := by
  rw [sub_of_eq h1, mul_zero] at h; exact eq_of_sub h
theorem lc2 {a b p q p' q' : F} (c c' : F) (h : a - b = c * (p - q) + c' * (p' - q')) (h1 : p = q) (h2 : p' = q') : a = b := by
  rw [sub_of_eq h1, sub_of_eq h2, mul_zero, mul_zero, zero_add] at h; exact eq_of_sub h
theorem lc4 {a b p q p' q' p'' q'' u v : F} (c c' c'' d : F) (h : a - b = c * (p - q) + c' * (p' - q') + c'' * (p'' - q'') + d * (u - v)) (h1 : p = q) (h2 : p' = q') (h3 : p'' = q'') (h4 : u = v) : a = b := by
  rw [sub_of_eq h1, sub_of_eq h2, sub_of_eq h3, sub_of_eq h4, mul_zero, mul_zero, mul_zero, mul_zero, zero_add, zero_add, zero_add] at h; exact eq_of_sub h
end

theorem i_on {F : Type} [Rg F] (x1 y1 x2 y2 l x b : F) : (y1 + l * (x - x1)) * (y1 + l * (x - x1)) - (x * x * x + b) = 1 * (y1 * y1 - (x1 * x1 * x1 + b)) + (x - x1) * (l * (y1 + y2) - (x1 * x1 + x1 * x2 + x2 * x2)) + (x - x1) * l * (l * (x2 - x1) - (y2 - y1)) + (x - x1) * (x - x2) * ((l * l - x1 - x2) - x) :=
  rid [x1, y1, x2, y2, l, x, b] ((fun (x1 y1 x2 y2 l x b : PE) => ((y1 + l * (x - x1)) * (y1 + l * (x - x1)) - (x * x * x + b))) (.v 0) (.v 1) (.v 2) (.v 3) (.v 4) (.v 5) (.v 6)) ((fun (x1 y1 x2 y2 l x b : PE) => (1 * (y1 * y1 - (x1 * x1 * x1 + b)) + (x - x1) * (l * (y1 + y2) - (x1 * x1 + x1 * x2 + x2 * x2)) + (x - x1) * l * (l * (x2 - x1) - (y2 - y1)) + (x - x1) * (x - x2) * ((l * l - x1 - x2) - x))) (.v 0) (.v 1) (.v 2) (.v 3) (.v 4) (.v 5) (.v 6)) (by kernel_rfl)
theorem i_neg2 {F : Type} [Rg F] (a : F) : (- a) * (- a) = a * a :=
  rid [a] ((fun (a : PE) => ((- a) * (- a))) (.v 0)) ((fun (a : PE) => (a * a)) (.v 0)) (by kernel_rfl)
theorem i_third {F : Type} [Rg F] (x1 y1 x2 y2 l : F) : l * (y1 + - -(y1 + l * ((l * l - x1 - x2) - x1))) - (x1 * x1 + x1 * (l * l - x1 - x2) + (l * l - x1 - x2) * (l * l - x1 - x2)) = 1 * (l * (y1 + y2) - (x1 * x1 + x1 * x2 + x2 * x2)) + l * (l * (x2 - x1) - (y2 - y1)) :=
  rid [x1, y1, x2, y2, l] ((fun (x1 y1 x2 y2 l : PE) => (l * (y1 + - -(y1 + l * ((l * l - x1 - x2) - x1))) - (x1 * x1 + x1 * (l * l - x1 - x2) + (l * l - x1 - x2) * (l * l - x1 - x2)))) (.v 0) (.v 1) (.v 2) (.v 3) (.v 4)) ((fun (x1 y1 x2 y2 l : PE) => (1 * (l * (y1 + y2) - (x1 * x1 + x1 * x2 + x2 * x2)) + l * (l * (x2 - x1) - (y2 - y1)))) (.v 0) (.v 1) (.v 2) (.v 3) (.v 4)) (by kernel_rfl)
theorem i_third1 {F : Type} [Rg F] (x1 y1 x2 l : F) : l * ((l * l - x1 - x2) - x1) = - -(y1 + l * ((l * l - x1 - x2) - x1)) - y1 :=
  rid [x1, y1, x2, l] ((fun (x1 y1 x2 l : PE) => (l * ((l * l - x1 - x2) - x1))) (.v 0) (.v 1) (.v 2) (.v 3)) ((fun (x1 y1 x2 l : PE) => (- -(y1 + l * ((l * l - x1 - x2) - x1)) - y1)) (.v 0) (.v 1) (.v 2) (.v 3)) (by kernel_rfl)
theorem i_sym1 {F : Type} [Rg F] (x1 y1 x2 y2 l : F) : l * (x1 - x2) - (y1 - y2) = (-1) * (l * (x2 - x1) - (y2 - y1)) :=
  rid [x1, y1, x2, y2, l] ((fun (x1 y1 x2 y2 l : PE) => (l * (x1 - x2) - (y1 - y2))) (.v 0) (.v 1) (.v 2) (.v 3) (.v 4)) ((fun (x1 y1 x2 y2 l : PE) => ((-1) * (l * (x2 - x1) - (y2 - y1)))) (.v 0) (.v 1) (.v 2) (.v 3) (.v 4)) (by kernel_rfl)
theorem i_sym2 {F : Type} [Rg F] (x1 y1 x2 y2 l : F) : l * (y2 + y1) - (x2 * x2 + x2 * x1 + x1 * x1) = 1 * (l * (y1 + y2) - (x1 * x1 + x1 * x2 + x2 * x2)) :=
  rid [x1, y1, x2, y2, l] ((fun (x1 y1 x2 y2 l : PE) => (l * (y2 + y1) - (x2 * x2 + x2 * x1 + x1 * x1))) (.v 0) (.v 1) (.v 2) (.v 3) (.v 4)) ((fun (x1 y1 x2 y2 l : PE) => (1 * (l * (y1 + y2) - (x1 * x1 + x1 * x2 + x2 * x2)))) (.v 0) (.v 1) (.v 2) (.v 3) (.v 4)) (by kernel_rfl)
theorem i_f1 {F : Type} [Rg F] (x y u v l m : F) : (x * x + (u + l * m) * x + (u * u - l * m * u + (l - m) * v) - (l + m) * y) - 0 = (-1) * (l * (y + -v) - (x * x + x * u + u * u)) + (-m) * (l * (u - x) - (-v - y)) :=
  rid [x, y, u, v, l, m] ((fun (x y u v l m : PE) => ((x * x + (u + l * m) * x + (u * u - l * m * u + (l - m) * v) - (l + m) * y) - 0)) (.v 0) (.v 1) (.v 2) (.v 3) (.v 4) (.v 5)) ((fun (x y u v l m : PE) => ((-1) * (l * (y + -v) - (x * x + x * u + u * u)) + (-m) * (l * (u - x) - (-v - y)))) (.v 0) (.v 1) (.v 2) (.v 3) (.v 4) (.v 5)) (by kernel_rfl)
theorem i_f2 {F : Type} [Rg F] (x y u v l m : F) : (x * x + (u + l * m) * x + (u * u - l * m * u + (l - m) * v) - (l + m) * y) - 0 = (-1) * (m * (v + y) - (u * u + u * x + x * x)) + l * (m * (x - u) - (y - v)) :=
  rid [x, y, u, v, l, m] ((fun (x y u v l m : PE) => ((x * x + (u + l * m) * x + (u * u - l * m * u + (l - m) * v) - (l + m) * y) - 0)) (.v 0) (.v 1) (.v 2) (.v 3) (.v 4) (.v 5)) ((fun (x y u v l m : PE) => ((-1) * (m * (v + y) - (u * u + u * x + x * x)) + l * (m * (x - u) - (y - v)))) (.v 0) (.v 1) (.v 2) (.v 3) (.v 4) (.v 5)) (by kernel_rfl)
theorem i_h {F : Type} [Rg F] (a1 a0 g b1 b0 h l xP yP xQ xR yR : F) : (g - h) * (l * (xR - xP) - (yR - yP)) = (xR * xR + a1 * xR + a0 - g * yR) - (xP * xP + a1 * xP + a0 - g * yP) - (xR * xR + b1 * xR + b0 - h * yR) + (xP * xP + b1 * xP + b0 - h * yP) - (xR - xP) * (((xP + xQ + a1) - g * l) - ((xP + xQ + b1) - h * l)) :=
  rid [a1, a0, g, b1, b0, h, l, xP, yP, xQ, xR, yR] ((fun (a1 a0 g b1 b0 h l xP yP xQ xR yR : PE) => ((g - h) * (l * (xR - xP) - (yR - yP)))) (.v 0) (.v 1) (.v 2) (.v 3) (.v 4) (.v 5) (.v 6) (.v 7) (.v 8) (.v 9) (.v 10) (.v 11)) ((fun (a1 a0 g b1 b0 h l xP yP xQ xR yR : PE) => ((xR * xR + a1 * xR + a0 - g * yR) - (xP * xP + a1 * xP + a0 - g * yP) - (xR * xR + b1 * xR + b0 - h * yR) + (xP * xP + b1 * xP + b0 - h * yP) - (xR - xP) * (((xP + xQ + a1) - g * l) - ((xP + xQ + b1) - h * l)))) (.v 0) (.v 1) (.v 2) (.v 3) (.v 4) (.v 5) (.v 6) (.v 7) (.v 8) (.v 9) (.v 10) (.v 11)) (by kernel_rfl)
theorem i_a1 {F : Type} [Rg F] (a1 b1 g l xP xQ : F) : a1 - b1 = 1 * ((xP + xQ + a1) - g * l) + (-1) * ((xP + xQ + b1) - g * l) :=
  rid [a1, b1, g, l, xP, xQ] ((fun (a1 b1 g l xP xQ : PE) => (a1 - b1)) (.v 0) (.v 1) (.v 2) (.v 3) (.v 4) (.v 5)) ((fun (a1 b1 g l xP xQ : PE) => (1 * ((xP + xQ + a1) - g * l) + (-1) * ((xP + xQ + b1) - g * l))) (.v 0) (.v 1) (.v 2) (.v 3) (.v 4) (.v 5)) (by kernel_rfl)
theorem i_a0 {F : Type} [Rg F] (a0 b0 a1 g xP yP : F) : a0 - b0 = 1 * ((xP * xP + a1 * xP + a0 - g * yP) - 0) + (-1) * ((xP * xP + a1 * xP + b0 - g * yP) - 0) :=
  rid [a0, b0, a1, g, xP, yP] ((fun (a0 b0 a1 g xP yP : PE) => (a0 - b0)) (.v 0) (.v 1) (.v 2) (.v 3) (.v 4) (.v 5)) ((fun (a0 b0 a1 g xP yP : PE) => (1 * ((xP * xP + a1 * xP + a0 - g * yP) - 0) + (-1) * ((xP * xP + a1 * xP + b0 - g * yP) - 0))) (.v 0) (.v 1) (.v 2) (.v 3) (.v 4) (.v 5)) (by kernel_rfl)
theorem i_g {F : Type} [Rg F] (a1 a0 xP yP xR yR : F) : (xR - xP) * (xR + xP + a1) = (xR * xR + a1 * xR + a0 - 0 * yR) - (xP * xP + a1 * xP + a0 - 0 * yP) :=
  rid [a1, a0, xP, yP, xR, yR] ((fun (a1 a0 xP yP xR yR : PE) => ((xR - xP) * (xR + xP + a1))) (.v 0) (.v 1) (.v 2) (.v 3) (.v 4) (.v 5)) ((fun (a1 a0 xP yP xR yR : PE) => ((xR * xR + a1 * xR + a0 - 0 * yR) - (xP * xP + a1 * xP + a0 - 0 * yP))) (.v 0) (.v 1) (.v 2) (.v 3) (.v 4) (.v 5)) (by kernel_rfl)
theorem i_g2 {F : Type} [Rg F] (a1 xP xQ xR l : F) : xR - xQ = 1 * ((xR + xP + a1) - 0) + (-1) * ((xP + xQ + a1) - 0 * l) :=
  rid [a1, xP, xQ, xR, l] ((fun (a1 xP xQ xR l : PE) => (xR - xQ)) (.v 0) (.v 1) (.v 2) (.v 3) (.v 4)) ((fun (a1 xP xQ xR l : PE) => (1 * ((xR + xP + a1) - 0) + (-1) * ((xP + xQ + a1) - 0 * l))) (.v 0) (.v 1) (.v 2) (.v 3) (.v 4)) (by kernel_rfl)
theorem i_y {F : Type} [Rg F] (a1 a0 g x y t : F) : g * (y - t) - 0 = 1 * ((x * x + a1 * x + a0 - g * -y) - 0) + (-1) * ((x * x + a1 * x + a0 - g * -t) - 0) :=
  rid [a1, a0, g, x, y, t] ((fun (a1 a0 g x y t : PE) => (g * (y - t) - 0)) (.v 0) (.v 1) (.v 2) (.v 3) (.v 4) (.v 5)) ((fun (a1 a0 g x y t : PE) => (1 * ((x * x + a1 * x + a0 - g * -y) - 0) + (-1) * ((x * x + a1 * x + a0 - g * -t) - 0))) (.v 0) (.v 1) (.v 2) (.v 3) (.v 4) (.v 5)) (by kernel_rfl)
theorem i_T1 {F : Type} [Rg F] (xP xQ l m : F) : xP + xQ + ((l * l - xP - xQ) + l * m) = (l + m) * l :=
  rid [xP, xQ, l, m] ((fun (xP xQ l m : PE) => (xP + xQ + ((l * l - xP - xQ) + l * m))) (.v 0) (.v 1) (.v 2) (.v 3)) ((fun (xP xQ l m : PE) => ((l + m) * l)) (.v 0) (.v 1) (.v 2) (.v 3)) (by kernel_rfl)
theorem i_S {F : Type} [Rg F] (xP xQ xR l m : F) : m * m - (l * l - xP - xQ) - xR = (l + m) * (l + m) - (((l * l - xP - xQ) + l * m) + ((l * l - xP - xQ) + l * m)) - (xP + xQ + xR) :=
  rid [xP, xQ, xR, l, m] ((fun (xP xQ xR l m : PE) => (m * m - (l * l - xP - xQ) - xR)) (.v 0) (.v 1) (.v 2) (.v 3) (.v 4)) ((fun (xP xQ xR l m : PE) => ((l + m) * (l + m) - (((l * l - xP - xQ) + l * m) + ((l * l - xP - xQ) + l * m)) - (xP + xQ + xR))) (.v 0) (.v 1) (.v 2) (.v 3) (.v 4)) (by kernel_rfl)

section
variable {F : Type} [Fd F] {b : F}

theorem sq_zero {a : F} (h : a * a = 0) : a = 0 := (mul_eq_zero h).elim id id
theorem three_zero {a : F} (h : a + a + a = 0) : a = 0 := by
  have : (1 + 1 + 1) * a = 0 := by rw [add_mul, add_mul, one_mul]; exact h
  exact (mul_eq_zero this).resolve_left three_ne
theorem eq_neg_self {a : F} (h : a = -a) : a = 0 := double_eq_zero (by
  have := sub_of_eq h
  rwa [sub_def, neg_neg] at this)

theorem Ln.symm {x1 y1 x2 y2 l : F} (h : Ln x1 y1 x2 y2 l) : Ln x2 y2 x1 y1 l := ⟨lc1 _ (i_sym1 x1 y1 x2 y2 l) h.1, lc1 _ (i_sym2 x1 y1 x2 y2 l) h.2⟩
/-- The third point of the line. -/
theorem Ln.third {x1 y1 x2 y2 l : F} (h : Ln x1 y1 x2 y2 l) : Ln x1 y1 (sx x1 x2 l) (-sy x1 y1 x2 l) l :=
  ⟨i_third1 x1 y1 x2 l, lc2 _ _ (i_third x1 y1 x2 y2 l) h.2 h.1⟩
theorem Ln.sum_on {x1 y1 x2 y2 l : F} (h : Ln x1 y1 x2 y2 l) (h1 : On b x1 y1) : On b (sx x1 x2 l) (sy x1 y1 x2 l) := by
  unfold On sy
  rw [i_neg2]
  exact lc4 _ _ _ _ (i_on x1 y1 x2 y2 l (sx x1 x2 l) b) h1 h.2 h.1 rfl
/-- Which points of the curve lie on the line. -/
theorem Ln.which {x1 y1 x2 y2 l x y : F} (h : Ln x1 y1 x2 y2 l) (h1 : On b x1 y1) (ho : On b x y) (hy : y = y1 + l * (x - x1)) : x = x1 ∨ x = x2 ∨ x = sx x1 x2 l := by
  have e := i_on x1 y1 x2 y2 l x b
  rw [← hy, sub_of_eq ho, sub_of_eq h1, sub_of_eq h.1, sub_of_eq h.2, mul_zero, mul_zero, mul_zero, zero_add, zero_add, zero_add] at e
  rcases mul_eq_zero e.symm with e | e
  · rcases mul_eq_zero e with e | e
    · exact .inl (eq_of_sub e)
    · exact .inr (.inl (eq_of_sub e))
  · exact .inr (.inr (eq_of_sub e).symm)
theorem Ln.not_neg (hb : b ≠ 0) {x1 y1 x2 y2 l : F} (h : Ln x1 y1 x2 y2 l) (h1 : On b x1 y1) : ¬(x1 = x2 ∧ y2 = -y1) := by
  rintro ⟨rfl, rfl⟩
  obtain ⟨e1, e2⟩ := h
  rw [sub_self, mul_zero] at e1
  have hy : y1 = 0 := eq_neg_self (eq_of_sub e1.symm).symm
  subst hy
  rw [neg_zero, add_zero, mul_zero] at e2
  have hx : x1 = 0 := sq_zero (three_zero e2.symm)
  subst hx
  unfold On at h1
  rw [mul_zero, mul_zero, zero_add] at h1
  exact hb h1.symm
def slope (x1 y1 x2 y2 : F) : F := if x1 = x2 then (x1 * x1 + x1 * x1 + x1 * x1) * inv (y1 + y1) else (y2 - y1) * inv (x2 - x1)
/-- The function with zeros at P, Q, R, -(P + Q + R). -/
def fn (u v l m x y : F) : F := x * x + (u + l * m) * x + (u * u - l * m * u + (l - m) * v) - (l + m) * y
theorem fn1 {u v l m x y : F} (h : Ln x y u (-v) l) : fn u v l m x y = 0 := lc2 _ _ (i_f1 x y u v l m) h.2 h.1
theorem fn2 {u v l m x y : F} (h : Ln u v x y m) : fn u v l m x y = 0 := lc2 _ _ (i_f2 x y u v l m) h.2 h.1

theorem same {a1 a0 g b1 b0 h l xP yP xQ xR yR : F} (f1P : xP * xP + a1 * xP + a0 - g * yP = 0) (f1R : xR * xR + a1 * xR + a0 - g * yR = 0) (f2P : xP * xP + b1 * xP + b0 - h * yP = 0) (f2R : xR * xR + b1 * xR + b0 - h * yR = 0)
    (T1 : xP + xQ + a1 = g * l) (T2 : xP + xQ + b1 = h * l) (hne : yR ≠ yP + l * (xR - xP)) : a1 = b1 ∧ a0 = b0 ∧ g = h := by
  have e := i_h a1 a0 g b1 b0 h l xP yP xQ xR yR
  rw [f1P, f1R, f2P, f2R, sub_of_eq T1, sub_of_eq T2, sub_self, sub_self, add_zero, mul_zero, sub_self] at e
  have hg : g = h := by
    rcases mul_eq_zero e with e | e
    · exact eq_of_sub e
    · exfalso
      have := eq_of_sub e
      exact hne (by rw [this, sub_def, add_comm, add_assoc, neg_add, add_zero])
  subst hg
  have h1 := lc2 _ _ (i_a1 a1 b1 g l xP xQ) T1 T2
  subst h1
  exact ⟨rfl, lc2 _ _ (i_a0 a0 b0 a1 g xP yP) f1P f2P, rfl⟩

theorem g_ne {a1 a0 g l xP yP xQ xR yR : F} (f1P : xP * xP + a1 * xP + a0 - g * yP = 0) (f1R : xR * xR + a1 * xR + a0 - g * yR = 0) (T1 : xP + xQ + a1 = g * l) (h1 : xR ≠ xP) (h2 : xR ≠ xQ) : g ≠ 0 := by
  intro hg
  subst hg
  have e := i_g a1 a0 xP yP xR yR
  rw [f1P, f1R, sub_self] at e
  rcases mul_eq_zero e with e | e
  · exact h1 (eq_of_sub e)
  · exact h2 (lc2 _ _ (i_g2 a1 xP xQ xR l) e T1)

theorem main {xP yP xQ yQ xR yR l m u v l' m' s t : F} (hb : b ≠ 0) (oP : On b xP yP) (oR : On b xR yR) (hl : Ln xP yP xQ yQ l) (hm : Ln (sx xP xQ l) (sy xP yP xQ l) xR yR m)
    (T2 : xP + xQ + (u + l' * m') = (l' + m') * l) (f2P : fn u v l' m' xP yP = 0) (f2R : fn u v l' m' xR yR = 0) (f2S : fn u v l' m' s (-t) = 0)
    (hs : s = (l' + m') * (l' + m') - ((u + l' * m') + (u + l' * m')) - (xP + xQ + xR)) (h1 : xR ≠ xP) (h2 : xR ≠ xQ) :
    sx (sx xP xQ l) xR m = s ∧ sy (sx xP xQ l) (sy xP yP xQ l) xR m = t := by
  have f1P : fn (sx xP xQ l) (sy xP yP xQ l) l m xP yP = 0 := fn1 hl.third
  have f1R : fn (sx xP xQ l) (sy xP yP xQ l) l m xR yR = 0 := fn2 hm
  have f1S : fn (sx xP xQ l) (sy xP yP xQ l) l m (sx (sx xP xQ l) xR m) (-sy (sx xP xQ l) (sy xP yP xQ l) xR m) = 0 := fn2 hm.third
  have T1 : xP + xQ + (sx xP xQ l + l * m) = (l + m) * l := i_T1 xP xQ l m
  have hne : yR ≠ yP + l * (xR - xP) := by
    intro hy
    rcases hl.which oP oR hy with e | e | e
    · exact h1 e
    · exact h2 e
    · refine hm.not_neg hb (hl.sum_on oP) ⟨e.symm, ?_⟩
      unfold sy
      rw [neg_neg, ← e]
      exact hy
  have hg := g_ne f1P f1R T1 h1 h2
  obtain ⟨e1, e2, e3⟩ := same f1P f1R f2P f2R T1 T2 hne
  have hS : sx (sx xP xQ l) xR m = s := by
    rw [hs, ← e1, ← e3]
    exact i_S xP xQ xR l m
  refine ⟨hS, ?_⟩
  rw [hS] at f1S
  unfold fn at f1S f2S
  rw [← e1, ← e2, ← e3] at f2S
  have := lc2 _ _ (i_y _ _ _ s _ t) f1S f2S
  exact eq_of_sub ((mul_eq_zero this).resolve_left hg)

abbrev O2 : F × F := (0, 0)
def OnP (b : F) (P : F × F) : Prop := P = O2 ∨ On b P.1 P.2
abbrev OnF (b : F) (P : F × F) : Prop := On b P.1 P.2

variable (hb : b ≠ 0)
include hb
end
end Cr
/- Points without a division: what they stand for. No program here. -/
namespace Cr
open Rg Fd

section
variable {F : Type} [Fd F]
abbrev Jc (F : Type) := F × F × F
end

section
variable {F : Type} [Fd F] {b : F}
def Rep (b : F) (a : Jc F) (P : F × F) : Prop := (a.2.2 = 0 ∧ P = O2) ∨ (a.2.2 ≠ 0 ∧ a.1 = P.1 * (a.2.2 * a.2.2) ∧ a.2.1 = P.2 * (a.2.2 * (a.2.2 * a.2.2)) ∧ OnF b P)

theorem Rep.on {a : Jc F} {P : F × F} (h : Rep b a P) : OnP b P := by
  rcases h with ⟨_, h⟩ | ⟨_, _, _, h⟩
  · exact .inl h
  · exact .inr h

end
end Cr
/- Primes: Fermat, Pocklington. No program here. -/
namespace Cr

def Prm (p : Nat) : Prop := 1 < p ∧ ∀ d, d ∣ p → d = 1 ∨ d = p

theorem Prm.coprime {p k : Nat} (h : Prm p) (hk : ¬ p ∣ k) : Nat.Coprime p k := by
  rcases h.2 (Nat.gcd p k) (Nat.gcd_dvd_left p k) with e | e
  · exact e
  · exact absurd (e ▸ Nat.gcd_dvd_right p k) hk
theorem Prm.dvd_mul {p a b : Nat} (h : Prm p) (hd : p ∣ a * b) : p ∣ a ∨ p ∣ b := by
  by_cases ha : p ∣ a
  · exact .inl ha
  · exact .inr ((h.coprime ha).dvd_of_dvd_mul_left hd)

/-- Binomial coefficients. -/
def ch : Nat → Nat → Nat
  | _, 0 => 1
  | 0, _ + 1 => 0
  | n + 1, k + 1 => ch n k + ch n (k + 1)
theorem ch_zero (n : Nat) : ch n 0 = 1 := by cases n <;> rfl
theorem ch_mul : ∀ n k : Nat, (k + 1) * ch (n + 1) (k + 1) = (n + 1) * ch n k := by
  intro n
  induction n with
  | zero =>
    intro k
    cases k with
    | zero => rfl
    | succ k => simp [ch]
  | succ n ih =>
    intro k
    cases k with
    | zero =>
      have h : (0 + 1) * ch (n + 1) 1 = (n + 1) * ch n 0 := ih 0
      rw [ch_zero] at h
      show 1 * (ch (n + 1) 0 + ch (n + 1) 1) = (n + 1 + 1) * ch (n + 1) 0
      rw [ch_zero]
      omega
    | succ j =>
      have h1 := ih j
      have h2 := ih (j + 1)
      have e1 : ch (n + 1 + 1) (j + 1 + 1) = ch (n + 1) (j + 1) + ch (n + 1) (j + 1 + 1) := rfl
      have e2 : ch (n + 1) (j + 1) = ch n j + ch n (j + 1) := rfl
      rw [e1, Nat.mul_add, h2, Nat.add_mul (j + 1) 1, h1, Nat.one_mul]
      rw [e2, Nat.mul_add, Nat.add_mul (n + 1) 1, Nat.add_mul (n + 1) 1]
      omega
theorem ch_self : ∀ n : Nat, ch n n = 1 ∧ ∀ k, n < k → ch n k = 0 := by
  intro n
  induction n with
  | zero => exact ⟨rfl, fun k hk => by cases k with | zero => omega | succ k => rfl⟩
  | succ n ih =>
    refine ⟨?_, fun k hk => ?_⟩
    · show ch n n + ch n (n + 1) = 1
      rw [ih.1, ih.2 (n + 1) (by omega)]
    · cases k with
      | zero => omega
      | succ k => show ch n k + ch n (k + 1) = 0; rw [ih.2 k (by omega), ih.2 (k + 1) (by omega)]

def chS (n a : Nat) : Nat → Nat
  | 0 => 0
  | m + 1 => chS n a m + ch n m * a ^ m
theorem chS_succ (n a : Nat) : ∀ m, chS (n + 1) a (m + 1) = a * chS n a m + chS n a (m + 1) := by
  intro m
  induction m with
  | zero => simp [chS, ch_zero]
  | succ m ih =>
    show chS (n + 1) a (m + 1) + ch (n + 1) (m + 1) * a ^ (m + 1) = a * (chS n a m + ch n m * a ^ m) + (chS n a (m + 1) + ch n (m + 1) * a ^ (m + 1))
    rw [ih]
    have e : ch (n + 1) (m + 1) = ch n m + ch n (m + 1) := rfl
    rw [e, Nat.add_mul, Nat.mul_add, Nat.pow_succ, Nat.mul_comm (a ^ m) a, Nat.mul_left_comm a (ch n m)]
    omega
theorem binom (a : Nat) : ∀ n m, n < m → (a + 1) ^ n = chS n a m := by
  intro n
  induction n with
  | zero =>
    intro m hm
    cases m with
    | zero => omega
    | succ m =>
      clear hm
      induction m with
      | zero => simp [chS, ch_zero]
      | succ m ih => show _ = chS 0 a (m + 1) + ch 0 (m + 1) * a ^ (m + 1); rw [← ih, show ch 0 (m + 1) = 0 from rfl, Nat.zero_mul]; rfl
  | succ n ih =>
    intro m hm
    cases m with
    | zero => omega
    | succ m =>
      rw [chS_succ, ← ih m (by omega), ← ih (m + 1) (by omega), Nat.pow_succ, Nat.mul_add, Nat.mul_one, Nat.mul_comm a]
theorem Prm.ch_dvd {p k : Nat} (h : Prm p) (h0 : 0 < k) (h1 : k < p) : p ∣ ch p k := by
  obtain ⟨j, rfl⟩ : ∃ j, k = j + 1 := ⟨k - 1, by omega⟩
  obtain ⟨q, rfl⟩ : ∃ q, p = q + 1 := ⟨p - 1, by omega⟩
  have e := ch_mul q j
  have : q + 1 ∣ (j + 1) * ch (q + 1) (j + 1) := ⟨ch q j, e⟩
  rcases h.dvd_mul this with h2 | h2
  · exact absurd (Nat.le_of_dvd (by omega) h2) (by omega)
  · exact h2
theorem Prm.chS_mod {p : Nat} (h : Prm p) (a : Nat) : ∀ m, m < p → chS p a (m + 1) % p = 1 := by
  intro m
  have hp := h.1
  induction m with
  | zero => intro _; show (0 + ch p 0 * a ^ 0) % p = 1; rw [ch_zero, Nat.pow_zero, Nat.zero_add, Nat.mul_one]; exact Nat.mod_eq_of_lt hp
  | succ m ih =>
    intro hm
    show (chS p a (m + 1) + ch p (m + 1) * a ^ (m + 1)) % p = 1
    obtain ⟨c, hc⟩ := h.ch_dvd (k := m + 1) (by omega) hm
    rw [hc, Nat.mul_assoc, Nat.add_mul_mod_self_left, ih (by omega)]
theorem Prm.step {p : Nat} (h : Prm p) (a : Nat) : (a + 1) ^ p % p = (a ^ p + 1) % p := by
  rw [binom a p (p + 1) (by omega)]
  show (chS p a p + ch p p * a ^ p) % p = _
  obtain ⟨q, hq⟩ : ∃ q, p = q + 1 := ⟨p - 1, by have := h.1; omega⟩
  have := h.chS_mod a q (by omega)
  rw [← hq] at this
  rw [(ch_self p).1, Nat.one_mul, Nat.add_mod, this, Nat.add_comm, ← Nat.add_mod_mod (a ^ p % p), Nat.mod_add_mod]
  have : 1 % p = 1 := Nat.mod_eq_of_lt h.1
  rw [Nat.add_mod (a ^ p) 1, this, Nat.add_mod (a ^ p) 1, this]
theorem Prm.fermat {p : Nat} (h : Prm p) (a : Nat) : a ^ p % p = a % p := by
  induction a with
  | zero => rw [Nat.zero_pow (by have := h.1; omega)]
  | succ a ih => rw [h.step, Nat.add_mod, ih, ← Nat.add_mod]
theorem Prm.fermat' {p a : Nat} (h : Prm p) (ha : ¬ p ∣ a) : a ^ (p - 1) % p = 1 := by
  have hp := h.1
  have e : a ^ p = a ^ (p - 1) * a := by rw [← Nat.pow_succ]; congr 1; omega
  have f := h.fermat a
  rw [e] at f
  have h1 : 1 ≤ a ^ (p - 1) := Nat.pos_of_ne_zero (fun z => by
    have : a = 0 := by
      rcases Nat.eq_zero_or_pos a with h | h
      · exact h
      · exact absurd z (Nat.ne_of_gt (Nat.pow_pos h))
    exact ha (this ▸ Nat.dvd_zero p))
  have hd : p ∣ (a ^ (p - 1) - 1) * a := by
    rw [Nat.sub_mul, Nat.one_mul]
    exact Nat.dvd_of_mod_eq_zero (Nat.sub_mod_eq_zero_of_mod_eq f)
  rcases h.dvd_mul hd with h2 | h2
  · obtain ⟨c, hc⟩ := h2
    have : a ^ (p - 1) = 1 + p * c := by omega
    rw [this, Nat.add_mul_mod_self_left, Nat.mod_eq_of_lt hp]
  · exact absurd h2 ha

/-- Powers that are 1. -/
theorem pow_gcd {d e : Nat} : ∀ m n, e ^ m % d = 1 → e ^ n % d = 1 → e ^ (Nat.gcd m n) % d = 1 := by
  intro m n
  induction m, n using Nat.gcd.induction with
  | H0 n => intro _ h; rwa [Nat.gcd_zero_left]
  | H1 m n hm ih =>
    intro h1 h2
    rw [Nat.gcd_rec]
    refine ih ?_ h1
    have e1 : e ^ n = (e ^ m) ^ (n / m) * e ^ (n % m) := by rw [← Nat.pow_mul, ← Nat.pow_add, Nat.div_add_mod]
    rw [e1, Nat.mul_mod, Nat.pow_mod, h1, Nat.one_pow] at h2
    have hd : d ≠ 1 := by intro hd; subst hd; rw [Nat.mod_one] at h1; cases h1
    have h1d : 1 % d = 1 := by
      rcases Nat.eq_zero_or_pos d with h | h
      · subst h; rfl
      · exact Nat.mod_eq_of_lt (by omega)
    rw [h1d, Nat.one_mul, Nat.mod_mod] at h2
    exact h2

theorem exists_prime : ∀ n : Nat, 1 < n → ∃ d, Prm d ∧ d ∣ n := by
  intro n
  induction n using Nat.strongRecOn with
  | _ n ih =>
    intro hn
    by_cases hp : Prm n
    · exact ⟨n, hp, Nat.dvd_refl n⟩
    · have : ∃ d, d ∣ n ∧ d ≠ 1 ∧ d ≠ n := by
        refine Classical.byContradiction fun hc => hp ⟨hn, fun d hd => ?_⟩
        by_cases h1 : d = 1
        · exact .inl h1
        · by_cases h2 : d = n
          · exact .inr h2
          · exact absurd ⟨d, hd, h1, h2⟩ hc
      obtain ⟨d, hd, h1, h2⟩ := this
      have hdn := Nat.le_of_dvd (by omega) hd
      have hd0 : d ≠ 0 := by rintro rfl; have := Nat.eq_zero_of_zero_dvd hd; omega
      obtain ⟨q, hq, hqd⟩ := ih d (by omega) (by omega)
      exact ⟨q, hq, Nat.dvd_trans hqd hd⟩

/-- A prime factor, not above the root. -/
theorem small_prime {n : Nat} (hn : 1 < n) (hp : ¬ Prm n) : ∃ d, Prm d ∧ d ∣ n ∧ d * d ≤ n := by
  have : ∃ d, d ∣ n ∧ d ≠ 1 ∧ d ≠ n := by
    refine Classical.byContradiction fun hc => hp ⟨hn, fun d hd => ?_⟩
    by_cases h1 : d = 1
    · exact .inl h1
    · by_cases h2 : d = n
      · exact .inr h2
      · exact absurd ⟨d, hd, h1, h2⟩ hc
  obtain ⟨d, ⟨c, hc⟩, h1, h2⟩ := this
  have hd0 : d ≠ 0 := by rintro rfl; omega
  have hc0 : c ≠ 0 := by rintro rfl; omega
  have hc1 : c ≠ 1 := by rintro rfl; omega
  by_cases hle : d ≤ c
  · obtain ⟨q, hq, hqd⟩ := exists_prime d (by omega)
    have := Nat.le_of_dvd (by omega) hqd
    refine ⟨q, hq, Nat.dvd_trans hqd ⟨c, hc⟩, ?_⟩
    rw [hc]; exact Nat.mul_le_mul this (by omega)
  · obtain ⟨q, hq, hqc⟩ := exists_prime c (by omega)
    have := Nat.le_of_dvd (by omega) hqc
    refine ⟨q, hq, Nat.dvd_trans hqc ⟨d, by rw [hc, Nat.mul_comm]⟩, ?_⟩
    rw [hc]; exact Nat.mul_le_mul (by omega) this

/-- Powers modulo, by squaring. -/
def pm : Nat → Nat → Nat → Nat → Nat
  | 0, _, _, n => 1 % n
  | f + 1, a, e, n => match Nat.beq e 0 with
    | true => 1 % n
    | false => match Nat.beq (e % 2) 1 with
      | true => a * pm f (a * a % n) (e / 2) n % n
      | false => pm f (a * a % n) (e / 2) n
theorem pm_eq : ∀ f a e n, e < 2 ^ f → pm f a e n = a ^ e % n := by
  intro f
  induction f with
  | zero => intro a e n h; have : e = 0 := by simp at h; exact h
            subst this; rfl
  | succ f ih =>
    intro a e n h
    unfold pm
    split
    · rename_i h0; have := Nat.eq_of_beq_eq_true h0; subst this; rfl
    · have hr := ih (a * a % n) (e / 2) n (by rw [Nat.pow_succ] at h; omega)
      have hsq : (a * a % n) ^ (e / 2) % n = a ^ (2 * (e / 2)) % n := by rw [← Nat.pow_mod, Nat.pow_mul, Nat.pow_two]
      split
      · rename_i h1
        have h1 := Nat.eq_of_beq_eq_true h1
        rw [hr, hsq, Nat.mul_mod_mod, ← Nat.pow_succ']
        congr 2; omega
      · rename_i h1
        have h1 : e % 2 ≠ 1 := fun h2 => by rw [h2] at h1; exact absurd h1 (by decide)
        rw [hr, hsq]
        congr 2; omega

theorem dvd_pow_self' {a q : Nat} (h : 0 < q) : a ∣ a ^ q := by
  obtain ⟨j, rfl⟩ : ∃ j, q = j + 1 := ⟨q - 1, by omega⟩
  exact ⟨a ^ j, by rw [Nat.pow_succ, Nat.mul_comm]⟩
/-- Pocklington: what divides one less than a prime factor. -/
theorem pock {N q k a f : Nat} (hq : Prm q) (hN : N = q * k + 1) (hf : N < 2 ^ f) (h1 : pm f a (q * k) N = 1) (h2 : Nat.gcd (pm f a k N + (N - 1)) N = 1) {d : Nat} (hd : Prm d) (hdN : d ∣ N) : q ∣ d - 1 := by
  have hk : k < 2 ^ f := by
    have : k ≤ q * k := Nat.le_mul_of_pos_left k (by have := hq.1; omega)
    omega
  have hd1 := hd.1
  rw [pm_eq f a _ N (by omega)] at h1
  rw [pm_eq f a k N hk] at h2
  have e1 : (a ^ k) ^ q % d = 1 := by
    rw [← Nat.pow_mul, Nat.mul_comm k q, ← Nat.mod_mod_of_dvd _ hdN, h1, Nat.mod_eq_of_lt hd1]
  have hne : a ^ k % d ≠ 1 := by
    intro he
    have hdv : d ∣ a ^ k % N + (N - 1) := by
      have h3 : (a ^ k % N) % d = 1 := by rw [Nat.mod_mod_of_dvd _ hdN]; exact he
      refine Nat.dvd_of_mod_eq_zero ?_
      obtain ⟨c, hc⟩ := hdN
      have : a ^ k % N + (N - 1) + 1 = a ^ k % N + d * c := by omega
      have h5 : (a ^ k % N + (N - 1) + 1) % d = 1 := by rw [this, Nat.add_mul_mod_self_left, h3]
      have h6 := Nat.add_mod (a ^ k % N + (N - 1)) 1 d
      rw [h5, Nat.mod_eq_of_lt hd1] at h6
      have h7 := Nat.mod_lt (a ^ k % N + (N - 1)) (show 0 < d by omega)
      generalize (a ^ k % N + (N - 1)) % d = r at *
      by_cases hr : r + 1 = d
      · rw [hr, Nat.mod_self] at h6; cases h6
      · rw [Nat.mod_eq_of_lt (by omega)] at h6; omega
    have := Nat.dvd_gcd hdv hdN
    rw [h2] at this
    have := Nat.le_of_dvd (by omega) this
    omega
  have hda : ¬ d ∣ a ^ k := by
    intro h
    have : (a ^ k) ^ q % d = 0 := Nat.mod_eq_zero_of_dvd (Nat.dvd_trans h (dvd_pow_self' (by have := hq.1; omega)))
    rw [this] at e1; cases e1
  have e2 := hd.fermat' hda
  refine Classical.byContradiction fun hnd => ?_
  have hg := hq.coprime hnd
  have := pow_gcd q (d - 1) e1 e2
  rw [hg, Nat.pow_one] at this
  exact hne this

/-- By trial: no divisor between. -/
def noDiv (n : Nat) : Nat → Nat → Bool
  | 0, lo => !(Nat.beq (n % lo) 0)
  | f + 1, lo => noDiv n f lo && noDiv n f (lo + 2 ^ f)
theorem noDiv_spec {n : Nat} : ∀ f lo, noDiv n f lo = true → ∀ d, lo ≤ d → d < lo + 2 ^ f → ¬ d ∣ n := by
  intro f
  induction f with
  | zero =>
    intro lo h d h1 h2 hd
    have : d = lo := by simp at h2; omega
    subst this
    unfold noDiv at h
    rw [Nat.mod_eq_zero_of_dvd hd] at h
    simp at h
  | succ f ih =>
    intro lo h d h1 h2
    unfold noDiv at h
    simp only [Bool.and_eq_true] at h
    rw [Nat.pow_succ] at h2
    by_cases hm : d < lo + 2 ^ f
    · exact ih lo h.1 d h1 hm
    · exact ih (lo + 2 ^ f) h.2 d (by omega) (by omega)
theorem trial {n f : Nat} (hn : 1 < n) (hf : n < (2 + 2 ^ f) * (2 + 2 ^ f)) (h : noDiv n f 2 = true) : Prm n := by
  refine Classical.byContradiction fun hp => ?_
  obtain ⟨d, hd, hdn, hdd⟩ := small_prime hn hp
  refine noDiv_spec f 2 h d hd.1 ?_ hdn
  refine Classical.byContradiction fun hc => ?_
  have : (2 + 2 ^ f) * (2 + 2 ^ f) ≤ d * d := Nat.mul_le_mul (by omega) (by omega)
  omega
end Cr
/- The two moduli are prime: certificates, printed by a program. No program under proof here. -/
namespace Cr
set_option maxRecDepth 100000
theorem pock_fin {K d n : Nat} (hd : 1 < d) (h : K ∣ d - 1) (hdd : d * d ≤ n) (hK : n < K * K) : False := by
  have hle := Nat.le_of_dvd (by omega) h
  have : K * K ≤ d * d := Nat.mul_le_mul (by omega) (by omega)
  omega
theorem prm_421987 : Prm 421987 := trial (f := 10) (by decide) (by decide) (by kernel_rfl)
theorem prm_13090036741 : Prm 13090036741 := by
  refine Classical.byContradiction fun hp => ?_
  obtain ⟨d, hd, hdn, hdd⟩ := small_prime (n := 13090036741) (by decide) hp
  have h0 : 421987 ∣ d - 1 := pock (k := 31020) (a := 2) (f := 34) prm_421987 (by kernel_rfl) (of_decide_eq_true (by kernel_rfl)) (by kernel_rfl) (by kernel_rfl) hd hdn
  exact pock_fin hd.1 h0 hdd (of_decide_eq_true (by kernel_rfl))
theorem prm_755057 : Prm 755057 := trial (f := 10) (by decide) (by decide) (by kernel_rfl)
theorem prm_3819663927398918131021 : Prm 3819663927398918131021 := by
  refine Classical.byContradiction fun hp => ?_
  obtain ⟨d, hd, hdn, hdd⟩ := small_prime (n := 3819663927398918131021) (by decide) hp
  have h0 : 13090036741 ∣ d - 1 := pock (k := 291799328220) (a := 2) (f := 72) prm_13090036741 (by kernel_rfl) (of_decide_eq_true (by kernel_rfl)) (by kernel_rfl) (by kernel_rfl) hd hdn
  have h1 : 755057 ∣ d - 1 := pock (k := 5058775598926860) (a := 2) (f := 72) prm_755057 (by kernel_rfl) (of_decide_eq_true (by kernel_rfl)) (by kernel_rfl) (by kernel_rfl) hd hdn
  have g1 : 13090036741 * 755057 ∣ d - 1 := Nat.Coprime.mul_dvd_of_dvd_of_dvd (show Nat.gcd 13090036741 755057 = 1 by kernel_rfl) h0 h1
  rw [show 13090036741 * 755057 = 9883723871549237 by kernel_rfl] at g1
  exact pock_fin hd.1 g1 hdd (of_decide_eq_true (by kernel_rfl))
theorem prm_1125266252156850182658904441386709967 : Prm 1125266252156850182658904441386709967 := by
  refine Classical.byContradiction fun hp => ?_
  obtain ⟨d, hd, hdn, hdd⟩ := small_prime (n := 1125266252156850182658904441386709967) (by decide) hp
  have h0 : 3819663927398918131021 ∣ d - 1 := pock (k := 294598235223046) (a := 2) (f := 120) prm_3819663927398918131021 (by kernel_rfl) (of_decide_eq_true (by kernel_rfl)) (by kernel_rfl) (by kernel_rfl) hd hdn
  exact pock_fin hd.1 h0 hdd (of_decide_eq_true (by kernel_rfl))
theorem prm_15778400344354997994418419698270088123916926905054652752758194827714659 : Prm 15778400344354997994418419698270088123916926905054652752758194827714659 := by
  refine Classical.byContradiction fun hp => ?_
  obtain ⟨d, hd, hdn, hdd⟩ := small_prime (n := 15778400344354997994418419698270088123916926905054652752758194827714659) (by decide) hp
  have h0 : 1125266252156850182658904441386709967 ∣ d - 1 := pock (k := 14021926201120671579994175730661374) (a := 2) (f := 234) prm_1125266252156850182658904441386709967 (by kernel_rfl) (of_decide_eq_true (by kernel_rfl)) (by kernel_rfl) (by kernel_rfl) hd hdn
  exact pock_fin hd.1 h0 hdd (of_decide_eq_true (by kernel_rfl))
theorem prm_p : Prm 4002409555221667393417789825735904156556882819939007885332058136124031650490837864442687629129015664037894272559787 := by
  refine Classical.byContradiction fun hp => ?_
  obtain ⟨d, hd, hdn, hdd⟩ := small_prime (n := 4002409555221667393417789825735904156556882819939007885332058136124031650490837864442687629129015664037894272559787) (by decide) hp
  have h0 : 15778400344354997994418419698270088123916926905054652752758194827714659 ∣ d - 1 := pock (k := 253663835868735594330404923636534084567099854) (a := 2) (f := 381) prm_15778400344354997994418419698270088123916926905054652752758194827714659 (by kernel_rfl) (of_decide_eq_true (by kernel_rfl)) (by kernel_rfl) (by kernel_rfl) hd hdn
  exact pock_fin hd.1 h0 hdd (of_decide_eq_true (by kernel_rfl))
theorem prm_254760293 : Prm 254760293 := trial (f := 14) (by decide) (by decide) (by kernel_rfl)
theorem prm_52437899 : Prm 52437899 := trial (f := 13) (by decide) (by decide) (by kernel_rfl)
theorem prm_2529403 : Prm 2529403 := trial (f := 11) (by decide) (by decide) (by kernel_rfl)
theorem prm_2508409 : Prm 2508409 := trial (f := 11) (by decide) (by decide) (by kernel_rfl)
theorem prm_906349 : Prm 906349 := trial (f := 10) (by decide) (by decide) (by kernel_rfl)
theorem prm_859267 : Prm 859267 := trial (f := 10) (by decide) (by decide) (by kernel_rfl)
theorem prm_r : Prm 52435875175126190479447740508185965837690552500527637822603658699938581184513 := by
  refine Classical.byContradiction fun hp => ?_
  obtain ⟨d, hd, hdn, hdd⟩ := small_prime (n := 52435875175126190479447740508185965837690552500527637822603658699938581184513) (by decide) hp
  have h0 : 254760293 ∣ d - 1 := pock (k := 205824363591567193241718168805002771125288949563767528806397073424384) (a := 2) (f := 255) prm_254760293 (by kernel_rfl) (of_decide_eq_true (by kernel_rfl)) (by kernel_rfl) (by kernel_rfl) hd hdn
  have h1 : 52437899 ∣ d - 1 := pock (k := 999961405302035279473110478895921551656570994587857873989262207090688) (a := 2) (f := 255) prm_52437899 (by kernel_rfl) (of_decide_eq_true (by kernel_rfl)) (by kernel_rfl) (by kernel_rfl) hd hdn
  have h2 : 2529403 ∣ d - 1 := pock (k := 20730534112249487519168649878325425342537568153642435714120548880482304) (a := 2) (f := 255) prm_2529403 (by kernel_rfl) (of_decide_eq_true (by kernel_rfl)) (by kernel_rfl) (by kernel_rfl) hd hdn
  have h3 : 2508409 ∣ d - 1 := pock (k := 20904037250355181503274681484632675866531555460264908084209416686010368) (a := 2) (f := 255) prm_2508409 (by kernel_rfl) (of_decide_eq_true (by kernel_rfl)) (by kernel_rfl) (by kernel_rfl) hd hdn
  have h4 : 906349 ∣ d - 1 := pock (k := 57853956009358636109763171259841369977448590444219211167666824479244288) (a := 2) (f := 255) prm_906349 (by kernel_rfl) (of_decide_eq_true (by kernel_rfl)) (by kernel_rfl) (by kernel_rfl) hd hdn
  have h5 : 859267 ∣ d - 1 := pock (k := 61023960160376449321861238134579782346686830170980193377150127608692736) (a := 2) (f := 255) prm_859267 (by kernel_rfl) (of_decide_eq_true (by kernel_rfl)) (by kernel_rfl) (by kernel_rfl) hd hdn
  have g1 : 254760293 * 52437899 ∣ d - 1 := Nat.Coprime.mul_dvd_of_dvd_of_dvd (show Nat.gcd 254760293 52437899 = 1 by kernel_rfl) h0 h1
  rw [show 254760293 * 52437899 = 13359094513544407 by kernel_rfl] at g1
  have g2 : 13359094513544407 * 2529403 ∣ d - 1 := Nat.Coprime.mul_dvd_of_dvd_of_dvd (show Nat.gcd 13359094513544407 2529403 = 1 by kernel_rfl) g1 h2
  rw [show 13359094513544407 * 2529403 = 33790533739842763699021 by kernel_rfl] at g2
  have g3 : 33790533739842763699021 * 2508409 ∣ d - 1 := Nat.Coprime.mul_dvd_of_dvd_of_dvd (show Nat.gcd 33790533739842763699021 2508409 = 1 by kernel_rfl) g2 h3
  rw [show 33790533739842763699021 * 2508409 = 84760478947825247047497567589 by kernel_rfl] at g3
  have g4 : 84760478947825247047497567589 * 906349 ∣ d - 1 := Nat.Coprime.mul_dvd_of_dvd_of_dvd (show Nat.gcd 84760478947825247047497567589 906349 = 1 by kernel_rfl) g3 h4
  rw [show 84760478947825247047497567589 * 906349 = 76822575333882464836252372886722561 by kernel_rfl] at g4
  have g5 : 76822575333882464836252372886722561 * 859267 ∣ d - 1 := Nat.Coprime.mul_dvd_of_dvd_of_dvd (show Nat.gcd 76822575333882464836252372886722561 859267 = 1 by kernel_rfl) g4 h5
  rw [show 76822575333882464836252372886722561 * 859267 = 66011103839419183912452067693255434822787 by kernel_rfl] at g5
  exact pock_fin hd.1 g5 hdd (of_decide_eq_true (by kernel_rfl))
end Cr
/- The numbers modulo a prime are a field. No program here. -/
namespace Cr

section
variable {M : Int} [Md M]
instance rgZm : Rg (Zm M) where
  add_comm a b := Zm.ext (by simp only [add_v, Int.add_comm])
  add_assoc a b c := by rw [← zm_self a, ← zm_self b, ← zm_self c]; simp only [zm_add, Int.add_assoc]
  zero_add a := by rw [← zm_self a, ← zm_zero]; simp only [zm_add, Int.zero_add]
  neg_add a := by rw [← zm_self a, ← zm_zero]; simp only [zm_add, zm_neg]; congr 1; omega
  sub_def a b := by rw [← zm_self a, ← zm_self b]; simp only [zm_add, zm_neg, zm_sub]; congr 1
  mul_comm := mul_comm'
  mul_assoc := mul_assoc'
  one_mul := one_mul'
  add_mul := add_mul'

theorem zpow_v (x : Zm M) (n : Nat) : (zpow x n).v = x.v ^ n % M := by
  induction n with
  | zero => show (1 : Zm M).v = _; rw [one_v, Int.pow_zero, Int.emod_eq_of_lt (by omega) Md.gt]
  | succ n ih => show (zpow x n * x).v = _; rw [mul_v, ih, Int.pow_succ, Int.mul_emod, Int.emod_emod, ← Int.mul_emod]

theorem zm_fermat {P : Nat} (hM : M = (P : Int)) (hp : Prm P) {x : Zm M} (hx : x ≠ 0) {n : Nat} (hn : n + 2 = P) : x * zpow x n = 1 := by
  obtain ⟨a, ha⟩ := Int.eq_ofNat_of_zero_le x.nn
  have hna : ¬ P ∣ a := by
    intro hd
    have hlt : a < P := by have := x.lt; omega
    have : a = 0 := Nat.eq_zero_of_dvd_of_lt hd hlt
    exact hx (Zm.ext (by rw [zero_v, ha, this]; rfl))
  have hf := hp.fermat' hna
  refine Zm.ext ?_
  rw [mul_v, zpow_v, one_v, Int.mul_emod, Int.emod_emod, ← Int.mul_emod, Int.mul_comm, ← Int.pow_succ, ha, hM, ← Int.natCast_pow]
  have e : P - 1 = n + 1 := by omega
  rw [e] at hf
  rw [← Int.natCast_emod, hf]
  rfl
end

theorem Mp_nat : Mp = ((4002409555221667393417789825735904156556882819939007885332058136124031650490837864442687629129015664037894272559787 : Nat) : Int) := rfl
theorem Mr_nat : Mr = ((52435875175126190479447740508185965837690552500527637822603658699938581184513 : Nat) : Int) := rfl
theorem zpw_inv {x : Fp} (hx : x ≠ 0) : x * zpw x 4002409555221667393417789825735904156556882819939007885332058136124031650490837864442687629129015664037894272559785 = 1 := by
  rw [zpw_eq]
  exact zm_fermat Mp_nat prm_p hx (of_decide_eq_true (by kernel_rfl))
theorem zpw_inv_r {x : Fr} (hx : x ≠ 0) : x * zpw x 52435875175126190479447740508185965837690552500527637822603658699938581184511 = 1 := by
  rw [zpw_eq]
  exact zm_fermat Mr_nat prm_r hx (of_decide_eq_true (by kernel_rfl))

noncomputable instance fdFp : Fd Fp where
  deq := inferInstance
  inv x := zpw x 4002409555221667393417789825735904156556882819939007885332058136124031650490837864442687629129015664037894272559785
  mul_inv _ h := zpw_inv h
  one_ne := by decide
  two_ne := by decide
  three_ne := by decide
noncomputable instance fdFr : Fd Fr where
  deq := inferInstance
  inv x := zpw x 52435875175126190479447740508185965837690552500527637822603658699938581184511
  mul_inv _ h := zpw_inv_r h
  one_ne := by decide
  two_ne := by decide
  three_ne := by decide
end Cr
namespace Go.Proofs.YtbfimfdhmggieaaDoor
open Go Go.Eng Cr
end Go.Proofs.YtbfimfdhmggieaaDoor
namespace Go.Proofs.YtbfimfdhmggieaaDoor.g1
set_option maxRecDepth 100000
open Go Go.Eng Go.RowKit Cr Go.Proofs.YtbfimfdhmggieaaDoor
end Go.Proofs.YtbfimfdhmggieaaDoor.g1
