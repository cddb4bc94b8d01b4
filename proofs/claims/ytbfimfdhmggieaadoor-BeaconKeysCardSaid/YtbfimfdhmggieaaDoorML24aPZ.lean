/- BeaconKeys, for every input: true; the input reads as it did. No condition. -/
import Derived.LaidLaws
import Derived.LaidHandle
import Derived.LaidMore
import Derived.MakeChecks
import Derived.OpenShut
import Derived.Test.YtbfimfdhmggieaaDoorRows
import Derived.Test.YtbfimfdhmggieaaDoorCards
import Derived.Test.YtbfimfdhmggieaaDoorTie
import Derived.ProofKit
import Derived.Stop.Joined
import Derived.SevenTiedAt
import Derived.Test.YtbfimfdhmggieaaDoorML24aPY
/- sha: rotations, one block. -/
namespace Go.Proofs.YtbfimfdhmggieaaDoor.sha
set_option maxRecDepth 100000
open Go Go.Eng Go.RowKit Cr Go.Proofs.YtbfimfdhmggieaaDoor
abbrev uK : Kd := .int .u32
abbrev bK : Kd := .int .u8
abbrev hashK : Kd := .pair (.arr 8 uK) (.pair (.arr 64 bK) (.int .i64))
def firstL : List Int := [1779033703, 3144134277, 1013904242, 2773480762, 1359893119, 2600822924, 528734635, 1541459225]
def rootsL : List Int := [1116352408, 1899447441, 3049323471, 3921009573, 961987163, 1508970993, 2453635748, 2870763221, 3624381080, 310598401, 607225278, 1426881987, 1925078388, 2162078206, 2614888103, 3248222580, 3835390401, 4022224774, 264347078, 604807628, 770255983, 1249150122, 1555081692, 1996064986, 2554220882, 2821834349, 2952996808, 3210313671, 3336571891, 3584528711, 113926993, 338241895, 666307205, 773529912, 1294757372, 1396182291, 1695183700, 1986661051, 2177026350, 2456956037, 2730485921, 2820302411, 3259730800, 3345764771, 3516065817, 3600352804, 4094571909, 275423344, 430227734, 506948616, 659060556, 883997877, 958139571, 1322822218, 1537002063, 1747873779, 1955562222, 2024104815, 2227730452, 2361852424, 2428436474, 2756734187, 3204031479, 3329325298]
/-- The package's variables. -/
def shaG : Glob := fun g => if g = 0 then some ⟨.arr 8 uK, firstL⟩ else if g = 1 then some ⟨.arr 64 uK, rootsL⟩ else none
theorem ent_rot : enters Tryd.prog 145 Tryd.f145 := enters_mk (by kernel_rfl) (by kernel_rfl) (by kernel_rfl)
def rotF (x k : Int) : Int := bitOp .or .u32 (IntKind.u32.wrap (x * 2 ^ min (bitOp .and .u64 (IntKind.u64.wrap k) 31).toNat IntKind.u32.bits)) (Int.fdiv x (2 ^ min (IntKind.u64.wrap (32 - bitOp .and .u64 (IntKind.u64.wrap k) 31)).toNat IntKind.u32.bits))
noncomputable def rot (x k : Int) : Int := opq (rotF x k)
theorem wrap_nn (x : Int) : 0 ≤ IntKind.u64.wrap x := by
  simp only [IntKind.wrap, IntKind.signed, IntKind.bits]
  simp
  omega
theorem fn_rot : FnOk Tryd.prog 145 [uK, .int .i64] [.val uK] noG (fun _ => True) (fun (x, k, _) => (rot x k, ())) := by
  refine fn_of_vc (sp := sps []) sps_nil mixed ent_rot (by decide) (by decide) ?_
  rintro w M0 ⟨x, k, ⟨⟩⟩
  revert x k
  intro (x : Int) (k : Int) _ _
  refine vcx (X := ((0 : Int) ≤ bitOp BinOp.and IntKind.u64 (IntKind.u64.wrap k) (31 : Int) ∧ (0 : Int) ≤ IntKind.u64.wrap ((32 : Int) - bitOp BinOp.and IntKind.u64 (IntKind.u64.wrap k) (31 : Int)) ∧ (bitOp BinOp.or IntKind.u32 (IntKind.u32.wrap (x * (2 : Int) ^ min (bitOp BinOp.and IntKind.u64 (IntKind.u64.wrap k) (31 : Int)).toNat IntKind.u32.bits)) (x.fdiv ((2 : Int) ^ min (IntKind.u64.wrap ((32 : Int) - bitOp BinOp.and IntKind.u64 (IntKind.u64.wrap k) (31 : Int))).toNat IntKind.u32.bits)), ()) = (rot x k, ()))) (by kernel_rfl) ?_
  refine ⟨?_, ?_, by show _ = (rot x k, ()); rw [rot, opq_eq]; rfl⟩
  · have h : (0 : Int) ≤ bitOp .and .u64 (IntKind.u64.wrap k) 31 := by
      show (0 : Int) ≤ IntKind.u64.wrap _
      exact wrap_nn _
    exact h
  · exact wrap_nn _
noncomputable def spRot : Nat × Eng.Spec := (145, fnSpec [uK, .int .i64] [.val uK] (fun _ => True) (fun (x, k, _) => (rot x k, ())))
theorem ent_take : enters Tryd.prog 135 Tryd.f135 := enters_mk (by kernel_rfl) (by kernel_rfl) (by kernel_rfl)
noncomputable abbrev TK : List Code := codeOf Tryd.f135
noncomputable def tkA (st rest p : List Int) (sz : Int) (g : Int × List Int) : St := mkSt Tryd.f135.ntmps 25 [(0, .is (.one (.ptr 0 0))), (3, .is (.one (.ptr 1 0))), (4, .is (.one (.ptr 9 0))), (23, sI .i64 g.1)] [(9, [.ints .u32 64 g.2]), (1, [.ints .u8 64 p]), (0, [.ints .u32 8 st, .ints .u8 64 rest, .v (.int .i64 sz)])]
noncomputable def tkB (st rest p : List Int) (sz : Int) (i : Nat) (g : Int × List Int) : St := mkSt Tryd.f135.ntmps 25 [(0, .is (.one (.ptr 0 0))), (3, .is (.one (.ptr 1 0))), (4, .is (.one (.ptr 9 0))), (5, sI .i64 i), (23, sI .i64 i), (26, sI .i64 g.1)] [(9, [.ints .u32 64 g.2]), (1, [.ints .u8 64 p]), (0, [.ints .u32 8 st, .ints .u8 64 rest, .v (.int .i64 sz)])]
/-- A byte more in a word. -/
def wB (p : List Int) (i j : Nat) (w : List Int) : List Int := w.set i (bitOp .or .u32 (IntKind.u32.wrap (w.getD i 0 * 2 ^ min (8 : Nat) IntKind.u32.bits)) (IntKind.u32.wrap (p.getD (4 * i + j) 0)))
def wBk (p : List Int) (i : Nat) (w : List Int) : Nat → List Int
  | 0 => w
  | j + 1 => wB p i j (wBk p i w j)
def wAk (p : List Int) : Nat → List Int
  | 0 => List.replicate 64 0
  | i + 1 => wBk p i (wAk p i) 4
theorem wBk_len (p : List Int) (i : Nat) (w : List Int) : ∀ j, (wBk p i w j).length = w.length
  | 0 => rfl
  | j + 1 => by show (wB p i j _).length = _; rw [wB, List.length_set, wBk_len p i w j]
theorem wAk_len (p : List Int) : ∀ i, (wAk p i).length = 64
  | 0 => List.length_replicate
  | i + 1 => by show (wBk p i (wAk p i) 4).length = _; rw [wBk_len, wAk_len p i]
noncomputable def tkC (st rest p : List Int) (sz : Int) (g : Int × List Int) : St := mkSt Tryd.f135.ntmps 25 [(0, .is (.one (.ptr 0 0))), (4, .is (.one (.ptr 9 0))), (45, sI .i64 g.1)] [(9, [.ints .u32 64 g.2]), (0, [.ints .u32 8 st, .ints .u8 64 rest, .v (.int .i64 sz)])]
noncomputable def tkD (st rest p : List Int) (sz : Int) (w : List Int) (g : Int × List Int) : St := mkSt Tryd.f135.ntmps 81 [(0, .is (.one (.ptr 0 0))), (4, .is (.one (.ptr 9 0))), (12, .is (.one (.ptr 57 0))), (92, sI .i64 g.1)] [(57, [.ints .u32 8 g.2]), (9, [.ints .u32 64 w]), (0, [.ints .u32 8 st, .ints .u8 64 rest, .v (.int .i64 sz)])]
noncomputable def sg0 (a : Int) : Int := bitOp .xor .u32 (bitOp .xor .u32 (rot a (-7)) (rot a (-18))) (a.fdiv (2 ^ min (3 : Nat) IntKind.u32.bits))
noncomputable def sg1 (a : Int) : Int := bitOp .xor .u32 (bitOp .xor .u32 (rot a (-17)) (rot a (-19))) (a.fdiv (2 ^ min (10 : Nat) IntKind.u32.bits))
/-- A word more. -/
noncomputable def wC (w : List Int) (i : Nat) : List Int := w.set (i + 16) (IntKind.u32.wrap (IntKind.u32.wrap (IntKind.u32.wrap (w.getD i 0 + sg0 (w.getD (i + 1) 0)) + w.getD (i + 9) 0) + sg1 (w.getD (i + 14) 0)))
noncomputable def wCk (w : List Int) : Nat → List Int
  | 0 => w
  | i + 1 => wC (wCk w i) i
theorem wCk_len (w : List Int) : ∀ i, (wCk w i).length = w.length
  | 0 => rfl
  | i + 1 => by show (wC _ i).length = _; rw [wC, List.length_set, wCk_len w i]
noncomputable def tkE (rest : List Int) (sz : Int) (w v : List Int) (g : Int × List Int) : St := mkSt Tryd.f135.ntmps 81 [(0, .is (.one (.ptr 0 0))), (12, .is (.one (.ptr 57 0))), (172, sI .i64 g.1)] [(57, [.ints .u32 8 v]), (0, [.ints .u32 8 g.2, .ints .u8 64 rest, .v (.int .i64 sz)])]
theorem eight : ∀ {v : List Int}, v.length = 8 → ∃ a b c d e f g h, v = [a, b, c, d, e, f, g, h]
  | [a, b, c, d, e, f, g, h], _ => ⟨a, b, c, d, e, f, g, h, rfl⟩
noncomputable def rT (w : List Int) (e f g h : Int) (i : Nat) : Int := IntKind.u32.wrap (IntKind.u32.wrap (h + bitOp .xor .u32 (bitOp .xor .u32 (rot e (-6)) (rot e (-11))) (rot e (-25))) + IntKind.u32.wrap (IntKind.u32.wrap (bitOp .xor .u32 (bitOp .and .u32 e f) (bitOp .and .u32 (bitOp .xor .u32 (if IntKind.u32.signed = true then (-1 : Int) else IntKind.u32.max) e) g) + rootsL.getD i 0) + w.getD i 0))
noncomputable def rU (a b c : Int) : Int := IntKind.u32.wrap (bitOp .xor .u32 (bitOp .xor .u32 (rot a (-2)) (rot a (-13))) (rot a (-22)) + bitOp .xor .u32 (bitOp .xor .u32 (bitOp .and .u32 a b) (bitOp .and .u32 a c)) (bitOp .and .u32 b c))
/-- A round. -/
noncomputable def vC (w : List Int) : List Int → Nat → List Int
  | [a, b, c, d, e, f, g, h], i => [IntKind.u32.wrap (rT w e f g h i + rU a b c), a, b, c, IntKind.u32.wrap (d + rT w e f g h i), e, f, g]
  | v, _ => v
noncomputable def vCk (w v : List Int) : Nat → List Int
  | 0 => v
  | i + 1 => vC w (vCk w v i) i
theorem vCk_len (w : List Int) {v : List Int} (hv : v.length = 8) : ∀ i, (vCk w v i).length = 8
  | 0 => hv
  | i + 1 => by
    obtain ⟨a, b, c, d, e, f, g, h, e1⟩ := eight (vCk_len w hv i)
    show (vC w (vCk w v i) i).length = 8
    rw [e1]; rfl
def fCk (v s : List Int) : Nat → List Int
  | 0 => s
  | i + 1 => (fCk v s i).set i (IntKind.u32.wrap ((fCk v s i).getD i 0 + v.getD i 0))
/-- A block laid over a state. -/
noncomputable def takeF (st p : List Int) : List Int := fCk (vCk (wCk (wAk p 16) 48) st 64) st 8
noncomputable def tko (st p : List Int) : List Int := opq (takeF st p)
theorem fn_take : FnOkP Tryd.prog 135 hashK [.arr 64 bK] [] shaG (fun _ => True) (fun ((st, rest, sz), p, _) => ((tko st p, rest, sz), ())) := by
  have hsp : SpecsOk Tryd.prog (sps [spRot]) := sps_cons (fnSpec_ok fn_rot) sps_nil
  refine fn_of_trP (sp := sps [spRot]) ent_take (by decide) (by decide) (by kernel_rfl) ?_
  rintro w M0 b0 ⟨st, rest, sz⟩ ⟨p, ⟨⟩⟩
  revert st rest sz p
  intro (st : List Int) (rest : List Int) (sz : Int) (p : List Int) hw hw2 _
  have hst : st.length = 8 := hw.1.1
  have hp : p.length = 64 := hw2.1.1
  show Tr _ _ _ _ _ _ _
  refine tr_cut hsp mixed 3 (tkA st rest p sz (0, List.replicate 64 0)) True ?_ (fun _ => ?_)
  · refine vcx (X := ((tkA st rest p sz ((0 : Int), List.replicate (64 : Nat) (0 : Int))).triv True)) (by kernel_rfl) ?_
    exact triv_intro trivial
  refine tr_whileT noSw (fun σ => (rdS (.int .i64) 23 σ, rdR uK 9 σ)) (tkA st rest p sz) (fun g => ∃ k : Nat, k ≤ 16 ∧ g.1 = (k : Int) ∧ g.2 = wAk p k) (fun g => 16 - g.1.toNat)
    (fun σ => (rdS (.int .i64) 23 σ, rdR uK 9 σ)) (tkA st rest p sz) (fun g => g.2 = wAk p 16) (0, List.replicate 64 0) (c := nthC TK 3) (by kernel_rfl) (by kernel_rfl) (le_of_proj (by kernel_rfl) (by kernel_rfl) ?_) ?_ ?_
  · exact ⟨0, by decide, rfl, rfl⟩
  · rintro ⟨i, wl⟩ hj
    revert i wl
    intro (i : Int) (wl : List Int) ⟨k, hk, ei, ew⟩
    have ei : i = (k : Int) := ei
    have kw : wl = wAk p k := ew
    subst ei
    refine tr_cut hsp mixed 2 (tkA st rest p sz ((k : Int), wl)) (k < 16) ?_ (fun hlt => ?_)
    · refine vcx (X := ((decide ((↑k : Int) < (16 : Int)) = true → (tkA st rest p sz ((↑k : Int), wl)).triv (k < (16 : Nat))) ∧ (decide ((↑k : Int) < (16 : Int)) = false → (tkA st rest p sz ((↑k : Int), wl)).triv (wl = wAk p (16 : Nat))))) (by kernel_rfl) ?_
      refine ⟨fun h => triv_intro (by have := of_decide_eq_true h; omega), fun h => triv_intro ?_⟩
      have : k = 16 := by have := of_decide_eq_false h; omega
      rw [kw, this]
    refine tr_block (c := nthC (loopOf (nthC (codeOf Tryd.f135) 3)) 2) (by kernel_rfl) (by kernel_rfl) ?_
    refine tr_cut hsp mixed 2 (tkB st rest p sz k (0, wl)) True ?_ (fun _ => ?_)
    · refine vcx (X := ((tkB st rest p sz k ((0 : Int), wl)).triv True)) (by kernel_rfl) ?_
      exact triv_intro trivial
    refine tr_while hsp mixed noSw (fun σ => (rdS (.int .i64) 26 σ, rdR uK 9 σ)) (tkB st rest p sz k) (fun g => ∃ j : Nat, j ≤ 4 ∧ g.1 = (j : Int) ∧ g.2 = wBk p k wl j) (fun g => 4 - g.1.toNat)
      (fun σ => rdR uK 9 σ) (fun w => tkA st rest p sz ((k : Int), w)) (fun w => w = wBk p k wl 4) (0, wl) (c := nthC (bodyOf (nthC (loopOf (nthC (codeOf Tryd.f135) 3)) 2)) 2) (by kernel_rfl) (by kernel_rfl) (le_of_proj (by kernel_rfl) (by kernel_rfl) ?_) ?_ ?_
    · exact ⟨0, by decide, rfl, rfl⟩
    · rintro ⟨j, wj⟩ hj
      revert j wj
      intro (j : Int) (wj : List Int) ⟨t, ht, ej, ewj⟩
      have ej : j = (t : Int) := ej
      have kwj : wj = wBk p k wl t := ewj
      subst ej
      refine vcx (X := ((decide ((↑t : Int) < (4 : Int)) = true → ((0 : Int) ≤ (↑k : Int) ∧ (↑k : Int) < (↑(64 : Nat) : Int)) ∧ (↑k : Int).toNat < (64 : Nat) ∧ (0 : Int) ≤ (8 : Int) ∧ ((0 : Int) ≤ IntKind.i64.wrap (IntKind.i64.wrap ((4 : Int) * (↑k : Int)) + (↑t : Int)) ∧ IntKind.i64.wrap (IntKind.i64.wrap ((4 : Int) * (↑k : Int)) + (↑t : Int)) < (↑(64 : Nat) : Int)) ∧ (IntKind.i64.wrap (IntKind.i64.wrap ((4 : Int) * (↑k : Int)) + (↑t : Int))).toNat < (64 : Nat) ∧ ((0 : Int) ≤ (↑k : Int) ∧ (↑k : Int) < (↑(64 : Nat) : Int)) ∧ (↑k : Int).toNat < (64 : Nat) ∧ (tkB st rest p sz k (IntKind.i64.wrap ((↑t : Int) + (1 : Int)), wj.set (↑k : Int).toNat (bitOp BinOp.or IntKind.u32 (IntKind.u32.wrap (wj.getD (↑k : Int).toNat (0 : Int) * (2 : Int) ^ min (8 : Nat) IntKind.u32.bits)) (IntKind.u32.wrap (p.getD (IntKind.i64.wrap (IntKind.i64.wrap ((4 : Int) * (↑k : Int)) + (↑t : Int))).toNat (0 : Int)))))).triv ((∃ j, j ≤ (4 : Nat) ∧ IntKind.i64.wrap ((↑t : Int) + (1 : Int)) = (↑j : Int) ∧ wj.set (↑k : Int).toNat (bitOp BinOp.or IntKind.u32 (IntKind.u32.wrap (wj.getD (↑k : Int).toNat (0 : Int) * (2 : Int) ^ min (8 : Nat) IntKind.u32.bits)) (IntKind.u32.wrap (p.getD (IntKind.i64.wrap (IntKind.i64.wrap ((4 : Int) * (↑k : Int)) + (↑t : Int))).toNat (0 : Int)))) = wBk p k wl j) ∧ (4 : Nat) - (IntKind.i64.wrap ((↑t : Int) + (1 : Int))).toNat < (4 : Nat) - (↑t : Int).toNat)) ∧ (decide ((↑t : Int) < (4 : Int)) = false → (tkA st rest p sz ((↑k : Int), wj)).triv (wj = wBk p k wl (4 : Nat))))) (by kernel_rfl) ?_
      refine ⟨fun h => ?_, fun h => triv_intro ?_⟩
      · have h4 : t < 4 := by have := of_decide_eq_true h; omega
        have e1 : IntKind.i64.wrap (IntKind.i64.wrap ((4 : Int) * (k : Int)) + (t : Int)) = ((4 * k + t : Nat) : Int) := by
          rw [wrap_i64' (a := 4 * (k : Int)) (by omega) (by omega), wrap_i64' (by omega) (by omega)]; omega
        rw [e1, wrap_succ (by omega), Int.toNat_natCast, Int.toNat_natCast]
        exact ⟨⟨by omega, by omega⟩, by omega, by decide, ⟨by omega, by omega⟩, by omega, ⟨by omega, by omega⟩, by omega, triv_intro ⟨⟨t + 1, h4, rfl, by rw [kwj]; rfl⟩, by rw [Int.toNat_natCast, Int.toNat_natCast]; omega⟩⟩
      · have : t = 4 := by have := of_decide_eq_false h; omega
        rw [kwj, this]
    intro (w' : List Int) (hw' : w' = wBk p k wl 4)
    refine tr_nil ?_
    refine tr_vc hsp mixed _ _ ?_
    refine vcx (X := ((tkA st rest p sz (IntKind.i64.wrap ((↑k : Int) + (1 : Int)), w')).triv ((∃ k_1, k_1 ≤ (16 : Nat) ∧ IntKind.i64.wrap ((↑k : Int) + (1 : Int)) = (↑k_1 : Int) ∧ w' = wAk p k_1) ∧ (16 : Nat) - (IntKind.i64.wrap ((↑k : Int) + (1 : Int))).toNat < (16 : Nat) - (↑k : Int).toNat))) (by kernel_rfl) ?_
    rw [wrap_succ (by omega)]
    exact triv_intro ⟨⟨k + 1, hlt, rfl, by rw [hw', kw]; rfl⟩, by rw [Int.toNat_natCast, Int.toNat_natCast]; omega⟩
  rintro ⟨i1, w1⟩ hw1
  revert i1 w1
  intro (i1 : Int) (w1 : List Int) (hw1 : w1 = wAk p 16)
  have hw1l : w1.length = 64 := by rw [hw1, wAk_len]
  refine tr_cut hsp mixed 1 (tkC st rest p sz (0, w1)) True ?_ (fun _ => ?_)
  · refine vcx (X := ((tkC st rest p sz ((0 : Int), w1)).triv True)) (by kernel_rfl) ?_
    exact triv_intro trivial
  refine tr_while hsp mixed noSw (fun σ => (rdS (.int .i64) 45 σ, rdR uK 9 σ)) (tkC st rest p sz) (fun g => ∃ j : Nat, j ≤ 48 ∧ g.1 = (j : Int) ∧ g.2 = wCk w1 j) (fun g => 48 - g.1.toNat)
    (fun σ => (rdS (.int .i64) 45 σ, rdR uK 9 σ)) (tkC st rest p sz) (fun g => g.2 = wCk w1 48) (0, w1) (c := nthC (codeOf Tryd.f135) 5) (by kernel_rfl) (by kernel_rfl) (le_of_proj (by kernel_rfl) (by kernel_rfl) ?_) ?_ ?_
  · exact ⟨0, by decide, rfl, rfl⟩
  · rintro ⟨j, wj⟩ hj
    revert j wj
    intro (j : Int) (wj : List Int) ⟨t, ht, ej, ewj⟩
    have ej : j = (t : Int) := ej
    have kwj : wj = wCk w1 t := ewj
    subst ej
    refine vcx (X := ((decide ((↑t : Int) < (48 : Int)) = true → ((0 : Int) ≤ IntKind.i64.wrap ((↑t : Int) + (1 : Int)) ∧ IntKind.i64.wrap ((↑t : Int) + (1 : Int)) < (↑(64 : Nat) : Int)) ∧ (IntKind.i64.wrap ((↑t : Int) + (1 : Int))).toNat < (64 : Nat) ∧ ((0 : Int) ≤ IntKind.i64.wrap ((↑t : Int) + (14 : Int)) ∧ IntKind.i64.wrap ((↑t : Int) + (14 : Int)) < (↑(64 : Nat) : Int)) ∧ (IntKind.i64.wrap ((↑t : Int) + (14 : Int))).toNat < (64 : Nat) ∧ True ∧ True ∧ (0 : Int) ≤ (3 : Int) ∧ True ∧ True ∧ (0 : Int) ≤ (10 : Int) ∧ ((0 : Int) ≤ (↑t : Int) ∧ (↑t : Int) < (↑(64 : Nat) : Int)) ∧ (↑t : Int).toNat < (64 : Nat) ∧ ((0 : Int) ≤ IntKind.i64.wrap ((↑t : Int) + (9 : Int)) ∧ IntKind.i64.wrap ((↑t : Int) + (9 : Int)) < (↑(64 : Nat) : Int)) ∧ (IntKind.i64.wrap ((↑t : Int) + (9 : Int))).toNat < (64 : Nat) ∧ ((0 : Int) ≤ IntKind.i64.wrap ((↑t : Int) + (16 : Int)) ∧ IntKind.i64.wrap ((↑t : Int) + (16 : Int)) < (↑(64 : Nat) : Int)) ∧ (IntKind.i64.wrap ((↑t : Int) + (16 : Int))).toNat < (64 : Nat) ∧ (tkC st rest p sz (IntKind.i64.wrap ((↑t : Int) + (1 : Int)), wj.set (IntKind.i64.wrap ((↑t : Int) + (16 : Int))).toNat (IntKind.u32.wrap (IntKind.u32.wrap (IntKind.u32.wrap (wj.getD (↑t : Int).toNat (0 : Int) + bitOp BinOp.xor IntKind.u32 (bitOp BinOp.xor IntKind.u32 (rot (wj.getD (IntKind.i64.wrap ((↑t : Int) + (1 : Int))).toNat (0 : Int)) (-7 : Int), ()).fst (rot (wj.getD (IntKind.i64.wrap ((↑t : Int) + (1 : Int))).toNat (0 : Int)) (-18 : Int), ()).fst) ((wj.getD (IntKind.i64.wrap ((↑t : Int) + (1 : Int))).toNat (0 : Int)).fdiv ((2 : Int) ^ min (3 : Nat) IntKind.u32.bits))) + wj.getD (IntKind.i64.wrap ((↑t : Int) + (9 : Int))).toNat (0 : Int)) + bitOp BinOp.xor IntKind.u32 (bitOp BinOp.xor IntKind.u32 (rot (wj.getD (IntKind.i64.wrap ((↑t : Int) + (14 : Int))).toNat (0 : Int)) (-17 : Int), ()).fst (rot (wj.getD (IntKind.i64.wrap ((↑t : Int) + (14 : Int))).toNat (0 : Int)) (-19 : Int), ()).fst) ((wj.getD (IntKind.i64.wrap ((↑t : Int) + (14 : Int))).toNat (0 : Int)).fdiv ((2 : Int) ^ min (10 : Nat) IntKind.u32.bits)))))).triv ((∃ j, j ≤ (48 : Nat) ∧ IntKind.i64.wrap ((↑t : Int) + (1 : Int)) = (↑j : Int) ∧ wj.set (IntKind.i64.wrap ((↑t : Int) + (16 : Int))).toNat (IntKind.u32.wrap (IntKind.u32.wrap (IntKind.u32.wrap (wj.getD (↑t : Int).toNat (0 : Int) + bitOp BinOp.xor IntKind.u32 (bitOp BinOp.xor IntKind.u32 (rot (wj.getD (IntKind.i64.wrap ((↑t : Int) + (1 : Int))).toNat (0 : Int)) (-7 : Int)) (rot (wj.getD (IntKind.i64.wrap ((↑t : Int) + (1 : Int))).toNat (0 : Int)) (-18 : Int))) ((wj.getD (IntKind.i64.wrap ((↑t : Int) + (1 : Int))).toNat (0 : Int)).fdiv ((2 : Int) ^ min (3 : Nat) IntKind.u32.bits))) + wj.getD (IntKind.i64.wrap ((↑t : Int) + (9 : Int))).toNat (0 : Int)) + bitOp BinOp.xor IntKind.u32 (bitOp BinOp.xor IntKind.u32 (rot (wj.getD (IntKind.i64.wrap ((↑t : Int) + (14 : Int))).toNat (0 : Int)) (-17 : Int)) (rot (wj.getD (IntKind.i64.wrap ((↑t : Int) + (14 : Int))).toNat (0 : Int)) (-19 : Int))) ((wj.getD (IntKind.i64.wrap ((↑t : Int) + (14 : Int))).toNat (0 : Int)).fdiv ((2 : Int) ^ min (10 : Nat) IntKind.u32.bits)))) = wCk w1 j) ∧ (48 : Nat) - (IntKind.i64.wrap ((↑t : Int) + (1 : Int))).toNat < (48 : Nat) - (↑t : Int).toNat)) ∧ (decide ((↑t : Int) < (48 : Int)) = false → (tkC st rest p sz ((↑t : Int), wj)).triv (wj = wCk w1 (48 : Nat))))) (by kernel_rfl) ?_
    refine ⟨fun h => ?_, fun h => triv_intro ?_⟩
    · have h4 : t < 48 := by have := of_decide_eq_true h; omega
      have e1 : ∀ m : Nat, m < 20 → IntKind.i64.wrap ((t : Int) + (m : Int)) = ((t + m : Nat) : Int) := fun m hm => by
        rw [wrap_i64' (by omega) (by omega)]; omega
      have e1a : IntKind.i64.wrap ((t : Int) + 1) = ((t + 1 : Nat) : Int) := e1 1 (by decide)
      have e1b : IntKind.i64.wrap ((t : Int) + 9) = ((t + 9 : Nat) : Int) := e1 9 (by decide)
      have e1c : IntKind.i64.wrap ((t : Int) + 14) = ((t + 14 : Nat) : Int) := e1 14 (by decide)
      have e1d : IntKind.i64.wrap ((t : Int) + 16) = ((t + 16 : Nat) : Int) := e1 16 (by decide)
      rw [e1a, e1b, e1c, e1d]
      simp only [Int.toNat_natCast]
      exact ⟨⟨by omega, by omega⟩, by omega, ⟨by omega, by omega⟩, by omega, trivial, trivial, by decide, trivial, trivial, by decide, ⟨by omega, by omega⟩, by omega, ⟨by omega, by omega⟩, by omega, ⟨by omega, by omega⟩, by omega, triv_intro ⟨⟨t + 1, h4, rfl, by rw [kwj]; rfl⟩, by omega⟩⟩
    · have : t = 48 := by have := of_decide_eq_false h; omega
      rw [kwj, this]
  rintro ⟨i2, w2⟩ hw2
  revert i2 w2
  intro (i2 : Int) (w2 : List Int) (hw2' : w2 = wCk w1 48)
  refine tr_cut hsp mixed 2 (tkD st rest p sz w2 (0, st)) True ?_ (fun _ => ?_)
  · refine vcx (X := ((tkD st rest p sz w2 ((0 : Int), st)).triv True)) (by kernel_rfl) ?_
    exact triv_intro trivial
  have hw2l : w2.length = 64 := by rw [hw2', wCk_len, hw1l]
  refine tr_while hsp mixed noSw (fun σ => (rdS (.int .i64) 92 σ, rdR uK 57 σ)) (tkD st rest p sz w2) (fun g => ∃ j : Nat, j ≤ 64 ∧ g.1 = (j : Int) ∧ g.2 = vCk w2 st j) (fun g => 64 - g.1.toNat)
    (fun σ => (rdS (.int .i64) 92 σ, rdR uK 57 σ)) (tkD st rest p sz w2) (fun g => g.2 = vCk w2 st 64) (0, st) (c := nthC (codeOf Tryd.f135) 8) (by kernel_rfl) (by kernel_rfl) (le_of_proj (by kernel_rfl) (by kernel_rfl) ?_) ?_ ?_
  · exact ⟨0, by decide, rfl, rfl⟩
  · rintro ⟨j, v⟩ hj
    revert j v
    intro (j : Int) (v : List Int) ⟨t, ht, ej, ev⟩
    have ej : j = (t : Int) := ej
    have kv : v = vCk w2 st t := ev
    subst ej
    have hvl : v.length = 8 := by rw [kv, vCk_len _ hst]
    obtain ⟨a, b, c, d, e, f, g, h, rfl⟩ := eight hvl
    refine vcx (X := ((decide ((↑t : Int) < (64 : Int)) = true → True ∧ True ∧ True ∧ ((0 : Int) ≤ (↑t : Int) ∧ (↑t : Int) < (↑(64 : Nat) : Int)) ∧ (↑t : Int).toNat < rootsL.length ∧ ((0 : Int) ≤ (↑t : Int) ∧ (↑t : Int) < (↑(64 : Nat) : Int)) ∧ (↑t : Int).toNat < (64 : Nat) ∧ True ∧ True ∧ True ∧ (tkD st rest p sz w2 (IntKind.i64.wrap ((↑t : Int) + (1 : Int)), [IntKind.u32.wrap (IntKind.u32.wrap (IntKind.u32.wrap (h + bitOp BinOp.xor IntKind.u32 (bitOp BinOp.xor IntKind.u32 (rot e (-6 : Int), ()).fst (rot e (-11 : Int), ()).fst) (rot e (-25 : Int), ()).fst) + IntKind.u32.wrap (IntKind.u32.wrap (bitOp BinOp.xor IntKind.u32 (bitOp BinOp.and IntKind.u32 e f) (bitOp BinOp.and IntKind.u32 (bitOp BinOp.xor IntKind.u32 (if IntKind.u32.signed = true then (-1 : Int) else IntKind.u32.max) e) g) + rootsL.getD (↑t : Int).toNat (0 : Int)) + w2.getD (↑t : Int).toNat (0 : Int))) + IntKind.u32.wrap (bitOp BinOp.xor IntKind.u32 (bitOp BinOp.xor IntKind.u32 (rot a (-2 : Int), ()).fst (rot a (-13 : Int), ()).fst) (rot a (-22 : Int), ()).fst + bitOp BinOp.xor IntKind.u32 (bitOp BinOp.xor IntKind.u32 (bitOp BinOp.and IntKind.u32 a b) (bitOp BinOp.and IntKind.u32 a c)) (bitOp BinOp.and IntKind.u32 b c))), a, b, c, IntKind.u32.wrap (d + IntKind.u32.wrap (IntKind.u32.wrap (h + bitOp BinOp.xor IntKind.u32 (bitOp BinOp.xor IntKind.u32 (rot e (-6 : Int), ()).fst (rot e (-11 : Int), ()).fst) (rot e (-25 : Int), ()).fst) + IntKind.u32.wrap (IntKind.u32.wrap (bitOp BinOp.xor IntKind.u32 (bitOp BinOp.and IntKind.u32 e f) (bitOp BinOp.and IntKind.u32 (bitOp BinOp.xor IntKind.u32 (if IntKind.u32.signed = true then (-1 : Int) else IntKind.u32.max) e) g) + rootsL.getD (↑t : Int).toNat (0 : Int)) + w2.getD (↑t : Int).toNat (0 : Int)))), e, f, g])).triv ((∃ j, j ≤ (64 : Nat) ∧ IntKind.i64.wrap ((↑t : Int) + (1 : Int)) = (↑j : Int) ∧ [IntKind.u32.wrap (IntKind.u32.wrap (IntKind.u32.wrap (h + bitOp BinOp.xor IntKind.u32 (bitOp BinOp.xor IntKind.u32 (rot e (-6 : Int)) (rot e (-11 : Int))) (rot e (-25 : Int))) + IntKind.u32.wrap (IntKind.u32.wrap (bitOp BinOp.xor IntKind.u32 (bitOp BinOp.and IntKind.u32 e f) (bitOp BinOp.and IntKind.u32 (bitOp BinOp.xor IntKind.u32 (if IntKind.u32.signed = true then (-1 : Int) else IntKind.u32.max) e) g) + rootsL.getD (↑t : Int).toNat (0 : Int)) + w2.getD (↑t : Int).toNat (0 : Int))) + IntKind.u32.wrap (bitOp BinOp.xor IntKind.u32 (bitOp BinOp.xor IntKind.u32 (rot a (-2 : Int)) (rot a (-13 : Int))) (rot a (-22 : Int)) + bitOp BinOp.xor IntKind.u32 (bitOp BinOp.xor IntKind.u32 (bitOp BinOp.and IntKind.u32 a b) (bitOp BinOp.and IntKind.u32 a c)) (bitOp BinOp.and IntKind.u32 b c))), a, b, c, IntKind.u32.wrap (d + IntKind.u32.wrap (IntKind.u32.wrap (h + bitOp BinOp.xor IntKind.u32 (bitOp BinOp.xor IntKind.u32 (rot e (-6 : Int)) (rot e (-11 : Int))) (rot e (-25 : Int))) + IntKind.u32.wrap (IntKind.u32.wrap (bitOp BinOp.xor IntKind.u32 (bitOp BinOp.and IntKind.u32 e f) (bitOp BinOp.and IntKind.u32 (bitOp BinOp.xor IntKind.u32 (if IntKind.u32.signed = true then (-1 : Int) else IntKind.u32.max) e) g) + rootsL.getD (↑t : Int).toNat (0 : Int)) + w2.getD (↑t : Int).toNat (0 : Int)))), e, f, g] = vCk w2 st j) ∧ (64 : Nat) - (IntKind.i64.wrap ((↑t : Int) + (1 : Int))).toNat < (64 : Nat) - (↑t : Int).toNat)) ∧ (decide ((↑t : Int) < (64 : Int)) = false → (tkD st rest p sz w2 ((↑t : Int), [a, b, c, d, e, f, g, h])).triv ([a, b, c, d, e, f, g, h] = vCk w2 st (64 : Nat))))) (by kernel_rfl) ?_
    refine ⟨fun h' => ?_, fun h' => triv_intro ?_⟩
    · have h4 : t < 64 := by have := of_decide_eq_true h'; omega
      have hrl : rootsL.length = 64 := rfl
      rw [wrap_succ (by omega), Int.toNat_natCast]
      exact ⟨trivial, trivial, trivial, ⟨by omega, by omega⟩, by omega, ⟨by omega, by omega⟩, by omega, trivial, trivial, trivial, triv_intro ⟨⟨t + 1, h4, rfl, by show _ = vC w2 (vCk w2 st t) t; rw [← kv]; rfl⟩, by rw [Int.toNat_natCast]; omega⟩⟩
    · have : t = 64 := by have := of_decide_eq_false h'; omega
      rw [kv, this]
  rintro ⟨i3, v⟩ hv
  revert i3 v
  intro (i3 : Int) (v : List Int) (hv : v = vCk w2 st 64)
  refine tr_cut hsp mixed 1 (tkE rest sz w2 v (0, st)) True ?_ (fun _ => ?_)
  · refine vcx (X := ((tkE rest sz w2 v ((0 : Int), st)).triv True)) (by kernel_rfl) ?_
    exact triv_intro trivial
  refine tr_while hsp mixed noSw (fun σ => (rdS (.int .i64) 172 σ, (rdB hashK 0 σ).1)) (tkE rest sz w2 v) (fun g => ∃ j : Nat, j ≤ 8 ∧ g.1 = (j : Int) ∧ g.2 = fCk v st j) (fun g => 8 - g.1.toNat)
    (fun σ => (rdS (.int .i64) 172 σ, (rdB hashK 0 σ).1)) (tkE rest sz w2 v) (fun g => g.2 = fCk v st 8) (0, st) (c := nthC (codeOf Tryd.f135) 10) (by kernel_rfl) (by kernel_rfl) (le_of_proj (by kernel_rfl) (by kernel_rfl) ?_) ?_ ?_
  · exact ⟨0, by decide, rfl, rfl⟩
  · rintro ⟨j, s⟩ hj
    revert j s
    intro (j : Int) (s : List Int) ⟨t, ht, ej, es⟩
    have ej : j = (t : Int) := ej
    have ks : s = fCk v st t := es
    subst ej
    refine vcx (X := ((decide ((↑t : Int) < (8 : Int)) = true → ((0 : Int) ≤ (↑t : Int) ∧ (↑t : Int) < (↑(8 : Nat) : Int)) ∧ (↑t : Int).toNat < (8 : Nat) ∧ ((0 : Int) ≤ (↑t : Int) ∧ (↑t : Int) < (↑(8 : Nat) : Int)) ∧ (↑t : Int).toNat < (8 : Nat) ∧ ((0 : Int) ≤ (↑t : Int) ∧ (↑t : Int) < (↑(8 : Nat) : Int)) ∧ (↑t : Int).toNat < (8 : Nat) ∧ (tkE rest sz w2 v (IntKind.i64.wrap ((↑t : Int) + (1 : Int)), (s.set (↑t : Int).toNat (IntKind.u32.wrap (s.getD (↑t : Int).toNat (0 : Int) + v.getD (↑t : Int).toNat (0 : Int))), rest, sz).fst)).triv ((∃ j, j ≤ (8 : Nat) ∧ IntKind.i64.wrap ((↑t : Int) + (1 : Int)) = (↑j : Int) ∧ s.set (↑t : Int).toNat (IntKind.u32.wrap (s.getD (↑t : Int).toNat (0 : Int) + v.getD (↑t : Int).toNat (0 : Int))) = fCk v st j) ∧ (8 : Nat) - (IntKind.i64.wrap ((↑t : Int) + (1 : Int))).toNat < (8 : Nat) - (↑t : Int).toNat)) ∧ (decide ((↑t : Int) < (8 : Int)) = false → (tkE rest sz w2 v ((↑t : Int), (s, rest, sz).fst)).triv (s = fCk v st (8 : Nat))))) (by kernel_rfl) ?_
    refine ⟨fun h => ?_, fun h => triv_intro ?_⟩
    · have h4 : t < 8 := by have := of_decide_eq_true h; omega
      rw [wrap_succ (by omega), Int.toNat_natCast]
      exact ⟨⟨by omega, by omega⟩, h4, ⟨by omega, by omega⟩, h4, ⟨by omega, by omega⟩, h4, triv_intro ⟨⟨t + 1, h4, rfl, by rw [ks]; rfl⟩, by rw [Int.toNat_natCast]; omega⟩⟩
    · have : t = 8 := by have := of_decide_eq_false h; omega
      rw [ks, this]
  rintro ⟨i4, s⟩ hs
  revert i4 s
  intro (i4 : Int) (s : List Int) (hs : s = fCk v st 8)
  refine tr_vc hsp mixed _ _ ?_
  refine vcx (X := (((s, rest, sz), ()) = ((tko st p, rest, sz), ()))) (by kernel_rfl) ?_
  show ((s, rest, sz), ()) = ((tko st p, rest, sz), ())
  rw [hs, hv, hw2', hw1, tko, opq_eq, takeF]
noncomputable def spTake : Nat × Eng.Spec := (135, fnSpecPG shaG hashK [.arr 64 bK] [] (fun _ => True) (fun ((st, rest, sz), p, _) => ((tko st p, rest, sz), ())))
end Go.Proofs.YtbfimfdhmggieaaDoor.sha
/- sha: bytes taken piece by piece (plain). No program here. -/
namespace Cr
section
variable (tk : List Int → List Int → List Int) (first : List Int)
/-- So many blocks laid over a state. -/
def absK (st b : List Int) : Nat → List Int
  | 0 => st
  | k + 1 => tk (absK st b k) ((b.drop (64 * k)).take 64)
theorem absK_pre (st X Y : List Int) : ∀ j, 64 * j ≤ X.length → absK tk st (X ++ Y) j = absK tk st X j
  | 0, _ => rfl
  | j + 1, h => by
    show tk _ _ = tk _ _
    rw [absK_pre st X Y j (by omega), List.drop_append_of_le_length (by omega), List.take_append_of_le_length (by rw [List.length_drop]; omega)]
theorem absK_app (st X Y : List Int) (k : Nat) (hk : X.length = 64 * k) : ∀ j, absK tk st (X ++ Y) (k + j) = absK tk (absK tk st X k) Y j
  | 0 => absK_pre tk st X Y k (by omega)
  | j + 1 => by
    show tk (absK tk st (X ++ Y) (k + j)) _ = tk _ _
    rw [absK_app st X Y k hk j]
    congr 2
    have hkj : X.length ≤ 64 * (k + j) := by omega
    rw [show k.add j = k + j from rfl, List.drop_append, List.drop_eq_nil_of_le hkj, List.nil_append]
    congr 1; omega
def tailOf (L : List Int) : List Int := L.drop (64 * (L.length / 64))
def Hs (L : List Int) : List Int := absK tk first L (L.length / 64)
theorem tailOf_len (L : List Int) : (tailOf L).length = L.length % 64 := by rw [tailOf, List.length_drop]; omega
theorem tailOf_app (X Y : List Int) (k : Nat) (hk : X.length = 64 * k) : tailOf (X ++ Y) = tailOf Y := by
  rw [tailOf, tailOf, List.length_append, List.drop_append, List.drop_eq_nil_of_le (by omega), List.nil_append]
  congr 1; omega
theorem Hs_app (X Y : List Int) (k : Nat) (hk : X.length = 64 * k) : Hs tk first (X ++ Y) = absK tk (absK tk first X k) Y (Y.length / 64) := by
  rw [Hs, List.length_append, show (X.length + Y.length) / 64 = k + Y.length / 64 by omega, absK_app tk first X Y k hk]
def wrEnd (st rest b : List Int) : List Int × List Int := (absK tk st b (b.length / 64), tailOf b ++ rest.drop (tailOf b).length)
/-- What Write makes of a state. -/
def wrF (st rest : List Int) (sz : Int) (b : List Int) : List Int × List Int × Int :=
  match decide ((sz % 64).toNat = 0) with
  | true => ((wrEnd tk (bif decide (sz = 0) then first else st) rest b).1, (wrEnd tk (bif decide (sz = 0) then first else st) rest b).2, sz + b.length)
  | false => match decide ((sz % 64).toNat + b.length < 64) with
    | true => (st, rest.take (sz % 64).toNat ++ (b ++ rest.drop ((sz % 64).toNat + b.length)), sz + b.length)
    | false => ((wrEnd tk (tk st (rest.take (sz % 64).toNat ++ b.take (64 - (sz % 64).toNat))) (rest.take (sz % 64).toNat ++ b.take (64 - (sz % 64).toNat)) (b.drop (64 - (sz % 64).toNat))).1,
        (wrEnd tk (tk st (rest.take (sz % 64).toNat ++ b.take (64 - (sz % 64).toNat))) (rest.take (sz % 64).toNat ++ b.take (64 - (sz % 64).toNat)) (b.drop (64 - (sz % 64).toNat))).2, sz + b.length)
/-- A state that has taken these bytes. -/
def Took (L : List Int) (st rest : List Int) (sz : Int) : Prop := sz = (L.length : Int) ∧ rest.length = 64 ∧ (L ≠ [] → st = Hs tk first L) ∧ rest.take (L.length % 64) = tailOf L
theorem took_nil (st rest : List Int) (h : rest.length = 64) : Took tk first [] st rest 0 := ⟨rfl, h, fun h => absurd rfl h, by simp [tailOf]⟩
theorem took_wr {L st rest : List Int} {sz : Int} (h : Took tk first L st rest sz) (b : List Int) : Took tk first (L ++ b) (wrF tk first st rest sz b).1 (wrF tk first st rest sz b).2.1 (wrF tk first st rest sz b).2.2 := by
  obtain ⟨h1, h2, h3, h4⟩ := h
  subst h1
  have hr : (((L.length : Int)) % 64).toNat = L.length % 64 := by omega
  have hsplit : L = L.take (64 * (L.length / 64)) ++ tailOf L := (List.take_append_drop _ L).symm
  have hXl : (L.take (64 * (L.length / 64))).length = 64 * (L.length / 64) := by rw [List.length_take]; omega
  unfold wrF
  rw [hr]
  have hsz : (L.length : Int) + (b.length : Int) = ((L ++ b).length : Int) := by rw [List.length_append]; omega
  cases hd : decide (L.length % 64 = 0) with
  | true =>
    have h0 : L.length % 64 = 0 := of_decide_eq_true hd
    have ht : tailOf L = [] := List.eq_nil_of_length_eq_zero (by rw [tailOf_len, h0])
    have hL : L.length = 64 * (L.length / 64) := by omega
    have hs : (bif decide ((L.length : Int) = 0) then first else st) = absK tk first L (L.length / 64) := by
      cases L with
      | nil => rfl
      | cons x l => rw [decide_eq_false (by simp only [List.length_cons]; omega), cond_false]; exact h3 (by simp)
    refine ⟨hsz, ?_, fun _ => ?_, ?_⟩
    · show (tailOf b ++ rest.drop _).length = 64
      rw [List.length_append, List.length_drop, tailOf_len, h2]; omega
    · show absK tk _ b (b.length / 64) = _
      rw [hs, Hs_app tk first L b _ hL]
    · show (tailOf b ++ rest.drop _).take _ = _
      rw [tailOf_app L b _ hL, List.length_append, show (L.length + b.length) % 64 = (tailOf b).length by rw [tailOf_len]; omega, List.take_left' rfl]
  | false =>
    have h0 : L.length % 64 ≠ 0 := of_decide_eq_false hd
    have hne : L ≠ [] := by rintro rfl; exact h0 rfl
    have hst : st = absK tk first (L.take (64 * (L.length / 64))) (L.length / 64) := by
      rw [h3 hne, Hs]
      have := absK_pre tk first (L.take (64 * (L.length / 64))) (tailOf L) (L.length / 64) (by omega)
      rw [← hsplit] at this
      exact this
    have hLb : L ++ b = L.take (64 * (L.length / 64)) ++ (tailOf L ++ b) := by rw [← List.append_assoc, ← hsplit]
    cases hd2 : decide (L.length % 64 + b.length < 64) with
    | true =>
      have h5 : L.length % 64 + b.length < 64 := of_decide_eq_true hd2
      refine ⟨hsz, ?_, fun _ => ?_, ?_⟩
      · show (rest.take _ ++ (b ++ rest.drop _)).length = 64
        rw [List.length_append, List.length_append, List.length_drop, List.length_take, h2]; omega
      · show st = _
        rw [hLb, Hs_app tk first _ _ _ hXl, ← hst, show (tailOf L ++ b).length / 64 = 0 by rw [List.length_append, tailOf_len]; omega]
        rfl
      · show (rest.take _ ++ (b ++ rest.drop _)).take _ = _
        rw [hLb, tailOf_app _ _ _ hXl]
        have e1 : tailOf (tailOf L ++ b) = tailOf L ++ b := by
          rw [tailOf, show (tailOf L ++ b).length / 64 = 0 by rw [List.length_append, tailOf_len]; omega]; rfl
        have e2 : (L.take (64 * (L.length / 64)) ++ (tailOf L ++ b)).length % 64 = (tailOf L ++ b).length := by
          rw [List.length_append, List.length_append, tailOf_len, hXl]; omega
        rw [e1, h4, e2, ← List.append_assoc]
        exact List.take_left' rfl
    | false =>
      have h5 : ¬ L.length % 64 + b.length < 64 := of_decide_eq_false hd2
      have hrl : (rest.take (L.length % 64) ++ b.take (64 - L.length % 64)).length = 64 := by
        rw [List.length_append, List.length_take, List.length_take, h2]; omega
      have hb1 : L ++ b = (L.take (64 * (L.length / 64)) ++ (rest.take (L.length % 64) ++ b.take (64 - L.length % 64))) ++ b.drop (64 - L.length % 64) := by
        rw [h4, List.append_assoc, List.append_assoc, List.take_append_drop]; exact hLb
      have hXl2 : (L.take (64 * (L.length / 64)) ++ (rest.take (L.length % 64) ++ b.take (64 - L.length % 64))).length = 64 * (L.length / 64 + 1) := by
        rw [List.length_append, hrl, hXl]; omega
      have hst2 : absK tk first (L.take (64 * (L.length / 64)) ++ (rest.take (L.length % 64) ++ b.take (64 - L.length % 64))) (L.length / 64 + 1) = tk st (rest.take (L.length % 64) ++ b.take (64 - L.length % 64)) := by
        rw [absK_app tk first _ _ _ hXl 1, ← hst]
        show tk st _ = _
        rw [Nat.mul_zero, List.drop_zero, List.take_of_length_le (by omega)]
      refine ⟨hsz, ?_, fun _ => ?_, ?_⟩
      · show (tailOf _ ++ List.drop _ (_ ++ _)).length = 64
        rw [List.length_append, List.length_drop, tailOf_len, hrl]; omega
      · show absK tk _ _ _ = _
        rw [hb1, Hs_app tk first _ _ _ hXl2, hst2]
      · show (tailOf _ ++ List.drop _ (_ ++ _)).take _ = _
        rw [hb1, tailOf_app _ _ _ hXl2]
        rw [show (L.take (64 * (L.length / 64)) ++ (rest.take (L.length % 64) ++ b.take (64 - L.length % 64)) ++ b.drop (64 - L.length % 64)).length % 64 = (tailOf (b.drop (64 - L.length % 64))).length by rw [tailOf_len, List.length_append, hXl2]; omega, List.take_left' rfl]
end
end Cr
/- Values forced one by one, for computation. No program here. -/
namespace Cr
def fcn {α : Type} (n : Nat) (k : Nat → α) : α := Nat.rec (k 0) (fun m _ => k (m + 1)) n
noncomputable def fi {α : Type} (x : Int) (k : Int → α) : α := Int.rec (fun n => fcn n fun m => k (Int.ofNat m)) (fun n => fcn n fun m => k (Int.negSucc m)) x
noncomputable def fl {α : Type} (l : List Int) (k : List Int → α) : α := List.rec (motive := fun _ => (List Int → α) → α) (fun k => k []) (fun x _ ih k => fi x fun x' => ih fun l' => k (x' :: l')) l k
/-- So many steps. -/
def it {α : Type} (f : Nat → α → α) (s : α) : Nat → α
  | 0 => s
  | k + 1 => f k (it f s k)
end Cr
/- sha by computation; digests (plain). -/
namespace Go.Proofs.YtbfimfdhmggieaaDoor.sha
set_option maxRecDepth 100000
open Go Go.Eng Go.RowKit Cr Go.Proofs.YtbfimfdhmggieaaDoor
/-- What stands behind so many bytes. -/
def padB (n : Nat) : List Int := 128 :: (List.replicate ((64 + 55 - n % 64) % 64) 0 ++ (List.range 8).map fun i => ((n : Int) * 8) / 2 ^ (56 - 8 * i) % 256)
/-- A state's bytes. -/
def outB (s : List Int) : List Int := (List.range 32).map fun i => IntKind.u8.wrap ((s.getD (i / 4) 0).fdiv (2 ^ (24 - 8 * (i % 4))))
noncomputable def digF (L : List Int) : List Int := outB (Hs tko firstL (L ++ padB L.length))
/-- The digest. -/
noncomputable def dig (L : List Int) : List Int := opq (digF L)
theorem outB_len (s : List Int) : (outB s).length = 32 := by simp [outB]
theorem dig_len (L : List Int) : (dig L).length = 32 := by rw [dig, opq_eq, digF, outB_len]
end Go.Proofs.YtbfimfdhmggieaaDoor.sha
/- sha: Write. -/
namespace Go.Proofs.YtbfimfdhmggieaaDoor.sha
set_option maxRecDepth 100000
open Go Go.Eng Go.RowKit Cr Go.Proofs.YtbfimfdhmggieaaDoor
theorem ent_write : enters Tryd.prog 99 Tryd.f99 := enters_mk (by kernel_rfl) (by kernel_rfl) (by kernel_rfl)
/-- What Write makes of a state. -/
noncomputable def wro (st rest : List Int) (sz : Int) (b : List Int) : Car hashK := opq (wrF tko firstL st rest sz b)
theorem took_wro {L st rest : List Int} {sz : Int} (h : Took tko firstL L st rest sz) (b : List Int) : Took tko firstL (L ++ b) (wro st rest sz b).1 (wro st rest sz b).2.1 (wro st rest sz b).2.2 := by
  rw [wro, opq_eq]; exact took_wr tko firstL h b
theorem wrEnd_step (st rest b : List Int) (h : 64 ≤ b.length) : wrEnd tko (tko st (b.take 64)) rest (b.drop 64) = wrEnd tko st rest b := by
  have h1 : b.take 64 ++ b.drop 64 = b := List.take_append_drop _ _
  have h2 : (b.take 64).length = 64 * 1 := by rw [List.length_take]; omega
  have h3 : tailOf (b.drop 64) = tailOf b := by
    have := tailOf_app (b.take 64) (b.drop 64) 1 h2
    rw [h1] at this; exact this.symm
  have h4 : absK tko (tko st (b.take 64)) (b.drop 64) ((b.drop 64).length / 64) = absK tko st b (b.length / 64) := by
    have := absK_app tko st (b.take 64) (b.drop 64) 1 h2 ((b.drop 64).length / 64)
    rw [h1] at this
    have e : absK tko st (b.take 64) 1 = tko st (b.take 64) := by
      show tko st _ = _
      rw [Nat.mul_zero, List.drop_zero, List.take_take]; rfl
    rw [e] at this
    rw [← this]
    congr 1
    rw [List.length_drop]; omega
  unfold wrEnd
  rw [h3, h4]
abbrev Wg : Type := (List Int × List Int × Int) × List Int
noncomputable def wrS (g : Wg) : St := mkSt Tryd.f99.ntmps 201 [(0, .is (.one (.ptr 0 0))), (1, .is (.one (.ro bK g.2)))] [(0, [.ints .u32 8 g.1.1, .ints .u8 64 g.1.2.1, .v (.int .i64 g.1.2.2)])]
abbrev preWr : Car hashK × HL [.sl bK] → Prop := fun ((_, _, sz), b, _) => (0 : Int) ≤ sz ∧ sz ≤ (1152921504606846976 : Int) ∧ List.length b ≤ 1152921504606846976
noncomputable def wrJ (st rest : List Int) (sz : Int) (b : List Int) (g : Wg) : Prop := ((wrEnd tko g.1.1 g.1.2.1 g.2).1, (wrEnd tko g.1.1 g.1.2.1 g.2).2, g.1.2.2) = wro st rest sz b ∧ g.1.2.1.length = 64
theorem wro_eq0 {st rest : List Int} {sz : Int} {b : List Int} (h : (sz % 64).toNat = 0) : wro st rest sz b = ((wrEnd tko (bif decide (sz = 0) then firstL else st) rest b).1, (wrEnd tko (bif decide (sz = 0) then firstL else st) rest b).2, sz + b.length) := by
  rw [wro, opq_eq, wrF, decide_eq_true h]
theorem wro_eq1 {st rest : List Int} {sz : Int} {b : List Int} {a : Nat} (ha : a = (sz % 64).toNat) (h : a ≠ 0) (h2 : a + b.length < 64) : wro st rest sz b = (st, rest.take a ++ (b ++ rest.drop (a + b.length)), sz + b.length) := by
  subst ha
  rw [wro, opq_eq, wrF, decide_eq_false h, decide_eq_true h2]
theorem wro_eq2 {st rest : List Int} {sz : Int} {b : List Int} {a : Nat} (ha : a = (sz % 64).toNat) (h : a ≠ 0) (h2 : ¬a + b.length < 64) : wro st rest sz b =
    ((wrEnd tko (tko st (rest.take a ++ b.take (64 - a))) (rest.take a ++ b.take (64 - a)) (b.drop (64 - a))).1, (wrEnd tko (tko st (rest.take a ++ b.take (64 - a))) (rest.take a ++ b.take (64 - a)) (b.drop (64 - a))).2, sz + b.length) := by
  subst ha
  rw [wro, opq_eq, wrF, decide_eq_false h, decide_eq_false h2]
theorem fn_write : FnOkP Tryd.prog 99 hashK [.sl bK] [] shaG preWr (fun ((st, rest, sz), b, _) => (wro st rest sz b, ())) := by
  have hsp : SpecsOk Tryd.prog (sps [spTake]) := sps_cons (fnSpecPG_ok fn_take) sps_nil
  refine fn_of_trP (sp := sps [spTake]) ent_write (by decide) (by decide) (by kernel_rfl) ?_
  rintro w M0 b0 ⟨st, rest, sz⟩ ⟨b, ⟨⟩⟩
  revert st rest sz b
  intro (st : List Int) (rest : List Int) (sz : Int) (b : List Int) hw hw2 hp
  obtain ⟨hs0, hs1, hb⟩ := hp
  have hs0 : (0 : Int) ≤ sz := hs0
  have hs1 : sz ≤ (1152921504606846976 : Int) := hs1
  have hb : b.length ≤ 1152921504606846976 := hb
  have hst : st.length = 8 := hw.1.1
  have hrl : rest.length = 64 := hw.2.1.1
  show Tr _ _ _ _ _ _ _
  refine tr_cutF hsp mixed 8 (fun σ => (rdB hashK 0 σ, rdO bK 1 σ)) wrS (wrJ st rest sz b) ?_ ?_
  · refine vcx (X := (((sz == (0 : Int)) = true → (0 : Nat) < [firstL].length ∧ ((64 : Int) = (0 : Int) → False) ∧ (decide (sz.tmod (64 : Int) > (0 : Int)) = true → ((0 : Int) ≤ sz.tmod (64 : Int) ∧ sz.tmod (64 : Int) ≤ (↑(64 : Nat) : Int)) ∧ (sz.tmod (64 : Int)).toNat + ((↑(64 : Nat) : Int) - sz.tmod (64 : Int)).toNat ≤ (64 : Nat) ∧ (decide (IntKind.i64.wrap (sz.tmod (64 : Int) + (↑(b.length.min ((↑(64 : Nat) : Int) - sz.tmod (64 : Int)).toNat) : Int)) < (64 : Int)) = true → (([(1779033703 : Int), (3144134277 : Int), (1013904242 : Int), (2773480762 : Int), (1359893119 : Int), (2600822924 : Int), (528734635 : Int), (1541459225 : Int)], List.take (sz.tmod (64 : Int)).toNat rest ++ (List.take (b.length.min ((↑(64 : Nat) : Int) - sz.tmod (64 : Int)).toNat) b ++ List.drop ((sz.tmod (64 : Int)).toNat + b.length.min ((↑(64 : Nat) : Int) - sz.tmod (64 : Int)).toNat) rest), IntKind.i64.wrap (sz + (↑b.length : Int))), ()) = (wro st rest sz b, ())) ∧ (decide (IntKind.i64.wrap (sz.tmod (64 : Int) + (↑(b.length.min ((↑(64 : Nat) : Int) - sz.tmod (64 : Int)).toNat) : Int)) < (64 : Int)) = false → ((0 : Int) ≤ (↑(b.length.min ((↑(64 : Nat) : Int) - sz.tmod (64 : Int)).toNat) : Int) ∧ (↑(b.length.min ((↑(64 : Nat) : Int) - sz.tmod (64 : Int)).toNat) : Int) ≤ (↑b.length : Int)) ∧ (∀ (g : Nat) (s : Sigma Car), shaG g = some s → Decidable.rec (fun h => (fun x => if g = (1 : Nat) then some ⟨Kd.arr (64 : Nat) uK, rootsL⟩ else none) h) (fun h => (fun x => some ⟨Kd.arr (8 : Nat) uK, firstL⟩) h) (instDecidableEqNat g (0 : Nat)) = some s) ∧ True ∧ (wrS ((tko firstL (List.take (sz.tmod (64 : Int)).toNat rest ++ (List.take (b.length.min ((↑(64 : Nat) : Int) - sz.tmod (64 : Int)).toNat) b ++ List.drop ((sz.tmod (64 : Int)).toNat + b.length.min ((↑(64 : Nat) : Int) - sz.tmod (64 : Int)).toNat) rest)), List.take (sz.tmod (64 : Int)).toNat rest ++ (List.take (b.length.min ((↑(64 : Nat) : Int) - sz.tmod (64 : Int)).toNat) b ++ List.drop ((sz.tmod (64 : Int)).toNat + b.length.min ((↑(64 : Nat) : Int) - sz.tmod (64 : Int)).toNat) rest), IntKind.i64.wrap (sz + (↑b.length : Int))), List.take ((↑b.length : Int) - (↑(b.length.min ((↑(64 : Nat) : Int) - sz.tmod (64 : Int)).toNat) : Int)).toNat (List.drop (↑(b.length.min ((↑(64 : Nat) : Int) - sz.tmod (64 : Int)).toNat) : Int).toNat b))).triv (wrJ st rest sz b ((tko firstL (List.take (sz.tmod (64 : Int)).toNat rest ++ (List.take (b.length.min ((↑(64 : Nat) : Int) - sz.tmod (64 : Int)).toNat) b ++ List.drop ((sz.tmod (64 : Int)).toNat + b.length.min ((↑(64 : Nat) : Int) - sz.tmod (64 : Int)).toNat) rest)), List.take (sz.tmod (64 : Int)).toNat rest ++ (List.take (b.length.min ((↑(64 : Nat) : Int) - sz.tmod (64 : Int)).toNat) b ++ List.drop ((sz.tmod (64 : Int)).toNat + b.length.min ((↑(64 : Nat) : Int) - sz.tmod (64 : Int)).toNat) rest), IntKind.i64.wrap (sz + (↑b.length : Int))), List.take ((↑b.length : Int) - (↑(b.length.min ((↑(64 : Nat) : Int) - sz.tmod (64 : Int)).toNat) : Int)).toNat (List.drop (↑(b.length.min ((↑(64 : Nat) : Int) - sz.tmod (64 : Int)).toNat) : Int).toNat b))))) ∧ (decide (sz.tmod (64 : Int) > (0 : Int)) = false → (wrS (([(1779033703 : Int), (3144134277 : Int), (1013904242 : Int), (2773480762 : Int), (1359893119 : Int), (2600822924 : Int), (528734635 : Int), (1541459225 : Int)], rest, IntKind.i64.wrap (sz + (↑b.length : Int))), b)).triv (wrJ st rest sz b (([(1779033703 : Int), (3144134277 : Int), (1013904242 : Int), (2773480762 : Int), (1359893119 : Int), (2600822924 : Int), (528734635 : Int), (1541459225 : Int)], rest, IntKind.i64.wrap (sz + (↑b.length : Int))), b)))) ∧ ((sz == (0 : Int)) = false → ((64 : Int) = (0 : Int) → False) ∧ (decide (sz.tmod (64 : Int) > (0 : Int)) = true → ((0 : Int) ≤ sz.tmod (64 : Int) ∧ sz.tmod (64 : Int) ≤ (↑(64 : Nat) : Int)) ∧ (sz.tmod (64 : Int)).toNat + ((↑(64 : Nat) : Int) - sz.tmod (64 : Int)).toNat ≤ (64 : Nat) ∧ (decide (IntKind.i64.wrap (sz.tmod (64 : Int) + (↑(b.length.min ((↑(64 : Nat) : Int) - sz.tmod (64 : Int)).toNat) : Int)) < (64 : Int)) = true → ((st, List.take (sz.tmod (64 : Int)).toNat rest ++ (List.take (b.length.min ((↑(64 : Nat) : Int) - sz.tmod (64 : Int)).toNat) b ++ List.drop ((sz.tmod (64 : Int)).toNat + b.length.min ((↑(64 : Nat) : Int) - sz.tmod (64 : Int)).toNat) rest), IntKind.i64.wrap (sz + (↑b.length : Int))), ()) = (wro st rest sz b, ())) ∧ (decide (IntKind.i64.wrap (sz.tmod (64 : Int) + (↑(b.length.min ((↑(64 : Nat) : Int) - sz.tmod (64 : Int)).toNat) : Int)) < (64 : Int)) = false → ((0 : Int) ≤ (↑(b.length.min ((↑(64 : Nat) : Int) - sz.tmod (64 : Int)).toNat) : Int) ∧ (↑(b.length.min ((↑(64 : Nat) : Int) - sz.tmod (64 : Int)).toNat) : Int) ≤ (↑b.length : Int)) ∧ (∀ (g : Nat) (s : Sigma Car), shaG g = some s → Decidable.rec (fun h => (fun x => if g = (1 : Nat) then some ⟨Kd.arr (64 : Nat) uK, rootsL⟩ else none) h) (fun h => (fun x => some ⟨Kd.arr (8 : Nat) uK, firstL⟩) h) (instDecidableEqNat g (0 : Nat)) = some s) ∧ True ∧ (wrS ((tko st (List.take (sz.tmod (64 : Int)).toNat rest ++ (List.take (b.length.min ((↑(64 : Nat) : Int) - sz.tmod (64 : Int)).toNat) b ++ List.drop ((sz.tmod (64 : Int)).toNat + b.length.min ((↑(64 : Nat) : Int) - sz.tmod (64 : Int)).toNat) rest)), List.take (sz.tmod (64 : Int)).toNat rest ++ (List.take (b.length.min ((↑(64 : Nat) : Int) - sz.tmod (64 : Int)).toNat) b ++ List.drop ((sz.tmod (64 : Int)).toNat + b.length.min ((↑(64 : Nat) : Int) - sz.tmod (64 : Int)).toNat) rest), IntKind.i64.wrap (sz + (↑b.length : Int))), List.take ((↑b.length : Int) - (↑(b.length.min ((↑(64 : Nat) : Int) - sz.tmod (64 : Int)).toNat) : Int)).toNat (List.drop (↑(b.length.min ((↑(64 : Nat) : Int) - sz.tmod (64 : Int)).toNat) : Int).toNat b))).triv (wrJ st rest sz b ((tko st (List.take (sz.tmod (64 : Int)).toNat rest ++ (List.take (b.length.min ((↑(64 : Nat) : Int) - sz.tmod (64 : Int)).toNat) b ++ List.drop ((sz.tmod (64 : Int)).toNat + b.length.min ((↑(64 : Nat) : Int) - sz.tmod (64 : Int)).toNat) rest)), List.take (sz.tmod (64 : Int)).toNat rest ++ (List.take (b.length.min ((↑(64 : Nat) : Int) - sz.tmod (64 : Int)).toNat) b ++ List.drop ((sz.tmod (64 : Int)).toNat + b.length.min ((↑(64 : Nat) : Int) - sz.tmod (64 : Int)).toNat) rest), IntKind.i64.wrap (sz + (↑b.length : Int))), List.take ((↑b.length : Int) - (↑(b.length.min ((↑(64 : Nat) : Int) - sz.tmod (64 : Int)).toNat) : Int)).toNat (List.drop (↑(b.length.min ((↑(64 : Nat) : Int) - sz.tmod (64 : Int)).toNat) : Int).toNat b))))) ∧ (decide (sz.tmod (64 : Int) > (0 : Int)) = false → (wrS ((st, rest, IntKind.i64.wrap (sz + (↑b.length : Int))), b)).triv (wrJ st rest sz b ((st, rest, IntKind.i64.wrap (sz + (↑b.length : Int))), b)))))) (by kernel_rfl) ?_
    obtain ⟨a, ha, ha64, har⟩ : ∃ a : Nat, sz.tmod 64 = (a : Int) ∧ a < 64 ∧ a = (sz % 64).toNat := ⟨(sz % 64).toNat, by rw [Int.tmod_eq_emod_of_nonneg hs0]; omega, by omega, rfl⟩
    have e1 : ((↑(64 : Nat) : Int) - (a : Int)).toNat = 64 - a := by omega
    have e3 : IntKind.i64.wrap (sz + (↑b.length : Int)) = sz + b.length := wrap_i64' (by omega) (by omega)
    rw [ha, e1, e3]
    obtain ⟨n, hn⟩ : ∃ n, n = b.length.min (64 - a) := ⟨_, rfl⟩
    have hn' : n = min b.length (64 - a) := hn
    have e2 : IntKind.i64.wrap ((a : Int) + (n : Int)) = ((a + n : Nat) : Int) := by rw [wrap_i64' (by omega) (by omega)]; omega
    rw [← hn, e2]
    simp only [Int.toNat_natCast]
    refine ⟨fun h0 => ⟨by decide, by decide, fun hpos => ?_, fun hz => triv_intro ?_⟩, fun h0 => ⟨by decide, fun hpos => ⟨⟨by omega, by omega⟩, by omega, fun hlt => ?_, fun hge => ⟨⟨by omega, by omega⟩, fun _ _ h => h, trivial, triv_intro ?_⟩⟩, fun hz => triv_intro ?_⟩⟩
    · exfalso
      have h0 : sz = 0 := by simpa using h0
      have := of_decide_eq_true hpos
      subst h0; omega
    · have h0 : sz = 0 := by simpa using h0
      refine ⟨?_, hrl⟩
      rw [wro_eq0 (by omega), decide_eq_true h0]; rfl
    · have hlt := of_decide_eq_true hlt
      have hpos := of_decide_eq_true hpos
      have hnb : n = b.length := by omega
      rw [wro_eq1 har (by omega) (by omega), hnb, List.take_of_length_le (Nat.le_refl _)]
    · have hge := of_decide_eq_false hge
      have hpos := of_decide_eq_true hpos
      have hnb : n = 64 - a := by omega
      have hr1 : rest.take a ++ (b.take n ++ rest.drop (a + n)) = rest.take a ++ b.take (64 - a) := by
        rw [hnb, List.drop_eq_nil_of_le (by omega), List.append_nil]
      have hb1 : List.take ((↑b.length : Int) - (n : Int)).toNat (List.drop n b) = b.drop (64 - a) := by
        rw [List.take_of_length_le (by rw [List.length_drop]; omega), hnb]
      rw [hr1, hb1]
      refine ⟨?_, ?_⟩
      · rw [wro_eq2 har (by omega) (by omega)]
      · show (rest.take a ++ b.take (64 - a)).length = 64
        rw [List.length_append, List.length_take, List.length_take]; omega
    · have hz := of_decide_eq_false hz
      have h0 : ¬ sz = 0 := by simpa using h0
      refine ⟨?_, hrl⟩
      rw [wro_eq0 (by omega), decide_eq_false h0]; rfl
  rintro ⟨⟨st1, rest1, sz1⟩, b1⟩ hJ
  revert st1 rest1 sz1 b1
  intro (b1 : List Int) (st1 : List Int) (rest1 : List Int) (sz1 : Int) (hJ : wrJ st rest sz b ((st1, rest1, sz1), b1))
  refine tr_while hsp mixed noSw (fun σ => (rdB hashK 0 σ, rdO bK 1 σ)) wrS (wrJ st rest sz b) (fun g => g.2.length)
    (fun σ => (rdB hashK 0 σ, rdO bK 1 σ)) wrS (fun g => wrJ st rest sz b g ∧ g.2.length < 64) ((st1, rest1, sz1), b1) (c := nthC (codeOf Tryd.f99) 8) (by kernel_rfl) (by kernel_rfl) (le_of_proj (by kernel_rfl) (by kernel_rfl) ?_) ?_ ?_
  · exact hJ
  · rintro ⟨⟨st1, rest1, sz1⟩, b1⟩ hj
    revert st1 rest1 sz1 b1
    intro (b1 : List Int) (st1 : List Int) (rest1 : List Int) (sz1 : Int) (hj : wrJ st rest sz b ((st1, rest1, sz1), b1))
    refine vcx (X := ((decide ((↑b1.length : Int) ≥ (64 : Int)) = true → (64 : Nat) ≤ b1.length ∧ (0 : Nat) + Tryd.prog.cellsOf 130 / width bK ≤ b1.length ∧ (∀ (g : Nat) (s : Sigma Car), shaG g = some s → Decidable.rec (fun h => (fun x => if g = (1 : Nat) then some ⟨Kd.arr (64 : Nat) uK, rootsL⟩ else none) h) (fun h => (fun x => some ⟨Kd.arr (8 : Nat) uK, firstL⟩) h) (instDecidableEqNat g (0 : Nat)) = some s) ∧ True ∧ ((0 : Int) ≤ (64 : Int) ∧ (64 : Int) ≤ (↑b1.length : Int)) ∧ (wrS ((tko st1 (List.take (Tryd.prog.cellsOf 130 / width bK) b1), rest1, sz1), List.take ((↑b1.length : Int) - (64 : Int)).toNat (List.drop (64 : Nat) b1))).triv (wrJ st rest sz b ((tko st1 (List.take (Tryd.prog.cellsOf 130 / width bK) b1), rest1, sz1), List.take ((↑b1.length : Int) - (64 : Int)).toNat (List.drop (64 : Nat) b1)) ∧ (List.take ((↑b1.length : Int) - (64 : Int)).toNat (List.drop (64 : Nat) b1)).length < b1.length)) ∧ (decide ((↑b1.length : Int) ≥ (64 : Int)) = false → (wrS ((st1, rest1, sz1), b1)).triv (wrJ st rest sz b ((st1, rest1, sz1), b1) ∧ b1.length < (64 : Nat))))) (by kernel_rfl) ?_
    have e64 : Tryd.prog.cellsOf 130 / width bK = 64 := by kernel_rfl
    obtain ⟨hj1, hj2⟩ := hj
    refine ⟨fun h => ?_, fun h => triv_intro ⟨⟨hj1, hj2⟩, by have := of_decide_eq_false h; omega⟩⟩
    have h64 : 64 ≤ b1.length := by have := of_decide_eq_true h; omega
    have hd : List.take ((↑b1.length : Int) - (64 : Int)).toNat (List.drop 64 b1) = b1.drop 64 := List.take_of_length_le (by rw [List.length_drop]; omega)
    show 64 ≤ b1.length ∧ 0 + Tryd.prog.cellsOf 130 / width bK ≤ b1.length ∧ _
    rw [e64, hd]
    refine ⟨h64, by omega, fun _ _ h => h, trivial, ⟨by omega, by omega⟩, triv_intro ⟨⟨?_, hj2⟩, ?_⟩⟩
    · show ((wrEnd tko (tko st1 (List.take (Tryd.prog.cellsOf 130 / width bK) b1)) rest1 (b1.drop 64)).1, (wrEnd tko (tko st1 (List.take (Tryd.prog.cellsOf 130 / width bK) b1)) rest1 (b1.drop 64)).2, sz1) = _
      rw [e64, wrEnd_step _ _ _ h64]; exact hj1
    · rw [List.length_drop]; omega
  rintro ⟨⟨st2, rest2, sz2⟩, b2⟩ hj
  revert st2 rest2 sz2 b2
  intro (b2 : List Int) (st2 : List Int) (rest2 : List Int) (sz2 : Int) (hj : wrJ st rest sz b ((st2, rest2, sz2), b2) ∧ b2.length < 64)
  refine tr_vc hsp mixed _ _ ?_
  refine vcx (X := ((0 : Nat) + (64 : Nat) ≤ (64 : Nat) ∧ ((st2, List.take (0 : Nat) rest2 ++ (List.take (b2.length.min (64 : Nat)) b2 ++ List.drop ((0 : Nat) + b2.length.min (64 : Nat)) rest2), sz2), ()) = (wro st rest sz b, ()))) (by kernel_rfl) ?_
  obtain ⟨⟨hj1, hj2⟩, hlt⟩ := hj
  have hlt : b2.length < 64 := hlt
  refine ⟨by decide, ?_⟩
  have e1 : b2.length.min 64 = b2.length := Nat.min_eq_left (by omega)
  have e2 : tailOf b2 = b2 := by rw [tailOf, show b2.length / 64 = 0 by omega]; rfl
  rw [← hj1, e1]
  show ((st2, List.take 0 rest2 ++ (List.take b2.length b2 ++ List.drop (0 + b2.length) rest2), sz2), ()) = (((wrEnd tko st2 rest2 b2).1, (wrEnd tko st2 rest2 b2).2, sz2), ())
  unfold wrEnd
  rw [e2, List.take_of_length_le (Nat.le_refl _), show b2.length / 64 = 0 by omega, Nat.zero_add]
  rfl
noncomputable def spWrite : Nat × Eng.Spec := (99, fnSpecPG shaG hashK [.sl bK] [] preWr (fun ((st, rest, sz), b, _) => (wro st rest sz b, ())))
end Go.Proofs.YtbfimfdhmggieaaDoor.sha
/- sha: Sum, Of. -/
namespace Go.Proofs.YtbfimfdhmggieaaDoor.sha
set_option maxRecDepth 100000
open Go Go.Eng Go.RowKit Cr Go.Proofs.YtbfimfdhmggieaaDoor
theorem set_fill (f : Nat → Int) (p : List Int) (k n : Nat) : (p ++ ((List.range k).map f ++ List.replicate (n + 1) 0)).set (p.length + k) (f k) = p ++ ((List.range (k + 1)).map f ++ List.replicate n 0) := by
  rw [List.set_append_right _ _ (by omega), show p.length + k - p.length = k by omega, List.set_append_right _ _ (by simp)]
  rw [show k - ((List.range k).map f).length = 0 by simp, List.replicate_succ, List.set_cons_zero, List.range_succ, List.map_append, List.append_assoc]
  rfl
theorem wrap_u8 (x : Int) : IntKind.u8.wrap x = x % 256 := by
  simp only [IntKind.wrap, IntKind.signed, IntKind.bits]
  simp
theorem ent_sum : enters Tryd.prog 100 Tryd.f100 := enters_mk (by kernel_rfl) (by kernel_rfl) (by kernel_rfl)
def nn (sz : Int) : Nat := (64 + 55 - sz.toNat % 64) % 64
def szB (sz : Int) (i : Nat) : Int := sz * 8 / 2 ^ (56 - 8 * i) % 256
def tlk (sz : Int) (k : Nat) : List Int := (128 :: List.replicate (nn sz) 0) ++ ((List.range k).map (szB sz) ++ List.replicate (71 - nn sz - k) 0)
theorem tlk_pad (sz : Int) (h : 0 ≤ sz) : (tlk sz 8).take (1 + nn sz + 8) = padB sz.toNat := by
  have e : tlk sz 8 = ((128 :: List.replicate (nn sz) 0) ++ (List.range 8).map (szB sz)) ++ List.replicate (71 - nn sz - 8) 0 := by rw [tlk, List.append_assoc]
  rw [e, List.take_left' (by simp; omega)]
  have e2 : ((sz.toNat : Nat) : Int) = sz := by omega
  unfold padB szB nn
  rw [e2]
  rfl
noncomputable def smA (st rest : List Int) (sz : Int) (n : Int) (g : Int × List Int) : St := mkSt Tryd.f100.ntmps 129 [(0, .is (.one (.ptr 0 0))), (2, .is (.one (.ptr 1 0))), (3, .is (.one (.ptr 9 0))), (4, .is (.one (.ptr 33 0))), (5, sI .i64 n), (20, sI .i64 g.1)] [(33, [.ints .u8 72 g.2]), (9, [.ints .u8 32 (List.replicate 32 0)]), (1, [.ints .u8 32 (List.replicate 32 0)]), (0, [.ints .u32 8 st, .ints .u8 64 rest, .v (.int .i64 sz)])]
noncomputable def smB (st rest : List Int) (sz : Int) (y : Car hashK) (g : Int × List Int) : St := mkSt Tryd.f100.ntmps 217 [(2, .is (.one (.ptr 1 0))), (3, .is (.one (.ptr 9 0))), (7, .is (.one (.ptr 153 0))), (48, sI .i64 g.1)] [(153, [.ints .u32 8 y.1, .ints .u8 64 y.2.1, .v (.int .i64 y.2.2)]), (9, [.ints .u8 32 g.2]), (1, [.ints .u8 32 (List.replicate 32 0)]), (0, [.ints .u32 8 st, .ints .u8 64 rest, .v (.int .i64 sz)])]
def outE (s : List Int) (i : Nat) : Int := IntKind.u8.wrap ((s.getD (i / 4) 0).fdiv (2 ^ (24 - 8 * (i % 4))))
def oK (s : List Int) (k : Nat) : List Int := [] ++ ((List.range k).map (outE s) ++ List.replicate (32 - k) 0)
noncomputable def sumo (st rest : List Int) (sz : Int) : List Int := opq (outB (wro st rest sz (padB sz.toNat)).1)
theorem took_sum {L st rest : List Int} {sz : Int} (h : Took tko firstL L st rest sz) : sumo st rest sz = dig L := by
  have e : sz.toNat = L.length := by have := h.1; omega
  have k := took_wro h (padB L.length)
  have hne : L ++ padB L.length ≠ [] := by simp [padB]
  rw [sumo, opq_eq, dig, opq_eq, digF, e, k.2.2.1 hne]
theorem fn_sum : FnOkP Tryd.prog 100 hashK [] [.val (.arr 32 bK)] shaG (fun ((_, _, sz), _) => (0 : Int) ≤ sz ∧ sz ≤ (1152921504606846976 : Int)) (fun ((st, rest, sz), _) => ((st, rest, sz), (sumo st rest sz, ()))) := by
  have hsp : SpecsOk Tryd.prog (sps [spWrite]) := sps_cons (fnSpecPG_ok fn_write) sps_nil
  refine fn_of_trP (sp := sps [spWrite]) ent_sum (by decide) (by decide) (by kernel_rfl) ?_
  rintro w M0 b0 ⟨st, rest, sz⟩ ⟨⟩
  revert st rest sz
  intro (st : List Int) (rest : List Int) (sz : Int) hw hw2 hp
  have hs0 : (0 : Int) ≤ sz := hp.1
  have hs1 : sz ≤ (1152921504606846976 : Int) := hp.2
  have hnn : nn sz < 64 := Nat.mod_lt _ (by decide)
  have hn0 : (119 - sz.tmod 64).tmod 64 = (nn sz : Int) := by
    rw [Int.tmod_eq_emod_of_nonneg hs0, Int.tmod_eq_emod_of_nonneg (by omega)]
    show _ = (((64 + 55 - sz.toNat % 64) % 64 : Nat) : Int)
    omega
  have hw64 : IntKind.u64.wrap sz = sz := by
    simp only [IntKind.wrap, IntKind.signed, IntKind.bits]
    simp; omega
  have hw8 : IntKind.u64.wrap (sz * 8) = sz * 8 := by
    simp only [IntKind.wrap, IntKind.signed, IntKind.bits]
    simp; omega
  show Tr _ _ _ _ _ _ _
  refine tr_cutF hsp mixed 8 (fun σ => (rdS (.int .i64) 5 σ, rdR bK 33 σ)) (fun g => smA st rest sz g.1 (0, g.2)) (fun g => g.1 = (nn sz : Int) ∧ g.2 = tlk sz 0) ?_ ?_
  · refine vcx (X := ((0 : Nat) < (72 : Nat) ∧ ((64 : Int) = (0 : Int) → False) ∧ ((64 : Int) = (0 : Int) → False) ∧ (smA st rest sz ((IntKind.i64.wrap ((119 : Int) - sz.tmod (64 : Int))).tmod (64 : Int), [(128 : Int), (0 : Int), (0 : Int), (0 : Int), (0 : Int), (0 : Int), (0 : Int), (0 : Int), (0 : Int), (0 : Int), (0 : Int), (0 : Int), (0 : Int), (0 : Int), (0 : Int), (0 : Int), (0 : Int), (0 : Int), (0 : Int), (0 : Int), (0 : Int), (0 : Int), (0 : Int), (0 : Int), (0 : Int), (0 : Int), (0 : Int), (0 : Int), (0 : Int), (0 : Int), (0 : Int), (0 : Int), (0 : Int), (0 : Int), (0 : Int), (0 : Int), (0 : Int), (0 : Int), (0 : Int), (0 : Int), (0 : Int), (0 : Int), (0 : Int), (0 : Int), (0 : Int), (0 : Int), (0 : Int), (0 : Int), (0 : Int), (0 : Int), (0 : Int), (0 : Int), (0 : Int), (0 : Int), (0 : Int), (0 : Int), (0 : Int), (0 : Int), (0 : Int), (0 : Int), (0 : Int), (0 : Int), (0 : Int), (0 : Int), (0 : Int), (0 : Int), (0 : Int), (0 : Int), (0 : Int), (0 : Int), (0 : Int), (0 : Int)]).fst ((0 : Int), ((IntKind.i64.wrap ((119 : Int) - sz.tmod (64 : Int))).tmod (64 : Int), [(128 : Int), (0 : Int), (0 : Int), (0 : Int), (0 : Int), (0 : Int), (0 : Int), (0 : Int), (0 : Int), (0 : Int), (0 : Int), (0 : Int), (0 : Int), (0 : Int), (0 : Int), (0 : Int), (0 : Int), (0 : Int), (0 : Int), (0 : Int), (0 : Int), (0 : Int), (0 : Int), (0 : Int), (0 : Int), (0 : Int), (0 : Int), (0 : Int), (0 : Int), (0 : Int), (0 : Int), (0 : Int), (0 : Int), (0 : Int), (0 : Int), (0 : Int), (0 : Int), (0 : Int), (0 : Int), (0 : Int), (0 : Int), (0 : Int), (0 : Int), (0 : Int), (0 : Int), (0 : Int), (0 : Int), (0 : Int), (0 : Int), (0 : Int), (0 : Int), (0 : Int), (0 : Int), (0 : Int), (0 : Int), (0 : Int), (0 : Int), (0 : Int), (0 : Int), (0 : Int), (0 : Int), (0 : Int), (0 : Int), (0 : Int), (0 : Int), (0 : Int), (0 : Int), (0 : Int), (0 : Int), (0 : Int), (0 : Int), (0 : Int)]).snd)).triv ((IntKind.i64.wrap ((119 : Int) - sz.tmod (64 : Int))).tmod (64 : Int) = (↑(nn sz) : Int) ∧ [(128 : Int), (0 : Int), (0 : Int), (0 : Int), (0 : Int), (0 : Int), (0 : Int), (0 : Int), (0 : Int), (0 : Int), (0 : Int), (0 : Int), (0 : Int), (0 : Int), (0 : Int), (0 : Int), (0 : Int), (0 : Int), (0 : Int), (0 : Int), (0 : Int), (0 : Int), (0 : Int), (0 : Int), (0 : Int), (0 : Int), (0 : Int), (0 : Int), (0 : Int), (0 : Int), (0 : Int), (0 : Int), (0 : Int), (0 : Int), (0 : Int), (0 : Int), (0 : Int), (0 : Int), (0 : Int), (0 : Int), (0 : Int), (0 : Int), (0 : Int), (0 : Int), (0 : Int), (0 : Int), (0 : Int), (0 : Int), (0 : Int), (0 : Int), (0 : Int), (0 : Int), (0 : Int), (0 : Int), (0 : Int), (0 : Int), (0 : Int), (0 : Int), (0 : Int), (0 : Int), (0 : Int), (0 : Int), (0 : Int), (0 : Int), (0 : Int), (0 : Int), (0 : Int), (0 : Int), (0 : Int), (0 : Int), (0 : Int), (0 : Int)] = tlk sz (0 : Nat)))) (by kernel_rfl) ?_
    have e : IntKind.i64.wrap (119 - sz.tmod 64) = 119 - sz.tmod 64 := by
      rw [Int.tmod_eq_emod_of_nonneg hs0]; exact wrap_i64' (by omega) (by omega)
    rw [e, hn0]
    refine ⟨by decide, by decide, by decide, triv_intro ⟨rfl, ?_⟩⟩
    show _ = (128 :: List.replicate (nn sz) 0) ++ ([] ++ List.replicate (71 - nn sz - 0) 0)
    rw [List.nil_append, List.cons_append, List.replicate_append_replicate, show nn sz + (71 - nn sz - 0) = 71 by omega]
    rfl
  rintro ⟨n0, t0⟩ hK
  revert n0 t0
  intro (n0 : Int) (t0 : List Int) ⟨e0, et⟩
  have e0 : n0 = (nn sz : Int) := e0
  have et : t0 = tlk sz 0 := et
  subst e0 et
  refine tr_while hsp mixed noSw (fun σ => (rdS (.int .i64) 20 σ, rdR bK 33 σ)) (smA st rest sz (nn sz)) (fun g => ∃ k : Nat, k ≤ 8 ∧ g.1 = (k : Int) ∧ g.2 = tlk sz k) (fun g => 8 - g.1.toNat)
    (fun σ => (rdS (.int .i64) 20 σ, rdR bK 33 σ)) (smA st rest sz (nn sz)) (fun g => g.2 = tlk sz 8) (0, tlk sz 0) (c := nthC (codeOf Tryd.f100) 8) (by kernel_rfl) (by kernel_rfl) (le_of_proj (by kernel_rfl) (by kernel_rfl) ?_) ?_ ?_
  · exact ⟨0, by decide, rfl, rfl⟩
  · rintro ⟨i, l⟩ hj
    revert i l
    intro (i : Int) (l : List Int) ⟨k, hk, ei, el⟩
    have ei : i = (k : Int) := ei
    have kl : l = tlk sz k := el
    subst ei
    refine vcx (X := ((decide ((↑k : Int) < (8 : Int)) = true → (0 : Int) ≤ IntKind.i64.wrap ((56 : Int) - IntKind.i64.wrap ((8 : Int) * (↑k : Int))) ∧ ((0 : Int) ≤ IntKind.i64.wrap (IntKind.i64.wrap ((1 : Int) + (↑(nn sz) : Int)) + (↑k : Int)) ∧ IntKind.i64.wrap (IntKind.i64.wrap ((1 : Int) + (↑(nn sz) : Int)) + (↑k : Int)) < (↑(72 : Nat) : Int)) ∧ (IntKind.i64.wrap (IntKind.i64.wrap ((1 : Int) + (↑(nn sz) : Int)) + (↑k : Int))).toNat < (72 : Nat) ∧ (smA st rest sz (↑(nn sz) : Int) (IntKind.i64.wrap ((↑k : Int) + (1 : Int)), l.set (IntKind.i64.wrap (IntKind.i64.wrap ((1 : Int) + (↑(nn sz) : Int)) + (↑k : Int))).toNat (IntKind.u8.wrap ((IntKind.u64.wrap (IntKind.u64.wrap sz * (8 : Int))).fdiv ((2 : Int) ^ min (IntKind.i64.wrap ((56 : Int) - IntKind.i64.wrap ((8 : Int) * (↑k : Int)))).toNat IntKind.u64.bits))))).triv ((∃ k_1, k_1 ≤ (8 : Nat) ∧ IntKind.i64.wrap ((↑k : Int) + (1 : Int)) = (↑k_1 : Int) ∧ l.set (IntKind.i64.wrap (IntKind.i64.wrap ((1 : Int) + (↑(nn sz) : Int)) + (↑k : Int))).toNat (IntKind.u8.wrap ((IntKind.u64.wrap (IntKind.u64.wrap sz * (8 : Int))).fdiv ((2 : Int) ^ min (IntKind.i64.wrap ((56 : Int) - IntKind.i64.wrap ((8 : Int) * (↑k : Int)))).toNat IntKind.u64.bits))) = tlk sz k_1) ∧ (8 : Nat) - (IntKind.i64.wrap ((↑k : Int) + (1 : Int))).toNat < (8 : Nat) - (↑k : Int).toNat)) ∧ (decide ((↑k : Int) < (8 : Int)) = false → (smA st rest sz (↑(nn sz) : Int) ((↑k : Int), l)).triv (l = tlk sz (8 : Nat))))) (by kernel_rfl) ?_
    refine ⟨fun h => ?_, fun h => triv_intro ?_⟩
    · have h4 : k < 8 := by have := of_decide_eq_true h; omega
      have e1 : IntKind.i64.wrap (IntKind.i64.wrap ((1 : Int) + (nn sz : Int)) + (k : Int)) = ((1 + nn sz + k : Nat) : Int) := by
        rw [wrap_i64' (a := 1 + (nn sz : Int)) (by omega) (by omega), wrap_i64' (by omega) (by omega)]; omega
      have e2 : IntKind.i64.wrap (56 - IntKind.i64.wrap (8 * (k : Int))) = ((56 - 8 * k : Nat) : Int) := by
        rw [wrap_i64' (a := 8 * (k : Int)) (by omega) (by omega), wrap_i64' (by omega) (by omega)]; omega
      rw [e1, e2, wrap_succ (by omega), hw64, hw8]
      simp only [Int.toNat_natCast]
      refine ⟨by omega, ⟨by omega, by omega⟩, by omega, triv_intro ⟨⟨k + 1, h4, rfl, ?_⟩, by omega⟩⟩
      have ev : IntKind.u8.wrap ((sz * 8).fdiv (2 ^ min (56 - 8 * k) IntKind.u64.bits)) = szB sz k := by
        have hm : min (56 - 8 * k) IntKind.u64.bits = 56 - 8 * k := Nat.min_eq_left (show 56 - 8 * k ≤ 64 by omega)
        rw [wrap_u8, hm, Int.fdiv_eq_ediv_of_nonneg _ (Int.le_of_lt (Int.pow_pos (by decide)))]; rfl
      rw [ev, kl, tlk, tlk, show 71 - nn sz - k = (71 - nn sz - (k + 1)) + 1 by omega]
      have := set_fill (szB sz) (128 :: List.replicate (nn sz) 0) k (71 - nn sz - (k + 1))
      rw [show (128 :: List.replicate (nn sz) (0 : Int)).length = 1 + nn sz by simp; omega] at this
      exact this
    · have : k = 8 := by have := of_decide_eq_false h; omega
      rw [kl, this]
  rintro ⟨i1, l1⟩ hl1
  revert i1 l1
  intro (i1 : Int) (l1 : List Int) (hl1 : l1 = tlk sz 8)
  subst hl1
  refine tr_cutF hsp mixed 3 (fun σ => rdB hashK 153 σ) (fun y => smB st rest sz y (0, List.replicate 32 0)) (fun y => y = wro st rest sz (padB sz.toNat)) ?_ ?_
  · refine vcx (X := (((0 : Int) ≤ IntKind.i64.wrap (IntKind.i64.wrap ((1 : Int) + (↑(nn sz) : Int)) + (8 : Int)) ∧ IntKind.i64.wrap (IntKind.i64.wrap ((1 : Int) + (↑(nn sz) : Int)) + (8 : Int)) ≤ (↑(72 : Nat) : Int)) ∧ (∀ (g : Nat) (s : Sigma Car), shaG g = some s → Decidable.rec (fun h => (fun x => if g = (1 : Nat) then some ⟨Kd.arr (64 : Nat) uK, rootsL⟩ else none) h) (fun h => (fun x => some ⟨Kd.arr (8 : Nat) uK, firstL⟩) h) (instDecidableEqNat g (0 : Nat)) = some s) ∧ (0 : Nat) + (IntKind.i64.wrap (IntKind.i64.wrap ((1 : Int) + (↑(nn sz) : Int)) + (8 : Int)) - (0 : Int)).toNat ≤ (72 : Nat) ∧ preWr ((st, rest, sz), List.take (IntKind.i64.wrap (IntKind.i64.wrap ((1 : Int) + (↑(nn sz) : Int)) + (8 : Int)) - (0 : Int)).toNat (tlk sz (8 : Nat)), ()) ∧ (smB st rest sz (wro st rest sz (List.take (IntKind.i64.wrap (IntKind.i64.wrap ((1 : Int) + (↑(nn sz) : Int)) + (8 : Int)) - (0 : Int)).toNat (tlk sz (8 : Nat)))) ((0 : Int), List.replicate (32 : Nat) (0 : Int))).triv (wro st rest sz (List.take (IntKind.i64.wrap (IntKind.i64.wrap ((1 : Int) + (↑(nn sz) : Int)) + (8 : Int)) - (0 : Int)).toNat (tlk sz (8 : Nat))) = wro st rest sz (padB sz.toNat)))) (by kernel_rfl) ?_
    have e1 : IntKind.i64.wrap (IntKind.i64.wrap ((1 : Int) + (nn sz : Int)) + 8) = ((1 + nn sz + 8 : Nat) : Int) := by
      rw [wrap_i64' (a := 1 + (nn sz : Int)) (by omega) (by omega), wrap_i64' (by omega) (by omega)]; omega
    have e2 : (((1 + nn sz + 8 : Nat) : Int) - 0).toNat = 1 + nn sz + 8 := by omega
    rw [e1, e2, tlk_pad sz hs0]
    refine ⟨⟨by omega, by omega⟩, fun _ _ h => h, by omega, ⟨hs0, hs1, ?_⟩, triv_intro rfl⟩
    show (padB sz.toNat).length ≤ _
    rw [← tlk_pad sz hs0, List.length_take]; omega
  rintro ⟨y1, y2, y3⟩ hy
  revert y1 y2 y3
  intro (y1 : List Int) (y2 : List Int) (y3 : Int) (hy : (y1, y2, y3) = wro st rest sz (padB sz.toNat))
  rw [hy]
  refine tr_while hsp mixed noSw (fun σ => (rdS (.int .i64) 48 σ, rdR bK 9 σ)) (smB st rest sz (wro st rest sz (padB sz.toNat))) (fun g => ∃ k : Nat, k ≤ 32 ∧ g.1 = (k : Int) ∧ g.2 = oK (wro st rest sz (padB sz.toNat)).1 k) (fun g => 32 - g.1.toNat)
    (fun σ => (rdS (.int .i64) 48 σ, rdR bK 9 σ)) (smB st rest sz (wro st rest sz (padB sz.toNat))) (fun g => g.2 = oK (wro st rest sz (padB sz.toNat)).1 32) (0, List.replicate 32 0) (c := nthC (codeOf Tryd.f100) 12) (by kernel_rfl) (by kernel_rfl) (le_of_proj (by kernel_rfl) (by kernel_rfl) ?_) ?_ ?_
  · exact ⟨0, by decide, rfl, rfl⟩
  · rintro ⟨i, l⟩ hj
    revert i l
    intro (i : Int) (l : List Int) ⟨k, hk, ei, el⟩
    have ei : i = (k : Int) := ei
    have kl : l = oK (wro st rest sz (padB sz.toNat)).1 k := el
    subst ei
    refine vcx (X := ((decide ((↑k : Int) < (32 : Int)) = true → ((4 : Int) = (0 : Int) → False) ∧ ((0 : Int) ≤ IntKind.i64.wrap ((↑k : Int).tdiv (4 : Int)) ∧ IntKind.i64.wrap ((↑k : Int).tdiv (4 : Int)) < (↑(8 : Nat) : Int)) ∧ (IntKind.i64.wrap ((↑k : Int).tdiv (4 : Int))).toNat < (8 : Nat) ∧ ((4 : Int) = (0 : Int) → False) ∧ (0 : Int) ≤ IntKind.i64.wrap ((24 : Int) - IntKind.i64.wrap ((8 : Int) * (↑k : Int).tmod (4 : Int))) ∧ ((0 : Int) ≤ (↑k : Int) ∧ (↑k : Int) < (↑(32 : Nat) : Int)) ∧ (↑k : Int).toNat < (32 : Nat) ∧ (smB st rest sz (wro st rest sz (padB sz.toNat)) (IntKind.i64.wrap ((↑k : Int) + (1 : Int)), l.set (↑k : Int).toNat (IntKind.u8.wrap (((wro st rest sz (padB sz.toNat)).fst.getD (IntKind.i64.wrap ((↑k : Int).tdiv (4 : Int))).toNat (0 : Int)).fdiv ((2 : Int) ^ min (IntKind.i64.wrap ((24 : Int) - IntKind.i64.wrap ((8 : Int) * (↑k : Int).tmod (4 : Int)))).toNat IntKind.u32.bits))))).triv ((∃ k_1, k_1 ≤ (32 : Nat) ∧ IntKind.i64.wrap ((↑k : Int) + (1 : Int)) = (↑k_1 : Int) ∧ l.set (↑k : Int).toNat (IntKind.u8.wrap (((wro st rest sz (padB sz.toNat)).fst.getD (IntKind.i64.wrap ((↑k : Int).tdiv (4 : Int))).toNat (0 : Int)).fdiv ((2 : Int) ^ min (IntKind.i64.wrap ((24 : Int) - IntKind.i64.wrap ((8 : Int) * (↑k : Int).tmod (4 : Int)))).toNat IntKind.u32.bits))) = oK (wro st rest sz (padB sz.toNat)).fst k_1) ∧ (32 : Nat) - (IntKind.i64.wrap ((↑k : Int) + (1 : Int))).toNat < (32 : Nat) - (↑k : Int).toNat)) ∧ (decide ((↑k : Int) < (32 : Int)) = false → (smB st rest sz (wro st rest sz (padB sz.toNat)) ((↑k : Int), l)).triv (l = oK (wro st rest sz (padB sz.toNat)).fst (32 : Nat))))) (by kernel_rfl) ?_
    refine ⟨fun h => ?_, fun h => triv_intro ?_⟩
    · have h4 : k < 32 := by have := of_decide_eq_true h; omega
      have e1 : IntKind.i64.wrap ((k : Int).tdiv 4) = ((k / 4 : Nat) : Int) := by
        rw [Int.tdiv_eq_ediv_of_nonneg (by omega), wrap_i64' (by omega) (by omega)]; omega
      have e2 : IntKind.i64.wrap (24 - IntKind.i64.wrap (8 * (k : Int).tmod 4)) = ((24 - 8 * (k % 4) : Nat) : Int) := by
        rw [Int.tmod_eq_emod_of_nonneg (by omega), wrap_i64' (a := 8 * ((k : Int) % 4)) (by omega) (by omega), wrap_i64' (by omega) (by omega)]; omega
      rw [e1, e2, wrap_succ (by omega)]
      simp only [Int.toNat_natCast]
      refine ⟨by decide, ⟨by omega, by omega⟩, by omega, by decide, by omega, ⟨by omega, by omega⟩, h4, triv_intro ⟨⟨k + 1, h4, rfl, ?_⟩, by omega⟩⟩
      have ev : IntKind.u8.wrap (((wro st rest sz (padB sz.toNat)).1.getD (k / 4) 0).fdiv (2 ^ min (24 - 8 * (k % 4)) IntKind.u32.bits)) = outE (wro st rest sz (padB sz.toNat)).1 k := by
        have hm : min (24 - 8 * (k % 4)) IntKind.u32.bits = 24 - 8 * (k % 4) := Nat.min_eq_left (show 24 - 8 * (k % 4) ≤ 32 by omega)
        rw [hm]; rfl
      rw [ev, kl, oK, oK, show 32 - k = (32 - (k + 1)) + 1 by omega]
      have := set_fill (outE (wro st rest sz (padB sz.toNat)).1) [] k (32 - (k + 1))
      rw [show ([] : List Int).length + k = k by simp] at this
      exact this
    · have : k = 32 := by have := of_decide_eq_false h; omega
      rw [kl, this]
  rintro ⟨i2, l2⟩ hl2
  revert i2 l2
  intro (i2 : Int) (l2 : List Int) (hl2 : l2 = oK (wro st rest sz (padB sz.toNat)).1 32)
  refine tr_vc hsp mixed _ _ ?_
  refine vcx (X := (((st, rest, sz), l2, ()) = ((st, rest, sz), sumo st rest sz, ()))) (by kernel_rfl) ?_
  rw [hl2, sumo, opq_eq]
  have e : oK (wro st rest sz (padB sz.toNat)).1 32 = outB (wro st rest sz (padB sz.toNat)).1 := by
    show [] ++ (_ ++ []) = _
    rw [List.append_nil, List.nil_append]; rfl
  rw [e]
noncomputable def spSum : Nat × Eng.Spec := (100, fnSpecPG shaG hashK [] [.val (.arr 32 bK)] (fun ((_, _, sz), _) => (0 : Int) ≤ sz ∧ sz ≤ (1152921504606846976 : Int)) (fun ((st, rest, sz), _) => ((st, rest, sz), (sumo st rest sz, ()))))
theorem ent_of : enters Tryd.prog 44 Tryd.f44 := enters_mk (by kernel_rfl) (by kernel_rfl) (by kernel_rfl)
noncomputable def ofS (ps : List (List Int)) (g : Int × Car hashK) : St := mkSt Tryd.f44.ntmps 40 [(2, .is (.one (.ptr 0 0))), (3, .is (.one (.ptr 8 0))), (6, .is (.one (.ro (.sl bK) ps))), (7, sI .i64 ps.length), (8, sI .i64 g.1)] [(8, [.ints .u32 8 g.2.1, .ints .u8 64 g.2.2.1, .v (.int .i64 g.2.2.2)]), (0, [.ints .u8 32 (List.replicate 32 0)])]
abbrev preOf : HL [.sl (.sl bK)] → Prop := fun (ps, _) => List.length (List.flatten ps) ≤ 1099511627776 ∧ List.length ps ≤ 1099511627776
theorem fn_of : FnOk Tryd.prog 44 [.sl (.sl bK)] [.val (.arr 32 bK)] shaG preOf (fun (ps, _) => (dig (List.flatten ps), ())) := by
  have hsp : SpecsOk Tryd.prog (sps [spWrite, spSum]) := sps_cons (fnSpecPG_ok fn_write) (sps_cons (fnSpecPG_ok fn_sum) sps_nil)
  refine fn_of_tr (sp := sps [spWrite, spSum]) ent_of (by decide) (by decide) (by kernel_rfl) ?_
  rintro w M0 ⟨ps, ⟨⟩⟩
  revert ps
  intro (ps : List (List Int)) _ hp
  have hl : (List.flatten ps).length ≤ 1099511627776 := hp.1
  have hn : ps.length ≤ 1099511627776 := hp.2
  show Tr _ _ _ _ _ _ _
  refine tr_cut hsp mixed 3 (ofS ps (0, (List.replicate 8 0, List.replicate 64 0, 0))) True ?_ (fun _ => ?_)
  · refine vcx (X := ((ofS ps ((0 : Int), List.replicate (8 : Nat) (0 : Car uK), List.replicate (64 : Nat) (0 : Car bK), (0 : Car (Kd.int IntKind.i64)))).triv True)) (by kernel_rfl) ?_
    exact triv_intro trivial
  refine tr_while hsp mixed noSw (fun σ => (rdS (.int .i64) 8 σ, rdB hashK 8 σ)) (ofS ps) (fun g => ∃ k : Nat, k ≤ ps.length ∧ g.1 = (k : Int) ∧ Took tko firstL (List.flatten (ps.take k)) g.2.1 g.2.2.1 g.2.2.2) (fun g => ps.length - g.1.toNat)
    (fun σ => (rdS (.int .i64) 8 σ, rdB hashK 8 σ)) (ofS ps) (fun g => Took tko firstL (List.flatten ps) g.2.1 g.2.2.1 g.2.2.2) (0, (List.replicate 8 0, List.replicate 64 0, 0)) (c := nthC (codeOf Tryd.f44) 3) (by kernel_rfl) (by kernel_rfl) (le_of_proj (by kernel_rfl) (by kernel_rfl) ?_) ?_ ?_
  · exact ⟨0, Nat.zero_le _, rfl, took_nil tko firstL _ _ List.length_replicate⟩
  · rintro ⟨i, st, rest, sz⟩ hj
    revert i st rest sz
    intro (i : Int) (st : List Int) (rest : List Int) (sz : Int) ⟨k, hk, ei, tk⟩
    have ei : i = (k : Int) := ei
    have tk : Took tko firstL (List.flatten (ps.take k)) st rest sz := tk
    subst ei
    refine vcx (X := ((decide ((↑k : Int) < (↑ps.length : Int)) = true → ((0 : Int) ≤ (↑k : Int) ∧ (↑k : Int) < (↑ps.length : Int)) ∧ (↑k : Int).toNat < ps.length ∧ (∀ (g : Nat) (s : Sigma Car), shaG g = some s → Decidable.rec (fun h => (fun x => if g = (1 : Nat) then some ⟨Kd.arr (64 : Nat) uK, rootsL⟩ else none) h) (fun h => (fun x => some ⟨Kd.arr (8 : Nat) uK, firstL⟩) h) (instDecidableEqNat g (0 : Nat)) = some s) ∧ preWr ((st, rest, sz), ps.getD (↑k : Int).toNat [], ()) ∧ (ofS ps (IntKind.i64.wrap ((↑k : Int) + (1 : Int)), wro st rest sz (ps.getD (↑k : Int).toNat []))).triv ((∃ k_1, k_1 ≤ ps.length ∧ IntKind.i64.wrap ((↑k : Int) + (1 : Int)) = (↑k_1 : Int) ∧ Took tko firstL (List.take k_1 ps).flatten (wro st rest sz (ps.getD (↑k : Int).toNat [])).fst (wro st rest sz (ps.getD (↑k : Int).toNat [])).snd.fst (wro st rest sz (ps.getD (↑k : Int).toNat [])).snd.snd) ∧ ps.length - (IntKind.i64.wrap ((↑k : Int) + (1 : Int))).toNat < ps.length - (↑k : Int).toNat)) ∧ (decide ((↑k : Int) < (↑ps.length : Int)) = false → (ofS ps ((↑k : Int), st, rest, sz)).triv (Took tko firstL ps.flatten st rest sz)))) (by kernel_rfl) ?_
    refine ⟨fun h => ?_, fun h => triv_intro ?_⟩
    · have h4 : k < ps.length := by have := of_decide_eq_true h; omega
      have hx : ps.getD k [] = ps[k] := by simp [List.getElem?_eq_getElem h4]
      have hf : (ps.take (k + 1)).flatten = (ps.take k).flatten ++ ps.getD k [] := by
        rw [List.take_succ_eq_append_getElem h4, List.flatten_append, hx]; simp
      have hlen : (ps.take (k + 1)).flatten.length ≤ ps.flatten.length := by
        have : ps.flatten = (ps.take (k + 1)).flatten ++ (ps.drop (k + 1)).flatten := by rw [← List.flatten_append, List.take_append_drop]
        rw [this, List.length_append]; omega
      have hsz : sz = (((ps.take k).flatten.length : Nat) : Int) := tk.1
      have hl2 : (ps.take k).flatten.length + (ps.getD k []).length ≤ 1099511627776 := by
        rw [hf, List.length_append] at hlen; omega
      rw [wrap_succ (by omega)]
      simp only [Int.toNat_natCast]
      have a1 : (0 : Int) ≤ sz := by rw [hsz]; omega
      have a2 : sz ≤ (1152921504606846976 : Int) := by rw [hsz]; omega
      refine ⟨⟨by omega, by omega⟩, h4, fun _ _ h => h, ⟨a1, a2, ?_⟩, triv_intro ⟨⟨k + 1, h4, rfl, ?_⟩, by omega⟩⟩
      · show (ps.getD k []).length ≤ _
        omega
      · rw [hf]; exact took_wro tk _
    · have : k = ps.length := by have := of_decide_eq_false h; omega
      rw [this, List.take_length] at tk
      exact tk
  rintro ⟨i, st, rest, sz⟩ hj
  revert i st rest sz
  intro (i : Int) (st : List Int) (rest : List Int) (sz : Int) (tk : Took tko firstL (List.flatten ps) st rest sz)
  refine tr_vc hsp mixed _ _ ?_
  refine vcx (X := ((∀ (g : Nat) (s : Sigma Car), shaG g = some s → Decidable.rec (fun h => (fun x => if g = (1 : Nat) then some ⟨Kd.arr (64 : Nat) uK, rootsL⟩ else none) h) (fun h => (fun x => some ⟨Kd.arr (8 : Nat) uK, firstL⟩) h) (instDecidableEqNat g (0 : Nat)) = some s) ∧ ((0 : Int) ≤ sz ∧ sz ≤ (1152921504606846976 : Int)) ∧ (sumo st rest sz, ()) = (dig ps.flatten, ()))) (by kernel_rfl) ?_
  have hsz : sz = ((ps.flatten.length : Nat) : Int) := tk.1
  have a1 : (0 : Int) ≤ sz := by rw [hsz]; omega
  have a2 : sz ≤ (1152921504606846976 : Int) := by rw [hsz]; omega
  exact ⟨fun _ _ h => h, ⟨a1, a2⟩, by rw [took_sum tk]⟩
noncomputable def spOf : Nat × Eng.Spec := (44, fnSpecG shaG [.sl (.sl bK)] [.val (.arr 32 bK)] preOf (fun (ps, _) => (dig (List.flatten ps), ())))
end Go.Proofs.YtbfimfdhmggieaaDoor.sha
/- beacon: Key, Due, New, Text; law24: BeaconKeys. -/
namespace Go.Proofs.YtbfimfdhmggieaaDoor.beacon
set_option maxRecDepth 100000
open Go Go.Eng Go.RowKit Cr Go.Proofs.YtbfimfdhmggieaaDoor
abbrev iK : Kd := .int .i64
abbrev b8 : Kd := .sl (.int .u8)
abbrev pt1 : Kd := .pair .fp .fp
abbrev infoK : Kd := .pair (.arr 48 (.int .u8)) (.pair (.arr 32 (.int .u8)) (.pair iK iK))
noncomputable def rgo (b : List Int) : (Fp × Fp) × Int := opq (codec.rg1 b)
theorem fr_read : FnOk Tryd.prog 33 [b8] [.val pt1, .val iK] noG codec.preRG (fun (b, _) => ((rgo b).1, (rgo b).2, ())) := codec.fn_readG1.out fun (b, _) => by show ((rgo b).1, (rgo b).2, ()) = ((codec.rg1 b).1, (codec.rg1 b).2, ()); rw [rgo, opq_eq]
noncomputable def srRead : Nat × Eng.Spec := (33, fnSpec [b8] [.val pt1, .val iK] codec.preRG (fun (b, _) => ((rgo b).1, (rgo b).2, ())))
/-- The answer of Key. -/
noncomputable def keyF (k : List Int) (g p : Int) : (Fp × Fp) × Int :=
  if (rgo k).2 = 0 then
    if (rgo k).1 = (0, 0) then ((0, 0), 15)
    else if g < 0 ∨ 1099511627776 < g ∨ p < 1 ∨ 1099511627776 < p then ((0, 0), 1)
    else ((rgo k).1, 0)
  else ((0, 0), (rgo k).2)
theorem ent_key : enters Tryd.prog 34 Tryd.f34 := enters_mk (by kernel_rfl) (by kernel_rfl) (by kernel_rfl)
theorem fn_key : FnOk Tryd.prog 34 [infoK] [.val pt1, .val iK] noG (fun (i, _) => Bs i.1) (fun (i, _) => ((keyF i.1 i.2.2.1 i.2.2.2).1, (keyF i.1 i.2.2.1 i.2.2.2).2, ())) := by
  refine fn_of_vc (sp := sps [srRead]) (sps_cons (fnSpec_ok fr_read) sps_nil) mixed ent_key (by decide) (by decide) ?_
  rintro w M0 ⟨⟨k, c, g, p⟩, ⟨⟩⟩
  revert k c g p
  intro (k : List Int) (c : List Int) (g : Int) (p : Int) hw hk
  have hk : Bs k := hk
  have lk : k.length = 48 := hw.1.1.1
  refine vcx (X := ((0 : Nat) + (48 : Nat) ≤ (48 : Nat) ∧ codec.preRG (List.take (48 : Nat) k, ()) ∧ (((rgo (List.take (48 : Nat) k)).snd != (0 : Int)) = true → (((0 : Fp), (0 : Fp)), (rgo (List.take (48 : Nat) k)).snd, ()) = ((keyF k g p).fst, (keyF k g p).snd, ())) ∧ (((rgo (List.take (48 : Nat) k)).snd != (0 : Int)) = false → (eqC (Kd.fp.pair Kd.fp) (rgo (List.take (48 : Nat) k)).fst ((0 : Fp), (0 : Fp)) = true → (((0 : Fp), (0 : Fp)), (15 : Int), ()) = ((keyF k g p).fst, (keyF k g p).snd, ())) ∧ (eqC (Kd.fp.pair Kd.fp) (rgo (List.take (48 : Nat) k)).fst ((0 : Fp), (0 : Fp)) = false → (decide (g < (0 : Int)) = true → (((0 : Fp), (0 : Fp)), (1 : Int), ()) = ((keyF k g p).fst, (keyF k g p).snd, ())) ∧ (decide (g < (0 : Int)) = false → (decide (g > (1099511627776 : Int)) = true → (((0 : Fp), (0 : Fp)), (1 : Int), ()) = ((keyF k g p).fst, (keyF k g p).snd, ())) ∧ (decide (g > (1099511627776 : Int)) = false → (decide (p < (1 : Int)) = true → (((0 : Fp), (0 : Fp)), (1 : Int), ()) = ((keyF k g p).fst, (keyF k g p).snd, ())) ∧ (decide (p < (1 : Int)) = false → (decide (p > (1099511627776 : Int)) = true → (((0 : Fp), (0 : Fp)), (1 : Int), ()) = ((keyF k g p).fst, (keyF k g p).snd, ())) ∧ (decide (p > (1099511627776 : Int)) = false → ((rgo (List.take (48 : Nat) k)).fst, (0 : Int), ()) = ((keyF k g p).fst, (keyF k g p).snd, ()))))))))) (by kernel_rfl) ?_
  rw [List.take_of_length_le (Nat.le_of_eq lk)]
  have t2 : ∀ {a : Prop} [Decidable a], decide a = true → a := fun h => of_decide_eq_true h
  have t3 : ∀ {a : Prop} [Decidable a], decide a = false → ¬ a := fun h => of_decide_eq_false h
  have eC : ∀ x : Fp × Fp, eqC (Kd.fp.pair Kd.fp) x ((0 : Fp), (0 : Fp)) = decide (x = (0, 0)) := fun x => by
    rw [Bool.eq_iff_iff, eqC_iff, decide_eq_true_iff]
  rw [eC]
  refine ⟨Nat.le_refl _, ⟨hk, by show k.length ≤ _; omega⟩, fun h => ?_, fun h => ⟨fun h2 => ?_, fun h2 => ⟨fun h3 => ?_, fun h3 => ⟨fun h4 => ?_, fun h4 => ⟨fun h5 => ?_, fun h5 => ⟨fun h6 => ?_, fun h6 => ?_⟩⟩⟩⟩⟩⟩
  · have h : ¬ (rgo k).2 = 0 := by simpa using h
    rw [keyF, if_neg h]
  all_goals have h : (rgo k).2 = 0 := by simpa using h
  · rw [keyF, if_pos h, if_pos (t2 h2)]
  all_goals rw [keyF, if_pos h, if_neg (t3 h2)]
  · rw [if_pos (.inl (t2 h3))]
  · rw [if_pos (.inr (.inl (t2 h4)))]
  · rw [if_pos (.inr (.inr (.inl (t2 h5))))]
  · rw [if_pos (.inr (.inr (.inr (t2 h6))))]
  · have := t3 h3
    have := t3 h4
    have := t3 h5
    have := t3 h6
    rw [if_neg (by omega)]
noncomputable def spKey : Nat × Eng.Spec := (34, fnSpec [infoK] [.val pt1, .val iK] (fun (i, _) => Bs i.1) (fun (i, _) => ((keyF i.1 i.2.2.1 i.2.2.2).1, (keyF i.1 i.2.2.1 i.2.2.2).2, ())))
/-- The answer of Due. -/
def dueF (g p n : Int) : Int := if p < 1 ∨ g < 0 ∨ n < g then 0 else IntKind.i64.wrap ((IntKind.i64.wrap (n - g)).tdiv p)
theorem ent_due : enters Tryd.prog 64 Tryd.f64 := enters_mk (by kernel_rfl) (by kernel_rfl) (by kernel_rfl)
theorem fn_due : FnOk Tryd.prog 64 [infoK, iK] [.val iK] noG (fun _ => True) (fun (i, n, _) => (dueF i.2.2.1 i.2.2.2 n, ())) := by
  refine fn_of_vc (sp := sps []) sps_nil mixed ent_due (by decide) (by decide) ?_
  rintro w M0 ⟨⟨k, c, g, p⟩, n, ⟨⟩⟩
  revert k c g p n
  intro (k : List Int) (c : List Int) (g : Int) (p : Int) (n : Int) hw _
  refine vcx (X := ((decide (p < (1 : Int)) = true → ((0 : Int), ()) = (dueF g p n, ())) ∧ (decide (p < (1 : Int)) = false → (decide (g < (0 : Int)) = true → ((0 : Int), ()) = (dueF g p n, ())) ∧ (decide (g < (0 : Int)) = false → (decide (n < g) = true → ((0 : Int), ()) = (dueF g p n, ())) ∧ (decide (n < g) = false → (p = (0 : Int) → False) ∧ (IntKind.i64.wrap ((IntKind.i64.wrap (n - g)).tdiv p), ()) = (dueF g p n, ())))))) (by kernel_rfl) ?_
  have t2 : ∀ {a : Prop} [Decidable a], decide a = true → a := fun h => of_decide_eq_true h
  have t3 : ∀ {a : Prop} [Decidable a], decide a = false → ¬ a := fun h => of_decide_eq_false h
  refine ⟨fun h => ?_, fun h => ⟨fun h2 => ?_, fun h2 => ⟨fun h3 => ?_, fun h3 => ?_⟩⟩⟩
  · rw [dueF, if_pos (.inl (t2 h))]
  · rw [dueF, if_pos (.inr (.inl (t2 h2)))]
  · rw [dueF, if_pos (.inr (.inr (t2 h3)))]
  · have := t3 h
    have := t3 h2
    have := t3 h3
    rw [dueF, if_neg (by omega)]
    exact ⟨fun e => by omega, rfl⟩
noncomputable def spDue : Nat × Eng.Spec := (64, fnSpec [infoK, iK] [.val iK] (fun _ => True) (fun (i, n, _) => (dueF i.2.2.1 i.2.2.2 n, ())))
theorem ent_new : enters Tryd.prog 66 Tryd.f66 := enters_mk (by kernel_rfl) (by kernel_rfl) (by kernel_rfl)
abbrev preNew : HL [.sl pt1] → Prop := fun (c, _) => List.length c < 1048576
def newF (c : List (Fp × Fp)) : Bool := decide (c.length ≠ 0)
theorem fn_new : FnOk Tryd.prog 66 [.sl pt1] [.val .pq] noG preNew (fun (c, _) => (newF c, ())) := by
  refine fn_of_vc (sp := sps [deal.spClone, poly.spCat]) (sps_cons (fnSpec_ok deal.fn_clone) (sps_cons (fnSpec_ok poly.fn_cat) sps_nil)) mixed ent_new (by decide) (by decide) ?_
  rintro w M0 ⟨c, ⟨⟩⟩
  revert c
  intro (c : List (Fp × Fp)) _ hc
  have hc : c.length < 1048576 := hc
  refine vcx (X := ((((↑c.length : Int) == (0 : Int)) = true → (false, ()) = (newF c, ())) ∧ (((↑c.length : Int) == (0 : Int)) = false → deal.preClone (c, ()) ∧ poly.preCat (c, (0 : Int), ()) ∧ (true, ()) = (newF c, ())))) (by kernel_rfl) ?_
  refine ⟨fun h => ?_, fun h => ⟨hc, ⟨by show c.length < _; omega, by decide⟩, ?_⟩⟩
  · have h : (c.length : Int) = 0 := eq_of_beq h
    rw [newF, decide_eq_false (by omega)]
  · have h : ¬ (c.length : Int) = 0 := fun e => by rw [e] at h; cases h
    rw [newF, decide_eq_true (by omega)]
noncomputable def spNew : Nat × Eng.Spec := (66, fnSpec [.sl pt1] [.val .pq] preNew (fun (c, _) => (newF c, ())))
theorem ent_text : enters Tryd.prog 65 Tryd.f65 := enters_mk (by kernel_rfl) (by kernel_rfl) (by kernel_rfl)
noncomputable def txS (g : Int × List Int) (k : Nat) : Int × List Int := (g.1.fdiv (2 ^ min (8 : Nat) IntKind.u64.bits), g.2.set (7 - k) (IntKind.u8.wrap g.1))
noncomputable def txK (n : Int) : Nat → Int × List Int
  | 0 => (IntKind.u64.wrap n, List.replicate 8 0)
  | k + 1 => txS (txK n k) k
noncomputable def txt (c : List Int) (n : Int) : List Int := opq (sha.dig (List.flatten [c, (txK n 8).2]))
noncomputable def txI (c : List Int) (g : Int × Int × List Int) : St := mkSt Tryd.f65.ntmps 40 [(0, .is (.one (.ro (.int .u8) c))), (5, .is (.one (.ptr 8 0))), (6, sI .u64 g.2.1), (7, sI .i64 g.1)] [(8, [.ints .u8 8 g.2.2])]
noncomputable def txO (c : List Int) (g : List Int) : St := mkSt Tryd.f65.ntmps 40 [(0, .is (.one (.ro (.int .u8) c))), (5, .is (.one (.ptr 8 0)))] [(8, [.ints .u8 8 g])]
theorem txK_len (n : Int) : ∀ k, (txK n k).2.length = 8
  | 0 => List.length_replicate
  | k + 1 => by show (List.set _ _ _).length = 8; rw [List.length_set, txK_len n k]
abbrev preTx : HL [b8, iK] → Prop := fun (c, _, _) => List.length c ≤ 1000
theorem fn_text : FnOk Tryd.prog 65 [b8, iK] [.own (.int .u8)] sha.shaG preTx (fun (c, n, _) => (txt c n, ())) := by
  have hsp : SpecsOk Tryd.prog (sps [sha.spOf]) := sps_cons (fnSpecG_ok sha.fn_of) sps_nil
  refine fn_of_tr (sp := sps [sha.spOf]) ent_text (by decide) (by decide) (by kernel_rfl) ?_
  rintro w M0 ⟨c, n, ⟨⟩⟩
  revert c n
  intro (c : List Int) (n : Int) _ hc
  have hc : c.length ≤ 1000 := hc
  show Tr _ _ _ _ _ _ _
  refine tr_cut hsp mixed 4 (txI c (7, IntKind.u64.wrap n, List.replicate 8 0)) True ?_ (fun _ => ?_)
  · refine vcx (X := ((txI c ((7 : Int), IntKind.u64.wrap n, List.replicate (8 : Nat) (0 : Int))).triv True)) (by kernel_rfl) ?_
    exact triv_intro trivial
  refine tr_while hsp mixed noSw (fun σ => (rdS (.int .i64) 7 σ, rdS (.int .u64) 6 σ, rdR (.int .u8) 8 σ)) (txI c) (fun g => ∃ k : Nat, k ≤ 8 ∧ g.1 = 7 - (k : Int) ∧ g.2.1 = (txK n k).1 ∧ g.2.2 = (txK n k).2) (fun g => (g.1 + 1).toNat)
    (fun σ => rdR (.int .u8) 8 σ) (txO c) (fun g => g = (txK n 8).2) (7, IntKind.u64.wrap n, List.replicate 8 0) (c := nthC (codeOf Tryd.f65) 4) (by kernel_rfl) (by kernel_rfl) (le_of_proj (by kernel_rfl) (by kernel_rfl) ?_) ?_ ?_
  · exact ⟨0, by decide, rfl, rfl, rfl⟩
  · rintro ⟨i, u, xs⟩ hj
    revert i u xs
    intro (i : Int) (u : Int) (xs : List Int) ⟨k, hk, ei, eu, ex⟩
    have ki : i = 7 - (k : Int) := ei
    have ku : u = (txK n k).1 := eu
    have kx : xs = (txK n k).2 := ex
    refine vcx (X := ((decide (i ≥ (0 : Int)) = true → ((0 : Int) ≤ i ∧ i < (↑(8 : Nat) : Int)) ∧ i.toNat < (8 : Nat) ∧ (0 : Int) ≤ (8 : Int) ∧ (txI c (IntKind.i64.wrap (i - (1 : Int)), u.fdiv ((2 : Int) ^ min (8 : Nat) IntKind.u64.bits), xs.set i.toNat (IntKind.u8.wrap u))).triv ((∃ k, k ≤ (8 : Nat) ∧ IntKind.i64.wrap (i - (1 : Int)) = (7 : Car (Kd.int IntKind.i64)) - (↑k : Int) ∧ u.fdiv ((2 : Int) ^ min (8 : Nat) IntKind.u64.bits) = (txK n k).fst ∧ xs.set i.toNat (IntKind.u8.wrap u) = (txK n k).snd) ∧ Int.toNat (IntKind.i64.wrap (i - (1 : Int)) + (1 : Car (Kd.int IntKind.i64))) < Int.toNat (i + (1 : Car (Kd.int IntKind.i64))))) ∧ (decide (i ≥ (0 : Int)) = false → (txO c xs).triv (xs = (txK n (8 : Nat)).snd)))) (by kernel_rfl) ?_
    refine ⟨fun h => ?_, fun h => triv_intro ?_⟩
    · have h0 : 0 ≤ i := of_decide_eq_true h
      have ei2 : i.toNat = 7 - k := by omega
      rw [wrap_i64' (by omega) (by omega), ei2, ku, kx]
      exact ⟨⟨by omega, by omega⟩, by omega, by decide, triv_intro ⟨⟨k + 1, by omega, by show i - 1 = _; omega, rfl, rfl⟩, by show (i - 1 + 1).toNat < (i + 1).toNat; omega⟩⟩
    · have h0 : ¬ 0 ≤ i := of_decide_eq_false h
      have hk8 : k = 8 := by omega
      rw [kx, hk8]
  intro (xs : List Int) (hx : xs = (txK n 8).2)
  refine tr_vc hsp mixed _ _ ?_
  refine vcx (X := ((∀ (g : Nat) (s : Sigma Car), sha.shaG g = some s → Decidable.rec (fun h => (fun x => if g = (1 : Nat) then some ⟨Kd.arr (64 : Nat) sha.uK, sha.rootsL⟩ else none) h) (fun h => (fun x => some ⟨Kd.arr (8 : Nat) sha.uK, sha.firstL⟩) h) (instDecidableEqNat g (0 : Nat)) = some s) ∧ (0 : Nat) + (8 : Nat) ≤ (8 : Nat) ∧ sha.preOf ([c, List.take (8 : Nat) xs], ()) ∧ (0 : Nat) + (32 : Nat) ≤ (32 : Nat) ∧ (List.take (32 : Nat) (sha.dig [c, List.take (8 : Nat) xs].flatten), ()) = (txt c n, ()))) (by kernel_rfl) ?_
  have l8 : xs.length = 8 := by rw [hx]; exact txK_len n 8
  rw [List.take_of_length_le (Nat.le_of_eq l8), List.take_of_length_le (l := sha.dig _) (Nat.le_of_eq (sha.dig_len _))]
  refine ⟨fun _ _ h => h, Nat.le_refl _, ⟨?_, by show 2 ≤ _; decide⟩, Nat.le_refl _, ?_⟩
  · show (List.flatten [c, xs]).length ≤ 1099511627776
    simp only [List.flatten_cons, List.flatten_nil, List.length_append, List.length_nil]
    omega
  · rw [txt, opq_eq, hx]
noncomputable def spText : Nat × Eng.Spec := (65, fnSpecG sha.shaG [b8, iK] [.own (.int .u8)] preTx (fun (c, n, _) => (txt c n, ())))
theorem txt_len (c : List Int) (n : Int) : (txt c n).length = 32 := by rw [txt, opq_eq]; exact sha.dig_len _
end Go.Proofs.YtbfimfdhmggieaaDoor.beacon
/- law24: head, BeaconKeys. -/
namespace Go.Proofs.YtbfimfdhmggieaaDoor.law24
set_option maxRecDepth 100000
open Go Go.Eng Go.RowKit Cr Go.Proofs.YtbfimfdhmggieaaDoor Go.Proofs.YtbfimfdhmggieaaDoor.beacon
theorem dueF_1 : dueF 100 10 109 = 0 := by decide
theorem dueF_2 : dueF 100 10 110 = 1 := by decide
theorem dueF_3 : dueF 100 10 135 = 3 := by decide
theorem setBs {b : List Int} (h : Bs b) {x : Int} (hx : 0 ≤ x ∧ x < 256) (i : Nat) : Bs (b.set i x) := by
  intro y hy
  rcases List.mem_or_eq_of_mem_set hy with hy | hy
  · exact h y hy
  · rw [hy]; exact hx
theorem u8_bd (y : Int) : 0 ≤ IntKind.u8.wrap y ∧ IntKind.u8.wrap y < 256 := by
  simp [IntKind.wrap, IntKind.signed, IntKind.bits]; omega
theorem ent_head : enters Tryd.prog 28 Tryd.f28 := enters_mk (by kernel_rfl) (by kernel_rfl) (by kernel_rfl)
theorem fn_head : FnOk Tryd.prog 28 [] [.val .bool] sha.shaG (fun _ => True) (fun _ => (true, ())) := by
  refine fn_of_vc (sp := sps [spDue, spText, spNew, g1.soGen]) (sps_cons (fnSpec_ok fn_due) (sps_cons (fnSpecG_ok fn_text) (sps_cons (fnSpec_ok fn_new) (sps_cons (fnSpec_ok g1.fo_gen) sps_nil)))) mixed ent_head (by decide) (by decide) ?_
  rintro w M0 ⟨⟩ _ _
  refine vcx (X := (True ∧ ((dueF (100 : Int) (10 : Int) (109 : Int) == (0 : Int)) = true → True ∧ ((dueF (100 : Int) (10 : Int) (110 : Int) == (1 : Int)) = true → True ∧ ((dueF (100 : Int) (10 : Int) (135 : Int) == (3 : Int)) = true → (∀ (g : Nat) (s : Sigma Car), sha.shaG g = some s → Decidable.rec (fun h => (fun x => if g = (1 : Nat) then some ⟨Kd.arr (64 : Nat) sha.uK, sha.rootsL⟩ else none) h) (fun h => (fun x => some ⟨Kd.arr (8 : Nat) sha.uK, sha.firstL⟩) h) (instDecidableEqNat g (0 : Nat)) = some s) ∧ preTx ([], (1 : Int), ()) ∧ (((↑(txt [] (1 : Int)).length : Int) == (32 : Int)) = true → preNew ([], ()) ∧ ((!newF []) = true → True ∧ (0 : Nat) + (1 : Nat) ≤ (1 : Nat) ∧ preNew (List.take (1 : Nat) [g1.gG], ()) ∧ (newF (List.take (1 : Nat) [g1.gG]), ()) = (true, ())) ∧ ((!newF []) = false → (false, ()) = (true, ()))) ∧ (((↑(txt [] (1 : Int)).length : Int) == (32 : Int)) = false → (false, ()) = (true, ()))) ∧ ((dueF (100 : Int) (10 : Int) (135 : Int) == (3 : Int)) = false → (false, ()) = (true, ()))) ∧ ((dueF (100 : Int) (10 : Int) (110 : Int) == (1 : Int)) = false → (false, ()) = (true, ()))) ∧ ((dueF (100 : Int) (10 : Int) (109 : Int) == (0 : Int)) = false → (false, ()) = (true, ())))) (by kernel_rfl) ?_
  rw [txt_len, dueF_1, dueF_2, dueF_3]
  have no : ∀ {P : Prop} {b : Bool}, b = true → b = false → P := fun h k => by rw [h] at k; cases k
  exact ⟨trivial, fun _ => ⟨trivial, fun _ => ⟨trivial, fun _ => ⟨fun _ _ h => h, (by show 0 ≤ _; decide), fun _ => ⟨(by show 0 < _; decide), fun _ => ⟨trivial, by decide, (by show 1 < _; decide), rfl⟩, no (by decide)⟩, no (by decide)⟩, no (by decide)⟩, no (by decide)⟩, no (by decide)⟩
noncomputable def spHead : Nat × Eng.Spec := (28, fnSpecG sha.shaG [] [.val .bool] (fun _ => True) (fun _ => (true, ())))
noncomputable def k48 (p : Fp × Fp) : List Int := opq (codec.g1b p)
theorem fo_g1 : FnOk Tryd.prog 32 [pt1] [.val (.arr 48 (.int .u8))] noG (fun _ => True) (fun (p, _) => (k48 p, ())) := codec.fn_g1.out fun (p, _) => by show (k48 p, ()) = (codec.g1b p, ()); rw [k48, opq_eq]
noncomputable def soG1 : Nat × Eng.Spec := (32, fnSpec [pt1] [.val (.arr 48 (.int .u8))] (fun _ => True) (fun (p, _) => (k48 p, ())))
theorem k48_ok (p : Fp × Fp) : Bs (k48 p) ∧ (k48 p).length = 48 := by
  rw [k48, opq_eq, codec.g1b]
  refine ⟨setBs (bytesN_Bs _ _) (u8_bd _) 0, ?_⟩
  rw [List.length_set, bytesN_length]
theorem ent_keys : enters Tryd.prog 6 Tryd.f6 := enters_mk (by kernel_rfl) (by kernel_rfl) (by kernel_rfl)
noncomputable def kyA (g p : Int) (K : List Int) : St := mkSt Tryd.f6.ntmps 160 [(2, sI .i64 g), (3, sI .i64 p), (10, .is (.one (.ptr 144 0)))] [(144, [.ints .u8 48 K, .ints .u8 32 (List.replicate 32 0), .v (.int .i64 g), .v (.int .i64 p)])]
theorem fn_keys : FnOk Tryd.prog 6 [b8, iK, iK, iK] [.val .bool] sha.shaG (fun (b, i, g, p, _) => preB b ∧ preI i ∧ preI g ∧ preI p) (fun _ => (true, ())) := by
  have hsp : SpecsOk Tryd.prog (sps [spHead, g1.soGen, ref01.spCopy, fr.spWide, g1.soMul, soG1, srRead, spKey]) := sps_cons (fnSpecG_ok fn_head) (sps_cons (fnSpec_ok g1.fo_gen) (sps_cons (fnSpec_ok ref01.fn_copy) (sps_cons (fnSpec_ok fr.fn_wide) (sps_cons (fnSpec_ok g1.fo_mul) (sps_cons (fnSpec_ok fo_g1) (sps_cons (fnSpec_ok fr_read) (sps_cons (fnSpec_ok fn_key) sps_nil)))))))
  refine fn_of_tr (sp := sps [spHead, g1.soGen, ref01.spCopy, fr.spWide, g1.soMul, soG1, srRead, spKey]) ent_keys (by decide) (by decide) (by kernel_rfl) ?_
  rintro w M0 ⟨b, i, g, p, ⟨⟩⟩
  revert b i g p
  intro (b : List Int) (i : Int) (g : Int) (p : Int) _ hp
  obtain ⟨hb, hi, hg, hpp⟩ := hp
  have hb2 : b.length ≤ 281474976710656 := hb.2
  show Tr _ _ _ _ _ _ _
  refine tr_cutF hsp mixed 9 (fun σ => rdB (.arr 48 (.int .u8)) 144 σ) (kyA g p) (fun K => Bs K ∧ K.length = 48) ?_ ?_
  · refine vcx (X := ((∀ (g : Nat) (s : Sigma Car), sha.shaG g = some s → Decidable.rec (fun h => (fun x => if g = (1 : Nat) then some ⟨Kd.arr (64 : Nat) sha.uK, sha.rootsL⟩ else none) h) (fun h => (fun x => some ⟨Kd.arr (8 : Nat) sha.uK, sha.firstL⟩) h) (instDecidableEqNat g (0 : Nat)) = some s) ∧ True ∧ ((!true) = true → (false, ()) = (true, ())) ∧ ((!true) = false → (decide ((↑b.length : Int) > (100 : Int)) = true → (true, ()) = (true, ())) ∧ (decide ((↑b.length : Int) > (100 : Int)) = false → True ∧ ref01.preCopy (b, ()) ∧ (0 : Nat) + b.length ≤ b.length ∧ fr.preWide (List.take b.length b, ()) ∧ True ∧ True ∧ (decide (i ≥ (0 : Int)) = true → (decide (i < (48 : Int)) = true → ((0 : Int) ≤ i ∧ i < (↑(48 : Nat) : Int)) ∧ i.toNat < (48 : Nat) ∧ ((0 : Int) ≤ i ∧ i < (↑(48 : Nat) : Int)) ∧ i.toNat < (48 : Nat) ∧ (kyA g p ((k48 (g1.gmul g1.gG (zmr (num (List.take b.length b)))), ()).fst.set i.toNat (bitOp BinOp.xor IntKind.u8 ((k48 (g1.gmul g1.gG (zmr (num (List.take b.length b)))), ()).fst.getD i.toNat (0 : Int)) (1 : Int)))).triv (Bs ((k48 (g1.gmul g1.gG (zmr (num (List.take b.length b))))).set i.toNat (bitOp BinOp.xor IntKind.u8 ((k48 (g1.gmul g1.gG (zmr (num (List.take b.length b))))).getD i.toNat (0 : Int)) (1 : Int))) ∧ ((k48 (g1.gmul g1.gG (zmr (num (List.take b.length b))))).set i.toNat (bitOp BinOp.xor IntKind.u8 ((k48 (g1.gmul g1.gG (zmr (num (List.take b.length b))))).getD i.toNat (0 : Int)) (1 : Int))).length = (48 : Nat))) ∧ (decide (i < (48 : Int)) = false → (kyA g p (k48 (g1.gmul g1.gG (zmr (num (List.take b.length b)))), ()).fst).triv (Bs (k48 (g1.gmul g1.gG (zmr (num (List.take b.length b))))) ∧ (k48 (g1.gmul g1.gG (zmr (num (List.take b.length b))))).length = (48 : Nat)))) ∧ (decide (i ≥ (0 : Int)) = false → (kyA g p (k48 (g1.gmul g1.gG (zmr (num (List.take b.length b)))), ()).fst).triv (Bs (k48 (g1.gmul g1.gG (zmr (num (List.take b.length b))))) ∧ (k48 (g1.gmul g1.gG (zmr (num (List.take b.length b))))).length = (48 : Nat))))))) (by kernel_rfl) ?_
    have pc : ref01.preCopy (b, ()) := by show b.length ≤ _; omega
    rw [List.take_length]
    generalize g1.gmul g1.gG (zmr (num b)) = Q
    obtain ⟨q1, q2⟩ := k48_ok Q
    refine ⟨fun _ _ h => h, trivial, (fun h => by cases h), fun _ => ⟨fun _ => rfl, fun h => ⟨trivial, pc, by omega, ⟨hb.1, by show b.length < _; omega⟩, trivial, trivial, fun h1 => ⟨fun h2 => ?_, fun _ => triv_intro ⟨q1, q2⟩⟩, fun _ => triv_intro ⟨q1, q2⟩⟩⟩⟩
    have h1 : 0 ≤ i := of_decide_eq_true h1
    have h2 : i < 48 := of_decide_eq_true h2
    exact ⟨⟨h1, by omega⟩, by omega, ⟨h1, by omega⟩, by omega, triv_intro ⟨setBs q1 (u8_bd _) _, by rw [List.length_set]; exact q2⟩⟩
  intro (K : List Int) ⟨bK, lK⟩
  have bK : Bs K := bK
  have lK : K.length = 48 := lK
  refine tr_vc hsp mixed _ _ ?_
  refine vcx (X := ((0 : Nat) + (48 : Nat) ≤ (48 : Nat) ∧ ref01.preCopy (List.take (48 : Nat) K, ()) ∧ (0 : Nat) + (List.take (48 : Nat) K).length ≤ (List.take (48 : Nat) K).length ∧ codec.preRG (List.take (List.take (48 : Nat) K).length (List.take (48 : Nat) K), ()) ∧ Bs K ∧ (((rgo (List.take (List.take (48 : Nat) K).length (List.take (48 : Nat) K))).snd != (0 : Int)) = true → (((keyF K g p).snd == (rgo (List.take (List.take (48 : Nat) K).length (List.take (48 : Nat) K))).snd) = true → (eqC (Kd.fp.pair Kd.fp) (keyF K g p).fst ((0 : Fp), (0 : Fp)), ()) = (true, ())) ∧ (((keyF K g p).snd == (rgo (List.take (List.take (48 : Nat) K).length (List.take (48 : Nat) K))).snd) = false → (false, ()) = (true, ()))) ∧ (((rgo (List.take (List.take (48 : Nat) K).length (List.take (48 : Nat) K))).snd != (0 : Int)) = false → (eqC (Kd.fp.pair Kd.fp) (rgo (List.take (List.take (48 : Nat) K).length (List.take (48 : Nat) K))).fst ((0 : Fp), (0 : Fp)) = true → ((keyF K g p).snd == (15 : Int), ()) = (true, ())) ∧ (eqC (Kd.fp.pair Kd.fp) (rgo (List.take (List.take (48 : Nat) K).length (List.take (48 : Nat) K))).fst ((0 : Fp), (0 : Fp)) = false → (decide (g < (0 : Int)) = true → (((keyF K g p).snd == (1 : Int)) = true → (eqC (Kd.fp.pair Kd.fp) (keyF K g p).fst ((0 : Fp), (0 : Fp)), ()) = (true, ())) ∧ (((keyF K g p).snd == (1 : Int)) = false → (false, ()) = (true, ()))) ∧ (decide (g < (0 : Int)) = false → (decide (g > (1099511627776 : Int)) = true → (((keyF K g p).snd == (1 : Int)) = true → (eqC (Kd.fp.pair Kd.fp) (keyF K g p).fst ((0 : Fp), (0 : Fp)), ()) = (true, ())) ∧ (((keyF K g p).snd == (1 : Int)) = false → (false, ()) = (true, ()))) ∧ (decide (g > (1099511627776 : Int)) = false → (decide (p < (1 : Int)) = true → (((keyF K g p).snd == (1 : Int)) = true → (eqC (Kd.fp.pair Kd.fp) (keyF K g p).fst ((0 : Fp), (0 : Fp)), ()) = (true, ())) ∧ (((keyF K g p).snd == (1 : Int)) = false → (false, ()) = (true, ()))) ∧ (decide (p < (1 : Int)) = false → (decide (p > (1099511627776 : Int)) = true → (((keyF K g p).snd == (1 : Int)) = true → (eqC (Kd.fp.pair Kd.fp) (keyF K g p).fst ((0 : Fp), (0 : Fp)), ()) = (true, ())) ∧ (((keyF K g p).snd == (1 : Int)) = false → (false, ()) = (true, ()))) ∧ (decide (p > (1099511627776 : Int)) = false → (((keyF K g p).snd == (0 : Int)) = true → (eqC (Kd.fp.pair Kd.fp) (keyF K g p).fst (rgo (List.take (List.take (48 : Nat) K).length (List.take (48 : Nat) K))).fst, ()) = (true, ())) ∧ (((keyF K g p).snd == (0 : Int)) = false → (false, ()) = (true, ())))))))))) (by kernel_rfl) ?_
  rw [List.take_of_length_le (Nat.le_of_eq lK), List.take_length]
  have eC : ∀ x y : Fp × Fp, eqC (Kd.fp.pair Kd.fp) x y = decide (x = y) := fun x y => by
    rw [Bool.eq_iff_iff, eqC_iff, decide_eq_true_iff]
  have t2 : ∀ {a : Prop} [Decidable a], decide a = true → a := fun h => of_decide_eq_true h
  have t3 : ∀ {a : Prop} [Decidable a], decide a = false → ¬ a := fun h => of_decide_eq_false h
  simp only [eC]
  have no : ∀ {P : Prop} {b : Bool}, b = true → b = false → P := fun h k => by rw [h] at k; cases k
  refine ⟨Nat.le_refl _, (by show K.length ≤ _; omega), by omega, ⟨bK, by show K.length ≤ _; omega⟩, bK, fun h => ?_, fun h => ⟨fun h2 => ?_, fun h2 => ⟨fun h3 => ?_, fun h3 => ⟨fun h4 => ?_, fun h4 => ⟨fun h5 => ?_, fun h5 => ⟨fun h6 => ?_, fun h6 => ?_⟩⟩⟩⟩⟩⟩
  · have h : ¬ (rgo K).2 = 0 := by simpa using h
    rw [keyF, if_neg h]
    exact ⟨fun _ => by rw [decide_eq_true rfl], fun k => by simp at k⟩
  all_goals have h : (rgo K).2 = 0 := by simpa using h
  · rw [keyF, if_pos h, if_pos (t2 h2)]; rfl
  all_goals rw [keyF, if_pos h, if_neg (t3 h2)]
  · rw [if_pos (.inl (t2 h3))]
    exact ⟨fun _ => by rw [decide_eq_true rfl], no rfl⟩
  · rw [if_pos (.inr (.inl (t2 h4)))]
    exact ⟨fun _ => by rw [decide_eq_true rfl], no rfl⟩
  · rw [if_pos (.inr (.inr (.inl (t2 h5))))]
    exact ⟨fun _ => by rw [decide_eq_true rfl], no rfl⟩
  · rw [if_pos (.inr (.inr (.inr (t2 h6))))]
    exact ⟨fun _ => by rw [decide_eq_true rfl], no rfl⟩
  · have := t3 h3
    have := t3 h4
    have := t3 h5
    have := t3 h6
    rw [if_neg (by omega)]
    exact ⟨fun _ => by rw [decide_eq_true rfl], no rfl⟩
end Go.Proofs.YtbfimfdhmggieaaDoor.law24
/- From a contract to a law's row where package variables read as listed. -/
namespace Go.Eng
open Go Go.RowKit Cr Go.ChangeShapes Go.WideShapes Go.ChangeAt
/-- An array of integers that reads as these. -/
theorem laid_ints {P : Program} {t e : TypeId} {n : Nat} {k : IntKind} {H : Type} {enc : TypeId × Value → H} {W : World} {fl : Bool} {fuel : Nat} {cs : List Value} {p : List MemPlace} {xs : List Int} (ht : P.underlying t = some (.array n e)) (he : P.underlying e = some (.int k)) (hce : P.cellsOf e = 1) (hct : P.cellsOf t = n)
    (h : DataW.trod enc P W 0 (fun _ => true) fl fuel t cs = some (.agg (xs.map fun x => .lit (.int k x)), p)) : cs = xs.map (Value.int k) := by
  obtain ⟨ys, m, rfl, hx, hlen, hn, hel⟩ := DataW.trod_array ht h
  simp only [Prod.mk.injEq, DataW.agg.injEq] at hx
  obtain ⟨hx, _⟩ := hx
  have hxl : xs.length = n := by
    have := congrArg List.length hx
    simpa [hn] using this
  refine List.ext_getElem (by rw [hlen, hct, List.length_map, hxl]) fun i h1 h2 => ?_
  have hin : i < n := by rw [hlen, hct] at h1; exact h1
  have h3 := hel i hin
  rw [hce, Nat.mul_one, List.getElem?_eq_getElem (by omega)] at h3
  obtain ⟨z, e1, e2, _⟩ := DataW.trod_int he h3
  have e3 : (cs.drop i).take 1 = [cs[i]] := by rw [List.drop_eq_getElem_cons h1]; rfl
  rw [e3] at e1
  simp only [List.cons.injEq, and_true] at e1
  have h4 : (xs.map fun x => (DataW.lit (.int k x) : DataW H))[i]? = (ys.map (·.1))[i]? := by rw [hx]
  rw [List.getElem?_map, List.getElem?_map, List.getElem?_eq_getElem (by omega), List.getElem?_eq_getElem (by omega)] at h4
  simp only [Option.map_some, Option.some.injEq] at h4
  rw [e2] at h4
  simp only [DataW.lit.injEq, Lit.int.injEq, true_and] at h4
  rw [e1, List.getElem_map, h4]
/-- What a listed table is in memory. -/
theorem laid_row {P : Program} {W : World} {nm : String} {g n : Nat} {k : IntKind} {cs : Array Value} {xs : List Int} (hg : P.globalNamed nm = some g) (hv : W.var? P nm = some cs) (hcs : cs.toList = xs.map (Value.int k)) (hx : xs.length = n) : RowAt (Rd (memOf W) (.arr n (.int k))) (width (.arr n (.int k))) (memOf W) g 0 [xs] := by
  have hh : ∃ el fr, W.heap[g]? = some (.cells cs el fr) := by
    simp only [World.var?, hg, Option.bind_some] at hv
    split at hv
    · rename_i c el fr hh
      simp only [Option.some.injEq] at hv
      subst hv
      exact ⟨el, fr, hh⟩
    · cases hv
  obtain ⟨el, fr, hh⟩ := hh
  obtain ⟨l⟩ := cs
  have hcs : l = xs.map (Value.int k) := hcs
  refine ⟨l, memOf_blk hh, ?_, ?_⟩
  · simp [width, hcs, hx]
  · rw [List.drop_zero, List.take_of_length_le (by simp [width, hcs, hx])]
    exact RdL_one ⟨hx, RdL_int.2 hcs⟩
/-- A law: true; its arguments read as they did; package variables are what G says. -/
theorem law_rowG {C : Checked} {f : FuncId} {fn : Func} {s : ChangeSpec} {bt : TypeId} {ts : List TypeId} {ks : List Kd} {pre pre' : HL ks → Prop} {H : Type} {enc : TypeId × Value → H} {G : Glob}
    (he : enters C.prog f fn) (hf : FnOk C.prog f ks [.val .bool] G pre (fun _ => (true, ()))) (hl : laidOutB C.prog = true) (hts : fn.params.toList = ts) (hrs : fn.resultTypes = #[bt]) (hbt : C.prog.underlying bt = some .bool)
    (ho : OpnL C.prog ts ks pre') (hpre : ∀ xs, pre' xs → pre xs) (hv : s.vars = []) (hs : ∀ ds : List (DataW H), ds.length = ts.length → s.fn H ds = { results := [.lit (.bool true)], args := ds })
    (W : World) (hG : GlOk G (memOf W)) (base : Nat) (args : Array Value) (ds gs : List (DataW H)) (before : List MemPlace)
    (hok : ∀ (j : Nat) t v, fn.params[j]? = some t → args[j]? = some v → Value.okWide C.prog W .any base t v)
    (hW : DataW.Whole enc C.prog fn.params.toList s.vars false W args.toList ds gs before)
    (hsz : (DataW.weightsEach C.prog (fn.params.toList ++ s.plain.varTypes C.prog) (ds ++ gs)).all (· ≤ reachBytes) = true) :
    Calls C.prog f args W fun e W' => ∃ v, e = .returned v ∧ s.post enc C.prog fn false true false false W args v W' := by
  have hW' := hW
  have hlt : ∀ x ∈ before, x.block < W.heap.size := fun x hx => by simpa using hW'.lt x hx
  obtain ⟨p, q, hA, hV, rfl, hfz, hnd⟩ := hW
  rw [hv] at hV
  obtain ⟨rfl, rfl⟩ := trodVars_none hV
  rw [hts] at hA
  have hlen : ds.length = ts.length := by
    exact trodAll_len hA
  have hwt : ∀ n ∈ DataW.weightsEach C.prog ts ds, n ≤ reachBytes := by
    intro n hn
    have e : s.plain.varTypes C.prog = [] := by simp [DataSpec.varTypes, ChangeSpec.plain, hv]
    rw [e, hts, List.append_nil, List.append_nil, List.all_eq_true] at hsz
    simpa using hsz n hn
  obtain ⟨xs, hin, hp⟩ := opnL_open ho (enc := enc) (W := W) (base := base) (vs := args.toList) (ds := ds) (p := p) (fun j t v ht hj => hok j t v (by rw [← hts] at ht; simpa using ht) (by simpa using hj)) hA hwt
  have hc := hf W (memOf W) args.toList xs (fun b l h => h) hG hin (hpre xs hp)
  refine (callOk_calls he hc).mono ?_
  rintro e W' ⟨v, rfl, vs, ob, rfl, ⟨v, vs', rfl, hv1, rfl⟩, hb⟩
  have hv1 : v = .bool true := by have h : [v] = [Value.bool true] := hv1; simpa using h
  subst hv1
  refine ⟨_, rfl, ds, [], p ++ [], [], p, [], hW', ?_, ?_, ?_, ?_, fun h => by cases h⟩
  · rw [hrs, List.append_nil, hs ds hlen]
    exact trodAll_mk1 (shut_bool hbt true)
  · rw [hts, List.append_nil, hs ds hlen]
    exact opnL_stays hl ho hb hA (fun x hx => hlt x (by simpa using hx))
  · rw [hv, List.append_nil, hs ds hlen]
    rfl
  · exact hb.frame _
end Go.Eng
/- sha's tables as the card's rows list them. -/
namespace Go.Proofs.YtbfimfdhmggieaaDoor.sha
set_option maxRecDepth 100000
open Go Go.Eng Go.RowKit Cr Go.Proofs.YtbfimfdhmggieaaDoor
abbrev shaLaid : List (String × DataW Unit) := [("cresset/sha.first", Rows.laid_cresset_sha_first), ("cresset/sha.roots", Rows.laid_cresset_sha_roots)]
theorem gFirst : Tryd.prog.globalNamed "cresset/sha.first" = some 0 := by kernel_rfl
theorem gRoots : Tryd.prog.globalNamed "cresset/sha.roots" = some 1 := by kernel_rfl
theorem tFirst : (Tryd.prog.globals[0]?).map (·.type) = some 77 := by kernel_rfl
theorem tRoots : (Tryd.prog.globals[1]?).map (·.type) = some 171 := by kernel_rfl
/-- What the condition says of memory. -/
theorem sha_glob {W : World} (h : laidMetH Tryd.prog shaLaid W) : GlOk shaG (memOf W) := by
  rw [MakeChecks.laidMetH_plain _ _ _ (by kernel_rfl)] at h
  obtain ⟨ps, ⟨g0, t0, cs0, f0, p0, q0, hg0, ht0, hv0, hd0, ⟨g1, t1, cs1, f1, p1, q1, hg1, ht1, hv1, hd1, _, _⟩, _⟩, _, _⟩ := h
  obtain rfl := Option.some.inj (gFirst.symm.trans hg0)
  obtain rfl := Option.some.inj (gRoots.symm.trans hg1)
  obtain rfl := Option.some.inj (tFirst.symm.trans ht0)
  obtain rfl := Option.some.inj (tRoots.symm.trans ht1)
  have e0 : (Rows.laid_cresset_sha_first : DataW Unit) = .agg (firstL.map fun x => .lit (.int .u32 x)) := rfl
  have e1 : (Rows.laid_cresset_sha_roots : DataW Unit) = .agg (rootsL.map fun x => .lit (.int .u32 x)) := rfl
  rw [e0] at hd0
  rw [e1] at hd1
  have c0 := laid_ints (e := 76) (n := 8) (k := .u32) (by kernel_rfl) (by kernel_rfl) (by kernel_rfl) (by kernel_rfl) hd0
  have c1 := laid_ints (e := 76) (n := 64) (k := .u32) (by kernel_rfl) (by kernel_rfl) (by kernel_rfl) (by kernel_rfl) hd1
  have r0 := laid_row hg0 hv0 c0 (n := 8) rfl
  have r1 := laid_row hg1 hv1 c1 (n := 64) rfl
  intro g e x hx
  unfold shaG at hx
  split at hx
  · rename_i hg
    subst hg
    simp only [Option.some.injEq] at hx
    cases hx
    exact r0
  · split at hx
    · rename_i hg
      subst hg
      simp only [Option.some.injEq] at hx
      cases hx
      exact r1
    · cases hx
/-- The door's own heap meets the condition. -/
theorem door_met (os : Os) (args : Array Value) : laidMetH Tryd.prog shaLaid ((World.doorLaid Tryd.prog 400 os).forCall (fun _ _ => 0) ⟨#[], args, []⟩).memory :=
  laidMetH_of_parts3 (fuel := 8) (laidMet_of_run' 8 (by kernel_rfl) (by kernel_rfl)) (by kernel_rfl) (by kernel_rfl)
end Go.Proofs.YtbfimfdhmggieaaDoor.sha
namespace Go.Proofs.YtbfimfdhmggieaaDoor
set_option maxRecDepth 100000
open Go Go.Eng Go.RowKit Cr Go.ChangeShapes Go.WideShapes Go.ChangeAt

namespace beaconKeys
theorem own : ownKnob Tryd.prog.godebug = none := by kernel_rfl
theorem laidOut : laidOutB Tryd.prog = true := by kernel_rfl
abbrev wtB : Car bsl → Prop := fun ys => List.length ys * Tryd.prog.bytesOf 5 ≤ reachBytes ∧ ∀ y ∈ ys, (Lit.int .u8 y).wf = true
theorem oB : OpnV Tryd.prog 22 bsl wtB := opnV_slice (e := 5) (by kernel_rfl) (by kernel_rfl) (by decide) (opnC_int (by kernel_rfl))
theorem bytes5 : Tryd.prog.bytesOf 5 = 1 := by kernel_rfl
theorem pB {xs : List Int} (h : wtB xs) : preB xs := by
  obtain ⟨h1, h2⟩ := h
  rw [bytes5] at h1
  refine ⟨fun x hx => ?_, ?_⟩
  · have := h2 x hx
    simp [Lit.wf, IntKind.min, IntKind.max, IntKind.signed, IntKind.bits] at this
    omega
  · show List.length xs ≤ _
    simp only [reachBytes] at h1
    omega
abbrev wtI : Car (.int .i64) → Prop := fun x => (Lit.int .i64 x).wf = true
theorem oI : OpnV Tryd.prog 3 (.int .i64) wtI := opnV_int (by kernel_rfl)
theorem pI {x : Int} (h : wtI x) : preI x := by
  have : (Lit.int .i64 x).wf = true := h
  simp [Lit.wf, IntKind.min, IntKind.max, IntKind.signed, IntKind.bits] at this
  exact ⟨by omega, by omega⟩
theorem opened : OpnL Tryd.prog [22, 3, 3, 3] [bsl, .int .i64, .int .i64, .int .i64] (fun x => wtB x.1 ∧ wtI x.2.1 ∧ wtI x.2.2.1 ∧ wtI x.2.2.2.1 ∧ True) :=
  .cons oB (by kernel_rfl) (of_decide_eq_true (by kernel_rfl)) (.cons oI (by kernel_rfl) (of_decide_eq_true (by kernel_rfl)) (.cons oI (by kernel_rfl) (of_decide_eq_true (by kernel_rfl)) (.cons oI (by kernel_rfl) (of_decide_eq_true (by kernel_rfl)) .nil)))
theorem lifted (os : Os) (started : os.Started) (H : Type) (enc : TypeId × Value → H) :
    ReturnsInHanded {} Tryd.checked os 6 .any (fun w args => (Rows.beaconKeysSpec.pre enc Tryd.prog Tryd.f6 Rows.beaconKeysRow.domain false w args ∧ laidMetH Tryd.prog sha.shaLaid w) ∧ sizedMet enc Tryd.prog Tryd.f6 (OpenSpec.ofChange Rows.beaconKeysSpec) false w args) (Rows.beaconKeysSpec.post enc Tryd.prog Tryd.f6 false true false false) := by
  refine returnsInHanded_of_change_and (C := Tryd.checked) (X := fun w _ => laidMetH Tryd.prog sha.shaLaid w) (fun _ _ _ hh h => h.of_heap hh) own started (by kernel_rfl) Tryd.func6
    (ChangeSpec.witness_shaped (enc := enc) (C := Tryd.checked) (os := os) (X := fun w _ => laidMetH Tryd.prog sha.shaLaid w) false (World.doorLaid Tryd.prog 400 os) #[.slice none 0 0, .int .i64 0, .int .i64 0, .int .i64 0] 8 rfl (World.shaped_of_RefB (by kernel_rfl) (by kernel_rfl)) (by kernel_rfl) (by kernel_rfl) (by kernel_rfl) (sha.door_met os _)) ?_
  intro W base args ds gs before hval hW _ hsz hL _
  refine law_rowG (C := Tryd.checked) (bt := 4) (ts := [22, 3, 3, 3]) law24.ent_keys law24.fn_keys laidOut (by kernel_rfl) (by kernel_rfl) (by kernel_rfl) opened ?_ rfl ?_ W (sha.sha_glob hL) base args ds gs before hval hW hsz
  · rintro ⟨x0, x1, x2, x3, ⟨⟩⟩ ⟨h0, h1, h2, h3, _⟩
    exact ⟨pB h0, pI h1, pI h2, pI h3⟩
  · intro ds hl
    match ds, hl with
    | [d0, d1, d2, d3], _ => rfl

theorem row : Rows.BeaconKeysSaid :=
  OpenClaim.holds_of_wide 6 Tryd.f6 rfl rfl rfl rfl rfl rfl rfl ⟨rfl, rfl, rfl, rfl, rfl⟩ rfl rfl rfl rfl rfl (by kernel_rfl) Tryd.func6 (by kernel_rfl)
    (of_decide_eq_true (by kernel_rfl)) (by unfold Func.isWrapper; first | (rw [if_pos (by decide +kernel)]; kernel_rfl) | (rw [if_neg (by decide +kernel)]; exact ⟨rfl, rfl⟩))
    (fun os started H enc _ => lifted os started H enc)
theorem wants : (Tryd.f6.params.toList.all fun u => !Tryd.prog.wantsStandIn u) = true := by kernel_rfl
/-- THE TIED CARD. -/
theorem proved : Rows.BeaconKeysCardSaid :=
  Claim7.holds_tied_plain_at .later [] [.data, .data] true (true, "30c18024f5400744120caf5eb37e15b2bb597e6febcf776de2208ae38104d59e") false
    row (fun _ h => by cases h) (by kernel_rfl) (fun _ h => by cases h) beaconKeys_row_tie rfl ⟨rfl, rfl⟩ (by kernel_rfl) rfl
    (fun f fn hf hfn => by
      obtain rfl : f = 6 := Option.some.inj ((show Tryd.prog.funcNamed "cresset/cressetlaw24.BeaconKeys" = some 6 by kernel_rfl).symm.trans hf) |>.symm
      obtain rfl : fn = Tryd.f6 := (Option.some.inj (Tryd.func6.symm.trans hfn)).symm
      exact ⟨by kernel_rfl, fun j t ht => by
        have hm : t ∈ Tryd.f6.params.toList := by simpa using Array.mem_of_getElem? ht
        exact (show Tryd.prog.wantsStandIn t = false by simpa using List.all_eq_true.1 wants t hm)⟩)
    (by kernel_rfl)
#print axioms proved
end beaconKeys
end Go.Proofs.YtbfimfdhmggieaaDoor
