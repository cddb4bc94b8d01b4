/- The references' Copy; law07: scalar, long. -/
import Derived.Test.YtkfghpniaahjjaaRd
import Derived.Test.YtkfghpniaahjjaaEngI
namespace Go.Proofs.Ytkfghpniaahjjaa.ref01
set_option maxRecDepth 100000
open Go Go.Eng Go.RowKit Cr Go.Proofs.Ytkfghpniaahjjaa

theorem ent_copy : enters Try.prog 51 Try.f51 := enters_mk (by kernel_rfl) (by kernel_rfl) (by kernel_rfl)
noncomputable def cpI (b : List Int) (g : Int × List Int) : St := mkSt Try.f51.ntmps 64 [(0, .is (.one (.ro (.int .u8) b))), (3, .is (.one (.sl 24 0 0 (b.length : Int).toNat 1))), (9, sI .i64 b.length), (10, sI .i64 g.1)] [(24, [.ints .u8 (b.length : Int).toNat g.2])]
def cpL (b : List Int) (k : Nat) : List Int := b.take k ++ List.replicate (b.length - k) 0
theorem cpL_step {b : List Int} {k : Nat} (h : k < b.length) : (cpL b k).set k (b.getD k 0) = cpL b (k + 1) := by
  unfold cpL
  rw [List.set_append_right _ _ (by simp; omega), List.take_succ_eq_append_getElem h]
  have e : b.length - k = (b.length - (k + 1)) + 1 := by omega
  have e2 : k - (b.take k).length = 0 := by simp; omega
  rw [e2, e, List.replicate_succ, List.set_cons_zero, List.append_assoc]
  simp [h]
abbrev preCopy : HL [.sl (.int .u8)] → Prop := fun (b, _) => List.length b ≤ 281474976710656
abbrev outCopy : HL [.sl (.int .u8)] → HO [.own (.int .u8)] := fun (b, _) => (b, ())
theorem fn_copy : FnOk Try.prog 51 [.sl (.int .u8)] [.own (.int .u8)] noG preCopy outCopy := by
  have hsp : SpecsOk Try.prog (sps []) := sps_nil
  refine fn_of_tr (sp := sps []) ent_copy (by decide) (by decide) (by kernel_rfl) ?_
  rintro w M0 ⟨b, ⟨⟩⟩
  revert b
  intro (b : List Int) _ hl
  have hl : b.length ≤ 281474976710656 := hl
  show Tr _ _ _ _ _ _ _
  refine tr_cut hsp mixed 3 (cpI b (0, List.replicate (b.length : Int).toNat 0)) True ?_ (fun _ => ?_)
  · refine vcx (X := ((0 ≤ (b.length : Int) ∧ (b.length : Int) ≤ (b.length : Int) ∧ ((1 : Nat) : Int) * (b.length : Int) ≤ 281474976710656 ∧ (b.length : Int) ≤ 9223372036854775807) ∧ (cpI b (0, List.replicate (b.length : Int).toNat 0)).triv True)) (by kernel_rfl) ?_
    exact ⟨⟨by omega, by omega, by omega, by omega⟩, triv_intro trivial⟩
  rw [show List.replicate (b.length : Int).toNat (0 : Int) = cpL b 0 by simp [cpL]]
  refine tr_count hsp mixed (cpI b) (fun k => ((k : Int), cpL b k)) b.length (fun g => (IntKind.i64.wrap (g.1 + 1), g.2.set g.1.toNat (b.getD g.1.toNat 0))) (cpI b) (c := nthC (codeOf Try.f51) 3) (by kernel_rfl) (by kernel_rfl) (le_of_proj (by kernel_rfl) (by kernel_rfl) trivial)
    (fun k hk => by show (_, _) = (_, _); rw [wrap_succ (by omega), Int.toNat_natCast, cpL_step hk]) ?_ ?_
  · intro k hk
    generalize cpL b k = xs
    refine vcx (X := ((decide ((k : Int) < (b.length : Int)) = true → (0 ≤ (k : Int) ∧ (k : Int) < (b.length : Int)) ∧ (k : Int).toNat < b.length ∧ (0 ≤ (k : Int) ∧ (k : Int) < ((b.length : Int).toNat : Int)) ∧ (k : Int).toNat < (b.length : Int).toNat ∧ (cpI b (IntKind.i64.wrap ((k : Int) + 1), xs.set (k : Int).toNat (b.getD (k : Int).toNat 0))).triv (k < b.length)) ∧
      (decide ((k : Int) < (b.length : Int)) = false → (cpI b ((k : Int), xs)).triv (k = b.length)))) (by kernel_rfl) ?_
    refine ⟨fun h => ?_, fun h => triv_intro (by have := dec_ge h; omega)⟩
    have hlt : k < b.length := by have := dec_lt h; omega
    exact ⟨⟨by omega, by omega⟩, by omega, ⟨by omega, by omega⟩, by omega, triv_intro hlt⟩
  · refine tr_vc hsp mixed _ _ ?_
    refine vcx (X := (0 + (b.length : Int).toNat ≤ (b.length : Int).toNat ∧ (((cpL b b.length).take (b.length : Int).toNat, ()) : List Int × Unit) = outCopy (b, ()))) (by kernel_rfl) ⟨by omega, ?_⟩
    simp [cpL, outCopy]
noncomputable def spCopy : Nat × Eng.Spec := (51, fnSpec [.sl (.int .u8)] [.own (.int .u8)] preCopy outCopy)
end Go.Proofs.Ytkfghpniaahjjaa.ref01
