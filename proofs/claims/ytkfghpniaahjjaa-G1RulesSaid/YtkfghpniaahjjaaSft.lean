/- shift and Of of both fields. -/
import Derived.Test.YtkfghpniaahjjaaFpE
import Derived.Test.YtkfghpniaahjjaaFrE
import Derived.Test.YtkfghpniaahjjaaEngH
namespace Go.Proofs.Ytkfghpniaahjjaa.fp
set_option maxRecDepth 100000
open Go Go.Eng Go.RowKit Cr Go.Proofs.Ytkfghpniaahjjaa

theorem ent_shift : enters Try.prog 89 Try.f89 := enters_mk (by kernel_rfl) (by kernel_rfl) (by kernel_rfl)
noncomputable def shI (t : Nat) (g : Int × Fp) : St := mkSt Try.f89.ntmps 40 [(0, .is (.one (.ptr 0 0))), (1, .is (.one (.ptr 16 0))), (t, sI .i64 g.1)] [(16, [.row .fp 1 [g.2]]), (0, [.row .fp 1 [(0 : Fp)]])]
def dbls : Nat → Fp
  | 0 => 1
  | k + 1 => dbls k + dbls k
def sqs (x : Fp) : Nat → Fp
  | 0 => x
  | k + 1 => sqs x k * sqs x k

theorem fn_shift : FnOk Try.prog 89 [] [.val .fp] noG (fun _ => True) (fun _ => ((R2 : Fp), ())) := by
  have hsp : SpecsOk Try.prog (sps [spOne, spAdd, spSquare]) := sps_cons (fnSpec_ok fn_one) (sps_cons (fnSpec_ok fn_add) (sps_cons (fnSpec_ok fn_square) sps_nil))
  refine fn_of_tr (sp := sps [spOne, spAdd, spSquare]) ent_shift (by decide) (by decide) (by kernel_rfl) ?_
  rintro w M0 ⟨⟩ _ _
  show Tr _ _ _ _ _ _ _
  refine tr_cut hsp mixed 3 (shI 3 (0, 1)) True ?_ (fun _ => ?_)
  · refine vcx (X := True ∧ (shI 3 (0, 1)).triv True) (by kernel_rfl) ⟨trivial, triv_intro trivial⟩
  refine tr_count hsp mixed (shI 3) (fun k => ((k : Int), dbls k)) 3 (fun g => (IntKind.i64.wrap (g.1 + 1), g.2 + g.2)) (shI 3) (c := nthC (codeOf Try.f89) 3) (by kernel_rfl) (by kernel_rfl) (le_of_proj (by kernel_rfl) (by kernel_rfl) trivial)
    (fun k hk => by show (_, _) = (_, _); rw [wrap_succ (by omega)]; rfl) ?_ ?_
  · intro k hk
    refine vcx (X := ((decide ((k : Int) < 3) = true → True ∧ (shI 3 (IntKind.i64.wrap ((k : Int) + 1), dbls k + dbls k)).triv (k < 3)) ∧ (decide ((k : Int) < 3) = false → (shI 3 ((k : Int), dbls k)).triv (k = 3)))) (by kernel_rfl) ?_
    exact ⟨fun h => ⟨trivial, triv_intro (by have := dec_lt h; omega)⟩, fun h => triv_intro (by have := dec_ge h; omega)⟩
  refine tr_cut hsp mixed 1 (shI 9 (0, dbls 3)) True ?_ (fun _ => ?_)
  · refine vcx (X := (shI 9 (0, dbls 3)).triv True) (by kernel_rfl) (triv_intro trivial)
  refine tr_count hsp mixed (shI 9) (fun k => ((k : Int), sqs (dbls 3) k)) 7 (fun g => (IntKind.i64.wrap (g.1 + 1), g.2 * g.2)) (shI 9) (c := nthC (codeOf Try.f89) 5) (by kernel_rfl) (by kernel_rfl) (le_of_proj (by kernel_rfl) (by kernel_rfl) trivial)
    (fun k hk => by show (_, _) = (_, _); rw [wrap_succ (by omega)]; rfl) ?_ ?_
  · intro k hk
    refine vcx (X := ((decide ((k : Int) < 7) = true → True ∧ (shI 9 (IntKind.i64.wrap ((k : Int) + 1), sqs (dbls 3) k * sqs (dbls 3) k)).triv (k < 7)) ∧ (decide ((k : Int) < 7) = false → (shI 9 ((k : Int), sqs (dbls 3) k)).triv (k = 7)))) (by kernel_rfl) ?_
    exact ⟨fun h => ⟨trivial, triv_intro (by have := dec_lt h; omega)⟩, fun h => triv_intro (by have := dec_ge h; omega)⟩
  refine tr_vc hsp mixed _ _ ?_
  refine vcx (X := (sqs (dbls 3) 7, ()) = ((R2 : Fp), ())) (by kernel_rfl) ?_
  rw [show sqs (dbls 3) 7 = R2 from Zm.ext (by decide)]
noncomputable def spShift : Nat × Eng.Spec := (89, fnSpec [] [.val .fp] (fun _ => True) (fun _ => ((R2 : Fp), ())))

theorem ent_of : enters Try.prog 58 Try.f58 := enters_mk (by kernel_rfl) (by kernel_rfl) (by kernel_rfl)
abbrev outOf : HL [.int .u64] → HO [.val .fp] := fun (n, _) => ((zm n : Fp), ())
theorem fn_of : FnOk Try.prog 58 [.int .u64] [.val .fp] noG (fun (n, _) => U64 n) outOf := by
  refine fn_of_vc (sp := sps [spShift, spTimes]) (sps_cons (fnSpec_ok fn_shift) (sps_cons (fnSpec_ok fn_times) sps_nil)) mixed ent_of (by decide) (by decide) ?_
  rintro w M0 ⟨n, ⟨⟩⟩ _ hn
  refine vcx (X := (True ∧ preTimes (enc (R2 : Fp), [n, 0, 0, 0, 0, 0], ()) ∧ Canon Mp (lim 6 (val (enc (R2 : Fp)) * val [n, 0, 0, 0, 0, 0] * rinv % M)) ∧ (dec (lim 6 (val (enc (R2 : Fp)) * val [n, 0, 0, 0, 0, 0] * rinv % M)), ()) = outOf (n, ()))) (by kernel_rfl) ?_
  rw [show lim 6 (val (enc (R2 : Fp)) * val [n, 0, 0, 0, 0, 0] * rinv % M) = enc (zm (val [n, 0, 0, 0, 0, 0]) : Fp) from shift_enc (M := Mp)]
  refine ⟨trivial, ⟨enc_ws _, ?_, (enc_canon _).2.2⟩, enc_canon _, ?_⟩
  · intro x hx
    rcases List.mem_cons.1 hx with rfl | hx
    · exact hn
    · simp at hx; subst hx; exact ⟨by decide, by decide⟩
  · rw [dec_enc]; simp [val, outOf]
noncomputable def spOf : Nat × Eng.Spec := (58, fnSpec [.int .u64] [.val .fp] (fun (n, _) => U64 n) outOf)
end Go.Proofs.Ytkfghpniaahjjaa.fp

namespace Go.Proofs.Ytkfghpniaahjjaa.fr
set_option maxRecDepth 100000
open Go Go.Eng Go.RowKit Cr Go.Proofs.Ytkfghpniaahjjaa

theorem ent_shift : enters Try.prog 63 Try.f63 := enters_mk (by kernel_rfl) (by kernel_rfl) (by kernel_rfl)
noncomputable def shI (t : Nat) (g : Int × Fr) : St := mkSt Try.f63.ntmps 56 [(0, .is (.one (.ptr 0 0))), (1, .is (.one (.ptr 32 0))), (t, sI .i64 g.1)] [(32, [.row .fr 1 [g.2]]), (0, [.row .fr 1 [(0 : Fr)]])]
def sqs (x : Fr) : Nat → Fr
  | 0 => x
  | k + 1 => sqs x k * sqs x k

theorem fn_shift : FnOk Try.prog 63 [] [.val .fr] noG (fun _ => True) (fun _ => ((R2 : Fr), ())) := by
  have hsp : SpecsOk Try.prog (sps [spOne, spAdd, spSquare]) := sps_cons (fnSpec_ok fn_one) (sps_cons (fnSpec_ok fn_add) (sps_cons (fnSpec_ok fn_square) sps_nil))
  refine fn_of_tr (sp := sps [spOne, spAdd, spSquare]) ent_shift (by decide) (by decide) (by kernel_rfl) ?_
  rintro w M0 ⟨⟩ _ _
  show Tr _ _ _ _ _ _ _
  refine tr_cut hsp mixed 3 (shI 5 (0, 1 + 1)) True ?_ (fun _ => ?_)
  · refine vcx (X := True ∧ True ∧ True ∧ (shI 5 (0, 1 + 1)).triv True) (by kernel_rfl) ⟨trivial, trivial, trivial, triv_intro trivial⟩
  refine tr_count hsp mixed (shI 5) (fun k => ((k : Int), sqs (1 + 1) k)) 8 (fun g => (IntKind.i64.wrap (g.1 + 1), g.2 * g.2)) (shI 5) (c := nthC (codeOf Try.f63) 3) (by kernel_rfl) (by kernel_rfl) (le_of_proj (by kernel_rfl) (by kernel_rfl) trivial)
    (fun k hk => by show (_, _) = (_, _); rw [wrap_succ (by omega)]; rfl) ?_ ?_
  · intro k hk
    refine vcx (X := ((decide ((k : Int) < 8) = true → True ∧ (shI 5 (IntKind.i64.wrap ((k : Int) + 1), sqs (1 + 1) k * sqs (1 + 1) k)).triv (k < 8)) ∧ (decide ((k : Int) < 8) = false → (shI 5 ((k : Int), sqs (1 + 1) k)).triv (k = 8)))) (by kernel_rfl) ?_
    exact ⟨fun h => ⟨trivial, triv_intro (by have := dec_lt h; omega)⟩, fun h => triv_intro (by have := dec_ge h; omega)⟩
  refine tr_vc hsp mixed _ _ ?_
  refine vcx (X := (sqs (1 + 1) 8, ()) = ((R2 : Fr), ())) (by kernel_rfl) ?_
  rw [show sqs (1 + 1) 8 = R2 from Zm.ext (by decide)]
noncomputable def spShift : Nat × Eng.Spec := (63, fnSpec [] [.val .fr] (fun _ => True) (fun _ => ((R2 : Fr), ())))

theorem ent_of : enters Try.prog 28 Try.f28 := enters_mk (by kernel_rfl) (by kernel_rfl) (by kernel_rfl)
abbrev outOf : HL [.int .u64] → HO [.val .fr] := fun (n, _) => ((zm n : Fr), ())
theorem fn_of : FnOk Try.prog 28 [.int .u64] [.val .fr] noG (fun (n, _) => U64 n) outOf := by
  refine fn_of_vc (sp := sps [spShift, spTimes]) (sps_cons (fnSpec_ok fn_shift) (sps_cons (fnSpec_ok fn_times) sps_nil)) mixed ent_of (by decide) (by decide) ?_
  rintro w M0 ⟨n, ⟨⟩⟩ _ hn
  refine vcx (X := (True ∧ preTimes (enc (R2 : Fr), [n, 0, 0, 0], ()) ∧ Canon Mr (lim 4 (val (enc (R2 : Fr)) * val [n, 0, 0, 0] * rinv % M)) ∧ (dec (lim 4 (val (enc (R2 : Fr)) * val [n, 0, 0, 0] * rinv % M)), ()) = outOf (n, ()))) (by kernel_rfl) ?_
  rw [show lim 4 (val (enc (R2 : Fr)) * val [n, 0, 0, 0] * rinv % M) = enc (zm (val [n, 0, 0, 0]) : Fr) from shift_enc (M := Mr)]
  refine ⟨trivial, ⟨enc_ws _, ?_, (enc_canon _).2.2⟩, enc_canon _, ?_⟩
  · intro x hx
    rcases List.mem_cons.1 hx with rfl | hx
    · exact hn
    · simp at hx; subst hx; exact ⟨by decide, by decide⟩
  · rw [dec_enc]; simp [val, outOf]
noncomputable def spOf : Nat × Eng.Spec := (28, fnSpec [.int .u64] [.val .fr] (fun (n, _) => U64 n) outOf)
end Go.Proofs.Ytkfghpniaahjjaa.fr
