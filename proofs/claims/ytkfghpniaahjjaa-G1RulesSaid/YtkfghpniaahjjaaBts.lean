/- words, Bytes of both fields. Printed by gen_byt.py. -/
import Derived.Test.YtkfghpniaahjjaaSft
import Derived.Test.YtkfghpniaahjjaaRaw
namespace Go.Proofs.Ytkfghpniaahjjaa.fp
set_option maxRecDepth 100000
open Go Go.Eng Go.RowKit Cr Go.Proofs.Ytkfghpniaahjjaa

theorem ent_words : enters Try.prog 107 Try.f107 := enters_mk (by kernel_rfl) (by kernel_rfl) (by kernel_rfl)
noncomputable def wordsI (bs : List Int) (g : Int × List Int) : St := mkSt Try.f107.ntmps 40 [(0, .is (.one (.ro (.int .u8) bs))), (2, .is (.one (.ptr 0 0))), (3, .is (.one (.ptr 8 0))), (7, .is (.one (.ro (.int .u8) bs))), (8, sI .i64 bs.length), (9, sI .i64 g.1)] [(8, [.ints .u64 6 g.2]), (0, [.ints .u64 6 (zeros 6)])]
abbrev preWords : HL [.sl (.int .u8)] → Prop := fun (bs, _) => Bs bs ∧ List.length bs ≤ 48
abbrev outWords : HL [.sl (.int .u8)] → HO [.val (.arr 6 (.int .u64))] := fun (bs, _) => (lim 6 (num bs), ())
theorem fn_words : FnOk Try.prog 107 [.sl (.int .u8)] [.val (.arr 6 (.int .u64))] noG preWords outWords := by
  refine fn_of_tr (sp := sps []) ent_words (by decide) (by decide) (by kernel_rfl) ?_
  have hsp : SpecsOk Try.prog (sps []) := sps_nil
  rintro w M0 ⟨bs, ⟨⟩⟩ _ ⟨hb, hl⟩
  have hb : Bs bs := hb
  have hl : List.length bs ≤ 48 := hl
  show Tr _ _ _ _ _ _ _
  refine tr_cut hsp mixed 3 (wordsI bs (0, List.replicate 6 0)) True ?_ (fun _ => ?_)
  · refine vcx (X := (wordsI bs (0, List.replicate 6 0)).triv True) (by kernel_rfl) (triv_intro trivial)
  rw [← words_zero 6 bs]
  refine tr_count hsp mixed (wordsI bs) (fun k => ((k : Int), lim 6 (num (List.take k bs) * p256 (List.length bs - k)))) bs.length (fun g => (IntKind.i64.wrap (g.1 + 1), wput g.2 bs.length g.1 (bs.getD g.1.toNat 0))) (wordsI bs) (c := nthC (codeOf Try.f107) 3) (by kernel_rfl) (by kernel_rfl) (le_of_proj (by kernel_rfl) (by kernel_rfl) trivial)
    (fun k hk => by
      show (_, _) = (_, _)
      rw [wrap_succ (by omega), Int.toNat_natCast, wput_ok hb hl (by omega) hk]) ?_ ?_
  · intro k hk
    refine vcx (X := ((decide ((k : Int) < (bs.length : Int)) = true → (0 ≤ (k : Int) ∧ (k : Int) < (bs.length : Int)) ∧ (k : Int).toNat < bs.length ∧ (8 : Int) ≠ 0 ∧ (0 ≤ wj bs.length k ∧ wj bs.length k < ((6 : Nat) : Int)) ∧ (wj bs.length k).toNat < 6 ∧ (8 : Int) ≠ 0 ∧ 0 ≤ wsh bs.length k ∧ (0 ≤ wj bs.length k ∧ wj bs.length k < ((6 : Nat) : Int)) ∧ (wj bs.length k).toNat < 6 ∧
        (wordsI bs (IntKind.i64.wrap ((k : Int) + 1), wput (lim 6 (num (List.take k bs) * p256 (List.length bs - k))) bs.length k (bs.getD (k : Int).toNat 0))).triv (k < bs.length)) ∧
      (decide ((k : Int) < (bs.length : Int)) = false → (wordsI bs ((k : Int), lim 6 (num (List.take k bs) * p256 (List.length bs - k)))).triv (k = bs.length)))) (by kernel_rfl) ?_
    refine ⟨fun h => ?_, fun h => triv_intro (by have := dec_ge h; omega)⟩
    have hlt : k < bs.length := by have := dec_lt h; omega
    obtain ⟨b1, b2, b3⟩ := wput_bd (n := 6) hl (by omega) hlt
    exact ⟨⟨by omega, by omega⟩, by omega, by decide, b1, b2, by decide, b3, b1, b2, triv_intro hlt⟩
  refine tr_vc hsp mixed _ _ ?_
  refine vcx (X := ((lim 6 (num (List.take bs.length bs) * p256 (List.length bs - bs.length)), ()) : List Int × Unit) = outWords (bs, ())) (by kernel_rfl) ?_
  rw [List.take_length, Nat.sub_self, p256, Int.mul_one]
noncomputable def spWords : Nat × Eng.Spec := (107, fnSpec [.sl (.int .u8)] [.val (.arr 6 (.int .u64))] preWords outWords)

theorem ent_plain : enters Try.prog 84 Try.f84 := enters_mk (by kernel_rfl) (by kernel_rfl) (by kernel_rfl)
abbrev outPlain : HL [.fp] → HO [.val (.arr 6 (.int .u64))] := fun (x, _) => (lim 6 (Zm.v (x : Fp)), ())
theorem fn_plain : FnOk Try.prog 84 [.fp] [.val (.arr 6 (.int .u64))] noG (fun _ => True) outPlain := by
  refine fn_of_vc (sp := sps [spTimes]) (sps_cons (fnSpec_ok fn_times) sps_nil) mixed ent_plain (by decide) (by decide) ?_
  rintro w M0 ⟨x, ⟨⟩⟩ _ _
  refine vcx (X := (preTimes (enc x, [1, 0, 0, 0, 0, 0], ()) ∧ ((lim 6 (val (enc x) * val [1, 0, 0, 0, 0, 0] * rinv % M), ()) : List Int × Unit) = outPlain (x, ()))) (by kernel_rfl) ?_
  refine ⟨⟨enc_ws x, by intro y hy; simp at hy; rcases hy with rfl | rfl <;> exact ⟨by decide, by decide⟩, (enc_canon x).2.2⟩, ?_⟩
  rw [show lim 6 (val (enc x) * val [1, 0, 0, 0, 0, 0] * rinv % M) = lim 6 x.v from plain_enc x (by decide)]
noncomputable def spPlain : Nat × Eng.Spec := (84, fnSpec [.fp] [.val (.arr 6 (.int .u64))] (fun _ => True) outPlain)

theorem ent_bytes : enters Try.prog 104 Try.f104 := enters_mk (by kernel_rfl) (by kernel_rfl) (by kernel_rfl)
noncomputable def bytesI (ws : List Int) (g : Int × List Int) : St := mkSt Try.f104.ntmps 64 [(2, .is (.one (.ptr 8 0))), (3, .is (.one (.ptr 16 0))), (4, .is (.one (.ptr 40 0))), (8, sI .i64 g.1)] [(8, [.ints .u8 48 (zeros 48)]), (16, [.ints .u8 48 g.2]), (40, [.ints .u64 6 ws])]
abbrev outBytes : HL [.fp] → HO [.val (.arr 48 (.int .u8))] := fun (x, _) => (bytesN 48 (Zm.v (x : Fp)), ())
theorem fn_bytes : FnOk Try.prog 104 [.fp] [.val (.arr 48 (.int .u8))] noG (fun _ => True) outBytes := by
  have hsp : SpecsOk Try.prog (sps [spPlain]) := sps_cons (fnSpec_ok fn_plain) sps_nil
  refine fn_of_tr (sp := sps [spPlain]) ent_bytes (by decide) (by decide) (by kernel_rfl) ?_
  rintro w M0 ⟨x, ⟨⟩⟩ _ _
  show Tr _ _ _ _ _ _ _
  refine tr_cut hsp mixed 4 (bytesI (lim 6 x.v) (0, List.replicate 48 0)) True ?_ (fun _ => ?_)
  · refine vcx (X := True ∧ (bytesI (lim 6 x.v) (0, List.replicate 48 0)).triv True) (by kernel_rfl) ⟨trivial, triv_intro trivial⟩
  rw [← bytesAt_zero 48 x.v]
  refine tr_count hsp mixed (bytesI (lim 6 x.v)) (fun k => ((k : Int), bytesAt 48 x.v k)) 48 (fun g => (IntKind.i64.wrap (g.1 + 1), g.2.set g.1.toNat (bget (5 : Nat) (lim 6 x.v) g.1))) (bytesI (lim 6 x.v)) (c := nthC (codeOf Try.f104) 4) (by kernel_rfl) (by kernel_rfl) (le_of_proj (by kernel_rfl) (by kernel_rfl) trivial)
    (fun k hk => by
      show (_, _) = (_, _)
      rw [wrap_succ (by omega), Int.toNat_natCast, bget_ok (n := 5) hk (by omega), bytesAt_succ hk]) ?_ ?_
  · intro k hk
    refine vcx (X := ((decide ((k : Int) < 48) = true → (8 : Int) ≠ 0 ∧ (0 ≤ bj (5 : Nat) k ∧ bj (5 : Nat) k < ((6 : Nat) : Int)) ∧ (bj (5 : Nat) k).toNat < 6 ∧ (8 : Int) ≠ 0 ∧ 0 ≤ bsh k ∧ (0 ≤ (k : Int) ∧ (k : Int) < ((48 : Nat) : Int)) ∧ (k : Int).toNat < 48 ∧
        (bytesI (lim 6 x.v) (IntKind.i64.wrap ((k : Int) + 1), (bytesAt 48 x.v k).set (k : Int).toNat (bget (5 : Nat) (lim 6 x.v) k))).triv (k < 48)) ∧
      (decide ((k : Int) < 48) = false → (bytesI (lim 6 x.v) ((k : Int), bytesAt 48 x.v k)).triv (k = 48)))) (by kernel_rfl) ?_
    refine ⟨fun h => ?_, fun h => triv_intro (by have := dec_ge h; omega)⟩
    have hlt : k < 48 := by have := dec_lt h; omega
    obtain ⟨b1, b2, b3⟩ := bget_bd (n := 5) hlt (by omega)
    exact ⟨by decide, b1, b2, by decide, b3, ⟨by omega, by omega⟩, by omega, triv_intro hlt⟩
  refine tr_vc hsp mixed _ _ ?_
  refine vcx (X := ((bytesAt 48 x.v 48, ()) : List Int × Unit) = outBytes (x, ())) (by kernel_rfl) ?_
  rw [bytesAt_all]
noncomputable def spBytes : Nat × Eng.Spec := (104, fnSpec [.fp] [.val (.arr 48 (.int .u8))] (fun _ => True) outBytes)

end Go.Proofs.Ytkfghpniaahjjaa.fp
namespace Go.Proofs.Ytkfghpniaahjjaa.fr
set_option maxRecDepth 100000
open Go Go.Eng Go.RowKit Cr Go.Proofs.Ytkfghpniaahjjaa

theorem ent_words : enters Try.prog 86 Try.f86 := enters_mk (by kernel_rfl) (by kernel_rfl) (by kernel_rfl)
noncomputable def wordsI (bs : List Int) (g : Int × List Int) : St := mkSt Try.f86.ntmps 40 [(0, .is (.one (.ro (.int .u8) bs))), (2, .is (.one (.ptr 0 0))), (3, .is (.one (.ptr 8 0))), (7, .is (.one (.ro (.int .u8) bs))), (8, sI .i64 bs.length), (9, sI .i64 g.1)] [(8, [.ints .u64 4 g.2]), (0, [.ints .u64 4 (zeros 4)])]
abbrev preWords : HL [.sl (.int .u8)] → Prop := fun (bs, _) => Bs bs ∧ List.length bs ≤ 32
abbrev outWords : HL [.sl (.int .u8)] → HO [.val (.arr 4 (.int .u64))] := fun (bs, _) => (lim 4 (num bs), ())
theorem fn_words : FnOk Try.prog 86 [.sl (.int .u8)] [.val (.arr 4 (.int .u64))] noG preWords outWords := by
  refine fn_of_tr (sp := sps []) ent_words (by decide) (by decide) (by kernel_rfl) ?_
  have hsp : SpecsOk Try.prog (sps []) := sps_nil
  rintro w M0 ⟨bs, ⟨⟩⟩ _ ⟨hb, hl⟩
  have hb : Bs bs := hb
  have hl : List.length bs ≤ 32 := hl
  show Tr _ _ _ _ _ _ _
  refine tr_cut hsp mixed 3 (wordsI bs (0, List.replicate 4 0)) True ?_ (fun _ => ?_)
  · refine vcx (X := (wordsI bs (0, List.replicate 4 0)).triv True) (by kernel_rfl) (triv_intro trivial)
  rw [← words_zero 4 bs]
  refine tr_count hsp mixed (wordsI bs) (fun k => ((k : Int), lim 4 (num (List.take k bs) * p256 (List.length bs - k)))) bs.length (fun g => (IntKind.i64.wrap (g.1 + 1), wput g.2 bs.length g.1 (bs.getD g.1.toNat 0))) (wordsI bs) (c := nthC (codeOf Try.f86) 3) (by kernel_rfl) (by kernel_rfl) (le_of_proj (by kernel_rfl) (by kernel_rfl) trivial)
    (fun k hk => by
      show (_, _) = (_, _)
      rw [wrap_succ (by omega), Int.toNat_natCast, wput_ok hb hl (by omega) hk]) ?_ ?_
  · intro k hk
    refine vcx (X := ((decide ((k : Int) < (bs.length : Int)) = true → (0 ≤ (k : Int) ∧ (k : Int) < (bs.length : Int)) ∧ (k : Int).toNat < bs.length ∧ (8 : Int) ≠ 0 ∧ (0 ≤ wj bs.length k ∧ wj bs.length k < ((4 : Nat) : Int)) ∧ (wj bs.length k).toNat < 4 ∧ (8 : Int) ≠ 0 ∧ 0 ≤ wsh bs.length k ∧ (0 ≤ wj bs.length k ∧ wj bs.length k < ((4 : Nat) : Int)) ∧ (wj bs.length k).toNat < 4 ∧
        (wordsI bs (IntKind.i64.wrap ((k : Int) + 1), wput (lim 4 (num (List.take k bs) * p256 (List.length bs - k))) bs.length k (bs.getD (k : Int).toNat 0))).triv (k < bs.length)) ∧
      (decide ((k : Int) < (bs.length : Int)) = false → (wordsI bs ((k : Int), lim 4 (num (List.take k bs) * p256 (List.length bs - k)))).triv (k = bs.length)))) (by kernel_rfl) ?_
    refine ⟨fun h => ?_, fun h => triv_intro (by have := dec_ge h; omega)⟩
    have hlt : k < bs.length := by have := dec_lt h; omega
    obtain ⟨b1, b2, b3⟩ := wput_bd (n := 4) hl (by omega) hlt
    exact ⟨⟨by omega, by omega⟩, by omega, by decide, b1, b2, by decide, b3, b1, b2, triv_intro hlt⟩
  refine tr_vc hsp mixed _ _ ?_
  refine vcx (X := ((lim 4 (num (List.take bs.length bs) * p256 (List.length bs - bs.length)), ()) : List Int × Unit) = outWords (bs, ())) (by kernel_rfl) ?_
  rw [List.take_length, Nat.sub_self, p256, Int.mul_one]
noncomputable def spWords : Nat × Eng.Spec := (86, fnSpec [.sl (.int .u8)] [.val (.arr 4 (.int .u64))] preWords outWords)

theorem ent_bytes : enters Try.prog 33 Try.f33 := enters_mk (by kernel_rfl) (by kernel_rfl) (by kernel_rfl)
noncomputable def bytesI (ws : List Int) (g : Int × List Int) : St := mkSt Try.f33.ntmps 80 [(2, .is (.one (.ptr 8 0))), (3, .is (.one (.ptr 16 0))), (4, .is (.one (.ptr 56 0))), (10, sI .i64 g.1)] [(8, [.ints .u8 32 (zeros 32)]), (16, [.ints .u8 32 g.2]), (56, [.ints .u64 4 ws])]
abbrev outBytes : HL [.fr] → HO [.val (.arr 32 (.int .u8))] := fun (x, _) => (bytesN 32 (Zm.v (x : Fr)), ())
theorem fn_bytes : FnOk Try.prog 33 [.fr] [.val (.arr 32 (.int .u8))] noG (fun _ => True) outBytes := by
  have hsp : SpecsOk Try.prog (sps [spTimes]) := sps_cons (fnSpec_ok fn_times) sps_nil
  refine fn_of_tr (sp := sps [spTimes]) ent_bytes (by decide) (by decide) (by kernel_rfl) ?_
  rintro w M0 ⟨x, ⟨⟩⟩ _ _
  show Tr _ _ _ _ _ _ _
  refine tr_cut hsp mixed 4 (bytesI (lim 4 (val (enc x) * val [1, 0, 0, 0] * rinv % M)) (0, List.replicate 32 0)) True ?_ (fun _ => ?_)
  · refine vcx (X := preTimes (enc x, [1, 0, 0, 0], ()) ∧ (bytesI (lim 4 (val (enc x) * val [1, 0, 0, 0] * rinv % M)) (0, List.replicate 32 0)).triv True) (by kernel_rfl) ⟨⟨enc_ws x, by intro y hy; simp at hy; rcases hy with rfl | rfl <;> exact ⟨by decide, by decide⟩, (enc_canon x).2.2⟩, triv_intro trivial⟩
  rw [show lim 4 (val (enc x) * val [1, 0, 0, 0] * rinv % M) = lim 4 x.v from plain_enc x (by decide)]
  rw [← bytesAt_zero 32 x.v]
  refine tr_count hsp mixed (bytesI (lim 4 x.v)) (fun k => ((k : Int), bytesAt 32 x.v k)) 32 (fun g => (IntKind.i64.wrap (g.1 + 1), g.2.set g.1.toNat (bget (3 : Nat) (lim 4 x.v) g.1))) (bytesI (lim 4 x.v)) (c := nthC (codeOf Try.f33) 4) (by kernel_rfl) (by kernel_rfl) (le_of_proj (by kernel_rfl) (by kernel_rfl) trivial)
    (fun k hk => by
      show (_, _) = (_, _)
      rw [wrap_succ (by omega), Int.toNat_natCast, bget_ok (n := 3) hk (by omega), bytesAt_succ hk]) ?_ ?_
  · intro k hk
    refine vcx (X := ((decide ((k : Int) < 32) = true → (8 : Int) ≠ 0 ∧ (0 ≤ bj (3 : Nat) k ∧ bj (3 : Nat) k < ((4 : Nat) : Int)) ∧ (bj (3 : Nat) k).toNat < 4 ∧ (8 : Int) ≠ 0 ∧ 0 ≤ bsh k ∧ (0 ≤ (k : Int) ∧ (k : Int) < ((32 : Nat) : Int)) ∧ (k : Int).toNat < 32 ∧
        (bytesI (lim 4 x.v) (IntKind.i64.wrap ((k : Int) + 1), (bytesAt 32 x.v k).set (k : Int).toNat (bget (3 : Nat) (lim 4 x.v) k))).triv (k < 32)) ∧
      (decide ((k : Int) < 32) = false → (bytesI (lim 4 x.v) ((k : Int), bytesAt 32 x.v k)).triv (k = 32)))) (by kernel_rfl) ?_
    refine ⟨fun h => ?_, fun h => triv_intro (by have := dec_ge h; omega)⟩
    have hlt : k < 32 := by have := dec_lt h; omega
    obtain ⟨b1, b2, b3⟩ := bget_bd (n := 3) hlt (by omega)
    exact ⟨by decide, b1, b2, by decide, b3, ⟨by omega, by omega⟩, by omega, triv_intro hlt⟩
  refine tr_vc hsp mixed _ _ ?_
  refine vcx (X := ((bytesAt 32 x.v 32, ()) : List Int × Unit) = outBytes (x, ())) (by kernel_rfl) ?_
  rw [bytesAt_all]
noncomputable def spBytes : Nat × Eng.Spec := (33, fnSpec [.fr] [.val (.arr 32 (.int .u8))] (fun _ => True) outBytes)

end Go.Proofs.Ytkfghpniaahjjaa.fr
