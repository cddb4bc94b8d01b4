/- g1: number, Gen; codec: mark, G1. -/
import Derived.Test.YtkfghpniaahjjaaRd
import Derived.Test.YtkfghpniaahjjaaEngI
namespace Go.Proofs.Ytkfghpniaahjjaa
open Go Go.Eng Cr

theorem sbytes_len (s : ByteArray) : (sbytes s).length = s.size := by simp only [sbytes, List.length_map, Array.length_toList]; rfl
theorem sbytes_Bs (s : ByteArray) : Bs (sbytes s) := by
  intro x hx
  simp only [sbytes, List.mem_map] at hx
  obtain ⟨b, _, rfl⟩ := hx
  have := b.toNat_lt
  omega

/-- Points of the first curve: (0, 0) is infinity. -/
abbrev pt1 : Kd := .pair .fp .fp

end Go.Proofs.Ytkfghpniaahjjaa
namespace Go.Proofs.Ytkfghpniaahjjaa.g1
set_option maxRecDepth 100000
open Go Go.Eng Go.RowKit Cr Go.Proofs.Ytkfghpniaahjjaa

theorem ent_number : enters Try.prog 49 Try.f49 := enters_mk (by kernel_rfl) (by kernel_rfl) (by kernel_rfl)
abbrev outNumber : HL [.str] → HO [.val .fp] := fun (s, _) => ((fp.rdFp (sbytes s)).1, ())
theorem fn_number : FnOk Try.prog 49 [.str] [.val .fp] noG (fun _ => True) outNumber := by
  refine fn_of_vc (sp := sps [fp.spRead]) (sps_cons (fnSpec_ok fp.fn_read) sps_nil) mixed ent_number (by decide) (by decide) ?_
  rintro w M0 ⟨s, ⟨⟩⟩ _ _
  refine vcx (X := (0 + s.size ≤ s.size ∧ fp.preRead ((sbytes s).take s.size, ()) ∧ ((fp.rdFp ((sbytes s).take s.size)).1, ()) = outNumber (s, ()))) (by kernel_rfl) ?_
  rw [List.take_of_length_le (by rw [sbytes_len]; exact Nat.le_refl _)]
  exact ⟨by omega, sbytes_Bs s, rfl⟩
noncomputable def spNumber : Nat × Eng.Spec := (49, fnSpec [.str] [.val .fp] (fun _ => True) outNumber)

def gx : Fp := zm 0x17f1d3a73197d7942695638c4fa9ac0fc3688c4f9774b905a14e3a3f171bac586c55e83ff97a1aeffb3af00adb22c6bb
def gy : Fp := zm 0x08b3f481e3aaa0f1a09e30ed741d8ae4fcf5e095d5d00af600db18cb2c04b3edd03cc744a2888ae40caa232946c5e7e1
theorem ent_gen : enters Try.prog 18 Try.f18 := enters_mk (by kernel_rfl) (by kernel_rfl) (by kernel_rfl)
abbrev outGen : HL [] → HO [.val pt1] := fun _ => ((gx, gy), ())
theorem fn_gen : FnOk Try.prog 18 [] [.val pt1] noG (fun _ => True) outGen := by
  refine fn_of_vc (sp := sps [spNumber]) (sps_cons (fnSpec_ok fn_number) sps_nil) mixed ent_gen (by decide) (by decide) ?_
  rintro w M0 ⟨⟩ _ _
  exact vcx (X := (True ∧ True ∧ (((gx, gy), ()) : (Fp × Fp) × Unit) = outGen ())) (by kernel_rfl) ⟨trivial, trivial, rfl⟩
noncomputable def spGen : Nat × Eng.Spec := (18, fnSpec [] [.val pt1] (fun _ => True) outGen)
end Go.Proofs.Ytkfghpniaahjjaa.g1

namespace Go.Proofs.Ytkfghpniaahjjaa.codec
set_option maxRecDepth 100000
open Go Go.Eng Go.RowKit Cr Go.Proofs.Ytkfghpniaahjjaa

theorem ent_mark : enters Try.prog 105 Try.f105 := enters_mk (by kernel_rfl) (by kernel_rfl) (by kernel_rfl)
abbrev outMark : HL [.bool, .bool] → HO [.val (.int .u8)] := fun (a, b, _) => ((if a = true then (192 : Int) else if b = true then 160 else 128), ())
theorem fn_mark : FnOk Try.prog 105 [.bool, .bool] [.val (.int .u8)] noG (fun _ => True) outMark := by
  refine fn_of_vc (sp := sps []) sps_nil mixed ent_mark (by decide) (by decide) ?_
  rintro w M0 ⟨a, b, ⟨⟩⟩ _ _
  refine vcx (X := ((a = true → ((192 : Int), ()) = outMark (a, b, ())) ∧ (a = false → (b = true → ((160 : Int), ()) = outMark (a, b, ())) ∧ (b = false → ((128 : Int), ()) = outMark (a, b, ()))))) (by kernel_rfl) ?_
  refine ⟨fun h => by subst h; rfl, fun h => ⟨fun h2 => by subst h h2; rfl, fun h2 => by subst h h2; rfl⟩⟩
noncomputable def spMark : Nat × Eng.Spec := (105, fnSpec [.bool, .bool] [.val (.int .u8)] (fun _ => True) outMark)

theorem ent_g1 : enters Try.prog 83 Try.f83 := enters_mk (by kernel_rfl) (by kernel_rfl) (by kernel_rfl)
/-- The short form of a point. -/
def g1b (p : Fp × Fp) : List Int := (bytesN 48 p.1.v).set 0 (bitOp .or .u8 ((bytesN 48 p.1.v).getD 0 0) (if (decide (p.1 = 0) && decide (p.2 = 0)) = true then (192 : Int) else if decide ((-p.2).v < p.2.v) = true then 160 else 128))
abbrev outG1 : HL [pt1] → HO [.val (.arr 48 (.int .u8))] := fun (p, _) => (g1b p, ())
theorem fn_g1 : FnOk Try.prog 83 [pt1] [.val (.arr 48 (.int .u8))] noG (fun _ => True) outG1 := by
  refine fn_of_vc (sp := sps [fp.spBytes, fp.spLarge, spMark]) (sps_cons (fnSpec_ok fp.fn_bytes) (sps_cons (fnSpec_ok fp.fn_large) (sps_cons (fnSpec_ok fn_mark) sps_nil))) mixed ent_g1 (by decide) (by decide) ?_
  rintro w M0 ⟨⟨x, y⟩, ⟨⟩⟩ _ _
  refine vcx (X := (True ∧ True ∧ True ∧ (0 : Nat) < 48 ∧ ((g1b (x, y), ()) : List Int × Unit) = outG1 ((x, y), ()))) (by kernel_rfl) ⟨trivial, trivial, trivial, by decide, rfl⟩
noncomputable def spG1 : Nat × Eng.Spec := (83, fnSpec [pt1] [.val (.arr 48 (.int .u8))] (fun _ => True) outG1)
end Go.Proofs.Ytkfghpniaahjjaa.codec
