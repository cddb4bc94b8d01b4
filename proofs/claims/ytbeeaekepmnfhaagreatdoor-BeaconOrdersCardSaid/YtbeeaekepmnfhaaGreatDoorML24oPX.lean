import Derived.Test.YtbeeaekepmnfhaaGreatDoorML24oPW
set_option maxRecDepth 100000
namespace Go.Proofs.YtbeeaekepmnfhaaGreatDoor.deal
open Go Go.Eng Go.RowKit Cr poly
theorem tz:enters Tryz.prog 72 Tryz.f72:=ek
abbrev iV:HL [.sl bo]->Prop:=fun (c,_)=>List.length c<1048576
theorem vW:aB Tryz.prog 72 [.sl bo] [.own bo] aM iV (fun (c,_)=>(c,())):=by
 have hsp:aN Tryz.prog (aF []):=aR
 refine xZ (sp:=aF []) tz (by decide) (by decide) (by kernel_rfl) ?_ ?_
 ·rintro w M0 ⟨⟩ _ hp
  show Tr _ _ _ _ _ _ _
  refine bf hsp mixed _ _ ?_
  refine ao (X:=((([]:List (Fp × Fp)),())=(([]:List (Fp × Fp)),()))) (by kernel_rfl) rfl
 ·rintro w M0 c ⟨⟩ _ _ hp
  revert c
  intro (c:List (Fp × Fp)) _ hp
  have hp:c.length<1048576:=hp
  show Tr _ _ _ _ _ _ _
  refine bf hsp mixed _ _ ?_
  refine ao (X:=(0<=0/\(0+c.length)*96<=140737488355328/\0+c.length<=4611686018427387904/\0+(0+c.length)<=0+c.length/\(List.take (0+c.length) (List.take 0 []++c),())=(c,()))) (by kernel_rfl) ?_
  rw[List.take_zero,List.nil_append,Nat.zero_add,List.take_length]
  exact⟨Nat.le_refl _,by omega,by omega,by omega,rfl⟩
noncomputable def rH:Nat × Eng.Spec:=(72,ar [.sl bo] [.own bo] iV (fun (c,_)=>(c,())))
end Go.Proofs.YtbeeaekepmnfhaaGreatDoor.deal
