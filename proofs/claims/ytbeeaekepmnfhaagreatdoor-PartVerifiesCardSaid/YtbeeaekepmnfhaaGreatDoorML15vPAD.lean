/- PartVerifies, for every input: true; the input reads as it did. No condition. -/
import Derived.Test.YtbeeaekepmnfhaaGreatDoorCards
import Derived.Test.YtbeeaekepmnfhaaGreatDoorTie
import Derived.ProofKit
import Derived.Stop.Joined
import Derived.SevenTiedAt
import Derived.Test.YtbeeaekepmnfhaaGreatDoorML15vPAC
set_option maxRecDepth 100000
namespace Go.Proofs.YtbeeaekepmnfhaaGreatDoor
open Go Go.Eng Go.RowKit Cr Go.ChangeShapes Go.WideShapes Go.ChangeAt
namespace partVerifies
theorem own:ownKnob Tryz.prog.godebug=none:=by kernel_rfl
theorem laidOut:laidOutB Tryz.prog=true:=by kernel_rfl
abbrev wtB:Car bsl->Prop:=fun ys=>List.length ys*Tryz.prog.bytesOf 5<=reachBytes/\∀ y∈ys,(Lit.int .u8 y).wf=true
theorem cB:OpnC Tryz.prog 38 bsl wtB:=opnC_slice (e:=5) (by kernel_rfl) (by kernel_rfl) (by decide) (opnC_int (by kernel_rfl))
abbrev wtBB:Car (.sl bsl)->Prop:=fun ys=>List.length ys*Tryz.prog.bytesOf 38<=reachBytes/\∀ y∈ys,wtB y
theorem oBB:OpnV Tryz.prog 41 (.sl bsl) wtBB:=opnV_slice (e:=38) (by kernel_rfl) (by kernel_rfl) (by decide) cB
theorem bytes5:Tryz.prog.bytesOf 5=1:=by kernel_rfl
theorem bytes33:Tryz.prog.bytesOf 38=24:=by kernel_rfl
theorem pB {xs:List Int} (h:wtB xs):preB xs:=by
 obtain⟨h1,h2⟩:=h
 rw[bytes5] at h1
 refine⟨fun x hx=>?_,?_⟩
 ·have:=h2 x hx
  simp[Lit.wf,IntKind.min,IntKind.max,IntKind.signed,IntKind.bits] at this
  omega
 ·show List.length xs<=_
  simp only[reachBytes] at h1
  omega
theorem pBB {xs:List (List Int)} (h:wtBB xs):preBB xs:=by
 obtain⟨h1,h2⟩:=h
 rw[bytes33] at h1
 refine⟨fun x hx=>pB (h2 x hx),?_⟩
 show List.length xs<=_
 simp only[reachBytes] at h1
 omega
abbrev wtI:Car (.int .i64)->Prop:=fun x=>(Lit.int .i64 x).wf=true
theorem oI:OpnV Tryz.prog 3 (.int .i64) wtI:=opnV_int (by kernel_rfl)
theorem pI {x:Int} (h:wtI x):preI x:=by
 have:(Lit.int .i64 x).wf=true:=h
 simp[Lit.wf,IntKind.min,IntKind.max,IntKind.signed,IntKind.bits] at this
 exact⟨by omega,by omega⟩
theorem oB:OpnV Tryz.prog 38 bsl wtB:=opnV_slice (e:=5) (by kernel_rfl) (by kernel_rfl) (by decide) (opnC_int (by kernel_rfl))
theorem opened:OpnL Tryz.prog [41,3,38] [.sl bsl,.int .i64,bsl] (fun x=>wtBB x.1/\wtI x.2.1/\wtB x.2.2.1/\True) :=
 .cons oBB (by kernel_rfl) (of_decide_eq_true (by kernel_rfl)) (.cons oI (by kernel_rfl) (of_decide_eq_true (by kernel_rfl)) (.cons oB (by kernel_rfl) (of_decide_eq_true (by kernel_rfl)) .nil))
theorem lifted (os:Os) (started:os.Started) (H:Type) (enc:TypeId × Value->H) :
  ReturnsInHanded {} Tryz.checked os 5 .any (fun w args=>(Rows.partVerifiesSpec.pre enc Tryz.prog Tryz.f5 Rows.partVerifiesRow.domain false w args/\laidMetH Tryz.prog sha.shaLaid w)/\sizedMet enc Tryz.prog Tryz.f5 (OpenSpec.ofChange Rows.partVerifiesSpec) false w args) (Rows.partVerifiesSpec.post enc Tryz.prog Tryz.f5 false true false false):=by
 refine returnsInHanded_of_change_and (C:=Tryz.checked) (X:=fun w _=>laidMetH Tryz.prog sha.shaLaid w) (fun _ _ _ hh h=>h.of_heap hh) own started (by kernel_rfl) Tryz.func5
  (ChangeSpec.witness_shaped (enc:=enc) (C:=Tryz.checked) (os:=os) (X:=fun w _=>laidMetH Tryz.prog sha.shaLaid w) false (World.doorLaid Tryz.prog 400 os) #[.slice none 0 0,.int .i64 0,.slice none 0 0] 8 rfl (World.shaped_of_RefB (by kernel_rfl) (by kernel_rfl)) (by kernel_rfl) (by kernel_rfl) (by kernel_rfl) (sha.door_met os _)) ?_
 intro W base args ds gs before hval hW _ hsz hL _
 refine law_rowG (C:=Tryz.checked) (bt:=4) (ts:=[41,3,38]) law15.ent_ver law15.fn_ver laidOut (by kernel_rfl) (by kernel_rfl) (by kernel_rfl) opened ?_ rfl ?_ W (sha.sha_glob hL) base args ds gs before hval hW hsz
 ·rintro⟨x0,x1,x2,⟨⟩⟩ ⟨h0,h1,h2,_⟩
  exact⟨pBB h0,pI h1,pB h2⟩
 ·intro ds hl
  match ds,hl with
  | [d0,d1,d2],_=>rfl
theorem row:Rows.PartVerifiesSaid :=
 OpenClaim.holds_of_wide 5 Tryz.f5 rfl rfl rfl rfl rfl rfl rfl ⟨rfl,rfl,rfl,rfl,rfl⟩ rfl rfl rfl rfl rfl (by kernel_rfl) Tryz.func5 (by kernel_rfl)
  (of_decide_eq_true (by kernel_rfl)) (by unfold Func.isWrapper;first|(rw[if_pos (by decide +kernel)];kernel_rfl)|(rw[if_neg (by decide +kernel)];exact⟨rfl,rfl⟩))
  (fun os started H enc _=>lifted os started H enc)
theorem wants:(Tryz.f5.params.toList.all fun u => !Tryz.prog.wantsStandIn u)=true:=by kernel_rfl
theorem proved:Rows.PartVerifiesCardSaid :=
 Claim7.holds_tied_plain_at .later [] [.data, .data] true (true, "cf2e951b99f3f2b23b04da4c4894839ac980a495d785b014e0b6a3403a28d2a0") false
  row (fun _ h=>by cases h) (by kernel_rfl) (fun _ h=>by cases h) partVerifies_row_tie rfl ⟨rfl,rfl⟩ (by kernel_rfl) rfl
  (fun f fn hf hfn=>by
   obtain rfl : f = 5 := Option.some.inj ((show Tryz.prog.funcNamed "cresset/cressetlaw15.PartVerifies" = some 5 by kernel_rfl).symm.trans hf) |>.symm
   obtain rfl:fn=Tryz.f5:=(Option.some.inj (Tryz.func5.symm.trans hfn)).symm
   exact⟨by kernel_rfl,fun j t ht=>by
    have hm:t∈Tryz.f5.params.toList:=by simpa using Array.mem_of_getElem? ht
    exact (show Tryz.prog.wantsStandIn t=false by simpa using List.all_eq_true.1 wants t hm)⟩)
  (by kernel_rfl)
#print axioms proved
end partVerifies
end Go.Proofs.YtbeeaekepmnfhaaGreatDoor
