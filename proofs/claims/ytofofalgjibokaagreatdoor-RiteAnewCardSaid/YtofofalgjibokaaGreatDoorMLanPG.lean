/- RiteAnew, for every input: true; the input reads as it did. No condition. -/
import Derived.Test.YtofofalgjibokaaGreatDoorCards
import Derived.Test.YtofofalgjibokaaGreatDoorTie
import Derived.Stop.Joined
import Derived.SevenTiedAt
import Derived.Test.YtofofalgjibokaaGreatDoorMLanPF
set_option maxRecDepth 100000
namespace Go.Proofs.YtofofalgjibokaaGreatDoor
open Go Go.Eng Go.RowKit Cr Go.ChangeShapes Go.WideShapes Go.ChangeAt
namespace riteAnew
theorem own:ownKnob Tryz.prog.godebug=none:=by kernel_rfl
theorem laidOut:laidOutB Tryz.prog=true:=by kernel_rfl
abbrev wZ:a6 (.int .i64)->Prop:=fun x=>(Lit.int .i64 x).wf=true
theorem oI:NH Tryz.prog 3 (.int .i64) wZ:=abG (by kernel_rfl)
theorem pI {x:Int} (h:wZ x):gb x:=by
 have:(Lit.int .i64 x).wf=true:=h
 simp[Lit.wf,IntKind.min,IntKind.max,IntKind.signed,IntKind.bits] at this
 exact⟨by omega,by omega⟩
abbrev wtB:a6 Im->Prop:=fun ys=>List.length ys*Tryz.prog.bytesOf 5<=reachBytes/\∀ y∈ys,(Lit.int .u8 y).wf=true
theorem oB:NH Tryz.prog 22 Im wtB:=Vx (e:=5) (by kernel_rfl) (by kernel_rfl) (by decide) (PH (by kernel_rfl))
theorem ahz:Tryz.prog.bytesOf 5=1:=by kernel_rfl
theorem pB {xs:List Int} (h:wtB xs):preB xs:=by
 obtain⟨h1,h2⟩:=h
 rw[ahz] at h1
 refine⟨fun x hx=>?_,?_⟩
 ·have:=h2 x hx
  simp[Lit.wf,IntKind.min,IntKind.max,IntKind.signed,IntKind.bits] at this
  omega
 ·show List.length xs<=_
  simp only[reachBytes] at h1
  omega
theorem opened:OpnL Tryz.prog [3,3,3,3,22] [.int .i64,.int .i64,.int .i64,.int .i64,Im] (fun x=>wZ x.1/\wZ x.2.1/\wZ x.2.2.1/\wZ x.2.2.2.1/\wtB x.2.2.2.2.1/\True) :=
 .cons oI (by kernel_rfl) (Odt (by kernel_rfl)) (.cons oI (by kernel_rfl) (Odt (by kernel_rfl)) (.cons oI (by kernel_rfl) (Odt (by kernel_rfl)) (.cons oI (by kernel_rfl) (Odt (by kernel_rfl)) (.cons oB (by kernel_rfl) (Odt (by kernel_rfl)) .nil))))
theorem lifted (os:Os) (started:os.Started) (H:Type) (enc:TypeId × Value->H) :
  ReturnsInHanded {} Tryz.checked os 4 .any (fun w args=>(Rows.riteAnewSpec.pre enc Tryz.prog Tryz.f4 Rows.riteAnewRow.domain false w args/\laidMetH Tryz.prog sha.BK w)/\sizedMet enc Tryz.prog Tryz.f4 (OpenSpec.ofChange Rows.riteAnewSpec) false w args) (Rows.riteAnewSpec.post enc Tryz.prog Tryz.f4 false true false false):=by
 refine returnsInHanded_of_change_and (C:=Tryz.checked) (X:=fun w _=>laidMetH Tryz.prog sha.BK w) (fun _ _ _ hh h=>h.of_heap hh) own started (by kernel_rfl) Tryz.func4
  (ChangeSpec.witness_shaped (enc:=enc) (C:=Tryz.checked) (os:=os) (X:=fun w _=>laidMetH Tryz.prog sha.BK w) false (World.doorLaid Tryz.prog 400 os) #[.int .i64 0,.int .i64 0,.int .i64 0,.int .i64 0,.slice none 0 0] 8 rfl (World.shaped_of_RefB (by kernel_rfl) (by kernel_rfl)) (by kernel_rfl) (by kernel_rfl) (by kernel_rfl) (sha.aaf os _)) ?_
 intro W base args ds gs before hval hW _ hsz hL _
 refine abk (C:=Tryz.checked) (bt:=4) (ts:=[3,3,3,3,22]) law23.G7 law23.afu laidOut (by kernel_rfl) (by kernel_rfl) (by kernel_rfl) opened ?_ rfl ?_ W (sha.acf hL) base args ds gs before hval hW hsz
 ·rintro⟨x0,x1,x2,x3,x4,⟨⟩⟩ ⟨h0,h1,h2,h3,h4,_⟩
  exact⟨pI h0,pI h1,pI h2,pI h3,pB h4⟩
 ·intro ds hl
  match ds,hl with
  | [d0,d1,d2,d3,d4],_=>rfl
theorem row:Rows.RiteAnewSaid :=
 OpenClaim.holds_of_wide 4 Tryz.f4 rfl rfl rfl rfl rfl rfl rfl ⟨rfl,rfl,rfl,rfl,rfl⟩ rfl rfl rfl rfl rfl (by kernel_rfl) Tryz.func4 (by kernel_rfl)
  (Odt (by kernel_rfl)) (by unfold Func.isWrapper;first|(rw[if_pos (by decide +kernel)];kernel_rfl)|(rw[if_neg (by decide +kernel)];exact⟨rfl,rfl⟩))
  (fun os started H enc _=>lifted os started H enc)
theorem al8:(Tryz.f4.params.toList.all fun u => !Tryz.prog.wantsStandIn u)=true:=by kernel_rfl
theorem proved:Rows.RiteAnewCardSaid :=
 Claim7.holds_tied_plain_at .later [] [.data, .data] true (true, "e7a40eb53d92cb3c266063043ce66fa30e8ea5a6c0b7d852d1f2e01ab6e3d7e0") false
  row (fun _ h=>by cases h) (by kernel_rfl) (fun _ h=>by cases h) riteAnew_row_tie rfl ⟨rfl,rfl⟩ (by kernel_rfl) rfl
  (fun f fn hf hfn=>by
   obtain rfl : f = 4 := Option.some.inj ((show Tryz.prog.funcNamed "cresset/cressetlaw23.RiteAnew" = some 4 by kernel_rfl).symm.trans hf) |>.symm
   obtain rfl:fn=Tryz.f4:=(Option.some.inj (Tryz.func4.symm.trans hfn)).symm
   exact⟨by kernel_rfl,fun j t ht=>by
    have hm:t∈Tryz.f4.params.toList:=by simpa using Array.mem_of_getElem? ht
    exact (show Tryz.prog.wantsStandIn t=false by simpa using List.all_eq_true.1 al8 t hm)⟩)
  (by kernel_rfl)
#print axioms proved
end riteAnew
end Go.Proofs.YtofofalgjibokaaGreatDoor
