/- RiteRefuses, for every input: true; the input reads as it did. No condition. -/
import Derived.Test.YtofofalgjibokaaGreatDoorCards
import Derived.Test.YtofofalgjibokaaGreatDoorTie
import Derived.Stop.Joined
import Derived.SevenTiedAt
import Derived.Test.YtofofalgjibokaaGreatDoorMLrhPF
set_option maxRecDepth 100000
namespace Go.Proofs.YtofofalgjibokaaGreatDoor
open Go Go.Eng Go.RowKit Cr Go.ChangeShapes Go.WideShapes Go.ChangeAt
namespace riteRefuses
theorem own:ownKnob Tryz.prog.godebug=none:=by kernel_rfl
theorem laidOut:laidOutB Tryz.prog=true:=by kernel_rfl
abbrev uM:aA (.int .i64)->Prop:=fun x=>(Lit.int .i64 x).wf=true
theorem oI:Ki Tryz.prog 3 (.int .i64) uM:=Wz (by kernel_rfl)
theorem pI {x:Int} (h:uM x):fh x:=by
 have:(Lit.int .i64 x).wf=true:=h
 simp[Lit.wf,IntKind.min,IntKind.max,IntKind.signed,IntKind.bits] at this
 exact⟨by omega,by omega⟩
abbrev wtB:aA DH->Prop:=fun ys=>List.length ys*Tryz.prog.bytesOf 5<=reachBytes/\∀ y∈ys,(Lit.int .u8 y).wf=true
theorem oB:Ki Tryz.prog 22 DH wtB:=QZ (e:=5) (by kernel_rfl) (by kernel_rfl) (by decide) (LU (by kernel_rfl))
theorem abX:Tryz.prog.bytesOf 5=1:=by kernel_rfl
theorem pB {xs:List Int} (h:wtB xs):preB xs:=by
 obtain⟨h1,h2⟩:=h
 rw[abX] at h1
 refine⟨fun x hx=>?_,?_⟩
 ·have:=h2 x hx
  simp[Lit.wf,IntKind.min,IntKind.max,IntKind.signed,IntKind.bits] at this
  omega
 ·show List.length xs<=_
  simp only[reachBytes] at h1
  omega
theorem opened:OpnL Tryz.prog [3,3,3,3,3,22] [.int .i64,.int .i64,.int .i64,.int .i64,.int .i64,DH] (fun x=>uM x.1/\uM x.2.1/\uM x.2.2.1/\uM x.2.2.2.1/\uM x.2.2.2.2.1/\wtB x.2.2.2.2.2.1/\True) :=
 .cons oI (by kernel_rfl) (Odt (by kernel_rfl)) (.cons oI (by kernel_rfl) (Odt (by kernel_rfl)) (.cons oI (by kernel_rfl) (Odt (by kernel_rfl)) (.cons oI (by kernel_rfl) (Odt (by kernel_rfl)) (.cons oI (by kernel_rfl) (Odt (by kernel_rfl)) (.cons oB (by kernel_rfl) (Odt (by kernel_rfl)) .nil)))))
theorem lifted (os:Os) (started:os.Started) (H:Type) (enc:TypeId × Value->H) :
  ReturnsInHanded {} Tryz.checked os 5 .any (fun w args=>(Rows.riteRefusesSpec.pre enc Tryz.prog Tryz.f5 Rows.riteRefusesRow.domain false w args/\laidMetH Tryz.prog sha.yT w)/\sizedMet enc Tryz.prog Tryz.f5 (OpenSpec.ofChange Rows.riteRefusesSpec) false w args) (Rows.riteRefusesSpec.post enc Tryz.prog Tryz.f5 false true false false):=by
 refine returnsInHanded_of_change_and (C:=Tryz.checked) (X:=fun w _=>laidMetH Tryz.prog sha.yT w) (fun _ _ _ hh h=>h.of_heap hh) own started (by kernel_rfl) Tryz.func5
  (ChangeSpec.witness_shaped (enc:=enc) (C:=Tryz.checked) (os:=os) (X:=fun w _=>laidMetH Tryz.prog sha.yT w) false (World.doorLaid Tryz.prog 400 os) #[.int .i64 0,.int .i64 0,.int .i64 0,.int .i64 0,.int .i64 0,.slice none 0 0] 8 rfl (World.shaped_of_RefB (by kernel_rfl) (by kernel_rfl)) (by kernel_rfl) (by kernel_rfl) (by kernel_rfl) (sha.Vd os _)) ?_
 intro W base args ds gs before hval hW _ hsz hL _
 refine Wh (C:=Tryz.checked) (bt:=4) (ts:=[3,3,3,3,3,22]) law23.xM law23.Qt laidOut (by kernel_rfl) (by kernel_rfl) (by kernel_rfl) opened ?_ rfl ?_ W (sha.W3 hL) base args ds gs before hval hW hsz
 ·rintro⟨x0,x1,x2,x3,x4,x5,⟨⟩⟩ ⟨h0,h1,h2,h3,h4,h5,_⟩
  exact⟨pI h0,pI h1,pI h2,pI h3,pI h4,pB h5⟩
 ·intro ds hl
  match ds,hl with
  | [d0,d1,d2,d3,d4,d5],_=>rfl
theorem row:Rows.RiteRefusesSaid :=
 OpenClaim.holds_of_wide 5 Tryz.f5 rfl rfl rfl rfl rfl rfl rfl ⟨rfl,rfl,rfl,rfl,rfl⟩ rfl rfl rfl rfl rfl (by kernel_rfl) Tryz.func5 (by kernel_rfl)
  (Odt (by kernel_rfl)) (by unfold Func.isWrapper;first|(rw[if_pos (by decide +kernel)];kernel_rfl)|(rw[if_neg (by decide +kernel)];exact⟨rfl,rfl⟩))
  (fun os started H enc _=>lifted os started H enc)
theorem aga:(Tryz.f5.params.toList.all fun u => !Tryz.prog.wantsStandIn u)=true:=by kernel_rfl
theorem proved:Rows.RiteRefusesCardSaid :=
 Claim7.holds_tied_plain_at .later [] [.data, .data] true (true, "e7a40eb53d92cb3c266063043ce66fa30e8ea5a6c0b7d852d1f2e01ab6e3d7e0") false
  row (fun _ h=>by cases h) (by kernel_rfl) (fun _ h=>by cases h) riteRefuses_row_tie rfl ⟨rfl,rfl⟩ (by kernel_rfl) rfl
  (fun f fn hf hfn=>by
   obtain rfl : f = 5 := Option.some.inj ((show Tryz.prog.funcNamed "cresset/cressetlaw23.RiteRefuses" = some 5 by kernel_rfl).symm.trans hf) |>.symm
   obtain rfl:fn=Tryz.f5:=(Option.some.inj (Tryz.func5.symm.trans hfn)).symm
   exact⟨by kernel_rfl,fun j t ht=>by
    have hm:t∈Tryz.f5.params.toList:=by simpa using Array.mem_of_getElem? ht
    exact (show Tryz.prog.wantsStandIn t=false by simpa using List.all_eq_true.1 aga t hm)⟩)
  (by kernel_rfl)
#print axioms proved
end riteRefuses
end Go.Proofs.YtofofalgjibokaaGreatDoor
