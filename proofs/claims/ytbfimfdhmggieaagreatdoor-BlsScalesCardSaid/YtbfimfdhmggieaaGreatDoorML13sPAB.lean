/- BlsScales, for every input: true; the input reads as it did. No condition. -/
import Derived.LaidLaws
import Derived.LaidHandle
import Derived.LaidMore
import Derived.MakeChecks
import Derived.OpenShut
import Derived.Test.YtbfimfdhmggieaaGreatDoorRows
import Derived.Test.YtbfimfdhmggieaaGreatDoorCards
import Derived.Test.YtbfimfdhmggieaaGreatDoorTie
import Derived.ProofKit
import Derived.Stop.Joined
import Derived.SevenTiedAt
import Derived.Test.YtbfimfdhmggieaaGreatDoorML13sPAA
set_option maxRecDepth 100000
namespace Go.Proofs.YtbfimfdhmggieaaGreatDoor
open Go Go.Eng Cr
abbrev bsl : Kd:=.sl (.int .u8)
abbrev preB (b : List Int) : Prop:=Bs b /\ List.length b <= 281474976710656
end Go.Proofs.YtbfimfdhmggieaaGreatDoor
namespace Go.Proofs.YtbfimfdhmggieaaGreatDoor
open Go Go.Eng Cr
abbrev ok (b : Bool) : Prop:=((b,()) : Bool × Unit)=(true,())
end Go.Proofs.YtbfimfdhmggieaaGreatDoor
namespace Go.Proofs.YtbfimfdhmggieaaGreatDoor.fr
open Go Go.Eng Go.RowKit Cr
theorem ent_zero : enters Tryz.prog 24 Tryz.f24:=ek
abbrev outZero : HL [.fr] -> HO [.val .bool]:=fun (x,_) => (decide ((x : Fr)=0),())
theorem fn_zero : FnOk Tryz.prog 24 [.fr] [.val .bool] noG (fun _ => True) outZero:=by
 refine fn_of_vc (sp:=sps []) snl mixed ent_zero (by decide) (by decide) ?_
 rintro w M0 ⟨x,⟨⟩⟩
 revert x
 intro (x : Fr) _ _
 refine vcx (X:=((eqC Kd.fr x (0 : Fr),())=outZero (x,()))) (by kernel_rfl) ?_
 rfl
noncomputable def spZero : Nat × Eng.Spec:=(24,fnSpec [.fr] [.val .bool] (fun _ => True) outZero)
end Go.Proofs.YtbfimfdhmggieaaGreatDoor.fr
namespace Go.Proofs.YtbfimfdhmggieaaGreatDoor.law13
open Go Go.Eng Go.RowKit Cr sha bls
abbrev pt1 : Kd:=.pair .fp .fp
abbrev pt2 : Kd:=.pair fp2.f2 fp2.f2
abbrev bsl : Kd:=.sl (.int .u8)
theorem no {c : Bool} {P : Prop} (h : c=false) (k : c=true) : P:=by rw [k] at h; cases h
theorem ent_scalar : enters Tryz.prog 12 Tryz.f12:=ek
noncomputable def sca (b : List Int) : Fr:=opq (zm (num b))
theorem fn_scalar : FnOk Tryz.prog 12 [bsl] [.val .fr] noG (fun (b,_) => preB b) (fun (b,_) => (sca b,())):=by
 refine fn_of_vc (sp:=sps [ref01.spCopy,fr.spWide]) (scn (fok ref01.fn_copy) (scn (fok fr.fn_wide) snl)) mixed ent_scalar (by decide) (by decide) ?_
 rintro w M0 ⟨b,⟨⟩⟩
 revert b
 intro (b : List Int) _ hp
 obtain ⟨h1,h2⟩:=hp
 have h2 : b.length <= 281474976710656:=h2
 refine vcx (X:=(ref01.preCopy (b,()) /\ (0 : Nat) + b.length <= b.length /\ fr.preWide (List.take b.length b,()) /\ (zmr (num (List.take b.length b)),())=(sca b,()))) (by kernel_rfl) ?_
 rw [List.take_length,sca,opq_eq]
 exact ⟨h2,Nat.le_of_eq (Nat.zero_add _),⟨h1,by show b.length < _; omega⟩,rfl⟩
noncomputable def spScalar : Nat × Eng.Spec:=(12,fnSpec [bsl] [.val .fr] (fun (b,_) => preB b) (fun (b,_) => (sca b,())))
theorem ent_head : enters Tryz.prog 11 Tryz.f11:=ek
theorem fn_head : FnOk Tryz.prog 11 [] [.val .bool] noG (fun _ => True) (fun _ => (true,())):=by
 refine fn_of_vc (sp:=sps [fr.spOf,spPublic,g2.soGen,g2.soMul,spFits,g1.soGen,g1.soTimes]) (scn (fok fr.fn_of) (scn (fok fn_public) (scn (fok g2.fo_gen) (scn (fok g2.fo_mul) (scn (fok fn_fits) (scn (fok g1.fo_gen) (scn (fok g1.fo_times) snl))))))) mixed ent_head (by decide) (by decide) ?_
 rintro w M0 ⟨⟩ _ _
 refine vcx (X:=(U64 (3 : Int) /\ True /\ True /\ True /\ True /\ True /\ (fto (g1.gmul g1.gG (zmr (3 : Int))) g2.gG (g2.gmul g2.gG (zmr (3 : Int)))=true -> True /\ True /\ 0 + 1 <= 1 /\ g1.preTimes (g1.gG,List.take 1 [(3 : Int)],()) /\ (eqC (Kd.fp.pair Kd.fp) (g1.gmul g1.gG (zmr (3 : Int))) (g1.gtms g1.gG (List.take 1 [(3 : Int)])),())=(true,())) /\ (fto (g1.gmul g1.gG (zmr (3 : Int))) g2.gG (g2.gmul g2.gG (zmr (3 : Int)))=false -> (false,())=(true,())))) (by kernel_rfl) ?_
 have f1 : fto (g1.gmul g1.gG (zmr 3)) g2.gG (g2.gmul g2.gG (zmr 3))=true:=by
  have h:=fto_val (zmr 3) 1 (zmr 3)
  rw [g2.mul_one g2.sub_G,Rg.mul_one,decide_eq_true rfl] at h
  exact h
 have f2 : g1.gmul g1.gG (zmr 3)=g1.gtms g1.gG (List.take 1 [3]):=by
  have hk : Bs (List.take 1 [3]):=by intro x hx; simp at hx; omega
  rw [g1.gmul_eq g1.gG_on,g1.gtms_eq g1.gG_on hk]; rfl
 refine ⟨⟨by decide,by decide⟩,trivial,trivial,trivial,trivial,trivial,fun _ => ⟨trivial,trivial,Nat.le_refl _,⟨by intro x hx; simp at hx; omega,by decide⟩,?_⟩,fun h => no h f1⟩
 rw [(eqC_iff (e:=pt1) _ _).2 f2]
noncomputable def spHead : Nat × Eng.Spec:=(11,fnSpec [] [.val .bool] (fun _ => True) (fun _ => (true,())))
end Go.Proofs.YtbfimfdhmggieaaGreatDoor.law13
namespace Go.Proofs.YtbfimfdhmggieaaGreatDoor.law13
open Go Go.Eng Go.RowKit Cr sha bls
theorem ent_scales : enters Tryz.prog 3 Tryz.f3:=ek
theorem fn_scales : FnOk Tryz.prog 3 [bsl,bsl,bsl] [.val .bool] shaG (fun (a,b,m,_) => preB a /\ preB b /\ preB m) (fun _ => (true,())):=by
 refine fn_of_vc (sp:=sps [spHead,spScalar,spSign,g2.soAdd,spPublic,g1.soAdd,fr.spAdd,spVerify,fr.spZero,fr.spMul,g2.soMul,g1.soMul,spPoint,spFits]) (scn (fok fn_head) (scn (fok fn_scalar) (scn (fgk fn_sign) (scn (fok g2.fo_add) (scn (fok fn_public) (scn (fok g1.fo_add) (scn (fok fr.fn_add) (scn (fgk fn_verify) (scn (fok fr.fn_zero) (scn (fok fr.fn_mul) (scn (fok g2.fo_mul) (scn (fok g1.fo_mul) (scn (fgk fn_point) (scn (fok fn_fits) snl)))))))))))))) mixed ent_scales (by decide) (by decide) ?_
 rintro w M0 ⟨a,b,m,⟨⟩⟩
 revert a b m
 intro (a : List Int) (b : List Int) (m : List Int) _ hp
 obtain ⟨ha,hb,hm⟩:=hp
 refine vcx (X:=(True /\ ((!true)=true -> (false,())=(true,())) /\ ((!true)=false -> (decide ((↑a.length : Int) > (100 : Int))=true -> (true,())=(true,())) /\ (decide ((↑a.length : Int) > (100 : Int))=false -> (decide ((↑b.length : Int) > (100 : Int))=true -> (true,())=(true,())) /\ (decide ((↑b.length : Int) > (100 : Int))=false -> (decide ((↑m.length : Int) > (4096 : Int))=true -> (true,())=(true,())) /\ (decide ((↑m.length : Int) > (4096 : Int))=false -> preB a /\ preB b /\ True /\ (∀ (g : Nat) (s : Sigma Car),shaG g=some s -> Decidable.rec (fun h => (fun x => if g=(1 : Nat) then some ⟨Kd.arr (64 : Nat) uK,rootsL⟩ else none) h) (fun h => (fun x => some ⟨Kd.arr (8 : Nat) uK,firstL⟩) h) (instDecidableEqNat g (0 : Nat))=some s) /\ prePt (m,()) /\ (∀ (g : Nat) (s : Sigma Car),shaG g=some s -> Decidable.rec (fun h => (fun x => if g=(1 : Nat) then some ⟨Kd.arr (64 : Nat) uK,rootsL⟩ else none) h) (fun h => (fun x => some ⟨Kd.arr (8 : Nat) uK,firstL⟩) h) (instDecidableEqNat g (0 : Nat))=some s) /\ prePt (m,()) /\ True /\ (eqC ((Kd.fp.pair Kd.fp).pair (Kd.fp.pair Kd.fp)) (g2.gmul (bpt m) (sca a * sca b)) (g2.gmul (g2.gmul (bpt m) (sca a)) (sca b))=true -> True /\ True /\ True /\ True /\ (eqC (Kd.fp.pair Kd.fp) (g1.gmul g1.gG (sca a * sca b)) (g1.gmul (g1.gmul g1.gG (sca b)) (sca a))=true -> True /\ (∀ (g : Nat) (s : Sigma Car),shaG g=some s -> Decidable.rec (fun h => (fun x => if g=(1 : Nat) then some ⟨Kd.arr (64 : Nat) uK,rootsL⟩ else none) h) (fun h => (fun x => some ⟨Kd.arr (8 : Nat) uK,firstL⟩) h) (instDecidableEqNat g (0 : Nat))=some s) /\ prePt (m,()) /\ True /\ True /\ (∀ (g : Nat) (s : Sigma Car),shaG g=some s -> Decidable.rec (fun h => (fun x => if g=(1 : Nat) then some ⟨Kd.arr (64 : Nat) uK,rootsL⟩ else none) h) (fun h => (fun x => some ⟨Kd.arr (8 : Nat) uK,firstL⟩) h) (instDecidableEqNat g (0 : Nat))=some s) /\ prePt (m,()) /\ True /\ (fto (g1.gmul g1.gG (sca a)) (g2.gmul (bpt m) (sca b)) (g2.gmul (bpt m) (sca a * sca b)),())=(true,())) /\ (eqC (Kd.fp.pair Kd.fp) (g1.gmul g1.gG (sca a * sca b)) (g1.gmul (g1.gmul g1.gG (sca b)) (sca a))=false -> (false,())=(true,()))) /\ (eqC ((Kd.fp.pair Kd.fp).pair (Kd.fp.pair Kd.fp)) (g2.gmul (bpt m) (sca a * sca b)) (g2.gmul (g2.gmul (bpt m) (sca a)) (sca b))=false -> (false,())=(true,())))))))) (by kernel_rfl) ?_
 have hs:=bpt_sub m
 have s1 : g2.gmul (bpt m) (sca a * sca b)=g2.gmul (g2.gmul (bpt m) (sca a)) (sca b):=g2.mul_mul hs _ _
 have p1 : g1.gmul g1.gG (sca a * sca b)=g1.gmul (g1.gmul g1.gG (sca b)) (sca a):=by rw [Rg.mul_comm (sca a),g1.mul_mul g1.sub_G]
 refine ⟨trivial,fun h => absurd h (by decide),fun _ => ⟨fun _ => rfl,fun _ => ⟨fun _ => rfl,fun _ => ⟨fun _ => rfl,fun hl => ?_⟩⟩⟩⟩
 have hl : m.length <= 4096:=by have:=of_decide_eq_false hl; omega
 have pm : prePt (m,()):=by show m.length <= _; omega
 refine ⟨ha,hb,trivial,fun _ _ h => h,pm,fun _ _ h => h,pm,trivial,fun _ => ⟨trivial,trivial,trivial,trivial,fun _ => ⟨trivial,fun _ _ h => h,pm,trivial,trivial,fun _ _ h => h,pm,trivial,?_⟩,fun h => no h ((eqC_iff (e:=pt1) _ _).2 p1)⟩,fun h => no h ((eqC_iff (e:=pt2) _ _).2 s1)⟩
 have e : sca a * (hlg m * sca b)=hlg m * (sca a * sca b):=by ac_rfl
 rw [sig_eq,sig_eq,fto_val,decide_eq_true e]
end Go.Proofs.YtbfimfdhmggieaaGreatDoor.law13
namespace Go.Eng
open Go Go.RowKit Cr Go.ChangeShapes Go.WideShapes Go.ChangeAt
theorem laid_ints {P : Program} {t e : TypeId} {n : Nat} {k : IntKind} {H : Type} {enc : TypeId × Value -> H} {W : World} {fl : Bool} {fuel : Nat} {cs : List Value} {p : List MemPlace} {xs : List Int} (ht : P.underlying t=some (.array n e)) (he : P.underlying e=some (.int k)) (hce : P.cellsOf e=1) (hct : P.cellsOf t=n)
  (h : DataW.trod enc P W 0 (fun _ => true) fl fuel t cs=some (.agg (xs.map fun x => .lit (.int k x)),p)) : cs=xs.map (Value.int k):=by
 obtain ⟨ys,m,rfl,hx,hlen,hn,hel⟩:=DataW.trod_array ht h
 simp only [Prod.mk.injEq,DataW.agg.injEq] at hx
 obtain ⟨hx,_⟩:=hx
 have hxl : xs.length=n:=by
  have:=congrArg List.length hx
  simpa [hn] using this
 refine List.ext_getElem (by rw [hlen,hct,List.length_map,hxl]) fun i h1 h2 => ?_
 have hin : i < n:=by rw [hlen,hct] at h1; exact h1
 have h3:=hel i hin
 rw [hce,Nat.mul_one,List.getElem?_eq_getElem (by omega)] at h3
 obtain ⟨z,e1,e2,_⟩:=DataW.trod_int he h3
 have e3 : (cs.drop i).take 1=[cs[i]]:=by rw [List.drop_eq_getElem_cons h1]; rfl
 rw [e3] at e1
 simp only [List.cons.injEq,and_true] at e1
 have h4 : (xs.map fun x => (DataW.lit (.int k x) : DataW H))[i]?=(ys.map (·.1))[i]?:=by rw [hx]
 rw [List.getElem?_map,List.getElem?_map,List.getElem?_eq_getElem (by omega),List.getElem?_eq_getElem (by omega)] at h4
 simp only [Option.map_some,Option.some.injEq] at h4
 rw [e2] at h4
 simp only [DataW.lit.injEq,Lit.int.injEq,true_and] at h4
 rw [e1,List.getElem_map,h4]
theorem laid_row {P : Program} {W : World} {nm : String} {g n : Nat} {k : IntKind} {cs : Array Value} {xs : List Int} (hg : P.globalNamed nm=some g) (hv : W.var? P nm=some cs) (hcs : cs.toList=xs.map (Value.int k)) (hx : xs.length=n) : RowAt (Rd (memOf W) (.arr n (.int k))) (width (.arr n (.int k))) (memOf W) g 0 [xs]:=by
 have hh : ∃ el fr,W.heap[g]?=some (.cells cs el fr):=by
  simp only [World.var?,hg,Option.bind_some] at hv
  split at hv
  ·rename_i c el fr hh
   simp only [Option.some.injEq] at hv
   subst hv
   exact ⟨el,fr,hh⟩
  ·cases hv
 obtain ⟨el,fr,hh⟩:=hh
 obtain ⟨l⟩:=cs
 have hcs : l=xs.map (Value.int k):=hcs
 refine ⟨l,memOf_blk hh,?_,?_⟩
 ·simp [width,hcs,hx]
 ·rw [List.drop_zero,List.take_of_length_le (by simp [width,hcs,hx])]
  exact RdL_one ⟨hx,RdL_int.2 hcs⟩
theorem law_rowG {C : Checked} {f : FuncId} {fn : Func} {s : ChangeSpec} {bt : TypeId} {ts : List TypeId} {ks : List Kd} {pre pre' : HL ks -> Prop} {H : Type} {enc : TypeId × Value -> H} {G : Glob}
  (he : enters C.prog f fn) (hf : FnOk C.prog f ks [.val .bool] G pre (fun _ => (true,()))) (hl : laidOutB C.prog=true) (hts : fn.params.toList=ts) (hrs : fn.resultTypes=#[bt]) (hbt : C.prog.underlying bt=some .bool)
  (ho : OpnL C.prog ts ks pre') (hpre : ∀ xs,pre' xs -> pre xs) (hv : s.vars=[]) (hs : ∀ ds : List (DataW H),ds.length=ts.length -> s.fn H ds={ results:=[.lit (.bool true)],args:=ds })
  (W : World) (hG : GlOk G (memOf W)) (base : Nat) (args : Array Value) (ds gs : List (DataW H)) (before : List MemPlace)
  (hok : ∀ (j : Nat) t v,fn.params[j]?=some t -> args[j]?=some v -> Value.okWide C.prog W .any base t v)
  (hW : DataW.Whole enc C.prog fn.params.toList s.vars false W args.toList ds gs before)
  (hsz : (DataW.weightsEach C.prog (fn.params.toList ++ s.plain.varTypes C.prog) (ds ++ gs)).all (· <= reachBytes)=true) :
  Calls C.prog f args W fun e W' => ∃ v,e=.returned v /\ s.post enc C.prog fn false true false false W args v W':=by
 have hW':=hW
 have hlt : ∀ x ∈ before,x.block < W.heap.size:=fun x hx => by simpa using hW'.lt x hx
 obtain ⟨p,q,hA,hV,rfl,hfz,hnd⟩:=hW
 rw [hv] at hV
 obtain ⟨rfl,rfl⟩:=trodVars_none hV
 rw [hts] at hA
 have hlen : ds.length=ts.length:=by
  exact trodAll_len hA
 have hwt : ∀ n ∈ DataW.weightsEach C.prog ts ds,n <= reachBytes:=by
  intro n hn
  have e : s.plain.varTypes C.prog=[]:=by simp [DataSpec.varTypes,ChangeSpec.plain,hv]
  rw [e,hts,List.append_nil,List.append_nil,List.all_eq_true] at hsz
  simpa using hsz n hn
 obtain ⟨xs,hin,hp⟩:=opnL_open ho (enc:=enc) (W:=W) (base:=base) (vs:=args.toList) (ds:=ds) (p:=p) (fun j t v ht hj => hok j t v (by rw [<- hts] at ht; simpa using ht) (by simpa using hj)) hA hwt
 have hc:=hf W (memOf W) args.toList xs (fun b l h => h) hG hin (hpre xs hp)
 refine (callOk_calls he hc).mono ?_
 rintro e W' ⟨v,rfl,vs,ob,rfl,⟨v,vs',rfl,hv1,rfl⟩,hb⟩
 have hv1 : v=.bool true:=by have h : [v]=[Value.bool true]:=hv1; simpa using h
 subst hv1
 refine ⟨_,rfl,ds,[],p ++ [],[],p,[],hW',?_,?_,?_,?_,fun h => by cases h⟩
 ·rw [hrs,List.append_nil,hs ds hlen]
  exact trodAll_mk1 (shut_bool hbt true)
 ·rw [hts,List.append_nil,hs ds hlen]
  exact opnL_stays hl ho hb hA (fun x hx => hlt x (by simpa using hx))
 ·rw [hv,List.append_nil,hs ds hlen]
  rfl
 ·exact hb.frame _
end Go.Eng
namespace Go.Proofs.YtbfimfdhmggieaaGreatDoor.sha
open Go Go.Eng Go.RowKit Cr
abbrev shaLaid : List (String × DataW Unit) := [("cresset/sha.first", Rows.laid_cresset_sha_first), ("cresset/sha.roots", Rows.laid_cresset_sha_roots)]
theorem gFirst : Tryz.prog.globalNamed "cresset/sha.first" = some 0 := by kernel_rfl
theorem gRoots : Tryz.prog.globalNamed "cresset/sha.roots" = some 1 := by kernel_rfl
theorem tFirst : (Tryz.prog.globals[0]?).map (·.type)=some 181:=by kernel_rfl
theorem tRoots : (Tryz.prog.globals[1]?).map (·.type)=some 252:=by kernel_rfl
theorem sha_glob {W : World} (h : laidMetH Tryz.prog shaLaid W) : GlOk shaG (memOf W):=by
 rw [MakeChecks.laidMetH_plain _ _ _ (by kernel_rfl)] at h
 obtain ⟨ps,⟨g0,t0,cs0,f0,p0,q0,hg0,ht0,hv0,hd0,⟨g1,t1,cs1,f1,p1,q1,hg1,ht1,hv1,hd1,_,_⟩,_⟩,_,_⟩:=h
 obtain rfl:=Option.some.inj (gFirst.symm.trans hg0)
 obtain rfl:=Option.some.inj (gRoots.symm.trans hg1)
 obtain rfl:=Option.some.inj (tFirst.symm.trans ht0)
 obtain rfl:=Option.some.inj (tRoots.symm.trans ht1)
 have e0 : (Rows.laid_cresset_sha_first : DataW Unit)=.agg (firstL.map fun x => .lit (.int .u32 x)):=rfl
 have e1 : (Rows.laid_cresset_sha_roots : DataW Unit)=.agg (rootsL.map fun x => .lit (.int .u32 x)):=rfl
 rw [e0] at hd0
 rw [e1] at hd1
 have c0:=laid_ints (e:=180) (n:=8) (k:=.u32) (by kernel_rfl) (by kernel_rfl) (by kernel_rfl) (by kernel_rfl) hd0
 have c1:=laid_ints (e:=180) (n:=64) (k:=.u32) (by kernel_rfl) (by kernel_rfl) (by kernel_rfl) (by kernel_rfl) hd1
 have r0:=laid_row hg0 hv0 c0 (n:=8) rfl
 have r1:=laid_row hg1 hv1 c1 (n:=64) rfl
 intro g e x hx
 unfold shaG at hx
 split at hx
 ·rename_i hg
  subst hg
  simp only [Option.some.injEq] at hx
  cases hx
  exact r0
 ·split at hx
  ·rename_i hg
   subst hg
   simp only [Option.some.injEq] at hx
   cases hx
   exact r1
  ·cases hx
theorem door_met (os : Os) (args : Array Value) : laidMetH Tryz.prog shaLaid ((World.doorLaid Tryz.prog 400 os).forCall (fun _ _ => 0) ⟨#[],args,[]⟩).memory :=
 laidMetH_of_parts3 (fuel:=8) (laidMet_of_run' 8 (by kernel_rfl) (by kernel_rfl)) (by kernel_rfl) (by kernel_rfl)
end Go.Proofs.YtbfimfdhmggieaaGreatDoor.sha
namespace Go.Proofs.YtbfimfdhmggieaaGreatDoor
open Go Go.Eng Go.RowKit Cr Go.ChangeShapes Go.WideShapes Go.ChangeAt
namespace blsScales
theorem own : ownKnob Tryz.prog.godebug=none:=by kernel_rfl
theorem laidOut : laidOutB Tryz.prog=true:=by kernel_rfl
abbrev wtB : Car bsl -> Prop:=fun ys => List.length ys * Tryz.prog.bytesOf 5 <= reachBytes /\ ∀ y ∈ ys,(Lit.int .u8 y).wf=true
theorem oB : OpnV Tryz.prog 22 bsl wtB:=opnV_slice (e:=5) (by kernel_rfl) (by kernel_rfl) (by decide) (opnC_int (by kernel_rfl))
theorem bytes5 : Tryz.prog.bytesOf 5=1:=by kernel_rfl
theorem pB {xs : List Int} (h : wtB xs) : preB xs:=by
 obtain ⟨h1,h2⟩:=h
 rw [bytes5] at h1
 refine ⟨fun x hx => ?_,?_⟩
 ·have:=h2 x hx
  simp [Lit.wf,IntKind.min,IntKind.max,IntKind.signed,IntKind.bits] at this
  omega
 ·show List.length xs <= _
  simp only [reachBytes] at h1
  omega
theorem opened : OpnL Tryz.prog [22,22,22] [bsl,bsl,bsl] (fun x => wtB x.1 /\ wtB x.2.1 /\ wtB x.2.2.1 /\ True) :=
 .cons oB (by kernel_rfl) (of_decide_eq_true (by kernel_rfl)) (.cons oB (by kernel_rfl) (of_decide_eq_true (by kernel_rfl)) (.cons oB (by kernel_rfl) (of_decide_eq_true (by kernel_rfl)) .nil))
theorem lifted (os : Os) (started : os.Started) (H : Type) (enc : TypeId × Value -> H) :
  ReturnsInHanded {} Tryz.checked os 3 .any (fun w args => (Rows.blsScalesSpec.pre enc Tryz.prog Tryz.f3 Rows.blsScalesRow.domain false w args /\ laidMetH Tryz.prog sha.shaLaid w) /\ sizedMet enc Tryz.prog Tryz.f3 (OpenSpec.ofChange Rows.blsScalesSpec) false w args) (Rows.blsScalesSpec.post enc Tryz.prog Tryz.f3 false true false false):=by
 refine returnsInHanded_of_change_and (C:=Tryz.checked) (X:=fun w _ => laidMetH Tryz.prog sha.shaLaid w) (fun _ _ _ hh h => h.of_heap hh) own started (by kernel_rfl) Tryz.func3
  (ChangeSpec.witness_shaped (enc:=enc) (C:=Tryz.checked) (os:=os) (X:=fun w _ => laidMetH Tryz.prog sha.shaLaid w) false (World.doorLaid Tryz.prog 400 os) #[.slice none 0 0,.slice none 0 0,.slice none 0 0] 8 rfl (World.shaped_of_RefB (by kernel_rfl) (by kernel_rfl)) (by kernel_rfl) (by kernel_rfl) (by kernel_rfl) (sha.door_met os _)) ?_
 intro W base args ds gs before hval hW _ hsz hL _
 refine law_rowG (C:=Tryz.checked) (bt:=4) (ts:=[22,22,22]) law13.ent_scales law13.fn_scales laidOut (by kernel_rfl) (by kernel_rfl) (by kernel_rfl) opened ?_ rfl ?_ W (sha.sha_glob hL) base args ds gs before hval hW hsz
 ·rintro ⟨x0,x1,x2,⟨⟩⟩ ⟨h0,h1,h2,_⟩
  exact ⟨pB h0,pB h1,pB h2⟩
 ·intro ds hl
  match ds,hl with
  | [d0,d1,d2],_ => rfl
theorem row : Rows.BlsScalesSaid :=
 OpenClaim.holds_of_wide 3 Tryz.f3 rfl rfl rfl rfl rfl rfl rfl ⟨rfl,rfl,rfl,rfl,rfl⟩ rfl rfl rfl rfl rfl (by kernel_rfl) Tryz.func3 (by kernel_rfl)
  (of_decide_eq_true (by kernel_rfl)) (by unfold Func.isWrapper; first | (rw [if_pos (by decide +kernel)]; kernel_rfl) | (rw [if_neg (by decide +kernel)]; exact ⟨rfl,rfl⟩))
  (fun os started H enc _ => lifted os started H enc)
theorem wants : (Tryz.f3.params.toList.all fun u => !Tryz.prog.wantsStandIn u)=true:=by kernel_rfl
theorem proved : Rows.BlsScalesCardSaid :=
 Claim7.holds_tied_plain_at .later [] [.data, .data] true (true, "3128ee89db1ec40bda9256fcc34513e3480cdaa8428549316c97eb3642c1a26e") false
  row (fun _ h => by cases h) (by kernel_rfl) (fun _ h => by cases h) blsScales_row_tie rfl ⟨rfl,rfl⟩ (by kernel_rfl) rfl
  (fun f fn hf hfn => by
   obtain rfl : f = 3 := Option.some.inj ((show Tryz.prog.funcNamed "cresset/cressetlaw13.BlsScales" = some 3 by kernel_rfl).symm.trans hf) |>.symm
   obtain rfl : fn=Tryz.f3:=(Option.some.inj (Tryz.func3.symm.trans hfn)).symm
   exact ⟨by kernel_rfl,fun j t ht => by
    have hm : t ∈ Tryz.f3.params.toList:=by simpa using Array.mem_of_getElem? ht
    exact (show Tryz.prog.wantsStandIn t=false by simpa using List.all_eq_true.1 wants t hm)⟩)
  (by kernel_rfl)
#print axioms proved
end blsScales
end Go.Proofs.YtbfimfdhmggieaaGreatDoor
