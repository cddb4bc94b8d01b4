/- QueryLatest, for every input: true; the input reads as it did. No condition. -/
import Derived.LaidLaws
import Derived.LaidHandle
import Derived.LaidMore
import Derived.MakeChecks
import Derived.OpenShut
import Derived.Lay
import Derived.Test.YteldhmehjkhanaaGreatDoorCards
import Derived.Test.YteldhmehjkhanaaGreatDoorTie
import Derived.Stop.Joined
import Derived.SevenTiedAt
import Derived.Test.YteldhmehjkhanaaGreatDoorML26qPAD
set_option maxRecDepth 100000
namespace Go.Proofs.YteldhmehjkhanaaGreatDoor.h2c
noncomputable section
open Go Go.Eng Go.RowKit Cr fp2 Rg Fd
abbrev csH2e0:=(List.take 8 [(210:Int),(1:Int),(0:Int),(0:Int),(0:Int),(1:Int),(0:Int),(0:Int)])
theorem inv_rt:inv2 tower.rt1=ir:=by
 refine inv2_u ?_
 have h:eqv (vmul irv pairing.rtv) (1,0)=true:=by kernel_rfl
 have h1:=eqv_ok h
 rw[q2_mul,q2_one,pairing.rtv_eq] at h1
 exact h1
theorem fo_root:FnOk Tryz.prog 139 [] [.val f2] noG (fun _=>True) (fun _=>(tower.rt1,())):=tower.fn_root
def soRoot:Nat × Eng.Spec:=(139,fnSpec [] [.val f2] (fun _=>True) (fun _=>(tower.rt1,())))
theorem ent_clr1:enters Tryz.prog 140 Tryz.f140:=ek
theorem fn_clr1:FnOk Tryz.prog 140 [pt2,.ptr f2,.ptr f2] [.val pt2] noG (fun _=>True) (fun (q,s,c,_)=>(((cjg q.1*s,cjg q.2*c):F2 × F2),())):=by
 refine fn_of_vc (sp:=sps [fp2.spConj,fp2.spMul]) (spk (fok fp2.fn_conj) (spk (fok fp2.fn_mul) snl)) mixed ent_clr1 (by decide) (by decide) ?_
 rintro w M0 ⟨q,s,c,⟨⟩⟩
 revert q s c
 intro (q:F2 × F2) (s:F2) (c:F2) _ _
 refine vcx (X:=(True/\(0:Nat)<[s].length/\True/\True/\(0:Nat)<[c].length/\True/\(((q.fst.fst,-q.fst.snd)*s,(q.snd.fst,-q.snd.snd)*c),())=((cjg q.fst*s,cjg q.snd*c),()))) (by kernel_rfl) ?_
 exact⟨trivial,Nat.zero_lt_one,trivial,trivial,Nat.zero_lt_one,trivial,rfl⟩
def spClr1:Nat × Eng.Spec:=(140,fnSpec [pt2,.ptr f2,.ptr f2] [.val pt2] (fun _=>True) (fun (q,s,c,_)=>(((cjg q.1*s,cjg q.2*c):F2 × F2),())))
def clo (p:F2 × F2):F2 × F2:=opq (clr p)
theorem size_ok:Bs csH2e0:=by
 intro x hx;simp at hx;omega
theorem clear_val {p:F2 × F2} (h:g2.Onb p):g2.gsum (List.take 5 [g2.gtms (g2.gtms p (List.take 8 [210,1,0,0,0,1,0,0])) (List.take 8 [210,1,0,0,0,1,0,0]),g2.gtms p (List.take 8 [210,1,0,0,0,1,0,0]),g2.gneg p,g2.gneg (tau (g2.gadd (g2.gtms p (List.take 8 [210,1,0,0,0,1,0,0])) p)),tau (tau (g2.gadd p p))])=clo p:=by
 have hk:Bs [210,1,0,0,0,1,0,0]:=by intro x hx;simp at hx;omega
 have e:List.take 8 [210,1,0,0,0,1,0,0]=([210,1,0,0,0,1,0,0]:List Int):=rfl
 have en:(num [210,1,0,0,0,1,0,0]).toNat=uN:=of_decide_eq_true (by kernel_rfl)
 have oA:OnP tb (nmul p uN):=nmul_on tb_ne h _
 have oB:OnP tb (nmul (nmul p uN) uN):=nmul_on tb_ne oA _
 have oC:=pneg_onP (b:=tb) h
 have oD:OnP tb (pneg (tau (padd (nmul p uN) p))):=pneg_onP (ad_tau.on _ (padd_on tb_ne oA h))
 have oE:OnP tb (tau (tau (padd p p))):=ad_tau.on _ (ad_tau.on _ (padd_on tb_ne h h))
 rw[e,g2.gtms_eq h hk,en,g2.gtms_eq oA hk,en,g2.gneg_eq,g2.gneg_eq,g2.gadd_eq oA h,g2.gadd_eq h h]
 show g2.gsum [_,_,_,_,_]=_
 rw[g2.gsum_eq,clo,opq_eq];· rfl
 intro q hq
 simp only[List.mem_cons,List.not_mem_nil,or_false] at hq
 rcases hq with h|h|h|h|h
 ·rw[h];exact oB
 ·rw[h];exact oA
 ·rw[h];exact oC
 ·rw[h];exact oD
 ·rw[h];exact oE
theorem ent_clear:enters Tryz.prog 101 Tryz.f101:=ek
theorem fn_clear:FnOk Tryz.prog 101 [pt2] [.val pt2] noG (fun (p,_)=>g2.Onb p) (fun (p,_)=>(clo p,())):=by
 refine fn_of_vc (sp:=sps [soRoot,fp2.spInv,fp2.spSquare,fp2.spMul,g2.soTimes,g2.soNeg,g2.soAdd,spClr1,g2.soSum]) (spk (fok fo_root) (spk (fok fp2.fn_inv) (spk (fok fp2.fn_square) (spk (fok fp2.fn_mul) (spk (fok g2.fo_times) (spk (fok g2.fo_neg) (spk (fok g2.fo_add) (spk (fok fn_clr1) (spk (fok g2.fo_sum) snl))))))))) mixed ent_clear (by decide) (by decide) ?_
 rintro w M0 ⟨p,⟨⟩⟩
 revert p
 intro (p:F2 × F2) _ hp
 have hp:g2.Onb p:=hp
 refine vcx (X:=(True/\True/\True/\True/\0+8<=8/\g2.preTimes (p,List.take 8 [(210:Int),(1:Int),(0:Int),(0:Int),(0:Int),(1:Int),(0:Int),(0:Int)],())/\0+8<=8/\g2.preTimes (g2.gtms p csH2e0,List.take 8 [(210:Int),(1:Int),(0:Int),(0:Int),(0:Int),(1:Int),(0:Int),(0:Int)],())/\True/\True/\True/\True/\True/\True/\True/\0+5<=5/\g2.preSum (List.take 5 [g2.gtms (g2.gtms p csH2e0) csH2e0,g2.gtms p csH2e0,g2.gneg p,g2.gneg (cjg (g2.gadd (g2.gtms p csH2e0) p).fst*(inv2 (tower.rootK,-tower.rootK)*inv2 (tower.rootK,-tower.rootK)),cjg (g2.gadd (g2.gtms p csH2e0) p).snd*(inv2 (tower.rootK,-tower.rootK)*inv2 (tower.rootK,-tower.rootK)*inv2 (tower.rootK,-tower.rootK))),(cjg (cjg (g2.gadd p p).fst*(inv2 (tower.rootK,-tower.rootK)*inv2 (tower.rootK,-tower.rootK)))*(inv2 (tower.rootK,-tower.rootK)*inv2 (tower.rootK,-tower.rootK)),cjg (cjg (g2.gadd p p).snd*(inv2 (tower.rootK,-tower.rootK)*inv2 (tower.rootK,-tower.rootK)*inv2 (tower.rootK,-tower.rootK)))*(inv2 (tower.rootK,-tower.rootK)*inv2 (tower.rootK,-tower.rootK)*inv2 (tower.rootK,-tower.rootK)))],())/\(g2.gsum (List.take 5 [g2.gtms (g2.gtms p csH2e0) csH2e0,g2.gtms p csH2e0,g2.gneg p,g2.gneg (cjg (g2.gadd (g2.gtms p csH2e0) p).fst*(inv2 (tower.rootK,-tower.rootK)*inv2 (tower.rootK,-tower.rootK)),cjg (g2.gadd (g2.gtms p csH2e0) p).snd*(inv2 (tower.rootK,-tower.rootK)*inv2 (tower.rootK,-tower.rootK)*inv2 (tower.rootK,-tower.rootK))),(cjg (cjg (g2.gadd p p).fst*(inv2 (tower.rootK,-tower.rootK)*inv2 (tower.rootK,-tower.rootK)))*(inv2 (tower.rootK,-tower.rootK)*inv2 (tower.rootK,-tower.rootK)),cjg (cjg (g2.gadd p p).snd*(inv2 (tower.rootK,-tower.rootK)*inv2 (tower.rootK,-tower.rootK)*inv2 (tower.rootK,-tower.rootK)))*(inv2 (tower.rootK,-tower.rootK)*inv2 (tower.rootK,-tower.rootK)*inv2 (tower.rootK,-tower.rootK)))]),())=(clo p,()))) (by kernel_rfl) ?_
 have e:inv2 (tower.rootK,-tower.rootK)=ir:=inv_rt
 rw[e]
 refine⟨trivial,trivial,trivial,trivial,Nat.le_refl _,⟨size_ok,by decide⟩,Nat.le_refl _,⟨size_ok,by decide⟩,trivial,trivial,trivial,trivial,trivial,trivial,trivial,Nat.le_refl _,by show 5<_;decide,?_⟩
 exact congrArg (fun x=>(x,())) (clear_val hp)
def spClear:Nat × Eng.Spec:=(101,fnSpec [pt2] [.val pt2] (fun (p,_)=>g2.Onb p) (fun (p,_)=>(clo p,())))
end
end Go.Proofs.YteldhmehjkhanaaGreatDoor.h2c
namespace Go.Proofs.YteldhmehjkhanaaGreatDoor.h2c
noncomputable section
open Go Go.Eng Go.RowKit Cr fp2 sha xmd
theorem fn_nuF:FnOk Tryz.prog 98 [bsl,bsl,.int .i64] [.val (.sl fp2.f2),.val (.int .i64)] shaG preEx (fun (m,t,n,_)=>((nuA m t n).1,(nuA m t n).2,())):=fn_numbers.frz2
def spNuF:Nat × Eng.Spec:=(98,fnSpecG shaG [bsl,bsl,.int .i64] [.val (.sl fp2.f2),.val (.int .i64)] preEx (fun (m,t,n,_)=>((nuA m t n).1,(nuA m t n).2,())))
def u0 (m t:List Int):F2:=opq (nmb (expo m t 256) 0)
def u1 (m t:List Int):F2:=opq (nmb (expo m t 256) 1)
theorem nuA_2 (m t:List Int):nuA m t 2=([u0 m t,u1 m t],0):=by
 rw[nuA,u0,u1,opq_eq,opq_eq,<- nums_two];rfl
def hpt (m t:List Int):F2 × F2:=opq (clo (padd (mapo (u0 m t)) (mapo (u1 m t))))
def hsK (us:List F2) (k:Nat):F2 × F2:=it (fun i s=>g2.gadd s (mapo (us.getD i ((0:Fp),(0:Fp))))) (((0:Fp),(0:Fp)),(0:Fp),(0:Fp)) k
def hsI (us:List F2) (g:Int × (F2 × F2)):St:=mkSt Tryz.f73.ntmps 104 [(4,.is (.one (.ptr 0 0))),(7,.is (.one (.ptr 72 0))),(16,.is (.one (.ro fp2.f2 us))),(17,sI .i64 us.length),(18,sI .i64 g.1)] [(72,cellsOf pt2 g.2),(0,cellsOf pt2 ((((0:Fp),(0:Fp)),(0:Fp),(0:Fp)):F2 × F2))]
theorem hsK_2 (a b:F2):hsK [a,b] 2=padd (mapo a) (mapo b):=by
 show g2.gadd (g2.gadd O2 (mapo a)) (mapo b)=_
 have oO:OnP tb (O2:F2 × F2):=.inl rfl
 rw[g2.gadd_eq oO (mapo_on a),O_add,g2.gadd_eq (mapo_on a) (mapo_on b)]
theorem ent_hash:enters Tryz.prog 73 Tryz.f73:=ek
abbrev preHs:HL [bsl,bsl]->Prop:=fun (m,t,_)=>List.length m<=1048576/\List.length t<=1048576
theorem fn_hash:FnOk Tryz.prog 73 [bsl,bsl] [.val pt2] shaG preHs (fun (m,t,_)=>(hpt m t,())):=by
 have hsp:SpecsOk Tryz.prog (sps [spNuF,spMap,g2.soAdd,spClear]):=spk (fgk fn_nuF) (spk (fok fn_map) (spk (fok g2.fo_add) (spk (fok fn_clear) snl)))
 refine fn_of_tr (sp:=sps [spNuF,spMap,g2.soAdd,spClear]) ent_hash (by decide) (by decide) (by kernel_rfl) ?_
 rintro w M0 ⟨m,t,⟨⟩⟩
 revert m t
 intro (m:List Int) (t:List Int) hw hp
 have hm:m.length<=1048576:=hp.1
 have ht:t.length<=1048576:=hp.2
 show Tr _ _ _ _ _ _ _
 refine tr_cutF hsp mixed 4 (fun σ=>rdO fp2.f2 5 σ) (fun us=>hsI us (0,(((0:Fp),(0:Fp)),(0:Fp),(0:Fp)))) (fun us=>us=[u0 m t,u1 m t]) ?_ ?_
 ·refine vcx (X:=((∀ (g:Nat) (s:Sigma Car),shaG g=some s->Decidable.rec (fun h=>(fun x=>if g=(1:Nat) then some ⟨Kd.arr (64:Nat) uK,rootsL⟩ else none) h) (fun h=>(fun x=>some ⟨Kd.arr (8:Nat) uK,firstL⟩) h) (instDecidableEqNat g (0:Nat))=some s)/\preEx (m,t,(2:Int),())/\(hsI ((nuA m t (2:Int)).fst,(nuA m t (2:Int)).snd,()).fst ((0:Int),((0:Fp),(0:Fp)),(0:Fp),(0:Fp))).triv ((nuA m t (2:Int)).fst=[u0 m t,u1 m t]))) (by kernel_rfl) ?_
  rw[nuA_2]
  exact⟨fun _ _ h=>h,⟨hm,ht⟩,tvi rfl⟩
 rintro us hus
 revert us
 intro (us:List F2) (hus:us=[u0 m t,u1 m t])
 have hl:us.length=2:=by rw[hus];rfl
 refine tr_while hsp mixed noSw (fun σ=>(rdS (.int .i64) 18 σ,rdB pt2 72 σ)) (hsI us) (fun g=>∃ k:Nat,k<=2/\g.1=(k:Int)/\g.2=hsK us k) (fun g=>2-g.1.toNat)
  (fun σ=>(rdS (.int .i64) 18 σ,rdB pt2 72 σ)) (hsI us) (fun g=>g.2=padd (mapo (u0 m t)) (mapo (u1 m t))) (0,(((0:Fp),(0:Fp)),(0:Fp),(0:Fp))) (c:=nthC (codeOf Tryz.f73) 4) (by kernel_rfl) (by kernel_rfl) (le_of_proj (by kernel_rfl) (by kernel_rfl) ?_) ?_ ?_
 ·exact⟨0,Nat.zero_le _,rfl,rfl⟩
 ·rintro⟨i,s⟩ hj
  revert i s
  intro (i:Int) (s:F2 × F2) ⟨k,hk,ei,es⟩
  have ei:i=(k:Int):=ei
  have ks:s=hsK us k:=es
  subst ei
  refine vcx (X:=((decide ((↑k:Int)<(↑us.length:Int))=true->((0:Int)<=(↑k:Int)/\(↑k:Int)<(↑us.length:Int))/\(↑k:Int).toNat<us.length/\True/\True/\(hsI us (IntKind.i64.wrap ((↑k:Int)+(1:Int)),g2.gadd s (mapo (us.getD (↑k:Int).toNat ((0:Fp),(0:Fp)))))).triv ((∃ k_1,k_1<=(2:Nat)/\IntKind.i64.wrap ((↑k:Int)+(1:Int))=(↑k_1:Int)/\g2.gadd s (mapo (us.getD (↑k:Int).toNat ((0:Fp),(0:Fp))))=hsK us k_1)/\(2:Nat)-(IntKind.i64.wrap ((↑k:Int)+(1:Int))).toNat<(2:Nat)-(↑k:Int).toNat))/\(decide ((↑k:Int)<(↑us.length:Int))=false->(hsI us ((↑k:Int),s)).triv (s=padd (mapo (u0 m t)) (mapo (u1 m t)))))) (by kernel_rfl) ?_
  rw[hl]
  refine⟨fun h=>?_,fun h=>tvi ?_⟩
  ·have hlt:k<2:=by have:=of_decide_eq_true h;omega
   rw[wrap_succ (by omega)]
   refine⟨⟨by omega,by omega⟩,hlt,trivial,trivial,tvi ⟨⟨k+1,hlt,rfl,?_⟩,?_⟩⟩
   ·rw[ks,Int.toNat_natCast];rfl
   ·rw[Int.toNat_natCast,Int.toNat_natCast];omega
  ·have h2:k=2:=by have:=of_decide_eq_false h;omega
   rw[ks,h2,hus,hsK_2]
 rintro⟨i,s⟩ hj
 revert i s
 intro (i:Int) (s:F2 × F2) (hj:s=padd (mapo (u0 m t)) (mapo (u1 m t)))
 refine tr_vc hsp mixed _ _ ?_
 refine vcx (X:=(g2.Onb s/\(clo s,())=(hpt m t,()))) (by kernel_rfl) ?_
 rw[hj]
 refine⟨padd_on tb_ne (mapo_on _) (mapo_on _),?_⟩
 rw[hpt,opq_eq]
def spHash:Nat × Eng.Spec:=(73,fnSpecG shaG [bsl,bsl] [.val pt2] preHs (fun (m,t,_)=>(hpt m t,())))
end
end Go.Proofs.YteldhmehjkhanaaGreatDoor.h2c
namespace Go.Proofs.YteldhmehjkhanaaGreatDoor.g2
open Go Go.Eng Go.RowKit Cr fp2 Rg Fd
end Go.Proofs.YteldhmehjkhanaaGreatDoor.g2
namespace Go.Proofs.YteldhmehjkhanaaGreatDoor.pairing
open Go Go.Eng Go.RowKit Cr fp2 tower
end Go.Proofs.YteldhmehjkhanaaGreatDoor.pairing
namespace Go.Proofs.YteldhmehjkhanaaGreatDoor.pairing
open Go Go.Eng Go.RowKit Cr fp2 tower
end Go.Proofs.YteldhmehjkhanaaGreatDoor.pairing
namespace Go.Proofs.YteldhmehjkhanaaGreatDoor.g1
open Go Go.Eng Go.RowKit Cr
end Go.Proofs.YteldhmehjkhanaaGreatDoor.g1
namespace Go.Proofs.YteldhmehjkhanaaGreatDoor.g2
open Go Go.Eng Go.RowKit Cr fp2
end Go.Proofs.YteldhmehjkhanaaGreatDoor.g2
namespace Go.Proofs.YteldhmehjkhanaaGreatDoor.bls
noncomputable section
open Go Go.Eng Go.RowKit Cr fp2 sha
abbrev pt1:Kd:=.pair .fp .fp
abbrev pt2:Kd:=.pair fp2.f2 fp2.f2
abbrev bsl:Kd:=.sl (.int .u8)
def btag:List Int:=[66,76,83,95,83,73,71,95,66,76,83,49,50,51,56,49,71,50,95,88,77,68,58,83,72,65,45,50,53,54,95,83,83,87,85,95,82,79,95,78,85,76,95]
def bpt (msg:List Int):F2 × F2:=opq (h2c.hpt msg btag)
theorem ent_public:enters Tryz.prog 16 Tryz.f16:=ek
theorem fn_public:FnOk Tryz.prog 16 [.fr] [.val pt1] noG (fun _=>True) (fun (k,_)=>(g1.gmul g1.gG k,())):=by
 refine fn_of_vc (sp:=sps [g1.soGen,g1.soMul]) (spk (fok g1.fo_gen) (spk (fok g1.fo_mul) snl)) mixed ent_public (by decide) (by decide) ?_
 rintro w M0 ⟨k,⟨⟩⟩
 revert k
 intro (k:Fr) _ _
 refine vcx (X:=(True/\True/\(g1.gmul g1.gG k,())=(g1.gmul g1.gG k,()))) (by kernel_rfl) ?_
 exact⟨trivial,trivial,rfl⟩
def spPublic:Nat × Eng.Spec:=(16,fnSpec [.fr] [.val pt1] (fun _=>True) (fun (k,_)=>(g1.gmul g1.gG k,())))
theorem ent_point:enters Tryz.prog 44 Tryz.f44:=ek
abbrev prePt:HL [bsl]->Prop:=fun (m,_)=>List.length m<=1048576
theorem fn_point:FnOk Tryz.prog 44 [bsl] [.val pt2] shaG prePt (fun (m,_)=>(bpt m,())):=by
 refine fn_of_vc (sp:=sps [h2c.spHash]) (spk (fgk h2c.fn_hash) snl) mixed ent_point (by decide) (by decide) ?_
 rintro w M0 ⟨m,⟨⟩⟩
 revert m
 intro (m:List Int) _ hm
 refine vcx (X:=((∀ (g:Nat) (s:Sigma Car),shaG g=some s->Decidable.rec (fun h=>(fun x=>if g=(1:Nat) then some ⟨Kd.arr (64:Nat) uK,rootsL⟩ else none) h) (fun h=>(fun x=>some ⟨Kd.arr (8:Nat) uK,firstL⟩) h) (instDecidableEqNat g (0:Nat))=some s)/\(0:Nat)+(nat_lit 42+(1:Nat))<=(43:Nat)/\h2c.preHs (m,List.take (nat_lit 42+(1:Nat)) [(66:Int),(76:Int),(83:Int),(95:Int),(83:Int),(73:Int),(71:Int),(95:Int),(66:Int),(76:Int),(83:Int),(49:Int),(50:Int),(51:Int),(56:Int),(49:Int),(71:Int),(50:Int),(95:Int),(88:Int),(77:Int),(68:Int),(58:Int),(83:Int),(72:Int),(65:Int),(45:Int),(50:Int),(53:Int),(54:Int),(95:Int),(83:Int),(83:Int),(87:Int),(85:Int),(95:Int),(82:Int),(79:Int),(95:Int),(78:Int),(85:Int),(76:Int),(95:Int)],())/\(h2c.hpt m (List.take (nat_lit 42+(1:Nat)) [(66:Int),(76:Int),(83:Int),(95:Int),(83:Int),(73:Int),(71:Int),(95:Int),(66:Int),(76:Int),(83:Int),(49:Int),(50:Int),(51:Int),(56:Int),(49:Int),(71:Int),(50:Int),(95:Int),(88:Int),(77:Int),(68:Int),(58:Int),(83:Int),(72:Int),(65:Int),(45:Int),(50:Int),(53:Int),(54:Int),(95:Int),(83:Int),(83:Int),(87:Int),(85:Int),(95:Int),(82:Int),(79:Int),(95:Int),(78:Int),(85:Int),(76:Int),(95:Int)]),())=(bpt m,()))) (by kernel_rfl) ?_
 refine⟨fun _ _ h=>h,by decide,⟨hm,by decide⟩,?_⟩
 rw[bpt,opq_eq];rfl
def spPoint:Nat × Eng.Spec:=(44,fnSpecG shaG [bsl] [.val pt2] prePt (fun (m,_)=>(bpt m,())))
theorem ent_sign:enters Tryz.prog 18 Tryz.f18:=ek
theorem fn_sign:FnOk Tryz.prog 18 [.fr,bsl] [.val pt2] shaG (fun (_,m,_)=>prePt (m,())) (fun (k,m,_)=>(g2.gmul (bpt m) k,())):=by
 refine fn_of_vc (sp:=sps [spPoint,g2.soMul]) (spk (fgk fn_point) (spk (fok g2.fo_mul) snl)) mixed ent_sign (by decide) (by decide) ?_
 rintro w M0 ⟨k,m,⟨⟩⟩
 revert k m
 intro (k:Fr) (m:List Int) _ hm
 refine vcx (X:=((∀ (g:Nat) (s:Sigma Car),shaG g=some s->Decidable.rec (fun h=>(fun x=>if g=(1:Nat) then some ⟨Kd.arr (64:Nat) uK,rootsL⟩ else none) h) (fun h=>(fun x=>some ⟨Kd.arr (8:Nat) uK,firstL⟩) h) (instDecidableEqNat g (0:Nat))=some s)/\prePt (m,())/\True/\(g2.gmul (bpt m) k,())=(g2.gmul (bpt m) k,()))) (by kernel_rfl) ?_
 exact⟨fun _ _ h=>h,hm,trivial,rfl⟩
def spSign:Nat × Eng.Spec:=(18,fnSpecG shaG [.fr,bsl] [.val pt2] (fun (_,m,_)=>prePt (m,())) (fun (k,m,_)=>(g2.gmul (bpt m) k,())))
end
end Go.Proofs.YteldhmehjkhanaaGreatDoor.bls
namespace Go.Proofs.YteldhmehjkhanaaGreatDoor
open Go Go.Eng Cr
def Ck (c:Bool) (T:Prop):Prop:=(c=true->T)/\(c=false->((false,()):Bool × Unit)=(true,()))
theorem ck {c:Bool} {T:Prop} (h:c=true) (t:T):Ck c T:=⟨fun _=>t,fun e=>by rw[h] at e;cases e⟩
abbrev ok (b:Bool):Prop:=((b,()):Bool × Unit)=(true,())
end Go.Proofs.YteldhmehjkhanaaGreatDoor
namespace Go.Proofs.YteldhmehjkhanaaGreatDoor.fp2
open Go Go.Eng Go.RowKit Cr Go.Proofs.YteldhmehjkhanaaGreatDoor
theorem ent_bytes:enters Tryz.prog 42 Tryz.f42:=ek
def by2 (x:F2):List Int:=bytesN 48 x.2.v++bytesN 48 x.1.v
abbrev outBytes:HL [f2]->HO [.val (.arr 96 (.int .u8))]:=fun (x,_)=>(by2 x,())
theorem fn_bytes:FnOk Tryz.prog 42 [f2] [.val (.arr 96 (.int .u8))] noG (fun _=>True) outBytes:=by
 refine fn_of_vc (sp:=sps [fp.spBytes]) (spk (fok fp.fn_bytes) snl) mixed ent_bytes (by decide) (by decide) ?_
 rintro w M0 ⟨x,⟨⟩⟩
 revert x
 intro (x:F2) _ _
 exact vcx (X:=(True/\True/\((0:Int)<=48/\(48:Int)<=((96:Nat):Int))/\(0:Nat)+48<=48/\(0:Nat)+48<=96/\((0:Int)<=48/\(48:Int)<=((96:Nat):Int))/\(0:Nat)+48<=48/\(48:Nat)+48<=96/\((by2 x,()):List Int × Unit)=outBytes (x,()))) (by kernel_rfl) ⟨trivial,trivial,by decide,by decide,by decide,by decide,by decide,by decide,rfl⟩
noncomputable def spBytes:Nat × Eng.Spec:=(42,fnSpec [f2] [.val (.arr 96 (.int .u8))] (fun _=>True) outBytes)
theorem ent_large:enters Tryz.prog 43 Tryz.f43:=ek
def lg2 (x:F2):Bool:=if x.2=0 then decide ((-x.1).v<x.1.v) else decide ((-x.2).v<x.2.v)
abbrev outLarge:HL [f2]->HO [.val .bool]:=fun (x,_)=>(lg2 x,())
theorem fn_large:FnOk Tryz.prog 43 [f2] [.val .bool] noG (fun _=>True) outLarge:=by
 refine fn_of_vc (sp:=sps [fp.spZero,fp.spLarge]) (spk (fok fp.fn_zero) (spk (fok fp.fn_large) snl)) mixed ent_large (by decide) (by decide) ?_
 rintro w M0 ⟨x,⟨⟩⟩
 revert x
 intro (x:F2) _ _
 refine vcx (X:=(True/\(decide (x.snd=(0:Zm Mp))=true->True/\(decide ((-x.fst).v<x.fst.v),())=outLarge (x,()))/\(decide (x.snd=(0:Zm Mp))=false->True/\(decide ((-x.snd).v<x.snd.v),())=outLarge (x,())))) (by kernel_rfl) ?_
 refine⟨trivial,fun h=>⟨trivial,?_⟩,fun h=>⟨trivial,?_⟩⟩
 ·show _=(lg2 x,())
  rw[lg2,if_pos (of_decide_eq_true h)]
 ·show _=(lg2 x,())
  rw[lg2,if_neg (of_decide_eq_false h)]
noncomputable def spLarge:Nat × Eng.Spec:=(43,fnSpec [f2] [.val .bool] (fun _=>True) outLarge)
end Go.Proofs.YteldhmehjkhanaaGreatDoor.fp2
namespace Go.Proofs.YteldhmehjkhanaaGreatDoor.codec
open Go Go.Eng Go.RowKit Cr Go.Proofs.YteldhmehjkhanaaGreatDoor
end Go.Proofs.YteldhmehjkhanaaGreatDoor.codec
namespace Go.Proofs.YteldhmehjkhanaaGreatDoor.codec
open Go Go.Eng Go.RowKit Cr
end Go.Proofs.YteldhmehjkhanaaGreatDoor.codec
namespace Go.Proofs.YteldhmehjkhanaaGreatDoor.codec
open Go Go.Eng Go.RowKit Cr
end Go.Proofs.YteldhmehjkhanaaGreatDoor.codec
namespace Go.Proofs.YteldhmehjkhanaaGreatDoor.codec
open Go Go.Eng Go.RowKit Cr
def BD (l:List Int):Prop:=1<=l.length/\0<=l.getD 0 0/\l.getD 0 0<32
theorem BD.cons {l:List Int} (h:BD l):∃ (v:Nat) (t:List Int),v<32/\l=((v:Nat):Int)::t:=by
 obtain⟨h1,h2,h3⟩:=h
 cases l with
 | nil=>simp at h1
 | cons a t =>
  simp at h2 h3
  exact⟨a.toNat,t,by omega,by rw[Int.toNat_of_nonneg h2]⟩
structure Frm (F:Type) where
 n:Nat
 bts:F->List Int
 rd:List Int->F × Int
 lg:F->Bool
 rt:F->F
 gon:F × F->Bool
 gin:F × F->Bool
section
variable {F:Type} [Cr.Fd F] [DecidableEq F]
structure Frm.Ok (S:Frm F):Prop where
 n0:1<=S.n
 len:∀ x,(S.bts x).length=S.n
 bs:∀ x,Bs (S.bts x)
 hd:∀ x,(S.bts x).getD 0 0<32
 rdb:∀ x,S.rd (S.bts x)=(x,0)
 brd:∀ b,Bs b->(S.rd b).2=0->S.bts (S.rd b).1=b
 lgn:∀ y,y≠0->S.lg (-y)=!S.lg y
 z:S.bts 0=List.replicate S.n 0
 root:∀ x y,S.gon (x,y)=true->(x,y)≠((0:F),(0:F))->y=S.rt x\/y=-S.rt x
 on0:S.gon (0,0)=true
 in0:S.gin (0,0)=true
 iny:∀ x y,S.gon (x,y)=true->S.gin (x,y)=true->(x,y)≠((0:F),(0:F))->y≠0/\x≠0
 onn:∀ x y,S.gon (x,y)=true->S.gon (x,-y)=true
 inn:∀ x y,S.gon (x,y)=true->S.gin (x,y)=true->S.gin (x,-y)=true
def Frm.short (S:Frm F) (p:F × F):List Int:=(S.bts p.1).set 0 (bitOp .or .u8 ((S.bts p.1).getD 0 0) (if p=((0:F),(0:F)) then (192:Int) else if S.lg p.2=true then 160 else 128))
def Frm.full (S:Frm F) (p:F × F):List Int:=if p=((0:F),(0:F)) then (S.bts p.1++S.bts p.2).set 0 (bitOp .or .u8 ((S.bts p.1++S.bts p.2).getD 0 0) 64) else S.bts p.1++S.bts p.2
variable {S:Frm F}
omit [DecidableEq F] in
theorem Frm.Ok.nz (h:S.Ok) {x:F} (hx:x≠0):∃ v∈S.bts x,v≠0:=by
 refine Classical.byContradiction fun c=>hx ?_
 have e:S.bts x=List.replicate S.n 0:=by
  rw[<- h.len x]
  refine List.eq_replicate_of_mem fun v hv=>Classical.byContradiction fun c2=>c ⟨v,hv,c2⟩
 have h1:=h.rdb x
 rw[e,<- h.z,h.rdb] at h1
 exact (congrArg Prod.fst h1).symm
end
end Go.Proofs.YteldhmehjkhanaaGreatDoor.codec
namespace Go.Proofs.YteldhmehjkhanaaGreatDoor.codec
open Go Go.Eng Go.RowKit Cr Go.Proofs.YteldhmehjkhanaaGreatDoor
theorem ent_g2:enters Tryz.prog 17 Tryz.f17:=ek
def g2b (p:F2 × F2):List Int:=(fp2.by2 p.1).set 0 (bitOp .or .u8 ((fp2.by2 p.1).getD 0 0) (if eqC (.pair (.pair .fp .fp) (.pair .fp .fp)) p ((0,0),(0,0))=true then (192:Int) else if fp2.lg2 p.2=true then 160 else 128))
abbrev outG2:HL [g2.pt2]->HO [.val (.arr 96 (.int .u8))]:=fun (p,_)=>(g2b p,())
theorem fn_g2:FnOk Tryz.prog 17 [g2.pt2] [.val (.arr 96 (.int .u8))] noG (fun _=>True) outG2:=by
 refine fn_of_vc (sp:=sps [fp2.spBytes,fp2.spLarge,spMark]) (spk (fok fp2.fn_bytes) (spk (fok fp2.fn_large) (spk (fok fn_mark) snl))) mixed ent_g2 (by decide) (by decide) ?_
 rintro w M0 ⟨⟨x,y⟩,⟨⟩⟩ _ _
 refine vcx (X:=(True/\True/\True/\(0:Nat)<96/\((g2b (x,y),()):List Int × Unit)=outG2 ((x,y),()))) (by kernel_rfl) ⟨trivial,trivial,trivial,by decide,rfl⟩
end Go.Proofs.YteldhmehjkhanaaGreatDoor.codec
namespace Go.Proofs.YteldhmehjkhanaaGreatDoor.law09
open Go Go.Eng Go.RowKit Cr Go.Proofs.YteldhmehjkhanaaGreatDoor Go.Proofs.YteldhmehjkhanaaGreatDoor.codec
end Go.Proofs.YteldhmehjkhanaaGreatDoor.law09
namespace Cr
open Rg Fd Go.Eng
section
variable {F:Type} [Fd F] {b:F}
end
end Cr
namespace Go.Proofs.YteldhmehjkhanaaGreatDoor.codec
open Go Go.Eng Go.RowKit Cr Go.Proofs.YteldhmehjkhanaaGreatDoor Rg Fd
end Go.Proofs.YteldhmehjkhanaaGreatDoor.codec
namespace Go.Proofs.YteldhmehjkhanaaGreatDoor.codec
open Go Go.Eng Go.RowKit Cr
end Go.Proofs.YteldhmehjkhanaaGreatDoor.codec
namespace Cr
open Rg Fd
section
variable {F:Type} [Rg F]
end
section
variable {F:Type} [Fd F]
end
end Cr
namespace Cr
end Cr
namespace Go.Proofs.YteldhmehjkhanaaGreatDoor.fr
open Go Go.Eng Go.RowKit Cr
end Go.Proofs.YteldhmehjkhanaaGreatDoor.fr
namespace Go.Proofs.YteldhmehjkhanaaGreatDoor.poly
open Go Go.Eng Go.RowKit Cr
end Go.Proofs.YteldhmehjkhanaaGreatDoor.poly
namespace Go.Proofs.YteldhmehjkhanaaGreatDoor.poly
open Go Go.Eng Go.RowKit Cr
end Go.Proofs.YteldhmehjkhanaaGreatDoor.poly
namespace Go.Proofs.YteldhmehjkhanaaGreatDoor.deal
open Go Go.Eng Go.RowKit Cr poly
end Go.Proofs.YteldhmehjkhanaaGreatDoor.deal
namespace Go.Proofs.YteldhmehjkhanaaGreatDoor.beacon
noncomputable section
open Go Go.Eng Go.RowKit Cr
abbrev iK:Kd:=.int .i64
abbrev b8:Kd:=.sl (.int .u8)
theorem ent_text:enters Tryz.prog 19 Tryz.f19:=ek
def txS (g:Int × List Int) (k:Nat):Int × List Int:=(g.1.fdiv (2^min (8:Nat) IntKind.u64.bits),g.2.set (7-k) (IntKind.u8.wrap g.1))
def txK (n:Int):Nat->Int × List Int
 | 0=>(IntKind.u64.wrap n,List.replicate 8 0)
 | k+1=>txS (txK n k) k
def txt (c:List Int) (n:Int):List Int:=opq (sha.dig (List.flatten [c,(txK n 8).2]))
def txI (c:List Int) (g:Int × Int × List Int):St:=mkSt Tryz.f19.ntmps 40 [(0,.is (.one (.ro (.int .u8) c))),(5,.is (.one (.ptr 8 0))),(6,sI .u64 g.2.1),(7,sI .i64 g.1)] [(8,[.ints .u8 8 g.2.2])]
def txO (c:List Int) (g:List Int):St:=mkSt Tryz.f19.ntmps 40 [(0,.is (.one (.ro (.int .u8) c))),(5,.is (.one (.ptr 8 0)))] [(8,[.ints .u8 8 g])]
theorem txK_len (n:Int):∀ k,(txK n k).2.length=8
 | 0=>List.length_replicate
 | k+1=>by show (List.set _ _ _).length=8;rw[List.length_set,txK_len n k]
abbrev preTx:HL [b8,iK]->Prop:=fun (c,_,_)=>List.length c<=5000
theorem fn_text:FnOk Tryz.prog 19 [b8,iK] [.own (.int .u8)] sha.shaG preTx (fun (c,n,_)=>(txt c n,())):=by
 have hsp:SpecsOk Tryz.prog (sps [sha.spOf]):=spk (fgk sha.fn_of) snl
 refine fn_of_tr (sp:=sps [sha.spOf]) ent_text (by decide) (by decide) (by kernel_rfl) ?_
 rintro w M0 ⟨c,n,⟨⟩⟩
 revert c n
 intro (c:List Int) (n:Int) _ hc
 have hc:c.length<=5000:=hc
 show Tr _ _ _ _ _ _ _
 refine tr_cut hsp mixed 4 (txI c (7,IntKind.u64.wrap n,List.replicate 8 0)) True ?_ (fun _=>?_)
 ·refine vcx (X:=((txI c ((7:Int),IntKind.u64.wrap n,List.replicate (8:Nat) (0:Int))).triv True)) (by kernel_rfl) ?_
  exact tvi trivial
 refine tr_while hsp mixed noSw (fun σ=>(rdS (.int .i64) 7 σ,rdS (.int .u64) 6 σ,rdR (.int .u8) 8 σ)) (txI c) (fun g=>∃ k:Nat,k<=8/\g.1=7-(k:Int)/\g.2.1=(txK n k).1/\g.2.2=(txK n k).2) (fun g=>(g.1+1).toNat)
  (fun σ=>rdR (.int .u8) 8 σ) (txO c) (fun g=>g=(txK n 8).2) (7,IntKind.u64.wrap n,List.replicate 8 0) (c:=nthC (codeOf Tryz.f19) 4) (by kernel_rfl) (by kernel_rfl) (le_of_proj (by kernel_rfl) (by kernel_rfl) ?_) ?_ ?_
 ·exact⟨0,by decide,rfl,rfl,rfl⟩
 ·rintro⟨i,u,xs⟩ hj
  revert i u xs
  intro (i:Int) (u:Int) (xs:List Int) ⟨k,hk,ei,eu,ex⟩
  have ki:i=7-(k:Int):=ei
  have ku:u=(txK n k).1:=eu
  have kx:xs=(txK n k).2:=ex
  refine vcx (X:=((decide (i>=(0:Int))=true->((0:Int)<=i/\i<(↑(8:Nat):Int))/\i.toNat<(8:Nat)/\(0:Int)<=(8:Int)/\(txI c (IntKind.i64.wrap (i-(1:Int)),u.fdiv ((2:Int)^min (8:Nat) IntKind.u64.bits),xs.set i.toNat (IntKind.u8.wrap u))).triv ((∃ k,k<=(8:Nat)/\IntKind.i64.wrap (i-(1:Int))=(7:Car (Kd.int IntKind.i64))-(↑k:Int)/\u.fdiv ((2:Int)^min (8:Nat) IntKind.u64.bits)=(txK n k).fst/\xs.set i.toNat (IntKind.u8.wrap u)=(txK n k).snd)/\Int.toNat (IntKind.i64.wrap (i-(1:Int))+(1:Car (Kd.int IntKind.i64)))<Int.toNat (i+(1:Car (Kd.int IntKind.i64)))))/\(decide (i>=(0:Int))=false->(txO c xs).triv (xs=(txK n (8:Nat)).snd)))) (by kernel_rfl) ?_
  refine⟨fun h=>?_,fun h=>tvi ?_⟩
  ·have h0:0<=i:=of_decide_eq_true h
   have ei2:i.toNat=7-k:=by omega
   rw[wrap_i64' (by omega) (by omega),ei2,ku,kx]
   exact⟨⟨by omega,by omega⟩,by omega,by decide,tvi ⟨⟨k+1,by omega,by show i-1=_;omega,rfl,rfl⟩,by show (i-1+1).toNat<(i+1).toNat;omega⟩⟩
  ·have h0:¬ 0<=i:=of_decide_eq_false h
   have hk8:k=8:=by omega
   rw[kx,hk8]
 intro (xs:List Int) (hx:xs=(txK n 8).2)
 refine tr_vc hsp mixed _ _ ?_
 refine vcx (X:=((∀ (g:Nat) (s:Sigma Car),sha.shaG g=some s->Decidable.rec (fun h=>(fun x=>if g=(1:Nat) then some ⟨Kd.arr (64:Nat) sha.uK,sha.rootsL⟩ else none) h) (fun h=>(fun x=>some ⟨Kd.arr (8:Nat) sha.uK,sha.firstL⟩) h) (instDecidableEqNat g (0:Nat))=some s)/\0+8<=8/\sha.preOf ([c,List.take 8 xs],())/\0+32<=32/\(List.take 32 (sha.dig [c,List.take 8 xs].flatten),())=(txt c n,()))) (by kernel_rfl) ?_
 have l8:xs.length=8:=by rw[hx];exact txK_len n 8
 rw[List.take_of_length_le (Nat.le_of_eq l8),List.take_of_length_le (l:=sha.dig _) (Nat.le_of_eq (sha.dig_len _))]
 refine⟨fun _ _ h=>h,Nat.le_refl _,⟨?_,by show 2<=_;decide⟩,Nat.le_refl _,?_⟩
 ·show (List.flatten [c,xs]).length<=1099511627776
  simp only[List.flatten_cons,List.flatten_nil,List.length_append,List.length_nil]
  omega
 ·rw[txt,opq_eq,hx]
def spText:Nat × Eng.Spec:=(19,fnSpecG sha.shaG [b8,iK] [.own (.int .u8)] preTx (fun (c,n,_)=>(txt c n,())))
theorem txt_len (c:List Int) (n:Int):(txt c n).length=32:=by rw[txt,opq_eq];exact sha.dig_len _
end
end Go.Proofs.YteldhmehjkhanaaGreatDoor.beacon
namespace Go.Proofs.YteldhmehjkhanaaGreatDoor.law24
open Go Go.Eng Go.RowKit Cr beacon
theorem setBs {b:List Int} (h:Bs b) {x:Int} (hx:0<=x/\x<256) (i:Nat):Bs (b.set i x):=by
 intro y hy
 rcases List.mem_or_eq_of_mem_set hy with hy|hy
 ·exact h y hy
 ·rw[hy];exact hx
theorem u8_bd (y:Int):0<=IntKind.u8.wrap y/\IntKind.u8.wrap y<256:=by
 simp[IntKind.wrap,IntKind.signed,IntKind.bits];omega
noncomputable def k48 (p:Fp × Fp):List Int:=opq (codec.g1b p)
end Go.Proofs.YteldhmehjkhanaaGreatDoor.law24
namespace Go.Proofs.YteldhmehjkhanaaGreatDoor.fr
open Go Go.Eng Go.RowKit Cr
theorem ent_zero:enters Tryz.prog 13 Tryz.f13:=ek
abbrev outZero:HL [.fr]->HO [.val .bool]:=fun (x,_)=>(decide ((x:Fr)=0),())
theorem fn_zero:FnOk Tryz.prog 13 [.fr] [.val .bool] noG (fun _=>True) outZero:=by
 refine fn_of_vc (sp:=sps []) snl mixed ent_zero (by decide) (by decide) ?_
 rintro w M0 ⟨x,⟨⟩⟩
 revert x
 intro (x:Fr) _ _
 refine vcx (X:=((eqC Kd.fr x (0:Fr),())=outZero (x,()))) (by kernel_rfl) ?_
 rfl
noncomputable def spZero:Nat × Eng.Spec:=(13,fnSpec [.fr] [.val .bool] (fun _=>True) outZero)
end Go.Proofs.YteldhmehjkhanaaGreatDoor.fr
namespace Go.Proofs.YteldhmehjkhanaaGreatDoor.law26
open Go Go.Eng Go.RowKit Cr qry
theorem own_at {w w':World} {base:Nat} {e:TypeId} {size:Nat} {v:Value} {n:Nat} {xs:List Value} {F:Nat->Prop} (h:w.ownsRow base e size v n xs) (hF:∀ b,v.ownBlock=some b->F b) (hs:∀ b,F b->w'.heap[b]?=w.heap[b]?):w'.ownsRow base e size v n xs:=by
 refine⟨h.1,?_⟩
 rcases h.2 with hn|⟨g,cap,cur,rfl,hb,hg,r⟩
 ·exact .inl hn
 ·exact .inr ⟨g,cap,cur,rfl,hb,(hs g (hF g rfl)).trans hg,r⟩
theorem own_lt {w:World} {base:Nat} {e:TypeId} {size:Nat} {v:Value} {n:Nat} {xs:List Value} (h:w.ownsRow base e size v n xs) {b:Nat} (hb:v.ownBlock=some b):b<w.heap.size:=by
 rcases h.2 with ⟨rfl,_⟩|⟨g,cap,cur,rfl,_,hg,_⟩
 ·simp[Value.ownBlock] at hb
 ·simp only[Value.ownBlock,Option.some.injEq] at hb
  subst hb;exact lt_of_block hg
def gDisk (d m:Nat):Gho where
 P w F:=(dk.DiskB w d m 4194304 0/\w.heap[m]?=some (.map #[] 0))/\∀ b,F b↔(b=d\/b=m)
 stable w w' F h hs:=⟨⟨(hs d ((h.2 d).2 (.inl rfl))).trans h.1.1,(hs m ((h.2 m).2 (.inr rfl))).trans h.1.2⟩,h.2⟩
 lt w F h b hb:=by
  rcases (h.2 b).1 hb with rfl|rfl
  ·exact lt_of_block h.1.1
  ·exact lt_of_block h.1.2
theorem chain_at {w w':World} {p d m:Nat} {Vl Vd:Value} {k:Nat} {ys:List Value} (H:dk.ChainAt w p d m Vl Vd k ys) (hs:∀ b,dk.Held p d m Vl Vd b->w'.heap[b]?=w.heap[b]?):dk.ChainAt w' p d m Vl Vd k ys:=by
 obtain⟨h1,⟨s,h2⟩,⟨a,c,t,e,h3⟩,⟨xs,h4⟩,h5⟩:=H
 exact⟨(hs p (.inl rfl)).trans h1,⟨s,(hs d (.inr (.inl rfl))).trans h2⟩,⟨a,c,t,e,h3.kept (hs m (.inr (.inr (.inl rfl))))⟩,⟨xs,own_at h4 (fun b hb=>.inr (.inr (.inr (.inr hb)))) hs⟩,own_at h5 (fun b hb=>.inr (.inr (.inr (.inl hb)))) hs⟩
theorem chain_lt {w:World} {p d m:Nat} {Vl Vd:Value} {k:Nat} {ys:List Value} (H:dk.ChainAt w p d m Vl Vd k ys) {b:Nat} (hb:dk.Held p d m Vl Vd b):b<w.heap.size:=by
 obtain⟨h1,⟨s,h2⟩,⟨a,c,t,e,h3⟩,⟨xs,h4⟩,h5⟩:=H
 rcases hb with rfl|rfl|rfl|hb|hb
 ·exact lt_of_block h1
 ·exact lt_of_block h2
 ·obtain⟨es,ck,hm⟩:=h3.blk
  exact lt_of_block hm
 ·exact own_lt h5 hb
 ·exact own_lt h4 hb
def gChain (p d m:Nat) (Vl Vd:Value) (k:Nat) (ys:List Value):Gho where
 P w F:=dk.ChainAt w p d m Vl Vd k ys/\∀ b,F b↔dk.Held p d m Vl Vd b
 stable w w' F h hs:=⟨chain_at h.1 fun b hb=>hs b ((h.2 b).2 hb),h.2⟩
 lt w F h b hb:=chain_lt h.1 ((h.2 b).1 hb)
noncomputable def c96 (p:F2 × F2):List Int:=opq (codec.g2b p)
theorem fo_c96:FnOk Tryz.prog 17 [g2.pt2] [.val (.arr 96 (.int .u8))] noG (fun _=>True) (fun (p,_)=>(c96 p,())):=codec.fn_g2.out fun (p,_)=>by show (c96 p,())=(codec.g2b p,());rw[c96,opq_eq]
noncomputable def soC96:Nat × Eng.Spec:=(17,fnSpec [g2.pt2] [.val (.arr 96 (.int .u8))] (fun _=>True) (fun (p,_)=>(c96 p,())))
theorem fo_k48:FnOk Tryz.prog 15 [.pair .fp .fp] [.val (.arr 48 (.int .u8))] noG (fun _=>True) (fun (p,_)=>(law24.k48 p,())):=codec.fn_g1.out fun (p,_)=>by show (law24.k48 p,())=(codec.g1b p,());rw[law24.k48,opq_eq]
noncomputable def soK48:Nat × Eng.Spec:=(15,fnSpec [.pair .fp .fp] [.val (.arr 48 (.int .u8))] (fun _=>True) (fun (p,_)=>(law24.k48 p,())))
theorem by2_Bs (x:F2):Bs (fp2.by2 x):=by
 rw[fp2.by2]
 intro v c
 rcases List.mem_append.1 c with c|c
 ·exact bytesN_Bs _ _ v c
 ·exact bytesN_Bs _ _ v c
theorem c96_ok (p:F2 × F2):(c96 p).length=96/\Bs (c96 p):=by
 rw[c96,opq_eq,codec.g2b]
 refine⟨?_,law24.setBs (by2_Bs _) (law24.u8_bd _) 0⟩
 rw[List.length_set,fp2.by2,List.length_append,bytesN_length,bytesN_length]
noncomputable def kyO (b:List Int):Fr:=opq (if (zmr (num (b++[6])):Fr)=0 then zmr 9 else zmr (num (b++[6])))
noncomputable def sgO (k:Fr) (pv:List Int) (r:Int):List Int:=c96 (g2.gmul (bls.bpt (beacon.txt pv r)) k)
noncomputable def mdS (k:Fr) (s:List Int):Nat->List (Int × List Int) × List Int
 | 0=>([],s)
 | i+1=>((mdS k s i).1++[((i:Int)+1,sgO k (mdS k s i).2 ((i:Int)+1))],sgO k (mdS k s i).2 ((i:Int)+1))
noncomputable def sdO (seed:Int):List Int:=(List.replicate 32 0).set 3 (IntKind.u8.wrap seed)
noncomputable def pkO (k:Fr):List Int:=law24.k48 (g1.gmul g1.gG k)
abbrev lkK:Kd:=.pair iK (.arr 96 (.int .u8))
abbrev zInf:List Cell:=[.ints .u8 48 (List.replicate 48 0),.ints .u8 32 (List.replicate 32 0),.v (.int .i64 0),.v (.int .i64 0)]
noncomputable abbrev inf (k:Fr) (s:List Int):List Cell:=[.ints .u8 48 (pkO k),.ints .u8 32 s,.v (.int .i64 5),.v (.int .i64 3)]
noncomputable def mdA (n seed:Int) (k:Fr):St:=mkSt Tryz.f5.ntmps 96 [(1,sI .i64 n),(2,sI .i64 seed),(7,.is (.one (.ptr 8 0))),(9,.is (.one (.ptr 64 0)))] [(8,zInf),(64,[.row .fr 1 [k]])]
noncomputable def mdB (n:Int) (k:Fr) (s:List Int):St:=mkSt Tryz.f5.ntmps 184 [(1,sI .i64 n),(7,.is (.one (.ptr 8 0))),(9,.is (.one (.ptr 64 0))),(10,.is (.one (.ptr 128 0)))] [(8,zInf),(64,[.row .fr 1 [k]]),(128,inf k s)]
noncomputable def mdC (n:Int) (k:Fr) (s:List Int) (p:Nat):St:=mkSt Tryz.f5.ntmps 240 [(1,sI .i64 n),(7,.is (.one (.ptr 8 0))),(9,.is (.one (.ptr 64 0))),(10,.is (.one (.ptr 128 0))),(11,.is (.one (.v (dk.ptr p))))] [(8,zInf),(64,[.row .fr 1 [k]]),(128,inf k s)]
noncomputable def mdI (n:Int) (k:Fr) (s:List Int) (p:Nat) (i:Nat) (g:List (Int × List Int) × List Int):St:=mkSt Tryz.f5.ntmps 296 [(1,sI .i64 n),(7,.is (.one (.ptr 8 0))),(9,.is (.one (.ptr 64 0))),(10,.is (.one (.ptr 128 0))),(11,.is (.one (.v (dk.ptr p)))),(13,.is (.one (.sl 240 0 0 i 97))),(14,.is (.one (.sl 272 0 0 g.2.length 1))),(15,sI .i64 ((i:Int)+1))]
 [(8,zInf),(64,[.row .fr 1 [k]]),(128,inf k s),(240,[.row lkK i g.1]),(272,[.ints .u8 g.2.length g.2])]
noncomputable def mdSp:List (Nat × Eng.Spec):=[ref01.spCopy,fr.spWide,fr.spZero,fr.spOf,bls.spPublic,soK48,bls.spSign,beacon.spText,soC96]
theorem ent_made:enters Tryz.prog 5 Tryz.f5:=ek
theorem ent_new:enters Tryz.prog 9 Tryz.f9:=ek
theorem ent_open:enters Tryz.prog 8 Tryz.f8:=ek
theorem ent_capp:enters Tryz.prog 20 Tryz.f20:=ek
abbrev regOf:Code->Array Oper
 | .region _ ops _=>ops
 | _ => #[]
theorem keep_no {S:Nat->Prop} {w w':World} (h:dk.Kept dk.noS w w'):Kep S w w':=⟨h.os,h.tape,h.output,h.size,fun k hk _=>h.block k hk (fun q=>q)⟩
section
variable (w0:World) (M0:Mem)
noncomputable abbrev mdE:GEnv:=⟨Tryz.prog,sps mdSp,sha.shaG,w0,fun _=>False,M0⟩
theorem mdSp_ok:SpecsOk Tryz.prog (sps mdSp):=spk (fok ref01.fn_copy) (spk (fok fr.fn_wide) (spk (fok fr.fn_zero) (spk (fok fr.fn_of) (spk (fok bls.fn_public) (spk (fok fo_k48) (spk (fgk bls.fn_sign) (spk (fgk beacon.fn_text) (spk (fok fo_c96) snl))))))))
theorem made_a {n r:Act->World->Prop} {x:Nat->Act->World->Prop} (b:List Int) (hb:Bs b/\b.length<=100) (nn seed:Int)
  (h:GTr Tryz.prog ((codeOf Tryz.f5).drop 4) (GH (mdE w0 M0) Tryz.f5.ntmps (mdA nn seed (kyO b)) Gho.none) n r x) :
  GTr Tryz.prog (codeOf Tryz.f5) (GH (mdE w0 M0) Tryz.f5.ntmps (startSt Tryz.f5 (argSVs [u8K,iK,iK] (b,nn,seed,())) [] 0) Gho.none) n r x:=by
 refine gtr_cut (E:=mdE w0 M0) mdSp_ok mixed 4 (fun σ=>rdB .fr 64 σ) (mdA nn seed) (fun k=>k=kyO b) (fun _=>False) (fun _ _=>False) ?_ (fun k hk=>hk▸h) (fun _ _ _ h _=>h.elim) (fun _ _ _ _ h _=>h.elim)
 intro w ids M num
 refine vcx (X:=(ref01.preCopy (b,())/\0+1<=1/\b.length<=b.length/\(b.length+(1:Nat))*(1:Nat)<=(140737488355328:Nat)/\b.length+(1:Nat)<=(4611686018427387904:Nat)/\(0:Nat)+(b.length+(1:Nat))<=b.length+(1:Nat)/\fr.preWide (List.take (b.length+(1:Nat)) (List.take b.length b++List.take 1 [(6:Int)]),())/\True/\(decide (zmr (Cr.num (List.take (b.length+(1:Nat)) (List.take b.length b++List.take 1 [(6:Int)])))=(0:Zm Mr))=true->U64 (9:Int)/\(mdA nn seed (zmr (9:Int))).triv (zmr (9:Int)=kyO b))/\(decide (zmr (Cr.num (List.take (b.length+(1:Nat)) (List.take b.length b++List.take 1 [(6:Int)])))=(0:Zm Mr))=false->(mdA nn seed (zmr (Cr.num (List.take (b.length+(1:Nat)) (List.take b.length b++List.take 1 [(6:Int)]))))).triv (zmr (Cr.num (List.take (b.length+(1:Nat)) (List.take b.length b++List.take 1 [(6:Int)])))=kyO b)))) (by kernel_rfl) ?_
 have hl:=hb.2
 have e1:List.take (b.length+1) (List.take b.length b++List.take 1 [(6:Int)])=b++[6]:=by
  rw[List.take_length]
  exact List.take_of_length_le (by simp)
 rw[e1]
 refine⟨(by show b.length<=_;omega),Nat.le_refl _,Nat.le_refl _,by omega,by omega,by omega,⟨fun x hx=>?_,?_⟩,trivial,fun h=>⟨⟨by decide,by decide⟩,tvi ?_⟩,fun h=>tvi ?_⟩
 ·rcases List.mem_append.1 hx with hx|hx
  ·exact hb.1 x hx
  ·rw[List.mem_singleton] at hx
   subst hx;decide
 ·show (b++[6]).length<_
  rw[List.length_append];simp;omega
 ·rw[kyO,opq_eq,if_pos (of_decide_eq_true h)]
 ·rw[kyO,opq_eq,if_neg (of_decide_eq_false h)]
theorem made_b {n r:Act->World->Prop} {x:Nat->Act->World->Prop} (k:Fr) (nn seed:Int)
  (h:GTr Tryz.prog ((codeOf Tryz.f5).drop 6) (GH (mdE w0 M0) Tryz.f5.ntmps (mdB nn k (sdO seed)) Gho.none) n r x) :
  GTr Tryz.prog ((codeOf Tryz.f5).drop 4) (GH (mdE w0 M0) Tryz.f5.ntmps (mdA nn seed k) Gho.none) n r x:=by
 refine gtr_cut (E:=mdE w0 M0) mdSp_ok mixed 2 (fun σ=>rdB (.arr 32 (.int .u8)) 128 σ) (fun _=>mdB nn k (sdO seed)) (fun _=>True) (fun _=>False) (fun _ _=>False) ?_ (fun _ _=>h) (fun _ _ _ h _=>h.elim) (fun _ _ _ _ h _=>h.elim)
 intro w ids M num
 refine vcx (X:=(True/\True/\(3:Nat)<32/\(mdB nn k (sdO seed)).triv True)) (by kernel_rfl) ?_
 exact⟨trivial,trivial,by decide,tvi trivial⟩
theorem made_c {n r:Act->World->Prop} {x:Nat->Act->World->Prop} (k:Fr) (nn:Int) (s:List Int)
  (h:∀ p d m,GTr Tryz.prog ((codeOf Tryz.f5).drop 7) (GH (mdE w0 M0) Tryz.f5.ntmps (mdC nn k s p) (gChain p d m (.slice none 0 0) (.slice none 0 0) 0 [])) n r x) :
  GTr Tryz.prog ((codeOf Tryz.f5).drop 6) (GH (mdE w0 M0) Tryz.f5.ntmps (mdB nn k s) Gho.none) n r x:=by
 refine gtr_region (E:=mdE w0 M0) (rid:=6) (ops:=regOf (nthC (codeOf Tryz.f5) 6)) (by kernel_rfl) ?_
 refine grg_raw (E:=mdE w0 M0) (fun (g:Nat × Nat)=>.is (.one (.v (dk.ptr g.1)))) (fun g=>gDisk g.1 g.2) (fun _=>True) (by kernel_rfl) ent_new ?_ ?_
 ·intro w1 ρ us F hG _ _ _ hv
  obtain⟨u,us',rfl,hu,hus⟩:=hv
  have hus:us'=[]:=hus
  have hu:=rel_v hu
  subst hu hus
  refine (dk.new_ok w1).mono ?_
  rintro e w2 ⟨d,m,rfl,hd,hm,⟨l1,l2⟩,K⟩
  exact⟨(d,m),_,fun b=>b=d\/b=m,trivial,rfl,⟨⟨hd,hm⟩,fun _=>Iff.rfl⟩,fun b hb=>.inr (hb.elim (fun e=>e▸l1) (fun e=>e▸l2)),keep_no K,fun ρ' _ _=>⟨rfl,rfl⟩⟩
 rintro⟨d,m⟩ _
 refine grg_raw (E:=mdE w0 M0) (fun (p:Nat)=>.tup [.one (.v (dk.ptr p)),.one (.v (.int .i64 0))]) (fun p=>gChain p d m (.slice none 0 0) (.slice none 0 0) 0 []) (fun _=>True) (by kernel_rfl) ent_open ?_ ?_
 ·intro w1 ρ us F hG _ _ _ hv
  obtain⟨u,us',rfl,hu,hus⟩:=hv
  have hus:us'=[]:=hus
  have hu:SV.rel ρ (.is (.one (.v (dk.ptr d)))) u:=hu
  have hu:=rel_v hu
  subst hu hus
  obtain⟨⟨hd,hm⟩,hF⟩:=hG
  refine (dk.open_ok d m 0 w1 hd hm).mono ?_
  rintro e w2 ⟨p,rfl,H,l1,K⟩
  refine⟨p,_,dk.Held p d m (.slice none 0 0) (.slice none 0 0),trivial,rfl,⟨H,fun _=>Iff.rfl⟩,?_,keep_no K,fun ρ' _ _=>⟨_,rfl,_,_,rfl,⟨rfl,rfl⟩,_,_,rfl,⟨rfl,rfl⟩,rfl⟩⟩
  rintro b (rfl|rfl|rfl|hb|hb)
  ·exact .inr l1
  ·exact .inl ((hF _).2 (.inl rfl))
  ·exact .inl ((hF _).2 (.inr rfl))
  ·simp[Value.ownBlock] at hb
  ·simp[Value.ownBlock] at hb
 intro p _
 refine grg_run (E:=mdE w0 M0) mdSp_ok 7 (fun _=>()) (fun _=>mdC nn k s p) (fun _=>True) (by decide) (of_decide_eq_true (by kernel_rfl)) ?_ (fun _ _=>grg_end (of_decide_eq_true (by kernel_rfl)) (h p d m))
 intro w ids M num
 refine vcx (X:=((mdC nn k s p).triv True)) (by kernel_rfl) ?_
 exact tvi trivial
theorem made_d {n r:Act->World->Prop} {x:Nat->Act->World->Prop} (k:Fr) (nn:Int) (s:List Int) (hs:s.length=32) (p:Nat) (G:Gho)
  (h:GTr Tryz.prog ((codeOf Tryz.f5).drop 10) (GH (mdE w0 M0) Tryz.f5.ntmps (mdI nn k s p 0 (mdS k s 0)) G) n r x) :
  GTr Tryz.prog ((codeOf Tryz.f5).drop 7) (GH (mdE w0 M0) Tryz.f5.ntmps (mdC nn k s p) G) n r x:=by
 refine gtr_cut (E:=mdE w0 M0) mdSp_ok mixed 3 (fun σ=>rdR (.int .u8) 272 σ) (fun q=>mdI nn k s p 0 ([],q)) (fun q=>q=s) (fun _=>False) (fun _ _=>False) ?_ (fun q hq=>hq▸h) (fun _ _ _ h _=>h.elim) (fun _ _ _ _ h _=>h.elim)
 intro w ids M num
 refine vcx (X:=(0+32<=32/\ref01.preCopy (List.take 32 s,())/\(mdI nn k s p (0:Nat) ([],List.take 32 s)).triv (List.take 32 s=s))) (by kernel_rfl) ?_
 have e:List.take 32 s=s:=List.take_of_length_le (Nat.le_of_eq hs)
 rw[e]
 exact⟨Nat.le_refl _,(by show s.length<=_;omega),tvi rfl⟩
noncomputable abbrev mdL:Code:=nthC (codeOf Tryz.f5) 10
noncomputable abbrev mdBl:Code:=nthC (loopOf mdL) 2
noncomputable abbrev mdY (k:Fr) (g:List (Int × List Int) × List Int) (i:Nat):List Int:=sgO k g.2 ((i:Int)+1)
noncomputable def mdJ (n:Int) (k:Fr) (s:List Int) (p:Nat) (i:Nat) (g:List (Int × List Int) × List Int) (y:List Int):St:=mkSt Tryz.f5.ntmps 392 [(1,sI .i64 n),(7,.is (.one (.ptr 8 0))),(9,.is (.one (.ptr 64 0))),(10,.is (.one (.ptr 128 0))),(11,.is (.one (.v (dk.ptr p)))),(13,.is (.one (.sl 240 0 0 i 97))),(15,sI .i64 ((i:Int)+1)),(16,.is (.one (.ptr 360 0))),(55,.is (.one (.v (dk.ptr p)))),(56,.is (.agg [.v (.int .i64 ((i:Int)+1)),.ints .u8 96 y]))]
 [(8,zInf),(64,[.row .fr 1 [k]]),(128,inf k s),(240,[.row lkK i g.1]),(360,[.v (.int .i64 ((i:Int)+1)),.ints .u8 96 y])]
noncomputable def mdK (n:Int) (k:Fr) (s:List Int) (p:Nat) (i:Nat) (g:List (Int × List Int) × List Int) (y:List Int):St:=mkSt Tryz.f5.ntmps 376 [(1,sI .i64 n),(7,.is (.one (.ptr 8 0))),(9,.is (.one (.ptr 64 0))),(10,.is (.one (.ptr 128 0))),(11,.is (.one (.v (dk.ptr p)))),(13,.is (.one (.sl 240 0 0 i 97))),(15,sI .i64 ((i:Int)+1)),(16,.is (.one (.ptr 360 0)))]
 [(8,zInf),(64,[.row .fr 1 [k]]),(128,inf k s),(240,[.row lkK i g.1]),(360,[.v (.int .i64 ((i:Int)+1)),.ints .u8 96 y])]
noncomputable def mdH (n:Int) (k:Fr) (s:List Int) (p:Nat) (i:Nat) (g:List (Int × List Int) × List Int) (y:List Int):St:=mkSt Tryz.f5.ntmps 416 [(1,sI .i64 n),(7,.is (.one (.ptr 8 0))),(9,.is (.one (.ptr 64 0))),(10,.is (.one (.ptr 128 0))),(11,.is (.one (.v (dk.ptr p)))),(13,.is (.one (.sl 240 0 0 i 97))),(15,sI .i64 ((i:Int)+1)),(16,.is (.one (.ptr 360 0)))]
 [(8,zInf),(64,[.row .fr 1 [k]]),(128,inf k s),(240,[.row lkK i g.1]),(360,[.v (.int .i64 ((i:Int)+1)),.ints .u8 96 y])]
noncomputable def mdM (n:Int) (k:Fr) (s:List Int) (p:Nat) (i:Nat) (g:List (Int × List Int) × List Int):St:=mkSt Tryz.f5.ntmps 488 [(1,sI .i64 n),(7,.is (.one (.ptr 8 0))),(9,.is (.one (.ptr 64 0))),(10,.is (.one (.ptr 128 0))),(11,.is (.one (.v (dk.ptr p)))),(13,.is (.one (.sl 440 0 0 (i+1) 97))),(14,.is (.one (.sl 472 0 0 g.2.length 1))),(15,sI .i64 ((i:Int)+1))]
 [(8,zInf),(64,[.row .fr 1 [k]]),(128,inf k s),(440,[.row lkK (i+1) g.1]),(472,[.ints .u8 g.2.length g.2])]
noncomputable def mdI' (n:Int) (k:Fr) (s:List Int) (p:Nat) (i:Nat) (g:List (Int × List Int) × List Int) (q:Int):St:=mkSt Tryz.f5.ntmps 296 [(1,sI .i64 n),(7,.is (.one (.ptr 8 0))),(9,.is (.one (.ptr 64 0))),(10,.is (.one (.ptr 128 0))),(11,.is (.one (.v (dk.ptr p)))),(13,.is (.one (.sl 240 0 0 i 97))),(14,.is (.one (.sl 272 0 0 g.2.length 1))),(15,sI .i64 q)]
 [(8,zInf),(64,[.row .fr 1 [k]]),(128,inf k s),(240,[.row lkK i g.1]),(272,[.ints .u8 g.2.length g.2])]
theorem made_e {n r:Act->World->Prop} {x:Nat->Act->World->Prop} (k:Fr) (nn:Int) (s:List Int) (p:Nat) (G:Gho) (i:Nat) (hi:(i:Int)<=nn) (g:List (Int × List Int) × List Int)
  (hout:∀ a w,(i:Int)=nn->GH (mdE w0 M0) Tryz.f5.ntmps (mdI nn k s p i g) G a w->x 0 a w)
  (h:(i:Int)<nn->GTr Tryz.prog ((loopOf mdL).drop 2) (GH (mdE w0 M0) Tryz.f5.ntmps (mdI nn k s p i g) G) n r x) :
  GTr Tryz.prog (loopOf mdL) (GH (mdE w0 M0) Tryz.f5.ntmps (mdI nn k s p i g) G) n r x:=by
 refine gtr_cut (E:=mdE w0 M0) mdSp_ok mixed 2 (fun σ=>()) (fun _=>mdI nn k s p i g) (fun _=>(i:Int)<nn) (fun _=>False) (fun e σ'=>match Nat.beq e 0 with|true=>σ'.le (base0 (mdE w0 M0)) (mdI nn k s p i g) ((i:Int)=nn)|false=>False) ?_ (fun _ hq=>h hq) (fun _ _ _ h _=>h.elim) (fun e σ' a w h hh=>?_)
 ·intro w ids M num
  refine vcx (X:=((decide ((↑i:Int)+(1:Int)<=nn)=true->(mdI nn k s p i g).triv ((↑i:Int)<nn))/\(decide ((↑i:Int)+(1:Int)<=nn)=false->(mdI nn k s p i g).triv ((↑i:Int)=nn)))) (by kernel_rfl) ?_
  refine⟨fun h=>tvi ?_,fun h=>tvi ?_⟩
  ·have:=of_decide_eq_true h
   omega
  ·have:=of_decide_eq_false h
   omega
 ·cases hq:Nat.beq e 0 with
  | true =>
   rw[hq] at h
   have:=beq_true hq
   subst this
   obtain⟨h1,h2⟩:=hh.le h
   exact hout a w h1 h2
  | false=>rw[hq] at h;exact h.elim
theorem made_f {n r:Act->World->Prop} {x:Nat->Act->World->Prop} (k:Fr) (nn:Int) (s:List Int) (p:Nat) (G:Gho) (i:Nat) (hi:i<=3) (g:List (Int × List Int) × List Int) (hq:g.2.length<=96)
  (h:GTr Tryz.prog ((bodyOf mdBl).drop 1) (GH (mdE w0 M0) Tryz.f5.ntmps (mdK nn k s p i g (mdY k g i)) G) n r x) :
  GTr Tryz.prog (bodyOf mdBl) (GH (mdE w0 M0) Tryz.f5.ntmps (mdI nn k s p i g) G) n r x:=by
 refine gtr_cut (E:=mdE w0 M0) mdSp_ok mixed 1 (fun σ=>rdB (.pair iK (.arr 96 (.int .u8))) 360 σ) (fun y=>mdK nn k s p i g y.2) (fun y=>y.2=mdY k g i) (fun _=>False) (fun _ _=>False) ?_ (fun q hq=>hq▸h) (fun _ _ _ h _=>h.elim) (fun _ _ _ _ h _=>h.elim)
 intro w ids M num
 refine vcx (X:=((∀ (g:Nat) (s:Sigma Car),sha.shaG g=some s->Decidable.rec (fun h=>(fun x=>if g=(1:Nat) then some ⟨Kd.arr (64:Nat) sha.uK,sha.rootsL⟩ else none) h) (fun h=>(fun x=>some ⟨Kd.arr (8:Nat) sha.uK,sha.firstL⟩) h) (instDecidableEqNat g (0:Nat))=some s)/\(0:Nat)+g.snd.length<=g.snd.length/\beacon.preTx (List.take g.snd.length g.snd,(↑i:Int)+(1:Int),())/\(∀ (g:Nat) (s:Sigma Car),sha.shaG g=some s->Decidable.rec (fun h=>(fun x=>if g=(1:Nat) then some ⟨Kd.arr (64:Nat) sha.uK,sha.rootsL⟩ else none) h) (fun h=>(fun x=>some ⟨Kd.arr (8:Nat) sha.uK,sha.firstL⟩) h) (instDecidableEqNat g (0:Nat))=some s)/\(0:Nat)+(beacon.txt (List.take g.snd.length g.snd) ((↑i:Int)+(1:Int))).length<=(beacon.txt (List.take g.snd.length g.snd) ((↑i:Int)+(1:Int))).length/\bls.prePt (List.take (beacon.txt (List.take g.snd.length g.snd) ((↑i:Int)+(1:Int))).length (beacon.txt (List.take g.snd.length g.snd) ((↑i:Int)+(1:Int))),())/\True/\(mdK nn k s p i g ((↑i:Int)+(1:Int),(c96 (g2.gmul (bls.bpt (List.take (beacon.txt (List.take g.snd.length g.snd) ((↑i:Int)+(1:Int)),()).fst.length (beacon.txt (List.take g.snd.length g.snd) ((↑i:Int)+(1:Int)),()).fst)) k),()).fst).snd).triv (c96 (g2.gmul (bls.bpt (List.take (beacon.txt (List.take g.snd.length g.snd) ((↑i:Int)+(1:Int))).length (beacon.txt (List.take g.snd.length g.snd) ((↑i:Int)+(1:Int))))) k)=mdY k g i))) (by kernel_rfl) ?_
 rw[List.take_length,List.take_length]
 have ht:=beacon.txt_len g.2 ((i:Int)+1)
 exact⟨fun _ _ h=>h,by omega,(by show g.2.length<=_;omega),fun _ _ h=>h,by omega,(by show (beacon.txt g.2 ((i:Int)+1)).length<=_;omega),trivial,tvi rfl⟩
theorem made_g {n r:Act->World->Prop} {x:Nat->Act->World->Prop} (k:Fr) (nn:Int) (s:List Int) (p d m:Nat) (la:Option Addr) (cl:Nat) (Vd:Value) (ys:List Value) (i:Nat) (hi:i<=3) (g:List (Int × List Int) × List Int) (y:List Int) (hy:y.length=96)
  (h:∀ la' cl' Vd',GTr Tryz.prog ((bodyOf mdBl).drop 2) (GH (mdE w0 M0) Tryz.f5.ntmps (mdH nn k s p i g y) (gChain p d m (.slice la' (i+1) cl') Vd' (i+1) (ys++dk.lkCells ((i:Int)+1) y))) n r x) :
  GTr Tryz.prog ((bodyOf mdBl).drop 1) (GH (mdE w0 M0) Tryz.f5.ntmps (mdK nn k s p i g y) (gChain p d m (.slice la i cl) Vd i ys)) n r x:=by
 refine gtr_region (E:=mdE w0 M0) (rid:=13) (ops:=regOf (nthC (bodyOf mdBl) 1)) (by kernel_rfl) ?_
 refine grg_run (E:=mdE w0 M0) mdSp_ok 2 (fun _=>()) (fun _=>mdJ nn k s p i g y) (fun _=>True) (by decide) (of_decide_eq_true (by kernel_rfl)) ?_ (fun _ _=>?_)
 ·intro w ids M num
  refine vcx (X:=((mdJ nn k s p i g y).triv True)) (by kernel_rfl) ?_
  exact tvi trivial
 refine grg_raw (E:=mdE w0 M0) (fun (g:Option Addr × Nat × Value)=>.is (.one (.v (.int .i64 0)))) (fun g=>gChain p d m (.slice g.1 (i+1) g.2.1) g.2.2 (i+1) (ys++dk.lkCells ((i:Int)+1) y)) (fun _=>True) (by kernel_rfl) ent_capp ?_ ?_
 ·intro w1 ρ us F hG hM hgl _ hv
  obtain⟨u,us',rfl,hu,u2,us2,rfl,hu2,hus⟩:=hv
  have hus:us2=[]:=hus
  have hu:SV.rel ρ (.is (.one (.v (dk.ptr p)))) u:=hu
  have hu:=rel_v hu
  have hu2:SV.rel ρ (.is (.agg [.v (.int .i64 ((i:Int)+1)),.ints .u8 96 y])) u2:=hu2
  obtain⟨l,rfl,v1,v2,e1,⟨h1,_⟩,v3,v4,e2,⟨_,h3⟩,h4⟩:=hu2
  have h4:v4=[]:=h4
  subst hu hus h1 h3 h4
  have el:l=dk.lkCells ((i:Int)+1) y:=by rw[e1,e2,List.append_nil];rfl
  subst el
  obtain⟨H,hF⟩:=hG
  refine (dk.capp_ok p d m la i cl Vd ys w1 H (by omega) ρ.M hM hgl ((i:Int)+1) y hy rfl).mono ?_
  rintro e w2 ⟨rfl,la',cl',Vd',H2,K,hh⟩
  exact⟨(la',cl',Vd'),_,dk.Held p d m (.slice la' (i+1) cl') Vd',trivial,rfl,⟨H2,fun _=>Iff.rfl⟩,fun b hb=>(hh b hb).imp (fun q=>(hF b).2 q) id,
   ⟨K.os,K.tape,K.output,K.size,fun c hc hs=>K.block c hc (fun q=>hs ((hF c).2 q))⟩,fun ρ' _ _=>⟨rfl,rfl⟩⟩
 rintro⟨la',cl',Vd'⟩ _
 refine grg_run (E:=mdE w0 M0) mdSp_ok 3 (fun _=>()) (fun _=>mdH nn k s p i g y) (fun _=>True) (by decide) (of_decide_eq_true (by kernel_rfl)) ?_ (fun _ _=>grg_end (of_decide_eq_true (by kernel_rfl)) (h la' cl' Vd'))
 intro w ids M num
 refine vcx (X:=((mdH nn k s p i g y).triv True)) (by kernel_rfl) ?_
 exact tvi trivial
theorem made_h {n r:Act->World->Prop} {x:Nat->Act->World->Prop} (k:Fr) (nn:Int) (s:List Int) (p:Nat) (G:Gho) (i:Nat) (hi:i<=3) (g:List (Int × List Int) × List Int) (hg:g.1.length=i) (y:List Int) (hy:y.length=96)
  (h:∀ a w,GH (mdE w0 M0) Tryz.f5.ntmps (mdM nn k s p i (g.1++[((i:Int)+1,y)],y)) G a w->n a w) :
  GTr Tryz.prog ((bodyOf mdBl).drop 2) (GH (mdE w0 M0) Tryz.f5.ntmps (mdH nn k s p i g y) G) n r x:=by
 refine gtr_cut (E:=mdE w0 M0) mdSp_ok mixed 2 (fun σ=>(rdR lkK 440 σ,rdR (.int .u8) 472 σ)) (fun q=>mdM nn k s p i q) (fun q=>q=(g.1++[((i:Int)+1,y)],y)) (fun _=>False) (fun _ _=>False) ?_ (fun q hq=>gtr_nil fun a w hh=>h a w (hq▸hh)) (fun _ _ _ h _=>h.elim) (fun _ _ _ _ h _=>h.elim)
 intro w ids M num
 refine vcx (X:=(0+1<=1/\i<=i/\(i+(1:Nat))*(104:Nat)<=(140737488355328:Nat)/\i+(1:Nat)<=(4611686018427387904:Nat)/\0+96<=96/\ref01.preCopy (List.take 96 y,())/\(mdM nn k s p i (List.take i g.fst++List.take 1 [((↑i:Int)+(1:Int),y)],List.take 96 y)).triv ((List.take i g.fst++List.take 1 [((↑i:Int)+(1:Int),y)],List.take 96 y)=(g.fst++[((↑i:Int)+(1:Int),y)],y)))) (by kernel_rfl) ?_
 have e1:List.take i g.1=g.1:=List.take_of_length_le (Nat.le_of_eq hg)
 have e2:List.take 96 y=y:=List.take_of_length_le (Nat.le_of_eq hy)
 rw[e1,e2]
 exact⟨Nat.le_refl _,Nat.le_refl _,by omega,by omega,Nat.le_refl _,(by show y.length<=_;omega),tvi rfl⟩
theorem made_i {n r:Act->World->Prop} {x:Nat->Act->World->Prop} (k:Fr) (nn:Int) (s:List Int) (p:Nat) (G:Gho) (i:Nat) (hi:i<=3) (g:List (Int × List Int) × List Int)
  (h:∀ a w,GH (mdE w0 M0) Tryz.f5.ntmps (mdI nn k s p (i+1) g) G a w->n a w) :
  GTr Tryz.prog ((loopOf mdL).drop 3) (GH (mdE w0 M0) Tryz.f5.ntmps (mdM nn k s p i g) G) n r x:=by
 refine gtr_cutS (E:=mdE w0 M0) mdSp_ok mixed 1 [(240,440),(272,472)] (fun σ=>rdS iK 15 σ) (fun q=>mdI' nn k s p (i+1) g q) (fun q=>q=((i+1:Nat):Int)+1) (fun _=>False) (fun _ _=>False) ?_ (fun q hq=>gtr_nil fun a w hh=>h a w (by subst hq;exact hh)) (fun _ _ _ h _=>h.elim) (fun _ _ _ _ h _=>h.elim)
 intro w ids M num
 refine vcx (X:=((mdI' nn k s p (i+(1:Nat)) g (IntKind.i64.wrap ((↑i:Int)+(1:Int)+(1:Int)))).triv (IntKind.i64.wrap ((↑i:Int)+(1:Int)+(1:Int))=(↑(i+(1:Nat)):Int)+(1:Car iK)))) (by kernel_rfl) ?_
 refine tvi ?_
 show IntKind.i64.wrap ((i:Int)+1+1)=((i+1:Nat):Int)+1
 rw[wrap_i64' (by omega) (by omega)];omega
def lkY (ls:List (Int × List Int)):List Value:=ls.flatMap fun x=>dk.lkCells x.1 x.2
theorem lkY_add (ls:List (Int × List Int)) (r:Int) (y:List Int):lkY (ls++[(r,y)])=lkY ls++dk.lkCells r y:=by simp[lkY]
theorem mdS_len (k:Fr) (s:List Int):∀ i,(mdS k s i).1.length=i
 | 0=>rfl
 | i+1=>by rw[mdS];simp[mdS_len k s i]
theorem sgO_ok (k:Fr) (pv:List Int) (r:Int):(sgO k pv r).length=96/\Bs (sgO k pv r):=c96_ok _
theorem mdS_prev (k:Fr) (s:List Int) (hs:s.length=32):∀ i,(mdS k s i).2.length<=96
 | 0=>by show s.length<=96;omega
 | i+1=>Nat.le_of_eq (sgO_ok _ _ _).1
theorem made_l {n r:Act->World->Prop} {x:Nat->Act->World->Prop} (k:Fr) (nn:Int) (hn:0<=nn/\nn<=3) (s:List Int) (hs:s.length=32) (p d m:Nat)
  (h:∀ la cl Vd,GTr Tryz.prog ((codeOf Tryz.f5).drop 11) (GH (mdE w0 M0) Tryz.f5.ntmps (mdI nn k s p nn.toNat (mdS k s nn.toNat)) (gChain p d m (.slice la nn.toNat cl) Vd nn.toNat (lkY (mdS k s nn.toNat).1))) n r x) :
  GTr Tryz.prog ((codeOf Tryz.f5).drop 10) (GH (mdE w0 M0) Tryz.f5.ntmps (mdI nn k s p 0 (mdS k s 0)) (gChain p d m (.slice none 0 0) (.slice none 0 0) 0 [])) n r x:=by
 have hb0:blockId mdL=0:=by kernel_rfl
 have hb1:blockId mdBl=1:=by kernel_rfl
 refine gtr_loop (c:=mdL) (fun (g:Nat × Option Addr × Nat × Value) a w=>(g.1:Int)<=nn/\GH (mdE w0 M0) Tryz.f5.ntmps (mdI nn k s p g.1 (mdS k s g.1)) (gChain p d m (.slice g.2.1 g.1 g.2.2.1) g.2.2.2 g.1 (lkY (mdS k s g.1).1)) a w)
  (fun g=>nn.toNat-g.1) (fun (o:Option Addr × Nat × Value) a w=>GH (mdE w0 M0) Tryz.f5.ntmps (mdI nn k s p nn.toNat (mdS k s nn.toNat)) (gChain p d m (.slice o.1 nn.toNat o.2.1) o.2.2 nn.toNat (lkY (mdS k s nn.toNat).1)) a w)
  (by kernel_rfl) (by kernel_rfl) (fun a w hh=>⟨(0,none,0,.slice none 0 0),hn.1,hh⟩) ?_ (fun o=>h o.1 o.2.1 o.2.2)
 rintro⟨i,la,cl,Vd⟩ a w Q ⟨hi,hh⟩
 have hi:(i:Int)<=nn:=hi
 refine made_e w0 M0 k nn s p _ i hi _ (fun a' w' he hh'=>?_) (fun hlt=>?_) a w Q hh
 ·rw[hb0]
  have:i=nn.toNat:=by omega
  subst this
  exact⟨(la,cl,Vd),hh'⟩
 ·refine gtr_block (E:=mdE w0 M0) (c:=mdBl) (fun a w=>∃ la' cl' Vd',GH (mdE w0 M0) Tryz.f5.ntmps (mdM nn k s p i (mdS k s (i+1))) (gChain p d m (.slice la' (i+1) cl') Vd' (i+1) (lkY (mdS k s (i+1)).1)) a w) (by kernel_rfl) (by kernel_rfl) ?_ ?_
  ·refine made_f w0 M0 k nn s p _ i (by omega) _ (mdS_prev k s hs i) ?_
   refine made_g w0 M0 k nn s p d m la cl Vd _ i (by omega) _ _ (sgO_ok _ _ _).1 (fun la' cl' Vd'=>?_)
   refine made_h w0 M0 k nn s p _ i (by omega) _ (mdS_len k s i) _ (sgO_ok _ _ _).1 (fun a w hh=>⟨la',cl',Vd',?_⟩)
   rw[show (mdS k s (i+1))=((mdS k s i).1++[((i:Int)+1,mdY k (mdS k s i) i)],mdY k (mdS k s i) i) from rfl]
   rw[lkY_add]
   exact hh
  ·refine gtr_ex (Pre':=fun (g:Option Addr × Nat × Value)=>GH (mdE w0 M0) Tryz.f5.ntmps (mdM nn k s p i (mdS k s (i+1))) (gChain p d m (.slice g.1 (i+1) g.2.1) g.2.2 (i+1) (lkY (mdS k s (i+1)).1))) (fun a w ⟨la',cl',Vd',hh⟩=>⟨(la',cl',Vd'),hh⟩) ?_
   rintro⟨la',cl',Vd'⟩
   exact made_i w0 M0 k nn s p _ i (by omega) _ (fun a w hh=>⟨(i+1,la',cl',Vd'),⟨by show ((i+1:Nat):Int)<=nn;omega,hh⟩,by show nn.toNat-(i+1)<nn.toNat-i;omega⟩)
noncomputable abbrev mdX (k:Fr) (s:List Int) (p:Nat) (ls:List (Int × List Int)):SV:=.tup [.one (.v (dk.ptr p)),.agg (inf k s),.one (.ro lkK ls)]
abbrev mdQ (k:Fr) (s:List Int) (nn:Nat) (sv:SV) (G:Gho):Prop:=∃ p d m la cl Vd,sv=mdX k s p (mdS k s nn).1/\G=gChain p d m (.slice la nn cl) Vd nn (lkY (mdS k s nn).1)
theorem made_z (k:Fr) (nn:Int) (s:List Int) (i:Nat) (p d m:Nat) (la:Option Addr) (cl:Nat) (Vd:Value) {x:Nat->Act->World->Prop} :
  GTr Tryz.prog ((codeOf Tryz.f5).drop 11) (GH (mdE w0 M0) Tryz.f5.ntmps (mdI nn k s p i (mdS k s i)) (gChain p d m (.slice la i cl) Vd i (lkY (mdS k s i).1)))
   (gret (mdE w0 M0) Tryz.f5 (mdQ k s i)) (gret (mdE w0 M0) Tryz.f5 (mdQ k s i)) x:=by
 refine gtr_tr (E:=mdE w0 M0) (fun _=>False) (fun σ=>retK ⟨Tryz.prog,sps mdSp,base0 (mdE w0 M0)⟩ Tryz.f5 (fun sv _=>sv=mdX k s p (mdS k s i).1) σ) (fun _ _=>False) ?_ (fun _ _ _ h _=>h.elim) (fun σ' a w h hh=>?_) (fun _ _ _ _ h _=>h.elim)
 ·intro w ids M num
  refine tr_frz 13 240 i 97 lkK (mdS k s i).1 (by kernel_rfl) (by kernel_rfl) (mdS_len k s i) ?_
  refine tr_vc mdSp_ok mixed _ _ ?_
  refine vcx (X:=(SV.tup [TV.one (Cell.v (dk.ptr p)),TV.agg [Cell.ints IntKind.u8 (48:Nat) (pkO k),Cell.ints IntKind.u8 (32:Nat) s,Cell.v (Value.int IntKind.i64 (5:Int)),Cell.v (Value.int IntKind.i64 (3:Int))],TV.one (Cell.ro lkK (mdS k s i).fst)]=mdX k s p (mdS k s i).fst)) (by kernel_rfl) ?_
  rfl
 ·refine⟨σ',_,base0 (mdE w0 M0),hh,?_⟩
  have h:retK ⟨Tryz.prog,sps mdSp,base0 (mdE w0 M0)⟩ Tryz.f5 (fun sv _=>sv=mdX k s p (mdS k s i).1) σ':=h
  show retK ⟨Tryz.prog,sps mdSp,base0 (mdE w0 M0)⟩ Tryz.f5 _ σ'
  unfold retK at h ⊢
  split at h
  ·rename_i v hv
   exact⟨p,d,m,la,cl,Vd,h,rfl⟩
  ·exact h.elim
end
theorem sdO_ok (seed:Int):(sdO seed).length=32/\Bs (sdO seed):=by
 refine⟨by rw[sdO,List.length_set,List.length_replicate],?_⟩
 rw[sdO]
 exact law24.setBs (fun x hx=>by rw[List.eq_of_mem_replicate hx];decide) (law24.u8_bd _) 3
theorem rdl_lk {M:Mem}:∀ {ls:List (Int × List Int)},(∀ x∈ls,x.2.length=96)->RdL (Rd M lkK) ls (lkY ls):=by
 intro ls
 induction ls with
 | nil=>intro _;rfl
 | cons x ls ih =>
  intro h
  refine⟨dk.lkCells x.1 x.2,lkY ls,by simp[lkY],⟨[.int .i64 x.1],x.2.map (Value.int .u8),rfl,rfl,h x (by simp),RdL_int.2 rfl⟩,ih fun y hy=>h y (by simp[hy])⟩
theorem mdS_all (k:Fr) (s:List Int):∀ i,∀ x∈(mdS k s i).1,x.2.length=96/\(0<=x.1/\x.1<=i)/\Bs x.2
 | 0=>fun x hx=>by cases hx
 | i+1=>fun x hx=>by
  rcases List.mem_append.1 hx with hx|hx
  ·obtain⟨h1,h2,h3⟩:=mdS_all k s i x hx
   exact⟨h1,⟨h2.1,by omega⟩,h3⟩
  ·rw[List.mem_singleton] at hx
   subst hx
   obtain⟨h1,h2⟩:=sgO_ok k (mdS k s i).2 ((i:Int)+1)
   exact⟨h1,⟨by show 0<=(i:Int)+1;omega,by show (i:Int)+1<=((i+1:Nat):Int);omega⟩,h2⟩
noncomputable def mkO (b:List Int) (n seed:Int):List (Int × List Int):=opq (mdS (kyO b) (sdO seed) n.toNat).1
noncomputable def mpO (b:List Int):List Int:=opq (pkO (kyO b))
abbrev preMk:HL [u8K,iK,iK]->Prop:=fun (b,n,_)=>(Bs b/\List.length b<=100)/\0<=(n:Int)/\(n:Int)<=3
theorem fn_made:FnOk Tryz.prog 5 [u8K,iK,iK] [.box chainK,.val infoK,.val (.sl lkK)] sha.shaG preMk (fun (b,n,seed,_)=>((true,mkO b n seed,false),(mpO b,sdO seed,5,3),mkO b n seed,())):=by
 intro w M us xs hM hG hin hp
 obtain⟨b,nn,seed,⟨⟩⟩:=xs
 revert b nn seed
 intro (b:List Int) (nn:Int) (seed:Int) hin hp
 obtain⟨hb,hn⟩:=hp
 have hn:0<=nn/\nn<=3:=hn
 obtain⟨hs,hsb⟩:=sdO_ok seed
 have key:=gfn (E:=mdE w M) (F0:=fun _=>False) (G0:=Gho.none) (Q:=mdQ (kyO b) (sdO seed) nn.toNat) ent_made.1 (by kernel_rfl) rfl hM hG (argSVs_rel (ρ:=Rho.start M) hin) (by show 3<=_;decide) (fun _ q=>q) (fun _ q=>q.elim)
  (made_a w M b hb nn seed (made_b w M (kyO b) nn seed (made_c w M (kyO b) nn (sdO seed) fun p d m=>made_d w M (kyO b) nn (sdO seed) hs p _ (made_l w M (kyO b) nn hn (sdO seed) hs p d m fun la cl Vd=>made_z w M (kyO b) nn (sdO seed) nn.toNat p d m la cl Vd))))
 refine .inl ⟨ent_made.2 _ _,key.mono ?_⟩
 rintro e w' ⟨v,sv,G,F,ρ,rfl,hsv,⟨p,d,m,la,cl,Vd,rfl,rfl⟩,⟨H,hF⟩,K,hMw,hfoot,hFM,hold⟩
 obtain⟨vs,rfl,v1,vs1,rfl,h1,v2,vs2,rfl,h2,v3,vs3,rfl,h3,h4⟩:=hsv
 have h4:vs3=[]:=h4
 subst h4
 have h1:[v1]=[dk.ptr p]/\_:=h1
 have e1:v1=dk.ptr p:=by simpa using h1.1
 subst e1
 have hp:F p:=(hF p).2 (.inl rfl)
 have hN:∀ b,F b->w.heap.size<=b:=fun b hb=>(hfoot b hb).elim (fun q=>q.elim) id
 have hmem:Mem.le ρ.M (outM w.heap.size M (some p) w'):=fun c l hc=>by
  unfold outM
  rw[if_neg (fun e=>by simp only[Option.some.injEq] at e;subst e;exact hFM p hp l hc)]
  by_cases hlt:w.heap.size<=c
  ·rw[if_pos hlt];exact hMw c l hc
  ·rw[if_neg hlt];exact (hold c l hc (by show c<w.heap.size;omega)).elim (fun q=>q.elim) id
 have hall:=mdS_all (kyO b) (sdO seed) nn.toNat
 have hlen:=mdS_len (kyO b) (sdO seed) nn.toNat
 refine⟨_,rfl,[_,_,_],some p,rfl,⟨_,_,rfl,?_,_,_,rfl,?_,_,_,rfl,?_,rfl⟩,⟨K.os,K.tape,K.output,K.size,fun c hc=>K.block c hc (fun q=>q)⟩⟩
 ·-- the chain
  refine⟨p,3,[dk.ptr d,.slice la nn.toNat cl,.bool false],rfl,hN p hp,rfl,⟨[],79,(0,0),H.ch,rfl,.inl rfl⟩,?_⟩
  refine⟨[dk.ptr d],[.slice la nn.toNat cl,.bool false],rfl,?_,[.slice la nn.toNat cl],[.bool false],rfl,?_,rfl⟩
  ·exact⟨_,rfl,rfl⟩
  ·show Rd _ (.sl lkK) (mkO b nn seed) _
   rw[mkO,opq_eq]
   rcases H.ol.2 with ⟨e,e2⟩|⟨g,cap,cur,e,_,hg,hnc,_,hcs,htake⟩
   ·obtain⟨rfl,h0,rfl⟩:=Value.slice.inj e
    exact .inl ⟨List.eq_nil_of_length_eq_zero (by omega),none,0,by rw[h0],fun _=>rfl⟩
   ·obtain⟨rfl,_,rfl⟩:=Value.slice.inj e
    have hFg:F g:=(hF g).2 (.inr (.inr (.inr (.inl rfl))))
    have hgp:g≠p:=fun q=>dk.own_ne_cells H.ol H.ch (by decide) (by rw[<- q];rfl)
    have hcl:cur.toList.length=cl*97:=by rw[Array.length_toList,hcs]
    refine .inr ⟨g,0,cl,by rw[hlen],by omega,cur.toList,fun hne=>?_,by rw[hlen,hcl];show 0+nn.toNat*97<=_;omega,?_⟩
    ·unfold outM
     rw[if_neg (fun q=>hgp (by simpa using q.symm)),if_pos (hN g hFg)]
     exact memOf_blk hg hne
    ·rw[hlen,List.drop_zero,show nn.toNat*width lkK=nn.toNat*97 from rfl,htake]
     exact rdl_lk fun x hx=>(hall x hx).1
 ·-- the info
  obtain⟨l,rfl,hl⟩:=h2
  refine⟨l,rfl,?_⟩
  obtain⟨a1,b1,rfl,⟨k1,k2⟩,a2,b2,rfl,⟨k3,k4⟩,a3,b3,rfl,⟨k5,_⟩,a4,b4,rfl,⟨k6,_⟩,k7⟩:=hl
  have k7:b4=[]:=k7
  subst k7
  show Rd _ infoK (mpO b,sdO seed,5,3) _
  rw[mpO,opq_eq,List.append_nil]
  exact⟨a1,_,rfl,⟨k1,RdL_int.2 k2⟩,a2,_,rfl,⟨k3,RdL_int.2 k4⟩,a3,a4,rfl,k5,k6⟩
 ·have h3:Rd ρ.M (.sl lkK) (mdS (kyO b) (sdO seed) nn.toNat).1 [v3]:=h3
  have h3:=Rd_mono hmem h3
  show Rd _ (.sl lkK) (mkO b nn seed) _
  rw[mkO,opq_eq]
  exact h3
end Go.Proofs.YteldhmehjkhanaaGreatDoor.law26
namespace Go.Proofs.YteldhmehjkhanaaGreatDoor.law26
open Go Go.Eng Go.RowKit Cr Go.Qry qry
def balL260:ByteArray:=(ByteArray.mk (#[(101:UInt8),(114:UInt8),(114:UInt8),(111:UInt8),(114:UInt8),(32:UInt8),(52:UInt8),(49:UInt8)] ))
def balL262:ByteArray:=(ByteArray.mk (#[(101:UInt8),(114:UInt8),(114:UInt8),(111:UInt8),(114:UInt8),(32:UInt8),(56:UInt8),(50:UInt8)] ))
def balL263:ByteArray:=(ByteArray.mk (#[(101:UInt8),(114:UInt8),(114:UInt8),(111:UInt8),(114:UInt8),(32:UInt8),(56:UInt8),(51:UInt8)] ))
def lA:List Int:=[114,111,117,110,100,32,49,50]
def lB:List Int:=[108,97,116,101,115,116]
def lC:List Int:=[114,111,117,110,100,32,48]
def lD:List Int:=[114,111,117,110,100,115]
def lE:List Int:=[105,110,102,111,32,120]
theorem pA:pso lA=((sRound,12),0):=by rw[pso,opq_eq];kernel_rfl
theorem pB:pso lB=((sLatest,0),0):=by rw[pso,opq_eq];kernel_rfl
theorem pC:pso lC=(noAsk,82):=by rw[pso,opq_eq];kernel_rfl
theorem pD:pso lD=(noAsk,83):=by rw[pso,opq_eq];kernel_rfl
theorem pE:pso lE=(noAsk,80):=by rw[pso,opq_eq];kernel_rfl
theorem aB:ansO lB=41:=by rw[ansO,pB];rfl
theorem aC:ansO lC=82:=by rw[ansO,pC];rfl
theorem aD:ansO lD=83:=by rw[ansO,pD];rfl
theorem aE:ansO lE=80:=by rw[ansO,pE];rfl
theorem wr_str (e:Int):strOfNums (wrO e)=bs (sErr.data.toList++(sBlank.data.toList++Lib.decDigits e.toNat)):=by
 rw[wrO,opq_eq,str_bytes,jnO,opq_eq,jn_eq]
theorem wr_two (e:Int) (n:Nat) (he:e.toNat=n) (h1:¬ n<10) (h2:n<100):strOfNums (wrO e)=bs (sErr.data.toList++(sBlank.data.toList++[UInt8.ofNat (48+n/10),UInt8.ofNat (48+n%10)])):=by
 rw[wr_str,he,Lib.decDigits_two h1 h2]
theorem tk {e:Int} {l:List Int} {t:ByteArray} (h:ansO l=e) (ht:strOfNums (wrO e)=t):decide (strOfNums (List.take (wrO (ansO l)).length (wrO (ansO l)))=t)=true:=by
 rw[List.take_length,h,ht];exact decide_eq_true rfl
theorem sB:decide (strOfNums (List.take (wrO (ansO lB)).length (wrO (ansO lB)))=⟨#[101,114,114,111,114,32,52,49]⟩)=true:=tk aB ((wr_two 41 41 rfl (by decide) (by decide)).trans (by kernel_rfl))
theorem sC:decide (strOfNums (List.take (wrO (ansO lC)).length (wrO (ansO lC)))=⟨#[101,114,114,111,114,32,56,50]⟩)=true:=tk aC ((wr_two 82 82 rfl (by decide) (by decide)).trans (by kernel_rfl))
theorem sD:decide (strOfNums (List.take (wrO (ansO lD)).length (wrO (ansO lD)))=⟨#[101,114,114,111,114,32,56,51]⟩)=true:=tk aD ((wr_two 83 83 rfl (by decide) (by decide)).trans (by kernel_rfl))
theorem sE:decide (strOfNums (List.take (wrO (ansO lE)).length (wrO (ansO lE)))=⟨#[101,114,114,111,114,32,56,48]⟩)=true:=tk aE ((wr_two 80 80 rfl (by decide) (by decide)).trans (by kernel_rfl))
theorem li:sLatest≠sInfo:=of_decide_eq_false (by kernel_rfl)
theorem lz (n:Nat):0+n<=n:=Nat.le_of_eq (Nat.zero_add n)
theorem nb {b:Bool} {P:Prop} (h:b=true) (h':b=false):P:=by rw[h] at h';cases h'
theorem ent_head:enters Tryz.prog 4 Tryz.f4:=ek
theorem fn_head:FnOk Tryz.prog 4 [] [.val .bool] noG (fun _=>True) (fun _=>(true,())):=by
 have hsp:SpecsOk Tryz.prog (sps [spDnew,spCopen,spParse,spAns]):=spk (fok fn_dnew) (spk (fok fn_copen) (spk (fok fn_parse) (spk (fok fn_ans) snl)))
 refine fn_of_tr (sp:=sps [spDnew,spCopen,spParse,spAns]) ent_head (by decide) (by decide) (by kernel_rfl) ?_
 rintro w M0 ⟨⟩
 intro _ _
 show Tr _ _ _ _ _ _ _
 refine tr_vc hsp mixed _ _ ?_
 refine vcx (X:=(True/\preOpen ((roomO (1000:Int),(),(0:Int),(0:Int),false),())/\(0:Nat)+(nat_lit 7+(1:Nat))<=(8:Nat)/\True/\(((0:Int)==(0:Int))=true->(((pso (List.take (nat_lit 7+(1:Nat)) [(114:Int),(111:Int),(117:Int),(110:Int),(100:Int),(32:Int),(49:Int),(50:Int)])).snd==(0:Int))=true->(((pso (List.take (nat_lit 7+(1:Nat)) [(114:Int),(111:Int),(117:Int),(110:Int),(100:Int),(32:Int),(49:Int),(50:Int)])).fst.snd==(12:Int))=true->(0:Nat)+(nat_lit 5+(1:Nat))<=(6:Nat)/\preAns ((List.replicate (48:Nat) (0:Int),List.replicate (32:Nat) (0:Int),(0:Int),(0:Int)),(true,[],false),List.take (nat_lit 5+(1:Nat)) [(108:Int),(97:Int),(116:Int),(101:Int),(115:Int),(116:Int)],())/\(0:Nat)+(wrO (ansO (List.take (nat_lit 5+(1:Nat)) [(108:Int),(97:Int),(116:Int),(101:Int),(115:Int),(116:Int)]))).length<=(wrO (ansO (List.take (nat_lit 5+(1:Nat)) [(108:Int),(97:Int),(116:Int),(101:Int),(115:Int),(116:Int)]))).length/\(decide (strOfNums (List.take (wrO (ansO (List.take (nat_lit 5+(1:Nat)) [(108:Int),(97:Int),(116:Int),(101:Int),(115:Int),(116:Int)]))).length (wrO (ansO (List.take (nat_lit 5+(1:Nat)) [(108:Int),(97:Int),(116:Int),(101:Int),(115:Int),(116:Int)]))))=balL260)=true->(0:Nat)+(nat_lit 6+(1:Nat))<=(7:Nat)/\preAns ((List.replicate (48:Nat) (0:Int),List.replicate (32:Nat) (0:Int),(0:Int),(0:Int)),(true,[],false),List.take (nat_lit 6+(1:Nat)) [(114:Int),(111:Int),(117:Int),(110:Int),(100:Int),(32:Int),(48:Int)],())/\(0:Nat)+(wrO (ansO (List.take (nat_lit 6+(1:Nat)) [(114:Int),(111:Int),(117:Int),(110:Int),(100:Int),(32:Int),(48:Int)]))).length<=(wrO (ansO (List.take (nat_lit 6+(1:Nat)) [(114:Int),(111:Int),(117:Int),(110:Int),(100:Int),(32:Int),(48:Int)]))).length/\(decide (strOfNums (List.take (wrO (ansO (List.take (nat_lit 6+(1:Nat)) [(114:Int),(111:Int),(117:Int),(110:Int),(100:Int),(32:Int),(48:Int)]))).length (wrO (ansO (List.take (nat_lit 6+(1:Nat)) [(114:Int),(111:Int),(117:Int),(110:Int),(100:Int),(32:Int),(48:Int)]))))=balL262)=true->(0:Nat)+(nat_lit 5+(1:Nat))<=(6:Nat)/\preAns ((List.replicate (48:Nat) (0:Int),List.replicate (32:Nat) (0:Int),(0:Int),(0:Int)),(true,[],false),List.take (nat_lit 5+(1:Nat)) [(114:Int),(111:Int),(117:Int),(110:Int),(100:Int),(115:Int)],())/\(0:Nat)+(wrO (ansO (List.take (nat_lit 5+(1:Nat)) [(114:Int),(111:Int),(117:Int),(110:Int),(100:Int),(115:Int)]))).length<=(wrO (ansO (List.take (nat_lit 5+(1:Nat)) [(114:Int),(111:Int),(117:Int),(110:Int),(100:Int),(115:Int)]))).length/\(decide (strOfNums (List.take (wrO (ansO (List.take (nat_lit 5+(1:Nat)) [(114:Int),(111:Int),(117:Int),(110:Int),(100:Int),(115:Int)]))).length (wrO (ansO (List.take (nat_lit 5+(1:Nat)) [(114:Int),(111:Int),(117:Int),(110:Int),(100:Int),(115:Int)]))))=balL263)=true->(0:Nat)+(nat_lit 5+(1:Nat))<=(6:Nat)/\preAns ((List.replicate (48:Nat) (0:Int),List.replicate (32:Nat) (0:Int),(0:Int),(0:Int)),(true,[],false),List.take (nat_lit 5+(1:Nat)) [(105:Int),(110:Int),(102:Int),(111:Int),(32:Int),(120:Int)],())/\(0:Nat)+(wrO (ansO (List.take (nat_lit 5+(1:Nat)) [(105:Int),(110:Int),(102:Int),(111:Int),(32:Int),(120:Int)]))).length<=(wrO (ansO (List.take (nat_lit 5+(1:Nat)) [(105:Int),(110:Int),(102:Int),(111:Int),(32:Int),(120:Int)]))).length/\(decide (strOfNums (List.take (wrO (ansO (List.take (nat_lit 5+(1:Nat)) [(105:Int),(110:Int),(102:Int),(111:Int),(32:Int),(120:Int)]))).length (wrO (ansO (List.take (nat_lit 5+(1:Nat)) [(105:Int),(110:Int),(102:Int),(111:Int),(32:Int),(120:Int)]))))=(ByteArray.mk (#[(101:UInt8),(114:UInt8),(114:UInt8),(111:UInt8),(114:UInt8),(32:UInt8),(56:UInt8),(48:UInt8)] ))),())=(true,()))/\(decide (strOfNums (List.take (wrO (ansO (List.take (nat_lit 5+(1:Nat)) [(114:Int),(111:Int),(117:Int),(110:Int),(100:Int),(115:Int)]))).length (wrO (ansO (List.take (nat_lit 5+(1:Nat)) [(114:Int),(111:Int),(117:Int),(110:Int),(100:Int),(115:Int)]))))=balL263)=false->(false,())=(true,())))/\(decide (strOfNums (List.take (wrO (ansO (List.take (nat_lit 6+(1:Nat)) [(114:Int),(111:Int),(117:Int),(110:Int),(100:Int),(32:Int),(48:Int)]))).length (wrO (ansO (List.take (nat_lit 6+(1:Nat)) [(114:Int),(111:Int),(117:Int),(110:Int),(100:Int),(32:Int),(48:Int)]))))=balL262)=false->(false,())=(true,())))/\(decide (strOfNums (List.take (wrO (ansO (List.take (nat_lit 5+(1:Nat)) [(108:Int),(97:Int),(116:Int),(101:Int),(115:Int),(116:Int)]))).length (wrO (ansO (List.take (nat_lit 5+(1:Nat)) [(108:Int),(97:Int),(116:Int),(101:Int),(115:Int),(116:Int)]))))=balL260)=false->(false,())=(true,())))/\(((pso (List.take (nat_lit 7+(1:Nat)) [(114:Int),(111:Int),(117:Int),(110:Int),(100:Int),(32:Int),(49:Int),(50:Int)])).fst.snd==(12:Int))=false->(false,())=(true,())))/\(((pso (List.take (nat_lit 7+(1:Nat)) [(114:Int),(111:Int),(117:Int),(110:Int),(100:Int),(32:Int),(49:Int),(50:Int)])).snd==(0:Int))=false->(false,())=(true,())))/\(((0:Int)==(0:Int))=false->(false,())=(true,())))) (by kernel_rfl) ?_
 have k0:((0:Int)==0)=true:=rfl
 have k1:((pso lA).2==0)=true:=by rw[pA];rfl
 have k2:((pso lA).1.2==12)=true:=by rw[pA];rfl
 refine⟨trivial,rfl,Nat.le_refl _,trivial,fun _=>⟨fun _=>⟨fun _=>⟨Nat.le_refl _,⟨rfl,.inl ?_⟩,lz _,fun _=>⟨Nat.le_refl _,⟨rfl,.inr ?_⟩,lz _,fun _=>⟨Nat.le_refl _,⟨rfl,.inr ?_⟩,lz _,fun _=>⟨Nat.le_refl _,⟨rfl,.inr ?_⟩,lz _,?_⟩,nb sD⟩,nb sC⟩,nb sB⟩,nb k2⟩,nb k1⟩,nb k0⟩
 ·show (pso lB).1.1≠sInfo
  rw[pB];exact li
 ·show (pso lC).2≠0
  rw[pC];show (82:Int)≠0;omega
 ·show (pso lD).2≠0
  rw[pD];show (83:Int)≠0;omega
 ·show (pso lE).2≠0
  rw[pE];show (80:Int)≠0;omega
 ·exact congrArg (fun b:Bool=>(b,())) sE
noncomputable def spHead:Nat × Eng.Spec:=(4,fnSpec [] [.val .bool] (fun _=>True) (fun _=>(true,())))
end Go.Proofs.YteldhmehjkhanaaGreatDoor.law26
namespace Go.Proofs.YteldhmehjkhanaaGreatDoor.ref01
open Go Go.Eng Go.RowKit Cr
theorem ent_same:enters Tryz.prog 7 Tryz.f7:=ek
abbrev preSame:HL [.sl (.int .u8),.sl (.int .u8)]->Prop:=fun (a,_,_)=>List.length a<4611686018427387904
def sameF (a b:List Int):Bool:=decide (a=b)
abbrev outSame:HL [.sl (.int .u8),.sl (.int .u8)]->HO [.val .bool]:=fun (a,b,_)=>(sameF a b,())
noncomputable def saI (a b:List Int) (g:Int):St:=mkSt Tryz.f7.ntmps 72 [(0,.is (.one (.ro (.int .u8) a))),(1,.is (.one (.ro (.int .u8) b))),(4,.is (.one .F)),(12,sI .i64 a.length),(13,sI .i64 g)] []
def saJ (a b:List Int) (g:Int):Prop:=∃ k:Nat,k<=a.length/\g=(k:Int)/\a.take k=b.take k
theorem fn_same:FnOk Tryz.prog 7 [.sl (.int .u8),.sl (.int .u8)] [.val .bool] noG preSame outSame:=by
 have hsp:SpecsOk Tryz.prog (sps []):=snl
 refine fn_of_tr (sp:=sps []) ent_same (by decide) (by decide) (by kernel_rfl) ?_
 rintro w M0 ⟨a,b,⟨⟩⟩
 revert a b
 intro (a:List Int) (b:List Int) _ hl
 have hl:a.length<4611686018427387904:=hl
 show Tr _ _ _ _ _ _ _
 refine tr_cut hsp mixed 4 (saI a b 0) (a.length=b.length) ?_ (fun he=>?_)
 ·refine vcx (X:=((((↑a.length:Int) != (↑b.length:Int))=true->(false,())=outSame (a,b,()))/\(((↑a.length:Int) != (↑b.length:Int))=false->(saI a b (0:Int)).triv (a.length=b.length)))) (by kernel_rfl) ?_
  refine⟨fun h=>?_,fun h=>tvi (by simp at h;omega)⟩
  have h:¬ a.length=b.length:=by simp at h;omega
  show _=(sameF a b,())
  rw[sameF,decide_eq_false (fun e=>h (by rw[e]))]
 refine tr_while hsp mixed noSw (fun σ=>rdS (.int .i64) 13 σ) (saI a b) (saJ a b) (fun g=>a.length-g.toNat)
  (fun σ=>rdS (.int .i64) 13 σ) (saI a b) (fun _=>a=b) 0 (c:=nthC (codeOf Tryz.f7) 4) (by kernel_rfl) (by kernel_rfl) (le_of_proj (by kernel_rfl) (by kernel_rfl) ?_) ?_ ?_
 ·exact⟨0,Nat.zero_le _,rfl,rfl⟩
 ·intro (i:Int) ⟨k,hk,ei,ht⟩
  subst ei
  refine vcx (X:=((decide ((↑k:Int)<(↑a.length:Int))=true->((0:Int)<=(↑k:Int)/\(↑k:Int)<(↑a.length:Int))/\(↑k:Int).toNat<a.length/\((0:Int)<=(↑k:Int)/\(↑k:Int)<(↑b.length:Int))/\(↑k:Int).toNat<b.length/\((a.getD (↑k:Int).toNat (0:Int) != b.getD (↑k:Int).toNat (0:Int))=true->(false,())=outSame (a,b,()))/\((a.getD (↑k:Int).toNat (0:Int) != b.getD (↑k:Int).toNat (0:Int))=false->(saI a b (IntKind.i64.wrap ((↑k:Int)+(1:Int)))).triv (saJ a b (IntKind.i64.wrap ((↑k:Int)+(1:Int)))/\a.length-(IntKind.i64.wrap ((↑k:Int)+(1:Int))).toNat<a.length-(↑k:Int).toNat)))/\(decide ((↑k:Int)<(↑a.length:Int))=false->(saI a b (↑k:Int)).triv (a=b)))) (by kernel_rfl) ?_
  rw[Int.toNat_natCast]
  refine⟨fun h=>?_,fun h=>tvi ?_⟩
  ·have hlt:k<a.length:=by have:=dec_lt h;omega
   have ga:a.getD k 0=a[k]:=by rw[List.getD_eq_getElem?_getD,List.getElem?_eq_getElem hlt,Option.getD_some]
   have gb:b.getD k 0=b[k]:=by rw[List.getD_eq_getElem?_getD,List.getElem?_eq_getElem (by omega),Option.getD_some]
   rw[wrap_succ (by omega),ga,gb]
   refine⟨⟨by omega,by omega⟩,hlt,⟨by omega,by omega⟩,by omega,fun h2=>?_,fun h2=>tvi ⟨⟨k+1,hlt,rfl,?_⟩,by rw[Int.toNat_natCast];omega⟩⟩
   ·have h2:a[k]≠b[k]:=by simpa using h2
    show _=(sameF a b,())
    rw[sameF,decide_eq_false (fun e=>h2 (by subst e;rfl))]
   ·have h2:a[k]=b[k]:=by simpa using h2
    rw[List.take_succ_eq_append_getElem hlt,List.take_succ_eq_append_getElem (by omega),ht,h2]
  ·have:k=a.length:=by have:=dec_ge h;omega
   subst this
   rw[List.take_length] at ht
   rw[ht,he,List.take_length]
 intro (i:Int) (h:a=b)
 refine tr_vc hsp mixed _ _ ?_
 refine vcx (X:=((true,())=outSame (a,b,()))) (by kernel_rfl) ?_
 show _=(sameF a b,())
 rw[sameF,decide_eq_true h]
noncomputable def spSame:Nat × Eng.Spec:=(7,fnSpec [.sl (.int .u8),.sl (.int .u8)] [.val .bool] preSame outSame)
end Go.Proofs.YteldhmehjkhanaaGreatDoor.ref01
namespace Go.Proofs.YteldhmehjkhanaaGreatDoor.law26
open Go Go.Eng Go.RowKit Cr Go.Qry qry
def balL26q0:ByteArray:=(ByteArray.mk (#[(101:UInt8),(114:UInt8),(114:UInt8),(111:UInt8),(114:UInt8),(32:UInt8),(52:UInt8),(49:UInt8)] ))
def balL26q1:ByteArray:=(ByteArray.mk (#[(114:UInt8),(111:UInt8),(117:UInt8),(110:UInt8),(100:UInt8),(32:UInt8),(48:UInt8)] ))
def balL26q2:ByteArray:=(ByteArray.mk (#[(114:UInt8),(111:UInt8),(117:UInt8),(110:UInt8),(100:UInt8),(32:UInt8),(49:UInt8)] ))
def balL26q3:ByteArray:=(ByteArray.mk (#[(114:UInt8),(111:UInt8),(117:UInt8),(110:UInt8),(100:UInt8),(32:UInt8),(50:UInt8)] ))
def balL26q4:ByteArray:=(ByteArray.mk (#[(114:UInt8),(111:UInt8),(117:UInt8),(110:UInt8),(100:UInt8),(32:UInt8),(51:UInt8)] ))
def balL26q5:ByteArray:=(ByteArray.mk (#[(114:UInt8),(111:UInt8),(117:UInt8),(110:UInt8),(100:UInt8),(32:UInt8),(52:UInt8)] ))
theorem ent_latest:enters Tryz.prog 3 Tryz.f3:=ek
noncomputable def spMade:Nat × Eng.Spec:=(5,fnSpecG sha.shaG [u8K,iK,iK] [.box chainK,.val infoK,.val (.sl lkK)] preMk (fun (b,n,seed,_)=>((true,mkO b n seed,false),(mpO b,sdO seed,5,3),mkO b n seed,())))
theorem and3 (n:Int):0<=bitOp .and .i64 n 3/\bitOp .and .i64 n 3<=3:=by
 have h:((BitVec.ofInt 64 n &&& BitVec.ofInt 64 3:BitVec 64).toNat)<=3:=by
  rw[BitVec.toNat_and]
  exact Nat.and_le_right
 have e:bitOp .and .i64 n 3=(((BitVec.ofInt 64 n &&& BitVec.ofInt 64 3:BitVec 64).toNat:Nat):Int):=by
  show IntKind.i64.wrap (((BitVec.ofInt 64 n &&& BitVec.ofInt 64 3:BitVec 64).toNat:Nat):Int)=_
  exact wrap_i64' (by omega) (by omega)
 rw[e];omega
def rdB (i:Int):List Int:=[114,111,117,110,100,32,48+i]
theorem pR1:pso (rdB 1)=((sRound,1),0):=by rw[pso,opq_eq];kernel_rfl
theorem pR2:pso (rdB 2)=((sRound,2),0):=by rw[pso,opq_eq];kernel_rfl
theorem pR3:pso (rdB 3)=((sRound,3),0):=by rw[pso,opq_eq];kernel_rfl
theorem pR4:pso (rdB 4)=((sRound,4),0):=by rw[pso,opq_eq];kernel_rfl
theorem rl':¬ sRound=sLatest:=of_decide_eq_false (by kernel_rfl)
theorem rn:sRound≠sInfo:=of_decide_eq_false (by kernel_rfl)
theorem anR_l (ls:List (Int × List Int)):anR ls lB=ls.length:=by rw[anR,opq_eq,pB,if_pos rfl]
theorem anR_r (ls:List (Int × List Int)) {b:List Int} {i e:Int} (h:pso b=((sRound,i),e)):anR ls b=i:=by rw[anR,opq_eq,h,if_neg rl']
theorem anO_congr {s:List Int} {ls:List (Int × List Int)} {b b':List Int} (h:(pso b).2=0) (h':(pso b').2=0) (hr:anR ls b=anR ls b'):anO s ls b=anO s ls b':=by
 rw[anO,opq_eq,anO,opq_eq,if_pos h,if_pos h',hr]
theorem anO_none {s:List Int} {ls:List (Int × List Int)} {b:List Int} (h:(pso b).2=0) (hr:anR ls b<1\/anR ls b>(ls.length:Int)):anO s ls b=wrO 41:=by
 have e:(gtO ls (anR ls b)).2=false:=by rw[gtO,opq_eq,if_pos hr]
 rw[anO,opq_eq,if_pos h,e,if_neg (by decide)]
theorem str41:strOfNums (wrO 41)=⟨#[101,114,114,111,114,32,52,49]⟩:=(wr_two 41 41 rfl (by decide) (by decide)).trans (by kernel_rfl)
theorem tk41 {l:List Int} (h:l=wrO 41):decide (strOfNums (List.take l.length l)=⟨#[101,114,114,111,114,32,52,49]⟩)=true:=by
 rw[List.take_length,h,str41];exact decide_eq_true rfl
theorem rdO_len {n:Int} {sg p r:List Int} (hn:0<=n/\n<100) (hs:hexP sg) (hp:hexP p) (hr:hexP r):(qry.rdO n sg p r).length<4611686018427387904:=by
 have h:=(rd_join hn hs hp hr).2
 rw[qry.rdO,opq_eq,sbytes_len,jnO,opq_eq]
 show (List.toArray _).size<_
 rw[List.size_toArray]
 exact Nat.lt_of_le_of_lt h (by decide)
abbrev lsOk (ls:List (Int × List Int)):Prop:=ls.length<=10/\∀ x∈ls,x.2.length=96/\(0<=x.1/\x.1<100)/\Bs x.2
theorem an_len {s:List Int} {ls:List (Int × List Int)} {b:List Int} (h0:(pso b).2=0) (hl:lsOk ls) (hs:s.length=32) (hb:Bs s) (ht:(gtO ls (anR ls b)).2=true):(anO s ls b).length<4611686018427387904:=by
 obtain⟨g1,g2,g3⟩:=gt_ok hl.2 (anR ls b)
 obtain⟨k1,k2,k3⟩:=gt_ok hl.2 (anR ls b-1)
 obtain⟨d1,d2⟩:=dig_hex (gtO ls (anR ls b)).1.2
 rw[anO,opq_eq,if_pos h0,ht,if_pos rfl,wr2,opq_eq,if_pos rfl]
 exact rdO_len g2 ⟨⟨Nat.lt_of_lt_of_eq (by decide:0<96) g1.symm,Nat.le_trans (Nat.le_of_eq g1) (by decide)⟩,g3⟩ (prv_ok hs hb k1 k3) d1
theorem mkO_ok (b:List Int) (n seed:Int) (h0:0<=n) (h3:n<=3):lsOk (mkO b n seed)/\(((mkO b n seed).length:Nat):Int)=n:=by
 rw[mkO,opq_eq]
 have hl:=mdS_len (kyO b) (sdO seed) n.toNat
 refine⟨⟨by rw[hl];omega,fun x hx=>?_⟩,by rw[hl];omega⟩
 obtain⟨h1,h2,h3'⟩:=mdS_all (kyO b) (sdO seed) n.toNat x hx
 exact⟨h1,⟨h2.1,by omega⟩,h3'⟩
theorem gt_in {ls:List (Int × List Int)} {R:Int} (h1:1<=R) (h2:R<=ls.length):(gtO ls R).2=true:=by
 rw[gtO,opq_eq,if_neg (by omega)]
abbrev RDS:List ByteArray:=[⟨#[114,111,117,110,100,32,48]⟩,⟨#[114,111,117,110,100,32,49]⟩,⟨#[114,111,117,110,100,32,50]⟩,⟨#[114,111,117,110,100,32,51]⟩,⟨#[114,111,117,110,100,32,52]⟩]
abbrev atR (i:Nat):List Int:=List.take (RDS.getD i ByteArray.empty).size (sbytes (RDS.getD i ByteArray.empty))
theorem half {k s:List Int} {ls:List (Int × List Int)} {N:Nat} (hN:1<=N) (hN3:N<=3) (hl:lsOk ls) (hlen:ls.length=N) (hs:s.length=32) (hb:Bs s) (a1:pso (atR N)=((sRound,(N:Int)),0)) (a2:pso (atR (N+1))=((sRound,(N:Int)+1),0)) :
  preAns2 ((k,s,5,3),(true,ls,false),atR N,())/\0+(anO s ls lB).length<=(anO s ls lB).length/\0+(anO s ls (atR N)).length<=(anO s ls (atR N)).length /\
  ref01.preSame (List.take (anO s ls lB).length (anO s ls lB),List.take (anO s ls (atR N)).length (anO s ls (atR N)),()) /\
  ref01.sameF (List.take (anO s ls lB).length (anO s ls lB)) (List.take (anO s ls (atR N)).length (anO s ls (atR N)))=true /\
  preAns2 ((k,s,5,3),(true,ls,false),atR (N+1),())/\0+(anO s ls (atR (N+1))).length<=(anO s ls (atR (N+1))).length /\
  decide (strOfNums (List.take (anO s ls (atR (N+1))).length (anO s ls (atR (N+1))))=⟨#[101,114,114,111,114,32,52,49]⟩)=true:=by
 have e0:(pso lB).2=0:=by rw[pB]
 have e1:(pso (atR N)).2=0:=by rw[a1]
 have e2:(pso (atR (N+1))).2=0:=by rw[a2]
 have r0:=anR_l ls
 have r1:=anR_r ls a1
 have r2:=anR_r ls a2
 have eq:anO s ls lB=anO s ls (atR N):=anO_congr e0 e1 (by rw[r0,r1,hlen])
 have en:anO s ls (atR (N+1))=wrO 41:=anO_none e2 (.inr (by rw[r2,hlen];omega))
 refine⟨⟨hl,⟨hs,hb⟩,.inl (by rw[a1];exact rn)⟩,by omega,by omega,?_,?_,⟨hl,⟨hs,hb⟩,.inl (by rw[a2];exact rn)⟩,by omega,tk41 en⟩
 ·show (List.take _ _).length<_
  rw[List.take_length]
  exact an_len e0 hl hs hb (gt_in (by rw[r0];omega) (by rw[r0];omega))
 ·rw[List.take_length,List.take_length,eq]
  exact decide_eq_true rfl
theorem fn_latest:FnOk Tryz.prog 3 [u8K,iK,iK] [.val .bool] sha.shaG (fun (b,n,s,_)=>preB b/\preI n/\preI s) (fun _=>(true,())):=by
 have hsp:SpecsOk Tryz.prog (sps [spHead,spMade,spAns2,ref01.spSame]):=spk (fok fn_head) (spk (fgk fn_made) (spk (fgk fn_ans2) (spk (fok ref01.fn_same) snl)))
 refine fn_of_tr (sp:=sps [spHead,spMade,spAns2,ref01.spSame]) ent_latest (by decide) (by decide) (by kernel_rfl) ?_
 rintro w M0 ⟨b,n,seed,⟨⟩⟩
 revert b n seed
 intro (b:List Int) (n:Int) (seed:Int) _ hp
 obtain⟨hb,hn,hs⟩:=hp
 show Tr _ _ _ _ _ _ _
 refine tr_vc hsp mixed _ _ ?_
 refine vcx (X:=(True/\((!true)=true->(false,())=(true,()))/\((!true)=false->(decide ((↑b.length:Int)>(100:Int))=true->(true,())=(true,()))/\(decide ((↑b.length:Int)>(100:Int))=false->(∀ (g:Nat) (s:Sigma Car),sha.shaG g=some s->Decidable.rec (fun h=>(fun x=>if g=(1:Nat) then some ⟨Kd.arr (64:Nat) sha.uK,sha.rootsL⟩ else none) h) (fun h=>(fun x=>some ⟨Kd.arr (8:Nat) sha.uK,sha.firstL⟩) h) (instDecidableEqNat g (0:Nat))=some s)/\preMk (b,bitOp BinOp.and IntKind.i64 n (3:Int),seed,())/\(∀ (g:Nat) (s:Sigma Car),sha.shaG g=some s->Decidable.rec (fun h=>(fun x=>if g=(1:Nat) then some ⟨Kd.arr (64:Nat) sha.uK,sha.rootsL⟩ else none) h) (fun h=>(fun x=>some ⟨Kd.arr (8:Nat) sha.uK,sha.firstL⟩) h) (instDecidableEqNat g (0:Nat))=some s)/\(0:Nat)+(nat_lit 5+(1:Nat))<=(6:Nat)/\preAns2 ((mpO b,sdO seed,(5:Int),(3:Int)),(true,mkO b (bitOp BinOp.and IntKind.i64 n (3:Int)) seed,false),List.take (nat_lit 5+(1:Nat)) [(108:Int),(97:Int),(116:Int),(101:Int),(115:Int),(116:Int)],())/\((bitOp BinOp.and IntKind.i64 n (3:Int)==(0:Int))=true->(0:Nat)+(anO (sdO seed) (mkO b (bitOp BinOp.and IntKind.i64 n (3:Int)) seed) (List.take (nat_lit 5+(1:Nat)) [(108:Int),(97:Int),(116:Int),(101:Int),(115:Int),(116:Int)])).length<=(anO (sdO seed) (mkO b (bitOp BinOp.and IntKind.i64 n (3:Int)) seed) (List.take (nat_lit 5+(1:Nat)) [(108:Int),(97:Int),(116:Int),(101:Int),(115:Int),(116:Int)])).length/\(decide (strOfNums (List.take (anO (sdO seed) (mkO b (bitOp BinOp.and IntKind.i64 n (3:Int)) seed) (List.take (nat_lit 5+(1:Nat)) [(108:Int),(97:Int),(116:Int),(101:Int),(115:Int),(116:Int)])).length (anO (sdO seed) (mkO b (bitOp BinOp.and IntKind.i64 n (3:Int)) seed) (List.take (nat_lit 5+(1:Nat)) [(108:Int),(97:Int),(116:Int),(101:Int),(115:Int),(116:Int)])))=balL26q0)=true->((0:Int)<=(1:Int)/\(1:Int)<(↑(5:Nat):Int))/\(1:Nat)<(5:Nat)/\(∀ (g:Nat) (s:Sigma Car),sha.shaG g=some s->Decidable.rec (fun h=>(fun x=>if g=(1:Nat) then some ⟨Kd.arr (64:Nat) sha.uK,sha.rootsL⟩ else none) h) (fun h=>(fun x=>some ⟨Kd.arr (8:Nat) sha.uK,sha.firstL⟩) h) (instDecidableEqNat g (0:Nat))=some s)/\(0:Nat)+balL26q2.size<=balL26q2.size/\preAns2 ((mpO b,sdO seed,(5:Int),(3:Int)),(true,mkO b (bitOp BinOp.and IntKind.i64 n (3:Int)) seed,false),List.take balL26q2.size (sbytes balL26q2),())/\(0:Nat)+(anO (sdO seed) (mkO b (bitOp BinOp.and IntKind.i64 n (3:Int)) seed) (List.take balL26q2.size (sbytes balL26q2))).length<=(anO (sdO seed) (mkO b (bitOp BinOp.and IntKind.i64 n (3:Int)) seed) (List.take balL26q2.size (sbytes balL26q2))).length/\(decide (strOfNums (List.take (anO (sdO seed) (mkO b (bitOp BinOp.and IntKind.i64 n (3:Int)) seed) (List.take balL26q2.size (sbytes balL26q2))).length (anO (sdO seed) (mkO b (bitOp BinOp.and IntKind.i64 n (3:Int)) seed) (List.take balL26q2.size (sbytes balL26q2))))=balL26q0),())=(true,()))/\(decide (strOfNums (List.take (anO (sdO seed) (mkO b (bitOp BinOp.and IntKind.i64 n (3:Int)) seed) (List.take (nat_lit 5+(1:Nat)) [(108:Int),(97:Int),(116:Int),(101:Int),(115:Int),(116:Int)])).length (anO (sdO seed) (mkO b (bitOp BinOp.and IntKind.i64 n (3:Int)) seed) (List.take (nat_lit 5+(1:Nat)) [(108:Int),(97:Int),(116:Int),(101:Int),(115:Int),(116:Int)])))=balL26q0)=false->(false,())=(true,())))/\((bitOp BinOp.and IntKind.i64 n (3:Int)==(0:Int))=false->((0:Int)<=bitOp BinOp.and IntKind.i64 n (3:Int)/\bitOp BinOp.and IntKind.i64 n (3:Int)<(↑(5:Nat):Int))/\(bitOp BinOp.and IntKind.i64 n (3:Int)).toNat<(5:Nat)/\(∀ (g:Nat) (s:Sigma Car),sha.shaG g=some s->Decidable.rec (fun h=>(fun x=>if g=(1:Nat) then some ⟨Kd.arr (64:Nat) sha.uK,sha.rootsL⟩ else none) h) (fun h=>(fun x=>some ⟨Kd.arr (8:Nat) sha.uK,sha.firstL⟩) h) (instDecidableEqNat g (0:Nat))=some s)/\(0:Nat)+([balL26q1,balL26q2,balL26q3,balL26q4,balL26q5].getD (bitOp BinOp.and IntKind.i64 n (3:Int)).toNat ByteArray.empty).size<=([balL26q1,balL26q2,balL26q3,balL26q4,balL26q5].getD (bitOp BinOp.and IntKind.i64 n (3:Int)).toNat ByteArray.empty).size/\preAns2 ((mpO b,sdO seed,(5:Int),(3:Int)),(true,mkO b (bitOp BinOp.and IntKind.i64 n (3:Int)) seed,false),List.take ([balL26q1,balL26q2,balL26q3,balL26q4,balL26q5].getD (bitOp BinOp.and IntKind.i64 n (3:Int)).toNat ByteArray.empty).size (sbytes ([balL26q1,balL26q2,balL26q3,balL26q4,balL26q5].getD (bitOp BinOp.and IntKind.i64 n (3:Int)).toNat ByteArray.empty)),())/\(0:Nat)+(anO (sdO seed) (mkO b (bitOp BinOp.and IntKind.i64 n (3:Int)) seed) (List.take (nat_lit 5+(1:Nat)) [(108:Int),(97:Int),(116:Int),(101:Int),(115:Int),(116:Int)])).length<=(anO (sdO seed) (mkO b (bitOp BinOp.and IntKind.i64 n (3:Int)) seed) (List.take (nat_lit 5+(1:Nat)) [(108:Int),(97:Int),(116:Int),(101:Int),(115:Int),(116:Int)])).length/\(0:Nat)+(anO (sdO seed) (mkO b (bitOp BinOp.and IntKind.i64 n (3:Int)) seed) (List.take ([balL26q1,balL26q2,balL26q3,balL26q4,balL26q5].getD (bitOp BinOp.and IntKind.i64 n (3:Int)).toNat ByteArray.empty).size (sbytes ([balL26q1,balL26q2,balL26q3,balL26q4,balL26q5].getD (bitOp BinOp.and IntKind.i64 n (3:Int)).toNat ByteArray.empty)))).length<=(anO (sdO seed) (mkO b (bitOp BinOp.and IntKind.i64 n (3:Int)) seed) (List.take ([balL26q1,balL26q2,balL26q3,balL26q4,balL26q5].getD (bitOp BinOp.and IntKind.i64 n (3:Int)).toNat ByteArray.empty).size (sbytes ([balL26q1,balL26q2,balL26q3,balL26q4,balL26q5].getD (bitOp BinOp.and IntKind.i64 n (3:Int)).toNat ByteArray.empty)))).length/\ref01.preSame (List.take (anO (sdO seed) (mkO b (bitOp BinOp.and IntKind.i64 n (3:Int)) seed) (List.take (nat_lit 5+(1:Nat)) [(108:Int),(97:Int),(116:Int),(101:Int),(115:Int),(116:Int)])).length (anO (sdO seed) (mkO b (bitOp BinOp.and IntKind.i64 n (3:Int)) seed) (List.take (nat_lit 5+(1:Nat)) [(108:Int),(97:Int),(116:Int),(101:Int),(115:Int),(116:Int)])),List.take (anO (sdO seed) (mkO b (bitOp BinOp.and IntKind.i64 n (3:Int)) seed) (List.take ([balL26q1,balL26q2,balL26q3,balL26q4,balL26q5].getD (bitOp BinOp.and IntKind.i64 n (3:Int)).toNat ByteArray.empty).size (sbytes ([balL26q1,balL26q2,balL26q3,balL26q4,balL26q5].getD (bitOp BinOp.and IntKind.i64 n (3:Int)).toNat ByteArray.empty)))).length (anO (sdO seed) (mkO b (bitOp BinOp.and IntKind.i64 n (3:Int)) seed) (List.take ([balL26q1,balL26q2,balL26q3,balL26q4,balL26q5].getD (bitOp BinOp.and IntKind.i64 n (3:Int)).toNat ByteArray.empty).size (sbytes ([balL26q1,balL26q2,balL26q3,balL26q4,balL26q5].getD (bitOp BinOp.and IntKind.i64 n (3:Int)).toNat ByteArray.empty)))),())/\(ref01.sameF (List.take (anO (sdO seed) (mkO b (bitOp BinOp.and IntKind.i64 n (3:Int)) seed) (List.take (nat_lit 5+(1:Nat)) [(108:Int),(97:Int),(116:Int),(101:Int),(115:Int),(116:Int)])).length (anO (sdO seed) (mkO b (bitOp BinOp.and IntKind.i64 n (3:Int)) seed) (List.take (nat_lit 5+(1:Nat)) [(108:Int),(97:Int),(116:Int),(101:Int),(115:Int),(116:Int)]))) (List.take (anO (sdO seed) (mkO b (bitOp BinOp.and IntKind.i64 n (3:Int)) seed) (List.take ([balL26q1,balL26q2,balL26q3,balL26q4,balL26q5].getD (bitOp BinOp.and IntKind.i64 n (3:Int)).toNat ByteArray.empty).size (sbytes ([balL26q1,balL26q2,balL26q3,balL26q4,balL26q5].getD (bitOp BinOp.and IntKind.i64 n (3:Int)).toNat ByteArray.empty)))).length (anO (sdO seed) (mkO b (bitOp BinOp.and IntKind.i64 n (3:Int)) seed) (List.take ([balL26q1,balL26q2,balL26q3,balL26q4,balL26q5].getD (bitOp BinOp.and IntKind.i64 n (3:Int)).toNat ByteArray.empty).size (sbytes ([balL26q1,balL26q2,balL26q3,balL26q4,balL26q5].getD (bitOp BinOp.and IntKind.i64 n (3:Int)).toNat ByteArray.empty)))))=true->((0:Int)<=IntKind.i64.wrap (bitOp BinOp.and IntKind.i64 n (3:Int)+(1:Int))/\IntKind.i64.wrap (bitOp BinOp.and IntKind.i64 n (3:Int)+(1:Int))<(↑(5:Nat):Int))/\(IntKind.i64.wrap (bitOp BinOp.and IntKind.i64 n (3:Int)+(1:Int))).toNat<(5:Nat)/\(∀ (g:Nat) (s:Sigma Car),sha.shaG g=some s->Decidable.rec (fun h=>(fun x=>if g=(1:Nat) then some ⟨Kd.arr (64:Nat) sha.uK,sha.rootsL⟩ else none) h) (fun h=>(fun x=>some ⟨Kd.arr (8:Nat) sha.uK,sha.firstL⟩) h) (instDecidableEqNat g (0:Nat))=some s)/\(0:Nat)+([balL26q1,balL26q2,balL26q3,balL26q4,balL26q5].getD (IntKind.i64.wrap (bitOp BinOp.and IntKind.i64 n (3:Int)+(1:Int))).toNat ByteArray.empty).size<=([balL26q1,balL26q2,balL26q3,balL26q4,balL26q5].getD (IntKind.i64.wrap (bitOp BinOp.and IntKind.i64 n (3:Int)+(1:Int))).toNat ByteArray.empty).size/\preAns2 ((mpO b,sdO seed,(5:Int),(3:Int)),(true,mkO b (bitOp BinOp.and IntKind.i64 n (3:Int)) seed,false),List.take ([balL26q1,balL26q2,balL26q3,balL26q4,balL26q5].getD (IntKind.i64.wrap (bitOp BinOp.and IntKind.i64 n (3:Int)+(1:Int))).toNat ByteArray.empty).size (sbytes ([balL26q1,balL26q2,balL26q3,balL26q4,balL26q5].getD (IntKind.i64.wrap (bitOp BinOp.and IntKind.i64 n (3:Int)+(1:Int))).toNat ByteArray.empty)),())/\(0:Nat)+(anO (sdO seed) (mkO b (bitOp BinOp.and IntKind.i64 n (3:Int)) seed) (List.take ([balL26q1,balL26q2,balL26q3,balL26q4,balL26q5].getD (IntKind.i64.wrap (bitOp BinOp.and IntKind.i64 n (3:Int)+(1:Int))).toNat ByteArray.empty).size (sbytes ([balL26q1,balL26q2,balL26q3,balL26q4,balL26q5].getD (IntKind.i64.wrap (bitOp BinOp.and IntKind.i64 n (3:Int)+(1:Int))).toNat ByteArray.empty)))).length<=(anO (sdO seed) (mkO b (bitOp BinOp.and IntKind.i64 n (3:Int)) seed) (List.take ([balL26q1,balL26q2,balL26q3,balL26q4,balL26q5].getD (IntKind.i64.wrap (bitOp BinOp.and IntKind.i64 n (3:Int)+(1:Int))).toNat ByteArray.empty).size (sbytes ([balL26q1,balL26q2,balL26q3,balL26q4,balL26q5].getD (IntKind.i64.wrap (bitOp BinOp.and IntKind.i64 n (3:Int)+(1:Int))).toNat ByteArray.empty)))).length/\(decide (strOfNums (List.take (anO (sdO seed) (mkO b (bitOp BinOp.and IntKind.i64 n (3:Int)) seed) (List.take ([balL26q1,balL26q2,balL26q3,balL26q4,balL26q5].getD (IntKind.i64.wrap (bitOp BinOp.and IntKind.i64 n (3:Int)+(1:Int))).toNat ByteArray.empty).size (sbytes ([balL26q1,balL26q2,balL26q3,balL26q4,balL26q5].getD (IntKind.i64.wrap (bitOp BinOp.and IntKind.i64 n (3:Int)+(1:Int))).toNat ByteArray.empty)))).length (anO (sdO seed) (mkO b (bitOp BinOp.and IntKind.i64 n (3:Int)) seed) (List.take ([balL26q1,balL26q2,balL26q3,balL26q4,balL26q5].getD (IntKind.i64.wrap (bitOp BinOp.and IntKind.i64 n (3:Int)+(1:Int))).toNat ByteArray.empty).size (sbytes ([balL26q1,balL26q2,balL26q3,balL26q4,balL26q5].getD (IntKind.i64.wrap (bitOp BinOp.and IntKind.i64 n (3:Int)+(1:Int))).toNat ByteArray.empty)))))=balL26q0),())=(true,()))/\(ref01.sameF (List.take (anO (sdO seed) (mkO b (bitOp BinOp.and IntKind.i64 n (3:Int)) seed) (List.take (nat_lit 5+(1:Nat)) [(108:Int),(97:Int),(116:Int),(101:Int),(115:Int),(116:Int)])).length (anO (sdO seed) (mkO b (bitOp BinOp.and IntKind.i64 n (3:Int)) seed) (List.take (nat_lit 5+(1:Nat)) [(108:Int),(97:Int),(116:Int),(101:Int),(115:Int),(116:Int)]))) (List.take (anO (sdO seed) (mkO b (bitOp BinOp.and IntKind.i64 n (3:Int)) seed) (List.take ([balL26q1,balL26q2,balL26q3,balL26q4,balL26q5].getD (bitOp BinOp.and IntKind.i64 n (3:Int)).toNat ByteArray.empty).size (sbytes ([balL26q1,balL26q2,balL26q3,balL26q4,balL26q5].getD (bitOp BinOp.and IntKind.i64 n (3:Int)).toNat ByteArray.empty)))).length (anO (sdO seed) (mkO b (bitOp BinOp.and IntKind.i64 n (3:Int)) seed) (List.take ([balL26q1,balL26q2,balL26q3,balL26q4,balL26q5].getD (bitOp BinOp.and IntKind.i64 n (3:Int)).toNat ByteArray.empty).size (sbytes ([balL26q1,balL26q2,balL26q3,balL26q4,balL26q5].getD (bitOp BinOp.and IntKind.i64 n (3:Int)).toNat ByteArray.empty)))))=false->(false,())=(true,()))))))) (by kernel_rfl) ?_
 refine⟨trivial,fun q=>(nomatch q),fun _=>⟨fun _=>rfl,fun hb100=>?_⟩⟩
 have hb100:b.length<=100:=by
  have:=of_decide_eq_false hb100
  omega
 obtain⟨a0,a3⟩:=and3 n
 generalize bitOp .and .i64 n 3=N at *
 obtain⟨hl,hlen⟩:=mkO_ok b N seed a0 a3
 obtain⟨s1,s2⟩:=sdO_ok seed
 generalize mkO b N seed=ls at *
 generalize sdO seed=S at *
 generalize mpO b=k at *
 have e0:(pso lB).2=0:=by rw[pB]
 refine⟨fun _ _ h=>h,⟨⟨hb.1,hb100⟩,a0,a3⟩,fun _ _ h=>h,by decide,⟨hl,⟨s1,s2⟩,.inl (by show (pso lB).1.1≠sInfo;rw[pB];exact li)⟩,fun h0=>?_,fun h0=>?_⟩
 ·have h0:N=0:=eq_of_beq h0
  subst h0
  have t0:=tk41 (anO_none (s:=S) (ls:=ls) e0 (.inl (by rw[anR_l];omega)))
  have t1:=tk41 (anO_none (s:=S) (ls:=ls) (b:=rdB 1) (by rw[pR1]) (.inr (by rw[anR_r ls pR1];omega)))
  refine⟨by omega,fun _=>⟨⟨by decide,by decide⟩,by decide,fun _ _ h=>h,by decide,⟨hl,⟨s1,s2⟩,.inl (by show (pso (rdB 1)).1.1≠sInfo;rw[pR1];exact rn)⟩,lz _,?_⟩,nb t0⟩
  exact congrArg (fun b:Bool=>(b,())) t1
 ·have h0:N≠0:=fun q=>by subst q;cases h0
  have hc:N=1\/N=2\/N=3:=by omega
  rcases hc with rfl|rfl|rfl
  ·obtain⟨q1,q2,q3,q4,q5,q6,q7,q8⟩:=half (k:=k) (N:=1) (by decide) (by decide) hl (by omega) s1 s2 pR1 pR2
   exact⟨⟨by decide,by decide⟩,by decide,fun _ _ h=>h,lz _,q1,q2,q3,q4,fun _=>⟨⟨by decide,by decide⟩,by decide,fun _ _ h=>h,lz _,q6,q7,congrArg (fun b:Bool=>(b,())) q8⟩,nb q5⟩
  ·obtain⟨q1,q2,q3,q4,q5,q6,q7,q8⟩:=half (k:=k) (N:=2) (by decide) (by decide) hl (by omega) s1 s2 pR2 pR3
   exact⟨⟨by decide,by decide⟩,by decide,fun _ _ h=>h,lz _,q1,q2,q3,q4,fun _=>⟨⟨by decide,by decide⟩,by decide,fun _ _ h=>h,lz _,q6,q7,congrArg (fun b:Bool=>(b,())) q8⟩,nb q5⟩
  ·obtain⟨q1,q2,q3,q4,q5,q6,q7,q8⟩:=half (k:=k) (N:=3) (by decide) (by decide) hl (by omega) s1 s2 pR3 pR4
   exact⟨⟨by decide,by decide⟩,by decide,fun _ _ h=>h,lz _,q1,q2,q3,q4,fun _=>⟨⟨by decide,by decide⟩,by decide,fun _ _ h=>h,lz _,q6,q7,congrArg (fun b:Bool=>(b,())) q8⟩,nb q5⟩
end Go.Proofs.YteldhmehjkhanaaGreatDoor.law26
namespace Go.Eng
open Go Go.RowKit Cr Go.ChangeShapes Go.WideShapes Go.ChangeAt
theorem laid_ints {P:Program} {t e:TypeId} {n:Nat} {k:IntKind} {H:Type} {enc:TypeId × Value->H} {W:World} {fl:Bool} {fuel:Nat} {cs:List Value} {p:List MemPlace} {xs:List Int} (ht:P.underlying t=some (.array n e)) (he:P.underlying e=some (.int k)) (hce:P.cellsOf e=1) (hct:P.cellsOf t=n)
  (h:DataW.trod enc P W 0 (fun _=>true) fl fuel t cs=some (.agg (xs.map fun x=>.lit (.int k x)),p)):cs=xs.map (Value.int k):=by
 obtain⟨ys,m,rfl,hx,hlen,hn,hel⟩:=DataW.trod_array ht h
 simp only[Prod.mk.injEq,DataW.agg.injEq] at hx
 obtain⟨hx,_⟩:=hx
 have hxl:xs.length=n:=by
  have:=congrArg List.length hx
  simpa[hn] using this
 refine List.ext_getElem (by rw[hlen,hct,List.length_map,hxl]) fun i h1 h2=>?_
 have hin:i<n:=by rw[hlen,hct] at h1;exact h1
 have h3:=hel i hin
 rw[hce,Nat.mul_one,List.getElem?_eq_getElem (by omega)] at h3
 obtain⟨z,e1,e2,_⟩:=DataW.trod_int he h3
 have e3:(cs.drop i).take 1=[cs[i]]:=by rw[List.drop_eq_getElem_cons h1];rfl
 rw[e3] at e1
 simp only[List.cons.injEq,and_true] at e1
 have h4:(xs.map fun x=>(DataW.lit (.int k x):DataW H))[i]?=(ys.map (·.1))[i]?:=by rw[hx]
 rw[List.getElem?_map,List.getElem?_map,List.getElem?_eq_getElem (by omega),List.getElem?_eq_getElem (by omega)] at h4
 simp only[Option.map_some,Option.some.injEq] at h4
 rw[e2] at h4
 simp only[DataW.lit.injEq,Lit.int.injEq,true_and] at h4
 rw[e1,List.getElem_map,h4]
theorem laid_row {P:Program} {W:World} {nm:String} {g n:Nat} {k:IntKind} {cs:Array Value} {xs:List Int} (hg:P.globalNamed nm=some g) (hv:W.var? P nm=some cs) (hcs:cs.toList=xs.map (Value.int k)) (hx:xs.length=n):RowAt (Rd (memOf W) (.arr n (.int k))) (width (.arr n (.int k))) (memOf W) g 0 [xs]:=by
 have hh:∃ el fr,W.heap[g]?=some (.cells cs el fr):=by
  simp only[World.var?,hg,Option.bind_some] at hv
  split at hv
  ·rename_i c el fr hh
   simp only[Option.some.injEq] at hv
   subst hv
   exact⟨el,fr,hh⟩
  ·cases hv
 obtain⟨el,fr,hh⟩:=hh
 obtain⟨l⟩:=cs
 have hcs:l=xs.map (Value.int k):=hcs
 refine⟨l,fun hn=>memOf_blk hh hn,?_,?_⟩
 ·simp[width,hcs,hx]
 ·rw[List.drop_zero,List.take_of_length_le (by simp[width,hcs,hx])]
  exact RdL_one ⟨hx,RdL_int.2 hcs⟩
theorem law_rowG {C:Checked} {f:FuncId} {fn:Func} {s:ChangeSpec} {bt:TypeId} {ts:List TypeId} {ks:List Kd} {pre pre':HL ks->Prop} {H:Type} {enc:TypeId × Value->H} {G:Glob}
  (he:enters C.prog f fn) (hf:FnOk C.prog f ks [.val .bool] G pre (fun _=>(true,()))) (hl:laidOutB C.prog=true) (hts:fn.params.toList=ts) (hrs:fn.resultTypes=#[bt]) (hbt:C.prog.underlying bt=some .bool)
  (ho:OpnL C.prog ts ks pre') (hpre:∀ xs,pre' xs->pre xs) (hv:s.vars=[]) (hs:∀ ds:List (DataW H),ds.length=ts.length->s.fn H ds={ results:=[.lit (.bool true)],args:=ds })
  (W:World) (hG:GlOk G (memOf W)) (base:Nat) (args:Array Value) (ds gs:List (DataW H)) (before:List MemPlace)
  (hok:∀ (j:Nat) t v,fn.params[j]?=some t->args[j]?=some v->Value.okWide C.prog W .any base t v)
  (hW:DataW.Whole enc C.prog fn.params.toList s.vars false W args.toList ds gs before)
  (hsz:(DataW.weightsEach C.prog (fn.params.toList++s.plain.varTypes C.prog) (ds++gs)).all (· <= reachBytes)=true) :
  Calls C.prog f args W fun e W'=>∃ v,e=.returned v/\s.post enc C.prog fn false true false false W args v W':=by
 have hW':=hW
 have hlt:∀ x∈before,x.block<W.heap.size:=fun x hx=>by simpa using hW'.lt x hx
 obtain⟨p,q,hA,hV,rfl,hfz,hnd⟩:=hW
 rw[hv] at hV
 obtain⟨rfl,rfl⟩:=trodVars_none hV
 rw[hts] at hA
 have hlen:ds.length=ts.length:=by
  exact trodAll_len hA
 have hwt:∀ n∈DataW.weightsEach C.prog ts ds,n<=reachBytes:=by
  intro n hn
  have e:s.plain.varTypes C.prog=[]:=by simp[DataSpec.varTypes,ChangeSpec.plain,hv]
  rw[e,hts,List.append_nil,List.append_nil,List.all_eq_true] at hsz
  simpa using hsz n hn
 obtain⟨xs,hin,hp⟩:=opnL_open ho (enc:=enc) (W:=W) (base:=base) (vs:=args.toList) (ds:=ds) (p:=p) (fun j t v ht hj=>hok j t v (by rw[<- hts] at ht;simpa using ht) (by simpa using hj)) hA hwt
 have hc:=hf W (memOf W) args.toList xs (fun b l h=>h) hG hin (hpre xs hp)
 refine (callOk_calls he hc).mono ?_
 rintro e W' ⟨v,rfl,vs,ob,rfl,⟨v,vs',rfl,hv1,rfl⟩,hb⟩
 have hv1:v=.bool true:=by have h:[v]=[Value.bool true]:=hv1;simpa using h
 subst hv1
 refine⟨_,rfl,ds,[],p++[],[],p,[],hW',?_,?_,?_,?_,fun h=>by cases h⟩
 ·rw[hrs,List.append_nil,hs ds hlen]
  exact trodAll_mk1 (shut_bool hbt true)
 ·rw[hts,List.append_nil,hs ds hlen]
  exact opnL_stays hl ho hb hA (fun x hx=>hlt x (by simpa using hx))
 ·rw[hv,List.append_nil,hs ds hlen]
  rfl
 ·exact hb.frame _
end Go.Eng
namespace Go.Proofs.YteldhmehjkhanaaGreatDoor.qry
open Go Go.Eng Go.RowKit Cr
abbrev qLaid : List (String × DataW Unit) := [("math/bits.deBruijn32tab", Rows.laid_math_bits_deBruijn32tab), ("math/bits.deBruijn64tab", Rows.laid_math_bits_deBruijn64tab), ("cresset/sha.first", Rows.laid_cresset_sha_first), ("cresset/sha.roots", Rows.laid_cresset_sha_roots), ("internal/strconv.uint64pow10", Rows.laid_internal_strconv_uint64pow10), ("unicode/utf8.acceptRanges", Rows.laid_unicode_utf8_acceptRanges), ("unicode/utf8.first", Rows.laid_unicode_utf8_first)]
theorem all_met (os:Os) (args:Array Value):laidMetH Tryz.prog qLaid ((World.laidAll Tryz.prog os qLaid).forCall (fun _ _=>0) ⟨#[],args,[]⟩).memory:=by
 rw[MakeChecks.laidMetH_plain _ _ _ (by kernel_rfl)]
 exact laidMet_laidAll _ (by kernel_rfl) (by kernel_rfl)
end Go.Proofs.YteldhmehjkhanaaGreatDoor.qry
namespace Go.Proofs.YteldhmehjkhanaaGreatDoor.sha
open Go Go.Eng Go.RowKit Cr
abbrev shaLaid : List (String × DataW Unit) := [("cresset/sha.first", Rows.laid_cresset_sha_first), ("cresset/sha.roots", Rows.laid_cresset_sha_roots)]
theorem gFirst : Tryz.prog.globalNamed "cresset/sha.first" = some 0 := by kernel_rfl
theorem gRoots : Tryz.prog.globalNamed "cresset/sha.roots" = some 1 := by kernel_rfl
theorem tFirst:(Tryz.prog.globals[0]?).map (·.type)=some 110:=by kernel_rfl
theorem tRoots:(Tryz.prog.globals[1]?).map (·.type)=some 181:=by kernel_rfl
theorem sha_glob {W:World} (h:laidMetH Tryz.prog shaLaid W):GlOk shaG (memOf W):=by
 rw[MakeChecks.laidMetH_plain _ _ _ (by kernel_rfl)] at h
 obtain⟨ps,⟨g0,t0,cs0,f0,p0,q0,hg0,ht0,hv0,hd0,⟨g1,t1,cs1,f1,p1,q1,hg1,ht1,hv1,hd1,_,_⟩,_⟩,_,_⟩:=h
 obtain rfl:=Option.some.inj (gFirst.symm.trans hg0)
 obtain rfl:=Option.some.inj (gRoots.symm.trans hg1)
 obtain rfl:=Option.some.inj (tFirst.symm.trans ht0)
 obtain rfl:=Option.some.inj (tRoots.symm.trans ht1)
 have e0:(Rows.laid_cresset_sha_first:DataW Unit)=.agg (firstL.map fun x=>.lit (.int .u32 x)):=rfl
 have e1:(Rows.laid_cresset_sha_roots:DataW Unit)=.agg (rootsL.map fun x=>.lit (.int .u32 x)):=rfl
 rw[e0] at hd0
 rw[e1] at hd1
 have c0:=laid_ints (e:=109) (n:=8) (k:=.u32) (by kernel_rfl) (by kernel_rfl) (by kernel_rfl) (by kernel_rfl) hd0
 have c1:=laid_ints (e:=109) (n:=64) (k:=.u32) (by kernel_rfl) (by kernel_rfl) (by kernel_rfl) (by kernel_rfl) hd1
 have r0:=laid_row hg0 hv0 c0 (n:=8) rfl
 have r1:=laid_row hg1 hv1 c1 (n:=64) rfl
 intro g e x hx
 unfold shaG at hx
 split at hx
 ·rename_i hg
  subst hg
  simp only[Option.some.injEq] at hx
  cases hx
  exact r0
 ·split at hx
  ·rename_i hg
   subst hg
   simp only[Option.some.injEq] at hx
   cases hx
   exact r1
  ·cases hx
end Go.Proofs.YteldhmehjkhanaaGreatDoor.sha
namespace Go.Proofs.YteldhmehjkhanaaGreatDoor.qry
open Go Go.Eng Go.RowKit Cr sha
theorem sha_glob {W:World} (h:laidMetH Tryz.prog qLaid W):GlOk shaG (memOf W):=by
 rw[MakeChecks.laidMetH_plain _ _ _ (by kernel_rfl)] at h
 obtain⟨ps,⟨_,_,_,_,_,_,_,_,_,_,⟨_,_,_,_,_,_,_,_,_,_,⟨g0,t0,cs0,f0,p0,q0,hg0,ht0,hv0,hd0,⟨g1,t1,cs1,f1,p1,q1,hg1,ht1,hv1,hd1,_,_⟩,_⟩,_⟩,_⟩,_,_⟩:=h
 obtain rfl:=Option.some.inj (gFirst.symm.trans hg0)
 obtain rfl:=Option.some.inj (gRoots.symm.trans hg1)
 obtain rfl:=Option.some.inj (tFirst.symm.trans ht0)
 obtain rfl:=Option.some.inj (tRoots.symm.trans ht1)
 have e0:(Rows.laid_cresset_sha_first:DataW Unit)=.agg (firstL.map fun x=>.lit (.int .u32 x)):=rfl
 have e1:(Rows.laid_cresset_sha_roots:DataW Unit)=.agg (rootsL.map fun x=>.lit (.int .u32 x)):=rfl
 rw[e0] at hd0
 rw[e1] at hd1
 have c0:=laid_ints (e:=109) (n:=8) (k:=.u32) (by kernel_rfl) (by kernel_rfl) (by kernel_rfl) (by kernel_rfl) hd0
 have c1:=laid_ints (e:=109) (n:=64) (k:=.u32) (by kernel_rfl) (by kernel_rfl) (by kernel_rfl) (by kernel_rfl) hd1
 have r0:=laid_row hg0 hv0 c0 (n:=8) rfl
 have r1:=laid_row hg1 hv1 c1 (n:=64) rfl
 intro g e x hx
 unfold shaG at hx
 split at hx
 ·rename_i hg
  subst hg
  simp only[Option.some.injEq] at hx
  cases hx
  exact r0
 ·split at hx
  ·rename_i hg
   subst hg
   simp only[Option.some.injEq] at hx
   cases hx
   exact r1
  ·cases hx
end Go.Proofs.YteldhmehjkhanaaGreatDoor.qry
namespace Go.Eng
open Go Go.RowKit Cr
end Go.Eng
namespace Go.Proofs.YteldhmehjkhanaaGreatDoor
open Go Go.Eng Go.RowKit Cr Go.ChangeShapes Go.WideShapes Go.ChangeAt
namespace queryLatest
theorem own:ownKnob Tryz.prog.godebug=none:=by kernel_rfl
theorem laidOut:laidOutB Tryz.prog=true:=by kernel_rfl
abbrev wtB:Car bsl->Prop:=fun ys=>List.length ys*Tryz.prog.bytesOf 5<=reachBytes/\∀ y∈ys,(Lit.int .u8 y).wf=true
theorem oB:OpnV Tryz.prog 22 bsl wtB:=opnV_slice (e:=5) (by kernel_rfl) (by kernel_rfl) (by decide) (opnC_int (by kernel_rfl))
theorem bytes5:Tryz.prog.bytesOf 5=1:=by kernel_rfl
theorem pB {xs:List Int} (h:wtB xs):preB xs:=by
 obtain⟨h1,h2⟩:=h
 rw[bytes5] at h1
 refine⟨fun x hx=>?_,?_⟩
 ·have:=h2 x hx
  simp[Lit.wf,IntKind.min,IntKind.max,IntKind.signed,IntKind.bits] at this
  omega
 ·show List.length xs<=_
  simp only[reachBytes] at h1
  omega
abbrev wtI:Car (.int .i64)->Prop:=fun x=>(Lit.int .i64 x).wf=true
theorem oI:OpnV Tryz.prog 3 (.int .i64) wtI:=opnV_int (by kernel_rfl)
theorem pI {x:Int} (h:wtI x):preI x:=by
 have:(Lit.int .i64 x).wf=true:=h
 simp[Lit.wf,IntKind.min,IntKind.max,IntKind.signed,IntKind.bits] at this
 exact⟨by omega,by omega⟩
theorem opened:OpnL Tryz.prog [22,3,3] [bsl,.int .i64,.int .i64] (fun x=>wtB x.1/\wtI x.2.1/\wtI x.2.2.1/\True) :=
 .cons oB (by kernel_rfl) (of_decide_eq_true (by kernel_rfl)) (.cons oI (by kernel_rfl) (of_decide_eq_true (by kernel_rfl)) (.cons oI (by kernel_rfl) (of_decide_eq_true (by kernel_rfl)) .nil))
theorem lifted (os:Os) (started:os.Started) (H:Type) (enc:TypeId × Value->H) :
  ReturnsInHanded {} Tryz.checked os 3 .any (fun w args=>(Rows.queryLatestSpec.pre enc Tryz.prog Tryz.f3 Rows.queryLatestRow.domain false w args/\laidMetH Tryz.prog qry.qLaid w)/\sizedMet enc Tryz.prog Tryz.f3 (OpenSpec.ofChange Rows.queryLatestSpec) false w args) (Rows.queryLatestSpec.post enc Tryz.prog Tryz.f3 false true false false):=by
 refine returnsInHanded_of_change_and (C:=Tryz.checked) (X:=fun w _=>laidMetH Tryz.prog qry.qLaid w) (fun _ _ _ hh h=>h.of_heap hh) own started (by kernel_rfl) Tryz.func3
  (ChangeSpec.witness_shaped (enc:=enc) (C:=Tryz.checked) (os:=os) (X:=fun w _=>laidMetH Tryz.prog qry.qLaid w) false (World.laidAll Tryz.prog os qry.qLaid) #[.slice none 0 0,.int .i64 0,.int .i64 0] 8 rfl (World.shaped_of_ZipB (by kernel_rfl) (by kernel_rfl)) (by kernel_rfl) (by kernel_rfl) (by kernel_rfl) (qry.all_met os _)) ?_
 intro W base args ds gs before hval hW _ hsz hL _
 refine law_rowG (C:=Tryz.checked) (bt:=4) (ts:=[22,3,3]) law26.ent_latest law26.fn_latest laidOut (by kernel_rfl) (by kernel_rfl) (by kernel_rfl) opened ?_ rfl ?_ W (qry.sha_glob hL) base args ds gs before hval hW hsz
 ·rintro⟨x0,x1,x2,⟨⟩⟩ ⟨h0,h1,h2,_⟩
  exact⟨pB h0,pI h1,pI h2⟩
 ·intro ds hl
  match ds,hl with
  | [d0,d1,d2],_=>rfl
theorem row:Rows.QueryLatestSaid :=
 OpenClaim.holds_of_wide 3 Tryz.f3 rfl rfl rfl rfl rfl rfl rfl ⟨rfl,rfl,rfl,rfl,rfl⟩ rfl rfl rfl rfl rfl (by kernel_rfl) Tryz.func3 (by kernel_rfl)
  (of_decide_eq_true (by kernel_rfl)) (by unfold Func.isWrapper;first|(rw[if_pos (by decide +kernel)];kernel_rfl)|(rw[if_neg (by decide +kernel)];exact⟨rfl,rfl⟩))
  (fun os started H enc _=>lifted os started H enc)
theorem wants:(Tryz.f3.params.toList.all fun u => !Tryz.prog.wantsStandIn u)=true:=by kernel_rfl
theorem proved:Rows.QueryLatestCardSaid :=
 Claim7.holds_tied_plain_at .later [] [.data, .data, .data, .data, .data, .data, .pinned] true (true, "7e3bb37a4df574adb7a6ecc18766812f759422445b29ac047bf2cdf58049d687") false
  row (fun _ h=>by cases h) (by kernel_rfl) (fun _ h=>by cases h) queryLatest_row_tie rfl ⟨rfl,rfl⟩ (by kernel_rfl) rfl
  (fun f fn hf hfn=>by
   obtain rfl : f = 3 := Option.some.inj ((show Tryz.prog.funcNamed "cresset/cressetlaw26.QueryLatest" = some 3 by kernel_rfl).symm.trans hf) |>.symm
   obtain rfl:fn=Tryz.f3:=(Option.some.inj (Tryz.func3.symm.trans hfn)).symm
   exact⟨by kernel_rfl,fun j t ht=>by
    have hm:t∈Tryz.f3.params.toList:=by simpa using Array.mem_of_getElem? ht
    exact (show Tryz.prog.wantsStandIn t=false by simpa using List.all_eq_true.1 wants t hm)⟩)
  (by kernel_rfl)
#print axioms proved
end queryLatest
end Go.Proofs.YteldhmehjkhanaaGreatDoor
