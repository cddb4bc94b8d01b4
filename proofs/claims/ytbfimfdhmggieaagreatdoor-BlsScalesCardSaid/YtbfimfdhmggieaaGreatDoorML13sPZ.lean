import Derived.Test.YtbfimfdhmggieaaGreatDoorML13sPY
set_option maxRecDepth 100000
namespace Go.Proofs.YtbfimfdhmggieaaGreatDoor.h2c
noncomputable section
open Go Go.Eng Go.RowKit Cr fp2 Rg Fd
abbrev csH2e0:=(List.take 8 [(210 : Int),(1 : Int),(0 : Int),(0 : Int),(0 : Int),(1 : Int),(0 : Int),(0 : Int)])
theorem inv_rt : inv2 tower.rt1=ir:=by
 refine inv2_u ?_
 have h : eqv (vmul irv pairing.rtv) (1,0)=true:=by kernel_rfl
 have h1:=eqv_ok h
 rw [q2_mul,q2_one,pairing.rtv_eq] at h1
 exact h1
theorem fo_root : FnOk Tryz.prog 168 [] [.val f2] noG (fun _ => True) (fun _ => (tower.rt1,())):=tower.fn_root
def soRoot : Nat × Eng.Spec:=(168,fnSpec [] [.val f2] (fun _ => True) (fun _ => (tower.rt1,())))
theorem ent_clr1 : enters Tryz.prog 169 Tryz.f169:=ek
theorem fn_clr1 : FnOk Tryz.prog 169 [pt2,.ptr f2,.ptr f2] [.val pt2] noG (fun _ => True) (fun (q,s,c,_) => (((cjg q.1 * s,cjg q.2 * c) : F2 × F2),())):=by
 refine fn_of_vc (sp:=sps [fp2.spConj,fp2.spMul]) (scn (fok fp2.fn_conj) (scn (fok fp2.fn_mul) snl)) mixed ent_clr1 (by decide) (by decide) ?_
 rintro w M0 ⟨q,s,c,⟨⟩⟩
 revert q s c
 intro (q : F2 × F2) (s : F2) (c : F2) _ _
 refine vcx (X:=(True /\ (0 : Nat) < [s].length /\ True /\ True /\ (0 : Nat) < [c].length /\ True /\ (((q.fst.fst,-q.fst.snd) * s,(q.snd.fst,-q.snd.snd) * c),())=((cjg q.fst * s,cjg q.snd * c),()))) (by kernel_rfl) ?_
 exact ⟨trivial,Nat.zero_lt_one,trivial,trivial,Nat.zero_lt_one,trivial,rfl⟩
def spClr1 : Nat × Eng.Spec:=(169,fnSpec [pt2,.ptr f2,.ptr f2] [.val pt2] (fun _ => True) (fun (q,s,c,_) => (((cjg q.1 * s,cjg q.2 * c) : F2 × F2),())))
def clo (p : F2 × F2) : F2 × F2:=opq (clr p)
theorem size_ok : Bs csH2e0:=by
 intro x hx; simp at hx; omega
theorem clear_val {p : F2 × F2} (h : g2.Onb p) : g2.gsum (List.take 5 [g2.gtms (g2.gtms p (List.take 8 [210,1,0,0,0,1,0,0])) (List.take 8 [210,1,0,0,0,1,0,0]),g2.gtms p (List.take 8 [210,1,0,0,0,1,0,0]),g2.gneg p,g2.gneg (tau (g2.gadd (g2.gtms p (List.take 8 [210,1,0,0,0,1,0,0])) p)),tau (tau (g2.gadd p p))])=clo p:=by
 have hk : Bs [210,1,0,0,0,1,0,0]:=by intro x hx; simp at hx; omega
 have e : List.take 8 [210,1,0,0,0,1,0,0]=([210,1,0,0,0,1,0,0] : List Int):=rfl
 have en : (num [210,1,0,0,0,1,0,0]).toNat=uN:=of_decide_eq_true (by kernel_rfl)
 have oA : OnP tb (nmul p uN):=nmul_on tb_ne h _
 have oB : OnP tb (nmul (nmul p uN) uN):=nmul_on tb_ne oA _
 have oC:=pneg_onP (b:=tb) h
 have oD : OnP tb (pneg (tau (padd (nmul p uN) p))):=pneg_onP (ad_tau.on _ (padd_on tb_ne oA h))
 have oE : OnP tb (tau (tau (padd p p))):=ad_tau.on _ (ad_tau.on _ (padd_on tb_ne h h))
 rw [e,g2.gtms_eq h hk,en,g2.gtms_eq oA hk,en,g2.gneg_eq,g2.gneg_eq,g2.gadd_eq oA h,g2.gadd_eq h h]
 show g2.gsum [_,_,_,_,_]=_
 rw [g2.gsum_eq,clo,opq_eq]; · rfl
 intro q hq
 simp only [List.mem_cons,List.not_mem_nil,or_false] at hq
 rcases hq with h | h | h | h | h
 ·rw [h]; exact oB
 ·rw [h]; exact oA
 ·rw [h]; exact oC
 ·rw [h]; exact oD
 ·rw [h]; exact oE
theorem ent_clear : enters Tryz.prog 117 Tryz.f117:=ek
theorem fn_clear : FnOk Tryz.prog 117 [pt2] [.val pt2] noG (fun (p,_) => g2.Onb p) (fun (p,_) => (clo p,())):=by
 refine fn_of_vc (sp:=sps [soRoot,fp2.spInv,fp2.spSquare,fp2.spMul,g2.soTimes,g2.soNeg,g2.soAdd,spClr1,g2.soSum]) (scn (fok fo_root) (scn (fok fp2.fn_inv) (scn (fok fp2.fn_square) (scn (fok fp2.fn_mul) (scn (fok g2.fo_times) (scn (fok g2.fo_neg) (scn (fok g2.fo_add) (scn (fok fn_clr1) (scn (fok g2.fo_sum) snl))))))))) mixed ent_clear (by decide) (by decide) ?_
 rintro w M0 ⟨p,⟨⟩⟩
 revert p
 intro (p : F2 × F2) _ hp
 have hp : g2.Onb p:=hp
 refine vcx (X:=(True /\ True /\ True /\ True /\ 0 + 8 <= 8 /\ g2.preTimes (p,List.take 8 [(210 : Int),(1 : Int),(0 : Int),(0 : Int),(0 : Int),(1 : Int),(0 : Int),(0 : Int)],()) /\ 0 + 8 <= 8 /\ g2.preTimes (g2.gtms p csH2e0,List.take 8 [(210 : Int),(1 : Int),(0 : Int),(0 : Int),(0 : Int),(1 : Int),(0 : Int),(0 : Int)],()) /\ True /\ True /\ True /\ True /\ True /\ True /\ True /\ 0 + 5 <= 5 /\ g2.preSum (List.take 5 [g2.gtms (g2.gtms p csH2e0) csH2e0,g2.gtms p csH2e0,g2.gneg p,g2.gneg (cjg (g2.gadd (g2.gtms p csH2e0) p).fst * (inv2 (tower.rootK,-tower.rootK) * inv2 (tower.rootK,-tower.rootK)),cjg (g2.gadd (g2.gtms p csH2e0) p).snd * (inv2 (tower.rootK,-tower.rootK) * inv2 (tower.rootK,-tower.rootK) * inv2 (tower.rootK,-tower.rootK))),(cjg (cjg (g2.gadd p p).fst * (inv2 (tower.rootK,-tower.rootK) * inv2 (tower.rootK,-tower.rootK))) * (inv2 (tower.rootK,-tower.rootK) * inv2 (tower.rootK,-tower.rootK)),cjg (cjg (g2.gadd p p).snd * (inv2 (tower.rootK,-tower.rootK) * inv2 (tower.rootK,-tower.rootK) * inv2 (tower.rootK,-tower.rootK))) * (inv2 (tower.rootK,-tower.rootK) * inv2 (tower.rootK,-tower.rootK) * inv2 (tower.rootK,-tower.rootK)))],()) /\ (g2.gsum (List.take 5 [g2.gtms (g2.gtms p csH2e0) csH2e0,g2.gtms p csH2e0,g2.gneg p,g2.gneg (cjg (g2.gadd (g2.gtms p csH2e0) p).fst * (inv2 (tower.rootK,-tower.rootK) * inv2 (tower.rootK,-tower.rootK)),cjg (g2.gadd (g2.gtms p csH2e0) p).snd * (inv2 (tower.rootK,-tower.rootK) * inv2 (tower.rootK,-tower.rootK) * inv2 (tower.rootK,-tower.rootK))),(cjg (cjg (g2.gadd p p).fst * (inv2 (tower.rootK,-tower.rootK) * inv2 (tower.rootK,-tower.rootK))) * (inv2 (tower.rootK,-tower.rootK) * inv2 (tower.rootK,-tower.rootK)),cjg (cjg (g2.gadd p p).snd * (inv2 (tower.rootK,-tower.rootK) * inv2 (tower.rootK,-tower.rootK) * inv2 (tower.rootK,-tower.rootK))) * (inv2 (tower.rootK,-tower.rootK) * inv2 (tower.rootK,-tower.rootK) * inv2 (tower.rootK,-tower.rootK)))]),())=(clo p,()))) (by kernel_rfl) ?_
 have e : inv2 (tower.rootK,-tower.rootK)=ir:=inv_rt
 rw [e]
 refine ⟨trivial,trivial,trivial,trivial,Nat.le_refl _,⟨size_ok,by decide⟩,Nat.le_refl _,⟨size_ok,by decide⟩,trivial,trivial,trivial,trivial,trivial,trivial,trivial,Nat.le_refl _,by show 5 < _; decide,?_⟩
 exact congrArg (fun x => (x,())) (clear_val hp)
def spClear : Nat × Eng.Spec:=(117,fnSpec [pt2] [.val pt2] (fun (p,_) => g2.Onb p) (fun (p,_) => (clo p,())))
theorem clo_eq {p : F2 × F2} (h : OnP tb p) : clo p=nmul p hN:=by rw [clo,opq_eq,clr_h h]
theorem clo_sub {p : F2 × F2} (h : OnP tb p) : g2.Sub (clo p):=by
 rw [clo_eq h]; exact ⟨nmul_on tb_ne h _,h_r h⟩
end
end Go.Proofs.YtbfimfdhmggieaaGreatDoor.h2c
namespace Go.Proofs.YtbfimfdhmggieaaGreatDoor.h2c
noncomputable section
open Go Go.Eng Go.RowKit Cr fp2 sha xmd
theorem fn_nuF : FnOk Tryz.prog 115 [bsl,bsl,.int .i64] [.val (.sl fp2.f2),.val (.int .i64)] shaG preEx (fun (m,t,n,_) => ((nuA m t n).1,(nuA m t n).2,())):=fn_numbers.frz2
def spNuF : Nat × Eng.Spec:=(115,fnSpecG shaG [bsl,bsl,.int .i64] [.val (.sl fp2.f2),.val (.int .i64)] preEx (fun (m,t,n,_) => ((nuA m t n).1,(nuA m t n).2,())))
def u0 (m t : List Int) : F2:=opq (nmb (expo m t 256) 0)
def u1 (m t : List Int) : F2:=opq (nmb (expo m t 256) 1)
theorem nuA_2 (m t : List Int) : nuA m t 2=([u0 m t,u1 m t],0):=by
 rw [nuA,u0,u1,opq_eq,opq_eq,<- nums_two]; rfl
def hpt (m t : List Int) : F2 × F2:=opq (clo (padd (mapo (u0 m t)) (mapo (u1 m t))))
theorem hpt_sub (m t : List Int) : g2.Sub (hpt m t):=by
 rw [hpt,opq_eq]; exact clo_sub (padd_on tb_ne (mapo_on _) (mapo_on _))
def hsK (us : List F2) (k : Nat) : F2 × F2:=it (fun i s => g2.gadd s (mapo (us.getD i ((0 : Fp),(0 : Fp))))) (((0 : Fp),(0 : Fp)),(0 : Fp),(0 : Fp)) k
def hsI (us : List F2) (g : Int × (F2 × F2)) : St:=mkSt Tryz.f59.ntmps 104 [(4,.is (.one (.ptr 0 0))),(7,.is (.one (.ptr 72 0))),(16,.is (.one (.ro fp2.f2 us))),(17,sI .i64 us.length),(18,sI .i64 g.1)] [(72,cellsOf pt2 g.2),(0,cellsOf pt2 ((((0 : Fp),(0 : Fp)),(0 : Fp),(0 : Fp)) : F2 × F2))]
theorem hsK_2 (a b : F2) : hsK [a,b] 2=padd (mapo a) (mapo b):=by
 show g2.gadd (g2.gadd O2 (mapo a)) (mapo b)=_
 have oO : OnP tb (O2 : F2 × F2):=.inl rfl
 rw [g2.gadd_eq oO (mapo_on a),O_add,g2.gadd_eq (mapo_on a) (mapo_on b)]
theorem ent_hash : enters Tryz.prog 59 Tryz.f59:=ek
abbrev preHs : HL [bsl,bsl] -> Prop:=fun (m,t,_) => List.length m <= 1048576 /\ List.length t <= 1048576
theorem fn_hash : FnOk Tryz.prog 59 [bsl,bsl] [.val pt2] shaG preHs (fun (m,t,_) => (hpt m t,())):=by
 have hsp : SpecsOk Tryz.prog (sps [spNuF,spMap,g2.soAdd,spClear]):=scn (fgk fn_nuF) (scn (fok fn_map) (scn (fok g2.fo_add) (scn (fok fn_clear) snl)))
 refine fn_of_tr (sp:=sps [spNuF,spMap,g2.soAdd,spClear]) ent_hash (by decide) (by decide) (by kernel_rfl) ?_
 rintro w M0 ⟨m,t,⟨⟩⟩
 revert m t
 intro (m : List Int) (t : List Int) hw hp
 have hm : m.length <= 1048576:=hp.1
 have ht : t.length <= 1048576:=hp.2
 show Tr _ _ _ _ _ _ _
 refine tr_cutF hsp mixed 4 (fun σ => rdO fp2.f2 5 σ) (fun us => hsI us (0,(((0 : Fp),(0 : Fp)),(0 : Fp),(0 : Fp)))) (fun us => us=[u0 m t,u1 m t]) ?_ ?_
 ·refine vcx (X:=((∀ (g : Nat) (s : Sigma Car),shaG g=some s -> Decidable.rec (fun h => (fun x => if g=(1 : Nat) then some ⟨Kd.arr (64 : Nat) uK,rootsL⟩ else none) h) (fun h => (fun x => some ⟨Kd.arr (8 : Nat) uK,firstL⟩) h) (instDecidableEqNat g (0 : Nat))=some s) /\ preEx (m,t,(2 : Int),()) /\ (hsI ((nuA m t (2 : Int)).fst,(nuA m t (2 : Int)).snd,()).fst ((0 : Int),((0 : Fp),(0 : Fp)),(0 : Fp),(0 : Fp))).triv ((nuA m t (2 : Int)).fst=[u0 m t,u1 m t]))) (by kernel_rfl) ?_
  rw [nuA_2]
  exact ⟨fun _ _ h => h,⟨hm,ht⟩,tvi rfl⟩
 rintro us hus
 revert us
 intro (us : List F2) (hus : us=[u0 m t,u1 m t])
 have hl : us.length=2:=by rw [hus]; rfl
 refine tr_while hsp mixed noSw (fun σ => (rdS (.int .i64) 18 σ,rdB pt2 72 σ)) (hsI us) (fun g => ∃ k : Nat,k <= 2 /\ g.1=(k : Int) /\ g.2=hsK us k) (fun g => 2 - g.1.toNat)
  (fun σ => (rdS (.int .i64) 18 σ,rdB pt2 72 σ)) (hsI us) (fun g => g.2=padd (mapo (u0 m t)) (mapo (u1 m t))) (0,(((0 : Fp),(0 : Fp)),(0 : Fp),(0 : Fp))) (c:=nthC (codeOf Tryz.f59) 4) (by kernel_rfl) (by kernel_rfl) (le_of_proj (by kernel_rfl) (by kernel_rfl) ?_) ?_ ?_
 ·exact ⟨0,Nat.zero_le _,rfl,rfl⟩
 ·rintro ⟨i,s⟩ hj
  revert i s
  intro (i : Int) (s : F2 × F2) ⟨k,hk,ei,es⟩
  have ei : i=(k : Int):=ei
  have ks : s=hsK us k:=es
  subst ei
  refine vcx (X:=((decide ((↑k : Int) < (↑us.length : Int))=true -> ((0 : Int) <= (↑k : Int) /\ (↑k : Int) < (↑us.length : Int)) /\ (↑k : Int).toNat < us.length /\ True /\ True /\ (hsI us (IntKind.i64.wrap ((↑k : Int) + (1 : Int)),g2.gadd s (mapo (us.getD (↑k : Int).toNat ((0 : Fp),(0 : Fp)))))).triv ((∃ k_1,k_1 <= (2 : Nat) /\ IntKind.i64.wrap ((↑k : Int) + (1 : Int))=(↑k_1 : Int) /\ g2.gadd s (mapo (us.getD (↑k : Int).toNat ((0 : Fp),(0 : Fp))))=hsK us k_1) /\ (2 : Nat) - (IntKind.i64.wrap ((↑k : Int) + (1 : Int))).toNat < (2 : Nat) - (↑k : Int).toNat)) /\ (decide ((↑k : Int) < (↑us.length : Int))=false -> (hsI us ((↑k : Int),s)).triv (s=padd (mapo (u0 m t)) (mapo (u1 m t)))))) (by kernel_rfl) ?_
  rw [hl]
  refine ⟨fun h => ?_,fun h => tvi ?_⟩
  ·have hlt : k < 2:=by have:=of_decide_eq_true h; omega
   rw [wrap_succ (by omega)]
   refine ⟨⟨by omega,by omega⟩,hlt,trivial,trivial,tvi ⟨⟨k + 1,hlt,rfl,?_⟩,?_⟩⟩
   ·rw [ks,Int.toNat_natCast]; rfl
   ·rw [Int.toNat_natCast,Int.toNat_natCast]; omega
  ·have h2 : k=2:=by have:=of_decide_eq_false h; omega
   rw [ks,h2,hus,hsK_2]
 rintro ⟨i,s⟩ hj
 revert i s
 intro (i : Int) (s : F2 × F2) (hj : s=padd (mapo (u0 m t)) (mapo (u1 m t)))
 refine tr_vc hsp mixed _ _ ?_
 refine vcx (X:=(g2.Onb s /\ (clo s,())=(hpt m t,()))) (by kernel_rfl) ?_
 rw [hj]
 refine ⟨padd_on tb_ne (mapo_on _) (mapo_on _),?_⟩
 rw [hpt,opq_eq]
def spHash : Nat × Eng.Spec:=(59,fnSpecG shaG [bsl,bsl] [.val pt2] preHs (fun (m,t,_) => (hpt m t,())))
end
end Go.Proofs.YtbfimfdhmggieaaGreatDoor.h2c
namespace Go.Proofs.YtbfimfdhmggieaaGreatDoor.g2
open Go Go.Eng Go.RowKit Cr fp2 Rg Fd
def kR : Nat:=kN / rQ
theorem kN_r : kN=rQ * kR:=of_decide_eq_true (by kernel_rfl)
theorem rQ_pos : 0 < rQ:=of_decide_eq_true (by kernel_rfl)
theorem rQ_c : Nat.Coprime 299 rQ:=by
 show Nat.gcd 299 rQ=1
 exact of_decide_eq_true (by kernel_rfl)
noncomputable def R1 : F2 × F2:=nmul T1 (kR * 299)
theorem to_R {Q : F2 × F2} (oQ : OnP tb Q) (h : nmul Q rQ=O2) : ∃ s,Q=nmul R1 s:=by
 obtain ⟨a,c,rfl⟩:=all_tw oQ
 have oa : OnP tb T1:=.inr T1_on
 have ob : OnP tb T2:=.inr T2_on
 rw [nmul_padd tb_ne (nmul_on tb_ne oa a) (nmul_on tb_ne ob c),nmul_mul tb_ne oa,nmul_mul tb_ne ob] at h
 obtain ⟨⟨m,h1⟩,h2⟩:=T_ind (a * rQ) (c * rQ) h
 have h3 : a=kR * 299 * m:=by
  refine Nat.eq_of_mul_eq_mul_right rQ_pos ?_
  rw [h1,kN_r]; ac_rfl
 obtain ⟨n,h4⟩:=Nat.Coprime.dvd_of_dvd_mul_right rQ_c h2
 have h5 : nmul T2 c=O2:=by
  rw [h4,<- nmul_mul tb_ne ob,T2_k,nmul_O]
 exact ⟨m,by rw [h5,add_O,h3,R1,nmul_mul tb_ne oa]⟩
theorem rQ_rN : rN=rQ:=rfl
theorem sub_R : Sub R1:=by
 have oa : OnP tb T1:=.inr T1_on
 refine ⟨nmul_on tb_ne oa _,?_⟩
 rw [rQ_rN,R1,nmul_mul tb_ne oa]
 have e : kR * 299 * rQ=kN * 299:=by rw [kN_r]; ac_rfl
 rw [e]; exact T1_k
theorem sub_as {Q : F2 × F2} (hQ : Sub Q) : ∃ s : Fr,Q=gmul R1 s:=by
 obtain ⟨s,hs⟩:=to_R hQ.1 hQ.2
 exact ⟨zm (s : Int),by rw [mul_of sub_R (x:=(zm (s : Int) : Fr)) (m:=s) rfl]; exact hs⟩
theorem cyc_r {Q : F2 × F2} (hQ : Sub Q) : ∃ c : Fr,Q=gmul gG c:=by
 obtain ⟨t,ht⟩:=sub_as sub_G
 obtain ⟨s,hs⟩:=sub_as hQ
 have h0 : t ≠ 0:=fun e => by
  rw [e,mul_zero sub_R] at ht
  exact gG_ne ht
 refine ⟨Fd.inv t * s,?_⟩
 have h1 : gmul gG (Fd.inv t)=R1:=by
  rw [ht,<- mul_mul sub_R,Fd.mul_inv _ h0,mul_one sub_R]
 rw [mul_mul sub_G,h1,hs]
end Go.Proofs.YtbfimfdhmggieaaGreatDoor.g2
namespace Go.Proofs.YtbfimfdhmggieaaGreatDoor.pairing
noncomputable section
open Go Go.Eng Go.RowKit Cr fp2 tower
theorem gev_r : pwn gev rN=1:=ev_r lastP g1.b4_ne g2.b4_ne b2_ns b2_eq bls_val g1.gG_on gq_gG
theorem gev_mod (m : Nat) : pwn gev m=pwn gev (m % rN):=by
 conv => lhs; rw [<- Nat.div_add_mod m rN]
 rw [pwn_add,pwn_mul,gev_r,pwn_one,Rg.one_mul]
theorem ev_gn (b : Nat) : ev lastP (bls 63) g1.gG (nmul g2.gG b)=pwn gev b:=by
 induction b with
 | zero => exact ev_OQ lastP _
 | succ b ih =>
  show ev lastP (bls 63) g1.gG (padd (nmul g2.gG b) g2.gG)=pwn gev b * gev
  rw [ev_addQ lastP g1.b4_ne g2.b4_ne b2_ns b2_eq bls_val g1.gG_on (gq_nmul b) gq_gG,ih]; rfl
theorem ev_mn (a b : Nat) : ev lastP (bls 63) (nmul g1.gG a) (nmul g2.gG b)=pwn gev (a * b):=by
 rw [ev_mulP lastP g1.b4_ne g2.b4_ne b2_ns b2_eq bls_val g1.gG_on (gq_nmul b) uu_pos,ev_gn,<- pwn_mul,Nat.mul_comm]
def pe (x : Fr) : F12:=opq (cjo (pwn gev x.v.toNat))
theorem pe_eq (x : Fr) : pe x=pwn (pwn gev x.v.toNat) (pp ^ 6):=by rw [pe,opq_eq,cjo_eq pp_eq]
theorem pe_of {x : Fr} {m : Nat} (hx : x.v=(m : Int) % (rN : Int)) : pe x=pwn (pwn gev m) (pp ^ 6):=by
 rw [pe_eq,gev_mod m,hx,<- Int.natCast_emod,Int.toNat_natCast]
theorem pe_zero : pe 0=1:=by
 rw [pe_eq,zero_v]
 show pwn (1 : F12) _=1
 exact pwn_one _
theorem pe_add (x y : Fr) : pe (x + y)=pe x * pe y:=by
 obtain ⟨m,hm,_⟩:=g1.frv x
 obtain ⟨n,hn,_⟩:=g1.frv y
 rw [pe_of (x:=x + y) (m:=m + n) (by rw [add_v,hm,hn,Int.natCast_add]; rfl),pe_eq,pe_eq,hm,hn,Int.toNat_natCast,Int.toNat_natCast,pwn_add,pwn_prod]
theorem pe_mul (x y : Fr) : pe (x * y)=pwn (pe x) y.v.toNat:=by
 obtain ⟨m,hm,_⟩:=g1.frv x
 obtain ⟨n,hn,_⟩:=g1.frv y
 rw [pe_of (x:=x * y) (m:=m * n) (by rw [mul_v,hm,hn,Int.natCast_mul]; rfl),pe_eq,hm,hn,Int.toNat_natCast,Int.toNat_natCast,pwn_mul,<- pwn_mul (pwn gev m),<- pwn_mul (pwn gev m),Nat.mul_comm]
theorem pe_iff (x : Fr) : pe x=1 ↔ x=0:=by
 constructor
 ·intro h
  by_cases hx : x=0
  ·exact hx
  ·exfalso
   have h1:=pe_mul x (Fd.inv x)
   rw [Fd.mul_inv _ hx,h,pwn_one,pe_of (x:=1) (m:=1) (by rw [one_v]; rfl),pw_1,pw_6 pp_eq] at h1
   have h2:=congrArg Prod.fst h1
   have h2 : gev.1=(1 : F12).1:=h2
   have h3 : -gev.2=(1 : F12).2:=congrArg Prod.snd h1
   have h4 : gev.2=(1 : F12).2:=by
    rw [<- Rg.neg_neg gev.2,h3]
    exact neg_z (F:=F6)
   exact gev_ne (F12.ext h2 h4)
 ·rintro rfl; exact pe_zero
def dotk (xs ys : List Fr) (k : Nat) : Fr:=it (fun i s => s + xs.getD i 0 * ys.getD i 0) 0 k
def mp1 (xs : List Fr) : List (Fp × Fp):=xs.map fun x => g1.gmul g1.gG x
def mp2 (ys : List Fr) : List (F2 × F2):=ys.map fun y => g2.gmul g2.gG y
theorem mp1_at {xs : List Fr} {i : Nat} (h : i < xs.length) : (mp1 xs).getD i ((0 : Fp),(0 : Fp))=nmul g1.gG (xs.getD i 0).v.toNat:=by
 rw [<- g1.gmul_eq g1.gG_on]
 simp [mp1,List.getD_eq_getElem?_getD,h]
theorem mp2_at {ys : List Fr} {i : Nat} (h : i < ys.length) : (mp2 ys).getD i (((0 : Fp),(0 : Fp)),(0 : Fp),(0 : Fp))=nmul g2.gG (ys.getD i 0).v.toNat:=by
 rw [<- g2.gmul_eq g2.gG_on]
 simp [mp2,List.getD_eq_getElem?_getD,h]
theorem evl_val (xs ys : List Fr) : ∀ k,k <= xs.length -> k <= ys.length -> pwn (evl lastP (bls 63) (mp1 xs) (mp2 ys) k) (pp ^ 6)=pe (dotk xs ys k)
 | 0,_,_ => (pwn_one _).trans pe_zero.symm
 | k + 1,h1,h2 => by
  show pwn (evl lastP (bls 63) (mp1 xs) (mp2 ys) k * ev lastP (bls 63) ((mp1 xs).getD k ((0 : Fp),(0 : Fp))) ((mp2 ys).getD k (((0 : Fp),(0 : Fp)),(0 : Fp),(0 : Fp)))) (pp ^ 6)=pe (dotk xs ys k + xs.getD k 0 * ys.getD k 0)
  rw [pwn_prod,evl_val xs ys k (by omega) (by omega),mp1_at (by omega),mp2_at (by omega),ev_mn,pe_add]
  congr 1
  obtain ⟨m,hm,_⟩:=g1.frv (xs.getD k 0)
  obtain ⟨n,hn,_⟩:=g1.frv (ys.getD k 0)
  rw [pe_of (x:=xs.getD k 0 * ys.getD k 0) (m:=m * n) (by rw [mul_v,hm,hn,Int.natCast_mul]; rfl),hm,hn,Int.toNat_natCast,Int.toNat_natCast]
theorem pairs_val {xs ys : List Fr} (h : xs.length=ys.length) : fino (lino (mp1 xs) (mp2 ys))=pe (dotk xs ys xs.length):=by
 have hl : (mp1 xs).length=xs.length:=List.length_map _
 rw [fino_lino lastP g1.b4_ne g2.b4_ne b2_ns b2_eq bls_val rN_pos nn_eq NN_eq vu_eq uu_eq (ps:=mp1 xs) (qs:=mp2 ys),hl,cjo_eq pp_eq,evl_val xs ys _ (Nat.le_refl _) (Nat.le_of_eq h)]
 ·intro i hi
  rw [hl] at hi
  rw [mp1_at hi]; exact nmul_on g1.b4_ne g1.gG_on _
 ·intro i hi
  rw [hl] at hi
  rw [mp2_at (by omega)]; exact gq_nmul _
end
end Go.Proofs.YtbfimfdhmggieaaGreatDoor.pairing
namespace Go.Proofs.YtbfimfdhmggieaaGreatDoor.pairing
open Go Go.Eng Go.RowKit Cr fp2 tower
theorem eq12' (x y : F12) : eqC f12k x y=decide (x=y):=by
 by_cases h : x=y
 ·rw [(eqC_iff (e:=f12k) x y).2 h,decide_eq_true h]
 ·rw [decide_eq_false h]; exact Bool.eq_false_iff.2 fun e => h ((eqC_iff (e:=f12k) x y).1 e)
theorem pe_1' (x : Fr) : eqC f12k (pe x) (1 : F12)=decide (x=0):=by
 rw [eq12']
 by_cases h : x=0
 ·rw [decide_eq_true h,decide_eq_true ((pe_iff x).2 h)]
 ·rw [decide_eq_false h,decide_eq_false fun e => h ((pe_iff x).1 e)]
theorem chk_val2 {xs ys : List Fr} (h : xs.length=ys.length) : chkF (mp1 xs) (mp2 ys)=decide (dotk xs ys xs.length=0):=by
 have h1 : (mp1 xs).length=(mp2 ys).length:=by rw [mp1,mp2,List.length_map,List.length_map,h]
 rw [chkF,decide_eq_true h1]
 show eqC f12k (fino (lino (mp1 xs) (mp2 ys))) (1 : F12)=_
 rw [pairs_val h,pe_1']
end Go.Proofs.YtbfimfdhmggieaaGreatDoor.pairing
namespace Go.Proofs.YtbfimfdhmggieaaGreatDoor.g1
noncomputable section
open Go Go.Eng Go.RowKit Cr
theorem ent_in : enters Tryz.prog 65 Tryz.f65:=ek
def isIn (p : Fp × Fp) : Bool:=isOn p && decide (pml p (-1)=pneg (F:=Fp) p)
abbrev outIn : HL [pt1] -> HO [.val .bool]:=fun (p,_) => (isIn p,())
theorem fn_in : FnOk Tryz.prog 65 [pt1] [.val .bool] noG (fun _ => True) outIn:=by
 refine fn_of_vc (sp:=sps [spOn,fr.spOf,fr.spNeg,spPMul,spPNeg]) (scn (fok fn_on) (scn (fok fr.fn_of) (scn (fok fr.fn_neg) (scn (fok fn_pmul) (scn (fok fn_pneg) snl))))) mixed ent_in (by decide) (by decide) ?_
 rintro w M0 ⟨p,⟨⟩⟩
 revert p
 intro (p : Fp × Fp) _ _
 refine vcx (X:=(True /\ (isOn p=true -> U64 1 /\ Trs 3 ((decide ((pml p (-1)).1=(pneg (F:=Fp) p).1) && decide ((pml p (-1)).2=(pneg (F:=Fp) p).2),())=outIn (p,()))) /\ (isOn p=false -> (false,())=outIn (p,())))) (by kernel_rfl) ?_
 rw [dec_pair]
 refine ⟨trivial,fun h => ⟨by constructor <;> decide,trs ?_ _⟩,fun h => ?_⟩
 ·simp only [outIn,isIn,h,Bool.true_and]
 ·simp only [outIn,isIn,h,Bool.false_and]
def gin (p : Fp × Fp) : Bool:=opq (isIn p)
theorem fo_in : FnOk Tryz.prog 65 [pt1] [.val .bool] noG (fun _ => True) (fun (p,_) => (gin p,())):=fn_in.out fun (p,_) => by show (gin p,())=(_,()); rw [gin,opq_eq]
def soIn : Nat × Eng.Spec:=(65,fnSpec [pt1] [.val .bool] (fun _ => True) (fun (p,_) => (gin p,())))
end
end Go.Proofs.YtbfimfdhmggieaaGreatDoor.g1
namespace Go.Proofs.YtbfimfdhmggieaaGreatDoor.g2
noncomputable section
open Go Go.Eng Go.RowKit Cr fp2
theorem ent_in : enters Tryz.prog 46 Tryz.f46:=ek
def isIn (p : F2 × F2) : Bool:=isOn p && decide (pml p (-1)=pneg (F:=F2) p)
abbrev outIn : HL [pt2] -> HO [.val .bool]:=fun (p,_) => (isIn p,())
theorem fn_in : FnOk Tryz.prog 46 [pt2] [.val .bool] noG (fun _ => True) outIn:=by
 refine fn_of_vc (sp:=sps [spOn,fr.spOf,fr.spNeg,spPMul,spPNeg]) (scn (fok fn_on) (scn (fok fr.fn_of) (scn (fok fr.fn_neg) (scn (fok fn_pmul) (scn (fok fn_pneg) snl))))) mixed ent_in (by decide) (by decide) ?_
 rintro w M0 ⟨p,⟨⟩⟩
 revert p
 intro (p : F2 × F2) _ _
 refine vcx (X:=(True /\ (isOn p=true -> U64 (1 : Int) /\ True /\ True /\ True /\ (eqC ((Kd.fp.pair Kd.fp).pair (Kd.fp.pair Kd.fp)) (pml p (-zmr (1 : Int))) (p.fst,-p.snd),())=outIn (p,())) /\ (isOn p=false -> (false,())=outIn (p,())))) (by kernel_rfl) ?_
 rw [eqP2]
 refine ⟨trivial,fun h => ⟨by constructor <;> decide,trivial,trivial,trivial,?_⟩,fun h => ?_⟩
 ·show _=(isIn p,())
  rw [isIn,h,Bool.true_and]
  rfl
 ·show _=(isIn p,())
  rw [isIn,h,Bool.false_and]
def gin (p : F2 × F2) : Bool:=opq (isIn p)
theorem fo_in : FnOk Tryz.prog 46 [pt2] [.val .bool] noG (fun _ => True) (fun (p,_) => (gin p,())):=fn_in.out fun (p,_) => by show (gin p,())=(_,()); rw [gin,opq_eq]
def soIn : Nat × Eng.Spec:=(46,fnSpec [pt2] [.val .bool] (fun _ => True) (fun (p,_) => (gin p,())))
end
end Go.Proofs.YtbfimfdhmggieaaGreatDoor.g2
namespace Go.Proofs.YtbfimfdhmggieaaGreatDoor.bls
noncomputable section
open Go Go.Eng Go.RowKit Cr fp2 sha
abbrev pt1 : Kd:=.pair .fp .fp
abbrev pt2 : Kd:=.pair fp2.f2 fp2.f2
abbrev bsl : Kd:=.sl (.int .u8)
def btag : List Int:=[66,76,83,95,83,73,71,95,66,76,83,49,50,51,56,49,71,50,95,88,77,68,58,83,72,65,45,50,53,54,95,83,83,87,85,95,82,79,95,78,85,76,95]
def bpt (msg : List Int) : F2 × F2:=opq (h2c.hpt msg btag)
theorem bpt_sub (msg : List Int) : g2.Sub (bpt msg):=by rw [bpt,opq_eq]; exact h2c.hpt_sub _ _
def hlg (msg : List Int) : Fr:=Classical.choose (g2.cyc_r (bpt_sub msg))
theorem bpt_eq (msg : List Int) : bpt msg=g2.gmul g2.gG (hlg msg):=Classical.choose_spec (g2.cyc_r (bpt_sub msg))
theorem sig_eq (msg : List Int) (k : Fr) : g2.gmul (bpt msg) k=g2.gmul g2.gG (hlg msg * k):=by rw [bpt_eq,g2.mul_mul g2.sub_G]
theorem ent_public : enters Tryz.prog 16 Tryz.f16:=ek
theorem fn_public : FnOk Tryz.prog 16 [.fr] [.val pt1] noG (fun _ => True) (fun (k,_) => (g1.gmul g1.gG k,())):=by
 refine fn_of_vc (sp:=sps [g1.soGen,g1.soMul]) (scn (fok g1.fo_gen) (scn (fok g1.fo_mul) snl)) mixed ent_public (by decide) (by decide) ?_
 rintro w M0 ⟨k,⟨⟩⟩
 revert k
 intro (k : Fr) _ _
 refine vcx (X:=(True /\ True /\ (g1.gmul g1.gG k,())=(g1.gmul g1.gG k,()))) (by kernel_rfl) ?_
 exact ⟨trivial,trivial,rfl⟩
def spPublic : Nat × Eng.Spec:=(16,fnSpec [.fr] [.val pt1] (fun _ => True) (fun (k,_) => (g1.gmul g1.gG k,())))
theorem ent_point : enters Tryz.prog 19 Tryz.f19:=ek
abbrev prePt : HL [bsl] -> Prop:=fun (m,_) => List.length m <= 1048576
theorem fn_point : FnOk Tryz.prog 19 [bsl] [.val pt2] shaG prePt (fun (m,_) => (bpt m,())):=by
 refine fn_of_vc (sp:=sps [h2c.spHash]) (scn (fgk h2c.fn_hash) snl) mixed ent_point (by decide) (by decide) ?_
 rintro w M0 ⟨m,⟨⟩⟩
 revert m
 intro (m : List Int) _ hm
 refine vcx (X:=((∀ (g : Nat) (s : Sigma Car),shaG g=some s -> Decidable.rec (fun h => (fun x => if g=(1 : Nat) then some ⟨Kd.arr (64 : Nat) uK,rootsL⟩ else none) h) (fun h => (fun x => some ⟨Kd.arr (8 : Nat) uK,firstL⟩) h) (instDecidableEqNat g (0 : Nat))=some s) /\ (0 : Nat) + (nat_lit 42 + (1 : Nat)) <= (43 : Nat) /\ h2c.preHs (m,List.take (nat_lit 42 + (1 : Nat)) [(66 : Int),(76 : Int),(83 : Int),(95 : Int),(83 : Int),(73 : Int),(71 : Int),(95 : Int),(66 : Int),(76 : Int),(83 : Int),(49 : Int),(50 : Int),(51 : Int),(56 : Int),(49 : Int),(71 : Int),(50 : Int),(95 : Int),(88 : Int),(77 : Int),(68 : Int),(58 : Int),(83 : Int),(72 : Int),(65 : Int),(45 : Int),(50 : Int),(53 : Int),(54 : Int),(95 : Int),(83 : Int),(83 : Int),(87 : Int),(85 : Int),(95 : Int),(82 : Int),(79 : Int),(95 : Int),(78 : Int),(85 : Int),(76 : Int),(95 : Int)],()) /\ (h2c.hpt m (List.take (nat_lit 42 + (1 : Nat)) [(66 : Int),(76 : Int),(83 : Int),(95 : Int),(83 : Int),(73 : Int),(71 : Int),(95 : Int),(66 : Int),(76 : Int),(83 : Int),(49 : Int),(50 : Int),(51 : Int),(56 : Int),(49 : Int),(71 : Int),(50 : Int),(95 : Int),(88 : Int),(77 : Int),(68 : Int),(58 : Int),(83 : Int),(72 : Int),(65 : Int),(45 : Int),(50 : Int),(53 : Int),(54 : Int),(95 : Int),(83 : Int),(83 : Int),(87 : Int),(85 : Int),(95 : Int),(82 : Int),(79 : Int),(95 : Int),(78 : Int),(85 : Int),(76 : Int),(95 : Int)]),())=(bpt m,()))) (by kernel_rfl) ?_
 refine ⟨fun _ _ h => h,by decide,⟨hm,by decide⟩,?_⟩
 rw [bpt,opq_eq]; rfl
def spPoint : Nat × Eng.Spec:=(19,fnSpecG shaG [bsl] [.val pt2] prePt (fun (m,_) => (bpt m,())))
theorem ent_sign : enters Tryz.prog 13 Tryz.f13:=ek
theorem fn_sign : FnOk Tryz.prog 13 [.fr,bsl] [.val pt2] shaG (fun (_,m,_) => prePt (m,())) (fun (k,m,_) => (g2.gmul (bpt m) k,())):=by
 refine fn_of_vc (sp:=sps [spPoint,g2.soMul]) (scn (fgk fn_point) (scn (fok g2.fo_mul) snl)) mixed ent_sign (by decide) (by decide) ?_
 rintro w M0 ⟨k,m,⟨⟩⟩
 revert k m
 intro (k : Fr) (m : List Int) _ hm
 refine vcx (X:=((∀ (g : Nat) (s : Sigma Car),shaG g=some s -> Decidable.rec (fun h => (fun x => if g=(1 : Nat) then some ⟨Kd.arr (64 : Nat) uK,rootsL⟩ else none) h) (fun h => (fun x => some ⟨Kd.arr (8 : Nat) uK,firstL⟩) h) (instDecidableEqNat g (0 : Nat))=some s) /\ prePt (m,()) /\ True /\ (g2.gmul (bpt m) k,())=(g2.gmul (bpt m) k,()))) (by kernel_rfl) ?_
 exact ⟨fun _ _ h => h,hm,trivial,rfl⟩
def spSign : Nat × Eng.Spec:=(13,fnSpecG shaG [.fr,bsl] [.val pt2] (fun (_,m,_) => prePt (m,())) (fun (k,m,_) => (g2.gmul (bpt m) k,())))
def fto (k : Fp × Fp) (p s : F2 × F2) : Bool:=opq (pairing.chkF [k,g1.gneg g1.gG] [p,s])
theorem ent_fits : enters Tryz.prog 18 Tryz.f18:=ek
theorem fn_fits : FnOk Tryz.prog 18 [pt1,pt2,pt2] [.val .bool] noG (fun _ => True) (fun (k,p,s,_) => (fto k p s,())):=by
 refine fn_of_vc (sp:=sps [g1.soGen,g1.soNeg,pairing.spCheck]) (scn (fok g1.fo_gen) (scn (fok g1.fo_neg) (scn (fok pairing.fn_check) snl))) mixed ent_fits (by decide) (by decide) ?_
 rintro w M0 ⟨k,p,s,⟨⟩⟩
 revert k p s
 intro (k : Fp × Fp) (p : F2 × F2) (s : F2 × F2) _ _
 refine vcx (X:=(True /\ True /\ 0 + 2 <= 2 /\ 0 + 2 <= 2 /\ pairing.preChk (List.take 2 [k,g1.gneg g1.gG],List.take 2 [p,s],()) /\ (pairing.chkF (List.take 2 [k,g1.gneg g1.gG]) (List.take 2 [p,s]),())=(fto k p s,()))) (by kernel_rfl) ?_
 refine ⟨trivial,trivial,Nat.le_refl _,Nat.le_refl _,?_,?_⟩
 ·show pairing.cnt _ <= _
  rw [pairing.cnt,opq_eq]; exact (by decide : 2 <= 1048576)
 ·rw [fto,opq_eq]; rfl
def spFits : Nat × Eng.Spec:=(18,fnSpec [pt1,pt2,pt2] [.val .bool] (fun _ => True) (fun (k,p,s,_) => (fto k p s,())))
theorem fto_val (x c y : Fr) : fto (g1.gmul g1.gG x) (g2.gmul g2.gG c) (g2.gmul g2.gG y)=decide (x * c=y):=by
 have m1 : pairing.mp1 [x,-1]=[g1.gmul g1.gG x,g1.gneg g1.gG]:=by
  show [_,g1.gmul g1.gG (-1)]=_
  rw [g1.mul_neg g1.sub_G,g1.mul_one g1.sub_G,g1.gneg_eq]
 have m2 : pairing.mp2 [c,y]=[g2.gmul g2.gG c,g2.gmul g2.gG y]:=rfl
 rw [fto,opq_eq,<- m1,<- m2,pairing.chk_val2 (xs:=[x,-1]) (ys:=[c,y]) rfl]
 have e : pairing.dotk [x,-1] [c,y] [x,-1].length=x * c - y:=by
  show (0 + x * c + -1 * y : Fr)=_
  rw [Rg.zero_add,Rg.neg_mul,Rg.one_mul,Rg.sub_def]
 rw [e]
 by_cases h : x * c=y
 ·rw [decide_eq_true h,h,Rg.sub_self,decide_eq_true rfl]
 ·rw [decide_eq_false h,decide_eq_false fun e => h (Rg.eq_of_sub e)]
def vfo (k : Fp × Fp) (m : List Int) (s : F2 × F2) : Bool:=opq (!decide (k=O2) && g1.gon k && g2.gon s && g1.gin k && g2.gin s && fto k (bpt m) s)
theorem ent_verify : enters Tryz.prog 23 Tryz.f23:=ek
theorem fn_verify : FnOk Tryz.prog 23 [pt1,bsl,pt2] [.val .bool] shaG (fun (_,m,_) => prePt (m,())) (fun (k,m,s,_) => (vfo k m s,())):=by
 refine fn_of_vc (sp:=sps [g1.soOn,g2.soOn,g1.soIn,g2.soIn,spPoint,spFits]) (scn (fok g1.fo_on) (scn (fok g2.fo_on) (scn (fok g1.fo_in) (scn (fok g2.fo_in) (scn (fgk fn_point) (scn (fok fn_fits) snl)))))) mixed ent_verify (by decide) (by decide) ?_
 rintro w M0 ⟨k,m,s,⟨⟩⟩
 revert k m s
 intro (k : Fp × Fp) (m : List Int) (s : F2 × F2) _ hm
 refine vcx (X:=((eqC (Kd.fp.pair Kd.fp) k ((0 : Fp),(0 : Fp))=true -> (false,())=(vfo k m s,())) /\ (eqC (Kd.fp.pair Kd.fp) k ((0 : Fp),(0 : Fp))=false -> True /\ ((!g1.gon k)=true -> (false,())=(vfo k m s,())) /\ ((!g1.gon k)=false -> True /\ ((!g2.gon s)=true -> (false,())=(vfo k m s,())) /\ ((!g2.gon s)=false -> True /\ ((!g1.gin k)=true -> (false,())=(vfo k m s,())) /\ ((!g1.gin k)=false -> True /\ ((!g2.gin s)=true -> (false,())=(vfo k m s,())) /\ ((!g2.gin s)=false -> (∀ (g : Nat) (s : Sigma Car),shaG g=some s -> Decidable.rec (fun h => (fun x => if g=(1 : Nat) then some ⟨Kd.arr (64 : Nat) uK,rootsL⟩ else none) h) (fun h => (fun x => some ⟨Kd.arr (8 : Nat) uK,firstL⟩) h) (instDecidableEqNat g (0 : Nat))=some s) /\ prePt (m,()) /\ True /\ (fto k (bpt m) s,())=(vfo k m s,())))))))) (by kernel_rfl) ?_
 have hv : vfo k m s=(!decide (k=O2) && g1.gon k && g2.gon s && g1.gin k && g2.gin s && fto k (bpt m) s):=by rw [vfo,opq_eq]
 rw [hv]
 have hk : eqC (Kd.fp.pair Kd.fp) k ((0 : Fp),(0 : Fp))=decide (k=O2):=by
  by_cases h : k=O2
  ·rw [decide_eq_true h]; exact (eqC_iff (e:=pt1) _ _).2 h
  ·rw [decide_eq_false h]; exact Bool.eq_false_iff.2 fun e => h ((eqC_iff (e:=pt1) _ _).1 e)
 rw [hk]
 refine ⟨fun h => ?_,fun h => ⟨trivial,fun h2 => ?_,fun h2 => ⟨trivial,fun h3 => ?_,fun h3 => ⟨trivial,fun h4 => ?_,fun h4 => ⟨trivial,fun h5 => ?_,fun h5 => ⟨fun _ _ h => h,hm,trivial,?_⟩⟩⟩⟩⟩⟩
 ·rw [h]; rfl
 ·have h2 : g1.gon k=false:=by simpa using h2
  rw [h,h2]; rfl
 ·have h2 : g1.gon k=true:=by simpa using h2
  have h3 : g2.gon s=false:=by simpa using h3
  rw [h,h2,h3]; rfl
 ·have h2 : g1.gon k=true:=by simpa using h2
  have h3 : g2.gon s=true:=by simpa using h3
  have h4 : g1.gin k=false:=by simpa using h4
  rw [h,h2,h3,h4]; rfl
 ·have h2 : g1.gon k=true:=by simpa using h2
  have h3 : g2.gon s=true:=by simpa using h3
  have h4 : g1.gin k=true:=by simpa using h4
  have h5 : g2.gin s=false:=by simpa using h5
  rw [h,h2,h3,h4,h5]; rfl
 ·have h2 : g1.gon k=true:=by simpa using h2
  have h3 : g2.gon s=true:=by simpa using h3
  have h4 : g1.gin k=true:=by simpa using h4
  have h5 : g2.gin s=true:=by simpa using h5
  rw [h,h2,h3,h4,h5]; rfl
def spVerify : Nat × Eng.Spec:=(23,fnSpecG shaG [pt1,bsl,pt2] [.val .bool] (fun (_,m,_) => prePt (m,())) (fun (k,m,s,_) => (vfo k m s,())))
end
end Go.Proofs.YtbfimfdhmggieaaGreatDoor.bls
namespace Go.Proofs.YtbfimfdhmggieaaGreatDoor.fr
open Go Go.Eng Go.RowKit Cr
end Go.Proofs.YtbfimfdhmggieaaGreatDoor.fr
