import Derived.Test.YtbeeaekepmnfhaaGreatDoorML15jPX
set_option maxRecDepth 100000
namespace Go.Proofs.YtbeeaekepmnfhaaGreatDoor.fp2
noncomputable section
open Go Go.Eng Go.RowKit Cr Rg Fd
def fin2 (s b t:Fp):F2:=(s*fp.zinv t,b*fp.zinv t)
def sqrt2 (x:F2):F2 × Bool :=
 if x.2=0 then (if (fp.fpSqrt x.1).2=true then (((fp.fpSqrt x.1).1,0),true) else ((0,(fp.fpSqrt (-x.1)).1),(fp.fpSqrt (-x.1)).2))
 else if (fp.fpSqrt (x.1*x.1+x.2*x.2)).2=true then
  (if (fp.fpSqrt (x.1+(fp.fpSqrt (x.1*x.1+x.2*x.2)).1+(x.1+(fp.fpSqrt (x.1*x.1+x.2*x.2)).1))).2=true then
   (fin2 (x.1+(fp.fpSqrt (x.1*x.1+x.2*x.2)).1) x.2 (fp.fpSqrt (x.1+(fp.fpSqrt (x.1*x.1+x.2*x.2)).1+(x.1+(fp.fpSqrt (x.1*x.1+x.2*x.2)).1))).1,true)
   else (fin2 (x.1-(fp.fpSqrt (x.1*x.1+x.2*x.2)).1) x.2 (fp.fpSqrt (x.1-(fp.fpSqrt (x.1*x.1+x.2*x.2)).1+(x.1-(fp.fpSqrt (x.1*x.1+x.2*x.2)).1))).1,(fp.fpSqrt (x.1-(fp.fpSqrt (x.1*x.1+x.2*x.2)).1+(x.1-(fp.fpSqrt (x.1*x.1+x.2*x.2)).1))).2))
 else ((0,0),false)
theorem ent_sqrt:enters Tryz.prog 119 Tryz.f119:=ek
abbrev outSqrt:HL [f2]->HO [.val f2,.val .bool]:=fun (x,_)=>((sqrt2 x).1,(sqrt2 x).2,())
theorem fn_sqrt:FnOk Tryz.prog 119 [f2] [.val f2,.val .bool] noG (fun _=>True) outSqrt:=by
 refine fn_of_vc (sp:=sps [fp.spZero,fp.spSqrt,fp.spNeg,fp.spAdd,fp.spSub,spNorm,fp.spInv,spScale]) (spk (fok fp.fn_zero) (spk (fok fp.fn_sqrt) (spk (fok fp.fn_neg) (spk (fok fp.fn_add) (spk (fok fp.fn_sub) (spk (fok fn_norm) (spk (fok fp.fn_inv) (spk (fok fn_scale) snl)))))))) mixed ent_sqrt (by decide) (by decide) ?_
 rintro w M0 ⟨x,⟨⟩⟩
 revert x
 intro (x:F2) _ _
 refine vcx (X:=(True/\(decide (x.snd=(0:Zm Mp))=true->True/\((fp.fpSqrt x.fst).snd=true->(((fp.fpSqrt x.fst).fst,(0:Fp)),true,())=outSqrt (x,()))/\((fp.fpSqrt x.fst).snd=false->True/\True/\(((0:Fp),(fp.fpSqrt (-x.fst)).fst),(fp.fpSqrt (-x.fst)).snd,())=outSqrt (x,())))/\(decide (x.snd=(0:Zm Mp))=false->True/\True/\((!(fp.fpSqrt (x.fst*x.fst+x.snd*x.snd)).snd)=true->(((0:Fp),(0:Fp)),false,())=outSqrt (x,()))/\((!(fp.fpSqrt (x.fst*x.fst+x.snd*x.snd)).snd)=false->True/\True/\True/\((!(fp.fpSqrt (x.fst+(fp.fpSqrt (x.fst*x.fst+x.snd*x.snd)).fst+(x.fst+(fp.fpSqrt (x.fst*x.fst+x.snd*x.snd)).fst))).snd)=true->True/\True/\True/\True/\True/\(((x.fst-(fp.fpSqrt (x.fst*x.fst+x.snd*x.snd)).fst)*fp.zinv (fp.fpSqrt (x.fst-(fp.fpSqrt (x.fst*x.fst+x.snd*x.snd)).fst+(x.fst-(fp.fpSqrt (x.fst*x.fst+x.snd*x.snd)).fst))).fst,x.snd*fp.zinv (fp.fpSqrt (x.fst-(fp.fpSqrt (x.fst*x.fst+x.snd*x.snd)).fst+(x.fst-(fp.fpSqrt (x.fst*x.fst+x.snd*x.snd)).fst))).fst),(fp.fpSqrt (x.fst-(fp.fpSqrt (x.fst*x.fst+x.snd*x.snd)).fst+(x.fst-(fp.fpSqrt (x.fst*x.fst+x.snd*x.snd)).fst))).snd,())=outSqrt (x,()))/\((!(fp.fpSqrt (x.fst+(fp.fpSqrt (x.fst*x.fst+x.snd*x.snd)).fst+(x.fst+(fp.fpSqrt (x.fst*x.fst+x.snd*x.snd)).fst))).snd)=false->True/\True/\(((x.fst+(fp.fpSqrt (x.fst*x.fst+x.snd*x.snd)).fst)*fp.zinv (fp.fpSqrt (x.fst+(fp.fpSqrt (x.fst*x.fst+x.snd*x.snd)).fst+(x.fst+(fp.fpSqrt (x.fst*x.fst+x.snd*x.snd)).fst))).fst,x.snd*fp.zinv (fp.fpSqrt (x.fst+(fp.fpSqrt (x.fst*x.fst+x.snd*x.snd)).fst+(x.fst+(fp.fpSqrt (x.fst*x.fst+x.snd*x.snd)).fst))).fst),(fp.fpSqrt (x.fst+(fp.fpSqrt (x.fst*x.fst+x.snd*x.snd)).fst+(x.fst+(fp.fpSqrt (x.fst*x.fst+x.snd*x.snd)).fst))).snd,())=outSqrt (x,())))))) (by kernel_rfl) ?_
 refine⟨trivial,fun h=>⟨trivial,fun h2=>?_,fun h2=>⟨trivial,trivial,?_⟩⟩,fun h=>⟨trivial,trivial,fun h2=>?_,fun h2=>⟨trivial,trivial,trivial,fun h3=>⟨trivial,trivial,trivial,trivial,trivial,?_⟩,fun h3=>⟨trivial,trivial,?_⟩⟩⟩⟩
 all_goals show _=((sqrt2 x).1,(sqrt2 x).2,())
 ·rw[sqrt2,if_pos (of_decide_eq_true h),if_pos h2]
 ·rw[sqrt2,if_pos (of_decide_eq_true h),if_neg (by rw[h2];decide)]
 ·have h2:(fp.fpSqrt (x.1*x.1+x.2*x.2)).2=false:=by simpa using h2
  rw[sqrt2,if_neg (of_decide_eq_false h),if_neg (by rw[h2];decide)]
 ·have h2:(fp.fpSqrt (x.1*x.1+x.2*x.2)).2=true:=by simpa using h2
  have h3:=(Bool.not_eq_true' _).mp h3
  rw[sqrt2,if_neg (of_decide_eq_false h),if_pos h2,if_neg (by rw[h3];decide)]
  rfl
 ·have h2:(fp.fpSqrt (x.1*x.1+x.2*x.2)).2=true:=by simpa using h2
  have h3:=(Bool.not_eq_false' _).mp h3
  rw[sqrt2,if_neg (of_decide_eq_false h),if_pos h2,if_pos h3]
  show (_,_,())=(fin2 _ _ _,true,())
  rw[h3];rfl
def spSqrt:Nat × Eng.Spec:=(119,fnSpec [f2] [.val f2,.val .bool] (fun _=>True) outSqrt)
theorem fpsqrt_ok {x:Fp} (h:(fp.fpSqrt x).2=true):(fp.fpSqrt x).1*(fp.fpSqrt x).1=x:=by
 unfold fp.fpSqrt at h ⊢
 split at h
 ·rename_i e;rw[if_pos e];exact e
 ·cases h
theorem zinv_mul {x:Fp} (h:x≠0):x*fp.zinv x=1:=mul_inv (F:=Fp) x h
theorem fin2_ok {a b n s t:Fp} (hb:b≠0) (hn:n*n=a*a+b*b) (hs:s=a+n\/s=a-n) (ht:t*t=s+s):fin2 s b t*fin2 s b t=(a,b):=by
 have h:=fin_ok hb hn hs ht (i:=fp.zinv t) (fun h=>zinv_mul h)
 refine F2.ext ?_ ?_
 ·rw[F2.mul1];exact h.1
 ·rw[F2.mul2];exact h.2
theorem sqrt2_ok {x:F2} (h:(sqrt2 x).2=true):(sqrt2 x).1*(sqrt2 x).1=x:=by
 by_cases hb:x.2=0
 ·by_cases h1:(fp.fpSqrt x.1).2=true
  ·rw[sqrt2,if_pos hb,if_pos h1]
   refine F2.ext ?_ ?_
   ·rw[F2.mul1]
    show _*_-0*0=x.1
    rw[fpsqrt_ok h1,mul_zero,sub_def,neg_zero,add_zero]
   ·rw[F2.mul2]
    show _*0+0*_=x.2
    rw[mul_zero,zero_mul,add_zero,hb]
  ·rw[sqrt2,if_pos hb,if_neg h1] at h ⊢
   have h:(fp.fpSqrt (-x.1)).2=true:=h
   refine F2.ext ?_ ?_
   ·rw[F2.mul1]
    show 0*0-_*_=x.1
    rw[fpsqrt_ok h,mul_zero,sub_def,neg_neg,zero_add]
   ·rw[F2.mul2]
    show 0*_+_*0=x.2
    rw[mul_zero,zero_mul,add_zero,hb]
 ·by_cases h1:(fp.fpSqrt (x.1*x.1+x.2*x.2)).2=true
  ·have hn:=fpsqrt_ok h1
   rw[sqrt2,if_neg hb,if_pos h1] at h ⊢
   generalize (fp.fpSqrt (x.1*x.1+x.2*x.2)).1=n at *
   by_cases h2:(fp.fpSqrt (x.1+n+(x.1+n))).2=true
   ·rw[if_pos h2]
    exact fin2_ok hb hn (.inl rfl) (fpsqrt_ok h2)
   ·rw[if_neg h2] at h ⊢
    exact fin2_ok hb hn (.inr rfl) (fpsqrt_ok h)
  ·rw[sqrt2,if_neg hb,if_neg h1] at h
   cases h
theorem fpsqrt_zero:(fp.fpSqrt 0).2=true:=by
 unfold fp.fpSqrt
 have e:zpw (0:Fp) fp.p14*zpw 0 fp.p14=0:=by
  rw[zpw_eq]
  have:∀ n:Nat,n≠0->zpow (0:Fp) n=0:=by
   intro n hn
   cases n with
   | zero=>exact absurd rfl hn
   | succ n=>show zpow (0:Fp) n*0=0;rw[mul_zero]
  rw[this _ (by decide),mul_zero]
 rw[if_pos e]
end
end Go.Proofs.YtbeeaekepmnfhaaGreatDoor.fp2
