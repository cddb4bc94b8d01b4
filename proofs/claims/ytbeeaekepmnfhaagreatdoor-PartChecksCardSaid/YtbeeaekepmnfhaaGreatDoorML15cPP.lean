import Derived.Test.YtbeeaekepmnfhaaGreatDoorML15cPO
set_option maxRecDepth 100000
namespace Go.Proofs.YtbeeaekepmnfhaaGreatDoor
open Go Go.Eng Cr
theorem sbytes_len (s:ByteArray):(sbytes s).length=s.size:=by simp only[sbytes,List.length_map,Array.length_toList];rfl
theorem sbytes_Bs (s:ByteArray):Bs (sbytes s):=by
 intro x hx
 simp only[sbytes,List.mem_map] at hx
 obtain⟨b,_,rfl⟩:=hx
 have:=b.toNat_lt
 omega
abbrev pt1:Kd:=.pair .fp .fp
end Go.Proofs.YtbeeaekepmnfhaaGreatDoor
namespace Go.Proofs.YtbeeaekepmnfhaaGreatDoor.g1
open Go Go.Eng Go.RowKit Cr Go.Proofs.YtbeeaekepmnfhaaGreatDoor
theorem ent_number:enters Tryz.prog 81 Tryz.f81:=ek
abbrev outNumber:HL [.str]->HO [.val .fp]:=fun (s,_)=>((fp.rdFp (sbytes s)).1,())
theorem fn_number:FnOk Tryz.prog 81 [.str] [.val .fp] noG (fun _=>True) outNumber:=by
 refine fn_of_vc (sp:=sps [fp.spRead]) (spk (fok fp.fn_read) snl) mixed ent_number (by decide) (by decide) ?_
 rintro w M0 ⟨s,⟨⟩⟩ _ _
 refine vcx (X:=(0+s.size<=s.size/\fp.preRead ((sbytes s).take s.size,())/\((fp.rdFp ((sbytes s).take s.size)).1,())=outNumber (s,()))) (by kernel_rfl) ?_
 rw[List.take_of_length_le (by rw[sbytes_len];exact Nat.le_refl _)]
 exact⟨by omega,sbytes_Bs s,rfl⟩
noncomputable def spNumber:Nat × Eng.Spec:=(81,fnSpec [.str] [.val .fp] (fun _=>True) outNumber)
def gx:Fp:=zm 0x17f1d3a73197d7942695638c4fa9ac0fc3688c4f9774b905a14e3a3f171bac586c55e83ff97a1aeffb3af00adb22c6bb
def gy:Fp:=zm 0x08b3f481e3aaa0f1a09e30ed741d8ae4fcf5e095d5d00af600db18cb2c04b3edd03cc744a2888ae40caa232946c5e7e1
theorem ent_gen:enters Tryz.prog 41 Tryz.f41:=ek
abbrev outGen:HL []->HO [.val pt1]:=fun _=>((gx,gy),())
theorem fn_gen:FnOk Tryz.prog 41 [] [.val pt1] noG (fun _=>True) outGen:=by
 refine fn_of_vc (sp:=sps [spNumber]) (spk (fok fn_number) snl) mixed ent_gen (by decide) (by decide) ?_
 rintro w M0 ⟨⟩ _ _
 exact vcx (X:=(True/\True/\(((gx,gy),()):(Fp × Fp) × Unit)=outGen ())) (by kernel_rfl) ⟨trivial,trivial,rfl⟩
end Go.Proofs.YtbeeaekepmnfhaaGreatDoor.g1
namespace Go.Proofs.YtbeeaekepmnfhaaGreatDoor.codec
open Go Go.Eng Go.RowKit Cr Go.Proofs.YtbeeaekepmnfhaaGreatDoor
end Go.Proofs.YtbeeaekepmnfhaaGreatDoor.codec
namespace Go.Eng
open Go Cr
def pj (n i:Int):Int:=IntKind.i64.wrap (n-IntKind.i64.wrap (i.tdiv 16))
def psh (i:Int):Int:=IntKind.i64.wrap (60-IntKind.i64.wrap (4*i.tmod 16))
def pdig (n:Int) (ws:List Int) (i:Int):Int:=bitOp .and .u64 (Int.fdiv (ws.getD (pj n i).toNat 0) (2^min (psh i).toNat IntKind.u64.bits)) 15
theorem and_u64n (n m:Nat) (hn:n<18446744073709551616) (hm:m<18446744073709551616):bitOp .and .u64 n m=((n &&& m:Nat):Int):=by
 show IntKind.u64.wrap ((BitVec.ofInt 64 n &&& BitVec.ofInt 64 m:BitVec 64).toNat:Int)=_
 have h1:(BitVec.ofInt 64 (n:Int)).toNat=n:=by rw[show BitVec.ofInt 64 (n:Int)=BitVec.ofNat 64 n from BitVec.ofInt_natCast ..,BitVec.toNat_ofNat,Nat.mod_eq_of_lt (by omega)]
 have h2:(BitVec.ofInt 64 (m:Int)).toNat=m:=by rw[show BitVec.ofInt 64 (m:Int)=BitVec.ofNat 64 m from BitVec.ofInt_natCast ..,BitVec.toNat_ofNat,Nat.mod_eq_of_lt (by omega)]
 rw[BitVec.toNat_and,h1,h2,wrap_u64']
 have:=Nat.and_le_left (n:=n) (m:=m)
 omega
theorem and_15 {a:Int} (h0:0<=a) (h1:a<18446744073709551616):bitOp .and .u64 a 15=a%16:=by
 obtain⟨n,rfl⟩:=Int.eq_ofNat_of_zero_le h0
 have:=and_u64n n 15 (by omega) (by omega)
 rw[show ((15:Nat):Int)=15 from rfl] at this
 rw[this]
 have h:=Nat.and_two_pow_sub_one_eq_mod n 4
 rw[show 2^4-1=15 from rfl] at h
 rw[h]
 omega
theorem pj_eq {n k:Nat} (h:k<16*(n+1)) (hn:n<1000):pj n k=((n-k/16:Nat):Int):=by
 unfold pj
 rw[Int.tdiv_eq_ediv_of_nonneg (by omega),wrap_i64' (a:=(k:Int)/16) (by omega) (by omega),wrap_i64' (by omega) (by omega)]
 omega
theorem psh_eq {k:Nat}:psh k=((4*(15-k%16):Nat):Int):=by
 unfold psh
 rw[Int.tmod_eq_emod_of_nonneg (by omega),wrap_i64' (a:=4*((k:Int)%16)) (by omega) (by omega),wrap_i64' (by omega) (by omega)]
 omega
theorem pdig_ok {n k:Nat} {N:Int} (h:k<16*(n+1)) (hn:n<1000):pdig n (lim (n+1) N) k=N/p16 (16*(n+1)-1-k)%16:=by
 unfold pdig
 rw[pj_eq h hn,psh_eq]
 simp only[Int.toNat_natCast]
 rw[show IntKind.u64.bits=64 from rfl,Nat.min_eq_left (by omega),<- p16_pow,Int.fdiv_eq_ediv_of_nonneg _ (Int.le_of_lt (p16_pos _))]
 have hw:0<=(lim (n+1) N).getD (n-k/16) 0/\(lim (n+1) N).getD (n-k/16) 0<18446744073709551616:=by
  rw[lim_get _ _ _ (by omega)];omega
 have hp:=p16_pos (15-k%16)
 have h1:=Int.ediv_nonneg hw.1 (Int.le_of_lt hp)
 have h2:=Int.ediv_le_self (p16 (15-k%16)) hw.1
 rw[and_15 h1 (by omega)]
 have:=digit_at (n:=n+1) (N:=N) (i:=k) h
 rw[show n+1-1-k/16=n-k/16 by omega] at this
 exact this
theorem pdig_bd {n k:Nat} (h:k<16*(n+1)) (hn:n<1000):(0<=pj n k/\pj n k<((n+1:Nat):Int))/\(pj n k).toNat<n+1/\0<=psh k:=by
 rw[pj_eq h hn,psh_eq]
 exact⟨⟨by omega,by omega⟩,by omega,by omega⟩
def tabAt {α:Type} (f:Nat->α) (z:α) (k:Nat):List α:=(List.range 16).map fun j=>if j<=k then f j else z
theorem tabAt_get {α:Type} (f:Nat->α) (z d:α) {k j:Nat} (h:j<=k) (hj:j<16):(tabAt f z k).getD j d=f j:=by
 simp[tabAt,hj,h]
theorem tabAt_set {α:Type} (f:Nat->α) (z:α) {k:Nat}:(tabAt f z k).set (k+1) (f (k+1))=tabAt f z (k+1):=by
 apply List.ext_getElem
 ·simp[tabAt]
 ·intro i h1 h2
  rw[List.getElem_set]
  split
  ·rename_i e;subst e;simp[tabAt]
  ·rename_i e
   simp only[tabAt,List.getElem_map,List.getElem_range]
   by_cases h:i<=k
   ·rw[if_pos h,if_pos (by omega)]
   ·rw[if_neg h,if_neg (by omega)]
end Go.Eng
namespace Go.Proofs.YtbeeaekepmnfhaaGreatDoor.fp
noncomputable section
open Go Go.Eng Go.RowKit Cr
theorem ent_power:enters Tryz.prog 200 Tryz.f200:=ek
def powI (x:Fp) (es:List Int) (g:Int × List Fp):St:=mkSt Tryz.f200.ntmps 64 [(2,.is (.one (.ptr 0 0))),(3,.is (.one (.ptr 8 0))),(4,.is (.one (.ptr 16 0))),(5,.is (.one (.ptr 24 0))),(11,sI .i64 g.1)] [(0,[.row .fp 1 [x]]),(8,[.ints .u64 6 es]),(16,[.row .fp 1 [(0:Fp)]]),(24,[.row .fp 16 g.2])]
def powJ (es:List Int) (tb:List Fp) (g:Int × Fp):St:=mkSt Tryz.f200.ntmps 96 [(3,.is (.one (.ptr 8 0))),(4,.is (.one (.ptr 16 0))),(5,.is (.one (.ptr 24 0))),(7,.is (.one (.ptr 72 0))),(24,sI .i64 g.1)] [(8,[.ints .u64 6 es]),(16,[.row .fp 1 [(0:Fp)]]),(24,[.row .fp 16 tb]),(72,[.row .fp 1 [g.2]])]
def powK (es:List Int) (tb:List Fp) (i:Int) (g:Int × Fp):St:=mkSt Tryz.f200.ntmps 128 [(3,.is (.one (.ptr 8 0))),(4,.is (.one (.ptr 16 0))),(5,.is (.one (.ptr 24 0))),(7,.is (.one (.ptr 72 0))),(8,sI .i64 i),(24,sI .i64 i),(27,sI .i64 g.1)] [(8,[.ints .u64 6 es]),(16,[.row .fp 1 [(0:Fp)]]),(24,[.row .fp 16 tb]),(72,[.row .fp 1 [g.2]])]
def powL (es:List Int) (tb:List Fp) (i:Int) (y:Fp):St:=mkSt Tryz.f200.ntmps 104 [(3,.is (.one (.ptr 8 0))),(4,.is (.one (.ptr 16 0))),(5,.is (.one (.ptr 24 0))),(7,.is (.one (.ptr 72 0))),(24,sI .i64 i)] [(8,[.ints .u64 6 es]),(16,[.row .fp 1 [(0:Fp)]]),(24,[.row .fp 16 tb]),(72,[.row .fp 1 [y]])]
abbrev prePower:HL [.fp,(.arr 6 (.int .u64))]->Prop:=fun (_,es,_)=>Ws es
abbrev outPower:HL [.fp,(.arr 6 (.int .u64))]->HO [.val .fp]:=fun (x,es,_)=>(zpw (x:Fp) (val es),())
theorem fn_power:FnOk Tryz.prog 200 [.fp,(.arr 6 (.int .u64))] [.val .fp] noG prePower outPower:=by
 have hsp:SpecsOk Tryz.prog (sps [spOne,spMul,spSquare]):=spk (fok fn_one) (spk (fok fn_mul) (spk (fok fn_square) snl))
 refine fn_of_tr (sp:=sps [spOne,spMul,spSquare]) ent_power (by decide) (by decide) (by kernel_rfl) ?_
 rintro w M0 ⟨x,es,⟨⟩⟩ ⟨_,⟨hl,_⟩,_⟩ he
 have hl:List.length es=6:=hl
 have he:Ws es:=he
 have hE:=val_nonneg he
 have hE2:val es<p16 96:=by have:=val_lt he;rw[hl] at this;rw[show 96=16*6 from rfl,p16_16];exact this
 have hes:es=lim 6 (val es):=by have:=lim_val he;rw[hl] at this;exact this.symm
 show Tr _ _ _ _ _ _ _
 refine tr_cut hsp mixed 4 (powI x es (0,(List.replicate 16 (0:Fp)).set 0 1)) True ?_ (fun _=>?_)
 ·refine vcx (X:=True/\(0:Nat)<16/\(powI x es (0,(List.replicate 16 (0:Fp)).set 0 1)).triv True) (by kernel_rfl) ⟨trivial,by decide,tvi trivial⟩
 rw[show (List.replicate 16 (0:Fp)).set 0 1=tabAt (zpow x) 0 0 from rfl]
 refine tr_count hsp mixed (powI x es) (fun k=>((k:Int),tabAt (zpow x) 0 k)) 15 (fun g=>(IntKind.i64.wrap (g.1+1),g.2.set (IntKind.i64.wrap (g.1+1)).toNat (g.2.getD g.1.toNat 0*x))) (powI x es) (c:=nthC (codeOf Tryz.f200) 4) (by kernel_rfl) (by kernel_rfl) (le_of_proj (by kernel_rfl) (by kernel_rfl) trivial)
  (fun k hk=>by
   show (_,_)=(_,_)
   rw[wrap_succ (by omega),Int.toNat_natCast,Int.toNat_natCast,tabAt_get _ _ _ (Nat.le_refl k) (by omega),show zpow x k*x=zpow x (k+1) from rfl,tabAt_set]) ?_ ?_
 ·intro k hk
  refine vcx (X:=((decide ((k:Int)<15)=true->(0<=(k:Int)/\(k:Int)<((16:Nat):Int))/\(k:Int).toNat<16/\True/\(0<=IntKind.i64.wrap ((k:Int)+1)/\IntKind.i64.wrap ((k:Int)+1)<((16:Nat):Int))/\(IntKind.i64.wrap ((k:Int)+1)).toNat<16 /\
    (powI x es (IntKind.i64.wrap ((k:Int)+1),(tabAt (zpow x) 0 k).set (IntKind.i64.wrap ((k:Int)+1)).toNat ((tabAt (zpow x) 0 k).getD (k:Int).toNat 0*x))).triv (k<15)) /\
   (decide ((k:Int)<15)=false->(powI x es ((k:Int),tabAt (zpow x) 0 k)).triv (k=15)))) (by kernel_rfl) ?_
  refine⟨fun h=>?_,fun h=>tvi (by have:=dec_ge h;omega)⟩
  have hlt:k<15:=by have:=dec_lt h;omega
  rw[wrap_succ (by omega)]
  exact⟨⟨by omega,by omega⟩,by omega,trivial,⟨by omega,by omega⟩,by omega,tvi hlt⟩
 generalize htb:tabAt (zpow x) 0 15=tb
 have hget:∀ j,j<16->tb.getD j 0=zpow x j:=fun j hj=>by rw[<- htb];exact tabAt_get _ _ _ (by omega) hj
 clear htb
 refine tr_cut hsp mixed 2 (powJ es tb (0,1)) True ?_ (fun _=>?_)
 ·refine vcx (X:=True/\(powJ es tb (0,1)).triv True) (by kernel_rfl) ⟨trivial,tvi trivial⟩
 rw[show ((0:Int),(1:Fp))=(((0:Nat):Int),zpow x (val es/p16 (96-0)).toNat) by
  rw[Nat.sub_zero,Int.ediv_eq_zero_of_lt hE hE2];rfl]
 refine tr_countT (powJ es tb) (fun i=>((i:Int),zpow x (val es/p16 (96-i)).toNat)) 96 (fun g=>(IntKind.i64.wrap (g.1+1),sqn g.2 4*tb.getD (pdig (5:Nat) es g.1).toNat 0)) (powJ es tb) (c:=nthC (codeOf Tryz.f200) 7) (by kernel_rfl) (by kernel_rfl) (le_of_proj (by kernel_rfl) (by kernel_rfl) trivial)
  (fun i hi=>by
   show (_,_)=(_,_)
   rw[wrap_succ (by omega),hes,pdig_ok (n:=5) hi (by omega),<- hes]
   rw[hget _ (by omega),sqn_zpow,<- zpow_add]
   congr 2
   have:=digit_step hE (96-1-i)
   rw[show 96-(i+1)=96-1-i by omega,this,show 96-1-i+1=96-i by omega]) ?_ ?_
 ·intro i hi
  generalize zpow x (val es/p16 (96-i)).toNat=y
  refine tr_cut hsp mixed 2 (powL es tb (i:Int) y) (i<96) ?_ (fun hlt=>?_)
  ·refine vcx (X:=((decide ((i:Int)<96)=true->(powL es tb (i:Int) y).triv (i<96))/\(decide ((i:Int)<96)=false->(powJ es tb ((i:Int),y)).triv (i=96)))) (by kernel_rfl) ?_
   exact⟨fun h=>tvi (by have:=dec_lt h;omega),fun h=>tvi (by have:=dec_ge h;omega)⟩
  refine tr_block (c:=nthC (loopOf (nthC (codeOf Tryz.f200) 7)) 2) (by kernel_rfl) (by kernel_rfl) ?_
  refine tr_cut hsp mixed 2 (powK es tb (i:Int) (0,y)) True ?_ (fun _=>?_)
  ·refine vcx (X:=(powK es tb (i:Int) (0,y)).triv True) (by kernel_rfl) (tvi trivial)
  refine tr_count hsp mixed (powK es tb (i:Int)) (fun j=>((j:Int),sqn y j)) 4 (fun g=>(IntKind.i64.wrap (g.1+1),g.2*g.2)) (powK es tb (i:Int)) (c:=nthC (bodyOf (nthC (loopOf (nthC (codeOf Tryz.f200) 7)) 2)) 2) (by kernel_rfl) (by kernel_rfl) (le_of_proj (by kernel_rfl) (by kernel_rfl) trivial)
   (fun j hj=>by show (_,_)=(_,_);rw[wrap_succ (by omega)];rfl) ?_ ?_
  ·intro j hj
   refine vcx (X:=((decide ((j:Int)<4)=true->True/\(powK es tb (i:Int) (IntKind.i64.wrap ((j:Int)+1),sqn y j*sqn y j)).triv (j<4))/\(decide ((j:Int)<4)=false->(powK es tb (i:Int) ((j:Int),sqn y j)).triv (j=4)))) (by kernel_rfl) ?_
   exact⟨fun h=>⟨trivial,tvi (by have:=dec_lt h;omega)⟩,fun h=>tvi (by have:=dec_ge h;omega)⟩
  refine tr_cut hsp mixed 1 (powJ es tb ((i:Int),sqn y 4*tb.getD (pdig (5:Nat) es i).toNat 0)) True ?_ (fun _=>?_)
  ·refine vcx (X:=((16:Int)≠0/\(0<=pj (5:Nat) i/\pj (5:Nat) i<((6:Nat):Int))/\(pj (5:Nat) i).toNat<6/\(16:Int)≠0/\0<=psh i/\(0<=pdig (5:Nat) es i/\pdig (5:Nat) es i<((16:Nat):Int))/\(pdig (5:Nat) es i).toNat<16/\True/\(powJ es tb ((i:Int),sqn y 4*tb.getD (pdig (5:Nat) es i).toNat 0)).triv True)) (by kernel_rfl) ?_
   obtain⟨b1,b2,b3⟩:=pdig_bd (n:=5) hlt (by omega)
   have b4:0<=pdig (5:Nat) es i/\pdig (5:Nat) es i<16:=by
    rw[hes,pdig_ok (n:=5) hlt (by omega)]
    omega
   exact⟨by decide,b1,b2,by decide,b3,b4,by omega,trivial,tvi trivial⟩
  refine tr_nil ?_
  refine tr_vc hsp mixed _ _ ?_
  refine vcx (X:=(powJ es tb (IntKind.i64.wrap ((i:Int)+1),sqn y 4*tb.getD (pdig (5:Nat) es i).toNat 0)).triv (i<96)) (by kernel_rfl) (tvi hlt)
 refine tr_vc hsp mixed _ _ ?_
 refine vcx (X:=(zpow x (val es/p16 (96-96)).toNat,())=outPower (x,es,())) (by kernel_rfl) ?_
 rw[Nat.sub_self,p16,Int.ediv_one,<- zpw_eq]
def spPower:Nat × Eng.Spec:=(200,fnSpec [.fp,(.arr 6 (.int .u64))] [.val .fp] prePower outPower)
theorem ent_inv:enters Tryz.prog 169 Tryz.f169:=ek
def zinv (x:Fp):Fp:=zpw x 4002409555221667393417789825735904156556882819939007885332058136124031650490837864442687629129015664037894272559785
abbrev outInv:HL [.fp]->HO [.val .fp]:=fun (x,_)=>(zinv (x:Fp),())
theorem val_pm2:val [13402431016077863593,2210141511517208575,7435674573564081700,7239337960414712511,5412103778470702295,1873798617647539866]=4002409555221667393417789825735904156556882819939007885332058136124031650490837864442687629129015664037894272559785:=by decide
theorem fn_inv:FnOk Tryz.prog 169 [.fp] [.val .fp] noG (fun _=>True) outInv:=by
 refine fn_of_vc (sp:=sps [spPower]) (spk (fok fn_power) snl) mixed ent_inv (by decide) (by decide) ?_
 rintro w M0 ⟨x,⟨⟩⟩ _ _
 refine vcx (X:=(prePower (x,[13402431016077863593,2210141511517208575,7435674573564081700,7239337960414712511,5412103778470702295,1873798617647539866],())/\(zpw x (val [13402431016077863593,2210141511517208575,7435674573564081700,7239337960414712511,5412103778470702295,1873798617647539866]),())=outInv (x,()))) (by kernel_rfl) ?_
 refine⟨?_,?_⟩
 ·intro y hy;simp at hy;rcases hy with rfl|rfl|rfl|rfl|rfl|rfl<;>exact⟨by decide,by decide⟩
 ·rw[val_pm2];rfl
def spInv:Nat × Eng.Spec:=(169,fnSpec [.fp] [.val .fp] (fun _=>True) outInv)
end
end Go.Proofs.YtbeeaekepmnfhaaGreatDoor.fp
namespace Go.Proofs.YtbeeaekepmnfhaaGreatDoor
open Go Go.Eng Cr
def Trs:Nat->Prop->Prop
 | 0,P=>P
 | n+1,P=>True/\Trs n P
theorem trs {P:Prop} (h:P):∀ n,Trs n P:=by
 intro n
 induction n with
 | zero=>exact h
 | succ n ih=>exact⟨trivial,ih⟩
theorem dec_pair {α β:Type} [DecidableEq α] [DecidableEq β] (p q:α × β):(decide (p.1=q.1)&&decide (p.2=q.2))=decide (p=q):=by
 rw[Bool.eq_iff_iff]
 simp[Prod.ext_iff]
end Go.Proofs.YtbeeaekepmnfhaaGreatDoor
namespace Go.Proofs.YtbeeaekepmnfhaaGreatDoor.g1
open Go Go.Eng Go.RowKit Cr Go.Proofs.YtbeeaekepmnfhaaGreatDoor
abbrev bk:Kd:=.pair .fp (.pair .fp .fp)
theorem ent_lift:enters Tryz.prog 121 Tryz.f121:=ek
noncomputable abbrev outLift:HL [pt1]->HO [.val bk]:=fun (p,_)=>(jlift (F:=Fp) p,())
theorem fn_lift:FnOk Tryz.prog 121 [pt1] [.val bk] noG (fun _=>True) outLift:=by
 refine fn_of_vc (sp:=sps [fp.spOf]) (spk (fok fp.fn_of) snl) mixed ent_lift (by decide) (by decide) ?_
 rintro w M0 ⟨p,⟨⟩⟩
 revert p
 intro (p:Fp × Fp) _ _
 refine vcx (X:=(((decide (p.1=0)&&decide (p.2=0))=true->(((0:Fp),(0:Fp),(0:Fp)),())=outLift (p,()))/\((decide (p.1=0)&&decide (p.2=0))=false->U64 1/\((p.1,p.2,(1:Fp)),())=outLift (p,())))) (by kernel_rfl) ?_
 rw[dec_pair p ((0:Fp),(0:Fp))]
 refine⟨fun h=>?_,fun h=>⟨by constructor<;>decide,?_⟩⟩
 ·show _=(jlift p,())
  unfold jlift
  rw[if_pos (of_decide_eq_true h)]
 ·show _=(jlift p,())
  unfold jlift
  rw[if_neg (of_decide_eq_false h)]
noncomputable def spLift:Nat × Eng.Spec:=(121,fnSpec [pt1] [.val bk] (fun _=>True) outLift)
theorem ent_point:enters Tryz.prog 124 Tryz.f124:=ek
noncomputable abbrev outPoint:HL [bk]->HO [.val pt1]:=fun (a,_)=>(jpoint (F:=Fp) a,())
theorem fn_point:FnOk Tryz.prog 124 [bk] [.val pt1] noG (fun _=>True) outPoint:=by
 refine fn_of_vc (sp:=sps [fp.spZero,fp.spInv,fp.spSquare,fp.spMul]) (spk (fok fp.fn_zero) (spk (fok fp.fn_inv) (spk (fok fp.fn_square) (spk (fok fp.fn_mul) snl)))) mixed ent_point (by decide) (by decide) ?_
 rintro w M0 ⟨a,⟨⟩⟩
 revert a
 intro (a:Fp × Fp × Fp) _ _
 refine vcx (X:=(True/\(decide (a.2.2=0)=true->(((0:Fp),(0:Fp)),())=outPoint (a,()))/\(decide (a.2.2=0)=false->Trs 5 (((a.1*(fp.zinv a.2.2*fp.zinv a.2.2),a.2.1*(fp.zinv a.2.2*fp.zinv a.2.2)*fp.zinv a.2.2),())=outPoint (a,()))))) (by kernel_rfl) ?_
 refine⟨trivial,fun h=>?_,fun h=>trs ?_ _⟩
 ·show _=(jpoint a,())
  unfold jpoint
  rw[if_pos (of_decide_eq_true h)]
 ·show _=(jpoint a,())
  unfold jpoint
  rw[if_neg (of_decide_eq_false h)]
  rfl
noncomputable def spPoint:Nat × Eng.Spec:=(124,fnSpec [bk] [.val pt1] (fun _=>True) outPoint)
theorem ent_double:enters Tryz.prog 123 Tryz.f123:=ek
noncomputable abbrev outDouble:HL [bk]->HO [.val bk]:=fun (a,_)=>(jdbl (F:=Fp) a,())
theorem fn_double:FnOk Tryz.prog 123 [bk] [.val bk] noG (fun _=>True) outDouble:=by
 refine fn_of_vc (sp:=sps [fp.spZero,fp.spAdd,fp.spSub,fp.spSquare,fp.spMul]) (spk (fok fp.fn_zero) (spk (fok fp.fn_add) (spk (fok fp.fn_sub) (spk (fok fp.fn_square) (spk (fok fp.fn_mul) snl))))) mixed ent_double (by decide) (by decide) ?_
 rintro w M0 ⟨a,⟨⟩⟩
 revert a
 intro (a:Fp × Fp × Fp) _ _
 refine vcx (X:=(True/\(decide (a.2.2=0)=true->(((0:Fp),(0:Fp),(0:Fp)),())=outDouble (a,()))/\(decide (a.2.2=0)=false->Trs 18 ((jdbN a,())=outDouble (a,()))))) (by kernel_rfl) ?_
 refine⟨trivial,fun h=>?_,fun h=>trs ?_ _⟩
 ·show _=(jdbl a,())
  unfold jdbl
  rw[if_pos (of_decide_eq_true h)]
 ·show _=(jdbl a,())
  unfold jdbl
  rw[if_neg (of_decide_eq_false h)]
noncomputable def spDouble:Nat × Eng.Spec:=(123,fnSpec [bk] [.val bk] (fun _=>True) outDouble)
theorem ent_add:enters Tryz.prog 122 Tryz.f122:=ek
noncomputable abbrev outAdd:HL [bk,bk]->HO [.val bk]:=fun (a,b,_)=>(jadd (F:=Fp) a b,())
abbrev wd (a b:Fp × Fp × Fp):Fp:=b.1*(a.2.2*a.2.2)-a.1*(b.2.2*b.2.2)
abbrev rs (a b:Fp × Fp × Fp):Fp:=b.2.1*(a.2.2*a.2.2)*a.2.2-a.2.1*(b.2.2*b.2.2)*b.2.2
theorem fn_add:FnOk Tryz.prog 122 [bk,bk] [.val bk] noG (fun _=>True) outAdd:=by
 refine fn_of_vc (sp:=sps [fp.spZero,fp.spSub,fp.spSquare,fp.spMul,spDouble]) (spk (fok fp.fn_zero) (spk (fok fp.fn_sub) (spk (fok fp.fn_square) (spk (fok fp.fn_mul) (spk (fok fn_double) snl))))) mixed ent_add (by decide) (by decide) ?_
 rintro w M0 ⟨a,b,⟨⟩⟩
 revert a b
 intro (a:Fp × Fp × Fp) (b:Fp × Fp × Fp) _ _
 refine vcx (X:=(True/\(decide (a.2.2=0)=true->(b,())=outAdd (a,b,()))/\(decide (a.2.2=0)=false->True/\(decide (b.2.2=0)=true->(a,())=outAdd (a,b,()))/\(decide (b.2.2=0)=false ->
  Trs 11 ((decide (wd a b=0)=true->True/\(decide (rs a b=0)=true->True/\(jdbl (F:=Fp) a,())=outAdd (a,b,()))/\(decide (rs a b=0)=false->(((0:Fp),(0:Fp),(0:Fp)),())=outAdd (a,b,()))) /\
   (decide (wd a b=0)=false->Trs 13 ((jfin (F:=Fp) (wd a b) (rs a b) (a.1*(b.2.2*b.2.2)) (a.2.1*(b.2.2*b.2.2)*b.2.2) a.2.2 b.2.2,())=outAdd (a,b,())))))))) (by kernel_rfl) ?_
 refine⟨trivial,fun h=>?_,fun h=>⟨trivial,fun h2=>?_,fun h2=>trs ⟨fun h3=>⟨trivial,fun h4=>⟨trivial,?_⟩,fun h4=>?_⟩,fun h3=>trs ?_ _⟩ _⟩⟩
 all_goals show _=(jadd a b,())
 all_goals unfold jadd
 ·rw[if_pos (of_decide_eq_true h)]
 ·rw[if_neg (of_decide_eq_false h),if_pos (of_decide_eq_true h2)]
 ·rw[if_neg (of_decide_eq_false h),if_neg (of_decide_eq_false h2),if_pos (of_decide_eq_true h3),if_pos (of_decide_eq_true h4)]
 ·rw[if_neg (of_decide_eq_false h),if_neg (of_decide_eq_false h2),if_pos (of_decide_eq_true h3),if_neg (of_decide_eq_false h4)]
 ·rw[if_neg (of_decide_eq_false h),if_neg (of_decide_eq_false h2),if_neg (of_decide_eq_false h3)]
noncomputable def spAdd:Nat × Eng.Spec:=(122,fnSpec [bk,bk] [.val bk] (fun _=>True) outAdd)
end Go.Proofs.YtbeeaekepmnfhaaGreatDoor.g1
namespace Cr
open Rg Fd Go Go.Eng
def dh (b:Int):Int:=Int.fdiv b (2^min (Int.toNat 4) IntKind.u8.bits)
def dl (b:Int):Int:=bitOp .and .u8 b 15
theorem dh_ok {b:Int} (h0:0<=b) (h1:b<256):dh b=b/16/\0<=dh b/\dh b<16:=by
 have e:dh b=b/16:=by
  show Int.fdiv b (2^4)=b/16
  rw[Int.fdiv_eq_ediv_of_nonneg b (by decide)];rfl
 rw[e];omega
theorem dl_ok {b:Int} (h0:0<=b) (h1:b<256):dl b=b%16/\0<=dl b/\dl b<16:=by
 obtain⟨n,rfl⟩:=Int.eq_ofNat_of_zero_le h0
 have hn:n<256:=by omega
 have e:dl (n:Int)=(n:Int)%16:=by
  show IntKind.u8.wrap ((BitVec.ofInt 8 (n:Int) &&& BitVec.ofInt 8 15:BitVec 8).toNat:Int)=_
  have h1:(BitVec.ofInt 8 (n:Int)).toNat=n:=by rw[show BitVec.ofInt 8 (n:Int)=BitVec.ofNat 8 n from BitVec.ofInt_natCast ..,BitVec.toNat_ofNat,Nat.mod_eq_of_lt (by omega)]
  rw[BitVec.toNat_and,h1,show (BitVec.ofInt 8 15).toNat=15 from rfl]
  have h:=Nat.and_two_pow_sub_one_eq_mod n 4
  rw[show 2^4-1=15 from rfl] at h
  rw[h]
  have:IntKind.u8.wrap ((n%2^4:Nat):Int)=((n%2^4:Nat):Int):=by
   simp[IntKind.wrap,IntKind.signed,IntKind.bits];omega
  rw[this];omega
 rw[e];omega
section
variable {F:Type} [Fd F]
def jsm (ps:List (F × F)):Nat->Jc F
 | 0=>(0,0,0)
 | k+1=>jadd (jsm ps k) (jlift (ps.getD k (0,0)))
def jt (o:Jc F):Nat->Jc F
 | 0=>(0,0,0)
 | k+1=>jadd (jt o k) o
def jdn (s:Jc F):Nat->Jc F
 | 0=>s
 | k+1=>jdbl (jdn s k)
def jst (tb:List (Jc F)) (s:Jc F) (d:Int):Jc F:=jadd (jdn s 4) (tb.getD d.toNat (0,0,0))
def jsd (tb:List (Jc F)) (ds:List Int) (s:Jc F):Nat->Jc F
 | 0=>s
 | j+1=>jst tb (jsd tb ds s j) (ds.getD j 0)
def jby (tb:List (Jc F)) (s:Jc F) (b:Int):Jc F:=jsd tb [dh b,dl b] s 2
def jtm (tb:List (Jc F)) (k:List Int):Nat->Jc F
 | 0=>(0,0,0)
 | i+1=>jby tb (jtm tb k i) (k.getD i 0)
def nmul (P:F × F):Nat->F × F
 | 0=>O2
 | n+1=>padd (nmul P n) P
def psum:List (F × F)->F × F
 | []=>O2
 | P::ps=>padd P (psum ps)
variable {b:F} (hb:b≠0)
include hb
theorem nmul_on {P:F × F} (oP:OnP b P) (n:Nat):OnP b (nmul P n):=by
 induction n with
 | zero=>exact .inl rfl
 | succ n ih=>exact padd_on hb ih oP
theorem nmul_add {P:F × F} (oP:OnP b P) (m n:Nat):nmul P (m+n)=padd (nmul P m) (nmul P n):=by
 induction n with
 | zero=>exact (add_O _).symm
 | succ n ih=>show padd (nmul P (m+n)) P=padd (nmul P m) (padd (nmul P n) P);rw[ih,padd_assoc hb (nmul_on hb oP m) (nmul_on hb oP n) oP]
theorem nmul_mul {P:F × F} (oP:OnP b P) (m n:Nat):nmul (nmul P m) n=nmul P (m*n):=by
 induction n with
 | zero=>rfl
 | succ n ih=>show padd (nmul (nmul P m) n) (nmul P m)=_;rw[ih,<- nmul_add hb oP];rfl
theorem add4 {P Q R S:F × F} (oP:OnP b P) (oQ:OnP b Q) (oR:OnP b R) (oS:OnP b S):padd (padd P Q) (padd R S)=padd (padd P R) (padd Q S):=by
 rw[padd_assoc hb oP oQ (padd_on hb oR oS),<- padd_assoc hb oQ oR oS,padd_comm hb oQ oR,padd_assoc hb oR oQ oS,<- padd_assoc hb oP oR (padd_on hb oQ oS)]
theorem nmul_padd {P Q:F × F} (oP:OnP b P) (oQ:OnP b Q) (n:Nat):nmul (padd P Q) n=padd (nmul P n) (nmul Q n):=by
 induction n with
 | zero=>exact (O_add _).symm
 | succ n ih=>show padd (nmul (padd P Q) n) (padd P Q)=padd (padd (nmul P n) P) (padd (nmul Q n) Q);rw[ih,add4 hb (nmul_on hb oP n) (nmul_on hb oQ n) oP oQ]
theorem nmul_neg {P:F × F} (oP:OnP b P) (n:Nat):nmul (pneg P) n=pneg (nmul P n):=by
 induction n with
 | zero=>exact pneg_O.symm
 | succ n ih=>show padd (nmul (pneg P) n) (pneg P)=_;rw[ih,<- pneg_add hb (nmul_on hb oP n) oP];rfl
omit hb in
theorem nmul_O (n:Nat):nmul (O2:F × F) n=O2:=by
 induction n with
 | zero=>rfl
 | succ n ih=>show padd (nmul O2 n) O2=O2;rw[ih,O_add]
omit hb in
theorem nmul_two {P:F × F}:nmul P 2=padd P P:=by
 show padd (padd O2 P) P=_;rw[O_add]
omit hb in
theorem nmul_one {P:F × F}:nmul P 1=P:=O_add P
theorem rep_jt {o:Jc F} {P:F × F} (h:Rep b o P) (k:Nat):Rep b (jt o k) (nmul P k):=by
 induction k with
 | zero=>exact .inl ⟨rfl,rfl⟩
 | succ k ih=>exact rep_add hb ih h
theorem rep_jdn {s:Jc F} {P:F × F} {n:Nat} (oP:OnP b P) (h:Rep b s (nmul P n)) (k:Nat):Rep b (jdn s k) (nmul P (2^k*n)):=by
 induction k with
 | zero=>rw[Nat.pow_zero,Nat.one_mul];exact h
 | succ k ih =>
  have:=rep_dbl hb ih
  rw[<- nmul_add hb oP] at this
  rw[Nat.pow_succ,Nat.mul_comm (2^k) 2,Nat.mul_assoc,Nat.two_mul]
  exact this
theorem rep_jst {s o:Jc F} {P:F × F} {n:Nat} (ho:Rep b o P) (h:Rep b s (nmul P n)) {d:Int} (h0:0<=d) (h1:d<16):Rep b (jst (tabAt (jt o) (0,0,0) 15) s d) (nmul P (16*n+d.toNat)):=by
 unfold jst
 rw[tabAt_get _ _ _ (by omega) (by omega),nmul_add hb ho.on]
 exact rep_add hb (rep_jdn hb ho.on h 4) (rep_jt hb ho _)
theorem rep_jby {s o:Jc F} {P:F × F} {n:Nat} (ho:Rep b o P) (h:Rep b s (nmul P n)) {c:Int} (h0:0<=c) (h1:c<256):Rep b (jby (tabAt (jt o) (0,0,0) 15) s c) (nmul P (256*n+c.toNat)):=by
 obtain⟨e1,d1,d2⟩:=dh_ok h0 h1
 obtain⟨e2,d3,d4⟩:=dl_ok h0 h1
 have:=rep_jst hb ho (rep_jst hb ho h d1 d2) d3 d4
 have e:16*(16*n+(dh c).toNat)+(dl c).toNat=256*n+c.toNat:=by rw[e1,e2];omega
 rw[e] at this
 exact this
omit hb in
theorem num_take {k:List Int} {i:Nat} (h:i<k.length):num (k.take (i+1))=num (k.take i)*256+k.getD i 0:=by
 unfold num
 rw[List.take_succ_eq_append_getElem h,List.foldl_append]
 simp[h]
theorem rep_jtm {o:Jc F} {P:F × F} (ho:Rep b o P) {k:List Int} (hk:Bs k) (i:Nat) (hi:i<=k.length):0<=num (k.take i)/\Rep b (jtm (tabAt (jt o) (0,0,0) 15) k i) (nmul P (num (k.take i)).toNat):=by
 induction i with
 | zero=>exact⟨by simp[num],.inl ⟨rfl,by simp[num,nmul]⟩⟩
 | succ i ih =>
  obtain⟨h1,h2⟩:=ih (by omega)
  have hc:0<=k.getD i 0/\k.getD i 0<256:=by
   have:k.getD i 0∈k:=by rw[List.getD_eq_getElem?_getD,List.getElem?_eq_getElem (by omega)];exact List.getElem_mem (by omega)
   exact hk _ this
  have:=rep_jby hb ho h2 hc.1 hc.2
  rw[num_take (by omega)]
  refine⟨by omega,?_⟩
  have e:(num (k.take i)*256+k.getD i 0).toNat=256*(num (k.take i)).toNat+(k.getD i 0).toNat:=by omega
  rw[e]
  exact this
theorem times_eq {P:F × F} (oP:OnP b P) {k:List Int} (hk:Bs k):jpoint (jtm (tabAt (jt (jlift P)) (0,0,0) 15) k k.length)=nmul P (num k).toNat:=by
 have:=(rep_jtm hb (rep_lift oP) hk k.length (Nat.le_refl _)).2
 rw[List.take_length] at this
 exact rep_point this
theorem psum_on {ps:List (F × F)} (h:∀ P∈ps,OnP b P):OnP b (psum ps):=by
 induction ps with
 | nil=>exact .inl rfl
 | cons P ps ih=>exact padd_on hb (h P (by simp)) (ih (fun Q hQ=>h Q (by simp[hQ])))
theorem psum_snoc {ps:List (F × F)} (h:∀ P∈ps,OnP b P) {Q:F × F} (oQ:OnP b Q):psum (ps++[Q])=padd (psum ps) Q:=by
 induction ps with
 | nil=>show padd Q O2=padd O2 Q;rw[add_O,O_add]
 | cons P ps ih =>
  show padd P (psum (ps++[Q]))=padd (padd P (psum ps)) Q
  rw[ih (fun R hR=>h R (by simp[hR])),padd_assoc hb (h P (by simp)) (psum_on hb (fun R hR=>h R (by simp[hR]))) oQ]
theorem rep_jsm {ps:List (F × F)} (h:∀ P∈ps,OnP b P) (i:Nat) (hi:i<=ps.length):Rep b (jsm ps i) (psum (ps.take i)):=by
 induction i with
 | zero=>exact .inl ⟨rfl,by simp[psum]⟩
 | succ i ih =>
  have hm:ps.getD i (0,0)=ps[i]:=by simp[show i<ps.length by omega]
  have ho:OnP b (ps[i]):=h _ (List.getElem_mem _)
  rw[List.take_succ_eq_append_getElem (by omega),psum_snoc hb (fun P hP=>h P (List.mem_of_mem_take hP)) ho]
  show Rep b (jadd (jsm ps i) (jlift (ps.getD i (0,0)))) _
  rw[hm]
  exact rep_add hb (ih (by omega)) (rep_lift ho)
theorem sum_eq {ps:List (F × F)} (h:∀ P∈ps,OnP b P):jpoint (jsm ps ps.length)=psum ps:=by
 have:=rep_jsm hb h ps.length (Nat.le_refl _)
 rw[List.take_length] at this
 exact rep_point this
theorem add_eq {P Q:F × F} (oP:OnP b P) (oQ:OnP b Q):jpoint (jsm [P,Q] 2)=padd P Q:=by
 have:=sum_eq hb (ps:=[P,Q]) (by intro R hR;simp at hR;rcases hR with rfl|rfl<;>assumption)
 rw[show psum [P,Q]=padd P Q by show padd P (padd Q O2)=_;rw[add_O]] at this
 exact this
end
end Cr
namespace Go.Proofs.YtbeeaekepmnfhaaGreatDoor.g1
noncomputable section
open Go Go.Eng Go.RowKit Cr
abbrev bc (s:Fp × Fp × Fp):List Cell:=[.row .fp 1 [s.1],.row .fp 1 [s.2.1],.row .fp 1 [s.2.2]]
abbrev pc (s:Fp × Fp):List Cell:=[.row .fp 1 [s.1],.row .fp 1 [s.2]]
theorem ent_sum:enters Tryz.prog 151 Tryz.f151:=ek
def sumI (ps:List (Fp × Fp)) (g:Int × (Fp × Fp × Fp)):St:=mkSt Tryz.f151.ntmps 40 [(2,.is (.one (.ptr 0 0))),(3,.is (.one (.ptr 8 0))),(6,.is (.one (.ro pt1 ps))),(7,sI .i64 ps.length),(8,sI .i64 g.1)] [(8,bc g.2),(0,pc (0,0))]
def sumN (ps:List (Fp × Fp)) (g:Int × (Fp × Fp × Fp)):Int × (Fp × Fp × Fp):=(IntKind.i64.wrap (g.1+1),jadd (F:=Fp) g.2 (jlift (F:=Fp) (ps.getD g.1.toNat (0,0))))
abbrev preSum:HL [.sl pt1]->Prop:=fun (ps,_)=>List.length ps<4611686018427387904
abbrev outSum:HL [.sl pt1]->HO [.val pt1]:=fun (ps,_)=>(jpoint (F:=Fp) (jsm ps (List.length ps)),())
theorem fn_sum:FnOk Tryz.prog 151 [.sl pt1] [.val pt1] noG preSum outSum:=by
 have hsp:SpecsOk Tryz.prog (sps [spLift,spAdd,spPoint]):=spk (fok fn_lift) (spk (fok fn_add) (spk (fok fn_point) snl))
 refine fn_of_tr (sp:=sps [spLift,spAdd,spPoint]) ent_sum (by decide) (by decide) (by kernel_rfl) ?_
 rintro w M0 ⟨ps,⟨⟩⟩
 revert ps
 intro (ps:List (Fp × Fp)) _ hl
 have hl:ps.length<4611686018427387904:=hl
 show Tr _ _ _ _ _ _ _
 refine tr_cut hsp mixed 3 (sumI ps (0,jsm ps 0)) True ?_ (fun _=>?_)
 ·exact vcx (X:=(sumI ps (0,jsm ps 0)).triv True) (by kernel_rfl) (tvi trivial)
 refine tr_count hsp mixed (sumI ps) (fun k=>((k:Int),jsm ps k)) ps.length (sumN ps) (sumI ps) (c:=nthC (codeOf Tryz.f151) 3) (by kernel_rfl) (by kernel_rfl) (le_of_proj (by kernel_rfl) (by kernel_rfl) trivial)
  (fun k hk=>by show (_,_)=(_,_);rw[wrap_succ (by omega)];rfl) ?_ ?_
 ·intro k hk
  generalize hs:jsm ps k=s
  refine vcx (X:=((decide ((k:Int)<(ps.length:Int))=true->(0<=(k:Int)/\(k:Int)<(ps.length:Int))/\(k:Int).toNat<ps.length/\True/\True/\(sumI ps (sumN ps ((k:Int),s))).triv (k<ps.length)) /\
   (decide ((k:Int)<(ps.length:Int))=false->(sumI ps ((k:Int),s)).triv (k=ps.length)))) (by kernel_rfl) ?_
  refine⟨fun h=>?_,fun h=>tvi (by have:=dec_ge h;omega)⟩
  have hlt:k<ps.length:=by have:=dec_lt h;omega
  exact⟨⟨by omega,by omega⟩,by omega,trivial,trivial,tvi hlt⟩
 ·refine tr_vc hsp mixed _ _ ?_
  exact vcx (X:=(True/\(jpoint (F:=Fp) (jsm ps ps.length),())=outSum (ps,()))) (by kernel_rfl) ⟨trivial,rfl⟩
def spSum:Nat × Eng.Spec:=(151,fnSpec [.sl pt1] [.val pt1] preSum outSum)
theorem ent_padd:enters Tryz.prog 106 Tryz.f106:=ek
abbrev outPAdd:HL [pt1,pt1]->HO [.val pt1]:=fun (p,q,_)=>(jpoint (F:=Fp) (jsm [p,q] 2),())
theorem fn_padd:FnOk Tryz.prog 106 [pt1,pt1] [.val pt1] noG (fun _=>True) outPAdd:=by
 refine fn_of_vc (sp:=sps [spSum]) (spk (fok fn_sum) snl) mixed ent_padd (by decide) (by decide) ?_
 rintro w M0 ⟨p,q,⟨⟩⟩
 revert p q
 intro (p:Fp × Fp) (q:Fp × Fp) _ _
 refine vcx (X:=((0+2:Nat)<=2/\preSum ([p,q],())/\outSum ([p,q],())=outPAdd (p,q,()))) (by kernel_rfl) ?_
 exact⟨by decide,show (2:Nat)<4611686018427387904 by decide,rfl⟩
theorem ent_pneg:enters Tryz.prog 96 Tryz.f96:=ek
abbrev outPNeg:HL [pt1]->HO [.val pt1]:=fun (p,_)=>(pneg (F:=Fp) p,())
theorem fn_pneg:FnOk Tryz.prog 96 [pt1] [.val pt1] noG (fun _=>True) outPNeg:=by
 refine fn_of_vc (sp:=sps [fp.spNeg]) (spk (fok fp.fn_neg) snl) mixed ent_pneg (by decide) (by decide) ?_
 rintro w M0 ⟨p,⟨⟩⟩
 revert p
 intro (p:Fp × Fp) _ _
 exact vcx (X:=(True/\(((p.1,-p.2),())=outPNeg (p,())))) (by kernel_rfl) ⟨trivial,rfl⟩
def b4:Fp:=zm 4
def isOn (p:Fp × Fp):Bool:=decide (p=((0:Fp),(0:Fp)))||decide (p.2*p.2=p.1*p.1*p.1+b4)
theorem isOn_iff (p:Fp × Fp):isOn p=true↔OnP b4 p:=by
 unfold isOn OnP On
 simp
end
end Go.Proofs.YtbeeaekepmnfhaaGreatDoor.g1
namespace Go.Proofs.YtbeeaekepmnfhaaGreatDoor.fp
noncomputable section
open Go Go.Eng Go.RowKit Cr
theorem ent_sqrt:enters Tryz.prog 166 Tryz.f166:=ek
def sqrI (x:Fp) (g:Int × List Int):St:=mkSt Tryz.f166.ntmps 56 [(1,.is (.one (.ptr 0 0))),(2,.is (.one (.ptr 8 0))),(4,.is (.one (.ptr 32 0))),(8,sI .i64 g.1)] [(0,[.row .fp 1 [x]]),(8,[.row .fp 1 [(0:Fp)]]),(32,[.ints .u64 6 g.2])]
def sqrN (g:Int × List Int):Int × List Int:=(IntKind.i64.wrap (g.1+1),g.2.set g.1.toNat (bitOp .or .u64 (Int.fdiv (g.2.getD g.1.toNat 0) (2^min (Int.toNat 2) IntKind.u64.bits)) (IntKind.u64.wrap (g.2.getD (IntKind.i64.wrap (g.1+1)).toNat 0*2^min (Int.toNat 62) IntKind.u64.bits))))
def sqrE:List Int:=[13402431016077863596,2210141511517208575,7435674573564081700,7239337960414712511,5412103778470702295,1873798617647539866]
def sqrG:Nat->Int × List Int
 | 0=>(0,sqrE)
 | k+1=>sqrN (sqrG k)
def sqrF (es:List Int):List Int:=es.set 5 (Int.fdiv ((es.drop 5).getD 0 0) (2^min (Int.toNat 2) IntKind.u64.bits))
theorem sqrG_fst:∀ k,k<=5->(sqrG k).1=(k:Int):=by
 intro k
 induction k with
 | zero=>intro _;rfl
 | succ k ih=>intro h;show IntKind.i64.wrap ((sqrG k).1+1)=_;rw[ih (by omega),wrap_succ (by omega)]
def p14:Int:=1000602388805416848354447456433976039139220704984751971333014534031007912622709466110671907282253916009473568139947
theorem sqrF_val:val (sqrF (sqrG 5).2)=p14:=by decide +kernel
theorem sqrF_ws:Ws (sqrF (sqrG 5).2):=by
 intro x hx
 have e:sqrF (sqrG 5).2=lim 6 p14:=by decide +kernel
 rw[e] at hx
 exact lim_ws _ _ x hx
def fpSqrt (x:Fp):Fp × Bool:=if zpw x p14*zpw x p14=x then (zpw x p14,true) else (0,false)
abbrev outSqrt:HL [.fp]->HO [.val .fp,.val .bool]:=fun (x,_)=>((fpSqrt x).1,(fpSqrt x).2,())
theorem fn_sqrt:FnOk Tryz.prog 166 [.fp] [.val .fp,.val .bool] noG (fun _=>True) outSqrt:=by
 have hsp:SpecsOk Tryz.prog (sps [spPower,spSquare]):=spk (fok fn_power) (spk (fok fn_square) snl)
 refine fn_of_tr (sp:=sps [spPower,spSquare]) ent_sqrt (by decide) (by decide) (by kernel_rfl) ?_
 rintro w M0 ⟨x,⟨⟩⟩ _ _
 show Tr _ _ _ _ _ _ _
 refine tr_cut hsp mixed 3 (sqrI x (0,sqrE)) True ?_ (fun _=>?_)
 ·refine vcx (X:=(sqrI x (0,sqrE)).triv True) (by kernel_rfl) (tvi trivial)
 refine tr_count hsp mixed (sqrI x) sqrG 5 sqrN (sqrI x) (c:=nthC (codeOf Tryz.f166) 3) (by kernel_rfl) (by kernel_rfl) (le_of_proj (by kernel_rfl) (by kernel_rfl) trivial) (fun k hk=>rfl) ?_ ?_
 ·intro k hk
  have hf:=sqrG_fst k hk
  generalize sqrG k=g at *
  obtain⟨i,es⟩:=g
  simp only at hf
  subst hf
  refine vcx (X:=((decide ((k:Int)<5)=true->(0<=(k:Int)/\(k:Int)<((6:Nat):Int))/\(k:Int).toNat<6/\(0:Int)<=2/\(0<=IntKind.i64.wrap ((k:Int)+1)/\IntKind.i64.wrap ((k:Int)+1)<((6:Nat):Int))/\(IntKind.i64.wrap ((k:Int)+1)).toNat<6/\(0:Int)<=62/\(0<=(k:Int)/\(k:Int)<((6:Nat):Int))/\(k:Int).toNat<6/\(sqrI x (sqrN ((k:Int),es))).triv (k<5)) /\
   (decide ((k:Int)<5)=false->(sqrI x ((k:Int),es)).triv (k=5)))) (by kernel_rfl) ?_
  refine⟨fun h=>?_,fun h=>tvi (by have:=dec_ge h;omega)⟩
  have hlt:k<5:=by have:=dec_lt h;omega
  rw[wrap_succ (by omega)]
  exact⟨⟨by omega,by omega⟩,by omega,by decide,⟨by omega,by omega⟩,by omega,by decide,⟨by omega,by omega⟩,by omega,tvi hlt⟩
 have hv:=sqrF_val
 have hw:=sqrF_ws
 generalize sqrG 5=g at *
 obtain⟨i,es⟩:=g
 simp only at hv hw
 refine tr_vc hsp mixed _ _ ?_
 refine vcx (X:=((0:Int)<=2/\(5:Nat)<6/\prePower (x,sqrF es,())/\True /\
  (((!decide (zpw x (val (sqrF es))*zpw x (val (sqrF es))=x))=true->(((0:Fp),false,())=outSqrt (x,()))) /\
   ((!decide (zpw x (val (sqrF es))*zpw x (val (sqrF es))=x))=false->((zpw x (val (sqrF es)),true,())=outSqrt (x,())))))) (by kernel_rfl) ?_
 rw[hv]
 refine⟨by decide,by decide,hw,trivial,fun h=>?_,fun h=>?_⟩
 ·have h:¬ zpw x p14*zpw x p14=x:=by simpa using h
  simp[outSqrt,fpSqrt,h]
 ·have h:zpw x p14*zpw x p14=x:=by simpa using h
  simp[outSqrt,fpSqrt,h]
def spSqrt:Nat × Eng.Spec:=(166,fnSpec [.fp] [.val .fp,.val .bool] (fun _=>True) outSqrt)
end
end Go.Proofs.YtbeeaekepmnfhaaGreatDoor.fp
