import Derived.Test.YtbeeaekepmnfhaaGreatDoorML15cPM
set_option maxRecDepth 100000
namespace Go.Proofs.YtbeeaekepmnfhaaGreatDoor.fp
open Go Go.Eng Go.RowKit Cr Go.Proofs.YtbeeaekepmnfhaaGreatDoor
theorem ent_shift:enters Tryz.prog 141 Tryz.f141:=ek
noncomputable def shI (t:Nat) (g:Int × Fp):St:=mkSt Tryz.f141.ntmps 40 [(0,.is (.one (.ptr 0 0))),(1,.is (.one (.ptr 16 0))),(t,sI .i64 g.1)] [(16,[.row .fp 1 [g.2]]),(0,[.row .fp 1 [(0:Fp)]])]
def dbls:Nat->Fp
 | 0=>1
 | k+1=>dbls k+dbls k
def sqs (x:Fp):Nat->Fp
 | 0=>x
 | k+1=>sqs x k*sqs x k
theorem fn_shift:FnOk Tryz.prog 141 [] [.val .fp] noG (fun _=>True) (fun _=>((R2:Fp),())):=by
 have hsp:SpecsOk Tryz.prog (sps [spOne,spAdd,spSquare]):=spk (fok fn_one) (spk (fok fn_add) (spk (fok fn_square) snl))
 refine fn_of_tr (sp:=sps [spOne,spAdd,spSquare]) ent_shift (by decide) (by decide) (by kernel_rfl) ?_
 rintro w M0 ⟨⟩ _ _
 show Tr _ _ _ _ _ _ _
 refine tr_cut hsp mixed 3 (shI 3 (0,1)) True ?_ (fun _=>?_)
 ·refine vcx (X:=True/\(shI 3 (0,1)).triv True) (by kernel_rfl) ⟨trivial,tvi trivial⟩
 refine tr_count hsp mixed (shI 3) (fun k=>((k:Int),dbls k)) 3 (fun g=>(IntKind.i64.wrap (g.1+1),g.2+g.2)) (shI 3) (c:=nthC (codeOf Tryz.f141) 3) (by kernel_rfl) (by kernel_rfl) (le_of_proj (by kernel_rfl) (by kernel_rfl) trivial)
  (fun k hk=>by show (_,_)=(_,_);rw[wrap_succ (by omega)];rfl) ?_ ?_
 ·intro k hk
  refine vcx (X:=((decide ((k:Int)<3)=true->True/\(shI 3 (IntKind.i64.wrap ((k:Int)+1),dbls k+dbls k)).triv (k<3))/\(decide ((k:Int)<3)=false->(shI 3 ((k:Int),dbls k)).triv (k=3)))) (by kernel_rfl) ?_
  exact⟨fun h=>⟨trivial,tvi (by have:=dec_lt h;omega)⟩,fun h=>tvi (by have:=dec_ge h;omega)⟩
 refine tr_cut hsp mixed 1 (shI 9 (0,dbls 3)) True ?_ (fun _=>?_)
 ·refine vcx (X:=(shI 9 (0,dbls 3)).triv True) (by kernel_rfl) (tvi trivial)
 refine tr_count hsp mixed (shI 9) (fun k=>((k:Int),sqs (dbls 3) k)) 7 (fun g=>(IntKind.i64.wrap (g.1+1),g.2*g.2)) (shI 9) (c:=nthC (codeOf Tryz.f141) 5) (by kernel_rfl) (by kernel_rfl) (le_of_proj (by kernel_rfl) (by kernel_rfl) trivial)
  (fun k hk=>by show (_,_)=(_,_);rw[wrap_succ (by omega)];rfl) ?_ ?_
 ·intro k hk
  refine vcx (X:=((decide ((k:Int)<7)=true->True/\(shI 9 (IntKind.i64.wrap ((k:Int)+1),sqs (dbls 3) k*sqs (dbls 3) k)).triv (k<7))/\(decide ((k:Int)<7)=false->(shI 9 ((k:Int),sqs (dbls 3) k)).triv (k=7)))) (by kernel_rfl) ?_
  exact⟨fun h=>⟨trivial,tvi (by have:=dec_lt h;omega)⟩,fun h=>tvi (by have:=dec_ge h;omega)⟩
 refine tr_vc hsp mixed _ _ ?_
 refine vcx (X:=(sqs (dbls 3) 7,())=((R2:Fp),())) (by kernel_rfl) ?_
 rw[show sqs (dbls 3) 7=R2 from Zm.ext (by decide)]
noncomputable def spShift:Nat × Eng.Spec:=(141,fnSpec [] [.val .fp] (fun _=>True) (fun _=>((R2:Fp),())))
theorem ent_of:enters Tryz.prog 95 Tryz.f95:=ek
abbrev outOf:HL [.int .u64]->HO [.val .fp]:=fun (n,_)=>((zm n:Fp),())
theorem fn_of:FnOk Tryz.prog 95 [.int .u64] [.val .fp] noG (fun (n,_)=>U64 n) outOf:=by
 refine fn_of_vc (sp:=sps [spShift,spTimes]) (spk (fok fn_shift) (spk (fok fn_times) snl)) mixed ent_of (by decide) (by decide) ?_
 rintro w M0 ⟨n,⟨⟩⟩ _ hn
 refine vcx (X:=(True/\preTimes (enc (R2:Fp),[n,0,0,0,0,0],())/\Canon Mp (lim 6 (val (enc (R2:Fp))*val [n,0,0,0,0,0]*rinv%M))/\(dec (lim 6 (val (enc (R2:Fp))*val [n,0,0,0,0,0]*rinv%M)),())=outOf (n,()))) (by kernel_rfl) ?_
 rw[show lim 6 (val (enc (R2:Fp))*val [n,0,0,0,0,0]*rinv%M)=enc (zm (val [n,0,0,0,0,0]):Fp) from shift_enc (M:=Mp)]
 refine⟨trivial,⟨enc_ws _,?_,(enc_canon _).2.2⟩,enc_canon _,?_⟩
 ·intro x hx
  rcases List.mem_cons.1 hx with rfl|hx
  ·exact hn
  ·simp at hx;subst hx;exact⟨by decide,by decide⟩
 ·rw[dec_enc];simp[val,outOf]
noncomputable def spOf:Nat × Eng.Spec:=(95,fnSpec [.int .u64] [.val .fp] (fun (n,_)=>U64 n) outOf)
end Go.Proofs.YtbeeaekepmnfhaaGreatDoor.fp
namespace Go.Proofs.YtbeeaekepmnfhaaGreatDoor.fr
open Go Go.Eng Go.RowKit Cr Go.Proofs.YtbeeaekepmnfhaaGreatDoor
theorem ent_shift:enters Tryz.prog 44 Tryz.f44:=ek
noncomputable def shI (t:Nat) (g:Int × Fr):St:=mkSt Tryz.f44.ntmps 56 [(0,.is (.one (.ptr 0 0))),(1,.is (.one (.ptr 32 0))),(t,sI .i64 g.1)] [(32,[.row .fr 1 [g.2]]),(0,[.row .fr 1 [(0:Fr)]])]
def sqs (x:Fr):Nat->Fr
 | 0=>x
 | k+1=>sqs x k*sqs x k
theorem fn_shift:FnOk Tryz.prog 44 [] [.val .fr] noG (fun _=>True) (fun _=>((R2:Fr),())):=by
 have hsp:SpecsOk Tryz.prog (sps [spOne,spAdd,spSquare]):=spk (fok fn_one) (spk (fok fn_add) (spk (fok fn_square) snl))
 refine fn_of_tr (sp:=sps [spOne,spAdd,spSquare]) ent_shift (by decide) (by decide) (by kernel_rfl) ?_
 rintro w M0 ⟨⟩ _ _
 show Tr _ _ _ _ _ _ _
 refine tr_cut hsp mixed 3 (shI 5 (0,1+1)) True ?_ (fun _=>?_)
 ·refine vcx (X:=True/\True/\True/\(shI 5 (0,1+1)).triv True) (by kernel_rfl) ⟨trivial,trivial,trivial,tvi trivial⟩
 refine tr_count hsp mixed (shI 5) (fun k=>((k:Int),sqs (1+1) k)) 8 (fun g=>(IntKind.i64.wrap (g.1+1),g.2*g.2)) (shI 5) (c:=nthC (codeOf Tryz.f44) 3) (by kernel_rfl) (by kernel_rfl) (le_of_proj (by kernel_rfl) (by kernel_rfl) trivial)
  (fun k hk=>by show (_,_)=(_,_);rw[wrap_succ (by omega)];rfl) ?_ ?_
 ·intro k hk
  refine vcx (X:=((decide ((k:Int)<8)=true->True/\(shI 5 (IntKind.i64.wrap ((k:Int)+1),sqs (1+1) k*sqs (1+1) k)).triv (k<8))/\(decide ((k:Int)<8)=false->(shI 5 ((k:Int),sqs (1+1) k)).triv (k=8)))) (by kernel_rfl) ?_
  exact⟨fun h=>⟨trivial,tvi (by have:=dec_lt h;omega)⟩,fun h=>tvi (by have:=dec_ge h;omega)⟩
 refine tr_vc hsp mixed _ _ ?_
 refine vcx (X:=(sqs (1+1) 8,())=((R2:Fr),())) (by kernel_rfl) ?_
 rw[show sqs (1+1) 8=R2 from Zm.ext (by decide)]
noncomputable def spShift:Nat × Eng.Spec:=(44,fnSpec [] [.val .fr] (fun _=>True) (fun _=>((R2:Fr),())))
theorem ent_of:enters Tryz.prog 11 Tryz.f11:=ek
abbrev outOf:HL [.int .u64]->HO [.val .fr]:=fun (n,_)=>((zm n:Fr),())
theorem fn_of:FnOk Tryz.prog 11 [.int .u64] [.val .fr] noG (fun (n,_)=>U64 n) outOf:=by
 refine fn_of_vc (sp:=sps [spShift,spTimes]) (spk (fok fn_shift) (spk (fok fn_times) snl)) mixed ent_of (by decide) (by decide) ?_
 rintro w M0 ⟨n,⟨⟩⟩ _ hn
 refine vcx (X:=(True/\preTimes (enc (R2:Fr),[n,0,0,0],())/\Canon Mr (lim 4 (val (enc (R2:Fr))*val [n,0,0,0]*rinv%M))/\(dec (lim 4 (val (enc (R2:Fr))*val [n,0,0,0]*rinv%M)),())=outOf (n,()))) (by kernel_rfl) ?_
 rw[show lim 4 (val (enc (R2:Fr))*val [n,0,0,0]*rinv%M)=enc (zm (val [n,0,0,0]):Fr) from shift_enc (M:=Mr)]
 refine⟨trivial,⟨enc_ws _,?_,(enc_canon _).2.2⟩,enc_canon _,?_⟩
 ·intro x hx
  rcases List.mem_cons.1 hx with rfl|hx
  ·exact hn
  ·simp at hx;subst hx;exact⟨by decide,by decide⟩
 ·rw[dec_enc];simp[val,outOf]
noncomputable def spOf:Nat × Eng.Spec:=(11,fnSpec [.int .u64] [.val .fr] (fun (n,_)=>U64 n) outOf)
end Go.Proofs.YtbeeaekepmnfhaaGreatDoor.fr
namespace Go.Eng
open Go Cr
theorem wrap_u8 (a:Int):IntKind.u8.wrap a=a%256:=by simp[IntKind.wrap,IntKind.signed,IntKind.bits]
theorem wrap_u64' (a:Int):IntKind.u64.wrap a=a%18446744073709551616:=by simp[IntKind.wrap,IntKind.signed,IntKind.bits]
def wk (n i:Int):Int:=IntKind.i64.wrap (IntKind.i64.wrap (n-1)-i)
def wj (n i:Int):Int:=IntKind.i64.wrap ((wk n i).tdiv 8)
def wsh (n i:Int):Int:=IntKind.i64.wrap (8*(wk n i).tmod 8)
def wput (ws:List Int) (n i v:Int):List Int :=
 ws.set (wj n i).toNat (bitOp .or .u64 (ws.getD (wj n i).toNat 0) (IntKind.u64.wrap (IntKind.u64.wrap v*2^(min (wsh n i).toNat IntKind.u64.bits))))
theorem wk_eq {len k:Nat} (h:k<len) (hl:len<1000000):wk len k=((len-1-k:Nat):Int):=by
 unfold wk
 rw[wrap_i64' (a:=(len:Int)-1) (by omega) (by omega),wrap_i64' (by omega) (by omega)]
 omega
theorem wj_eq {len k:Nat} (h:k<len) (hl:len<1000000):wj len k=(((len-1-k)/8:Nat):Int):=by
 unfold wj
 rw[wk_eq h hl,Int.tdiv_eq_ediv_of_nonneg (by omega),wrap_i64' (by omega) (by omega)]
 omega
theorem wsh_eq {len k:Nat} (h:k<len) (hl:len<1000000):wsh len k=((8*((len-1-k)%8):Nat):Int):=by
 unfold wsh
 rw[wk_eq h hl,Int.tmod_eq_emod_of_nonneg (by omega),wrap_i64' (by omega) (by omega)]
 omega
theorem or_u64 (c t y:Nat) (h:y<2^t) (hlt:c*2^t+y<18446744073709551616):bitOp .or .u64 ((c*2^t:Nat):Int) (y:Int)=((c*2^t+y:Nat):Int):=by
 show IntKind.u64.wrap ((BitVec.ofInt 64 ((c*2^t:Nat):Int) ||| BitVec.ofInt 64 (y:Int):BitVec 64).toNat:Int)=_
 have h1:(BitVec.ofInt 64 ((c*2^t:Nat):Int)).toNat=c*2^t:=by
  rw[show BitVec.ofInt 64 ((c*2^t:Nat):Int)=BitVec.ofNat 64 (c*2^t) from BitVec.ofInt_natCast ..,BitVec.toNat_ofNat,Nat.mod_eq_of_lt (by omega)]
 have h2:(BitVec.ofInt 64 (y:Int)).toNat=y:=by
  rw[show BitVec.ofInt 64 (y:Int)=BitVec.ofNat 64 y from BitVec.ofInt_natCast ..,BitVec.toNat_ofNat,Nat.mod_eq_of_lt (by omega)]
 rw[BitVec.toNat_or,h1,h2]
 have h3:=Nat.shiftLeft_add_eq_or_of_lt h c
 rw[Nat.shiftLeft_eq] at h3
 rw[<- h3,wrap_u64']
 omega
theorem wput_ok {n:Nat} {bs:List Int} (hb:Bs bs) (hl:bs.length<=8*n) (hs:bs.length<1000000) {k:Nat} (hk:k<bs.length) :
  wput (lim n (num (bs.take k)*p256 (bs.length-k))) bs.length k (bs.getD k 0)=lim n (num (bs.take (k+1))*p256 (bs.length-(k+1))):=by
 unfold wput
 rw[wj_eq hk hs,wsh_eq hk hs]
 simp only[Int.toNat_natCast]
 have hv:0<=bs.getD k 0/\bs.getD k 0<256:=by
  have:=hb (bs.getD k 0) (by simp[hk])
  exact this
 rw[num_take_succ hk]
 generalize hq:bs.length-1-k=q at *
 generalize bs.getD k 0=v at *
 have hN:=(num_bd (Bs_take hb k)).1
 have e1:bs.length-k=q+1:=by omega
 have e2:bs.length-(k+1)=q:=by omega
 rw[e1,e2]
 generalize num (bs.take k)=N at *
 have hj:q/8<n:=by omega
 rw[lim_get _ _ _ hj,word_at]
 obtain⟨c,h1,h2,h3,h4⟩:=or_word (N:=N) (v:=v) (q:=q%8) hv.1 hv.2 (by omega)
 have hsh:IntKind.u64.wrap (IntKind.u64.wrap v*2^min (8*(q%8)) IntKind.u64.bits)=v*p256 (q%8):=by
  rw[show IntKind.u64.bits=64 from rfl,Nat.min_eq_left (by omega),wrap_u64' v,Int.emod_eq_of_lt hv.1 (by omega),p256_pow,wrap_u64']
  have e:((2^(8*(q%8)):Nat):Int)=(2:Int)^(8*(q%8)):=by simp
  rw[<- e,<- p256_pow]
  exact Int.emod_eq_of_lt h3 (by have:=Int.emod_nonneg (N*p256 (q%8+1)) (show (18446744073709551616:Int)≠0 by decide);omega)
 rw[hsh]
 have hor:bitOp .or .u64 (N*p256 (q%8+1)%18446744073709551616) (v*p256 (q%8))=N*p256 (q%8+1)%18446744073709551616+v*p256 (q%8):=by
  obtain⟨y,hy⟩:=Int.eq_ofNat_of_zero_le h3
  rw[h1,hy] at h4 ⊢
  rw[hy,p256_pow] at h2
  have:=or_u64 c (8*(q%8+1)) y (by omega) (by omega)
  rw[this]
  omega
 rw[hor]
 have hset:=lim_set n (q/8) (N*p256 (q+1)) (v*p256 (q%8)) hj h3 (by rw[lim_get _ _ _ hj,word_at];exact h4)
 rw[lim_get _ _ _ hj,word_at] at hset
 rw[hset]
 congr 1
 rw[Int.add_mul,Int.mul_assoc,Int.mul_assoc,<- p256_8,<- p256_add]
 rw[show q%8+8*(q/8)=q by omega]
 rfl
theorem wput_bd {n:Nat} {bs:List Int} (hl:bs.length<=8*n) (hs:bs.length<1000000) {k:Nat} (hk:k<bs.length) :
  (0<=wj bs.length k/\wj bs.length k<(n:Int))/\(wj bs.length k).toNat<n/\0<=wsh bs.length k:=by
 rw[wj_eq hk hs,wsh_eq hk hs]
 exact⟨⟨by omega,by omega⟩,by omega,by omega⟩
theorem words_zero (n:Nat) (bs:List Int):lim n (num (bs.take 0)*p256 (bs.length-0))=List.replicate n 0:=by
 rw[show num (bs.take 0)=0 from rfl,Int.zero_mul,lim_zero]
def bj (n i:Int):Int:=IntKind.i64.wrap (n-IntKind.i64.wrap (i.tdiv 8))
def bsh (i:Int):Int:=IntKind.i64.wrap (56-IntKind.i64.wrap (8*i.tmod 8))
def bget (n:Int) (ws:List Int) (i:Int):Int:=IntKind.u8.wrap (Int.fdiv (ws.getD (bj n i).toNat 0) (2^min (bsh i).toNat IntKind.u64.bits))
theorem bj_eq {n k:Nat} (h:k<8*(n+1)) (hn:n<1000):bj n k=((n-k/8:Nat):Int):=by
 unfold bj
 rw[Int.tdiv_eq_ediv_of_nonneg (by omega),wrap_i64' (a:=(k:Int)/8) (by omega) (by omega),wrap_i64' (by omega) (by omega)]
 omega
theorem bsh_eq {k:Nat}:bsh k=((8*(7-k%8):Nat):Int):=by
 unfold bsh
 rw[Int.tmod_eq_emod_of_nonneg (by omega),wrap_i64' (a:=8*((k:Int)%8)) (by omega) (by omega),wrap_i64' (by omega) (by omega)]
 omega
theorem bget_ok {n k:Nat} {N:Int} (h:k<8*(n+1)) (hn:n<1000):bget n (lim (n+1) N) k=N/p256 (8*(n+1)-1-k)%256:=by
 unfold bget
 rw[bj_eq h hn,bsh_eq,wrap_u8]
 simp only[Int.toNat_natCast]
 rw[show IntKind.u64.bits=64 from rfl,Nat.min_eq_left (by omega)]
 have e:(2:Int)^(8*(7-k%8))=p256 (7-k%8):=by rw[p256_pow];simp
 rw[e,Int.fdiv_eq_ediv_of_nonneg _ (Int.le_of_lt (p256_pos _))]
 have:=byte_at (n:=n+1) (N:=N) (i:=k) h
 rw[show n+1-1-k/8=n-k/8 by omega] at this
 exact this
theorem bget_bd {n k:Nat} (h:k<8*(n+1)) (hn:n<1000):(0<=bj n k/\bj n k<((n+1:Nat):Int))/\(bj n k).toNat<n+1/\0<=bsh k:=by
 rw[bj_eq h hn,bsh_eq]
 exact⟨⟨by omega,by omega⟩,by omega,by omega⟩
def bytesAt (m:Nat) (N:Int) (k:Nat):List Int:=(bytesN m N).take k++List.replicate (m-k) 0
theorem bytesAt_zero (m:Nat) (N:Int):bytesAt m N 0=List.replicate m 0:=by simp[bytesAt]
theorem bytesAt_all (m:Nat) (N:Int):bytesAt m N m=bytesN m N:=by simp[bytesAt,List.take_of_length_le,bytesN_length]
theorem bytesAt_succ {m:Nat} {N:Int} {k:Nat} (h:k<m):(bytesAt m N k).set k (N/p256 (m-1-k)%256)=bytesAt m N (k+1):=by
 unfold bytesAt
 have hl:((bytesN m N).take k).length=k:=by simp[bytesN_length];omega
 rw[List.set_append_right _ _ (by omega),hl,Nat.sub_self]
 rw[show m-k=(m-(k+1))+1 by omega,List.replicate_succ,List.set_cons_zero]
 rw[List.take_succ_eq_append_getElem (by rw[bytesN_length];exact h)]
 simp[bytesN]
end Go.Eng
namespace Go.Proofs.YtbeeaekepmnfhaaGreatDoor.fp
open Go Go.Eng Go.RowKit Cr Go.Proofs.YtbeeaekepmnfhaaGreatDoor
theorem ent_words:enters Tryz.prog 170 Tryz.f170:=ek
noncomputable def wordsI (bs:List Int) (g:Int × List Int):St:=mkSt Tryz.f170.ntmps 40 [(0,.is (.one (.ro (.int .u8) bs))),(2,.is (.one (.ptr 0 0))),(3,.is (.one (.ptr 8 0))),(7,.is (.one (.ro (.int .u8) bs))),(8,sI .i64 bs.length),(9,sI .i64 g.1)] [(8,[.ints .u64 6 g.2]),(0,[.ints .u64 6 (zeros 6)])]
abbrev preWords:HL [.sl (.int .u8)]->Prop:=fun (bs,_)=>Bs bs/\List.length bs<=48
abbrev outWords:HL [.sl (.int .u8)]->HO [.val (.arr 6 (.int .u64))]:=fun (bs,_)=>(lim 6 (num bs),())
theorem fn_words:FnOk Tryz.prog 170 [.sl (.int .u8)] [.val (.arr 6 (.int .u64))] noG preWords outWords:=by
 refine fn_of_tr (sp:=sps []) ent_words (by decide) (by decide) (by kernel_rfl) ?_
 have hsp:SpecsOk Tryz.prog (sps []):=snl
 rintro w M0 ⟨bs,⟨⟩⟩ _ ⟨hb,hl⟩
 have hb:Bs bs:=hb
 have hl:List.length bs<=48:=hl
 show Tr _ _ _ _ _ _ _
 refine tr_cut hsp mixed 3 (wordsI bs (0,List.replicate 6 0)) True ?_ (fun _=>?_)
 ·refine vcx (X:=(wordsI bs (0,List.replicate 6 0)).triv True) (by kernel_rfl) (tvi trivial)
 rw[<- words_zero 6 bs]
 refine tr_count hsp mixed (wordsI bs) (fun k=>((k:Int),lim 6 (num (List.take k bs)*p256 (List.length bs-k)))) bs.length (fun g=>(IntKind.i64.wrap (g.1+1),wput g.2 bs.length g.1 (bs.getD g.1.toNat 0))) (wordsI bs) (c:=nthC (codeOf Tryz.f170) 3) (by kernel_rfl) (by kernel_rfl) (le_of_proj (by kernel_rfl) (by kernel_rfl) trivial)
  (fun k hk=>by
   show (_,_)=(_,_)
   rw[wrap_succ (by omega),Int.toNat_natCast,wput_ok hb hl (by omega) hk]) ?_ ?_
 ·intro k hk
  refine vcx (X:=((decide ((k:Int)<(bs.length:Int))=true->(0<=(k:Int)/\(k:Int)<(bs.length:Int))/\(k:Int).toNat<bs.length/\(8:Int)≠0/\(0<=wj bs.length k/\wj bs.length k<((6:Nat):Int))/\(wj bs.length k).toNat<6/\(8:Int)≠0/\0<=wsh bs.length k/\(0<=wj bs.length k/\wj bs.length k<((6:Nat):Int))/\(wj bs.length k).toNat<6 /\
    (wordsI bs (IntKind.i64.wrap ((k:Int)+1),wput (lim 6 (num (List.take k bs)*p256 (List.length bs-k))) bs.length k (bs.getD (k:Int).toNat 0))).triv (k<bs.length)) /\
   (decide ((k:Int)<(bs.length:Int))=false->(wordsI bs ((k:Int),lim 6 (num (List.take k bs)*p256 (List.length bs-k)))).triv (k=bs.length)))) (by kernel_rfl) ?_
  refine⟨fun h=>?_,fun h=>tvi (by have:=dec_ge h;omega)⟩
  have hlt:k<bs.length:=by have:=dec_lt h;omega
  obtain⟨b1,b2,b3⟩:=wput_bd (n:=6) hl (by omega) hlt
  exact⟨⟨by omega,by omega⟩,by omega,by decide,b1,b2,by decide,b3,b1,b2,tvi hlt⟩
 refine tr_vc hsp mixed _ _ ?_
 refine vcx (X:=((lim 6 (num (List.take bs.length bs)*p256 (List.length bs-bs.length)),()):List Int × Unit)=outWords (bs,())) (by kernel_rfl) ?_
 rw[List.take_length,Nat.sub_self,p256,Int.mul_one]
noncomputable def spWords:Nat × Eng.Spec:=(170,fnSpec [.sl (.int .u8)] [.val (.arr 6 (.int .u64))] preWords outWords)
theorem ent_plain:enters Tryz.prog 199 Tryz.f199:=ek
abbrev outPlain:HL [.fp]->HO [.val (.arr 6 (.int .u64))]:=fun (x,_)=>(lim 6 (Zm.v (x:Fp)),())
theorem fn_plain:FnOk Tryz.prog 199 [.fp] [.val (.arr 6 (.int .u64))] noG (fun _=>True) outPlain:=by
 refine fn_of_vc (sp:=sps [spTimes]) (spk (fok fn_times) snl) mixed ent_plain (by decide) (by decide) ?_
 rintro w M0 ⟨x,⟨⟩⟩ _ _
 refine vcx (X:=(preTimes (enc x,[1,0,0,0,0,0],())/\((lim 6 (val (enc x)*val [1,0,0,0,0,0]*rinv%M),()):List Int × Unit)=outPlain (x,()))) (by kernel_rfl) ?_
 refine⟨⟨enc_ws x,by intro y hy;simp at hy;rcases hy with rfl|rfl<;>exact⟨by decide,by decide⟩,(enc_canon x).2.2⟩,?_⟩
 rw[show lim 6 (val (enc x)*val [1,0,0,0,0,0]*rinv%M)=lim 6 x.v from plain_enc x (by decide)]
noncomputable def spPlain:Nat × Eng.Spec:=(199,fnSpec [.fp] [.val (.arr 6 (.int .u64))] (fun _=>True) outPlain)
theorem ent_bytes:enters Tryz.prog 163 Tryz.f163:=ek
noncomputable def bytesI (ws:List Int) (g:Int × List Int):St:=mkSt Tryz.f163.ntmps 64 [(2,.is (.one (.ptr 8 0))),(3,.is (.one (.ptr 16 0))),(4,.is (.one (.ptr 40 0))),(8,sI .i64 g.1)] [(8,[.ints .u8 48 (zeros 48)]),(16,[.ints .u8 48 g.2]),(40,[.ints .u64 6 ws])]
abbrev outBytes:HL [.fp]->HO [.val (.arr 48 (.int .u8))]:=fun (x,_)=>(bytesN 48 (Zm.v (x:Fp)),())
theorem fn_bytes:FnOk Tryz.prog 163 [.fp] [.val (.arr 48 (.int .u8))] noG (fun _=>True) outBytes:=by
 have hsp:SpecsOk Tryz.prog (sps [spPlain]):=spk (fok fn_plain) snl
 refine fn_of_tr (sp:=sps [spPlain]) ent_bytes (by decide) (by decide) (by kernel_rfl) ?_
 rintro w M0 ⟨x,⟨⟩⟩ _ _
 show Tr _ _ _ _ _ _ _
 refine tr_cut hsp mixed 4 (bytesI (lim 6 x.v) (0,List.replicate 48 0)) True ?_ (fun _=>?_)
 ·refine vcx (X:=True/\(bytesI (lim 6 x.v) (0,List.replicate 48 0)).triv True) (by kernel_rfl) ⟨trivial,tvi trivial⟩
 rw[<- bytesAt_zero 48 x.v]
 refine tr_count hsp mixed (bytesI (lim 6 x.v)) (fun k=>((k:Int),bytesAt 48 x.v k)) 48 (fun g=>(IntKind.i64.wrap (g.1+1),g.2.set g.1.toNat (bget (5:Nat) (lim 6 x.v) g.1))) (bytesI (lim 6 x.v)) (c:=nthC (codeOf Tryz.f163) 4) (by kernel_rfl) (by kernel_rfl) (le_of_proj (by kernel_rfl) (by kernel_rfl) trivial)
  (fun k hk=>by
   show (_,_)=(_,_)
   rw[wrap_succ (by omega),Int.toNat_natCast,bget_ok (n:=5) hk (by omega),bytesAt_succ hk]) ?_ ?_
 ·intro k hk
  refine vcx (X:=((decide ((k:Int)<48)=true->(8:Int)≠0/\(0<=bj (5:Nat) k/\bj (5:Nat) k<((6:Nat):Int))/\(bj (5:Nat) k).toNat<6/\(8:Int)≠0/\0<=bsh k/\(0<=(k:Int)/\(k:Int)<((48:Nat):Int))/\(k:Int).toNat<48 /\
    (bytesI (lim 6 x.v) (IntKind.i64.wrap ((k:Int)+1),(bytesAt 48 x.v k).set (k:Int).toNat (bget (5:Nat) (lim 6 x.v) k))).triv (k<48)) /\
   (decide ((k:Int)<48)=false->(bytesI (lim 6 x.v) ((k:Int),bytesAt 48 x.v k)).triv (k=48)))) (by kernel_rfl) ?_
  refine⟨fun h=>?_,fun h=>tvi (by have:=dec_ge h;omega)⟩
  have hlt:k<48:=by have:=dec_lt h;omega
  obtain⟨b1,b2,b3⟩:=bget_bd (n:=5) hlt (by omega)
  exact⟨by decide,b1,b2,by decide,b3,⟨by omega,by omega⟩,by omega,tvi hlt⟩
 refine tr_vc hsp mixed _ _ ?_
 refine vcx (X:=((bytesAt 48 x.v 48,()):List Int × Unit)=outBytes (x,())) (by kernel_rfl) ?_
 rw[bytesAt_all]
noncomputable def spBytes:Nat × Eng.Spec:=(163,fnSpec [.fp] [.val (.arr 48 (.int .u8))] (fun _=>True) outBytes)
end Go.Proofs.YtbeeaekepmnfhaaGreatDoor.fp
namespace Go.Proofs.YtbeeaekepmnfhaaGreatDoor.fr
open Go Go.Eng Go.RowKit Cr Go.Proofs.YtbeeaekepmnfhaaGreatDoor
theorem ent_words:enters Tryz.prog 57 Tryz.f57:=ek
noncomputable def wordsI (bs:List Int) (g:Int × List Int):St:=mkSt Tryz.f57.ntmps 40 [(0,.is (.one (.ro (.int .u8) bs))),(2,.is (.one (.ptr 0 0))),(3,.is (.one (.ptr 8 0))),(7,.is (.one (.ro (.int .u8) bs))),(8,sI .i64 bs.length),(9,sI .i64 g.1)] [(8,[.ints .u64 4 g.2]),(0,[.ints .u64 4 (zeros 4)])]
abbrev preWords:HL [.sl (.int .u8)]->Prop:=fun (bs,_)=>Bs bs/\List.length bs<=32
abbrev outWords:HL [.sl (.int .u8)]->HO [.val (.arr 4 (.int .u64))]:=fun (bs,_)=>(lim 4 (num bs),())
theorem fn_words:FnOk Tryz.prog 57 [.sl (.int .u8)] [.val (.arr 4 (.int .u64))] noG preWords outWords:=by
 refine fn_of_tr (sp:=sps []) ent_words (by decide) (by decide) (by kernel_rfl) ?_
 have hsp:SpecsOk Tryz.prog (sps []):=snl
 rintro w M0 ⟨bs,⟨⟩⟩ _ ⟨hb,hl⟩
 have hb:Bs bs:=hb
 have hl:List.length bs<=32:=hl
 show Tr _ _ _ _ _ _ _
 refine tr_cut hsp mixed 3 (wordsI bs (0,List.replicate 4 0)) True ?_ (fun _=>?_)
 ·refine vcx (X:=(wordsI bs (0,List.replicate 4 0)).triv True) (by kernel_rfl) (tvi trivial)
 rw[<- words_zero 4 bs]
 refine tr_count hsp mixed (wordsI bs) (fun k=>((k:Int),lim 4 (num (List.take k bs)*p256 (List.length bs-k)))) bs.length (fun g=>(IntKind.i64.wrap (g.1+1),wput g.2 bs.length g.1 (bs.getD g.1.toNat 0))) (wordsI bs) (c:=nthC (codeOf Tryz.f57) 3) (by kernel_rfl) (by kernel_rfl) (le_of_proj (by kernel_rfl) (by kernel_rfl) trivial)
  (fun k hk=>by
   show (_,_)=(_,_)
   rw[wrap_succ (by omega),Int.toNat_natCast,wput_ok hb hl (by omega) hk]) ?_ ?_
 ·intro k hk
  refine vcx (X:=((decide ((k:Int)<(bs.length:Int))=true->(0<=(k:Int)/\(k:Int)<(bs.length:Int))/\(k:Int).toNat<bs.length/\(8:Int)≠0/\(0<=wj bs.length k/\wj bs.length k<((4:Nat):Int))/\(wj bs.length k).toNat<4/\(8:Int)≠0/\0<=wsh bs.length k/\(0<=wj bs.length k/\wj bs.length k<((4:Nat):Int))/\(wj bs.length k).toNat<4 /\
    (wordsI bs (IntKind.i64.wrap ((k:Int)+1),wput (lim 4 (num (List.take k bs)*p256 (List.length bs-k))) bs.length k (bs.getD (k:Int).toNat 0))).triv (k<bs.length)) /\
   (decide ((k:Int)<(bs.length:Int))=false->(wordsI bs ((k:Int),lim 4 (num (List.take k bs)*p256 (List.length bs-k)))).triv (k=bs.length)))) (by kernel_rfl) ?_
  refine⟨fun h=>?_,fun h=>tvi (by have:=dec_ge h;omega)⟩
  have hlt:k<bs.length:=by have:=dec_lt h;omega
  obtain⟨b1,b2,b3⟩:=wput_bd (n:=4) hl (by omega) hlt
  exact⟨⟨by omega,by omega⟩,by omega,by decide,b1,b2,by decide,b3,b1,b2,tvi hlt⟩
 refine tr_vc hsp mixed _ _ ?_
 refine vcx (X:=((lim 4 (num (List.take bs.length bs)*p256 (List.length bs-bs.length)),()):List Int × Unit)=outWords (bs,())) (by kernel_rfl) ?_
 rw[List.take_length,Nat.sub_self,p256,Int.mul_one]
noncomputable def spWords:Nat × Eng.Spec:=(57,fnSpec [.sl (.int .u8)] [.val (.arr 4 (.int .u64))] preWords outWords)
theorem ent_bytes:enters Tryz.prog 60 Tryz.f60:=ek
noncomputable def bytesI (ws:List Int) (g:Int × List Int):St:=mkSt Tryz.f60.ntmps 80 [(2,.is (.one (.ptr 8 0))),(3,.is (.one (.ptr 16 0))),(4,.is (.one (.ptr 56 0))),(10,sI .i64 g.1)] [(8,[.ints .u8 32 (zeros 32)]),(16,[.ints .u8 32 g.2]),(56,[.ints .u64 4 ws])]
abbrev outBytes:HL [.fr]->HO [.val (.arr 32 (.int .u8))]:=fun (x,_)=>(bytesN 32 (Zm.v (x:Fr)),())
theorem fn_bytes:FnOk Tryz.prog 60 [.fr] [.val (.arr 32 (.int .u8))] noG (fun _=>True) outBytes:=by
 have hsp:SpecsOk Tryz.prog (sps [spTimes]):=spk (fok fn_times) snl
 refine fn_of_tr (sp:=sps [spTimes]) ent_bytes (by decide) (by decide) (by kernel_rfl) ?_
 rintro w M0 ⟨x,⟨⟩⟩ _ _
 show Tr _ _ _ _ _ _ _
 refine tr_cut hsp mixed 4 (bytesI (lim 4 (val (enc x)*val [1,0,0,0]*rinv%M)) (0,List.replicate 32 0)) True ?_ (fun _=>?_)
 ·refine vcx (X:=preTimes (enc x,[1,0,0,0],())/\(bytesI (lim 4 (val (enc x)*val [1,0,0,0]*rinv%M)) (0,List.replicate 32 0)).triv True) (by kernel_rfl) ⟨⟨enc_ws x,by intro y hy;simp at hy;rcases hy with rfl|rfl<;>exact⟨by decide,by decide⟩,(enc_canon x).2.2⟩,tvi trivial⟩
 rw[show lim 4 (val (enc x)*val [1,0,0,0]*rinv%M)=lim 4 x.v from plain_enc x (by decide)]
 rw[<- bytesAt_zero 32 x.v]
 refine tr_count hsp mixed (bytesI (lim 4 x.v)) (fun k=>((k:Int),bytesAt 32 x.v k)) 32 (fun g=>(IntKind.i64.wrap (g.1+1),g.2.set g.1.toNat (bget (3:Nat) (lim 4 x.v) g.1))) (bytesI (lim 4 x.v)) (c:=nthC (codeOf Tryz.f60) 4) (by kernel_rfl) (by kernel_rfl) (le_of_proj (by kernel_rfl) (by kernel_rfl) trivial)
  (fun k hk=>by
   show (_,_)=(_,_)
   rw[wrap_succ (by omega),Int.toNat_natCast,bget_ok (n:=3) hk (by omega),bytesAt_succ hk]) ?_ ?_
 ·intro k hk
  refine vcx (X:=((decide ((k:Int)<32)=true->(8:Int)≠0/\(0<=bj (3:Nat) k/\bj (3:Nat) k<((4:Nat):Int))/\(bj (3:Nat) k).toNat<4/\(8:Int)≠0/\0<=bsh k/\(0<=(k:Int)/\(k:Int)<((32:Nat):Int))/\(k:Int).toNat<32 /\
    (bytesI (lim 4 x.v) (IntKind.i64.wrap ((k:Int)+1),(bytesAt 32 x.v k).set (k:Int).toNat (bget (3:Nat) (lim 4 x.v) k))).triv (k<32)) /\
   (decide ((k:Int)<32)=false->(bytesI (lim 4 x.v) ((k:Int),bytesAt 32 x.v k)).triv (k=32)))) (by kernel_rfl) ?_
  refine⟨fun h=>?_,fun h=>tvi (by have:=dec_ge h;omega)⟩
  have hlt:k<32:=by have:=dec_lt h;omega
  obtain⟨b1,b2,b3⟩:=bget_bd (n:=3) hlt (by omega)
  exact⟨by decide,b1,b2,by decide,b3,⟨by omega,by omega⟩,by omega,tvi hlt⟩
 refine tr_vc hsp mixed _ _ ?_
 refine vcx (X:=((bytesAt 32 x.v 32,()):List Int × Unit)=outBytes (x,())) (by kernel_rfl) ?_
 rw[bytesAt_all]
noncomputable def spBytes:Nat × Eng.Spec:=(60,fnSpec [.fr] [.val (.arr 32 (.int .u8))] (fun _=>True) outBytes)
end Go.Proofs.YtbeeaekepmnfhaaGreatDoor.fr
namespace Go.Proofs.YtbeeaekepmnfhaaGreatDoor.fp
open Go Go.Eng Go.RowKit Cr Go.Proofs.YtbeeaekepmnfhaaGreatDoor
theorem ent_read:enters Tryz.prog 120 Tryz.f120:=ek
abbrev preRead:HL [.sl (.int .u8)]->Prop:=fun (bs,_)=>Bs bs
def rdFp (bs:List Int):Fp × Int:=if bs.length=48 then (if num bs<Mp then (zm (num bs),0) else (0,12)) else (0,10)
abbrev outRead:HL [.sl (.int .u8)]->HO [.val .fp,.val (.int .i64)]:=fun (bs,_)=>((rdFp bs).1,(rdFp bs).2,())
theorem fn_read:FnOk Tryz.prog 120 [.sl (.int .u8)] [.val .fp,.val (.int .i64)] noG preRead outRead:=by
 refine fn_of_vc (sp:=sps [spWords,spModulus,spMinus,spShift,spTimes]) (spk (fok fn_words) (spk (fok fn_modulus) (spk (fok fn_minus) (spk (fok fn_shift) (spk (fok fn_times) snl))))) mixed ent_read (by decide) (by decide) ?_
 rintro w M0 ⟨bs,⟨⟩⟩ _ hb
 have hb:Bs bs:=hb
 refine vcx (X:=(((((bs.length:Int) != 48)=true->(((0:Fp),(10:Int),())=outRead (bs,()))) /\
  (((bs.length:Int) != 48)=false->preWords (bs,())/\True/\pre2 (lim 6 (num bs),ms,()) /\
   ((((if val (lim 6 (num bs))<val ms then (1:Int) else 0)==0)=true->(((0:Fp),(12:Int),())=outRead (bs,()))) /\
    (((if val (lim 6 (num bs))<val ms then (1:Int) else 0)==0)=false->True/\preTimes (enc (R2:Fp),lim 6 (num bs),())/\Canon Mp (lim 6 (val (enc (R2:Fp))*val (lim 6 (num bs))*rinv%M))/\((dec (lim 6 (val (enc (R2:Fp))*val (lim 6 (num bs))*rinv%M)),(0:Int),())=outRead (bs,())))))))) (by kernel_rfl) ?_
 refine⟨fun h=>?_,fun h=>?_⟩
 ·have:¬ bs.length=48:=by intro e;rw[e] at h;exact absurd h (by decide)
  simp[outRead,rdFp,this]
 ·have hl:bs.length=48:=by
   have:¬ ((bs.length:Int)≠48):=by simpa using h
   omega
  have hnb:=num_bd hb
  rw[hl] at hnb
  have hp:p256 48=pw 6:=p256_8 6
  have hv:val (lim 6 (num bs))=num bs:=val_lim_of hnb.1 (by rw[<- hp];exact hnb.2)
  refine⟨⟨hb,by show List.length bs<=48;omega⟩,trivial,⟨lim_ws _ _,ws_ms⟩,fun h=>?_,fun h=>⟨trivial,⟨enc_ws _,lim_ws _ _,(enc_canon _).2.2⟩,?_⟩⟩
  ·rw[hv,val_ms] at h
   have:¬ num bs<Mp:=by intro hh;rw[if_pos hh] at h;exact absurd h (by decide)
   simp[outRead,rdFp,hl,this]
  ·rw[hv,val_ms] at h
   have:num bs<Mp:=Decidable.byContradiction fun hh=>by rw[if_neg hh] at h;exact absurd h (by decide)
   rw[show lim 6 (val (enc (R2:Fp))*val (lim 6 (num bs))*rinv%M)=enc (zm (val (lim 6 (num bs))):Fp) from shift_enc (M:=Mp),hv]
   refine⟨enc_canon _,?_⟩
   rw[dec_enc]
   simp[outRead,rdFp,hl,this]
noncomputable def spRead:Nat × Eng.Spec:=(120,fnSpec [.sl (.int .u8)] [.val .fp,.val (.int .i64)] preRead outRead)
theorem ent_odd:enters Tryz.prog 195 Tryz.f195:=ek
abbrev outOdd:HL [.fp]->HO [.val .bool]:=fun (x,_)=>(decide (Zm.v (x:Fp)%2=1),())
theorem and_one {a:Int} (h0:0<=a) (h1:a<18446744073709551616):bitOp .and .u64 a 1=a%2:=by
 obtain⟨n,rfl⟩:=Int.eq_ofNat_of_zero_le h0
 have:=and_u64 n 1 (by omega) (by omega)
 rw[show ((1:Nat):Int)=1 from rfl] at this
 rw[this,Nat.and_one_is_mod]
 omega
theorem fn_odd:FnOk Tryz.prog 195 [.fp] [.val .bool] noG (fun _=>True) outOdd:=by
 refine fn_of_vc (sp:=sps [spPlain]) (spk (fok fn_plain) snl) mixed ent_odd (by decide) (by decide) ?_
 rintro w M0 ⟨x,⟨⟩⟩ _ _
 refine vcx (X:=(True/\((bitOp .and .u64 ((lim 6 x.v).getD 0 0) 1==1,()):Bool × Unit)=outOdd (x,()))) (by kernel_rfl) ⟨trivial,?_⟩
 rw[show (lim 6 x.v).getD 0 0=x.v%18446744073709551616 from rfl,and_one (by omega) (by omega)]
 have e:x.v%18446744073709551616%2=x.v%2:=by omega
 rw[e]
 simp only[outOdd,Prod.mk.injEq,and_true]
 rw[Bool.eq_iff_iff,beq_iff_eq,decide_eq_true_iff]
noncomputable def spOdd:Nat × Eng.Spec:=(195,fnSpec [.fp] [.val .bool] (fun _=>True) outOdd)
end Go.Proofs.YtbeeaekepmnfhaaGreatDoor.fp
namespace Go.Proofs.YtbeeaekepmnfhaaGreatDoor.fr
open Go Go.Eng Go.RowKit Cr Go.Proofs.YtbeeaekepmnfhaaGreatDoor
theorem ent_wide:enters Tryz.prog 22 Tryz.f22:=ek
noncomputable def wideI (g:List Int × Fr):St:=mkSt Tryz.f22.ntmps 40 [(0,.is (.one (.ro (.int .u8) g.1))),(2,.is (.one (.ptr 0 0))),(3,.is (.one (.ptr 8 0))),(4,.is (.one (.ptr 24 0)))] [(0,[.row .fr 1 [(0:Fr)]]),(8,[.row .fr 1 [g.2]]),(24,[.row .fr 1 [(R2:Fr)]])]
def wn (len:Int):Int:=IntKind.i64.wrap ((IntKind.i64.wrap (len-1)).tmod 32+1)
def wch (bs:List Int):List Int:=List.take (wn bs.length-0).toNat (List.drop (Int.toNat 0) bs)
def wideN (g:List Int × Fr):List Int × Fr:=(List.take ((g.1.length:Int)-wn g.1.length).toNat (List.drop (wn g.1.length).toNat g.1),g.2*R2+dec (lim 4 (val (enc (R2:Fr))*val (lim 4 (num (wch g.1)))*rinv%M)))
def wp (len k:Nat):Nat:=len-32*((len+31)/32-k)
def wideG (bs:List Int) (k:Nat):List Int × Fr:=(bs.drop (wp bs.length k),zm (num (bs.take (wp bs.length k))))
theorem wn_eq {L:Nat} (h0:0<L) (h1:L<4611686018427387904):wn L=(((L-1)%32+1:Nat):Int):=by
 unfold wn
 rw[wrap_i64' (a:=(L:Int)-1) (by omega) (by omega),Int.tmod_eq_emod_of_nonneg (by omega),wrap_i64' (by omega) (by omega)]
 omega
theorem wide_next {bs:List Int} (hb:Bs bs) (hl:bs.length<4611686018427387904) {k:Nat} (hk:k<(bs.length+31)/32) :
  0<bs.length-wp bs.length k/\wideN (wideG bs k)=wideG bs (k+1)/\(wch (bs.drop (wp bs.length k))).length<=32/\1<=(bs.length-wp bs.length k-1)%32+1/\(bs.length-wp bs.length k-1)%32+1<=bs.length-wp bs.length k:=by
 have hL:0<bs.length-wp bs.length k:=by unfold wp;omega
 have hn:(bs.length-wp bs.length k-1)%32+1=wp bs.length (k+1)-wp bs.length k:=by unfold wp;omega
 have hle:wp bs.length (k+1)<=bs.length:=by unfold wp;omega
 have hlt:wp bs.length k<wp bs.length (k+1):=by unfold wp;omega
 have hlen:(bs.drop (wp bs.length k)).length=bs.length-wp bs.length k:=List.length_drop
 have hwn:wn (bs.drop (wp bs.length k)).length=((wp bs.length (k+1)-wp bs.length k:Nat):Int):=by
  rw[wn_eq (by omega) (by omega),hlen,hn]
 have hch:wch (bs.drop (wp bs.length k))=(bs.drop (wp bs.length k)).take (wp bs.length (k+1)-wp bs.length k):=by
  unfold wch
  rw[hwn]
  congr 1
 refine⟨hL,?_,?_,by omega,by omega⟩
 ·unfold wideN wideG
  simp only
  rw[hwn,hch]
  have e1:List.take (((bs.drop (wp bs.length k)).length:Int)-((wp bs.length (k+1)-wp bs.length k:Nat):Int)).toNat (List.drop ((wp bs.length (k+1)-wp bs.length k:Nat):Int).toNat (bs.drop (wp bs.length k)))=bs.drop (wp bs.length (k+1)):=by
   rw[Int.toNat_natCast,List.drop_drop,show wp bs.length k+(wp bs.length (k+1)-wp bs.length k)=wp bs.length (k+1) by omega]
   exact List.take_of_length_le (by simp;omega)
  rw[e1]
  congr 1
  have hcb:Bs ((bs.drop (wp bs.length k)).take (wp bs.length (k+1)-wp bs.length k)):=Bs_take (Bs_drop hb _) _
  have hcl:((bs.drop (wp bs.length k)).take (wp bs.length (k+1)-wp bs.length k)).length=wp bs.length (k+1)-wp bs.length k:=by simp;omega
  have hc32:wp bs.length (k+1)-wp bs.length k<=32:=by omega
  have hnb:=num_bd hcb
  rw[hcl] at hnb
  have hpl:p256 (wp bs.length (k+1)-wp bs.length k)<=pw 4:=by
   rw[<- p256_8,show 8*4=(wp bs.length (k+1)-wp bs.length k)+(32-(wp bs.length (k+1)-wp bs.length k)) by omega,p256_add]
   have h1:=p256_pos (wp bs.length (k+1)-wp bs.length k)
   have h2:=p256_pos (32-(wp bs.length (k+1)-wp bs.length k))
   have:=Int.mul_le_mul_of_nonneg_left (show 1<=p256 (32-(wp bs.length (k+1)-wp bs.length k)) by omega) (Int.le_of_lt h1)
   omega
  rw[show lim 4 (val (enc (R2:Fr))*val (lim 4 (num ((bs.drop (wp bs.length k)).take (wp bs.length (k+1)-wp bs.length k))))*rinv%M)=enc (zm (val (lim 4 (num ((bs.drop (wp bs.length k)).take (wp bs.length (k+1)-wp bs.length k))))):Fr) from shift_enc (M:=Mr),val_lim_of hnb.1 (by omega),dec_enc]
  show zm _*zm (pw 4)+zm _=zm _
  rw[zm_mul,zm_add]
  congr 1
  have hsplit:bs.take (wp bs.length (k+1))=bs.take (wp bs.length k)++(bs.drop (wp bs.length k)).take (wp bs.length (k+1)-wp bs.length k):=by
   rw[<- List.take_add,show wp bs.length k+(wp bs.length (k+1)-wp bs.length k)=wp bs.length (k+1) by omega]
  rw[hsplit,num_append,hcl]
  by_cases h0:wp bs.length k=0
  ·rw[h0];simp[num]
  ·rw[show wp bs.length (k+1)-wp bs.length k=32 by unfold wp at h0 ⊢;omega,<- p256_8]
 ·rw[hch];simp;omega
abbrev preWide:HL [.sl (.int .u8)]->Prop:=fun (bs,_)=>Bs bs/\List.length bs<4611686018427387904
abbrev outWide:HL [.sl (.int .u8)]->HO [.val .fr]:=fun (bs,_)=>((zm (num bs):Fr),())
theorem fn_wide:FnOk Tryz.prog 22 [.sl (.int .u8)] [.val .fr] noG preWide outWide:=by
 have hsp:SpecsOk Tryz.prog (sps [spWords,spMul,spAdd,spShift,spTimes]):=spk (fok fn_words) (spk (fok fn_mul) (spk (fok fn_add) (spk (fok fn_shift) (spk (fok fn_times) snl))))
 refine fn_of_tr (sp:=sps [spWords,spMul,spAdd,spShift,spTimes]) ent_wide (by decide) (by decide) (by kernel_rfl) ?_
 rintro w M0 ⟨bs,⟨⟩⟩ _ ⟨hb,hl⟩
 have hb:Bs bs:=hb
 have hl:bs.length<4611686018427387904:=hl
 show Tr _ _ _ _ _ _ _
 refine tr_cut hsp mixed 3 (wideI (bs,0)) True ?_ (fun _=>?_)
 ·refine vcx (X:=True/\(wideI (bs,0)).triv True) (by kernel_rfl) ⟨trivial,tvi trivial⟩
 have e0:(bs,(0:Fr))=wideG bs 0:=by
  unfold wideG
  rw[show wp bs.length 0=0 by unfold wp;omega]
  rfl
 rw[e0]
 refine tr_count hsp mixed wideI (wideG bs) ((bs.length+31)/32) wideN wideI (c:=nthC (codeOf Tryz.f22) 3) (by kernel_rfl) (by kernel_rfl) (le_of_proj (by kernel_rfl) (by kernel_rfl) trivial)
  (fun k hk=>(wide_next hb hl hk).2.1) ?_ ?_
 ·intro k hk
  have hlen:(wideG bs k).1.length=bs.length-wp bs.length k:=by unfold wideG;simp
  have hbs:Bs (wideG bs k).1:=Bs_drop hb _
  have hnx:k<(bs.length+31)/32->(wch (wideG bs k).1).length<=32:=fun h=>(wide_next hb hl h).2.2.1
  have hb1:k<(bs.length+31)/32->1<=((wideG bs k).1.length-1)%32+1/\((wideG bs k).1.length-1)%32+1<=(wideG bs k).1.length:=fun h=>by rw[hlen];exact (wide_next hb hl h).2.2.2
  have hiff:k<(bs.length+31)/32↔0<(wideG bs k).1.length:=by rw[hlen];unfold wp;omega
  have hll:(wideG bs k).1.length<4611686018427387904:=by omega
  clear hlen
  generalize wideG bs k=g at *
  obtain⟨cs,x⟩:=g
  simp only at hbs hnx hb1 hiff hll
  refine vcx (X:=((decide ((cs.length:Int)>0)=true->(32:Int)≠0/\True/\(0<=wn cs.length/\wn cs.length<=(cs.length:Int))/\preWords (wch cs,())/\preTimes (enc (R2:Fr),lim 4 (num (wch cs)),())/\Canon Mr (lim 4 (val (enc (R2:Fr))*val (lim 4 (num (wch cs)))*rinv%M))/\True/\(0<=wn cs.length/\wn cs.length<=(cs.length:Int))/\(wideI (wideN (cs,x))).triv (k<(bs.length+31)/32)) /\
   (decide ((cs.length:Int)>0)=false->(wideI (cs,x)).triv (k=(bs.length+31)/32)))) (by kernel_rfl) ?_
  refine⟨fun h=>?_,fun h=>tvi ?_⟩
  ·have h0:0<cs.length:=by have:=of_decide_eq_true h;omega
   have hk':=hiff.2 h0
   have h1:=hb1 hk'
   have hw:=wn_eq h0 hll
   have hch:Bs (wch cs):=by unfold wch;exact Bs_take (Bs_drop hbs _) _
   refine⟨by decide,trivial,by rw[hw];omega,⟨hch,hnx hk'⟩,⟨enc_ws _,lim_ws _ _,(enc_canon _).2.2⟩,?_,trivial,by rw[hw];omega,tvi hk'⟩
   rw[show lim 4 (val (enc (R2:Fr))*val (lim 4 (num (wch cs)))*rinv%M)=enc (zm (val (lim 4 (num (wch cs)))):Fr) from shift_enc (M:=Mr)]
   exact enc_canon _
  ·have:=of_decide_eq_false h
   omega
 refine tr_vc hsp mixed _ _ ?_
 refine vcx (X:=((wideG bs ((bs.length+31)/32)).2,())=outWide (bs,())) (by kernel_rfl) ?_
 unfold wideG
 rw[show wp bs.length ((bs.length+31)/32)=bs.length by unfold wp;omega,List.take_length]
noncomputable def spWide:Nat × Eng.Spec:=(22,fnSpec [.sl (.int .u8)] [.val .fr] preWide outWide)
end Go.Proofs.YtbeeaekepmnfhaaGreatDoor.fr
