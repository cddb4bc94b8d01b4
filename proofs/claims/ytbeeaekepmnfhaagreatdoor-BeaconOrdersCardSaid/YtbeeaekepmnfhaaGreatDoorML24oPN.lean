import Derived.Test.YtbeeaekepmnfhaaGreatDoorML24oPM
set_option maxRecDepth 100000
namespace Go.Proofs.YtbeeaekepmnfhaaGreatDoor.fp
open Go Go.Eng Go.RowKit Cr Go.Proofs.YtbeeaekepmnfhaaGreatDoor
theorem qu:enters Tryz.prog 141 Tryz.f141:=ek
noncomputable def ow (t:Nat) (g:Int × Fp):St:=aY Tryz.f141.ntmps 40 [(0,.is (.one (.ptr 0 0))),(1,.is (.one (.ptr 16 0))),(t,sI .i64 g.1)] [(16,[.row .fp 1 [g.2]]),(0,[.row .fp 1 [(0:Fp)]])]
def nH:Nat->Fp
 | 0=>1
 | k+1=>nH k+nH k
def qJ (x:Fp):Nat->Fp
 | 0=>x
 | k+1=>qJ x k*qJ x k
theorem iS:aB Tryz.prog 141 [] [.val .fp] aM (fun _=>True) (fun _=>((R2:Fp),())):=by
 have hsp:aN Tryz.prog (aF [kS,cv,bJ]):=ai (ak nM) (ai (ak cC) (ai (ak b9) aR))
 refine bh (sp:=aF [kS,cv,bJ]) qu (by decide) (by decide) (by kernel_rfl) ?_
 rintro w M0 ⟨⟩ _ _
 show Tr _ _ _ _ _ _ _
 refine aP hsp mixed 3 (ow 3 (0,1)) True ?_ (fun _=>?_)
 ·refine ao (X:=True/\(ow 3 (0,1)).ah True) (by kernel_rfl) ⟨trivial,aA trivial⟩
 refine dB hsp mixed (ow 3) (fun k=>((k:Int),nH k)) 3 (fun g=>(IntKind.i64.wrap (g.1+1),g.2+g.2)) (ow 3) (c:=aI (aJ Tryz.f141) 3) (by kernel_rfl) (by kernel_rfl) (aC (by kernel_rfl) (by kernel_rfl) trivial)
  (fun k hk=>by show (_,_)=(_,_);rw[aQ (by omega)];rfl) ?_ ?_
 ·intro k hk
  refine ao (X:=((decide ((k:Int)<3)=true->True/\(ow 3 (IntKind.i64.wrap ((k:Int)+1),nH k+nH k)).ah (k<3))/\(decide ((k:Int)<3)=false->(ow 3 ((k:Int),nH k)).ah (k=3)))) (by kernel_rfl) ?_
  exact⟨fun h=>⟨trivial,aA (by have:=dec_lt h;omega)⟩,fun h=>aA (by have:=dk h;omega)⟩
 refine aP hsp mixed 1 (ow 9 (0,nH 3)) True ?_ (fun _=>?_)
 ·refine ao (X:=(ow 9 (0,nH 3)).ah True) (by kernel_rfl) (aA trivial)
 refine dB hsp mixed (ow 9) (fun k=>((k:Int),qJ (nH 3) k)) 7 (fun g=>(IntKind.i64.wrap (g.1+1),g.2*g.2)) (ow 9) (c:=aI (aJ Tryz.f141) 5) (by kernel_rfl) (by kernel_rfl) (aC (by kernel_rfl) (by kernel_rfl) trivial)
  (fun k hk=>by show (_,_)=(_,_);rw[aQ (by omega)];rfl) ?_ ?_
 ·intro k hk
  refine ao (X:=((decide ((k:Int)<7)=true->True/\(ow 9 (IntKind.i64.wrap ((k:Int)+1),qJ (nH 3) k*qJ (nH 3) k)).ah (k<7))/\(decide ((k:Int)<7)=false->(ow 9 ((k:Int),qJ (nH 3) k)).ah (k=7)))) (by kernel_rfl) ?_
  exact⟨fun h=>⟨trivial,aA (by have:=dec_lt h;omega)⟩,fun h=>aA (by have:=dk h;omega)⟩
 refine bf hsp mixed _ _ ?_
 refine ao (X:=(qJ (nH 3) 7,())=((R2:Fp),())) (by kernel_rfl) ?_
 rw[show qJ (nH 3) 7=R2 from Zm.ext (by decide)]
noncomputable def iQ:Nat × Eng.Spec:=(141,ar [] [.val .fp] (fun _=>True) (fun _=>((R2:Fp),())))
theorem xO:enters Tryz.prog 95 Tryz.f95:=ek
abbrev ra:HL [.int .u64]->HO [.val .fp]:=fun (n,_)=>((zm n:Fp),())
theorem nL:aB Tryz.prog 95 [.int .u64] [.val .fp] aM (fun (n,_)=>dF n) ra:=by
 refine ax (sp:=aF [iQ,fy]) (ai (ak iS) (ai (ak eF) aR)) mixed xO (by decide) (by decide) ?_
 rintro w M0 ⟨n,⟨⟩⟩ _ hn
 refine ao (X:=(True/\bX (enc (R2:Fp),[n,0,0,0,0,0],())/\Canon Mp (aK 6 (val (enc (R2:Fp))*val [n,0,0,0,0,0]*rinv%M))/\(dec (aK 6 (val (enc (R2:Fp))*val [n,0,0,0,0,0]*rinv%M)),())=ra (n,()))) (by kernel_rfl) ?_
 rw[show aK 6 (val (enc (R2:Fp))*val [n,0,0,0,0,0]*rinv%M)=enc (zm (val [n,0,0,0,0,0]):Fp) from l5 (M:=Mp)]
 refine⟨trivial,⟨ef _,?_,(b7 _).2.2⟩,b7 _,?_⟩
 ·intro x hx
  rcases List.mem_cons.1 hx with rfl|hx
  ·exact hn
  ·simp at hx;subst hx;exact⟨by decide,by decide⟩
 ·rw[dt];simp[val,ra]
noncomputable def ly:Nat × Eng.Spec:=(95,ar [.int .u64] [.val .fp] (fun (n,_)=>dF n) ra)
end Go.Proofs.YtbeeaekepmnfhaaGreatDoor.fp
namespace Go.Proofs.YtbeeaekepmnfhaaGreatDoor.fr
open Go Go.Eng Go.RowKit Cr Go.Proofs.YtbeeaekepmnfhaaGreatDoor
theorem qu:enters Tryz.prog 44 Tryz.f44:=ek
noncomputable def ow (t:Nat) (g:Int × Fr):St:=aY Tryz.f44.ntmps 56 [(0,.is (.one (.ptr 0 0))),(1,.is (.one (.ptr 32 0))),(t,sI .i64 g.1)] [(32,[.row .fr 1 [g.2]]),(0,[.row .fr 1 [(0:Fr)]])]
def qJ (x:Fr):Nat->Fr
 | 0=>x
 | k+1=>qJ x k*qJ x k
theorem iS:aB Tryz.prog 44 [] [.val .fr] aM (fun _=>True) (fun _=>((R2:Fr),())):=by
 have hsp:aN Tryz.prog (aF [kS,cv,bJ]):=ai (ak nM) (ai (ak cC) (ai (ak b9) aR))
 refine bh (sp:=aF [kS,cv,bJ]) qu (by decide) (by decide) (by kernel_rfl) ?_
 rintro w M0 ⟨⟩ _ _
 show Tr _ _ _ _ _ _ _
 refine aP hsp mixed 3 (ow 5 (0,1+1)) True ?_ (fun _=>?_)
 ·refine ao (X:=True/\True/\True/\(ow 5 (0,1+1)).ah True) (by kernel_rfl) ⟨trivial,trivial,trivial,aA trivial⟩
 refine dB hsp mixed (ow 5) (fun k=>((k:Int),qJ (1+1) k)) 8 (fun g=>(IntKind.i64.wrap (g.1+1),g.2*g.2)) (ow 5) (c:=aI (aJ Tryz.f44) 3) (by kernel_rfl) (by kernel_rfl) (aC (by kernel_rfl) (by kernel_rfl) trivial)
  (fun k hk=>by show (_,_)=(_,_);rw[aQ (by omega)];rfl) ?_ ?_
 ·intro k hk
  refine ao (X:=((decide ((k:Int)<8)=true->True/\(ow 5 (IntKind.i64.wrap ((k:Int)+1),qJ (1+1) k*qJ (1+1) k)).ah (k<8))/\(decide ((k:Int)<8)=false->(ow 5 ((k:Int),qJ (1+1) k)).ah (k=8)))) (by kernel_rfl) ?_
  exact⟨fun h=>⟨trivial,aA (by have:=dec_lt h;omega)⟩,fun h=>aA (by have:=dk h;omega)⟩
 refine bf hsp mixed _ _ ?_
 refine ao (X:=(qJ (1+1) 8,())=((R2:Fr),())) (by kernel_rfl) ?_
 rw[show qJ (1+1) 8=R2 from Zm.ext (by decide)]
noncomputable def iQ:Nat × Eng.Spec:=(44,ar [] [.val .fr] (fun _=>True) (fun _=>((R2:Fr),())))
theorem xO:enters Tryz.prog 11 Tryz.f11:=ek
abbrev ra:HL [.int .u64]->HO [.val .fr]:=fun (n,_)=>((zm n:Fr),())
theorem nL:aB Tryz.prog 11 [.int .u64] [.val .fr] aM (fun (n,_)=>dF n) ra:=by
 refine ax (sp:=aF [iQ,fy]) (ai (ak iS) (ai (ak eF) aR)) mixed xO (by decide) (by decide) ?_
 rintro w M0 ⟨n,⟨⟩⟩ _ hn
 refine ao (X:=(True/\bX (enc (R2:Fr),[n,0,0,0],())/\Canon Mr (aK 4 (val (enc (R2:Fr))*val [n,0,0,0]*rinv%M))/\(dec (aK 4 (val (enc (R2:Fr))*val [n,0,0,0]*rinv%M)),())=ra (n,()))) (by kernel_rfl) ?_
 rw[show aK 4 (val (enc (R2:Fr))*val [n,0,0,0]*rinv%M)=enc (zm (val [n,0,0,0]):Fr) from l5 (M:=Mr)]
 refine⟨trivial,⟨ef _,?_,(b7 _).2.2⟩,b7 _,?_⟩
 ·intro x hx
  rcases List.mem_cons.1 hx with rfl|hx
  ·exact hn
  ·simp at hx;subst hx;exact⟨by decide,by decide⟩
 ·rw[dt];simp[val,ra]
noncomputable def ly:Nat × Eng.Spec:=(11,ar [.int .u64] [.val .fr] (fun (n,_)=>dF n) ra)
end Go.Proofs.YtbeeaekepmnfhaaGreatDoor.fr
namespace Cr
def Bs (l:List Int):Prop:=∀ x∈l,0<=x/\x<256
def num (l:List Int):Int:=l.foldl (fun a b=>a*256+b) 0
def a9:Nat->Int
 | 0=>1
 | n+1=>256*a9 n
theorem gw (n:Nat):0<a9 n:=by
 induction n with
 | zero=>decide
 | succ n ih=>simp only[a9];omega
theorem nd (m n:Nat):a9 (m+n)=a9 m*a9 n:=by
 induction m with
 | zero=>simp[a9]
 | succ m ih=>rw[Nat.succ_add];simp only[a9,ih,Int.mul_assoc]
theorem qE (n:Nat):a9 (8*n)=pw n:=by
 induction n with
 | zero=>rfl
 | succ n ih =>
  rw[Nat.mul_succ,Nat.add_comm,nd,ih]
  rfl
theorem so (l:List Int) (b:Int):num (l++[b])=num l*256+b:=by simp[num]
theorem OG (l:List Int):∀ a:Int,l.foldl (fun a b=>a*256+b) a=a*a9 l.length+num l:=by
 induction l with
 | nil=>intro a;simp[num,a9]
 | cons b l ih =>
  intro a
  simp only[List.foldl_cons,List.length_cons,a9,num]
  rw[ih,ih (0*256+b)]
  simp only[Int.add_mul,Int.zero_mul,Int.zero_add]
  rw[show a*256*a9 l.length=a*(256*a9 l.length) from Int.mul_assoc _ _ _]
  omega
theorem wo (l m:List Int):num (l++m)=num l*a9 m.length+num m:=by
 show (l++m).foldl _ 0=_
 rw[List.foldl_append,OG]
 rfl
theorem sn {l:List Int} (h:Bs l):0<=num l/\num l<a9 l.length:=by
 induction l with
 | nil=>simp[num,a9]
 | cons b l ih =>
  have hb:=h b (by simp)
  have hi:=ih (fun x hx=>h x (by simp[hx]))
  have e:num (b::l)=b*a9 l.length+num l:=wo [b] l▸by simp[num]
  rw[e,List.length_cons]
  simp only[a9]
  have hp:=gw l.length
  have h1:=Int.mul_nonneg hb.1 (Int.le_of_lt hp)
  have h2:b*a9 l.length<=255*a9 l.length:=Int.mul_le_mul_of_nonneg_right (by omega) (Int.le_of_lt hp)
  omega
theorem uy {l:List Int} (h:Bs l) (n:Nat):Bs (l.take n):=fun x hx=>h x (List.mem_of_mem_take hx)
theorem rq {l:List Int} (h:Bs l) (n:Nat):Bs (l.drop n):=fun x hx=>h x (List.mem_of_mem_drop hx)
theorem qS {l:List Int} {k:Nat} (h:k<l.length):num (l.take (k+1))=num (l.take k)*256+l.getD k 0:=by
 rw[List.take_succ_eq_append_getElem h,so]
 congr 1
 simp[h]
theorem Ww:∀ (n j:Nat) (A d:Int),j<n->0<=d->(aK n A).getD j 0+d<18446744073709551616 ->
  (aK n A).set j ((aK n A).getD j 0+d)=aK n (A+d*pw j):=by
 intro n
 induction n with
 | zero=>intro j A d h;omega
 | succ n ih =>
  intro j A d hj hd hlt
  cases j with
  | zero =>
   simp only[aK,List.getD_cons_zero,List.set_cons_zero,pw,Int.mul_one] at hlt ⊢
   have h1:(A+d)%18446744073709551616=A%18446744073709551616+d:=by omega
   have h2:(A+d)/18446744073709551616=A/18446744073709551616:=by omega
   rw[h1,h2]
  | succ j =>
   simp only[aK,List.getD_cons_succ,List.set_cons_succ,pw] at hlt ⊢
   rw[ih j _ d (by omega) hd hlt]
   have e:d*(18446744073709551616*pw j)=18446744073709551616*(d*pw j):=by rw[Int.mul_left_comm]
   have h1:(A+18446744073709551616*(d*pw j))%18446744073709551616=A%18446744073709551616:=by omega
   have h2:(A+18446744073709551616*(d*pw j))/18446744073709551616=A/18446744073709551616+d*pw j:=by omega
   rw[e,h1,h2]
theorem rz:∀ (n j:Nat) (A:Int),j<n->(aK n A).getD j 0=A/pw j%18446744073709551616:=by
 intro n
 induction n with
 | zero=>intro j A h;omega
 | succ n ih =>
  intro j A hj
  cases j with
  | zero=>simp[aK,pw]
  | succ j =>
   simp only[aK,List.getD_cons_succ,pw]
   rw[ih j _ (by omega),Int.ediv_ediv_of_nonneg (by decide)]
theorem sC (n:Nat):a9 n=((2^(8*n):Nat):Int):=by
 induction n with
 | zero=>rfl
 | succ n ih=>rw[a9,ih,Nat.mul_succ,Nat.pow_add];simp;omega
theorem En (N:Int) (q:Nat):(N*a9 (q+1))/pw (q/8)%18446744073709551616=N*a9 (q%8+1)%18446744073709551616:=by
 have e:N*a9 (q+1)=N*a9 (q%8+1)*pw (q/8):=by
  rw[<- qE,Int.mul_assoc,<- nd]
  congr 2;omega
 rw[e,Int.mul_ediv_cancel _ (by have:=sK (q/8);omega)]
theorem Ho {m:Nat} (h:m<=8):∃ c:Int,(18446744073709551616:Int)=c*a9 m/\0<c:=by
 refine⟨a9 (8-m),?_,gw _⟩
 rw[<- nd,Nat.sub_add_cancel h];rfl
theorem WK {N v:Int} {q:Nat} (hv0:0<=v) (hv:v<256) (hq:q<8) :
  ∃ c:Nat,N*a9 (q+1)%18446744073709551616=((c*2^(8*(q+1)):Nat):Int)/\v*a9 q<a9 (q+1)/\0<=v*a9 q/\N*a9 (q+1)%18446744073709551616+v*a9 q<18446744073709551616:=by
 obtain⟨c,hc,hc0⟩:=Ho (m:=q+1) (by omega)
 have hp:=gw (q+1)
 have e:N*a9 (q+1)%18446744073709551616=(N%c)*a9 (q+1):=by
  rw[hc,Int.mul_comm N,Int.mul_comm c,Int.mul_emod_mul_of_pos _ _ hp,Int.mul_comm]
 have hn0:=Int.emod_nonneg N (show c≠0 by omega)
 have hn1:=Int.emod_lt_of_pos N hc0
 have hvb:v*a9 q<a9 (q+1):=by
  show _<256*a9 q
  exact Int.mul_lt_mul_of_pos_right hv (gw q)
 have hvn:0<=v*a9 q:=Int.mul_nonneg hv0 (Int.le_of_lt (gw q))
 refine⟨(N%c).toNat,?_,hvb,hvn,?_⟩
 ·rw[e,sC]
  rw[Int.natCast_mul,Int.toNat_of_nonneg hn0]
 ·rw[e,hc]
  have:(N%c)*a9 (q+1)+a9 (q+1)<=c*a9 (q+1):=by
   have:=Int.mul_le_mul_of_nonneg_right (show N%c+1<=c by omega) (Int.le_of_lt hp)
   rw[Int.add_mul,Int.one_mul] at this
   exact this
  omega
def bL (n:Nat) (N:Int):List Int:=(List.range n).map fun i=>N/a9 (n-1-i)%256
theorem cO (n:Nat) (N:Int):(bL n N).length=n:=by simp[bL]
theorem kt (n:Nat) (N:Int):Bs (bL n N):=by
 intro x hx
 simp[bL] at hx
 obtain⟨i,_,rfl⟩:=hx
 omega
theorem wq (n:Nat):∀ N:Int,0<=N->N<a9 n->num (bL n N)=N:=by
 induction n with
 | zero=>intro N h0 h1;simp[a9] at h1;simp[bL,num];omega
 | succ n ih =>
  intro N h0 h1
  have e:bL (n+1) N=bL n (N/256)++[N%256]:=by
   unfold bL
   rw[List.range_succ,List.map_append]
   congr 1
   ·apply List.map_congr_left
    intro i hi
    have hi:=List.mem_range.1 hi
    rw[show n+1-1-i=(n-1-i)+1 by omega]
    rw[show a9 (n-1-i+1)=256*a9 (n-1-i) from rfl,<- Int.ediv_ediv_of_nonneg (by decide)]
   ·simp[a9]
  rw[e,so,ih (N/256) (by omega) (by simp only[a9] at h1;omega)]
  omega
theorem U6 {n:Nat} {N:Int} {i:Nat} (hi:i<8*n):((aK n N).getD (n-1-i/8) 0)/a9 (7-i%8)%256=N/a9 (8*n-1-i)%256:=by
 rw[rz _ _ _ (by omega)]
 obtain⟨c,hc,hc0⟩:=Ho (m:=7-i%8+1) (by omega)
 have e1:a9 (8*n-1-i)=pw (n-1-i/8)*a9 (7-i%8):=by
  rw[<- qE,<- nd];congr 1;omega
 rw[e1,<- Int.ediv_ediv_of_nonneg (Int.le_of_lt (sK _))]
 generalize N/pw (n-1-i/8)=A
 have hp:=gw (7-i%8)
 rw[hc,show a9 (7-i%8+1)=256*a9 (7-i%8) from rfl]
 generalize a9 (7-i%8)=P at *
 have h1:A%(c*(256*P))=A%(P*(256*c)):=by congr 1;rw[Int.mul_comm c,Int.mul_comm 256 P,Int.mul_assoc]
 rw[h1]
 have h2:A%(P*(256*c))/P=(A/P)%(256*c):=by
  rw[Int.emod_def,Int.emod_def,Int.mul_assoc,<- Int.sub_mul_ediv_left _ _ (show P≠0 by omega),<- Int.ediv_ediv_of_nonneg (Int.le_of_lt hp)]
 rw[h2,Int.emod_emod_of_dvd _ ⟨c,rfl⟩]
end Cr
open Go.IntKind(i64 u64 u8)
namespace Go.Eng
open Go Cr
theorem wrap_u8 (a:Int):u8.wrap a=a%256:=by simp[IntKind.wrap,IntKind.signed,IntKind.bits]
theorem nw (a:Int):u64.wrap a=a%18446744073709551616:=by simp[IntKind.wrap,IntKind.signed,IntKind.bits]
def wk (n i:Int):Int:=i64.wrap (i64.wrap (n-1)-i)
def wj (n i:Int):Int:=i64.wrap ((wk n i).tdiv 8)
def LI (n i:Int):Int:=i64.wrap (8*(wk n i).tmod 8)
def Eo (ws:List Int) (n i v:Int):List Int :=
 ws.set (wj n i).toNat (av .or .u64 (ws.getD (wj n i).toNat 0) (u64.wrap (u64.wrap v*2^(min (LI n i).toNat u64.bits))))
theorem UP {len k:Nat} (h:k<len) (hl:len<1000000):wk len k=((len-1-k:Nat):Int):=by
 unfold wk
 rw[aG (a:=(len:Int)-1) (by omega) (by omega),aG (by omega) (by omega)]
 omega
theorem UO {len k:Nat} (h:k<len) (hl:len<1000000):wj len k=(((len-1-k)/8:Nat):Int):=by
 unfold wj
 rw[UP h hl,Int.tdiv_eq_ediv_of_nonneg (by omega),aG (by omega) (by omega)]
 omega
theorem QD {len k:Nat} (h:k<len) (hl:len<1000000):LI len k=((8*((len-1-k)%8):Nat):Int):=by
 unfold LI
 rw[UP h hl,Int.tmod_eq_emod_of_nonneg (by omega),aG (by omega) (by omega)]
 omega
theorem aab (c t y:Nat) (h:y<2^t) (hlt:c*2^t+y<18446744073709551616):av .or .u64 ((c*2^t:Nat):Int) (y:Int)=((c*2^t+y:Nat):Int):=by
 show u64.wrap ((BitVec.ofInt 64 ((c*2^t:Nat):Int) ||| BitVec.ofInt 64 (y:Int):BitVec 64).toNat:Int)=_
 have h1:(BitVec.ofInt 64 ((c*2^t:Nat):Int)).toNat=c*2^t:=by
  rw[show BitVec.ofInt 64 ((c*2^t:Nat):Int)=BitVec.ofNat 64 (c*2^t) from BitVec.ofInt_natCast ..,BitVec.toNat_ofNat,Nat.mod_eq_of_lt (by omega)]
 have h2:(BitVec.ofInt 64 (y:Int)).toNat=y:=by
  rw[show BitVec.ofInt 64 (y:Int)=BitVec.ofNat 64 y from BitVec.ofInt_natCast ..,BitVec.toNat_ofNat,Nat.mod_eq_of_lt (by omega)]
 rw[BitVec.toNat_or,h1,h2]
 have h3:=Nat.shiftLeft_add_eq_or_of_lt h c
 rw[Nat.shiftLeft_eq] at h3
 rw[<- h3,nw]
 omega
theorem LF {n:Nat} {bs:List Int} (hb:Bs bs) (hl:bs.length<=8*n) (hs:bs.length<1000000) {k:Nat} (hk:k<bs.length) :
  Eo (aK n (num (bs.take k)*a9 (bs.length-k))) bs.length k (bs.getD k 0)=aK n (num (bs.take (k+1))*a9 (bs.length-(k+1))):=by
 unfold Eo
 rw[UO hk hs,QD hk hs]
 simp only[Int.toNat_natCast]
 have hv:0<=bs.getD k 0/\bs.getD k 0<256:=by
  have:=hb (bs.getD k 0) (by simp[hk])
  exact this
 rw[qS hk]
 generalize hq:bs.length-1-k=q at *
 generalize bs.getD k 0=v at *
 have hN:=(sn (uy hb k)).1
 have e1:bs.length-k=q+1:=by omega
 have e2:bs.length-(k+1)=q:=by omega
 rw[e1,e2]
 generalize num (bs.take k)=N at *
 have hj:q/8<n:=by omega
 rw[rz _ _ _ hj,En]
 obtain⟨c,h1,h2,h3,h4⟩:=WK (N:=N) (v:=v) (q:=q%8) hv.1 hv.2 (by omega)
 have hsh:u64.wrap (u64.wrap v*2^min (8*(q%8)) u64.bits)=v*a9 (q%8):=by
  rw[show u64.bits=64 from rfl,Nat.min_eq_left (by omega),nw v,Int.emod_eq_of_lt hv.1 (by omega),sC,nw]
  have e:((2^(8*(q%8)):Nat):Int)=(2:Int)^(8*(q%8)):=by simp
  rw[<- e,<- sC]
  exact Int.emod_eq_of_lt h3 (by have:=Int.emod_nonneg (N*a9 (q%8+1)) (show (18446744073709551616:Int)≠0 by decide);omega)
 rw[hsh]
 have hor:av .or .u64 (N*a9 (q%8+1)%18446744073709551616) (v*a9 (q%8))=N*a9 (q%8+1)%18446744073709551616+v*a9 (q%8):=by
  obtain⟨y,hy⟩:=Int.eq_ofNat_of_zero_le h3
  rw[h1,hy] at h4 ⊢
  rw[hy,sC] at h2
  have:=aab c (8*(q%8+1)) y (by omega) (by omega)
  rw[this]
  omega
 rw[hor]
 have hset:=Ww n (q/8) (N*a9 (q+1)) (v*a9 (q%8)) hj h3 (by rw[rz _ _ _ hj,En];exact h4)
 rw[rz _ _ _ hj,En] at hset
 rw[hset]
 congr 1
 rw[Int.add_mul,Int.mul_assoc,Int.mul_assoc,<- qE,<- nd]
 rw[show q%8+8*(q/8)=q by omega]
 rfl
theorem LD {n:Nat} {bs:List Int} (hl:bs.length<=8*n) (hs:bs.length<1000000) {k:Nat} (hk:k<bs.length) :
  (0<=wj bs.length k/\wj bs.length k<(n:Int))/\(wj bs.length k).toNat<n/\0<=LI bs.length k:=by
 rw[UO hk hs,QD hk hs]
 exact⟨⟨by omega,by omega⟩,by omega,by omega⟩
theorem C1 (n:Nat) (bs:List Int):aK n (num (bs.take 0)*a9 (bs.length-0))=List.replicate n 0:=by
 rw[show num (bs.take 0)=0 from rfl,Int.zero_mul,G1]
def bj (n i:Int):Int:=i64.wrap (n-i64.wrap (i.tdiv 8))
def Jz (i:Int):Int:=i64.wrap (56-i64.wrap (8*i.tmod 8))
def Dk (n:Int) (ws:List Int) (i:Int):Int:=u8.wrap (Int.fdiv (ws.getD (bj n i).toNat 0) (2^min (Jz i).toNat u64.bits))
theorem Th {n k:Nat} (h:k<8*(n+1)) (hn:n<1000):bj n k=((n-k/8:Nat):Int):=by
 unfold bj
 rw[Int.tdiv_eq_ediv_of_nonneg (by omega),aG (a:=(k:Int)/8) (by omega) (by omega),aG (by omega) (by omega)]
 omega
theorem NQ {k:Nat}:Jz k=((8*(7-k%8):Nat):Int):=by
 unfold Jz
 rw[Int.tmod_eq_emod_of_nonneg (by omega),aG (a:=8*((k:Int)%8)) (by omega) (by omega),aG (by omega) (by omega)]
 omega
theorem Jy {n k:Nat} {N:Int} (h:k<8*(n+1)) (hn:n<1000):Dk n (aK (n+1) N) k=N/a9 (8*(n+1)-1-k)%256:=by
 unfold Dk
 rw[Th h hn,NQ,wrap_u8]
 simp only[Int.toNat_natCast]
 rw[show u64.bits=64 from rfl,Nat.min_eq_left (by omega)]
 have e:(2:Int)^(8*(7-k%8))=a9 (7-k%8):=by rw[sC];simp
 rw[e,Int.fdiv_eq_ediv_of_nonneg _ (Int.le_of_lt (gw _))]
 have:=U6 (n:=n+1) (N:=N) (i:=k) h
 rw[show n+1-1-k/8=n-k/8 by omega] at this
 exact this
theorem Jx {n k:Nat} (h:k<8*(n+1)) (hn:n<1000):(0<=bj n k/\bj n k<((n+1:Nat):Int))/\(bj n k).toNat<n+1/\0<=Jz k:=by
 rw[Th h hn,NQ]
 exact⟨⟨by omega,by omega⟩,by omega,by omega⟩
def gN (m:Nat) (N:Int) (k:Nat):List Int:=(bL m N).take k++List.replicate (m-k) 0
theorem xB (m:Nat) (N:Int):gN m N 0=List.replicate m 0:=by simp[gN]
theorem Ah (m:Nat) (N:Int):gN m N m=bL m N:=by simp[gN,List.take_of_length_le,cO]
theorem xz {m:Nat} {N:Int} {k:Nat} (h:k<m):(gN m N k).set k (N/a9 (m-1-k)%256)=gN m N (k+1):=by
 unfold gN
 have hl:((bL m N).take k).length=k:=by simp[cO];omega
 rw[List.set_append_right _ _ (by omega),hl,Nat.sub_self]
 rw[show m-k=(m-(k+1))+1 by omega,List.replicate_succ,List.set_cons_zero]
 rw[List.take_succ_eq_append_getElem (by rw[cO];exact h)]
 simp[bL]
end Go.Eng
open Go.IntKind(i64)
namespace Go.Proofs.YtbeeaekepmnfhaaGreatDoor.fp
open Go Go.Eng Go.RowKit Cr Go.Proofs.YtbeeaekepmnfhaaGreatDoor
theorem xU:enters Tryz.prog 170 Tryz.f170:=ek
noncomputable def kp (bs:List Int) (g:Int × List Int):St:=aY Tryz.f170.ntmps 40 [(0,.is (.one (.ro (.int .u8) bs))),(2,.is (.one (.ptr 0 0))),(3,.is (.one (.ptr 8 0))),(7,.is (.one (.ro (.int .u8) bs))),(8,sI .i64 bs.length),(9,sI .i64 g.1)] [(8,[.ints .u64 6 g.2]),(0,[.ints .u64 6 (ub 6)])]
abbrev lW:HL [.sl (.int .u8)]->Prop:=fun (bs,_)=>Bs bs/\List.length bs<=48
abbrev nb:HL [.sl (.int .u8)]->HO [.val (.arr 6 (.int .u64))]:=fun (bs,_)=>(aK 6 (num bs),())
theorem vY:aB Tryz.prog 170 [.sl (.int .u8)] [.val (.arr 6 (.int .u64))] aM lW nb:=by
 refine bh (sp:=aF []) xU (by decide) (by decide) (by kernel_rfl) ?_
 have hsp:aN Tryz.prog (aF []):=aR
 rintro w M0 ⟨bs,⟨⟩⟩ _ ⟨hb,hl⟩
 have hb:Bs bs:=hb
 have hl:List.length bs<=48:=hl
 show Tr _ _ _ _ _ _ _
 refine aP hsp mixed 3 (kp bs (0,List.replicate 6 0)) True ?_ (fun _=>?_)
 ·refine ao (X:=(kp bs (0,List.replicate 6 0)).ah True) (by kernel_rfl) (aA trivial)
 rw[<- C1 6 bs]
 refine dB hsp mixed (kp bs) (fun k=>((k:Int),aK 6 (num (List.take k bs)*a9 (List.length bs-k)))) bs.length (fun g=>(i64.wrap (g.1+1),Eo g.2 bs.length g.1 (bs.getD g.1.toNat 0))) (kp bs) (c:=aI (aJ Tryz.f170) 3) (by kernel_rfl) (by kernel_rfl) (aC (by kernel_rfl) (by kernel_rfl) trivial)
  (fun k hk=>by
   show (_,_)=(_,_)
   rw[aQ (by omega),Int.toNat_natCast,LF hb hl (by omega) hk]) ?_ ?_
 ·intro k hk
  refine ao (X:=((decide ((k:Int)<(bs.length:Int))=true->(0<=(k:Int)/\(k:Int)<(bs.length:Int))/\(k:Int).toNat<bs.length/\(8:Int)≠0/\(0<=wj bs.length k/\wj bs.length k<(6:Int))/\(wj bs.length k).toNat<6/\(8:Int)≠0/\0<=LI bs.length k/\(0<=wj bs.length k/\wj bs.length k<(6:Int))/\(wj bs.length k).toNat<6 /\
    (kp bs (i64.wrap ((k:Int)+1),Eo (aK 6 (num (List.take k bs)*a9 (List.length bs-k))) bs.length k (bs.getD (k:Int).toNat 0))).ah (k<bs.length)) /\
   (decide ((k:Int)<(bs.length:Int))=false->(kp bs ((k:Int),aK 6 (num (List.take k bs)*a9 (List.length bs-k)))).ah (k=bs.length)))) (by kernel_rfl) ?_
  refine⟨fun h=>?_,fun h=>aA (by have:=dk h;omega)⟩
  have hlt:k<bs.length:=by have:=dec_lt h;omega
  obtain⟨b1,b2,b3⟩:=LD (n:=6) hl (by omega) hlt
  exact⟨⟨by omega,by omega⟩,by omega,by decide,b1,b2,by decide,b3,b1,b2,aA hlt⟩
 refine bf hsp mixed _ _ ?_
 refine ao (X:=((aK 6 (num (List.take bs.length bs)*a9 (List.length bs-bs.length)),()):List Int × Unit)=nb (bs,())) (by kernel_rfl) ?_
 rw[List.take_length,Nat.sub_self,a9,Int.mul_one]
noncomputable def rI:Nat × Eng.Spec:=(170,ar [.sl (.int .u8)] [.val (.arr 6 (.int .u64))] lW nb)
theorem Ob:enters Tryz.prog 199 Tryz.f199:=ek
abbrev Bc:HL [.fp]->HO [.val (.arr 6 (.int .u64))]:=fun (x,_)=>(aK 6 (Zm.v (x:Fp)),())
theorem AZ:aB Tryz.prog 199 [.fp] [.val (.arr 6 (.int .u64))] aM (fun _=>True) Bc:=by
 refine ax (sp:=aF [fy]) (ai (ak eF) aR) mixed Ob (by decide) (by decide) ?_
 rintro w M0 ⟨x,⟨⟩⟩ _ _
 refine ao (X:=(bX (enc x,[1,0,0,0,0,0],())/\((aK 6 (val (enc x)*val [1,0,0,0,0,0]*rinv%M),()):List Int × Unit)=Bc (x,()))) (by kernel_rfl) ?_
 refine⟨⟨ef x,by intro y hy;simp at hy;rcases hy with rfl|rfl<;>exact⟨by decide,by decide⟩,(b7 x).2.2⟩,?_⟩
 rw[show aK 6 (val (enc x)*val [1,0,0,0,0,0]*rinv%M)=aK 6 x.v from EO x (by decide)]
noncomputable def zZ:Nat × Eng.Spec:=(199,ar [.fp] [.val (.arr 6 (.int .u64))] (fun _=>True) Bc)
theorem h9:enters Tryz.prog 163 Tryz.f163:=ek
noncomputable def jZ (ws:List Int) (g:Int × List Int):St:=aY Tryz.f163.ntmps 64 [(2,.is (.one (.ptr 8 0))),(3,.is (.one (.ptr 16 0))),(4,.is (.one (.ptr 40 0))),(8,sI .i64 g.1)] [(8,[.ints .u8 48 (ub 48)]),(16,[.ints .u8 48 g.2]),(40,[.ints .u64 6 ws])]
abbrev fD:HL [.fp]->HO [.val (.arr 48 (.int .u8))]:=fun (x,_)=>(bL 48 (Zm.v (x:Fp)),())
theorem gO:aB Tryz.prog 163 [.fp] [.val (.arr 48 (.int .u8))] aM (fun _=>True) fD:=by
 have hsp:aN Tryz.prog (aF [zZ]):=ai (ak AZ) aR
 refine bh (sp:=aF [zZ]) h9 (by decide) (by decide) (by kernel_rfl) ?_
 rintro w M0 ⟨x,⟨⟩⟩ _ _
 show Tr _ _ _ _ _ _ _
 refine aP hsp mixed 4 (jZ (aK 6 x.v) (0,List.replicate 48 0)) True ?_ (fun _=>?_)
 ·refine ao (X:=True/\(jZ (aK 6 x.v) (0,List.replicate 48 0)).ah True) (by kernel_rfl) ⟨trivial,aA trivial⟩
 rw[<- xB 48 x.v]
 refine dB hsp mixed (jZ (aK 6 x.v)) (fun k=>((k:Int),gN 48 x.v k)) 48 (fun g=>(i64.wrap (g.1+1),g.2.set g.1.toNat (Dk (5:Nat) (aK 6 x.v) g.1))) (jZ (aK 6 x.v)) (c:=aI (aJ Tryz.f163) 4) (by kernel_rfl) (by kernel_rfl) (aC (by kernel_rfl) (by kernel_rfl) trivial)
  (fun k hk=>by
   show (_,_)=(_,_)
   rw[aQ (by omega),Int.toNat_natCast,Jy (n:=5) hk (by omega),xz hk]) ?_ ?_
 ·intro k hk
  refine ao (X:=((decide ((k:Int)<48)=true->(8:Int)≠0/\(0<=bj 5 k/\bj 5 k<(6:Int))/\(bj 5 k).toNat<6/\(8:Int)≠0/\0<=Jz k/\(0<=(k:Int)/\(k:Int)<(48:Int))/\(k:Int).toNat<48 /\
    (jZ (aK 6 x.v) (i64.wrap ((k:Int)+1),(gN 48 x.v k).set (k:Int).toNat (Dk (5:Nat) (aK 6 x.v) k))).ah (k<48)) /\
   (decide ((k:Int)<48)=false->(jZ (aK 6 x.v) ((k:Int),gN 48 x.v k)).ah (k=48)))) (by kernel_rfl) ?_
  refine⟨fun h=>?_,fun h=>aA (by have:=dk h;omega)⟩
  have hlt:k<48:=by have:=dec_lt h;omega
  obtain⟨b1,b2,b3⟩:=Jx (n:=5) hlt (by omega)
  exact⟨by decide,b1,b2,by decide,b3,⟨by omega,by omega⟩,by omega,aA hlt⟩
 refine bf hsp mixed _ _ ?_
 refine ao (X:=((gN 48 x.v 48,()):List Int × Unit)=fD (x,())) (by kernel_rfl) ?_
 rw[Ah]
noncomputable def fw:Nat × Eng.Spec:=(163,ar [.fp] [.val (.arr 48 (.int .u8))] (fun _=>True) fD)
end Go.Proofs.YtbeeaekepmnfhaaGreatDoor.fp
namespace Go.Proofs.YtbeeaekepmnfhaaGreatDoor.fr
open Go Go.Eng Go.RowKit Cr Go.Proofs.YtbeeaekepmnfhaaGreatDoor
theorem xU:enters Tryz.prog 57 Tryz.f57:=ek
noncomputable def kp (bs:List Int) (g:Int × List Int):St:=aY Tryz.f57.ntmps 40 [(0,.is (.one (.ro (.int .u8) bs))),(2,.is (.one (.ptr 0 0))),(3,.is (.one (.ptr 8 0))),(7,.is (.one (.ro (.int .u8) bs))),(8,sI .i64 bs.length),(9,sI .i64 g.1)] [(8,[.ints .u64 4 g.2]),(0,[.ints .u64 4 (ub 4)])]
abbrev lW:HL [.sl (.int .u8)]->Prop:=fun (bs,_)=>Bs bs/\List.length bs<=32
abbrev nb:HL [.sl (.int .u8)]->HO [.val (.arr 4 (.int .u64))]:=fun (bs,_)=>(aK 4 (num bs),())
theorem vY:aB Tryz.prog 57 [.sl (.int .u8)] [.val (.arr 4 (.int .u64))] aM lW nb:=by
 refine bh (sp:=aF []) xU (by decide) (by decide) (by kernel_rfl) ?_
 have hsp:aN Tryz.prog (aF []):=aR
 rintro w M0 ⟨bs,⟨⟩⟩ _ ⟨hb,hl⟩
 have hb:Bs bs:=hb
 have hl:List.length bs<=32:=hl
 show Tr _ _ _ _ _ _ _
 refine aP hsp mixed 3 (kp bs (0,List.replicate 4 0)) True ?_ (fun _=>?_)
 ·refine ao (X:=(kp bs (0,List.replicate 4 0)).ah True) (by kernel_rfl) (aA trivial)
 rw[<- C1 4 bs]
 refine dB hsp mixed (kp bs) (fun k=>((k:Int),aK 4 (num (List.take k bs)*a9 (List.length bs-k)))) bs.length (fun g=>(i64.wrap (g.1+1),Eo g.2 bs.length g.1 (bs.getD g.1.toNat 0))) (kp bs) (c:=aI (aJ Tryz.f57) 3) (by kernel_rfl) (by kernel_rfl) (aC (by kernel_rfl) (by kernel_rfl) trivial)
  (fun k hk=>by
   show (_,_)=(_,_)
   rw[aQ (by omega),Int.toNat_natCast,LF hb hl (by omega) hk]) ?_ ?_
 ·intro k hk
  refine ao (X:=((decide ((k:Int)<(bs.length:Int))=true->(0<=(k:Int)/\(k:Int)<(bs.length:Int))/\(k:Int).toNat<bs.length/\(8:Int)≠0/\(0<=wj bs.length k/\wj bs.length k<(4:Int))/\(wj bs.length k).toNat<4/\(8:Int)≠0/\0<=LI bs.length k/\(0<=wj bs.length k/\wj bs.length k<(4:Int))/\(wj bs.length k).toNat<4 /\
    (kp bs (i64.wrap ((k:Int)+1),Eo (aK 4 (num (List.take k bs)*a9 (List.length bs-k))) bs.length k (bs.getD (k:Int).toNat 0))).ah (k<bs.length)) /\
   (decide ((k:Int)<(bs.length:Int))=false->(kp bs ((k:Int),aK 4 (num (List.take k bs)*a9 (List.length bs-k)))).ah (k=bs.length)))) (by kernel_rfl) ?_
  refine⟨fun h=>?_,fun h=>aA (by have:=dk h;omega)⟩
  have hlt:k<bs.length:=by have:=dec_lt h;omega
  obtain⟨b1,b2,b3⟩:=LD (n:=4) hl (by omega) hlt
  exact⟨⟨by omega,by omega⟩,by omega,by decide,b1,b2,by decide,b3,b1,b2,aA hlt⟩
 refine bf hsp mixed _ _ ?_
 refine ao (X:=((aK 4 (num (List.take bs.length bs)*a9 (List.length bs-bs.length)),()):List Int × Unit)=nb (bs,())) (by kernel_rfl) ?_
 rw[List.take_length,Nat.sub_self,a9,Int.mul_one]
noncomputable def rI:Nat × Eng.Spec:=(57,ar [.sl (.int .u8)] [.val (.arr 4 (.int .u64))] lW nb)
theorem h9:enters Tryz.prog 60 Tryz.f60:=ek
noncomputable def jZ (ws:List Int) (g:Int × List Int):St:=aY Tryz.f60.ntmps 80 [(2,.is (.one (.ptr 8 0))),(3,.is (.one (.ptr 16 0))),(4,.is (.one (.ptr 56 0))),(10,sI .i64 g.1)] [(8,[.ints .u8 32 (ub 32)]),(16,[.ints .u8 32 g.2]),(56,[.ints .u64 4 ws])]
abbrev fD:HL [.fr]->HO [.val (.arr 32 (.int .u8))]:=fun (x,_)=>(bL 32 (Zm.v (x:Fr)),())
theorem gO:aB Tryz.prog 60 [.fr] [.val (.arr 32 (.int .u8))] aM (fun _=>True) fD:=by
 have hsp:aN Tryz.prog (aF [fy]):=ai (ak eF) aR
 refine bh (sp:=aF [fy]) h9 (by decide) (by decide) (by kernel_rfl) ?_
 rintro w M0 ⟨x,⟨⟩⟩ _ _
 show Tr _ _ _ _ _ _ _
 refine aP hsp mixed 4 (jZ (aK 4 (val (enc x)*val [1,0,0,0]*rinv%M)) (0,List.replicate 32 0)) True ?_ (fun _=>?_)
 ·refine ao (X:=bX (enc x,[1,0,0,0],())/\(jZ (aK 4 (val (enc x)*val [1,0,0,0]*rinv%M)) (0,List.replicate 32 0)).ah True) (by kernel_rfl) ⟨⟨ef x,by intro y hy;simp at hy;rcases hy with rfl|rfl<;>exact⟨by decide,by decide⟩,(b7 x).2.2⟩,aA trivial⟩
 rw[show aK 4 (val (enc x)*val [1,0,0,0]*rinv%M)=aK 4 x.v from EO x (by decide)]
 rw[<- xB 32 x.v]
 refine dB hsp mixed (jZ (aK 4 x.v)) (fun k=>((k:Int),gN 32 x.v k)) 32 (fun g=>(i64.wrap (g.1+1),g.2.set g.1.toNat (Dk (3:Nat) (aK 4 x.v) g.1))) (jZ (aK 4 x.v)) (c:=aI (aJ Tryz.f60) 4) (by kernel_rfl) (by kernel_rfl) (aC (by kernel_rfl) (by kernel_rfl) trivial)
  (fun k hk=>by
   show (_,_)=(_,_)
   rw[aQ (by omega),Int.toNat_natCast,Jy (n:=3) hk (by omega),xz hk]) ?_ ?_
 ·intro k hk
  refine ao (X:=((decide ((k:Int)<32)=true->(8:Int)≠0/\(0<=bj 3 k/\bj 3 k<(4:Int))/\(bj 3 k).toNat<4/\(8:Int)≠0/\0<=Jz k/\(0<=(k:Int)/\(k:Int)<(32:Int))/\(k:Int).toNat<32 /\
    (jZ (aK 4 x.v) (i64.wrap ((k:Int)+1),(gN 32 x.v k).set (k:Int).toNat (Dk (3:Nat) (aK 4 x.v) k))).ah (k<32)) /\
   (decide ((k:Int)<32)=false->(jZ (aK 4 x.v) ((k:Int),gN 32 x.v k)).ah (k=32)))) (by kernel_rfl) ?_
  refine⟨fun h=>?_,fun h=>aA (by have:=dk h;omega)⟩
  have hlt:k<32:=by have:=dec_lt h;omega
  obtain⟨b1,b2,b3⟩:=Jx (n:=3) hlt (by omega)
  exact⟨by decide,b1,b2,by decide,b3,⟨by omega,by omega⟩,by omega,aA hlt⟩
 refine bf hsp mixed _ _ ?_
 refine ao (X:=((gN 32 x.v 32,()):List Int × Unit)=fD (x,())) (by kernel_rfl) ?_
 rw[Ah]
noncomputable def fw:Nat × Eng.Spec:=(60,ar [.fr] [.val (.arr 32 (.int .u8))] (fun _=>True) fD)
end Go.Proofs.YtbeeaekepmnfhaaGreatDoor.fr
namespace Go.Proofs.YtbeeaekepmnfhaaGreatDoor.fp
open Go Go.Eng Go.RowKit Cr Go.Proofs.YtbeeaekepmnfhaaGreatDoor
theorem AS:enters Tryz.prog 120 Tryz.f120:=ek
abbrev iO:HL [.sl (.int .u8)]->Prop:=fun (bs,_)=>Bs bs
def eM (bs:List Int):Fp × Int:=if bs.length=48 then (if num bs<Mp then (zm (num bs),0) else (0,12)) else (0,10)
abbrev gP:HL [.sl (.int .u8)]->HO [.val .fp,.val (.int .i64)]:=fun (bs,_)=>((eM bs).1,(eM bs).2,())
theorem u7:aB Tryz.prog 120 [.sl (.int .u8)] [.val .fp,.val (.int .i64)] aM iO gP:=by
 refine ax (sp:=aF [rI,nu,pW,iQ,fy]) (ai (ak vY) (ai (ak md) (ai (ak mZ) (ai (ak iS) (ai (ak eF) aR))))) mixed AS (by decide) (by decide) ?_
 rintro w M0 ⟨bs,⟨⟩⟩ _ hb
 have hb:Bs bs:=hb
 refine ao (X:=(((((bs.length:Int) != 48)=true->(((0:Fp),(10:Int),())=gP (bs,()))) /\
  (((bs.length:Int) != 48)=false->lW (bs,())/\True/\lT (aK 6 (num bs),ms,()) /\
   ((((if val (aK 6 (num bs))<val ms then (1:Int) else 0)==0)=true->(((0:Fp),(12:Int),())=gP (bs,()))) /\
    (((if val (aK 6 (num bs))<val ms then (1:Int) else 0)==0)=false->True/\bX (enc (R2:Fp),aK 6 (num bs),())/\Canon Mp (aK 6 (val (enc (R2:Fp))*val (aK 6 (num bs))*rinv%M))/\((dec (aK 6 (val (enc (R2:Fp))*val (aK 6 (num bs))*rinv%M)),(0:Int),())=gP (bs,())))))))) (by kernel_rfl) ?_
 refine⟨fun h=>?_,fun h=>?_⟩
 ·have:¬ bs.length=48:=by intro e;rw[e] at h;exact absurd h (by decide)
  simp[gP,eM,this]
 ·have hl:bs.length=48:=by
   have:¬ ((bs.length:Int)≠48):=by simpa using h
   omega
  have hnb:=sn hb
  rw[hl] at hnb
  have hp:a9 48=pw 6:=qE 6
  have hv:val (aK 6 (num bs))=num bs:=o5 hnb.1 (by rw[<- hp];exact hnb.2)
  refine⟨⟨hb,by show List.length bs<=48;omega⟩,trivial,⟨iB _ _,mW⟩,fun h=>?_,fun h=>⟨trivial,⟨ef _,iB _ _,(b7 _).2.2⟩,?_⟩⟩
  ·rw[hv,fM] at h
   have:¬ num bs<Mp:=by intro hh;rw[if_pos hh] at h;exact absurd h (by decide)
   simp[gP,eM,hl,this]
  ·rw[hv,fM] at h
   have:num bs<Mp:=Decidable.byContradiction fun hh=>by rw[if_neg hh] at h;exact absurd h (by decide)
   rw[show aK 6 (val (enc (R2:Fp))*val (aK 6 (num bs))*rinv%M)=enc (zm (val (aK 6 (num bs))):Fp) from l5 (M:=Mp),hv]
   refine⟨b7 _,?_⟩
   rw[dt]
   simp[gP,eM,hl,this]
noncomputable def sW:Nat × Eng.Spec:=(120,ar [.sl (.int .u8)] [.val .fp,.val (.int .i64)] iO gP)
theorem Du:enters Tryz.prog 195 Tryz.f195:=ek
abbrev mH:HL [.fp]->HO [.val .bool]:=fun (x,_)=>(decide (Zm.v (x:Fp)%2=1),())
theorem Da {a:Int} (h0:0<=a) (h1:a<18446744073709551616):av .and .u64 a 1=a%2:=by
 obtain⟨n,rfl⟩:=Int.eq_ofNat_of_zero_le h0
 have:=Jq n 1 (by omega) (by omega)
 rw[show ((1:Nat):Int)=1 from rfl] at this
 rw[this,Nat.and_one_is_mod]
 omega
theorem Gs:aB Tryz.prog 195 [.fp] [.val .bool] aM (fun _=>True) mH:=by
 refine ax (sp:=aF [zZ]) (ai (ak AZ) aR) mixed Du (by decide) (by decide) ?_
 rintro w M0 ⟨x,⟨⟩⟩ _ _
 refine ao (X:=(True/\((av .and .u64 ((aK 6 x.v).getD 0 0) 1==1,()):Bool × Unit)=mH (x,()))) (by kernel_rfl) ⟨trivial,?_⟩
 rw[show (aK 6 x.v).getD 0 0=x.v%18446744073709551616 from rfl,Da (by omega) (by omega)]
 have e:x.v%18446744073709551616%2=x.v%2:=by omega
 rw[e]
 simp only[mH,Prod.mk.injEq,and_true]
 rw[Bool.eq_iff_iff,beq_iff_eq,decide_eq_true_iff]
noncomputable def ac9:Nat × Eng.Spec:=(195,ar [.fp] [.val .bool] (fun _=>True) mH)
theorem E8 (x:Fp):val (aK 6 x.v)=x.v:=o5 x.nn (by have:=x.lt;have:Mp<pw 6:=(by decide);omega)
theorem xL:enters Tryz.prog 165 Tryz.f165:=ek
abbrev kP:HL [.fp]->HO [.val .bool]:=fun (x,_)=>(decide (Zm.v (-(x:Fp))<Zm.v (x:Fp)),())
theorem vX:aB Tryz.prog 165 [.fp] [.val .bool] aM (fun _=>True) kP:=by
 refine ax (sp:=aF [zZ,jb,pW]) (ai (ak AZ) (ai (ak iA) (ai (ak mZ) aR))) mixed xL (by decide) (by decide) ?_
 rintro w M0 ⟨x,⟨⟩⟩ _ _
 refine ao (X:=(True/\True/\True/\lT (aK 6 (-x).v,aK 6 x.v,())/\(((if val (aK 6 (-x).v)<val (aK 6 x.v) then (1:Int) else 0)==1,()):Bool × Unit)=kP (x,()))) (by kernel_rfl) ⟨trivial,trivial,trivial,⟨iB _ _,iB _ _⟩,?_⟩
 rw[E8,E8]
 simp only[kP,Prod.mk.injEq,and_true]
 by_cases h:(-x).v<x.v
 ·simp[h]
 ·simp[h]
noncomputable def vy:Nat × Eng.Spec:=(165,ar [.fp] [.val .bool] (fun _=>True) kP)
end Go.Proofs.YtbeeaekepmnfhaaGreatDoor.fp
namespace Go.Proofs.YtbeeaekepmnfhaaGreatDoor.fr
open Go Go.Eng Go.RowKit Cr Go.Proofs.YtbeeaekepmnfhaaGreatDoor
theorem AU:enters Tryz.prog 22 Tryz.f22:=ek
noncomputable def mw (g:List Int × Fr):St:=aY Tryz.f22.ntmps 40 [(0,.is (.one (.ro (.int .u8) g.1))),(2,.is (.one (.ptr 0 0))),(3,.is (.one (.ptr 8 0))),(4,.is (.one (.ptr 24 0)))] [(0,[.row .fr 1 [(0:Fr)]]),(8,[.row .fr 1 [g.2]]),(24,[.row .fr 1 [(R2:Fr)]])]
def wn (len:Int):Int:=IntKind.i64.wrap ((IntKind.i64.wrap (len-1)).tmod 32+1)
def ld (bs:List Int):List Int:=List.take (wn bs.length-0).toNat (List.drop (Int.toNat 0) bs)
def rl (g:List Int × Fr):List Int × Fr:=(List.take ((g.1.length:Int)-wn g.1.length).toNat (List.drop (wn g.1.length).toNat g.1),g.2*R2+dec (aK 4 (val (enc (R2:Fr))*val (aK 4 (num (ld g.1)))*rinv%M)))
def wp (len k:Nat):Nat:=len-32*((len+31)/32-k)
def dp (bs:List Int) (k:Nat):List Int × Fr:=(bs.drop (wp bs.length k),zm (num (bs.take (wp bs.length k))))
theorem C0 {L:Nat} (h0:0<L) (h1:L<4611686018427387904):wn L=(((L-1)%32+1:Nat):Int):=by
 unfold wn
 rw[aG (a:=(L:Int)-1) (by omega) (by omega),Int.tmod_eq_emod_of_nonneg (by omega),aG (by omega) (by omega)]
 omega
theorem l9 {bs:List Int} (hb:Bs bs) (hl:bs.length<4611686018427387904) {k:Nat} (hk:k<(bs.length+31)/32) :
  0<bs.length-wp bs.length k/\rl (dp bs k)=dp bs (k+1)/\(ld (bs.drop (wp bs.length k))).length<=32/\1<=(bs.length-wp bs.length k-1)%32+1/\(bs.length-wp bs.length k-1)%32+1<=bs.length-wp bs.length k:=by
 have hL:0<bs.length-wp bs.length k:=by unfold wp;omega
 have hn:(bs.length-wp bs.length k-1)%32+1=wp bs.length (k+1)-wp bs.length k:=by unfold wp;omega
 have hle:wp bs.length (k+1)<=bs.length:=by unfold wp;omega
 have hlt:wp bs.length k<wp bs.length (k+1):=by unfold wp;omega
 have hlen:(bs.drop (wp bs.length k)).length=bs.length-wp bs.length k:=List.length_drop
 have hwn:wn (bs.drop (wp bs.length k)).length=((wp bs.length (k+1)-wp bs.length k:Nat):Int):=by
  rw[C0 (by omega) (by omega),hlen,hn]
 have hch:ld (bs.drop (wp bs.length k))=(bs.drop (wp bs.length k)).take (wp bs.length (k+1)-wp bs.length k):=by
  unfold ld
  rw[hwn]
  congr 1
 refine⟨hL,?_,?_,by omega,by omega⟩
 ·unfold rl dp
  simp only
  rw[hwn,hch]
  have e1:List.take (((bs.drop (wp bs.length k)).length:Int)-((wp bs.length (k+1)-wp bs.length k:Nat):Int)).toNat (List.drop ((wp bs.length (k+1)-wp bs.length k:Nat):Int).toNat (bs.drop (wp bs.length k)))=bs.drop (wp bs.length (k+1)):=by
   rw[Int.toNat_natCast,List.drop_drop,show wp bs.length k+(wp bs.length (k+1)-wp bs.length k)=wp bs.length (k+1) by omega]
   exact List.take_of_length_le (by simp;omega)
  rw[e1]
  congr 1
  have hcb:Bs ((bs.drop (wp bs.length k)).take (wp bs.length (k+1)-wp bs.length k)):=uy (rq hb _) _
  have hcl:((bs.drop (wp bs.length k)).take (wp bs.length (k+1)-wp bs.length k)).length=wp bs.length (k+1)-wp bs.length k:=by simp;omega
  have hc32:wp bs.length (k+1)-wp bs.length k<=32:=by omega
  have hnb:=sn hcb
  rw[hcl] at hnb
  have hpl:a9 (wp bs.length (k+1)-wp bs.length k)<=pw 4:=by
   rw[<- qE,show 8*4=(wp bs.length (k+1)-wp bs.length k)+(32-(wp bs.length (k+1)-wp bs.length k)) by omega,nd]
   have h1:=gw (wp bs.length (k+1)-wp bs.length k)
   have h2:=gw (32-(wp bs.length (k+1)-wp bs.length k))
   have:=Int.mul_le_mul_of_nonneg_left (show 1<=a9 (32-(wp bs.length (k+1)-wp bs.length k)) by omega) (Int.le_of_lt h1)
   omega
  rw[show aK 4 (val (enc (R2:Fr))*val (aK 4 (num ((bs.drop (wp bs.length k)).take (wp bs.length (k+1)-wp bs.length k))))*rinv%M)=enc (zm (val (aK 4 (num ((bs.drop (wp bs.length k)).take (wp bs.length (k+1)-wp bs.length k))))):Fr) from l5 (M:=Mr),o5 hnb.1 (by omega),dt]
  show zm _*zm (pw 4)+zm _=zm _
  rw[mN,o7]
  congr 1
  have hsplit:bs.take (wp bs.length (k+1))=bs.take (wp bs.length k)++(bs.drop (wp bs.length k)).take (wp bs.length (k+1)-wp bs.length k):=by
   rw[<- List.take_add,show wp bs.length k+(wp bs.length (k+1)-wp bs.length k)=wp bs.length (k+1) by omega]
  rw[hsplit,wo,hcl]
  by_cases h0:wp bs.length k=0
  ·rw[h0];simp[num]
  ·rw[show wp bs.length (k+1)-wp bs.length k=32 by unfold wp at h0 ⊢;omega,<- qE]
 ·rw[hch];simp;omega
abbrev mo:HL [.sl (.int .u8)]->Prop:=fun (bs,_)=>Bs bs/\List.length bs<4611686018427387904
abbrev pM:HL [.sl (.int .u8)]->HO [.val .fr]:=fun (bs,_)=>((zm (num bs):Fr),())
theorem DC:aB Tryz.prog 22 [.sl (.int .u8)] [.val .fr] aM mo pM:=by
 have hsp:aN Tryz.prog (aF [rI,cK,cv,iQ,fy]):=ai (ak vY) (ai (ak cL) (ai (ak cC) (ai (ak iS) (ai (ak eF) aR))))
 refine bh (sp:=aF [rI,cK,cv,iQ,fy]) AU (by decide) (by decide) (by kernel_rfl) ?_
 rintro w M0 ⟨bs,⟨⟩⟩ _ ⟨hb,hl⟩
 have hb:Bs bs:=hb
 have hl:bs.length<4611686018427387904:=hl
 show Tr _ _ _ _ _ _ _
 refine aP hsp mixed 3 (mw (bs,0)) True ?_ (fun _=>?_)
 ·refine ao (X:=True/\(mw (bs,0)).ah True) (by kernel_rfl) ⟨trivial,aA trivial⟩
 have e0:(bs,(0:Fr))=dp bs 0:=by
  unfold dp
  rw[show wp bs.length 0=0 by unfold wp;omega]
  rfl
 rw[e0]
 refine dB hsp mixed mw (dp bs) ((bs.length+31)/32) rl mw (c:=aI (aJ Tryz.f22) 3) (by kernel_rfl) (by kernel_rfl) (aC (by kernel_rfl) (by kernel_rfl) trivial)
  (fun k hk=>(l9 hb hl hk).2.1) ?_ ?_
 ·intro k hk
  have hlen:(dp bs k).1.length=bs.length-wp bs.length k:=by unfold dp;simp
  have hbs:Bs (dp bs k).1:=rq hb _
  have hnx:k<(bs.length+31)/32->(ld (dp bs k).1).length<=32:=fun h=>(l9 hb hl h).2.2.1
  have hb1:k<(bs.length+31)/32->1<=((dp bs k).1.length-1)%32+1/\((dp bs k).1.length-1)%32+1<=(dp bs k).1.length:=fun h=>by rw[hlen];exact (l9 hb hl h).2.2.2
  have hiff:k<(bs.length+31)/32↔0<(dp bs k).1.length:=by rw[hlen];unfold wp;omega
  have hll:(dp bs k).1.length<4611686018427387904:=by omega
  clear hlen
  generalize dp bs k=g at *
  obtain⟨cs,x⟩:=g
  simp only at hbs hnx hb1 hiff hll
  refine ao (X:=((decide ((cs.length:Int)>0)=true->(32:Int)≠0/\True/\(0<=wn cs.length/\wn cs.length<=(cs.length:Int))/\lW (ld cs,())/\bX (enc (R2:Fr),aK 4 (num (ld cs)),())/\Canon Mr (aK 4 (val (enc (R2:Fr))*val (aK 4 (num (ld cs)))*rinv%M))/\True/\(0<=wn cs.length/\wn cs.length<=(cs.length:Int))/\(mw (rl (cs,x))).ah (k<(bs.length+31)/32)) /\
   (decide ((cs.length:Int)>0)=false->(mw (cs,x)).ah (k=(bs.length+31)/32)))) (by kernel_rfl) ?_
  refine⟨fun h=>?_,fun h=>aA ?_⟩
  ·have h0:0<cs.length:=by have:=Odt h;omega
   have hk':=hiff.2 h0
   have h1:=hb1 hk'
   have hw:=C0 h0 hll
   have hch:Bs (ld cs):=by unfold ld;exact uy (rq hbs _) _
   refine⟨by decide,trivial,by rw[hw];omega,⟨hch,hnx hk'⟩,⟨ef _,iB _ _,(b7 _).2.2⟩,?_,trivial,by rw[hw];omega,aA hk'⟩
   rw[show aK 4 (val (enc (R2:Fr))*val (aK 4 (num (ld cs)))*rinv%M)=enc (zm (val (aK 4 (num (ld cs)))):Fr) from l5 (M:=Mr)]
   exact b7 _
  ·have:=Odf h
   omega
 refine bf hsp mixed _ _ ?_
 refine ao (X:=((dp bs ((bs.length+31)/32)).2,())=pM (bs,())) (by kernel_rfl) ?_
 unfold dp
 rw[show wp bs.length ((bs.length+31)/32)=bs.length by unfold wp;omega,List.take_length]
noncomputable def yS:Nat × Eng.Spec:=(22,ar [.sl (.int .u8)] [.val .fr] mo pM)
end Go.Proofs.YtbeeaekepmnfhaaGreatDoor.fr
